import Derived.Test.YtbebkmajekhclaaGreatPuX1
namespace Go.Pu
open Go.Dn
open Int (tdiv tmod)
set_option linter.unusedSimpArgs false
set_option linter.unusedVariables false
noncomputable section
variable {s t x:Bytes} {h:Host} {b c d:Int} {a i k n o:Nat} {g:Nat->Host->Host} {p:aK} {q:cA} {R:Type} {l:ax aH} {m:bP} {f:bP×cA} {r:kY}
/- Templates and their checksums: the program's and the reference's results are one. -/
theorem ku {y:Bytes}(h:i<x.length):bO (x++y) i=bO x i:=by unfold bO;rw[bG,bG,bF h]
theorem wm {y:Bytes}(h:x.length<=i):bO (x++y) i=bO y (i-x.length):=by unfold bO;rw[bG,bG,bA h]
theorem WS (h:i<n):bO (x.take n) i=bO x i:=by unfold bO;rw[bG,bG,eM h]
theorem mZ:bO (x.drop n) i=bO x (n+i):=by unfold bO;rw[bG,bG,bQ]
theorem VW {p:Bytes}(h:i<a\/a+p.length<=i:=by omega):bO (xK s (a:Int) p) i=bO s i:=by
 unfold xK fi;by_cases hw:(0:Int)<=a/\(a:Int)+(p.length:Int)<=(s.length:Int)
 rw[ar hw,ah,aw];have ht:(s.take a).length=a:=by rw[aV];omega
 rcases h with h|h;rw[ku (by rw[ai];omega),ku (by omega),WS h];rw[wm (by rw[ai];omega),mZ,ai,ht];congr 1;omega;rw[aq hw];rfl
theorem aeg {p:Bytes}{j:Nat}(hw:a+p.length<=s.length)(hj:j<p.length:=by omega):bO (xK s (a:Int) p) (a+j)=bO p j:=by
 unfold xK fi;rw[ar ⟨by omega,by omega⟩,ah,aw];have ht:(s.take a).length=a:=by rw[aV];omega
 rw[ku (by rw[ai];omega),wm (by omega),ht];congr 1;omega
theorem wx:cp s (a:Int)=bif decide (a+2<=s.length) then((bO s a*256+bO s (a+1):Nat):Int) else-1:=by unfold cp fi;rw[aw,show decide ((0:Int)<=a/\(a:Int)+2<=(s.length:Int))=decide (a+2<=s.length) from decide_eq_decide.2 (by omega)]
theorem Gf (hl:s.length=t.length)(h0:bO s a=bO t a)(h1:bO s (a+1)=bO t (a+1)):cp s (a:Int)=cp t (a:Int):=by rw[wx,wx,hl,h0,h1]
theorem Py:cp (s.drop k) (a:Int)=cp s ((k+a:Nat):Int):=by rw[wx,wx,mZ,mZ,aJ,show k+(a+1)=k+a+1 by omega,show decide (a+2<=s.length-k)=decide (k+a+2<=s.length) from decide_eq_decide.2 (by omega)]
theorem Ho:dU s (a:Int)=bif decide (a+4<=s.length) then(((bO s a*256+bO s (a+1))*65536+(bO s (a+2)*256+bO s (a+3)):Nat):Int) else-1:=by unfold dU fi;rw[aw,show decide ((0:Int)<=a/\(a:Int)+4<=(s.length:Int))=decide (a+4<=s.length) from decide_eq_decide.2 (by omega)]
theorem Pz:dU (s.drop k) (a:Int)=dU s ((k+a:Nat):Int):=by rw[Ho,Ho,mZ,mZ,mZ,mZ,aJ,show k+(a+1)=k+a+1 by omega,show k+(a+2)=k+a+2 by omega,show k+(a+3)=k+a+3 by omega,show decide (a+4<=s.length-k)=decide (k+a+4<=s.length) from decide_eq_decide.2 (by omega)]
theorem Xu (hl:s.length=t.length)(h:∀j,j<4->bO s (a+j)=bO t (a+j)):dU s (a:Int)=dU t (a:Int):=by rw[Ho,Ho,hl,show bO s a=bO t a from h 0 (by omega),h 1 (by omega),h 2 (by omega),h 3 (by omega)]
def dR (s:Bytes):Nat:=bif cp s 12==33024 then 18 else 14
def lN (s:Bytes):Nat:=bO s (dR s+9)
def Q2 (k:Nat):Nat:=bif (k:Int)==6 then 16 else 6
def DS (s:Bytes):Nat:=dR s+10
def BE (s:Bytes):Nat:=dR s+20+Q2 (lN s)
theorem KY (k:Nat):Q2 k=16/\k=6\/Q2 k=6/\k≠6:=by unfold Q2;by_cases h:k=6;subst h;exact .inl ⟨rfl,rfl⟩;exact .inr ⟨by rw[show((k:Int)==6)=false from by rw[cv];omega];rfl,h⟩
theorem OS (s:Bytes):dR s=18/\(cp s 12==33024)=true\/dR s=14/\(cp s 12==33024)=false:=by unfold dR;cases cp s 12==33024 with|true=>exact .inl ⟨rfl,rfl⟩|false=>exact .inr ⟨rfl,rfl⟩
theorem LM (k:Nat)(h:k<256):gi (k:Int)=some (Q2 k:Int):=by unfold gi Q2;cases (k:Int)==6<;>rfl
theorem Kf (s:Bytes)(h:s.length<=10^9):sM s=some ((DS s:Int),(BE s:Int)):=by
 unfold sM;rw[yx s 12 h,ab];have hk:=eO s (dR s+9)
 have core:∀o:Nat,dR s=o->(o=18\/o=14)->(bif decide (au ((o:Int)+9)<(s.length:Int)) then
  aa (idx s (au ((o:Int)+9))) λx2=>aa (gi (au ((UInt8.toNat x2:Int)))) λr3=>some (au ((o:Int)+10),au ((au ((o:Int)+20))+r3))
  else aa (gi 0) λr4=>some (au ((o:Int)+10),au ((au ((o:Int)+20))+r4)))=some ((DS s:Int),(BE s:Int)):=by
  intro o ho h2
  have hs:=KY (lN s)
  rw[ak (n:=(o:Int)+9),ak (n:=(o:Int)+10),ak (n:=(o:Int)+20)]
  unfold DS BE
  rw[ho]
  by_cases hl:o+9<s.length
  ·obtain⟨x,hx,ex⟩:=ni hl
   rw[jI,ah,show(o:Int)+9=((o+9:Nat):Int) by omega,hx,ab,ex,iV (by rw[<-ho];omega),LM _ (by rw[<-ho];exact hk),ab,show bO s (o+9)=lN s by unfold lN;rw[ho],ak]
   congr 1
  ·have hz:lN s=0:=by unfold lN;rw[ho];exact IH
   have h0:gi 0=some (Q2 0:Int):=LM 0 (by omega)
   rw[cC,af,h0,ab,<-hz,ak]
   congr 1
 rcases OS s with⟨h1,h2⟩|⟨h1,h2⟩;rw[h2,ah];exact core 18 h1 (.inl rfl);rw[h2,af];exact core 14 h1 (.inr rfl)
theorem ad3 {a:Int}(h:db a 0 281474976710655=true):(Ii a).length=6:=by
 have ha:=aS.1 h;have e:Ii a=aW (Int.fdiv a (2^(nZ 32)))++dh (au (BitVec.toNat (ir a&&&ir 4294967295))):=by unfold Ii iT;rw[nU];simp only[nQ,mA,ab];have h1:=bT (Int.fdiv a (2^(nZ 32)));have h2:=dS (au (BitVec.toNat (ir a&&&ir 4294967295)));rw[aR];rfl
 have e2:(2:Int)^(nZ 32)=4294967296:=rfl;rw[e,ai,Fm,Jm,ao7,e2];rw[show db (Int.fdiv a 4294967296) 0 65535=true from aS.2 (by rw[Int.fdiv_eq_ediv_of_nonneg _ (by omega)];omega),show db (a%4294967296) 0 4294967295=true from aS.2 (by omega)];rfl
theorem XW (h:dv p=true):dR (dC p).1+46<=(dC p).1.length:=by
 have hh:oI p=true:=by simp only[dv,ae]at h;exact h.1
 have hp:=Ou (Ti p).1;have hi:=Hw h;unfold dC aiJ U2 at hi⊢;rw[h,ah]at hi⊢;cases he:qz (p.1,p.2.1,p.2.2.1,2048,pad (Ti p).1)with|false=>rw[he]at hi;cases hi|true=>?_
 simp only[ah];simp only[oI,ae]at hh;have m1:=ad3 hh.1;have m2:=ad3 hh.2.1;have hv:=aS.1 hh.2.2.1;have w1:(aW 33024).length=2:=rfl;have w3:(aW 2048).length=2:=rfl;generalize pad (Ti p).1=bd at hp⊢;unfold FA;simp only;generalize Ii p.1=M1 at m1⊢;generalize Ii p.2.1=M2 at m2⊢;by_cases hc:p.2.2.1>=0;have w2:(aW p.2.2.1).length=2:=by rw[Fm,aS.2 (by omega)];rfl
 rw[ar hc,ah];have hb:dR (((((M1++M2)++aW 33024)++aW p.2.2.1)++aW 2048)++bd)=18:=by
  unfold dR;have e12:cp (((((M1++M2)++aW 33024)++aW p.2.2.1)++aW 2048)++bd) ((12:Nat):Int)=33024:=by rw[wx,ar (by simp only[ai];omega),ah];rw[ku (by simp only[ai];omega),ku (by simp only[ai];omega),ku (by simp only[ai];omega),wm (by simp only[ai];omega)];rw[ku (by simp only[ai];omega),ku (by simp only[ai];omega),ku (by simp only[ai];omega),wm (by simp only[ai];omega)];rw[ai,m1,m2];rfl
  rw[show(12:Int)=((12:Nat):Int) from rfl,e12];rfl
 rw[hb];simp only[ai];omega;rw[aq hc,af];have hb:dR (((M1++M2)++aW 2048)++bd)=14:=by
  unfold dR;have e12:cp (((M1++M2)++aW 2048)++bd) ((12:Nat):Int)=2048:=by rw[wx,ar (by simp only[ai];omega),ah];rw[ku (by simp only[ai];omega),wm (by simp only[ai];omega)];rw[ku (by simp only[ai];omega),wm (by simp only[ai];omega)];rw[ai,m1,m2];rfl
  rw[show(12:Int)=((12:Nat):Int) from rfl,e12];rfl
 rw[hb];simp only[ai];omega
def nC (t:Bytes)(x y:Bytes):Bytes:=xK (xK t (DS t:Int) x) (BE t:Int) y
theorem GJ (t x y:Bytes):(nC t x y).length=t.length:=by unfold nC;rw[Cw,Cw]
def lG (p:aK):Bytes×Bool:=bif dv p then(nC (dC p).1 (aW 0) (aW 0),true) else([],false)
theorem ajj (h:dv p=false):dC p=([],false):=by unfold dC;rw[h];rfl
theorem Th (p:aK):nM p=some (lG p):=by have hl:=BM p;have w0:=bT 0;unfold nM lG nC;rw[Ea,ab];cases h:dv p with|false=>rw[ajj h];rfl|true=>rw[Hw h];simp only[aj,af,ah,Kf _ (show(dC p).1.length<=10^9 by omega),ab,mh,EU _ _ _ (show(dC p).1.length<=10^9 by omega) (show(aW 0).length<=10^9 by omega),EU _ _ _ (show(xK (dC p).1 (DS (dC p).1:Int) (aW 0)).length<=10^9 by rw[Cw];omega) (show(aW 0).length<=10^9 by omega)]
def Ft (s t:Bytes):Prop:=s.length=t.length/\∀i,i<DS t\/(DS t+2<=i/\i<BE t)\/BE t+2<=i->bO s i=bO t i
theorem Cv (t:Bytes):(dR t=14\/dR t=18)/\DS t=dR t+10/\dR t+26<=BE t/\BE t<=dR t+36/\(BE t=dR t+36/\lN t=6\/BE t=dR t+26/\lN t≠6):=by have h1:=OS t;have h2:=KY (lN t);unfold DS BE;omega
theorem Io (t:Bytes){y:Bytes}(hx:x.length<=2)(hy:y.length<=2):Ft (nC t x y) t:=by have:=Cv t;refine⟨GJ t x y,λi hi=>?_⟩;unfold nC;rw[VW,VW]
theorem Ft.body (h:Ft s t):dR s=dR t:=by have:=Cv t;unfold dR;have e:cp s ((12:Nat):Int)=cp t ((12:Nat):Int):=Gf h.1 (h.2 _ (by omega)) (h.2 _ (by omega));rw[show(12:Int)=((12:Nat):Int) from rfl,e]
theorem Ft.kind (h:Ft s t):lN s=lN t:=by have:=Cv t;unfold lN;rw[h.body,h.2 _ (by omega)]
theorem Ft.aps (h:Ft s t):DS s=DS t/\BE s=BE t:=by unfold DS BE;rw[h.body,h.kind];exact⟨rfl,rfl⟩
theorem Ft.aq6 (h:Ft s t):cp s ((dR t+2:Nat):Int)=cp t ((dR t+2:Nat):Int):=by have:=Cv t;exact Gf h.1 (h.2 _ (by omega)) (h.2 _ (by omega))
structure TOk (t:Bytes):Prop where
 eth:(fY t).2=true
 bd:(fY t).1.2.2.2.2=t.drop (dR t)
 l1:dR t+46<=t.length
 n1:20+Q2 (lN t)+2<=cp t ((dR t+2:Nat):Int)
 n2:cp t ((dR t+2:Nat):Int)<=(t.length:Int)-(dR t:Int)
theorem L8 (h:(fY s).2=true):(fY s).1.2.2.2.2=s.drop (dR s)/\18<=s.length/\46<=s.length-dR s/\s.length-dR s<=400:=by
 unfold fY at h⊢;by_cases h8:(s.length:Int)<18;rw[ar h8]at h;cases h;rw[aq h8]at h⊢;simp only[af]at h⊢;rcases OS s with⟨h1,h2⟩|⟨h1,h2⟩;rw[h2]at h⊢;simp only[ah]at h⊢;cases he:qz (F7 s)with|false=>rw[he]at h;cases h|true=>rw[h1];simp only[qz,ae,aS,F7,aJ]at he;simp only[ah,F7];refine⟨cB,by omega,by omega,by omega⟩
 rw[h2]at h⊢;simp only[af]at h⊢;cases he:qz (wT s)with|false=>rw[he]at h;cases h|true=>rw[h1];simp only[qz,ae,aS,wT,aJ]at he;simp only[ah,wT];refine⟨cB,by omega,by omega,by omega⟩
theorem QG (h:(jo s).2=0):(fY s).2=true/\(kJ (fY s).1.2.2.2.2).2=true/\dv (jo s).1=true/\ (nB (kJ (fY s).1.2.2.2.2).1.2.2.2.2.1 (kJ (fY s).1.2.2.2.2).1.2.2.2.2.2.1 (kJ (fY s).1.2.2.2.2).1.2.2.2.1 (kJ (fY s).1.2.2.2.2).1.2.2.2.2.2.2).2=true:=by
 unfold jo at h⊢;simp only at h⊢;generalize fY s=e at h⊢;cases h1: !e.2||(e.1.2.2.2.1 !=2048)with|true=>rw[h1]at h;cases h|false=>?_
 rw[h1]at h;simp only[af]at h⊢;generalize kJ e.1.2.2.2.2=i at h⊢;cases h2:i.2 with|false=>rw[h2]at h;cases h|true=>?_
 rw[h2]at h;simp only[aj,af]at h⊢;generalize nB i.1.2.2.2.2.1 i.1.2.2.2.2.2.1 i.1.2.2.2.1 i.1.2.2.2.2.2.2=g at h⊢;cases h3:g.2 with|false=>rw[h3]at h;cases h|true=>?_
 rw[h3]at h;simp only[aj,af]at h⊢;cases h4:dv (e.1.1,e.1.2.1,e.1.2.2.1,i.1.1,i.1.2.1,i.1.2.2.1,i.1.2.2.2.2.1,i.1.2.2.2.2.2.1,g.1)with|false=>rw[h4]at h;cases h|true=>?_
 simp only[cn,dM]at h1;exact⟨h1.1,cB,h4,cB⟩
theorem aj8 {b:Bytes}(h:(kJ b).2=true):20<=cp b 2/\cp b 2<=(b.length:Int)/\(kJ b).1=DJ b:=by
 unfold kJ at h⊢;cases h1:decide ((b.length:Int)<20)||(decide (cp b 2<20)||decide (cp b 2>(b.length:Int)))with|true=>rw[h1]at h;cases h|false=>?_
 rw[h1]at h;simp only[af]at h⊢;cases h2:(R2 (DJ b)).2&&((R2 (DJ b)).1==b.take (cp b 2).toNat)with|false=>rw[h2]at h;cases h|true=>?_
 simp only[cn,cL]at h1;exact⟨by omega,by omega,rfl⟩
theorem agG {a k:Int}(h:(nB a b k s).2=true):k=6/\20<=s.length\/k=17/\8<=s.length:=by unfold nB at h;cases h1:(k==6)&&decide ((s.length:Int)>=20)with|true=>simp only[ae,bg,aE]at h1;exact .inl ⟨h1.1,by omega⟩|false=>rw[h1]at h;simp only[af]at h;cases h2:(k==17)&&decide ((s.length:Int)>=8)with|true=>simp only[ae,bg,aE]at h2;exact .inr ⟨h2.1,by omega⟩|false=>rw[h2]at h;cases h
theorem afd (hl:s.length=t.length)(h:∀i,i<18->bO s i=bO t i)(hs:(fY s).2=true):(fY t).2=true:=by
 have g16:∀a,a+2<=18->cp s ((a:Nat):Int)=cp t ((a:Nat):Int):=λa ha=>Gf hl (h _ (by omega)) (h _ (by omega));have g32:∀a,a+4<=18->dU s ((a:Nat):Int)=dU t ((a:Nat):Int):=λa ha=>Xu hl (λj hj=>h _ (by omega));have e0:AK s 0=AK t 0:=by unfold AK;rw[show(0:Int)=((0:Nat):Int) from rfl,g16 0 (by omega),show((0:Nat):Int)+2=((2:Nat):Int) from rfl,g32 2 (by omega)]
 have e6:AK s 6=AK t 6:=by unfold AK;rw[show(6:Int)=((6:Nat):Int) from rfl,g16 6 (by omega),show((6:Nat):Int)+2=((8:Nat):Int) from rfl,g32 8 (by omega)]
 have e12:cp s 12=cp t 12:=g16 12 (by omega);have e14:cp s 14=cp t 14:=g16 14 (by omega);have e16:cp s 16=cp t 16:=g16 16 (by omega);have b1:qz (F7 s)=qz (F7 t):=by unfold qz F7;rw[e0,e6,e14,e16];simp only[aJ,hl]
 have b2:qz (wT s)=qz (wT t):=by unfold qz wT;rw[e0,e6,e12];simp only[aJ,hl]
 unfold fY at hs⊢;rw[hl,e12,b1,b2]at hs;cases h8:decide ((t.length:Int)<18)with|true=>rw[h8]at hs;cases hs|false=>?_
 rw[h8]at hs;cases h12:cp t 12==33024 with
 |true=>rw[h12]at hs;cases hb:qz (F7 t)with|true=>rfl|false=>rw[hb]at hs;cases hs
 |false=>rw[h12]at hs;cases hb:qz (wT t)with|true=>rfl|false=>rw[hb]at hs;cases hs
theorem apC (ha:Ft s t)(h:(jo s).2=0):TOk t:=by
 have hp:=Cv t;obtain⟨h1,h2,_,h4⟩:=QG h;have he:=L8 h1;rw[he.1]at h2 h4;have hi:=aj8 h2;have hs:=agG h4;rw[hi.2.2]at hs;have e1:(fY t).2=true:=afd ha.1 (λi hi=>ha.2 i (by omega)) h1;have e2:=L8 e1;have en:cp (s.drop (dR s)) 2=cp t ((dR t+2:Nat):Int):=by have:cp (s.drop (dR s)) ((2:Nat):Int)=cp s ((dR s+2:Nat):Int):=Py;rw[show(2:Int)=((2:Nat):Int) from rfl,this,ha.body,ha.aq6]
 have ek:(DJ (s.drop (dR s))).2.2.2.1=(lN t:Int):=by show(bO (s.drop (dR s)) 9:Int)=_;rw[mZ,<-ha.kind];rfl
 have eg:(DJ (s.drop (dR s))).2.2.2.2.2.2.length=(cp t ((dR t+2:Nat):Int)).toNat-20:=by show(((s.drop (dR s)).take (cp (s.drop (dR s)) 2).toNat).drop 20).length=_;rw[en,aJ,aV];have:=hi.2.1;rw[en]at this;omega
 rw[ek,eg]at hs;rw[en]at hi;have hn:=hi.2.1;rw[aJ,ha.1,ha.body]at hn;have hk:=KY (lN t);exact⟨e1,e2.1,by omega,by omega,by omega⟩
theorem aho (h:(lG p).1=t)(hs:dv p=true)(ht:TOk t):cp t (DS t:Int)=0/\cp t (BE t:Int)=0:=by
 unfold lG at h;rw[hs]at h;simp only[ah]at h;have w0:(aW 0).length=2:=rfl;have ha:Ft (nC (dC p).1 (aW 0) (aW 0)) (dC p).1:=Io _ (by omega) (by omega);rw[h]at ha;have hp:=Cv t;have Hu:=ha.aps;have hl:=ht.l1;have BK:=ha.1;have Js:=ht.n1;have BL:=ht.n2;have hk:=KY (lN t);have hB:BE t+2<=t.length:=by omega
 have b0:bO (aW 0) 0=0:=rfl;have b1:bO (aW 0) 1=0:=rfl;rw[wx,wx,jI,ar hB,ah,ah];have eB:∀j,j<2->bO t (BE t+j)=bO (aW 0) j:=by intro j hj;rw[<-h];unfold nC;rw[show BE (xK (xK (dC p).1 (DS (dC p).1:Int) (aW 0)) (BE (dC p).1:Int) (aW 0))=BE (dC p).1 from by have:=Hu.2;rw[<-h]at this;exact this];exact aeg (by rw[Cw,w0];omega)
 have eA:∀j,j<2->bO t (DS t+j)=bO (aW 0) j:=by intro j hj;rw[<-h];unfold nC;rw[show DS (xK (xK (dC p).1 (DS (dC p).1:Int) (aW 0)) (BE (dC p).1:Int) (aW 0))=DS (dC p).1 from by have:=Hu.1;rw[<-h]at this;exact this];rw[VW];exact aeg (by rw[w0];omega)
 have a0:=eA 0 (by omega);have a1:=eA 1 (by omega);have c0:=eB 0 (by omega);have c1:=eB 1 (by omega);rw[eP]at a0 c0;rw[a0,a1,c0,c1,b0,b1];exact⟨rfl,rfl⟩
theorem OX (s:Bytes):aO (dy s)=s:=by
 unfold aO dy;rw[List.map_map];conv=>rhs;rw[<-List.map_id s]
 refine List.map_congr_left λb _=>?_;simp
theorem ajC (s t:Bytes):dy (s++t)=dy s++dy t:=dF
theorem Km (s:Bytes):(dy s).length=s.length:=bH ..
theorem Wk {α:Type}(l:ax α)(i j:Nat)(h:i<=j)(h2:j<=l.length):sub l (i:Int) (j:Int)=some ((l.drop i).take (j-i)):=by unfold sub;rw[zip];simp[List.take_drop,Nat.add_sub_cancel' h]
theorem ZX (a k:Nat):tdiv (a:Int) (k:Int)=((a/k:Nat):Int):=(Int.ofNat_tdiv a k).symm
theorem T7 (a k:Nat):tmod (a:Int) (k:Int)=((a%k:Nat):Int):=(Int.ofNat_tmod a k).symm
theorem mem_iff:de m=true↔(∀x∈m,x.length=128)/\m.length<=64:=by simp only[de,ae,aF,bg,aE];constructor;rintro⟨h1,h2⟩;exact⟨λx hx=>by have:=h1 x hx;omega,by omega⟩;rintro⟨h1,h2⟩;exact⟨λx hx=>by have:=h1 x hx;omega,by omega⟩
theorem Xk:∀{m:bP},(∀x∈m,x.length=128)->m.flatten.length=128*m.length
 |[],_=>rfl
 |x::m,h=>by have:=Xk (m:=m) (λy hy=>h y (by simp[hy]));have:=h x (by simp);simp only[List.flatten_cons,ai,aU];omega
theorem SQ:∀{m:bP}(_:∀x∈m,x.length=128)(p:Nat)(hp:p<m.length)(o c:Nat),o+c<=128->(m.flatten.drop (128*p+o)).take c=(m[p].drop o).take c
 |x::m,h,0,hp,o,c,ho=>by have:=h x (by simp);simp only[List.flatten_cons,List.getElem_cons_zero];rw[List.drop_append_of_le_length (by omega),List.take_append_of_le_length (by simp;omega)];simp
 |x::m,h,p+1,hp,o,c,ho=>by have hx:=h x (by simp);simp only[List.flatten_cons,List.getElem_cons_succ];rw[show 128*(p+1)+o=x.length+(128*p+o) by omega,List.drop_length_add_append];exact SQ (m:=m) (λy hy=>h y (by simp[hy])) p (by simpa using hp) o c ho
def Er (m:bP)(a n:Nat):Bytes:=(m.flatten.drop a).take n
theorem Mh (h:de m=true)(hn:a+n<=128*m.length):(Er m a n).length=n:=by have:=Xk (mem_iff.1 h).1;simp only[Er,aV,aJ];omega
theorem akf (m:bP)(a n:Nat):(Er m a n).length<=n:=by simp[Er];omega
theorem agQ (m:bP)(a k c:Nat):Er m a (k+c)=Er m a k++Er m (a+k) c:=by unfold Er;rw[List.take_add,eK]
theorem acM (h:de m=true){p:Nat}(hp:p<m.length){c:Nat}(ho:o+c<=128)(ha:a=128*p+o):(m[p].drop o).take c=Er m a c:=by subst ha;exact(SQ (mem_iff.1 h).1 p hp o c ho).symm
def gX (m:bP)(a n:Int):Bool:=de m&&decide (0<=n/\0<=a/\a+n<=128*(m.length:Int))
theorem Gw (m:bP)(a n:Int)(h:m.length<=10^9):wB m a n=some (gX m a n):=by unfold wB gX;rw[I0 m h,ab,ak (n:=(m.length:Int)*128)];cases hm:de m with|false=>rfl|true=>simp only[ah,bn];by_cases h1:n>=0;by_cases h2:n<=(m.length:Int)*128;rw[ak (n:=(m.length:Int)*128-n)];by_cases h3:a>=0;simp only[ar h1,ar h2,ar h3,ah,ab];exact congrArg some (decide_eq_decide.2 (by omega));simp only[ar h1,ar h2,aq h3,ah,af,ab];exact congrArg some (cC).symm;simp only[ar h1,aq h2,ah,af,ab];exact congrArg some (cC).symm;simp only[aq h1,af,ab];exact congrArg some (cC).symm
theorem Nq (m:bP)(a n:Int)(h:m.length<=10^9):pF m a n=some (gX m a n):=by unfold pF gX;rw[Jd m h,ab,ak (n:=128*(m.length:Int))];cases hm:de m with|false=>rfl|true=>simp only[ah,bn];by_cases h1:n>=0;by_cases h3:a>=0;by_cases h2:a<=128*(m.length:Int);rw[ak (n:=128*(m.length:Int)-a)];simp only[ar h1,ar h2,ar h3,ah,ab];exact congrArg some (decide_eq_decide.2 (by omega));simp only[ar h1,aq h2,ar h3,ah,af,ab];exact congrArg some (cC).symm;simp only[ar h1,aq h3,ah,af,ab];exact congrArg some (cC).symm;simp only[aq h1,af,ab];exact congrArg some (cC).symm
theorem Kb (hm:de m=true)(K:Int->bW->az R):∀(n r k a f:Nat),r<=n->n<f->a+k+r<=128*m.length->
 bl (mm K ((k+r:Nat):Int) m) f (((a+k:Nat):Int),dy (Er m a k))=K ((a+k+r:Nat):Int) (dy (Er m a (k+r)))
 |n,r,k,a,0,_,hf,_=>by omega
 |n,0,k,a,f+1,hr,hf,hb=>by rw[bl];simp only[mm,Km,Mh hm (show a+k<=128*m.length by omega),eP];rw[cC,af]
 |0,r+1,k,a,f+1,hr,hf,hb=>by omega
 |n+1,r+1,k,a,f+1,hr,hf,hb=>by
  have h64:=(mem_iff.1 hm).2;have hl:=Mh hm (show a+k<=128*m.length by omega);obtain⟨p,hp⟩:∃p,(a+k)/128=p:=⟨_,rfl⟩
  obtain⟨o,ho⟩:∃o,(a+k)%128=o:=⟨_,rfl⟩
  have hpo:a+k=128*p+o:=by omega
  have ho2:o<128:=by omega
  have Hu:p<m.length:=by omega
  obtain⟨c,hc⟩:∃c,min (r+1) (128-o)=c:=⟨_,rfl⟩
  have hpg:=(mem_iff.1 hm).1 _ (aM Hu);have e1:tdiv ((a+k:Nat):Int) 128=(p:Int):=by rw[<-hp];exact ZX (a+k) 128
  have e2:tmod ((a+k:Nat):Int) 128=(o:Int):=by rw[<-ho];exact T7 (a+k) 128
  have key:=Kb hm K n (r+1-c) (k+c) a f (by omega) (by omega) (by omega);rw[bl];simp only[mm,Km,hl,e1,e2];rw[jI,ah,nU,ak (n:=(p:Int)),br Hu,ab,nU];rw[ak (n:=(o:Int)+((k+(r+1):Nat):Int)),ak (n:=(o:Int)+((k+(r+1):Nat):Int)-(k:Int))];rw[show(if(o:Int)+((k+(r+1):Nat):Int)-(k:Int)<128 then(o:Int)+((k+(r+1):Nat):Int)-(k:Int) else 128)=((o+c:Nat):Int) by split<;>omega];rw[Wk _ _ _ (by omega) (by omega),ab,show o+c-o=c by omega,acM hm Hu (show o+c<=128 by omega) hpo];have BK:=Mh hm (show a+k+c<=128*m.length by omega);rw[BK,aR,ak,<-ajC,<-agQ];rw[show((a+k:Nat):Int)+(c:Int)=((a+(k+c):Nat):Int) by omega];rw[show k+c+(r+1-c)=k+(r+1) by omega,show a+(k+c)+(r+1-c)=a+k+(r+1) by omega]at key;exact key
theorem ajx (m:bP)(a n:Int)(h:m.length<=10^9):qH m a n=some (bif gX m a n then(Er m a.toNat n.toNat,true) else([],false)):=by have D5:=eS;unfold qH;rw[Gw m a n h,ab];cases hw:gX m a n with|false=>rfl|true=>simp only[gX,ae,aE]at hw;obtain⟨hm,h1,h2,h3⟩:=hw;have h64:=(mem_iff.1 hm).2;simp only[aj,af,ah];rw[zip,aR];obtain⟨a,rfl⟩:=aD h2;obtain⟨n,rfl⟩:=aD h1;have:=Kb hm (λ(y4:Int) (y5:bW)=>some (aO y5,true)) n n 0 a fuel (by omega) (by omega) (by omega);rw[cy,eP]at this;refine Eq.trans this ?_;simp only[OX,aw]
def I5 (d p:Int)(w:Bool)(x:aH):Bool:=sO d p x&&(x.2.2.2|| !w)
def uW (l:ax aH)(d p:Int)(w:Bool):Int:=match l.findIdx? (I5 d p w)with|some i=>(l.getD i N3).2.2.1|none=> -1
theorem akC (l:ax aH)(d p:Int)(w:Bool)(h:l.length<=10^9):Bz l d p w=some (uW l d p w):=by unfold Bz uW;refine Eq.trans (Hj (p:=I5 d p w) (hit:=λi=>aa (idx l i) λx=>some x.2.2.1) (fin:=some (-1)) l (by omega) (λi hi nx=>?_) (λnx=>?_)) ?_;simp only[vS];rw[jI,br hi,ak];simp only[ah,ab,I5,sO];cases l[i].1==d<;>cases l[i].2.1==p<;>cases l[i].2.2.2<;>cases w<;>rfl;simp only[vS];rw[cC];rfl;cases hf:l.findIdx? (I5 d p w)with|none=>rfl|some i=>obtain⟨hi,_⟩:=List.findIdx?_eq_some_iff_getElem.1 hf;simp only[br hi,ab,cu hi]
theorem Kz (h:gz l=true)(hi:i<l.length):LU l[i]=true/\∀j (hj:j<i),sO l[i].1 l[i].2.1 (l[j]'(by omega))=false:=by simp only[gz,ae,aF,bB]at h;have:=h.2 i hi;simp only[Qm,ae,aF,bB,cu hi,aN]at this;exact⟨this.1,λj hj=>by have:=this.2 j hj;rwa[cu (by omega)]at this⟩
theorem LS {p:Int}{m:aH}:sO d p m=true↔m.1=d/\m.2.1=p:=by simp[sO]
theorem ajM (h:gz l=true){p:Int}{j:Nat}(hi:i<l.length)(hj:j<l.length)(h1:sO d p l[i]=true)(h2:sO d p l[j]=true):i=j:=by have a:=LS.1 h1;have b:=LS.1 h2;rcases Nat.lt_trichotomy i j with h3|h3|h3;have:=(Kz h hj).2 i h3;rw[b.1,b.2,h1]at this;cases this;exact h3;have:=(Kz h hi).2 j h3;rw[a.1,a.2,h2]at this;cases this
theorem Qu (h:gz l=true)(d p:Int)(w:Bool)(h1:0<=uW l d p w):uW l d p w<=63/\0<=p/\p<=1023:=by unfold uW at h1⊢;cases hf:l.findIdx? (I5 d p w)with|none=>rw[hf]at h1;simp at h1|some i=>obtain⟨hi,h2,_⟩:=List.findIdx?_eq_some_iff_getElem.1 hf;have h3:=(Kz h hi).1;simp only[I5,ae,LS]at h2;simp only[LU,ae,aS]at h3;simp only[cu hi];omega
theorem afM (l:ax aH)(d:Int)(a:Nat)(w:Bool)(h:l.length<=10^9)(hm:gz l=true)(ha:a<=9223372036854775807): EY l d (a:Int) w=some (if 0<=uW l d ((a/128:Nat):Int) w then uW l d ((a/128:Nat):Int) w*128+((a%128:Nat):Int) else-1):=by
 have e1:tdiv (a:Int) 128=((a/128:Nat):Int):=ZX a 128;have e2:tmod (a:Int) 128=((a%128:Nat):Int):=T7 a 128;unfold EY;rw[cC,af,nU,e1,e2,ak,X8 l _ _ h,ab];generalize ((a/128:Nat):Int)=p;have uB:=Qu hm d p w;unfold YY;cases hf:l.findIdx? (sO d p)with
 |none=>
  have hn:uW l d p w= -1:=by unfold uW;rw[List.findIdx?_eq_none_iff]at hf;rw[List.findIdx?_eq_none_iff.2 (λx hx=>by rw[I5,hf x hx];rfl)]
  rw[hn];rfl
 |some i=>
  obtain⟨hi,h2,h3⟩:=List.findIdx?_eq_some_iff_getElem.1 hf;simp only;rw[cC,br hi];simp only[af,ab];cases hq:l[i].2.2.2|| !w with
  |true=>
   have hF:uW l d p w=l[i].2.2.1:=by unfold uW;rw[List.findIdx?_eq_some_iff_getElem.2 ⟨hi,by rw[I5,h2,hq];rfl,λj hj=>by have:=h3 j hj;rw[I5,Bool.eq_false_iff.2 this];simp⟩];exact congrArg (λx:aH=>x.2.2.1) (cu hi N3)
   have h4:=(Kz hm hi).1;simp only[LU,ae,aS]at h4
   rw[hF,aI (show 0<=l[i].2.2.1 by omega),show(aa (cond w (some (!l[i].2.2.2)) (some false)) λq3=>cond q3 (some (-1:Int)) _)=_ from by
    have:(cond w (some (!l[i].2.2.2)) (some false))=some false:=by cases w<;>cases hz:l[i].2.2.2<;>rw[hz]at hq<;>first|rfl|cases hq
    rw[this,ab,af]]
   rw[aG (show¬(128:Nat)=0 by omega),ak (n:=l[i].2.2.1*128),ak]
  |false=>
   have hF:uW l d p w= -1:=by unfold uW;rw[List.findIdx?_eq_none_iff.2 (λx hx=>by obtain⟨j,hj,rfl⟩:=List.getElem_of_mem hx;cases hx2:sO d p l[j]with|false=>rw[I5,hx2];rfl|true=>have:=ajM hm hi hj h2 hx2;subst this;rw[I5,hq];simp)]
   rw[hF,aG (show¬(0:Int)<= -1 by omega)];cases w with|false=>simp at hq|true=>simp only[aj,Bool.or_false]at hq;simp only[ah,hq,ab,bt]
def mP (l:ax aH)(m:bP)(d:Int)(w:Bool):Nat->Nat->Nat->az (ax (Int×Int))
 |0,_,_=>some []
 |n+1,a,r=>if r=0 then some [] else
  if 0<=uW l d ((a/128:Nat):Int) w/\uW l d ((a/128:Nat):Int) w<(m.length:Int) then
   (mP l m d w n (a+min (128-a%128) r) (r-min (128-a%128) r)).map (λq=>(uW l d ((a/128:Nat):Int) w*128+((a%128:Nat):Int),((min (128-a%128) r:Nat):Int))::q)
  else none
theorem Wr (hm:de m=true){f:Int}(h0:0<=f){c:Nat}(hc:0<c)(ho:o+c<=128):gX m (f*128+(o:Int)) (c:Int)=decide (f<(m.length:Int)):=by rw[gX,hm,bn];exact decide_eq_decide.2 (by omega)
theorem Z7 (hm:de m=true){f:Int}(h0:0<=f):gX m (f*128) 128=decide (f<(m.length:Int)):=by rw[gX,hm,bn];exact decide_eq_decide.2 (by omega)
theorem Kd (hl:gz l=true)(hL:l.length<=10^9)(hm:de m=true)(d:Int)(w:Bool):∀(n a r f:Nat)(acc:ax (Int×Int)),r<=n->n<f->acc.length+n<=1000000->a<=9223372036854775807->
 bl (sJ (λ(y9:Int) (DW:Int) (CH:ax (Int×Int))=>some (CH,true)) (λ(CL:Int) (EG:Int) (BT:ax (Int×Int)) (FL:Bool) (HM:ax (Int×Int))=>some (BT,FL)) l d w ([]:ax (Int×Int)) false m) f ((a:Int),(r:Int),acc)
  =match mP l m d w n a r with|some q=>some (acc++q,true)|none=>some ([],false)
 |n,a,r,0,acc,_,hf,_,_=>by omega
 |0,a,r,f+1,acc,hr,hf,hA,ha=>by rw[bl];simp only[sJ];rw[cC];simp[mP]
 |n+1,a,r,f+1,acc,hr,hf,hA,ha=>by
  have h64:=(mem_iff.1 hm).2;rw[bl];simp only[sJ,mP];by_cases h0:r=0;rw[cC,aI h0];simp;have e2:tmod (a:Int) 128=((a%128:Nat):Int):=T7 a 128;have uB:=Qu hl d ((a/128:Nat):Int) w;rw[jI,aG h0,afM l d a w hL hl ha,ab,nU,e2,ak (n:=128-((a%128:Nat):Int))];obtain⟨c,hc⟩:∃c,min (128-a%128) r=c:=⟨_,rfl⟩
  rw[hc,show(if 128-((a%128:Nat):Int)<(r:Int) then 128-((a%128:Nat):Int) else(r:Int))=(c:Int) by split<;>omega];generalize hP:uW l d ((a/128:Nat):Int) w=P at uB⊢;by_cases hP0:0<=P;have uB:=uB hP0;simp only[aI hP0,ah];rw[aq (show¬P*128+((a%128:Nat):Int)<0 by omega),Gw m _ _ (by omega),Wr hm hP0 (by omega) (by omega)];simp only[af,ab];by_cases hP1:P<(m.length:Int);rw[ar hP1,aI ⟨hP0,hP1⟩];simp only[aj,af];rw[aR (by simp;omega),ak (n:=(a:Int)+(c:Int)),ak (n:=(r:Int)-(c:Int)),aq (show¬(a:Int)+(c:Int)<0 by omega)];simp only[af,ab];have key:=Kd hl hL hm d w n (a+c) (r-c) f (acc++[(P*128+((a%128:Nat):Int),(c:Int))]) (by omega) (by omega) (by simp;omega) (by omega);rw[show((a+c:Nat):Int)=(a:Int)+(c:Int) by omega,show((r-c:Nat):Int)=(r:Int)-(c:Int) by omega]at key;rw[key];cases mP l m d w n (a+c) (r-c)with|none=>rfl|some q=>simp
  rw[aq hP1,nU];rfl;simp only[aG hP0,ah];rw[nU,jI];rfl
theorem KW (hl:gz l=true)(hL:l.length<=10^9)(hm:de m=true)(d:Int)(w:Bool):∀(n a r f:Nat)(acc:ax (Int×Int)),r<=n->n<f->acc.length+n<=1000000->a<=9223372036854775807->
 bl (lY (λ(DW:Int) (CH:Int) (CL:bW) (EG:bW)=>some (CL,EG,true)) (λ(BT:Int) (FL:Int) (HM:bW) (Ug:bW) (Uh:Bool) (Ws:bW) (y20:bW)=>some (HM,Ug,Uh)) l d w ([]:bW) ([]:bW) false m) f ((a:Int),(r:Int),acc.map (·.1),acc.map (·.2))
  =match mP l m d w n a r with|some q=>some ((acc++q).map (·.1),(acc++q).map (·.2),true)|none=>some ([],[],false)
 |n,a,r,0,acc,_,hf,_,_=>by omega
 |0,a,r,f+1,acc,hr,hf,hA,ha=>by rw[bl];simp only[lY];rw[cC];simp[mP]
 |n+1,a,r,f+1,acc,hr,hf,hA,ha=>by
  have h64:=(mem_iff.1 hm).2;rw[bl];simp only[lY,mP];by_cases h0:r=0;rw[cC,aI h0];simp;have e1:tdiv (a:Int) 128=((a/128:Nat):Int):=ZX a 128;have e2:tmod (a:Int) 128=((a%128:Nat):Int):=T7 a 128;have uB:=Qu hl d ((a/128:Nat):Int) w;rw[ar (show(r:Int)>0 by omega),ar (show(a:Int)>=0 by omega),aG h0];simp only[ah];rw[nU,e1,e2,ak (n:=((a/128:Nat):Int)),akC l _ _ w hL,ab,nU,ak (n:=128-((a%128:Nat):Int))];obtain⟨c,hc⟩:∃c,min (128-a%128) r=c:=⟨_,rfl⟩
  rw[hc,show(if 128-((a%128:Nat):Int)<(r:Int) then 128-((a%128:Nat):Int) else(r:Int))=(c:Int) by split<;>omega];generalize hP:uW l d ((a/128:Nat):Int) w=P at uB⊢;by_cases hP0:0<=P;have uB:=uB hP0;rw[aq (show¬P<0 by omega),ak (n:=P*128),Nq m _ _ (by omega),Z7 hm hP0];simp only[af,ab];by_cases hP1:P<(m.length:Int);rw[ar hP1,aI ⟨hP0,hP1⟩];simp only[aj,af];rw[aR (by simp;omega),aR (by simp;omega),ak (n:=P*128+((a%128:Nat):Int)),ak (n:=(a:Int)+(c:Int)),ak (n:=(r:Int)-(c:Int))];have key:=KW hl hL hm d w n (a+c) (r-c) f (acc++[(P*128+((a%128:Nat):Int),(c:Int))]) (by omega) (by omega) (by simp;omega) (by omega);rw[show((a+c:Nat):Int)=(a:Int)+(c:Int) by omega,show((r-c:Nat):Int)=(r:Int)-(c:Int) by omega,dF,dF]at key;refine Eq.trans key ?_;cases mP l m d w n (a+c) (r-c)with|none=>rfl|some q=>simp
  rw[aq hP1,nU];rfl;rw[nU,jI];rfl
def lO (l:ax aH)(m:bP)(d a n:Int)(w:Bool):ax (Int×Int)×Bool:=
 bif gz l&&(de m&&db n 0 4096) then
  (bif n==0 then([],true) else bif decide (a<0) then([],false) else match mP l m d w n.toNat a.toNat n.toNat with|some q=>(q,true)|none=>([],false))
 else([],false)
theorem Yc (l:ax aH)(m:bP)(d a n:Int)(w:Bool)(hl:l.length<=10^9)(hm:m.length<=10^9)(ha:a<=9223372036854775807):Ae l m d a n w=some (lO l m d a n w):=by
 have D5:=eS;unfold Ae lO;simp only[J8 l hl,I0 m hm,cm,ab];cases hB:gz l;rfl;cases hM:de m;rfl;cases hN:db n 0 4096;rfl;have hn:=aS.1 hN;simp only[aj,af,ab,bR,ah];cases h0:n==0;case true=>rfl
 by_cases hA:a<0;rw[ar hA];rfl;rw[aq hA];simp only[af];obtain⟨a,rfl⟩:=aD (show 0<=a by omega);obtain⟨n,rfl⟩:=aD hn.1;rw[Kd hB hl hM d w n a n fuel [] (by omega) (by omega) (by simp;omega) (by omega)];simp only[aw];cases mP l m d w n a n<;>rfl
theorem ahb (l:ax aH)(m:bP)(d a n:Int)(w:Bool)(hl:l.length<=10^9)(hm:m.length<=10^9)(ha:a<=9223372036854775807):zO l m d a n w=some ((lO l m d a n w).1.map (·.1),(lO l m d a n w).1.map (·.2),(lO l m d a n w).2):=by
 have D5:=eS;unfold zO lO;simp only[V8 l hl,Jd m hm,dQ,ab];cases hB:gz l;rfl;cases hM:de m;rfl;cases hN:db n 0 4096;rfl;have hn:=aS.1 hN;simp only[aj,af,ab,bR,ah];obtain⟨n,rfl⟩:=aD hn.1;cases h0:((n:Int)==0)with
 |true=>
  have:n=0:=by simpa using h0
  subst this;obtain⟨f,hf⟩:∃f,fuel=f+1:=⟨fuel-1,by omega⟩
  rw[hf,bl];rfl
 |false=>
  have hn0:n≠0:=by simpa using h0
  by_cases hA:a<0;obtain⟨f,hf⟩:∃f,fuel=f+1:=⟨fuel-1,by omega⟩
  rw[ar hA,hf,bl];simp only[lY];rw[jI,cC];rfl;rw[aq hA];simp only[af];obtain⟨a,rfl⟩:=aD (show 0<=a by omega);refine Eq.trans (KW hB hl hM d w n a n fuel [] (by omega) (by omega) (by simp;omega) (by omega)) ?_;simp only[aw];cases mP l m d w n a n<;>rfl
def En (x:Bytes)(o:Nat)(t:Bytes):Bytes:=x.take o++(t++x.drop (o+t.length))
theorem TA (h:o+t.length<=x.length):(En x o t).length=x.length:=by simp only[En,ai,aV,aJ];omega
theorem agE (x:Bytes)(o:Nat)(t:Bytes):aO (Eo (dy x) o (dy t))=En x o t:=by
 have e:Eo (dy x) o (dy t)=dy (En x o t):=by simp only[Eo,En,dy,dF,List.map_take,List.map_drop,bH]
 rw[e,OX]
theorem akb (h:o+t.length<=x.length):xK x (o:Int) t=En x o t:=by unfold xK fi;rw[ar ⟨by omega,by omega⟩];simp only[ah,aw,En,aL]
def yR:Nat->bP->Nat->Bytes->bP
 |0,m,_,_=>m
 |n+1,m,a,s=>if s.length=0 then m else
  yR n (m.set (a/128) (En (m.getD (a/128) []) (a%128) (s.take (128-a%128)))) (a+min (128-a%128) s.length) (s.drop (128-a%128))
def DP (m:bP):Prop:=(∀x∈m,x.length=128)/\m.length<=64
theorem rh:de m=true↔DP m:=mem_iff
theorem L7 {p:Nat}(h:DP m)(hx:x.length=128):DP (m.set p x):=by refine⟨λy hy=>?_,by rw[aC];exact h.2⟩;rcases dw hy with g|g;exact h.1 y g;rw[g];exact hx
theorem Fp (h:DP m)(hs:s.length≠0)(ha:a+s.length<=128*m.length): ∃(hp:a/128<m.length),(m[a/128]'hp).length=128/\(En (m[a/128]'hp) (a%128) (s.take (128-a%128))).length=128:=by
 have hp:a/128<m.length:=by omega
 have hl:=h.1 _ (aM hp);refine⟨hp,hl,?_⟩;rw[TA (by rw[aV,hl];omega),hl]
theorem BH:∀(n:Nat){m:bP}{a:Nat}{s:Bytes},DP m->a+s.length<=128*m.length->DP (yR n m a s)/\(yR n m a s).length=m.length
 |0,m,a,s,h,_=>⟨h,rfl⟩
 |n+1,m,a,s,h,ha=>by rw[yR];split;exact⟨h,rfl⟩;rename_i hs;obtain⟨hp,hl,ho⟩:=Fp h hs ha;rw[cu hp];have:=BH n (m:=m.set (a/128) (En m[a/128] (a%128) (s.take (128-a%128)))) (a:=a+min (128-a%128) s.length) (s:=s.drop (128-a%128)) (L7 h ho) (by rw[aC,aJ];omega);rw[aC]at this;exact this
theorem Ie (K:Int->Bytes->bP->az R)(K':bP->az R)(hK:∀a m,K a [] m=K' m):∀(n:Nat)(m:bP)(a:Nat)(s:Bytes)(f:Nat),s.length<=n->n<f->DP m->a+s.length<=128*m.length->
 bl (ow K ([]:bP)) f ((a:Int),s,m)=K' (yR n m a s)
 |n,m,a,s,0,_,hf,_,_=>by omega
 |n,m,a,s,f+1,hs,hf,hm,ha=>by
  rw[bl];simp only[ow];by_cases h0:s.length=0;have:s=[]:=cq h0;subst this;rw[aq (by simp),af,hK];cases n<;>simp[yR];cases n with
  |zero=>omega
  |succ n=>
   obtain⟨hp,hl,ho⟩:=Fp hm h0 ha;have h64:=hm.2;have e1:tdiv (a:Int) 128=((a/128:Nat):Int):=ZX a 128;have e2:tmod (a:Int) 128=((a%128:Nat):Int):=T7 a 128;rw[jI,ah,nU,e1,e2,ak (n:=((a/128:Nat):Int)),br hp,ab,aR,nU];have rm:sub (dy m[a/128]) ((a%128:Nat):Int) ((dy m[a/128]).length:Int)=some ((dy m[a/128]).drop (a%128)):=by rw[Wk _ _ _ (by rw[Km];omega) (bj _),cf (by rw[aJ];exact bj _)]
   rw[rm,ab,nU,ab,ab];have hd:((dy m[a/128]).drop (a%128)).length=128-a%128:=by rw[aJ,Km,hl]
   rw[hd];have hdr:s.drop (min (128-a%128) s.length)=s.drop (128-a%128):=by by_cases h3:128-a%128<=s.length;rw[iW h3];rw[Nat.min_eq_right (by omega),di (bj _),di (by omega)]
   have aqO:sub s (((min (128-a%128) s.length:Nat)):Int) ((s.length:Int))=some (s.drop (128-a%128)):=by rw[<-hdr];unfold sub;rw[zip];simp
   rw[aqO,ab,ak (n:=(a:Int)+((min (128-a%128) s.length:Nat):Int)),aw,aw,agE];rw[yR,aG h0,cu hp,show(a:Int)+((min (128-a%128) s.length:Nat):Int)=((a+min (128-a%128) s.length:Nat):Int) by omega];exact Ie K K' hK n _ _ _ f (by rw[aJ];omega) (by omega) (L7 hm ho) (by rw[aC,aJ];omega)
theorem Is (K:Int->Bytes->bP->az R)(K':bP->az R)(hK:∀a m,K a [] m=K' m):∀(n:Nat)(m:bP)(a:Nat)(s:Bytes)(f:Nat),s.length<=n->n<f->DP m->a+s.length<=128*m.length->
 bl (oB K ([]:bP)) f ((a:Int),s,m)=K' (yR n m a s)
 |n,m,a,s,0,_,hf,_,_=>by omega
 |n,m,a,s,f+1,hs,hf,hm,ha=>by
  rw[bl];simp only[oB];by_cases h0:s.length=0;have:s=[]:=cq h0;subst this;rw[aq (by simp),af,hK];cases n<;>simp[yR];cases n with
  |zero=>omega
  |succ n=>
   obtain⟨hp,hl,ho⟩:=Fp hm h0 ha;have h64:=hm.2;have e1:tdiv (a:Int) 128=((a/128:Nat):Int):=ZX a 128;have e2:tmod (a:Int) 128=((a%128:Nat):Int):=T7 a 128;rw[jI,ah,nU,nU,nU,e1,e2,ak (n:=((a/128:Nat):Int)),ak (n:=128-((a%128:Nat):Int)),br hp,ab];obtain⟨c,hc⟩:∃c,min (128-a%128) s.length=c:=⟨_,rfl⟩
   rw[show(if 128-((a%128:Nat):Int)<(s.length:Int) then 128-((a%128:Nat):Int) else(s.length:Int))=(c:Int) by split<;>omega];have ht:s.take c=s.take (128-a%128):=by by_cases h3:128-a%128<=s.length;rw[<-hc,iW h3];rw[<-hc,Nat.min_eq_right (by omega),cf (bj _),cf (by omega)]
   have hdr:s.drop c=s.drop (128-a%128):=by by_cases h3:128-a%128<=s.length;rw[<-hc,iW h3];rw[<-hc,Nat.min_eq_right (by omega),di (bj _),di (by omega)]
   have hs1:sub s 0 (c:Int)=some (s.take (128-a%128)):=by rw[<-ht];unfold sub;rw[zip];simp
   have hs2:sub s (c:Int) (s.length:Int)=some (s.drop (128-a%128)):=by rw[<-hdr];unfold sub;rw[zip];simp
   rw[hs1,ab,Ox _ _ _,ab,ab,ab,hs2,ab,akb (by rw[aV,hl];omega),ak (n:=(a:Int)+(c:Int)),aw];rw[yR,aG h0,cu hp,hc,show(a:Int)+(c:Int)=((a+c:Nat):Int) by omega];exact Is K K' hK n _ _ _ f (by rw[aJ];omega) (by omega) (L7 hm ho) (by rw[aC,aJ];omega)
def qu (m:bP)(a:Int)(s:Bytes):bP×Bool:=bif gX m a (s.length:Int) then(yR s.length m a.toNat s,true) else(m,false)
theorem abV (m:bP)(a:Int)(s:Bytes)(h:m.length<=10^9)(hs:s.length<=10^9):tL m a s=some (qu m a s):=by have D5:=eS;unfold tL qu;rw[gM m,ab,Gw m _ _ h,ab];cases hw:gX m a (s.length:Int);rfl;simp only[gX,ae,aE]at hw;obtain⟨a,rfl⟩:=aD hw.2.2.1;simp only[aj,af,ah,aw];exact Ie _ (λm=>some (m,true)) (λ_ _=>rfl) s.length m a s fuel (bj _) (by omega) (rh.1 hw.1) (by omega)
theorem ac0 (m:bP)(a:Int)(s:Bytes)(h:m.length<=10^9)(hs:s.length<=10^9):ub m a s=some (qu m a s):=by have D5:=eS;unfold ub qu;rw[E1 m,ab,Nq m _ _ h,ab];cases hw:gX m a (s.length:Int);rfl;simp only[gX,ae,aE]at hw;obtain⟨a,rfl⟩:=aD hw.2.2.1;simp only[aj,af,ah,aw];exact Is _ (λm=>some (m,true)) (λ_ _=>rfl) s.length m a s fuel (bj _) (by omega) (rh.1 hw.1) (by omega)
theorem G5 (m:bP)(a:Int)(s:Bytes):(qu m a s).1.length=m.length:=by unfold qu;cases hw:gX m a (s.length:Int);rfl;simp only[gX,ae,aE]at hw;exact(BH s.length (rh.1 hw.1) (by omega)).2
def Md:ax (Int×Int)->bP->Bytes->bP
 |[],m,_=>m
 |p::q,m,s=>Md q (qu m p.1 (s.take p.2.toNat)).1 (s.drop p.2.toNat)
theorem Zj:∀(q:ax (Int×Int))(m:bP)(s:Bytes),(Md q m s).length=m.length
 |[],m,s=>rfl
 |p::q,m,s=>by rw[Md,Zj q,G5]
def Ob (q:ax (Int×Int)):Int:=(q.map (·.2)).sum
theorem aey:∀(q:ax (Int×Int)),(∀p∈q,0<=p.2)->0<=Ob q
 |[],_=>cR _
 |p::q,h=>by have:=aey q (λx hx=>h x (by simp[hx]));have:=h p (by simp);simp only[Ob,dk,fW]at*;omega
theorem Zn {p:Int×Int}{q:ax (Int×Int)}(hc:∀x∈p::q,0<=x.2)(hs:(s.length:Int)=Ob (p::q)):0<=p.2/\p.2<=(s.length:Int)/\((s.drop p.2.toNat).length:Int)=Ob q:=by
 have h1:=hc p (by simp);have h2:=aey q (λx hx=>hc x (by simp[hx]));have h3:Ob (p::q)=p.2+Ob q:=by simp[Ob]
 rw[h3]at hs;refine⟨h1,by omega,?_⟩;rw[aJ];omega
theorem T3 (h0:0<=c)(h1:c<=(s.length:Int)):sub s 0 c=some (s.take c.toNat):=by unfold sub;rw[zip];simp
theorem ZR (h0:0<=c)(h1:c<=(s.length:Int)):sub s c (s.length:Int)=some (s.drop c.toNat):=by unfold sub;rw[zip];simp
theorem MZ (K:Bytes->Int->bP->az (bP×Bool))(hK:∀s i m,K s i m=some (m,true)):∀(rest pre:ax (Int×Int))(m:bP)(s:Bytes)(f:Nat),rest.length<f->pre.length+rest.length<=1000000->(∀x∈rest,0<=x.2)->(s.length:Int)=Ob rest->m.length<=10^9->s.length<=1000000->
 bl (Ad K (pre++rest) ((pre++rest).length:Int) ([]:bP)) f (s,(pre.length:Int),m)=some (Md rest m s,true)
 |rest,pre,m,s,0,hf,_,_,_,_,_=>by omega
 |[],pre,m,s,f+1,_,_,_,_,_,_=>by rw[bl];simp only[Ad];rw[aq (by simp),af,hK];rfl
 |p::q,pre,m,s,f+1,hf,hn,hc,hs,hm,hl=>by
  obtain⟨h1,h2,h3⟩:=Zn hc hs;simp only[aU]at hf hn;have hi:pre.length<(pre++p::q).length:=by simp
  have hp:(pre++p::q)[pre.length]=p:=by simp
  rw[bl];simp only[Ad];rw[ar (by simp;omega),br hi,hp,ak];simp only[ah,ab,T3 h1 h2,ZR h1 h2,abV m _ _ hm (show(s.take p.2.toNat).length<=10^9 by rw[aV];omega)];have key:=MZ K hK q (pre++[p]) (qu m p.1 (s.take p.2.toNat)).1 (s.drop p.2.toNat) f (by omega) (by simp;omega) (λx hx=>hc x (by simp[hx])) h3 (by rw[G5];exact hm) (by rw[aJ];omega);have el:((pre++[p]).length:Int)=(pre.length:Int)+1:=by simp
  rw[aL,List.singleton_append,el]at key;rw[Md];exact key
theorem Np (K:Bytes->Int->bP->az (bP×Bool))(hK:∀s i m,K s i m=some (m,true)):∀(rest pre:ax (Int×Int))(m:bP)(s:Bytes)(f:Nat),rest.length<f->pre.length+rest.length<=1000000->(∀x∈rest,0<=x.2)->(s.length:Int)=Ob rest->m.length<=10^9->s.length<=1000000->
 bl (pq K ((pre++rest).map (·.1)) ((pre++rest).map (·.2)) ([]:bP)) f (s,(pre.length:Int),m)=some (Md rest m s,true)
 |rest,pre,m,s,0,hf,_,_,_,_,_=>by omega
 |[],pre,m,s,f+1,_,_,_,_,_,_=>by rw[bl];simp only[pq];rw[aq (by simp),af,hK];rfl
 |p::q,pre,m,s,f+1,hf,hn,hc,hs,hm,hl=>by
  obtain⟨h1,h2,h3⟩:=Zn hc hs;simp only[aU]at hf hn;have hi:pre.length<(pre++p::q).length:=by simp
  have hp:(pre++p::q)[pre.length]=p:=by simp
  have i1:idx ((pre++p::q).map (·.1)) (pre.length:Int)=some p.1:=by rw[br (by simp),List.getElem_map,hp]
  have i2:idx ((pre++p::q).map (·.2)) (pre.length:Int)=some p.2:=by rw[br (by simp),List.getElem_map,hp]
  rw[bl];simp only[pq];rw[ar (by simp;omega),i1,i2,ak];simp only[ah,ab,T3 h1 h2,ZR h1 h2,ac0 m _ _ hm (show(s.take p.2.toNat).length<=10^9 by rw[aV];omega)];have key:=Np K hK q (pre++[p]) (qu m p.1 (s.take p.2.toNat)).1 (s.drop p.2.toNat) f (by omega) (by simp;omega) (λx hx=>hc x (by simp[hx])) h3 (by rw[G5];exact hm) (by rw[aJ];omega);have el:((pre++[p]).length:Int)=(pre.length:Int)+1:=by simp
  rw[aL,List.singleton_append,el]at key;rw[Md];exact key
theorem Qy (l:ax aH)(m:bP)(d:Int)(w:Bool):∀(n a r:Nat)(q:ax (Int×Int)),r<=n->mP l m d w n a r=some q->Ob q=(r:Int)/\(∀p∈q,0<=p.2)/\q.length<=n
 |0,a,r,q,hr,h=>by simp only[mP,bq]at h;subst h;exact⟨by show(0:Int)=_;omega,by simp,by simp⟩
 |n+1,a,r,q,hr,h=>by simp only[mP]at h;split at h;simp only[bq]at h;subst h;exact⟨by show(0:Int)=_;omega,by simp,by simp⟩;split at h;simp only[Option.map_eq_some_iff]at h;obtain⟨q',h1,rfl⟩:=h;obtain⟨i1,i2,i3⟩:=Qy l m d w n _ _ q' (by omega) h1;refine⟨?_,?_,by simp only[aU];omega⟩;simp only[Ob,dk,fW]at i1⊢;rw[i1];omega;intro p hp;rcases bS.1 hp with rfl|hp;show(0:Int)<=((min (128-a%128) r:Nat):Int);omega;exact i2 p hp;cases h
theorem TK (l:ax aH)(m:bP)(d a n:Int)(w:Bool)(h:(lO l m d a n w).2=true):Ob (lO l m d a n w).1=n/\(∀p∈(lO l m d a n w).1,0<=p.2)/\(lO l m d a n w).1.length<=4096/\n<=4096:=by
 unfold lO at h⊢;cases hB:gz l&&(de m&&db n 0 4096)with|false=>rw[hB]at h;simp at h|true=>?_
 rw[hB]at h;simp only[ae,aS]at hB;simp only[ah]at h⊢;cases h0:n==0 with
 |true=>
  have:n=0:=by simpa using h0
  subst this;exact⟨rfl,by simp,by simp,by omega⟩
 |false=>rw[h0]at h;simp only[af]at h⊢;cases ha:decide (a<0)with|true=>rw[ha]at h;simp at h|false=>rw[ha]at h;simp only[af]at h⊢;cases hq:mP l m d w n.toNat a.toNat n.toNat with|none=>rw[hq]at h;cases h|some q=>obtain⟨i1,i2,i3⟩:=Qy l m d w _ _ _ q (bj _) hq;exact⟨by simp only;rw[i1];omega,i2,by simp only;omega,by omega⟩
def jb (l:ax aH)(m:bP)(d a:Int)(s:Bytes)(w:Bool):bP×Bool:=
 bif (lO l m d a (s.length:Int) w).2 then(Md (lO l m d a (s.length:Int) w).1 m s,true) else(m,false)
theorem ll (l:ax aH)(m:bP)(d a:Int)(s:Bytes)(w:Bool):(jb l m d a s w).1.length=m.length:=by unfold jb;cases (lO l m d a (s.length:Int) w).2 with|false=>rfl|true=>exact Zj _ _ _
theorem Yb (l:ax aH)(m:bP)(d a:Int)(s:Bytes)(w:Bool)(hl:l.length<=10^9)(hm:m.length<=10^9)(ha:a<=9223372036854775807):Gy l m d a s w=some (jb l m d a s w):=by have D5:=eS;unfold Gy jb;rw[gM m,ab,Yc l m d a _ w hl hm ha,ab];have hS:=TK l m d a (s.length:Int) w;generalize lO l m d a (s.length:Int) w=r at hS⊢;cases hr:r.2;rfl;obtain⟨h1,h2,h3,h4⟩:=hS hr;simp only[aj,af,ah];exact MZ _ (λ_ _ _=>rfl) r.1 [] m s fuel (by omega) (by simp;omega) h2 h1.symm hm (by omega)
theorem KT (l:ax aH)(m:bP)(d a:Int)(s:Bytes)(hl:l.length<=10^9)(hm:m.length<=10^9)(ha:a<=9223372036854775807):vc l m d a s=some (jb l m d a s true):=by have D5:=eS;unfold vc jb;rw[ahb l m d a _ true hl hm ha,ab,E1 m,ab];have hS:=TK l m d a (s.length:Int) true;generalize lO l m d a (s.length:Int) true=r at hS⊢;cases hr:r.2;rfl;obtain⟨h1,h2,h3,h4⟩:=hS hr;simp only[aj,af,ah];exact Np _ (λ_ _ _=>rfl) r.1 [] m s fuel (by omega) (by simp;omega) h2 h1.symm hm (by omega)
theorem ET (l:ax aH)(m:bP)(d a:Int)(s:Bytes)(hl:l.length<=10^9)(hm:m.length<=10^9)(ha:a<=9223372036854775807):re l m d a s=some (jb l m d a s true):=by rw[re,Yb l m d a s true hl hm ha];rfl
def wrM (x:aH):aH:=(x.1,x.2.1,x.2.2.1,true)
theorem getD_map (hi:i<l.length):(l.map wrM).getD i N3=wrM (l.getD i N3):=by rw[cu (by simpa using hi),cu hi,List.getElem_map]
theorem VK (l:ax aH):gz (l.map wrM)=gz l:=by
 unfold gz;rw[bH];congr 1;rw[cH,aF,aF];have key:∀i,i<l.length->Qm (l.map wrM) i=Qm l i:=by
  intro i hi;unfold Qm;rw[getD_map hi];congr 1;rw[cH,aF,aF];constructor;intro h j hj;have hjl:j<l.length:=by have:=bB.1 hj;omega
  have:=h j hj;rw[getD_map hjl]at this;exact this;intro h j hj;have hjl:j<l.length:=by have:=bB.1 hj;omega
  rw[getD_map hjl];exact h j hj
 constructor;intro h i hi;rw[<-key i (bB.1 hi)];exact h i hi;intro h i hi;rw[key i (bB.1 hi)];exact h i hi
theorem aj6 (l:ax aH)(d p:Int):uW (l.map wrM) d p true=uW l d p false:=by
 unfold uW;rw[List.findIdx?_map];have e:(I5 d p true∘wrM)=I5 d p false:=by funext x;simp only[Function.comp,I5,sO,wrM,bt,hZ,iO]
 rw[e];cases hf:l.findIdx? (I5 d p false)with|none=>rfl|some i=>obtain⟨hi,_⟩:=List.findIdx?_eq_some_iff_getElem.1 hf;simp only[getD_map hi];rfl
theorem TD (l:ax aH)(m:bP)(d:Int):∀n a r,mP (l.map wrM) m d true n a r=mP l m d false n a r
 |0,a,r=>rfl
 |n+1,a,r=>by simp only[mP,aj6,TD l m d n]
theorem amp (l:ax aH)(m:bP)(d a:Int)(s:Bytes):jb (l.map wrM) m d a s true=jb l m d a s false:=by
 have e:lO (l.map wrM) m d a (s.length:Int) true=lO l m d a (s.length:Int) false:=by simp only[lO,VK,TD]
 simp only[jb,e]
theorem Si (l:ax aH)(m:bP)(d a:Int)(s:Bytes)(hl:l.length<=10^9)(hm:m.length<=10^9)(ha:a<=9223372036854775807):xP l m d a s=some (jb l m d a s false):=by unfold xP;refine dE (λi=>((l.take i).map wrM,(i:Int))) l.length (by omega) (λi nx hi=>?_) (λnx=>?_);simp only[rZ];rw[jI,br hi,ak];simp only[ah,ab];rw[aR (by simp;omega),bc hi,dF];rfl;simp only[rZ];rw[cC,af,cE,KT _ m d a s (by rw[bH];exact hl) hm ha,amp];rfl
theorem DF (l:ax aH)(m:bP)(d a:Int)(s:Bytes)(hl:l.length<=10^9)(hm:m.length<=10^9)(ha:a<=9223372036854775807:=by omega):kz l m d a s=some (jb l m d a s false):=by rw[kz,Yb l m d a s false hl hm ha];rfl
def wq (d:Ha):Bool:=db d.1 0 3&&(db d.2.1 0 3&&(db d.2.2.1 0 65535&&(db d.2.2.2.2.1 0 65535&&(db d.2.2.2.2.2 0 65535&&db d.2.2.2.1 0 4294967295))))
theorem X4 (d:Ha):Aa d=some (wq d):=by simp only[Aa,cm,ab,wq];cases db d.1 0 3<;>cases db d.2.1 0 3<;>cases db d.2.2.1 0 65535<;>cases db d.2.2.2.2.1 0 65535<;>cases db d.2.2.2.2.2 0 65535<;>rfl
theorem akw (d:Ha):Dl d=some (wq d):=by simp only[Dl,dQ,ab,wq];cases db d.1 0 3<;>cases db d.2.1 0 3<;>cases db d.2.2.1 0 65535<;>cases db d.2.2.2.2.1 0 65535<;>cases db d.2.2.2.2.2 0 65535<;>rfl
def AR (d:Ha):Bytes:=
 bif wq d then((((aO [gF d.1,gF d.2.1]++aW d.2.2.1)++dh d.2.2.2.1)++aW d.2.2.2.2.1)++aW d.2.2.2.2.2)++dh 0 else []
theorem amw (d:Ha):vI d=some (AR d):=by have h1:=bT d.2.2.1;have h2:=dS d.2.2.2.1;have h3:=bT d.2.2.2.2.1;have h4:=bT d.2.2.2.2.2;have h5:=dS 0;have h0:(aO [gF d.1,gF d.2.1]).length=2:=rfl;unfold vI AR;rw[akw,ab];cases wq d;rfl;simp only[aj,af,ah,nQ,mA,ab];rw[aR,aR (by simp only[ai];omega),aR (by simp only[ai];omega),aR (by simp only[ai];omega),aR (by simp only[ai];omega)]
theorem Vy (d:Ha):mU d=some (AR d):=by have h1:=bT d.2.2.1;have h2:=dS d.2.2.2.1;have h3:=bT d.2.2.2.2.1;have h4:=bT d.2.2.2.2.2;have h5:=dS 0;have h0:(aO [gF d.1,gF d.2.1]).length=2:=rfl;unfold mU AR;rw[X4,ab];cases wq d;rfl;simp only[aj,af,ah,mh,wa,ab];rw[aR,aR (by simp only[ai];omega),aR (by simp only[ai];omega),aR (by simp only[ai];omega),aR (by simp only[ai];omega)]
def qA (r:kY):Int:=bif dz r then au (r.2.1-bV r) else 0
def qL (r:kY)(c:Int):Int:=bif !dz r||decide (c<0) then-1 else r.1+tmod c r.2.1*16
theorem mJ (h:dz r=true):0<=r.1/\r.1<=130944/\(r.2.1=2\/r.2.1=4\/r.2.1=8\/r.2.1=16)/\0<=r.2.2.1/\r.2.2.1<=2*r.2.1-1/\0<=r.2.2.2/\r.2.2.2<=2*r.2.1-1:=by simp only[dz,ae,aS]at h;exact⟨h.1.1,h.1.2,iM.1 h.2.1,h.2.2.1.1,h.2.2.1.2,h.2.2.2.1.1,h.2.2.2.1.2⟩
theorem GQ (r:kY)(c:Int): -1<=qL r c/\qL r c<=200000:=by
 unfold qL;cases hc: !dz r||decide (c<0)with
 |true=>exact⟨cR _,by simp⟩
 |false=>
  simp only[cn,dM,cL]at hc;have h:=mJ hc.1;have h2:0<=tmod c r.2.1/\tmod c r.2.1<r.2.1:=by rw[dK (by omega)];exact⟨fJ _ (by omega),fL _ (by omega)⟩
  simp only[af];omega
def dm (l:ax aH)(m:bP)(d:Int)(r:kY)(s:Bytes):bP×kY×Bool:=
 bif (qA r==0)||((s.length:Int) !=16) then(m,r,false) else
 bif !(jb l m d (qL r r.2.2.2) s true).2 then(m,r,false) else
 ((jb l m d (qL r r.2.2.2) s true).1,(r.1,r.2.1,r.2.2.1,tmod (r.2.2.2+1) (2*r.2.1)),true)
theorem Me {a:Int}{w:Bool}(h:(jb l m d a s w).2=false):(jb l m d a s w).1=m:=by unfold jb at h⊢;cases hr:(lO l m d a (s.length:Int) w).2 with|false=>rfl|true=>rw[hr]at h;cases h
theorem Ms (r:kY):vh r=some (qA r):=by unfold vh qA;rw[Q0,ab];cases dz r;rfl;simp only[aj,af,ah,ZM,ab]
theorem ahf (r:kY)(c:Int):tX r c=some (qL r c):=by
 have uB:=GQ r c;unfold tX;rw[Q0,ab];unfold qL at uB⊢;cases hb:dz r;rfl;have h:=mJ hb;by_cases hc:c<0;rw[ar hc];rfl;rw[hb,aq hc]at uB;rw[aq hc];have h2:0<=tmod c r.2.1/\tmod c r.2.1<r.2.1:=by rw[dK (by omega)];exact⟨fJ _ (by omega),fL _ (by omega)⟩
 simp only[aj,af,ab,cl]at uB⊢;rw[nU,ak (n:=16*tmod c r.2.1),ak];congr 1;omega
theorem ZK (l:ax aH)(m:bP)(d:Int)(r:kY)(s:Bytes)(hl:l.length<=10^9)(hm:m.length<=10^9):Bp l m d r s=some (dm l m d r s):=by
 have hA:=GQ r r.2.2.2;unfold Bp dm;simp only[Ms,ab,ahf,KT l m d _ s hl hm (show qL r r.2.2.2<=9223372036854775807 by omega),E1 m (show m.length<=1073741824 by omega)];cases hf:qA r==0;case true=>rfl
 cases (s.length:Int) !=16;case true=>rfl
 have hb:dz r=true:=by cases hb:dz r with|true=>rfl|false=>unfold qA at hf;rw[hb]at hf;cases hf
 have h:=mJ hb;simp only[af,ab,cl];cases hp:(jb l m d (qL r r.2.2.2) s true).2 with|false=>simp only[bt,ah,Me hp]|true=>simp only[aj,af];rw[ak (n:=2*r.2.1),nU,ak (n:=r.2.2.2+1)]
theorem S9 (r:kY):uP r=some (qA r):=by unfold uP qA;rw[zZ,ab];cases dz r;rfl;simp only[aj,af,ah,Ci,ab]
theorem Te (r:kY)(c:Int):oS r c=some (qL r c):=by
 have uB:=GQ r c;unfold oS;rw[zZ,ab];unfold qL at uB⊢;cases hb:dz r;rfl;have h:=mJ hb;by_cases hc:c<0;rw[ar hc];rfl;rw[hb,aq hc]at uB;rw[aq hc];have h2:0<=tmod c r.2.1/\tmod c r.2.1<r.2.1:=by rw[dK (by omega)];exact⟨fJ _ (by omega),fL _ (by omega)⟩
 simp only[aj,af,ab,cl]at uB⊢;rw[nU,ak (n:=tmod c r.2.1*16),ak]
theorem M0 (l:ax aH)(m:bP)(d:Int)(r:kY)(s:Bytes)(hl:l.length<=10^9)(hm:m.length<=10^9):xp l m d r s=some (dm l m d r s):=by
 have hA:=GQ r r.2.2.2;unfold xp dm;simp only[S9,ab,Te,ET l m d _ s hl hm (show qL r r.2.2.2<=9223372036854775807 by omega),gM m (show m.length<=1073741824 by omega)];cases hf:qA r==0;case true=>rfl
 cases (s.length:Int) !=16;case true=>rfl
 have hb:dz r=true:=by cases hb:dz r with|true=>rfl|false=>unfold qA at hf;rw[hb]at hf;cases hf
 have h:=mJ hb;simp only[af,ab,cl];cases hp:(jb l m d (qL r r.2.2.2) s true).2 with|false=>simp only[bt,ah,Me hp]|true=>simp only[aj,af];rw[ak (n:=2*r.2.1),nU,ak (n:=r.2.2.2+1)]
theorem Bj {p:dB}(h:ee p=true):0<=p.1/\p.1<=130944/\1<=p.2.1/\p.2.1<=512/\0<=p.2.2.1/\p.2.2.1<=16:=by simp only[ee,ae,aS]at h;exact⟨h.1.1,h.1.2,h.2.1.1,h.2.1.2,h.2.2.1.1,h.2.2.1.2⟩
def qx (p:dB)(i:Int):Int:=bif !ee p|| !db i 0 (p.2.2.1-1) then-1 else p.1+i*p.2.1
theorem ads {p:dB}{i:Int}(hp:ee p=true)(hi:db i 0 (p.2.2.1-1)=true):au (p.1+au (i*p.2.1))=p.1+i*p.2.1:=by have h:=Bj hp;have h2:=aS.1 hi;have h3:0<=i*p.2.1:=Int.mul_nonneg h2.1 (by omega);have h4:i*p.2.1<=16*512:=Int.mul_le_mul (by omega) (by omega) (by omega) (by omega);rw[ak (n:=i*p.2.1),ak]
theorem akv (p:dB)(i:Int)(h:p.2.2.2.length<=10^9):qo p i=some (qx p i):=by unfold qo qx;rw[KV p h,ab];cases hp:ee p;rfl;have uB:=Bj hp;rw[ak (n:=p.2.2.1-1),dQ];cases hi:db i 0 (p.2.2.1-1);rfl;simp only[aj,af,ab,cl,ads hp hi]
theorem J4 (p:dB)(i:Int)(h:p.2.2.2.length<=10^9):gI p i=some (qx p i):=by unfold gI qx;rw[xa p h,ab];cases hp:ee p;rfl;have uB:=Bj hp;rw[ak (n:=p.2.2.1-1),cm];cases hi:db i 0 (p.2.2.1-1);rfl;simp only[aj,af,ab,cl,ads hp hi]
def upto (n:Nat):bW:=(List.range n).map Int.ofNat
theorem T8 (n:Nat):upto (n+1)=upto n++[(n:Int)]:=by simp[upto,gZ]
theorem alf (h:i<n):(upto n).getD i 0=(i:Int):=by rw[cu (by simpa[upto]using h)];simp[upto]
theorem acH (a b:Int)(n:Nat)(hn:n<=16):ee (a,b,(n:Int),upto n)=ee (a,b,(n:Int),[]):=by
 unfold ee;congr 3;have h1:(List.range (upto n).length).all (Ge (n:Int) (upto n))=true:=by
  rw[aF];intro i hi;have hi:i<n:=by simpa[upto]using hi
  simp only[Ge,alf hi,ae,aS,aN];refine⟨by omega,?_⟩;rw[Bool.eq_false_iff,ne_eq,List.contains_iff_mem];intro hm;simp only[upto,<-List.map_take,eG]at hm;obtain⟨j,hj,he⟩:=hm;rw[List.take_range]at hj;have:=bB.1 hj;have:(j:Int)=(i:Int):=he;omega
 rw[h1];rfl
def iK (a b n:Int):dB×Bool:=bif ee (a,b,n,[]) then((a,b,n,upto n.toNat),true) else((0,0,0,[]),false)
theorem MY (a b n:Int):xm a b n=some (iK a b n):=by
 unfold xm iK;rw[xa _ (by simp),ab];cases hp:ee (a,b,n,[]);rfl;have uB:=Bj hp;obtain⟨n,rfl⟩:=aD (show 0<=n from uB.2.2.2.2.1);have h16:n<=16:=by have:=uB.2.2.2.2.2;simp only at this;omega
 simp only[aj,af,ah,aw];refine dE (λi=>((i:Int),a,b,(n:Int),upto i)) n (by omega) (λi nx hi=>?_) (λnx=>?_);simp only[vw];rw[jI,aR (by simp[upto];omega),ak,T8];rfl;simp only[vw];rw[cC];rfl
theorem No (a b n:Int):xR a b n=some (iK a b n):=by
 have D5:=eS;unfold xR iK;by_cases hn:0<=n/\n<=16;obtain⟨n,rfl⟩:=aD hn.1;have h16:n<=16:=by omega
 refine dE (λi=>((i:Int),a,b,(n:Int),upto i)) n (by omega) (λi nx hi=>?_) (λnx=>?_);simp only[qN];rw[ar (show(i:Int)<n by omega),ar (show(n:Int)<=16 by omega)];simp only[ah,ab];rw[aR (by simp[upto];omega),ak,T8];rfl;simp only[qN];rw[aq (show¬(n:Int)<n by omega)];simp only[af,ab,KV (a,b,(n:Int),upto n) (show(upto n).length<=10^9 by simp[upto];omega),acH a b n h16,aw];cases ee (a,b,(n:Int),[])<;>rfl;have hb:ee (a,b,n,[])=false:=by cases hp:ee (a,b,n,[])with|false=>rfl|true=>have:=Bj hp;exact absurd ⟨this.2.2.2.2.1,this.2.2.2.2.2⟩ hn
 obtain⟨f,hf⟩:∃f,fuel=f+1:=⟨fuel-1,by omega⟩
 rw[hf,bl];simp only[qN];have hc:(cond (decide ((0:Int)<n)) (some (decide (n<=16))) (some false))=some false:=by by_cases h0:(0:Int)<n;rw[ar h0,cC];rfl;rw[aq h0];rfl
 rw[hc];simp only[ab,af,KV (a,b,n,[]) (show([]:bW).length<=10^9 by simp),hb];rfl
def fQ (p:dB)(b:Int):Bytes:=AR (3,0,p.2.1,qx p b,0,b)
def nX (l:ax aH)(d:Int)(p:dB):bW->bP->kY->Nat×bP×kY
 |[],m,r=>(0,m,r)
 |b::q,m,r=>bif (dm l m d r (fQ p b)).2.2 then
   ((nX l d p q (dm l m d r (fQ p b)).1 (dm l m d r (fQ p b)).2.1).1+1,(nX l d p q (dm l m d r (fQ p b)).1 (dm l m d r (fQ p b)).2.1).2)
  else(0,m,r)
theorem xL (l:ax aH)(m:bP)(d:Int)(r:kY)(s:Bytes):(dm l m d r s).1.length=m.length:=by
 unfold dm;cases (qA r==0)||((s.length:Int) !=16);case true=>rfl
 cases (jb l m d (qL r r.2.2.2) s true).2 with|false=>rfl|true=>exact ll ..
theorem Lx (l:ax aH)(d:Int)(p:dB):∀(q:bW)(m:bP)(r:kY),(nX l d p q m r).2.1.length=m.length/\(nX l d p q m r).1<=q.length
 |[],m,r=>⟨rfl,bj _⟩
 |b::q,m,r=>by rw[nX];cases (dm l m d r (fQ p b)).2.2 with|false=>exact⟨rfl,cg _⟩|true=>have:=Lx l d p q (dm l m d r (fQ p b)).1 (dm l m d r (fQ p b)).2.1;simp only[ah,aU];exact⟨by rw[this.1,xL],by omega⟩
theorem aiV (r:kY):0<=qA r:=by
 unfold qA;cases hb:dz r with
 |false=>exact cR _
 |true=>
  have h:=mJ hb;simp only[dz,ae,aE]at hb;have hu:=hb.2.2.2.2;have h0:0<=bV r:=by unfold bV;split;exact fJ _ (by omega);exact cR _
  simp only[ah];rw[ak];omega
theorem VX (h:¬qA r>0):dm l m d r s=(m,r,false):=by
 have h0:=aiV r;have:qA r=0:=by omega
 unfold dm;rw[this];rfl
theorem J6 (K:Int->Int->kY->bP->az R)(K':Nat->kY->bP->az R)(hK:∀(c:Nat) i r m,K (c:Int) i r m=K' c r m)(l:ax aH)(d:Int)(p p2 p3:dB)(hp:p.2.2.2.length<=10^9)(hl:l.length<=10^9):∀(rest pre:bW)(m:bP)(r:kY)(f:Nat),rest.length<f->pre.length+rest.length<=10^9->m.length<=10^9->
 bl (oL K l d (pre++rest) ((pre++rest).length:Int) p ([]:bP) (0,0,0,0) p2 p3) f ((pre.length:Int),(pre.length:Int),r,m)=K' (pre.length+(nX l d p rest m r).1) (nX l d p rest m r).2.2 (nX l d p rest m r).2.1
 |rest,pre,m,r,0,hf,_,_=>by omega
 |[],pre,m,r,f+1,_,_,_=>by rw[bl];simp only[oL];rw[aq (by simp),af,hK];rfl
 |b::q,pre,m,r,f+1,hf,hn,hm=>by
  simp only[aU]at hf hn;have hi:pre.length<(pre++b::q).length:=by simp
  have hb:(pre++b::q)[pre.length]=b:=by simp
  rw[bl];simp only[oL];rw[ar (by simp;omega),br hi,hb];simp only[ah,ab,J4 p b hp,Vy,M0 l m d r _ hl hm];rw[show AR (3,0,p.2.1,qx p b,0,b)=fQ p b from rfl,nX];cases hq:(dm l m d r (fQ p b)).2.2 with
  |false=>simp only[bt,ah,af,hK,eP]
  |true=>
   simp only[aj,af,ah];rw[ak (n:=(pre.length:Int)+1)];have key:=J6 K K' hK l d p p2 p3 hp hl q (pre++[b]) (dm l m d r (fQ p b)).1 (dm l m d r (fQ p b)).2.1 f (by omega) (by simp;omega) (by rw[xL];exact hm);have el:((pre++[b]).length:Int)=(pre.length:Int)+1:=by simp
   have el2:(pre++[b]).length=pre.length+1:=by simp
   rw[aL,List.singleton_append,el,el2]at key;rw[show pre.length+((nX l d p q (dm l m d r (fQ p b)).1 (dm l m d r (fQ p b)).2.1).1+1)=pre.length+1+(nX l d p q (dm l m d r (fQ p b)).1 (dm l m d r (fQ p b)).2.1).1 by omega];exact key
theorem KU (K:Int->kY->bP->dB->az R)(l:ax aH)(d:Int)(p p2:dB)(hp:p.2.2.2.length<=10^9)(hl:l.length<=10^9)(A B C:Int):∀(rest:bW)(c:Nat)(m:bP)(r:kY)(f:Nat),rest.length<f->c+rest.length<=10^9->m.length<=10^9->
 bl (pt K l d p ([]:bP) (0,0,0,0) p2) f ((c:Int),r,m,A,B,C,rest)=K ((c+(nX l d p rest m r).1:Nat):Int) (nX l d p rest m r).2.2 (nX l d p rest m r).2.1 (A,B,C,rest.drop (nX l d p rest m r).1)
 |rest,c,m,r,0,hf,_,_=>by omega
 |[],c,m,r,f+1,_,_,_=>by
  rw[bl];simp only[pt,Ms,ab];have hc:(cond (decide (qA r>0)) (some (decide ((([]:bW).length:Int)>0))) (some false))=some false:=by cases decide (qA r>0)<;>rfl
  rw[hc];rfl
 |b::q,c,m,r,f+1,hf,hn,hm=>by
  simp only[aU]at hf hn;rw[bl];simp only[pt,Ms,ab];by_cases hr:qA r>0;rw[ar hr,ar (show(((b::q).length:Nat):Int)>0 by simp)];have hi:idx (b::q) 0=some b:=rfl;have hs:sub (b::q) 1 ((b::q).length:Int)=some q:=by unfold sub;rw[aI (by simp;omega)];simp
  simp only[ah,ab,hi,akv p b hp,amw,ZK l m d r _ hl hm];rw[show AR (3,0,p.2.1,qx p b,0,b)=fQ p b from rfl,nX];cases hq:(dm l m d r (fQ p b)).2.2 with|false=>rfl|true=>simp only[aj,af,ah,hs,ab];rw[my,ak (n:=(c:Int)+1),cd];have key:=KU K l d p p2 hp hl A B C q (c+1) (dm l m d r (fQ p b)).1 (dm l m d r (fQ p b)).2.1 f (by omega) (by omega) (by rw[xL];exact hm);rw[show((c+1:Nat):Int)=(c:Int)+1 by omega]at key;refine Eq.trans key ?_;rw[show c+1+(nX l d p q (dm l m d r (fQ p b)).1 (dm l m d r (fQ p b)).2.1).1=c+((nX l d p q (dm l m d r (fQ p b)).1 (dm l m d r (fQ p b)).2.1).1+1) by omega];rfl
  rw[aq hr,nX,VX hr];rfl
def wv (l:ax aH)(m:bP)(d:Int)(r:kY)(p:dB):bP×kY×dB×Int:=
 bif !dz r|| !ee p then(m,r,p,0) else
 ((nX l d p p.2.2.2 m r).2.1,(nX l d p p.2.2.2 m r).2.2,(p.1,p.2.1,p.2.2.1,p.2.2.2.drop (nX l d p p.2.2.2 m r).1),((nX l d p p.2.2.2 m r).1:Int))
theorem X6 (l:ax aH)(m:bP)(d:Int)(r:kY)(p:dB)(hl:l.length<=10^9)(hm:m.length<=10^9)(hp:p.2.2.2.length<=10^9):jf l m d r p=some (wv l m d r p):=by have D5:=eS;unfold jf wv;simp only[gM m (show m.length<=1073741824 by omega),wo p hp,zZ,xa p hp,ab];cases dz r;rfl;cases ee p;rfl;simp only[aj,af,ab,cl];have hlen:=(Lx l d p p.2.2.2 m r).2;refine(J6 _ (λc r m=>aa (sub p.2.2.2 (c:Int) (p.2.2.2.length:Int)) λOD=>aa (gC OD) λAL=>some (m,r,(p.1,p.2.1,p.2.2.1,AL),(c:Int))) (λ_ _ _ _=>rfl) l d p _ p hp hl p.2.2.2 [] m r fuel (by omega) (by simp;omega) hm).trans ?_;rw[dg,cy,Wk _ _ _ hlen (bj _),ab,cf (by rw[aJ];exact bj _),lL _ (by rw[aJ];omega)];rfl
theorem akx (l:ax aH)(m:bP)(d:Int)(r:kY)(p:dB)(hl:l.length<=10^9)(hm:m.length<=10^9)(hp:p.2.2.2.length<=10^9):zH l m d r p=some (wv l m d r p):=by have D5:=eS;unfold zH wv;simp only[E1 m (show m.length<=1073741824 by omega),ab4 p hp,Q0,KV p hp,ab];cases dz r;rfl;cases ee p;rfl;simp only[aj,af,ab,cl];refine(KU _ l d p _ hp hl p.1 p.2.1 p.2.2.1 p.2.2.2 0 m r fuel (by omega) (by omega) hm).trans ?_;rw[cy]
def lP (p:dB)(n:Int):dB×bW×Bool:=bif ee p&&db n 0 (p.2.2.2.length:Int) then((p.1,p.2.1,p.2.2.1,p.2.2.2.drop n.toNat),p.2.2.2.take n.toNat,true) else(p,[],false)
theorem afW (p:dB)(n:Int)(h:p.2.2.2.length<=10^9):tI p n=some (lP p n):=by unfold tI lP;rw[wo p h,ab,xa p h,ab,cm];cases ee p;rfl;cases hi:db n 0 (p.2.2.2.length:Int);rfl;have hn:=aS.1 hi;obtain⟨n,rfl⟩:=aD hn.1;simp only[aj,af,ab,bR,ah,aw];rw[K4 _ n (by omega),ab,lL _ (by simp;omega),ab,show sub p.2.2.2 0 (n:Int)=some (p.2.2.2.take n) from by rw[BD (by omega) hn.2,aw],ab,lL _ (by simp;omega),ab]
theorem FV:∀l:ax pQ,(∀x∈l,0<=x.2.1/\x.2.1<=16)->0<=eF l/\eF l<=16*(l.length:Int)
 |[],_=>by simp[eF]
 |y::l,h=>by have h1:=FV l (λx hx=>h x (dY _ hx));have h2:=h y (List.mem_cons_self ..);simp only[eF,dk,fW,aU]at h1⊢;omega
theorem aaC (l:ax pQ)(i:Nat)(hi:i<l.length):eF (l.take (i+1))=eF (l.take i)+l[i].2.1:=by rw[bc hi];simp only[eF,dF,List.sum_append,dk,List.map_nil,fW,List.sum_nil,Int.add_zero]
theorem afR (t:eD)(h:t.2.2.1.length<=1000000)(hs:∀x∈t.2.2.1,0<=x.2.1/\x.2.1<=16):rX t=some (eF t.2.2.1):=by
 have D5:=eS;unfold rX;refine dE (λi=>(eF (t.2.2.1.take i),(i:Int))) t.2.2.1.length (by omega) (λi nx hi=>?_) (λnx=>?_);have hb:=FV (t.2.2.1.take i) (λx hx=>hs x (List.mem_of_mem_take hx));have hc:=hs _ (aM hi);have hl:(t.2.2.1.take i).length<=1000000:=by rw[aV];omega
 rw[aaC _ _ hi];simp only[nv];rw[jI,ah,br hi,ab,ak (n:=(i:Int)+1),ak];rfl;simp only[nv];rw[cC,af,cE]
def tR (l:ax aH)(d:Int):bP->bP->kY->az (bP×kY)
 |[],m,r=>some (m,r)
 |s::q,m,r=>bif (dm l m d r s).2.2 then tR l d q (dm l m d r s).1 (dm l m d r s).2.1 else none
def ann (m:bP)(r:kY):az (bP×kY)->bP×kY×Bool
 |some x=>(x.1,x.2,true)
 |none=>(m,r,false)
def xJ (l:ax aH)(m:bP)(d:Int)(r:kY)(q:bP):bP×kY×Bool:=ann m r (tR l d q m r)
theorem Ni (l:ax aH)(d:Int):∀(q:bP)(m:bP)(r:kY){x},tR l d q m r=some x->x.1.length=m.length
 |[],m,r,x,h=>by cases h;rfl
 |s::q,m,r,x,h=>by rw[tR]at h;cases hq:(dm l m d r s).2.2 with|false=>rw[hq]at h;cases h|true=>rw[hq]at h;exact(Ni l d q _ _ h).trans (xL ..)
theorem Gt (l:ax aH)(d:Int)(M:bP)(A B2:kY)(B1:bP)(hl:l.length<=10^9)(hM:M.length<=10^9):∀(rest pre:bP)(m:bP)(r:kY)(f:Nat),rest.length<f->(pre++rest).length<=10^9->m.length<=10^9->
 bl (mn (λ_ y6 y7=>some (y6,y7,true)) (λy8 _ DW CH _ _=>some (DW,CH,y8)) l d false (pre++rest) ((pre++rest).length:Int) M A B1 B2) f ((pre.length:Int),m,r)=some (ann M A (tR l d rest m r))
 |rest,pre,m,r,0,hf,_,_=>by omega
 |[],pre,m,r,f+1,_,_,_=>by rw[bl];simp only[mn];rw[aq (by simp),af];rfl
 |s::q,pre,m,r,f+1,hf,hn,hm=>by
  simp only[aU,ai]at hf hn;have hi:pre.length<(pre++s::q).length:=by simp
  have hb:(pre++s::q)[pre.length]=s:=by simp
  rw[bl];simp only[mn];rw[ar (by simp;omega),br hi,hb];simp only[ah,ab,M0 l m d r _ hl hm];rw[tR];cases hq:(dm l m d r s).2.2 with
  |false=>simp only[bt,ah,af,gM M,ab];rfl
  |true=>
   simp only[aj,af,ah];rw[ak (n:=(pre.length:Int)+1)];have key:=Gt l d M A B2 B1 hl hM q (pre++[s]) (dm l m d r s).1 (dm l m d r s).2.1 f (by omega) (by simp;omega) (by rw[xL];exact hm);have el:((pre++[s]).length:Int)=(pre.length:Int)+1:=by simp
   rw[aL,List.singleton_append,el]at key;exact key
theorem abQ (l:ax aH)(m:bP)(d:Int)(r:kY)(q:bP)(hl:l.length<=10^9)(hm:m.length<=10^9)(hq:q.length<=10^9):kS l m d r q=some (xJ l m d r q):=by have D5:=eS;unfold kS xJ;rw[gM m,ab];exact Gt l d m r _ _ hl hm q [] m r fuel (by omega) (by simpa using hq) hm
theorem Qx (l:ax aH)(m:bP)(d:Int)(w:Bool):∀(n a r:Nat)(q:ax (Int×Int)),mP l m d w n a r=some q->q.length<=n
 |0,a,r,q,h=>by simp only[mP,bq]at h;subst h;simp
 |n+1,a,r,q,h=>by simp only[mP]at h;split at h;simp only[bq]at h;subst h;simp;split at h;simp only[Option.map_eq_some_iff]at h;obtain⟨q',h1,rfl⟩:=h;have:=Qx l m d w n _ _ q' h1;simp only[aU];omega;cases h
theorem Mn (l:ax aH)(m:bP)(d a n:Int)(w:Bool):(lO l m d a n w).1.length<=4096:=by
 unfold lO;cases hB:gz l&&(de m&&db n 0 4096);simp;simp only[ae,aS]at hB;simp only[ah];cases n==0;case true=>simp
 cases decide (a<0);case true=>simp
 simp only[af];split;rename_i q hq;have:=Qx _ _ _ _ _ _ _ _ hq;show q.length<=4096;omega;simp
def yD (m:bP)(p:Int×Int):Bytes:=bif gX m p.1 p.2 then Er m p.1.toNat p.2.toNat else []
theorem Iq (m:bP)(p:Int×Int):(yD m p).length<=8192:=by unfold yD;cases h:gX m p.1 p.2 with|false=>simp|true=>simp only[gX,ae,aE]at h;have:=akf m p.1.toNat p.2.toNat;have:=(mem_iff.1 h.1).2;simp only[ah];omega
theorem xN (m:bP):∀q:ax (Int×Int),(q.flatMap (yD m)).length<=8192*q.length
 |[]=>by simp
 |p::q=>by have:=xN m q;have:=Iq m p;simp only[List.flatMap_cons,ai,aU];omega
def uu (l:ax aH)(m:bP)(d a n:Int):Bytes×Bool:=
 bif (lO l m d a n false).2 then((lO l m d a n false).1.flatMap (yD m),true) else([],false)
theorem U8 {α β:Type}(g:α->ax β)(l:ax α)(i:Nat)(hi:i<l.length):(l.take (i+1)).flatMap g=(l.take i).flatMap g++g l[i]:=by rw[bc hi,List.flatMap_append];simp
theorem C8 (l:ax aH)(m:bP)(d a n:Int)(hl:l.length<=10^9)(hm:m.length<=10^9)(ha:a<=9223372036854775807):pV l m d a n=some (uu l m d a n):=by
 unfold pV uu;rw[Yc l m d a n false hl hm ha,ab];have hL:=Mn l m d a n false;generalize lO l m d a n false=r at hL⊢;cases hr:r.2;rfl;simp only[aj,af,ah];refine(dE (λi=>((r.1.take i).flatMap (yD m),(i:Int))) r.1.length (by omega) (λi nx hi=>?_) (λnx=>?_));simp only[vt];rw[jI,br hi,ak];have e:qH m r.1[i].1 r.1[i].2=some (yD m r.1[i],gX m r.1[i].1 r.1[i].2):=by rw[ajx m _ _ hm,yD];cases gX m r.1[i].1 r.1[i].2<;>rfl
 have h1:=xN m (r.1.take i);have h2:=Iq m r.1[i];simp only[ah,ab,e];rw[aR (by rw[aV]at h1;omega),<-U8];rfl;simp only[vt];rw[cC,cE];rfl
theorem Pc (l:ax aH)(m:bP)(d a n:Int):(uu l m d a n).1.length<=100000000:=by have hL:=Mn l m d a n false;have h1:=xN m (lO l m d a n false).1;unfold uu;cases (lO l m d a n false).2 with|false=>simp|true=>simp only[ah];omega
def EI (s:Bytes):Jn×Int×Bool:=
 bif ((s.length:Int) !=16)||decide (dU s 12>1) then((0,0,0,0,0),0,false) else((cp s 0,cp s 2,cp s 4,cp s 6,dU s 8),dU s 12,true)
theorem abH (s:Bytes)(h:s.length<=10^9):mD s=some (EI s):=by
 unfold mD EI;cases (s.length:Int) !=16;case true=>rfl
 simp only[yx s _ h,yy s _ h,ab,af,cJ];cases decide (dU s 12>1)<;>rfl
def Cs (q:uA):Int:=bif decide (q.2.2<q.2.1) then 1 else 0
theorem Tb (q:uA):xA q=some (Cs q):=by unfold xA Cs;cases decide (q.2.2<q.2.1)<;>rfl
theorem xM {q:uA}(h:gE q=true):0<=q.1/\q.1<=130944/\(q.2.1=2\/q.2.1=4\/q.2.1=8\/q.2.1=16)/\0<=q.2.2/\q.2.2<=2*q.2.1-1:=by simp only[gE,ae,aS]at h;obtain⟨h1,h2,h3⟩:=h;rw[BS h2]at h3;exact⟨h1.1,h1.2,iM.1 h2,h3⟩
def uo (q:uA):Int:=q.1+tmod q.2.2 q.2.1*16
theorem Wo {a:Int}(h:0<=a:=by omega)(hb:0<b:=by omega):0<=tmod a b/\tmod a b<b:=by rw[dK h];exact⟨fJ _ (by omega),fL _ hb⟩
theorem V6 {q:uA}(h:gE q=true):0<=tmod q.2.2 q.2.1/\tmod q.2.2 q.2.1<16:=by obtain⟨_,_,h3,h4,h5⟩:=xM h;have:=Wo h4 (show 0<q.2.1 by omega);omega
theorem Tf (q:uA)(h:gE q=true):oX q=some (uo q):=by obtain⟨h1,h2,h3,h4,h5⟩:=xM h;have:=V6 h;unfold oX uo;rw[nU,ak (n:=tmod q.2.2 q.2.1*16),ak]
def anm (q:uA):uA:=(q.1,q.2.1,tmod (q.2.2+1) (2*q.2.1))
def VQ (l:ax aH)(m:bP)(d:Int)(q:uA):Bool:=
 gE q&&((uu l m d (uo q) 16).2&&((EI (uu l m d (uo q) 16).1).2.2&&((EI (uu l m d (uo q) 16).1).2.1==Cs q)))
def uj (l:ax aH)(m:bP)(d:Int)(q:uA):Jn×uA×Bool:=
 bif VQ l m d q then((EI (uu l m d (uo q) 16).1).1,anm q,true) else((0,0,0,0,0),q,false)
theorem aju (l:ax aH)(m:bP)(d:Int)(q:uA)(hl:l.length<=10^9)(hm:m.length<=10^9):oq l m d q=some (uj l m d q):=by unfold oq uj VQ;rw[LJ q,ab];cases hq:gE q;rfl;obtain⟨h1,h2,h3,h4,h5⟩:=xM hq;have hs:=V6 hq;have hd:=Pc l m d (uo q) 16;simp only[aj,af,Tf q hq,ab,C8 l m d (uo q) 16 hl hm (by unfold uo;omega),bn];cases (uu l m d (uo q) 16).2;rfl;simp only[aj,af,abH _ (bp hd (by omega)),ab,bn];cases (EI (uu l m d (uo q) 16).1).2.2;rfl;simp only[aj,af,Tb,ab,bn,bne];cases (EI (uu l m d (uo q) 16).1).2.1==Cs q;rfl;simp only[aj,af,ah];rw[ak (n:=2*q.2.1),nU,ak (n:=q.2.2+1)];rfl
theorem alC (p:dB)(i:Int):qx p i= -1\/(0<=qx p i/\qx p i<=200000):=by unfold qx;cases hp:ee p;exact .inl rfl;cases hi:db i 0 (p.2.2.1-1);exact .inl rfl;have h:=Bj hp;have h2:=aS.1 hi;have h3:0<=i*p.2.1:=Int.mul_nonneg h2.1 (by omega);have h4:i*p.2.1<=16*512:=Int.mul_le_mul (by omega) (by omega) (by omega) (by omega);simp only[aj,cl,af];exact .inr (by omega)
def aob (l:ax aH)(m:bP)(d a n:Int):Bool:=(uu l m d a n).2&&((jo (uu l m d a n).1).2==0)
def GG (l:ax aH)(m:bP)(d:Int)(s:ax Stream×cA×dB):ax Stream×cA×dB:=
 ((bif aob l m d (qx s.2.2 (uj l m d s.2.1.2.2.1).1.1) (uj l m d s.2.1.2.2.1).1.2.1 then F4 s.1 (jo (uu l m d (qx s.2.2 (uj l m d s.2.1.2.2.1).1.1) (uj l m d s.2.1.2.2.1).1.2.1).1).1 else s.1),
   (s.2.1.1,s.2.1.2.1,(uj l m d s.2.1.2.2.1).2.1,s.2.1.2.2.2),(IS s.2.2 [(uj l m d s.2.1.2.2.1).1.1]).1)
def lj (l:ax aH)(m:bP)(d:Int):Nat->ax Stream×cA×dB->Nat×(ax Stream×cA×dB)
 |0,s=>(0,s)
 |k+1,s=>bif !(uj l m d s.2.1.2.2.1).2.2 then(0,s) else((lj l m d k (GG l m d s)).1+1,(lj l m d k (GG l m d s)).2)
structure Ln (n:Nat) (s:List Stream×cA×dB):Prop where
 st:dj n (.sl fT) s.1
 pl:s.2.2.2.2.2.length<=n
theorem Xy (p:dB)(l:bW):(IS p l).1.2.2.2.length<=p.2.2.2.length+l.length:=by unfold IS;cases D2 p l with|false=>show p.2.2.2.length<=_;omega|true=>simp[im]
theorem QC {s:ax Stream×cA×dB}(h:Ln n s):Ln (n+322) (GG l m d s):=by
 refine⟨?_,?_⟩;unfold GG;cases aob l m d (qx s.2.2 (uj l m d s.2.1.2.2.1).1.1) (uj l m d s.2.1.2.2.1).1.2.1 with|false=>exact h.st.mono|true=>exact UX h.st
 have:=Xy s.2.2 [(uj l m d s.2.1.2.2.1).1.1];have h2:=h.pl;show(IS s.2.2 [(uj l m d s.2.1.2.2.1).1.1]).1.2.2.2.length<=_;simp only[ba]at this;omega
theorem Ka (K:ax Stream->Int->cA->dB->az R)(l:ax aH)(m:bP)(d:Int)(N:Nat)(hN:N<=1000)(B1:bP)(B2:cA)(B3:dB)(hl:l.length<=10^9)(hm:m.length<=10^9):∀(k i:Nat)(s:ax Stream×cA×dB)(f:Nat),i+k=N->k<f->Ln (500000000+322*i) s->
 bl (nq K l d (N:Int) B1 B2 B3 m) f (s.1,(i:Int),s.2.1,s.2.2)=K (lj l m d k s).2.1 ((i+(lj l m d k s).1:Nat):Int) (lj l m d k s).2.2.1 (lj l m d k s).2.2.2
 |k,i,s,0,_,hf,_=>by omega
 |0,i,s,f+1,hi,hf,z=>by rw[bl];simp only[nq];rw[cC,af];rfl
 |k+1,i,s,f+1,hi,hf,z=>by have nY:dj 900000000 (.sl fT) s.1:=z.st.mono;have Hu:s.2.2.2.2.2.length<=900000000:=bp z.pl (by omega);rw[bl];simp only[nq];rw[jI];simp only[ah,aju l m d _ hl hm,ab,lj];cases hnx:(uj l m d s.2.1.2.2.1).2.2 with|false=>rfl|true=>have key:=Ka K l m d N hN B1 B2 B3 hl hm k (i+1) (GG l m d s) f (by omega) (by omega) ((QC z).st.mono|>λa=>⟨a,bp (QC z).pl (by omega)⟩);rw[show i+1+(lj l m d k (GG l m d s)).1=i+((lj l m d k (GG l m d s)).1+1) by omega]at key;simp only[aj,af];rw[<-key];unfold GG;generalize uj l m d s.2.1.2.2.1=c;have ha:=alC s.2.2 c.1.1;have hd:=Pc l m d (qx s.2.2 c.1.1) c.1.2.1;simp only[J4 _ _ (show s.2.2.2.2.2.length<=10^9 by omega),C8 l m d _ c.1.2.1 hl hm (show qx s.2.2 c.1.1<=9223372036854775807 by omega),ab,Hy _ (bp hd (by omega)),Vw _ _ nY,P3 s.2.2 [c.1.1] (show s.2.2.2.2.2.length+1<=10^9 by omega)];rw[ak (n:=(i:Int)+1),show((i+1:Nat):Int)=(i:Int)+1 by omega];unfold aob;cases (uu l m d (qx s.2.2 c.1.1) c.1.2.1).2<;>cases (jo (uu l m d (qx s.2.2 c.1.1) c.1.2.1).1).2==0<;>rfl
theorem QB {l:ax aH}{m:bP}{d:Int}:∀(k:Nat){s:ax Stream×cA×dB}{n:Nat},Ln n s->Ln (n+322*k) (lj l m d k s).2
 |0,s,n,h=>h
 |k+1,s,n,h=>by rw[lj];cases (uj l m d s.2.1.2.2.1).2.2 with|false=>exact⟨h.st.mono,bp h.pl (by omega)⟩|true=>have:=QB (l:=l) (m:=m) (d:=d) k (QC (l:=l) (m:=m) (d:=d) h);exact⟨this.st.mono,bp this.pl (by omega)⟩
def kL (l:ax aH)(m:bP)(d:Int)(rx:cA)(pl:dB)(st:ax Stream)(n:Int):bP×cA×dB×ax Stream×Int:=
 bif !Ju rx||(!ee pl|| !db n 0 1000) then(m,rx,pl,st,0) else
 ((wv l m d (lj l m d n.toNat (st,rx,pl)).2.2.1.1 (lj l m d n.toNat (st,rx,pl)).2.2.2).1,
   ((wv l m d (lj l m d n.toNat (st,rx,pl)).2.2.1.1 (lj l m d n.toNat (st,rx,pl)).2.2.2).2.1,(lj l m d n.toNat (st,rx,pl)).2.2.1.2),
   (wv l m d (lj l m d n.toNat (st,rx,pl)).2.2.1.1 (lj l m d n.toNat (st,rx,pl)).2.2.2).2.2.1,(lj l m d n.toNat (st,rx,pl)).2.1,((lj l m d n.toNat (st,rx,pl)).1:Int))
theorem Ya (l:ax aH)(m:bP)(d:Int)(rx:cA)(pl:dB)(st:ax Stream)(n:Int)(hl:l.length<=10^9)(hm:m.length<=10^9)(hp:pl.2.2.2.length<=500000000)(hs:dj 500000000 (.sl fT) st):xn l m d rx pl st n=some (kL l m d rx pl st n):=by
 have D5:=eS;have hsl:st.length<=500000000:=hs.1;unfold xn kL;simp only[gM m (show m.length<=1073741824 by omega),wo pl (show pl.2.2.2.length<=10^9 by omega),Ay st,VE,xa pl (show pl.2.2.2.length<=10^9 by omega),cm,ab];cases Ju rx;rfl;cases ee pl;rfl;cases hn:db n 0 1000;rfl;have h:=aS.1 hn;obtain⟨n,rfl⟩:=aD h.1;simp only[aj,af,ab,cl,aw];have z:Ln (500000000+322*0) (st,rx,pl):=⟨hs,hp⟩
 have hz:=QB (l:=l) (m:=m) (d:=d) n z;refine(Ka _ l m d n (by omega) _ _ _ hl hm n 0 (st,rx,pl) fuel (by omega) (by omega) z).trans ?_;rw[cy];simp only[X6 l m d _ _ hl hm (show(lj l m d n (st,rx,pl)).2.2.2.2.2.2.length<=10^9 from bp hz.pl (by omega)),ab]
def iv (i:Nat):Int:=1280+(i:Int)*1792
theorem adn (h:i<=8):au (1280+au ((i:Int)*1792))=iv i:=by rw[ak (n:=(i:Int)*1792),ak];rfl
theorem X0 (i:Nat)(h:i<=8):sK (i:Int)=some (iv i):=by rw[sK,adn h]
theorem ql (a b n:Int)(h:n<=1000:=by omega):(iK a b n).1.2.2.2.length<=1000:=by unfold iK;cases ee (a,b,n,[])with|false=>simp|true=>simp[upto];omega
def GN (i:Nat):cA:=((iv i,4,0,0),(iv i+64,4,0),(iv i+64,4,0),((0,0,0,0,0,0,0,0,0,0,0,0,0,0,0,([]:Bytes)),0,0),false,0)
theorem afN (i:Nat)(h:i<=8):yB (i:Int)=some (GN i,(iK (iv i+128) 384 4).1):=by have hb:iv i=1280+(i:Int)*1792:=rfl;simp only[yB,X0 i h,ab];rw[ak (n:=iv i+128),ak (n:=iv i+64),MY];rfl
def yq:eD:=((0,16,0,0),(iK 256 128 8).1,([]:ax pQ),0)
theorem af0:EX=some yq:=by rw[EX,MY];rfl
theorem TT:zQ=some yq:=by rw[zQ,No];rfl
def uk (l:ax aH)(m:bP)(i:Nat):bP×kY×dB×Int:=
 wv l (jb l m 0 (iv i) (yr 128) false).1 0 (iv i,4,0,0) (iK (iv i+128) 384 4).1
def Tx (h:Host)(i:Nat):Host:=
 ((uk h.2.1 h.1 i).1,h.2.1,h.2.2.1,h.2.2.2.1.set i ((uk h.2.1 h.1 i).2.1,(iv i+64,4,0),(iv i+64,4,0),((0,0,0,0,0,0,0,0,0,0,0,0,0,0,0,([]:Bytes)),0,0),false,(match h.2.2.2.1[i]? with|some x=>x.2.2.2.2.2|none=>0)),h.2.2.2.2.1.set i (uk h.2.1 h.1 i).2.2.1,h.2.2.2.2.2)
theorem ZH (h:Host)(i:Nat)(hi:i<=8)(h1:i<h.2.2.2.1.length)(h2:i<h.2.2.2.2.1.length)(hl:h.2.1.length<=10^9)(hm:h.1.length<=10^9):yc h (i:Int)=some ((),Tx h i):=by have hb:iv i=1280+(i:Int)*1792:=rfl;have hz:gK 128 0=some (yr 128):=QV 128;have hf:=akx h.2.1 (jb h.2.1 h.1 0 (iv i) (yr 128) false).1 0 (iv i,4,0,0) (iK (iv i+128) 384 4).1 hl (by rw[ll];exact hm) (bp (ql (iv i+128) 384 4) (by omega));unfold yc;simp only[adn hi];rw[ak (n:=iv i+128),ak (n:=iv i+64),No,hz];simp only[br h1,br h2,ab,Si h.2.1 h.1 0 (iv i) (yr 128) hl hm (by omega),hf,aw,Tx,uk,al h1]
def we (h:Host)(i:Nat)(n:Int):Int×Host:=
 match h.2.2.2.1[i]?,h.2.2.2.2.1[i]? with
 |some rx,some pl=>
  ((kL h.2.1 h.1 0 rx pl h.2.2.2.2.2.2.2.2.2.1 n).2.2.2.2,(kL h.2.1 h.1 0 rx pl h.2.2.2.2.2.2.2.2.2.1 n).1,h.2.1,h.2.2.1,h.2.2.2.1.set i (kL h.2.1 h.1 0 rx pl h.2.2.2.2.2.2.2.2.2.1 n).2.1,h.2.2.2.2.1.set i (kL h.2.1 h.1 0 rx pl h.2.2.2.2.2.2.2.2.2.1 n).2.2.1,h.2.2.2.2.2.1,h.2.2.2.2.2.2.1,h.2.2.2.2.2.2.2.1,h.2.2.2.2.2.2.2.2.1,(kL h.2.1 h.1 0 rx pl h.2.2.2.2.2.2.2.2.2.1 n).2.2.2.1,h.2.2.2.2.2.2.2.2.2.2)
 |_,_=>(0,h)
theorem VD (h:Host)(i:Nat)(n:Int)(h1:i<h.2.2.2.1.length)(h2:i<h.2.2.2.2.1.length)(z:dj 500000000 dL h):lM h (i:Int) n=some (we h i n):=by have hl:h.2.1.length<=500000000:=z.2.1.1;have hm:h.1.length<=500000000:=z.1.1;have hp:h.2.2.2.2.1[i].2.2.2.length<=500000000:=(z.2.2.2.2.1.2 _ (aM h2)).2.2.2.1;unfold lM;simp only[br h1,br h2,ab,Ya h.2.1 h.1 0 _ _ _ n (show h.2.1.length<=10^9 by omega) (show h.1.length<=10^9 by omega) hp z.2.2.2.2.2.2.2.2.2.1,aw,we,al h1,al h2]
theorem nw {t:CT}{l:ax t.D}{x:t.D}(z:dj n (.sl t) l)(hx:dj n t x):dj n (.sl t) (l.set i x):=by refine⟨?_,λy hy=>?_⟩;show(l.set i x).length<=n;rw[aC];exact z.1;rcases dw hy with h|h;exact z.2 y h;rw[h];exact hx
theorem TB (hn:128<=n)(h:DP m):dj n (.sl .str) m:=⟨bp h.2 (by omega),λx hx=>bp (Nat.le_of_eq (h.1 x hx)) hn⟩
theorem Z8 (hn:128<=n)(z:dj n (.sl .str) m)(a:Int)(s:Bytes):dj n (.sl .str) (qu m a s).1:=by unfold qu;cases hw:gX m a (s.length:Int);exact z;simp only[gX,ae,aE]at hw;exact TB hn (BH s.length (rh.1 hw.1) (by omega)).1
theorem Zk (hn:128<=n):∀(q:ax (Int×Int)){m:bP}(s:Bytes),dj n (.sl .str) m->dj n (.sl .str) (Md q m s)
 |[],m,s,z=>z
 |p::q,m,s,z=>Zk hn q _ (Z8 hn z _ _)
theorem GI (hn:128<=n)(z:dj n (.sl .str) m)(l:ax aH)(d a:Int)(s:Bytes)(w:Bool):dj n (.sl .str) (jb l m d a s w).1:=by unfold jb;cases (lO l m d a (s.length:Int) w).2 with|false=>exact z|true=>exact Zk hn _ _ z
theorem KK (hn:128<=n)(z:dj n (.sl .str) m)(l:ax aH)(d:Int)(r:kY)(s:Bytes):dj n (.sl .str) (dm l m d r s).1:=by
 unfold dm;cases (qA r==0)||((s.length:Int) !=16);case true=>exact z
 cases (jb l m d (qL r r.2.2.2) s true).2 with|false=>exact z|true=>exact GI hn z ..
theorem SI (hn:128<=n)(l:ax aH)(d:Int)(p:dB):∀(q:bW){m:bP}(r:kY),dj n (.sl .str) m->dj n (.sl .str) (nX l d p q m r).2.1
 |[],m,r,z=>z
 |b::q,m,r,z=>by rw[nX];cases (dm l m d r (fQ p b)).2.2 with|false=>exact z|true=>exact SI hn l d p q _ (KK hn z ..)
theorem SJ (hn:128<=n)(z:dj n (.sl .str) m)(l:ax aH)(d:Int)(r:kY)(p:dB):dj n (.sl .str) (wv l m d r p).1:=by unfold wv;cases !dz r|| !ee p with|true=>exact z|false=>exact SI hn _ _ _ _ _ z
theorem adK (l:ax aH)(m:bP)(d:Int)(r:kY)(p:dB):(wv l m d r p).1.length=m.length:=by unfold wv;cases !dz r|| !ee p with|true=>rfl|false=>exact(Lx ..).1
theorem IL (l:ax aH)(m:bP)(d:Int)(r:kY)(p:dB):(wv l m d r p).2.2.1.2.2.2.length<=p.2.2.2.length:=by unfold wv;cases !dz r|| !ee p with|true=>exact bj _|false=>show(p.2.2.2.drop _).length<=_;rw[aJ];omega
theorem Zc (l:ax aH)(m:bP)(d:Int):∀(k:Nat)(s:ax Stream×cA×dB),(lj l m d k s).2.2.1.2.2.2=s.2.1.2.2.2/\(lj l m d k s).1<=k
 |0,s=>⟨rfl,bj _⟩
 |k+1,s=>by rw[lj];cases (uj l m d s.2.1.2.2.1).2.2 with|false=>exact⟨rfl,cg _⟩|true=>have:=Zc l m d k (GG l m d s);simp only[aj,af];exact⟨this.1,by omega⟩
theorem TF (hn:128<=n){rx:cA}{pl:dB}{st:ax Stream}(c:Int)(zm:dj n (.sl .str) m)(zr:dj n fC rx)(zp:dj n lI pl)(zs:dj n (.sl fT) st): dj n (.sl .str) (kL l m d rx pl st c).1/\dj n fC (kL l m d rx pl st c).2.1/\dj (n+322000) lI (kL l m d rx pl st c).2.2.1/\dj (n+322000) (.sl fT) (kL l m d rx pl st c).2.2.2.1/\0<=(kL l m d rx pl st c).2.2.2.2/\(kL l m d rx pl st c).2.2.2.2<=1000:=by
 unfold kL;cases hc: !Ju rx||(!ee pl|| !db c 0 1000)with
 |true=>exact⟨zm,zr,zp.mono,zs.mono,cR _,by show(0:Int)<=1000;omega⟩
 |false=>
  have hi:db c 0 1000=true:=by cases h:db c 0 1000 with|true=>rfl|false=>rw[h]at hc;simp at hc
  have h:=aS.1 hi;have z:=QB (l:=l) (m:=m) (d:=d) c.toNat (s:=(st,rx,pl)) (n:=n) ⟨zs,zp.2.2.2.1⟩;have hx:=Zc l m d c.toNat (st,rx,pl);refine⟨SJ hn zm ..,⟨?_,?_,?_,?_⟩,⟨cB,cB,cB,?_,λ_ _=>trivial⟩,z.st.mono,by show(0:Int)<=((lj l m d c.toNat (st,rx,pl)).1:Int);omega,by show((lj l m d c.toNat (st,rx,pl)).1:Int)<=1000;omega⟩;exact⟨cB,cB,cB,cB⟩;exact⟨cB,cB,cB⟩;exact⟨cB,cB,cB⟩;have e:=congrArg (λq=>dj n fC (rx.1,rx.2.1,rx.2.2.1,q)) hx.1;exact(e.mpr zr).2.2.2;have:=IL l m d (lj l m d c.toNat (st,rx,pl)).2.2.1.1 (lj l m d c.toNat (st,rx,pl)).2.2.2;have h2:=z.pl;show(wv l m d (lj l m d c.toNat (st,rx,pl)).2.2.1.1 (lj l m d c.toNat (st,rx,pl)).2.2.2).2.2.1.2.2.2.length<=_;omega
theorem acF (hn:128<=n)(i:Nat)(c:Int)(z:dj n dL h):dj (n+322000) dL (we h i c).2:=by unfold we;rcases h1:h.2.2.2.1[i]? with _|rx;exact z.mono;rcases h2:h.2.2.2.2.1[i]? with _|pl;exact z.mono;have zr:=z.2.2.2.1.2 _ (aY h1);have zp:=z.2.2.2.2.1.2 _ (aY h2);have hp:=TF hn (l:=h.2.1) (d:=0) c z.1 zr zp z.2.2.2.2.2.2.2.2.2.1;have z':dj (n+322000) dL h:=z.mono;exact⟨hp.1.mono,z'.2.1,z'.2.2.1,nw z'.2.2.2.1 (hp.2.1.mono),nw z'.2.2.2.2.1 hp.2.2.1,z'.2.2.2.2.2.1,z'.2.2.2.2.2.2.1,z'.2.2.2.2.2.2.2.1,z'.2.2.2.2.2.2.2.2.1,hp.2.2.2.1,z'.2.2.2.2.2.2.2.2.2.2⟩
def bC (l:ax aH)(m:bP)(d:Int)(r:kY):Bytes×kY×Bool:=
 bif !dz r||(bV r==0) then([],r,false) else
 bif !(uu l m d (qL r r.2.2.1) 16).2 then([],r,false) else
 ((uu l m d (qL r r.2.2.1) 16).1,(r.1,r.2.1,tmod (r.2.2.1+1) (2*r.2.1),r.2.2.2),true)
theorem Kg (l:ax aH)(m:bP)(d:Int)(r:kY)(hl:l.length<=10^9)(hm:m.length<=10^9):uQ l m d r=some (bC l m d r):=by
 have hA:=GQ r r.2.2.1;unfold uQ bC;simp only[zZ,Ci,ab,Te,C8 l m d _ 16 hl hm (show qL r r.2.2.1<=9223372036854775807 by omega)];cases hb:dz r;rfl;have h:=mJ hb;cases bV r==0;case true=>rfl
 simp only[aj,af,ab,cl];cases (uu l m d (qL r r.2.2.1) 16).2;rfl;simp only[aj,af];rw[ak (n:=2*r.2.1),nU,ak (n:=r.2.2.1+1)]
theorem Iy (l:ax aH)(m:bP)(d:Int)(r:kY):(bC l m d r).1.length<=100000000:=by
 unfold bC;cases !dz r||(bV r==0);case true=>exact cg _
 cases (uu l m d (qL r r.2.2.1) 16).2 with|false=>exact cg _|true=>exact Pc ..
theorem GX (h:(bC l m d r).2.2=true): dz (bC l m d r).2.1=true/\bV (bC l m d r).2.1=bV r-1/\(bC l m d r).2.1.1=r.1/\(bC l m d r).2.1.2.1=r.2.1/\(bC l m d r).2.1.2.2.2=r.2.2.2:=by
 unfold bC at h⊢;cases hb:dz r with|false=>rw[hb]at h;cases h|true=>?_
 cases hu:bV r==0 with|true=>rw[hb,hu]at h;cases h|false=>?_
 cases hd:(uu l m d (qL r r.2.2.1) 16).2 with|false=>rw[hb,hu,hd]at h;cases h|true=>?_
 simp only[aj,cl,af];have hr:=mJ hb;have hq:=hb;simp only[dz,ae,aE]at hq;have h1:=hq.2.2.2.2;have hs:=hq.2.1;have Vp:bV r≠0:=by simpa using hu
 have e:tmod (r.2.2.1+1) (2*r.2.1)=(r.2.2.1+1)%(2*r.2.1):=dK (by omega);rw[e];unfold bV at h1 Vp⊢;simp only[hs,ch]at h1 Vp⊢;have key:(r.2.2.2-(r.2.2.1+1)%(2*r.2.1))%(2*r.2.1)=(r.2.2.2-r.2.2.1)%(2*r.2.1)-1/\0<=(r.2.2.1+1)%(2*r.2.1)/\(r.2.2.1+1)%(2*r.2.1)<=2*r.2.1-1:=by rcases hr.2.2.1 with hn|hn|hn|hn<;>rw[hn]at h1 Vp hr⊢<;>omega
 refine⟨?_,key.1,cB,cB,cB⟩;simp only[dz,bV,hs,ch,ae,aE,aS];refine⟨by omega,cB,by omega,by omega,?_⟩;rw[key.1];omega
theorem Al (h:dz r=true):0<=bV r/\bV r<=16:=by have hr:=mJ h;have hq:=h;simp only[dz,ae,aE]at hq;refine⟨?_,by have:=hq.2.2.2.2;omega⟩;unfold bV;rw[hq.2.1,aI rfl];exact fJ _ (by omega)
def MF:Ha:=(0,0,0,0,0,0)
def F5 (s:Bytes):Ha:=((bO s 0:Int),(bO s 1:Int),cp s 2,dU s 4,cp s 8,cp s 10)
def dx (s:Bytes):Ha×Bool:=
 bif ((s.length:Int) !=16) then(MF,false) else bif !(AR (F5 s)==s) then(MF,false) else(F5 s,true)
theorem X3 (s:Bytes)(h:s.length<=10^9):qD s=some (dx s):=by
 unfold qD dx;cases hn:(s.length:Int) !=16;case true=>rfl
 have hl:s.length=16:=by
  have:((s.length:Int)==16)=true:=by simpa using hn
  have:=bu this;omega
 have b0:=oe (s[0]'(by omega));have b1:=oe (s[1]'(by omega));have i0:idx s 0=some (s[0]'(by omega)):=br (i:=0) (by omega);have i1:idx s 1=some (s[1]'(by omega)):=br (i:=1) (by omega);have e:(((s[0]'(by omega)).toNat:Int),((s[1]'(by omega)).toNat:Int),cp s 2,dU s 4,cp s 8,cp s 10)=F5 s:=by simp only[F5,bO,cu (show 0<s.length by omega),cu (show 1<s.length by omega)]
 simp only[af,i0,i1,ab,yx s _ h,yy s _ h];rw[iV (n:=(s[0]'(by omega)).toNat),iV (n:=(s[1]'(by omega)).toNat),e,Vy,ab];cases AR (F5 s)==s<;>rfl
theorem abb (h:(dx s).2=true):wq (dx s).1=true:=by
 unfold dx at h⊢;cases hn:(s.length:Int) !=16 with|true=>rw[hn]at h;cases h|false=>?_
 cases he:AR (F5 s)==s with|false=>rw[hn,he]at h;cases h|true=>?_
 simp only[af,aj];cases hd:wq (F5 s)with
 |true=>rfl
 |false=>
  have:AR (F5 s)=[]:=by unfold AR;rw[hd];rfl
  rw[this]at he;cases s with|nil=>simp at hn|cons x y=>cases he
def abe (x:Ha):Bool:=bif x.1==1 then(au (BitVec.toNat (ir x.2.1&&&ir 1))) !=0 else false
def wS (l:ax aH)(m:bP)(d:Int):Nat->ax Ha->kY->ax Ha×kY×Bool
 |0,acc,r=>(acc,r,true)
 |n+1,acc,r=>
  bif !(bC l m d r).2.2|| !(dx (bC l m d r).1).2 then([],(r.1,r.2.1,r.2.2.2,r.2.2.2),false) else
  bif abe (dx (bC l m d r).1).1 then(acc++[(dx (bC l m d r).1).1],(bC l m d r).2.1,true) else
  wS l m d n (acc++[(dx (bC l m d r).1).1]) (bC l m d r).2.1
def dI (l:ax aH)(m:bP)(d:Int)(r:kY):ax Ha×kY×Bool:=
 bif !dz r||(bV r==0) then([],r,false) else wS l m d (bV r).toNat [] r
theorem H8 (k0:ax Ha->kY->az R)(k1:ax Ha->Bool->ax Ha->kY->kY->az R)(K:ax Ha×kY×Bool->az R)
 (h0:∀a r,k0 a r=K (a,r,true)) (l:ax aH) (m:bP) (d:Int) (B E:kY) (h1:∀a r,k1 [] false a r E=K ([],E,false)) (hl:l.length<=10^9) (hm:m.length<=10^9):∀(n:Nat)(acc:ax Ha)(r:kY)(f:Nat),
 n<f->dz r=true->(bV r).toNat=n->acc.length+n<=1000->E=(r.1,r.2.1,r.2.2.2,r.2.2.2)->bl (nu k0 k1 l d ([]:ax Ha) false m B E) f (acc,r)=K (wS l m d n acc r)
 |n,acc,r,0,hf,_,_,_,_=>by omega
 |0,acc,r,f+1,hf,hb,hu,ha,hE=>by rw[bl];simp only[nu,Ci,ab];rw[cC,af,h0];rfl
 |n+1,acc,r,f+1,hf,hb,hu,ha,hE=>by
  have hlen:=Iy l m d r;have hk:=GX (l:=l) (m:=m) (d:=d) (r:=r);rw[bl];simp only[nu,Ci,ab];rw[jI,ah,Kg l m d r hl hm,ab,wS];generalize bC l m d r=t at hlen hk⊢;cases ht:t.2.2 with
  |false=>simp only[bt,ah,iO,<-hE,h1]
  |true=>
   have hk:=hk ht;simp only[aj,af,cJ];rw[X3 _ (show t.1.length<=10^9 by omega),ab];generalize dx t.1=x;cases x.2 with
   |false=>simp only[bt,ah,<-hE,h1]
   |true=>
    simp only[aj,af];rw[aR (by rw[ba];omega)];have e:(aa (cond (x.1.1==1) (some ((au (BitVec.toNat (ir x.1.2.1&&&ir 1))) !=0)) (some false)):(Bool->az R)->az R)=λK=>K (abe x.1):=by funext K;unfold abe;cases x.1.1==1<;>rfl
    rw[e];cases abe x.1 with|true=>simp only[ah,h0]|false=>simp only[af];exact H8 k0 k1 K h0 l m d B E h1 hl hm n _ _ f (by omega) hk.1 (by omega) (by simp;omega) (by rw[hE,hk.2.2.1,hk.2.2.2.1,hk.2.2.2.2])
theorem R1 (l:ax aH)(m:bP)(d:Int)(r:kY)(hl:l.length<=10^9)(hm:m.length<=10^9):xt l m d r=some (dI l m d r):=by
 have D5:=eS;unfold xt dI;simp only[zZ,Ci,ab];cases hb:dz r;rfl;cases bV r==0;case true=>rfl
 have hu:=Al hb;simp only[aj,af,ab,cl];exact H8 _ _ (λx=>some x) (λ_ _=>rfl) l m d _ _ (λ_ _=>rfl) hl hm _ [] r fuel (by omega) hb rfl (by simp;omega) rfl
def Ct (x:Int×Int):Bool:=decide (x.1<0)|| !db x.2 0 4096
def qm (l:ax (Int×Int)):Bool:= !l.any Ct&&decide ((l.length:Int)<=16)
theorem acC (l:ax (Int×Int)):(bif l.any Ct then some false else some (decide ((l.length:Int)<=16)))=some (qm l):=by unfold qm;cases l.any Ct<;>rfl
theorem P5 (l:ax (Int×Int))(h:l.length<=10^9):uO l=some (qm l):=by
 unfold uO;rw[<-acC];refine FP Ct l (by omega) (λi hi nx=>?_) (λnx=>?_);simp only[tA];rw[jI,ah,br hi,ab,cm,ak];unfold Ct;cases decide (l[i].1<0)with|true=>rfl|false=>simp only[af,ab,cJ];rfl
 simp only[tA];rw[cC,af]
theorem L9 {l:ax (Int×Int)}(h:qm l=true):l.length<=16/\∀x∈l,0<=x.1/\0<=x.2/\x.2<=4096:=by unfold qm at h;simp only[ae,aE,aN]at h;refine⟨by omega,λx hx=>?_⟩;have:=List.any_eq_false.1 h.1 x hx;unfold Ct at this;simp only[cY,aE,aN,not_or,Bool.not_eq_false,aS]at this;omega
def dsc (n:Nat)(c:Int)(i:Nat)(x:Int×Int):Ha:=(1,(if i+1=n then 1 else 0),x.2,x.1,0,c)
def AI (ps:ax (Int×Int))(c:Int):Nat->ax Ha
 |0=>[]
 |i+1=>AI ps c i++[dsc ps.length c i (ps.getD i (0,0))]
theorem DY (ps:ax (Int×Int))(c:Int):∀i,(AI ps c i).length=i
 |0=>rfl
 |i+1=>by rw[AI,ai,DY ps c i];rfl
theorem Lu (ps:ax (Int×Int))(c:Int)(q:Ha->Bool):∀i,(AI ps c i).all q=(List.range i).all (λj=>q (dsc ps.length c j (ps.getD j (0,0))))
 |0=>rfl
 |i+1=>by rw[AI,List.all_append,Lu ps c q i,gZ,List.all_append];rfl
def su (ps:ax (Int×Int))(z c:Int):ax Ha:=
 bif ((ps.length:Int)==0)||(!qm ps|| !db z 1 128) then [] else
 bif ([(2,0,0,0,z,c)]++AI ps c ps.length).all wq then [(2,0,0,0,z,c)]++AI ps c ps.length else []
theorem ES (ps:ax (Int×Int))(z c:Int)(h:ps.length<=10^9:=by omega):∃b,js ps z c=some (b,su ps z c)/\(b=false->su ps z c=[]):=by
 unfold js su;rw[P5 ps h,cm];simp only[ab];cases ((ps.length:Int)==0);case true=>exact⟨false,rfl,λ_=>rfl⟩
 cases qm ps;exact⟨false,rfl,λ_=>rfl⟩;cases db z 1 128;exact⟨false,rfl,λ_=>rfl⟩;simp only[aj,af,ab,cl];refine⟨([(2,0,0,0,z,c)]++AI ps c ps.length).all wq,?_,λhb=>by rw[hb];rfl⟩;refine dE (λi=>(([(2,0,0,0,z,c)]++AI ps c i,(i:Int)):ax Ha×Int)) ps.length (by omega) (λi nx hi=>?_) (λnx=>?_);have hl:=DY ps c i;simp only[lA];rw[jI,ah,br hi,ab,ak (n:=(ps.length:Int)-1),ak];have e:[(2,0,0,0,z,c)]++AI ps c (i+1)=([(2,0,0,0,z,c)]++AI ps c i)++[dsc ps.length c i ps[i]]:=by rw[AI,cu hi,aL]
 rw[e];unfold dsc;by_cases hc:i+1=ps.length;rw[show((i:Int)==(ps.length:Int)-1)=true from by rw[bg];omega,aI hc];simp only[ah];rw[aR (by simp only[ai,ba];omega)];rfl;rw[show((i:Int)==(ps.length:Int)-1)=false from by rw[cv];omega,aG hc];simp only[af];rw[aR (by simp only[ai,ba];omega)];rfl;simp only[lA];rw[cC,af];have hl:=DY ps c ps.length;generalize hq:[(2,0,0,0,z,c)]++AI ps c ps.length=q;have hn:q.length<=1000000001:=by rw[<-hq];simp only[ai,ba];omega
 rw[td (fin:=some (true,q)) (hit:=some (false,[])) wq q (by omega) (λi hi nx=>?_) (λnx=>?_)];cases q.all wq<;>rfl;simp only[kH];rw[jI,ah,br hi,ab,X4,ab,ak];rfl;simp only[kH];rw[cC,af]
def QM (x y:Ha):Bool:=(x.1==y.1)&&((x.2.1==y.2.1)&&((x.2.2.1==y.2.2.1)&&((x.2.2.2.1==y.2.2.2.1)&&((x.2.2.2.2.1==y.2.2.2.2.1)&&((x.2.2.2.2.2==y.2.2.2.2.2)&&true)))))
def Mo (a b:ax Ha):Bool:=((a.length:Int)==(b.length:Int))&&(List.range a.length).all λi=>QM (a.getD i MF) (b.getD i MF)
def mx (l:ax Ha):ax (Int×Int):=(l.drop 1).map λx=>(x.2.2.2.1,x.2.2.1)
def gA (l:ax Ha):ax (Int×Int)×Int×Int×Bool:=
 match l with
 |h::x::r=>bif Mo (su (mx l) h.2.2.2.2.1 h.2.2.2.2.2) l then(mx l,h.2.2.2.2.1,h.2.2.2.2.2,true) else([],0,0,false)
 |_=>([],0,0,false)
theorem ae9 (ps:ax (Int×Int))(z c:Int):(su ps z c).length<=ps.length+1:=by
 unfold su;cases ((ps.length:Int)==0)||(!qm ps|| !db z 1 128);case true=>simp
 cases ([(2,0,0,0,z,c)]++AI ps c ps.length).all wq with|false=>simp|true=>simp only[af,ah,ai,ba,DY];omega
theorem VC (l:ax Ha)(hl:l.length<=10^9):pZ l=some (gA l):=by
 unfold pZ;match l,hl with
 |[],_=>rfl
 |[h],_=>rfl
 |h::y::r,hl=>
  generalize hq:y::r=q;have hq1:1<=q.length:=by rw[<-hq];simp
  have hlen:q.length+1<=10^9:=by rw[<-hq];simpa using hl
  have i0:idx (h::q) 0=some h:=rfl;have s0:sub (h::q) 1 (((h::q).length:Nat):Int)=some q:=yf (l:=h::q) 1 (by simp) (a:=1) rfl;rw[aq (by simp only[aU];omega),af,s0,ab];refine dE (λi=>(((q.take i).map (λx=>(x.2.2.2.1,x.2.2.1)),(i:Int)):ax (Int×Int)×Int)) q.length (by omega) (λi nx hi=>?_) (λnx=>?_);simp only[mF];rw[jI,ah,br hi,ab,aR (by simp only[bH,aV,ba];omega),ak,bc hi,dF];rfl;simp only[mF];rw[cC,af,cE];have hp:q.map (λx=>(x.2.2.2.1,x.2.2.1))=mx (h::q):=rfl;have Hu:(mx (h::q)).length=q.length:=by rw[<-hp,bH]
  rw[hp];have hdl:=ae9 (mx (h::q)) h.2.2.2.2.1 h.2.2.2.2.2;obtain⟨b,hd,hb⟩:=ES (mx (h::q)) h.2.2.2.2.1 h.2.2.2.2.2;have hR:gA (h::q)=bif Mo (su (mx (h::q)) h.2.2.2.2.1 h.2.2.2.2.2) (h::q) then(mx (h::q),h.2.2.2.2.1,h.2.2.2.2.2,true) else([],0,0,false):=by rw[<-hq];rfl
  rw[hR];simp only[i0,ab,hd];have hlc:(((h::q).length:Nat):Int)=(q.length:Int)+1:=by simp only[aU];omega
  generalize su (mx (h::q)) h.2.2.2.2.1 h.2.2.2.2.2=w at hdl hb⊢
  have core:∀(K:az (ax (Int×Int)×Int×Int×Bool))(w':ax Ha),w'=w->(bif ((w'.length:Nat):Int) !=(((h::q).length:Nat):Int) then some (([]:ax (Int×Int)),(0:Int),(0:Int),false) else
   bl (ij (λDW=>some (mx (h::q),h.2.2.2.2.1,h.2.2.2.2.2,true)) (λCH CL EG BT FL=>some (CH,CL,EG,BT)) (h::q) (mx (h::q)) h.2.2.2.2.1 h.2.2.2.2.2 w' ((w'.length:Nat):Int)) fuel 0)=some (bif Mo w (h::q) then(mx (h::q),h.2.2.2.2.1,h.2.2.2.2.2,true) else([],0,0,false)):=by
   intro K w' e
   subst e
   unfold Mo
   cases hl:((w'.length:Int)==(((h::q).length:Nat):Int))with
   |false=>simp only[bne,hl,bt,ah,dJ,af]
   |true=>
    have hn:w'.length=(h::q).length:=by have:=bu hl;omega
    simp only[bne,hl,aj,af,bn]
    rw[jr (fin:=some (mx (h::q),h.2.2.2.2.1,h.2.2.2.2.2,true)) (hit:=some ([],0,0,false)) (λi=>QM (w'.getD i MF) ((h::q).getD i MF)) w'.length (by omega) (λi nx hi=>?_) (λnx=>?_)]
    ·cases (List.range w'.length).all (λi=>QM (w'.getD i MF) ((h::q).getD i MF))<;>rfl
    ·have hi2:i<(h::q).length:=by omega
     simp only[ij]
     rw[jI,ah,br hi,br hi2,ab,ab,ak,cu hi,cu hi2];rfl
    ·simp only[ij]
     rw[cC,af]
  cases b with|true=>exact core none w rfl|false=>exact core none [] (hb rfl).symm
theorem Za {l:ax Ha}(h:(gA l).2.2.2=true):qm (gA l).1=true/\∀p∈(gA l).1,p.1<=4294967295:=by match l,h with|hd::x::r,h=>unfold gA at h⊢;simp only at h⊢;cases hs:Mo (su (mx (hd::x::r)) hd.2.2.2.2.1 hd.2.2.2.2.2) (hd::x::r)with|false=>rw[hs]at h;cases h|true=>simp only[ah];generalize hw:mx (hd::x::r)=ps at hs⊢;unfold Mo at hs;simp only[ae]at hs;have hn:=bu hs.1;unfold su at hn;cases hc:((ps.length:Int)==0)||(!qm ps|| !db hd.2.2.2.2.1 1 128)with|true=>rw[hc]at hn;simp at hn;omega|false=>rw[hc]at hn;cases ha:([(2,0,0,0,hd.2.2.2.2.1,hd.2.2.2.2.2)]++AI ps hd.2.2.2.2.2 ps.length).all wq with|false=>rw[ha]at hn;simp at hn;omega|true=>simp only[cn,dM]at hc;refine⟨hc.2.1,λp hp=>?_⟩;rw[List.all_append,Lu,ae]at ha;obtain⟨i,hi,rfl⟩:=List.getElem_of_mem hp;have:=aF.1 ha.2 i (bB.2 hi);rw[cu hi]at this;simp only[wq,dsc,ae,aS]at this;omega
theorem Lv (l:ax aH)(m:bP)(d a n:Int):(uu l m d a n).1.length<=33554432:=by have hL:=Mn l m d a n false;have h1:=xN m (lO l m d a n false).1;unfold uu;cases (lO l m d a n false).2 with|false=>simp|true=>simp only[ah];omega
def EO (l:ax aH)(m:bP)(d:Int):ax (Int×Int)->Bytes->Bytes×Bool
 |[],acc=>(acc,true)
 |p::ps,acc=>bif (uu l m d p.1 p.2).2 then EO l m d ps (acc++(uu l m d p.1 p.2).1) else([],false)
def og (l:ax aH)(m:bP)(d:Int)(ps:ax (Int×Int)):Bytes×Bool:=bif qm ps then EO l m d ps [] else([],false)
def JP (l:ax aH)(m:bP)(d:Int)(p:Int×Int)(s:Bytes):Except (az (Bytes×Bool)) Bytes:=
 if(uu l m d p.1 p.2).2=true then .ok (s++(uu l m d p.1 p.2).1) else .error (some ([],false))
theorem Px (l:ax aH)(m:bP)(d:Int):∀(ps:ax (Int×Int))(s:Bytes),DR (JP l m d) (λs=>some (s,true)) ps s=some (EO l m d ps s)
 |[],s=>rfl
 |p::ps,s=>by rw[DR,EO];unfold JP;cases hd:(uu l m d p.1 p.2).2 with|false=>rfl|true=>rw[aI rfl];exact Px l m d ps _
theorem MO (l:ax aH)(m:bP)(d:Int):∀(ps:ax (Int×Int))(s:Bytes),(EO l m d ps s).1.length<=s.length+33554432*ps.length
 |[],s=>by simp[EO]
 |p::ps,s=>by have h1:=Lv l m d p.1 p.2;rw[EO];cases (uu l m d p.1 p.2).2 with|false=>simp|true=>have:=MO l m d ps (s++(uu l m d p.1 p.2).1);rw[ai]at this;simp only[ah,aU,Nat.mul_add];omega
theorem Xt (l:ax aH)(m:bP)(d:Int)(ps:ax (Int×Int)):(og l m d ps).1.length<=10^9:=by unfold og;cases hp:qm ps with|false=>simp|true=>have:=(L9 hp).1;have:=MO l m d ps [];simp only[dg]at this;simp only[ah];omega
theorem abK (l:ax aH)(m:bP)(d:Int)(ps:ax (Int×Int))(hl:l.length<=10^9)(hm:m.length<=10^9)(hn:ps.length<=10^9)(ha:∀p∈ps,p.1<=9223372036854775807):rG l m d ps=some (og l m d ps):=by
 unfold rG og;rw[P5 ps hn,ab];cases hp:qm ps;rfl;have h16:=(L9 hp).1;simp only[aj,af,ah];rw[<-Px];refine uY ps (λs i=>(s,(i:Int))) (λi s=>s.length<=33554432*i) (JP l m d) _ (by omega) (λi hi s nx hI=>?_) (λi hi s s' hI he=>?_) (λs nx hI=>?_) [] (by simp);have h1:=Lv l m d ps[i].1 ps[i].2;simp only[nn];rw[jI,ah,br hi,ab,C8 l m d _ _ hl hm (ha _ (aM hi)),ab];unfold JP;cases hd:(uu l m d ps[i].1 ps[i].2).2 with|false=>rfl|true=>rw[aI rfl,aR,ak];rfl
 have h1:=Lv l m d ps[i].1 ps[i].2;unfold JP at he;split at he;injection he with he;rw[<-he,ai];omega;cases he;simp only[nn];rw[cC,af]
def CO (t:Bytes):Int:=cp t ((dR t+2:Nat):Int)
def Sn (t:Bytes):Int:=NT ((t.take (dR t+20)).drop (dR t))
def acT (t:Bytes):Bytes:=(t.take (dR t+(CO t).toNat)).drop (dR t+20)
def alP (t:Bytes):Bytes:=xI (dU t ((dR t+12:Nat):Int)) (dU t ((dR t+16:Nat):Int)) (lN t:Int) (CO t-20)
def Mw (t:Bytes):Int:=bif ((lN t:Int)==17)&&(NT (alP t++acT t)==0) then 65535 else NT (alP t++acT t)
def adL (t s:Bytes):Bytes×Bool:=bif ((jo s).2==0)&&((lG (jo s).1).1==t) then dC (jo s).1 else([],false)
def AJ (t:Bytes):Bytes×Bool:=adL t (nC t (aW (Sn t)) (aW (Mw t)))
theorem Oj (h:¬(TOk t/\cp t (DS t:Int)=0/\cp t (BE t:Int)=0)):AJ t=([],false):=by
 have ha:Ft (nC t (aW (Sn t)) (aW (Mw t))) t:=Io t (bT _) (bT _);unfold AJ adL;generalize nC t (aW (Sn t)) (aW (Mw t))=s at ha⊢;cases h1:(jo s).2==0;rfl;have Ru:(jo s).2=0:=by simpa using h1
 cases h2:(lG (jo s).1).1==t;rfl;have Wt:(lG (jo s).1).1=t:=eq_of_beq h2;have ht:=apC ha Ru;exact absurd ⟨ht,aho Wt (QG Ru).2.2.1 ht⟩ h
theorem K6 (t:Bytes)(o n:Nat):(t.drop o).take n=(t.take (o+n)).drop o:=by rw[List.drop_take];congr 1;omega
theorem Zg (h1:dR t+20<=t.length)(h2:20<=CO t)(h3:CO t<=(t.length:Int))(h4:t.length<=10^9):zx (dU t ((dR t+12:Nat):Int)) (dU t ((dR t+16:Nat):Int)) (lN t:Int) (CO t-20)=true:=by have a1:=D1 (s:=t) (a:=((dR t+12:Nat):Int));have a2:=D1 (s:=t) (a:=((dR t+16:Nat):Int));have a3:=eO t (dR t+9);have a4:=Gg (s:=t) (a:=((dR t+2:Nat):Int));unfold zx;rw[aS.2 a1,aS.2 a2,aS.2 (show 0<=(lN t:Int)/\(lN t:Int)<=255 by unfold lN;omega),aS.2 (show 0<=CO t-20/\CO t-20<=65535 by unfold CO at*;omega)];rfl
theorem afH (t:Bytes)(hl:t.length<=10^9):yX t=some (AJ t):=by
 have hp:=Cv t
 have hk:=KY (lN t)
 have Rx:lN t<256:=eO t (dR t+9)
 have Gj:=E3 t
 unfold yX
 rw[J9 t hl,ab,yx _ _ (by omega),ab]
 cases h1:(fY t).2 with
 |false=>rw[Oj λh=>by have:=h.1.eth;rw[h1]at this;cases this];rfl
 |true=>
 have he:=L8 h1
 rw[he.1]
 simp only[aj,af,ab]
 have en:cp (t.drop (dR t)) 2=CO t:=Py (a:=2)
 rw[en]
 by_cases h4:CO t<20
 ·rw[ar h4,Oj λh=>by have:=h.1.n1;unfold CO at h4;omega];rfl
 rw[aq h4]
 simp only[af,ab]
 by_cases h5:CO t>((t.drop (dR t)).length:Int)
 ·rw[ar h5,Oj λh=>by have:=h.1.n2;unfold CO at h5;rw[aJ]at h5;omega];rfl
 rw[aq h5]
 rw[aJ]at h5
 have hdl:(t.drop (dR t)).length=t.length-dR t:=aJ ..
 obtain⟨n,hn⟩:=aD (show 0<=CO t by omega)
 obtain⟨x,hx,ex⟩:=ni (s:=t.drop (dR t)) (i:=9)
 have hx9:idx (t.drop (dR t)) 9=some x:=hx
 have s1:sub (t.drop (dR t)) 0 20=some ((t.take (dR t+20)).drop (dR t)):=by rw[BD,<-K6];rfl
 have s2:sub (t.drop (dR t)) 20 (CO t)=some (acT t):=by rw[Wj (l:=t.drop (dR t)) 20 (a:=20) rfl,hn,aw,K6,eK];unfold acT;rw[hn];rfl
 have hps:=Mc (dU t ((dR t+12:Nat):Int)) (dU t ((dR t+16:Nat):Int)) (lN t:Int) (CO t-20)
 have ajh:((acT t).length:Int)=CO t-20:=by unfold acT;rw[aJ,aV,hn];omega
 have hk2:au ((UInt8.toNat x:Int))=(lN t:Int):=by rw[ex,mZ,iV (show bO t (dR t+9)<9223372036854775808 by unfold lN at Rx;omega)];rfl
 have g12:dU (t.drop (dR t)) 12=dU t ((dR t+12:Nat):Int):=Pz (a:=12)
 have g16:dU (t.drop (dR t)) 16=dU t ((dR t+16:Nat):Int):=Pz (a:=16)
 have hw:au ((Q2 (lN t):Int)+2)=(Q2 (lN t):Int)+2:=by rw[ak]
 simp only[af,ab,Kf t hl,s1,s2,hx9,yy _ _ (show(t.drop (dR t)).length<=10^9 by omega),hk2,P6,ajh,g12,g16,Zg (show dR t+20<=t.length by omega) (show 20<=CO t by omega) (show CO t<=(t.length:Int) by omega) hl,ah,aj,LM _ Rx,hw]
 rw[show xI (dU t ((dR t+12:Nat):Int)) (dU t ((dR t+16:Nat):Int)) (lN t:Int) (CO t-20)=alP t from rfl]at hps⊢
 by_cases h6:(Q2 (lN t):Int)+2>CO t-20
 ·rw[ar h6,Oj λh=>by have:=h.1.n1;unfold CO at h6;omega];rfl
 rw[aq h6]
 simp only[af]
 have hck:((t.take (dR t+20)).drop (dR t)).length<=10^9:=by rw[aJ,aV];omega
 rw[aR,Oq _ (by rw[ai];omega),ab]
 have si:∀y:Int,Mw t=y->(aa (kf ((t.take (dR t+20)).drop (dR t))) λr25=>aa (cx r25) λr26=>aa (gB t (DS t:Int) r26) λWx=>aa (cx y) λr28=>aa (gB Wx (BE t:Int) r28) λr29=>aa (jm r29) λr30=>aa (nM r30.1) λWy=>
  aa (bif r30.2 !=0 then some true else bif !Wy.2 then some true else some (!(Wy.1==t))) λq32=>bif q32 then some (([]:Bytes),false) else aa (ia r30.1) λr33=>some r33)=some (AJ t):=by
  intro y hy
  subst hy
  have b1:=bT (Sn t)
  have b2:=bT (Mw t)
  rw[Oq _ hck,ab,show NT ((t.take (dR t+20)).drop (dR t))=Sn t from rfl]
  rw[mh,ab,EU t _ _ hl,ab,mh,ab,EU _ _ _ (by rw[Cw];exact hl),ab]
  have hlen:=GJ t (aW (Sn t)) (aW (Mw t))
  unfold AJ
  rw[show xK (xK t (DS t:Int) (aW (Sn t))) (BE t:Int) (aW (Mw t))=nC t (aW (Sn t)) (aW (Mw t)) from rfl]
  generalize nC t (aW (Sn t)) (aW (Mw t))=s at hlen⊢
  simp only[Hy s (by omega),ab,Th,Ea,adL,bne]
  cases h1:(jo s).2==0;rfl
  have hsb:=(QG (show(jo s).2=0 by simpa using h1)).2.2.1
  have h2:(lG (jo s).1).2=true:=by unfold lG;rw[hsb];rfl
  rw[h2]
  cases (lG (jo s).1).1==t<;>rfl
 cases h8:(lN t:Int)==17 with
 |false=>exact si _ (by unfold Mw;rw[h8];rfl)
 |true=>
  simp only[ah,ab]
  cases h7:NT (alP t++acT t)==0 with
  |false=>exact si _ (by unfold Mw;rw[h7,fG];rfl)
  |true=>exact si _ (by unfold Mw;rw[h7,h8];rfl)
theorem afh (t:Bytes):(AJ t).1.length<=378:=by unfold AJ adL;generalize nC t (aW (Sn t)) (aW (Mw t))=s;cases ((jo s).2==0)&&((lG (jo s).1).1==t)with|false=>exact cg _|true=>exact BM _
theorem O0 (l:ax aH)(m:bP)(d:Int):∀(n:Nat)(acc:ax Ha)(r:kY),(wS l m d n acc r).1.length<=acc.length+n
 |0,acc,r=>bj _
 |n+1,acc,r=>by
  rw[wS];cases !(bC l m d r).2.2|| !(dx (bC l m d r).1).2;case true=>exact cg _
  cases abe (dx (bC l m d r).1).1 with|true=>simp only[af,ah,ai,ba];omega|false=>have:=O0 l m d n (acc++[(dx (bC l m d r).1).1]) (bC l m d r).2.1;simp only[ai,ba]at this;simp only[af];omega
theorem acQ (h:dz r=true):dz (r.1,r.2.1,r.2.2.2,r.2.2.2)=true/\bV (r.1,r.2.1,r.2.2.2,r.2.2.2)=0:=by
 have hr:=mJ h;have hq:=h;simp only[dz,ae,aE]at hq;have hu:bV (r.1,r.2.1,r.2.2.2,r.2.2.2)=0:=by unfold bV;simp only[Int.sub_self,Int.zero_emod,ite_self]
 refine⟨?_,hu⟩;simp only[dz,ae,aE,aS,hu,hq.2.1,true_and];omega
theorem MD (l:ax aH)(m:bP)(d:Int):∀(n:Nat)(acc:ax Ha)(r:kY),dz r=true->(bV r).toNat=n->
 dz (wS l m d n acc r).2.1=true/\bV (wS l m d n acc r).2.1<=bV r/\(0<bV r->bV (wS l m d n acc r).2.1<bV r)
 |0,acc,r,hb,hu=>⟨hb,cR _,λh=>by omega⟩
 |n+1,acc,r,hb,hu=>by have hk:=GX (l:=l) (m:=m) (d:=d) (r:=r);have he:=acQ hb;rw[wS];cases hc: !(bC l m d r).2.2|| !(dx (bC l m d r).1).2 with|true=>exact⟨he.1,by show bV (r.1,r.2.1,r.2.2.2,r.2.2.2)<=_;rw[he.2];omega,λ_=>by show bV (r.1,r.2.1,r.2.2.2,r.2.2.2)<_;rw[he.2];omega⟩|false=>simp only[cn,dM]at hc;have hk:=hk hc.1;cases abe (dx (bC l m d r).1).1 with|true=>exact⟨hk.1,by show bV (bC l m d r).2.1<=_;omega,λ_=>by show bV (bC l m d r).2.1<_;omega⟩|false=>have:=MD l m d n (acc++[(dx (bC l m d r).1).1]) (bC l m d r).2.1 hk.1 (by omega);simp only[af];exact⟨this.1,by omega,λ_=>by omega⟩
def iX (l:ax aH)(m:bP)(d:Int)(r:kY):kY×bP×Int:=
 bif !dz r||(bV r==0) then(r,[],0) else
 bif !(dI l m d r).2.2|| !(gA (dI l m d r).1).2.2.2 then((dI l m d r).2.1,[],2) else
 bif !(og l m d (gA (dI l m d r).1).1).2||(!(AJ (og l m d (gA (dI l m d r).1).1).1).2||((jo (AJ (og l m d (gA (dI l m d r).1).1).1).1).2 !=0)) then((dI l m d r).2.1,[],2) else
 ((dI l m d r).2.1,Zx (jo (AJ (og l m d (gA (dI l m d r).1).1).1).1).1 (gA (dI l m d r).1).2.1,1)
theorem abO (l:ax aH)(m:bP)(d:Int)(r:kY)(hl:l.length<=10^9)(hm:m.length<=10^9):rP l m d r=some (iX l m d r):=by
 unfold rP iX;simp only[zZ,Ci,ab,R1 l m d r hl hm];cases hb:dz r;rfl;cases bV r==0;case true=>rfl
 have hu:=Al hb;have hcl:(dI l m d r).1.length<=16:=by unfold dI;cases !dz r||(bV r==0)with|true=>exact cg _|false=>have:=O0 l m d (bV r).toNat [] r;simp only[dg]at this;show(wS l m d (bV r).toNat [] r).1.length<=16;omega
 simp only[aj,af,ab,cl];generalize dI l m d r=c at hcl⊢;cases c.2.2;rfl;simp only[aj,af,ab,cJ,VC c.1 (show c.1.length<=10^9 by omega)];have hpo:=Za (l:=c.1);generalize gA c.1=p at hpo⊢;cases hp:p.2.2.2;rfl;have hpo:=hpo hp;have h16:=(L9 hpo.1).1;have hg:=Xt l m d p.1;simp only[aj,af,ab,cJ,abK l m d p.1 hl hm (show p.1.length<=10^9 by omega) (λq hq=>Int.le_trans (hpo.2 q hq) (by omega))];generalize og l m d p.1=g at hg⊢;cases g.2;rfl;have hf:=afh g.1;simp only[aj,af,ab,cJ,afH g.1 hg];generalize AJ g.1=f at hf⊢;cases f.2;rfl;simp only[aj,af,ab,cJ,Hy f.1 (show f.1.length<=10^9 by omega)];generalize jo f.1=i;cases i.2 !=0;case true=>rfl
 simp only[af,ajz,ab]
theorem Tu (l:ax aH)(m:bP)(d:Int)(r:kY): ((iX l m d r).2.2=0->(iX l m d r).1=r)/\((iX l m d r).2.2≠0->0<bV r/\dz r=true/\dz (iX l m d r).1=true/\bV (iX l m d r).1<bV r)/\(iX l m d r).2.1.length<=320/\(∀x∈(iX l m d r).2.1,x.length<=382)/\((iX l m d r).2.2=0\/(iX l m d r).2.2=1\/(iX l m d r).2.2=2):=by
 unfold iX;cases hc: !dz r||(bV r==0)with
 |true=>exact⟨λ_=>rfl,λh=>absurd rfl h,cg _,(λx hx=>by cases hx),.inl rfl⟩
 |false=>
  simp only[cn,dM,cv]at hc;have hu:=Al hc.1;have hch:dz (dI l m d r).2.1=true/\bV (dI l m d r).2.1<bV r:=by have:=MD l m d (bV r).toNat [] r hc.1 rfl;unfold dI;rw[show(!dz r||(bV r==0))=false from by rw[hc.1];simpa using hc.2];exact⟨this.1,this.2.2 (by omega)⟩
  cases !(dI l m d r).2.2|| !(gA (dI l m d r).1).2.2.2 with|true=>exact⟨(λh=>by cases h),λ_=>⟨by omega,hc.1,hch⟩,cg _,(λx hx=>by cases hx),.inr (.inr rfl)⟩|false=>cases !(og l m d (gA (dI l m d r).1).1).2||(!(AJ (og l m d (gA (dI l m d r).1).1).1).2||((jo (AJ (og l m d (gA (dI l m d r).1).1).1).1).2 !=0))with|true=>exact⟨(λh=>by cases h),λ_=>⟨by omega,hc.1,hch⟩,cg _,(λx hx=>by cases hx),.inr (.inr rfl)⟩|false=>have hs:=ag3 (jo (AJ (og l m d (gA (dI l m d r).1).1).1).1).1 (gA (dI l m d r).1).2.1;exact⟨(λh=>by cases h),λ_=>⟨by omega,hc.1,hch⟩,hs.1,hs.2,.inr (.inl rfl)⟩
def nS (l:ax aH)(m:bP)(d:Int):Nat->bP->Nat->Nat->kY->kY×bP×Int×Int
 |0,fr,dn,bd,r=>(r,fr,(dn:Int),(bd:Int))
 |n+1,fr,dn,bd,r=>
  bif (iX l m d r).2.2==0 then(r,fr,(dn:Int),(bd:Int)) else
  bif (iX l m d r).2.2==1 then nS l m d n (fr++(iX l m d r).2.1) (dn+1) bd (iX l m d r).1 else
  nS l m d n (fr++(iX l m d r).2.1) dn (bd+1) (iX l m d r).1
def kX (l:ax aH)(m:bP)(d:Int)(r:kY):kY×bP×Int×Int:=nS l m d 17 [] 0 0 r
theorem I1 (l:ax aH)(m:bP)(d:Int)(hl:l.length<=10^9)(hm:m.length<=10^9):∀(n:Nat)(fr:bP)(dn bd:Nat)(r:kY)(f:Nat),n<f->(dz r=true->bV r<n)->0<n->fr.length+320*n<=10000->dn+bd+n<=1000->
 bl (ov (λy2 y3 y4 _ _ _ _ y9=>some (y9,y2,y3,y4)) l d ([]:bP) 0 0 m (0,0,0,0)) f (fr,(dn:Int),(bd:Int),r)=some (nS l m d n fr dn bd r)
 |0,fr,dn,bd,r,f,_,_,h0,_,_=>by omega
 |n+1,fr,dn,bd,r,0,hf,_,_,_,_=>by omega
 |n+1,fr,dn,bd,r,f+1,hf,hr,_,kb,hc=>by have ok:=Tu l m d r;rw[bl,nS];simp only[ov,abO l m d r hl hm,ab];generalize iX l m d r=x at ok⊢;cases h0:x.2.2==0 with|true=>simp only[ah,ok.1 (by simpa using h0)]|false=>have hk:=ok.2.1 (by simpa using h0);have hu:=hr hk.2.1;have hu2:=(Al hk.2.2.1).1;simp only[af];cases x.2.2==1 with|true=>simp only[ah];rw[aR,ak];exact I1 l m d hl hm n _ (dn+1) bd _ f (by omega) (λ_=>by omega) (by omega) (by rw[ai];omega) (by omega)|false=>simp only[af];rw[aR,ak];exact I1 l m d hl hm n _ dn (bd+1) _ f (by omega) (λ_=>by omega) (by omega) (by rw[ai];omega) (by omega)
theorem afZ (l:ax aH)(m:bP)(d:Int)(r:kY)(hl:l.length<=10^9)(hm:m.length<=10^9):tJ l m d r=some (kX l m d r):=by have D5:=eS;unfold tJ;exact I1 l m d hl hm 17 [] 0 0 r fuel (by omega) (λh=>by have:=(Al h).2;omega) (by omega) (by simp) (by omega)
theorem EB (l:ax aH)(m:bP)(d:Int):∀(n:Nat)(fr:bP)(dn bd:Nat)(r:kY),(∀x∈fr,x.length<=382)->
 (nS l m d n fr dn bd r).2.1.length<=fr.length+320*n/\(∀x∈(nS l m d n fr dn bd r).2.1,x.length<=382)/\0<=(nS l m d n fr dn bd r).2.2.1/\(nS l m d n fr dn bd r).2.2.1<=(dn+n:Nat)/\0<=(nS l m d n fr dn bd r).2.2.2/\(nS l m d n fr dn bd r).2.2.2<=(bd+n:Nat)
 |0,fr,dn,bd,r,h=>⟨bj _,h,by show(0:Int)<=(dn:Int);omega,by show(dn:Int)<=_;omega,by show(0:Int)<=(bd:Int);omega,by show(bd:Int)<=_;omega⟩
 |n+1,fr,dn,bd,r,h=>by
  have ok:=Tu l m d r;rw[nS];generalize iX l m d r=x at ok⊢;have h2:∀y∈fr++x.2.1,y.length<=382:=λy hy=>by rcases ay.1 hy with g|g;exact h y g;exact ok.2.2.2.1 y g
  cases x.2.2==0 with|true=>exact⟨by show fr.length<=_;omega,h,by show(0:Int)<=(dn:Int);omega,by show(dn:Int)<=_;omega,by show(0:Int)<=(bd:Int);omega,by show(bd:Int)<=_;omega⟩|false=>cases x.2.2==1 with|true=>have i:=EB l m d n (fr++x.2.1) (dn+1) bd x.1 h2;rw[ai]at i;simp only[af,ah];exact⟨by omega,i.2.1,i.2.2.1,by omega,i.2.2.2.2.1,by omega⟩|false=>have i:=EB l m d n (fr++x.2.1) dn (bd+1) x.1 h2;rw[ai]at i;simp only[af,ah];exact⟨by omega,i.2.1,i.2.2.1,by omega,i.2.2.2.2.1,by omega⟩
def F6 (v:Vector):Bool:=bif decide (v.2.2.1>=1) then(bif decide (v.2.2.1>=v.1) then true else decide (v.2.2.2.1>=v.2.1)) else false
theorem alX (v:Vector):Ed v=some (F6 v):=by unfold Ed F6;cases decide (v.2.2.1>=1);rfl;cases decide (v.2.2.1>=v.1)<;>rfl
theorem amv (v:Vector):wI v=some (F6 v):=by unfold wI F6;cases decide (v.2.2.1>=1);rfl;cases decide (v.2.2.1>=v.1)<;>rfl
def FR (v:Vector):Vector:=bif F6 v&& !v.2.2.2.2.1 then(v.1,v.2.1,v.2.2.1,v.2.2.2.1,v.2.2.2.2.1,true) else v
theorem LD (v:Vector):qh v=some (FR v):=by unfold qh FR;rw[alX,ab];cases F6 v;rfl;cases v.2.2.2.2.1<;>rfl
def upM (n:Int):Int:=if 1000000<au (n+1) then 1000000 else au (n+1)
def evV (v:Vector):Vector:=bif fB v then FR (v.1,v.2.1,upM v.2.2.1,v.2.2.2) else v
theorem afC (v:Vector):yT v=some (evV v):=by unfold yT evV;rw[Cj,ab,LD,ab];cases fB v<;>rfl
def ZZ (v:Vector):Vector:=bif fB v then(bif decide (v.2.2.1>0) then FR (v.1,v.2.1,v.2.2.1,upM v.2.2.2.1,v.2.2.2.2) else FR v) else v
theorem afY (v:Vector):vB v=some (ZZ v):=by unfold vB ZZ;simp only[Cj,ab,LD];cases fB v;rfl;cases decide (v.2.2.1>0)<;>rfl
def Ez (v:Vector):Vector×Bool:=bif fB v&&v.2.2.2.2.2 then((v.1,v.2.1,0,0,true,false),true) else(v,false)
theorem afX (v:Vector):qf v=some (Ez v):=by unfold qf Ez;rw[Cj,ab];cases fB v;rfl;cases v.2.2.2.2.2<;>rfl
def Lb (v:Vector):Vector:=bif fB v then FR (v.1,v.2.1,v.2.2.1,v.2.2.2.1,false,v.2.2.2.2.2) else v
theorem P8 (v:Vector):Ab v=some (Lb v):=by unfold Ab Lb;rw[Cj,ab,LD,ab];cases fB v<;>rfl
structure ma (k:Nat) (a b:Host):Prop where
 mem:b.1.length=a.1.length
 maps:b.2.1=a.2.1
 tx:b.2.2.1=a.2.2.1
 rx:b.2.2.2.1.length=a.2.2.2.1.length
 rxs:∀j,k<=j->b.2.2.2.1[j]?=a.2.2.2.1[j]?
 pl:b.2.2.2.2.1.length=a.2.2.2.2.1.length
 vec:b.2.2.2.2.2.1.length=a.2.2.2.2.2.1.length
 Z5:∀j,k<=j->b.2.2.2.2.2.1[j]?=a.2.2.2.2.2.1[j]?
 pol:b.2.2.2.2.2.2.1.length=a.2.2.2.2.2.2.1.length
 tj:b.2.2.2.2.2.2.2.1=a.2.2.2.2.2.2.2.1
 We:b.2.2.2.2.2.2.2.2.1=a.2.2.2.2.2.2.2.2.1
theorem ma.refl (k:Nat)(a:Host):ma k a a:=⟨rfl,rfl,rfl,rfl,λ_ _=>rfl,rfl,rfl,λ_ _=>rfl,rfl,rfl,rfl⟩
theorem ma.trans {a b c:Host}(h:ma k a b)(g:ma k b c):ma k a c:=⟨g.mem.trans h.mem,g.maps.trans h.maps,g.tx.trans h.tx,g.rx.trans h.rx,λj hj=>(g.rxs j hj).trans (h.rxs j hj),g.pl.trans h.pl,g.vec.trans h.vec,λj hj=>(g.Z5 j hj).trans (h.Z5 j hj),g.pol.trans h.pol,g.tj.trans h.tj,g.We.trans h.We⟩
theorem ma.up {m:Nat}{a b:Host}(h:ma k a b)(hk:k<=m):ma m a b:=⟨h.mem,h.maps,h.tx,h.rx,λj hj=>h.rxs j (by omega),h.pl,h.vec,λj hj=>h.Z5 j (by omega),h.pol,h.tj,h.We⟩
def mB (g:Nat->Host->Host):Nat->Host->Host
 |0,h=>h
 |k+1,h=>g k (mB g k h)
theorem pH (hg:∀k h,ma (k+1) h (g k h))(h:Host):∀k,ma k h (mB g k h)
 |0=>ma.refl 0 h
 |k+1=>((pH hg h k).up (by omega)).trans (hg k _)
theorem Ff {d:Nat}(hn:1000<=n)(hg:∀k h m,1000<=m->dj m dL h->dj (m+d) dL (g k h))(z:dj n dL h):∀k,dj (n+d*k) dL (mB g k h)
 |0=>z
 |k+1=>(hg k _ _ (by omega) (Ff hn hg z k)).mono (by rw[Nat.mul_add];omega)
def yg (i:Nat)(h:Host):Host:=
 match h.2.2.2.2.2.1[i]? with
 |some v=>(h.1,h.2.1,h.2.2.1,h.2.2.2.1,h.2.2.2.2.1,h.2.2.2.2.2.1.set i (ZZ v),h.2.2.2.2.2.2)
 |none=>h
theorem CF (i:Nat)(h:Host):ma (i+1) h (yg i h):=by unfold yg;cases h.2.2.2.2.2.1[i]? with|none=>exact ma.refl _ _|some v=>exact⟨rfl,rfl,rfl,rfl,λ_ _=>rfl,rfl,aC ..,λj hj=>aP (by omega),rfl,rfl,rfl⟩
theorem OB {l:ax Vector}{v:Vector}(z:dj n (.sl ie) l):dj n (.sl ie) (l.set i v):=nw z ⟨cB,cB,cB,cB,cB,cB⟩
theorem ahr (i:Nat)(h:Host)(n:Nat)(hn:1000<=n)(z:dj n dL h):dj (n+0) dL (yg i h):=by unfold yg;cases h.2.2.2.2.2.1[i]? with|none=>exact z|some v=>exact⟨z.1,z.2.1,z.2.2.1,z.2.2.2.1,z.2.2.2.2.1,OB z.2.2.2.2.2.1,z.2.2.2.2.2.2⟩
def uq (h:Host):Host:=bif dZ h then mB yg h.2.2.2.2.2.1.length h else h
theorem ala (hn:1000<=n)(z:dj n dL h):dj n dL (uq h)/\(uq h).2.2.1=h.2.2.1:=by unfold uq;cases dZ h with|false=>exact⟨z,rfl⟩|true=>exact⟨(Ff hn ahr z _).mono,(pH CF h _).tx⟩
theorem Yg (h:Host)(k:OH h)(z:dj 1000000000 dL h):uL h=some (uq h):=by
 have D5:=eS;unfold uL uq;rw[kc h z,ab,wZ h k,ab];cases hb:dZ h;rfl;have hv:h.2.2.2.2.2.1.length<=10^9:=z.2.2.2.2.2.1.1;simp only[aj,af,ah];refine dE (λi=>((i:Int),mB yg i h)) h.2.2.2.2.2.1.length (by omega) (λi nx hi=>?_) (λnx=>?_);have kk:=pH CF h i;have i1:i<(mB yg i h).2.2.2.2.2.1.length:=by rw[kk.vec];exact hi
 rw[show mB yg (i+1) h=yg i (mB yg i h) from rfl];generalize mB yg i h=s at i1⊢;simp only[tw,yg];rw[jI,ah,al i1];simp only[br i1,ab,afY,aw];rw[ak];rfl;simp only[tw];rw[cC,af]
structure BW (n:Nat) (h:Host):Prop where
 z:dj n dL h
 t:h.2.2.1.2.1.2.2.2.length+(bL h.2.2.1.2.2.1).length<=n
theorem BW.mono {m:Nat}(k:BW n h)(hn:n<=m:=by omega):BW m h:=⟨k.z.mono hn,bp k.t hn⟩
theorem BW.sz (k:BW n h)(hn:n<=10^9:=by omega):OH h:=by have z:dj 1000000000 dL h:=k.z.mono hn;exact⟨z.1.1,z.2.1.1,z.2.2.1.2.2.1.1,bp k.t hn,z.2.2.2.2.2.2.2.1.2.2.1,z.2.2.2.2.2.2.2.2.1.1.1,z.2.2.2.2.2.2.2.2.1.2.1.1,z.2.2.2.2.2.2.2.2.1.2.2.2.1,λp hp=>(z.2.2.2.2.1.2 p hp).2.2.2.1⟩
theorem BW.of (k:So dL h<=1048576):BW 1048576 h:=by
 refine⟨K5 k,?_⟩;have hb:=adt h.2.2.1.2.2.1;have h1:So oE h.2.2.1<=So dL h:=by simp only[So];omega
 have hp:h.2.2.1.2.1.2.2.2.length+So (.sl lJ) h.2.2.1.2.2.1<=So oE h.2.2.1:=by simp only[So];omega
 omega
def sy (p:dB):ax pQ->dB
 |[]=>p
 |x::l=>sy (IS p x.2.2).1 l
theorem Ly:∀(l:ax pQ)(p:dB),(sy p l).2.2.2.length<=p.2.2.2.length+(bL l).length
 |[],p=>by simp[sy]
 |x::l,p=>by have h1:=Xy p x.2.2;have h2:=Ly l (IS p x.2.2).1;simp only[sy,bL,List.flatMap_cons,ai]at h2⊢;omega
theorem SV:∀(l:ax pQ)(p:dB)(x:pQ),sy p (l++[x])=(IS (sy p l) x.2.2).1
 |[],p,x=>rfl
 |y::l,p,x=>by rw[List.cons_append,sy,sy,SV l]
theorem WO (a b:ax pQ):(bL (a++b)).length=(bL a).length+(bL b).length:=by simp only[bL,List.flatMap_append,ai]
theorem WQ (l:ax pQ)(n:Nat):(bL (l.take n)).length+(bL (l.drop n)).length=(bL l).length:=by rw[<-WO,cI]
def mQ (t:eD)(n:Int):eD×bW:=
 bif Rm t&&db n 0 (t.2.2.1.length:Int) then((t.1,sy t.2.1 (t.2.2.1.take n.toNat),t.2.2.1.drop n.toNat,t.2.2.2),(t.2.2.1.take n.toNat).map (·.1)) else(t,[])
theorem amt {l:ax pQ}(h:(bL l).length<=10^9):∀x∈l,x.2.2.length<=10^9:=by intro x hx;induction l with|nil=>cases hx|cons y l ih=>simp only[bL,List.flatMap_cons,ai]at h;rcases bS.1 hx with rfl|g;omega;exact ih (by simp only[bL];omega) g
theorem Vv (t:eD)(n:Int)(hw:t.2.2.1.length<=10^9)(hs:t.2.1.2.2.2.length+(bL t.2.2.1).length<=10^9):nk t n=some (mQ t n):=by
 have hx:=amt (l:=t.2.2.1) (by omega);unfold nk mQ;rw[IY t ⟨by omega,hw,hx⟩,ab,abU t hw hs];simp only[ab,cm];cases Rm t;rfl;cases hn:db n 0 (t.2.2.1.length:Int);rfl;have h:=aS.1 hn;obtain⟨n,rfl⟩:=aD h.1;have hl:n<=t.2.2.1.length:=by omega
 simp only[aj,af,ab,bR,ah,aw];rw[BD,ab,aw];have htl:(t.2.2.1.take n).length=n:=by rw[aV];omega
 rw[htl];refine dE (λi=>(((t.2.2.1.take i).map (·.1),(i:Int),t.1,sy t.2.1 (t.2.2.1.take i),t.2.2):bW×Int×eD)) n (by omega) (λi nx hi=>?_) (λnx=>?_);have hi2:i<(t.2.2.1.take n).length:=by omega
 have hi3:i<t.2.2.1.length:=by omega
 have e1:(t.2.2.1.take n)[i]=t.2.2.1[i]:=List.getElem_take ..;have g1:=Ly (t.2.2.1.take i) t.2.1;have g2:=WQ t.2.2.1 (i+1);have g3:(bL (t.2.2.1.take (i+1))).length=(bL (t.2.2.1.take i)).length+t.2.2.1[i].2.2.length:=by rw[bc hi3,WO];simp[bL]
 simp only[kG];rw[jI,ah,br hi2,e1,ab,P3 _ _ (by omega),ab,aR (by simp only[bH,aV,ba];omega),ak,bc hi3,SV,dF];rfl;simp only[kG];rw[cC,af,yf (l:=t.2.2.1) n hl rfl,ab,J5 _ (by rw[aJ];omega) (λx DE=>hx x (List.mem_of_mem_drop DE)),ab]
theorem Sy (n:Int):∀l:ax pQ,l.all (qn n)=true->(l.length:Int)<=eF l
 |[],_=>by simp[eF]
 |x::l,h=>by simp only[cj,ae]at h;have:=Sy n l h.2;have hx:=h.1;unfold qn at hx;simp only[ae,aS]at hx;simp only[eF,dk,fW,aU]at this⊢;omega
theorem Jj {t:eD}(h:Rm t=true):t.2.2.1.length<=16:=by unfold Rm at h;simp only[ae,aE]at h;have h1:=Sy _ _ h.2.2.2.1;have h2:=(mJ h.1).2.2.1;have h3:=h.2.2.2.2.2;omega
theorem JD {t:eD}(n:Int)(z:dj k oE t)(hs:t.2.1.2.2.2.length+(bL t.2.2.1).length<=k): dj k oE (mQ t n).1/\(mQ t n).1.2.1.2.2.2.length+(bL (mQ t n).1.2.2.1).length<=k/\(mQ t n).2.length<=16:=by unfold mQ;cases h:Rm t&&db n 0 (t.2.2.1.length:Int)with|false=>exact⟨z,hs,cg _⟩|true=>simp only[ae]at h;have h16:=Jj h.1;have g1:=Ly (t.2.2.1.take n.toNat) t.2.1;have g2:=WQ t.2.2.1 n.toNat;have hw:t.2.2.1.length<=k:=z.2.2.1.1;refine⟨⟨z.1,⟨cB,cB,cB,?_,λ_ _=>trivial⟩,⟨?_,λx hx=>z.2.2.1.2 x (List.mem_of_mem_drop hx)⟩,z.2.2.2⟩,?_,?_⟩;show(sy t.2.1 (t.2.2.1.take n.toNat)).2.2.2.length<=k;omega;show(t.2.2.1.drop n.toNat).length<=k;rw[aJ];omega;show(sy t.2.1 (t.2.2.1.take n.toNat)).2.2.2.length+(bL (t.2.2.1.drop n.toNat)).length<=k;omega;show((t.2.2.1.take n.toNat).map (·.1)).length<=16;rw[bH,aV];omega
theorem Eg {t:CT}{l q:ax t.D}(z:dj n (.sl t) l)(hq:∀y∈q,dj n t y)(hk:q.length<=k):dj (n+k) (.sl t) (l++q):=by refine⟨?_,λy hy=>?_⟩;show(l++q).length<=n+k;have:=z.1;rw[ai];omega;rcases ay.1 hy with h|h;exact(z.2 y h).mono;exact(hq y h).mono
def fF (h:Host):Host:=bif dZ h then
    (h.1,h.2.1,(mQ ((kX h.2.1 h.1 0 h.2.2.1.1).1,h.2.2.1.2) (if(h.2.2.1.2.2.1.length:Int)<au ((kX h.2.1 h.1 0 h.2.2.1.1).2.2.1+(kX h.2.1 h.1 0 h.2.2.1.1).2.2.2) then(h.2.2.1.2.2.1.length:Int) else au ((kX h.2.1 h.1 0 h.2.2.1.1).2.2.1+(kX h.2.1 h.1 0 h.2.2.1.1).2.2.2))).1,
      h.2.2.2.1,h.2.2.2.2.1,h.2.2.2.2.2.1,h.2.2.2.2.2.2.1,h.2.2.2.2.2.2.2.1,h.2.2.2.2.2.2.2.2.1,h.2.2.2.2.2.2.2.2.2.1,h.2.2.2.2.2.2.2.2.2.2.1,h.2.2.2.2.2.2.2.2.2.2.2.1++(kX h.2.1 h.1 0 h.2.2.1.1).2.1,
      h.2.2.2.2.2.2.2.2.2.2.2.2.1++(mQ ((kX h.2.1 h.1 0 h.2.2.1.1).1,h.2.2.1.2) (if(h.2.2.1.2.2.1.length:Int)<au ((kX h.2.1 h.1 0 h.2.2.1.1).2.2.1+(kX h.2.1 h.1 0 h.2.2.1.1).2.2.2) then(h.2.2.1.2.2.1.length:Int) else au ((kX h.2.1 h.1 0 h.2.2.1.1).2.2.1+(kX h.2.1 h.1 0 h.2.2.1.1).2.2.2))).2,h.2.2.2.2.2.2.2.2.2.2.2.2.2) else h
theorem Kh (h:Host)(k:BW 900000000 h):np h=some (fF h):=by have z:dj 1000000000 dL h:=k.z.mono;have hz:=k.sz;have hm:h.1.length<=900000000:=k.z.1.1;have hl:h.2.1.length<=900000000:=k.z.2.1.1;have hw:h.2.2.1.2.2.1.length<=900000000:=k.z.2.2.1.2.2.1.1;have hwi:h.2.2.2.2.2.2.2.2.2.2.2.1.length<=900000000:=k.z.2.2.2.2.2.2.2.2.2.2.2.1.1;have hco:h.2.2.2.2.2.2.2.2.2.2.2.2.1.length<=900000000:=k.z.2.2.2.2.2.2.2.2.2.2.2.2.1.1;have hA:=EB h.2.1 h.1 0 17 [] 0 0 h.2.2.1.1 (λx hx=>by cases hx);unfold np fF;rw[kc h z,ab,wZ h hz,ab];cases dZ h;rfl;simp only[aj,af,ah,afZ h.2.1 h.1 0 _ (show h.2.1.length<=10^9 by omega) (show h.1.length<=10^9 by omega),ab];rw[show nS h.2.1 h.1 0 17 [] 0 0 h.2.2.1.1=kX h.2.1 h.1 0 h.2.2.1.1 from rfl]at hA;generalize kX h.2.1 h.1 0 h.2.2.1.1=x at hA⊢;simp only[dg]at hA;have hC:=JD (k:=900000000) (t:=(x.1,h.2.2.1.2)) (if(h.2.2.1.2.2.1.length:Int)<au (x.2.2.1+x.2.2.2) then(h.2.2.1.2.2.1.length:Int) else au (x.2.2.1+x.2.2.2)) ⟨⟨cB,cB,cB,cB⟩,k.z.2.2.1.2⟩ k.t;rw[aR,Vv (x.1,h.2.2.1.2) _ (by show h.2.2.1.2.2.1.length<=_;omega) (bp k.t (by omega)),ab,aR]
theorem Fk (hn:400<=n)(k:BW n h):BW (n+5440) (fF h):=by have k':BW (n+5440) h:=k.mono;have hA:=EB h.2.1 h.1 0 17 [] 0 0 h.2.2.1.1 (λx hx=>by cases hx);unfold fF;cases dZ h;exact k';rw[show nS h.2.1 h.1 0 17 [] 0 0 h.2.2.1.1=kX h.2.1 h.1 0 h.2.2.1.1 from rfl]at hA;generalize kX h.2.1 h.1 0 h.2.2.1.1=x at hA⊢;simp only[dg]at hA;generalize (if(h.2.2.1.2.2.1.length:Int)<au (x.2.2.1+x.2.2.2) then(h.2.2.1.2.2.1.length:Int) else au (x.2.2.1+x.2.2.2))=q;have hC:=JD (k:=n) (t:=(x.1,h.2.2.1.2)) q ⟨⟨cB,cB,cB,cB⟩,k.z.2.2.1.2⟩ k.t;have z:=k'.z;refine⟨⟨z.1,z.2.1,hC.1.mono,z.2.2.2.1,z.2.2.2.2.1,z.2.2.2.2.2.1,z.2.2.2.2.2.2.1,z.2.2.2.2.2.2.2.1,z.2.2.2.2.2.2.2.2.1,z.2.2.2.2.2.2.2.2.2.1,cB,?_,?_,z.2.2.2.2.2.2.2.2.2.2.2.2.2⟩,bp hC.2.1 (by omega)⟩;exact Eg (t:=.str) (n:=n) (k:=5440) k.z.2.2.2.2.2.2.2.2.2.2.2.1 (λy hy=>by show y.length<=_;have:=hA.2.1 y hy;omega) (by omega);exact(Eg (t:=.int .i64) (n:=n) (k:=16) k.z.2.2.2.2.2.2.2.2.2.2.2.2.1 (λ_ _=>trivial) hC.2.2).mono
def zW (l:ax aH)(d:Int)(p:dB)(z:Nat):bW->Bytes->bP->ax iu->az (ax iu×bP)
 |[],_,m,a=>some (a,m)
 |b::q,s,m,a=>bif (jb l m d (qx p b) (s.take z) false).2 then zW l d p z q (s.drop z) (jb l m d (qx p b) (s.take z) false).1 (a++[(qx p b,((s.take z).length:Int))]) else none
theorem JL (l:ax aH)(d:Int)(p:dB)(z:Nat):∀(q:bW)(s:Bytes)(m:bP)(a:ax iu){x},zW l d p z q s m a=some x->
 x.2.length=m.length/\x.1.length=a.length+q.length/\∀y∈x.1,y∈a\/((∃b∈q,y.1=qx p b)/\0<=y.2/\y.2<=(z:Int))
 |[],s,m,a,x,h=>by cases h;exact⟨rfl,rfl,λy hy=>Or.inl hy⟩
 |b::q,s,m,a,x,h=>by rw[zW]at h;cases hq:(jb l m d (qx p b) (s.take z) false).2 with|false=>rw[hq]at h;cases h|true=>rw[hq]at h;obtain⟨h1,h2,h3⟩:=JL l d p z q _ _ _ h;rw[ll]at h1;rw[ai,ba]at h2;refine⟨h1,by rw[aU];omega,λy hy=>?_⟩;rcases h3 y hy with g|⟨⟨b',iI,g⟩,g2⟩;rcases ay.1 g with g|g;exact Or.inl g;rw[bz.1 g];refine Or.inr ⟨⟨b,List.mem_cons_self ..,rfl⟩,?_,?_⟩;show(0:Int)<=((s.take z).length:Int);omega;show((s.take z).length:Int)<=(z:Int);rw[aV];omega;exact Or.inr ⟨⟨b',dY _ iI,g⟩,g2⟩
theorem Ut (p:dB)(i:Int): -1<=qx p i/\qx p i<=139136:=by unfold qx;cases hb: !ee p|| !db i 0 (p.2.2.1-1)with|true=>exact⟨cR _,show(-1:Int)<=139136 by omega⟩|false=>simp only[cn,dM]at hb;have h:=Bj hb.1;have h2:=aS.1 hb.2;have h3:0<=i*p.2.1:=Int.mul_nonneg h2.1 (by omega);have h4:i*p.2.1<=16*512:=Int.mul_le_mul (by omega) (by omega) (by omega) (by omega);simp only[af];omega
theorem ahW {p:dB}(hp:ee p=true)(hb:b∈p.2.2.2):0<=qx p b:=by obtain⟨i,hi,rfl⟩:=List.getElem_of_mem hb;have hq:=hp;simp only[ee,ae]at hq;have:=aF.1 hq.2.2.2 i (bB.2 hi);simp only[Ge,ae,cu hi]at this;have hn:=this.1;have h:=Bj hp;have h2:=aS.1 hn;have h3:0<=p.2.2.2[i]*p.2.1:=Int.mul_nonneg h2.1 (by omega);unfold qx;rw[hp,hn];show 0<=p.1+p.2.2.2[i]*p.2.1;omega
theorem ZW (s:Bytes)(z:Nat):sub s 0 (if(s.length:Int)<(z:Int) then(s.length:Int) else(z:Int))=some (s.take z):=by by_cases h:(s.length:Int)<(z:Int);rw[aI h,BD,aw,cE,cf (by omega)];rw[aG h,BD,aw]
theorem W6 (s:Bytes)(z:Nat):sub s ((s.take z).length:Int) (s.length:Int)=some (s.drop z):=by rw[K4 _ _ (by rw[aV];omega),aV];by_cases h:z<=s.length;rw[iW h];rw[Nat.min_eq_right (by omega),gO,List.drop_eq_nil_of_le (by omega)]
def ahC:az (ax iu×bP)->az (Bool×bP×ax iu×Bool)->Prop
 |some x,r=>r=some (true,x.2,x.1,true)
 |none,r=>∃c m,r=some (c,m,[],false)
theorem Ia (l:ax aH)(d:Int)(p:dB)(z:Nat)(B:bP)(hp:p.2.2.2.length<=10^9)(hl:l.length<=10^9):∀(rest pre:bW)(s:Bytes)(m:bP)(a:ax iu)(f:Nat),rest.length<f->(pre++rest).length<=1000000->a.length+rest.length<=1000000->m.length<=10^9->
 ahC (zW l d p z rest s m a) (bl (lh (λ_ BT _ HM=>some (true,HM,BT,true)) (λ_ Uh Ws _ _ _ y23=>some (true,y23,Uh,Ws)) l d (z:Int) ([]:ax iu) false (pre++rest) ((pre++rest).length:Int) p B) f (s,a,(pre.length:Int),m))
 |rest,pre,s,m,a,0,hf,_,_,_=>by omega
 |[],pre,s,m,a,f+1,_,_,_,_=>by rw[bl];simp only[lh];rw[aq (by simp),af];rfl
 |b::q,pre,s,m,a,f+1,hf,hn,ha,hm=>by
  simp only[aU,ai]at hf hn ha;have hi:pre.length<(pre++b::q).length:=by simp
  have hb:(pre++b::q)[pre.length]=b:=by simp
  have hA:=Ut p b;rw[bl];simp only[lh];rw[ar (by simp;omega),br hi,hb];simp only[ah,ab,ZW,W6,J4 p b hp,DF l m d (qx p b) (s.take z) hl hm];rw[zW];cases hq:(jb l m d (qx p b) (s.take z) false).2 with
  |false=>exact⟨_,_,rfl⟩
  |true=>
   simp only[aj,af,ah];rw[ak (n:=(pre.length:Int)+1),aR (by simp only[ba];omega)];have key:=Ia l d p z B hp hl q (pre++[b]) (s.drop z) (jb l m d (qx p b) (s.take z) false).1 (a++[(qx p b,((s.take z).length:Int))]) f (by omega) (by simp;omega) (by simp;omega) (by rw[ll];exact hm);have el:((pre++[b]).length:Int)=(pre.length:Int)+1:=by simp
   rw[aL,List.singleton_append,el]at key;exact key
theorem afG (l:ax aH)(m:bP)(d:Int)(p:dB)(q:bW)(s:Bytes)(z:Nat)(hp:p.2.2.2.length<=10^9)(hl:l.length<=10^9)(hm:m.length<=10^9)(hq:q.length<=1000)(h0:0<q.length): ahC (zW l d p z q s m []) (oU l m d p q s (z:Int)):=by have D5:=eS;cases q with|nil=>cases h0|cons b q=>simp only[aU]at hq;have hA:=Ut p b;have hi:idx (b::q) 0=some b:=rfl;unfold oU;rw[ar (by simp),ah,hi];simp only[ab,ZW,W6,J4 p b hp,DF l m d (qx p b) (s.take z) hl hm];rw[zW];cases hq':(jb l m d (qx p b) (s.take z) false).2 with|false=>exact⟨_,_,rfl⟩|true=>simp only[aj,af,ah];rw[aR (by simp),show au (0+1)=1 from rfl];exact Ia l d p z _ hp hl q [b] (s.drop z) (jb l m d (qx p b) (s.take z) false).1 [(qx p b,((s.take z).length:Int))] fuel (by omega) (by simp;omega) (by simp;omega) (by rw[ll];exact hm)
theorem aiB {ps:ax iu}{z:Int}(h0:0<ps.length)(h16:ps.length<=16)(hp:∀x∈ps,0<=x.1/\x.1<=200000/\0<=x.2/\x.2<=4096)(hz:db z 1 128=true)(hc:db c 0 65535=true):(su ps z c).length=ps.length+1:=by
 have hz2:=aS.1 hz;have hc2:=aS.1 hc;have e1:qm ps=true:=by unfold qm;rw[ae,aN,aE];refine⟨List.any_eq_false.2 λx hx=>?_,by omega⟩;have:=hp x hx;unfold Ct;rw[cC,cJ,aN,Bool.eq_false_iff];intro h;exact h (aS.2 (by omega))
 have e2:([((2:Int),(0:Int),(0:Int),(0:Int),z,c)]++AI ps c ps.length).all wq=true:=by rw[List.all_append,ae];constructor;simp only[cj,List.all_nil,gw,wq,ae,aS];omega;rw[Lu];refine aF.2 λj hj=>?_;have hj:=bB.1 hj;have:=hp _ (aM hj);simp only[dsc,cu hj,wq,ae,aS];refine⟨by omega,?_,by omega,by omega,by omega,by omega⟩;by_cases hq:j+1=ps.length;rw[aI hq];omega;rw[aG hq];omega
 unfold su;rw[e1,hz,e2,show((ps.length:Int)==0)=false from by rw[cv];omega];simp only[aj,cl,af,ah,ai,ba,DY];omega
theorem X5 (K:bP->Int->az R)(l:ax aH)(d:Int)(q:bW)(ds ds2:ax rl)(t1 t2 t3 t4:eD)(m1 m2 m3:bP)(h:ds.length<=1000): bl (gQ K l d q ds2 ds (ds.length:Int) t1 m1 t2 m2 t3 t4 m3) fuel (([]:bP),0)=K (ds.map AR) (ds.length:Int):=by
 have D5:=eS;refine dE (λi=>((ds.take i).map AR,(i:Int))) ds.length (by omega) (λi nx hi=>?_) (λnx=>?_);have e:((ds.take i).map AR).length<=1000:=by simp;omega
 rw[bc hi,dF];simp only[gQ];rw[jI,ah,br hi,ab,Vy,ab,aR (by simp only[ba];omega),ak];rfl;simp only[gQ];rw[cC,af,cE]
def B4 (p:aK)(z:Nat):Nat:=((lG p).1.length+z-1)/z
def QQ (l:ax aH)(m:bP)(d:Int)(t:eD)(c:Int)(n:Nat)(x:ax iu×bP):bP×eD×Bool:=
 bif (xJ l x.2 d t.1 ((su x.1 c t.2.2.2).map AR)).2.2 then
  ((xJ l x.2 d t.1 ((su x.1 c t.2.2.2).map AR)).1,((xJ l x.2 d t.1 ((su x.1 c t.2.2.2).map AR)).2.1,(lP t.2.1 (n:Int)).1,t.2.2.1++[(t.2.2.2,(n:Int)+1,(lP t.2.1 (n:Int)).2.1)],tmod (t.2.2.2+1) 65536),true)
 else(m,t,false)
def MI (t:eD)(n:Nat):Bool:=(lP t.2.1 (n:Int)).2.2&&(!decide ((n:Int)>16)&&(!decide ((n:Int)+1>qA t.1)&& !decide (eF t.2.2.1+(n:Int)+1>t.1.2.1)))
def yE (l:ax aH)(m:bP)(d:Int)(t:eD)(p:aK)(c z:Int):bP×eD×Bool:=
 bif Rm t&&(dv p&&(db z 1 t.2.1.2.1&&db c 1 128)) then
  bif MI t (B4 p z.toNat) then
   match zW l d t.2.1 z.toNat (lP t.2.1 (B4 p z.toNat:Int)).2.1 (lG p).1 m []with
   |some x=>QQ l m d t c (B4 p z.toNat) x
   |none=>(m,t,false)
  else(m,t,false)
 else(m,t,false)
theorem adf (h:dv p=true):0<(lG p).1.length/\(lG p).1.length<=378:=by have hl:=BM p;have hs:=XW h;unfold lG;rw[h];show 0<(nC (dC p).1 (aW 0) (aW 0)).length/\(nC (dC p).1 (aW 0) (aW 0)).length<=378;rw[GJ];omega
theorem an6 (len z:Nat)(h:len<=1000)(hz:z<=1000)(h0:0<z):au (tdiv (au (au ((len:Int)+(z:Int))-1)) (z:Int))=(((len+z-1)/z:Nat):Int):=by have hd:(len+z-1)/z<=len+z-1:=Nat.div_le_self ..;rw[ak (n:=(len:Int)+(z:Int)),ak (n:=(len:Int)+(z:Int)-1),show(len:Int)+(z:Int)-1=((len+z-1:Nat):Int) by omega,show tdiv ((len+z-1:Nat):Int) (z:Int)=(((len+z-1)/z:Nat):Int) from rfl];generalize (len+z-1)/z=N at hd⊢;rw[ak]
theorem ZU {p:dB}(h:(lP p (n:Int)).2.2=true):ee p=true/\n<=p.2.2.2.length/\(lP p (n:Int)).2.1=p.2.2.2.take n:=by unfold lP at h⊢;cases hq:ee p&&db (n:Int) 0 (p.2.2.2.length:Int)with|false=>rw[hq]at h;cases h|true=>simp only[ae,aS]at hq;exact⟨hq.1,by omega,rfl⟩
theorem afi {t:eD}{z:Nat}{x:ax iu×bP}(ht:Rm t=true)(hz:z<=512)(hc:db c 1 128=true)(h0:0<n)(h16:n<=16)(hk:(lP t.2.1 (n:Int)).2.2=true)(hx:zW l d t.2.1 z (lP t.2.1 (n:Int)).2.1 s m []=some x):x.2.length=m.length/\(su x.1 c t.2.2.2).length=n+1:=by
 obtain⟨hp,hn,hb⟩:=ZU hk;rw[hb]at hx;obtain⟨h1,h2,h3⟩:=JL l d t.2.1 z _ _ _ _ hx;simp only[dg,aV,cy]at h2;have e:x.1.length=n:=by omega
 refine⟨h1,?_⟩;rw[aiB (by omega) (by omega) (λy hy=>?_) hc (by simp only[Rm,ae]at ht;exact ht.2.2.1),e];rcases h3 y hy with g|⟨⟨b,iI,g⟩,g2⟩;cases g;have q1:=ahW hp (List.mem_of_mem_take iI);have q2:=Ut t.2.1 b;rw[g];omega
theorem afP (l:ax aH)(m:bP)(d:Int)(t:eD)(p:aK)(c z:Int)(hl:l.length<=10^9)(hm:m.length<=10^9)(ht:alu t)(h1:t.2.2.1.length<=10^9)(h2:t.2.1.2.2.2.length+(bL t.2.2.1).length<=10^9):vz l m d t p c z=some (yE l m d t p c z):=by
 have D5:=eS;unfold vz yE;rw[gM m,ab,IY t ht,ab,abU t h1 h2,ab,mS,cm,cm];simp only[ab];cases hb:Rm t;rfl;cases hp:dv p;rfl;cases hz:db z 1 t.2.1.2.1;rfl;cases hc:db c 1 128;rfl;have hT:=adf hp;have hz2:=aS.1 hz;have hq:=hb;simp only[Rm,ae]at hq;have Hu:=Bj hq.2.1;have h16:=Jj hb;have hrg:=mJ hq.1;have hnx:=aS.1 hq.2.2.1;obtain⟨z,rfl⟩:=aD (by omega:0<=z);have hzn:¬(z:Int)=0:=by omega
 have hS:∀x∈t.2.2.1,0<=x.2.1/\x.2.1<=16:=λx hx=>by have:=aF.1 hq.2.2.2.1 x hx;simp only[qn,ae,aS]at this;omega
 have hcb:=FV _ hS;have hN:B4 p z<=1000:=by have:B4 p z<=(lG p).1.length+z-1:=Nat.div_le_self ..;omega
 have hN0:0<B4 p z:=Nat.div_pos (by omega) (by omega);have hce:=an6 (lG p).1.length z (by omega) (by omega) (by omega);rw[show((lG p).1.length+z-1)/z=B4 p z from rfl]at hce;simp only[aj,af,ab,bR,ah,aw,Th,aG hzn,hce,afW _ _ (show t.2.1.2.2.2.length<=10^9 by omega),S9,afR t (by omega) hS,MI];rw[ak (n:=(B4 p z:Int)+1),ak (n:=eF t.2.2.1+(B4 p z:Int)),ak (n:=eF t.2.2.1+(B4 p z:Int)+1)];by_cases g1:(B4 p z:Int)>16;rw[ar g1];simp only[ah,ab,aj,dJ,fG,af];rw[aq g1];simp only[bt,af,bn];cases decide ((B4 p z:Int)+1>qA t.1)with|true=>simp only[ah,ab,aj,dJ,fG,af]|false=> ?_
 simp only[bt,af,bn,ab];cases decide (eF t.2.2.1+(B4 p z:Int)+1>t.1.2.1)with|true=>simp only[ah,ab,aj,dJ,fG,af]|false=> ?_
 simp only[bt,af,gw,ab];cases hk:(lP t.2.1 (B4 p z:Int)).2.2;rfl;simp only[aj,af,ah,gM m (show m.length<=1073741824 by omega),ab];obtain⟨_,hkn,Rx⟩:=ZU hk;have Ry:(lP t.2.1 (B4 p z:Int)).2.1.length=B4 p z:=by rw[Rx,aV];omega
 have key:=afG l m d t.2.1 (lP t.2.1 (B4 p z:Int)).2.1 (lG p).1 z (by omega) hl hm (by omega) (by omega);cases hx:zW l d t.2.1 z (lP t.2.1 (B4 p z:Int)).2.1 (lG p).1 m []with
 |none=>rw[hx]at key;obtain⟨a,b,e⟩:=key;obtain⟨f,g,_⟩:=ES [] c t.2.2.2 (by simp);rw[e,ab];simp only[g,ab];cases a<;>cases f<;>rfl
 |some x=>
  rw[hx]at key;have key:oU _ _ _ _ _ _ _=_:=key;obtain⟨x1,x2⟩:=afi hb (by omega) hc hN0 (by omega) hk hx;obtain⟨_,x3,_⟩:=JL l d t.2.1 z _ _ _ _ hx;simp only[dg]at x3;obtain⟨f,g,hf⟩:=ES x.1 c t.2.2.2;have hft:f=true:=by cases f with|true=>rfl|false=>have:=hf rfl;rw[this]at x2;cases x2
  subst hft;simp only[key,g,ab,ah,aj,af,aG (show¬(su x.1 c t.2.2.2).length=0 by omega),QQ];rw[X5 _ _ _ _ _ _ _ _ _ _ _ _ _ (by omega)];simp only[abQ l x.2 d t.1 _ hl (by omega) (show((su x.1 c t.2.2.2).map AR).length<=10^9 by rw[bH];omega),ab];cases (xJ l x.2 d t.1 ((su x.1 c t.2.2.2).map AR)).2.2 with|false=>rfl|true=>simp only[aj,af,ab,ah];rw[aR (by simp only[ba];omega),nU,ak,x2];rfl
def Wf (g:Nat->Host->Host):Nat->Host->Host
 |0,h=>h
 |k+1,h=>g k (Wf g k h)
structure Fu (a b:Host):Prop where
 maps:b.2.1=a.2.1
 tx:b.2.2.1=a.2.2.1
 rx:b.2.2.2.1.length=a.2.2.2.1.length
 pl:b.2.2.2.2.1.length=a.2.2.2.2.1.length
 vec:b.2.2.2.2.2.1=a.2.2.2.2.2.1
 pol:b.2.2.2.2.2.2.1=a.2.2.2.2.2.2.1
 ret:b.2.2.2.2.2.2.2.2.2.2.2.2.2.1=a.2.2.2.2.2.2.2.2.2.2.2.2.2.1
theorem Fu.refl (a:Host):Fu a a:=⟨rfl,rfl,rfl,rfl,rfl,rfl,rfl⟩
theorem Fu.trans {a b c:Host}(h:Fu a b)(k:Fu b c):Fu a c:=⟨k.1.trans h.1,k.2.trans h.2,k.3.trans h.3,k.4.trans h.4,k.5.trans h.5,k.6.trans h.6,k.7.trans h.7⟩
theorem Zb (h:Host)(i:Nat)(c:Int):Fu h (we h i c).2:=by unfold we;rcases h1:h.2.2.2.1[i]? with _|rx;exact Fu.refl h;rcases h2:h.2.2.2.2.1[i]? with _|pl;exact Fu.refl h;exact⟨rfl,rfl,aC ..,aC ..,rfl,rfl,rfl⟩
def rY (h:Host)(k:Nat):Host:=Wf (λi s=>(we s i 1000).2) k h
theorem E4 (hn:128<=n)(z:dj n dL h):∀k,Fu h (rY h k)/\dj (n+322000*k) dL (rY h k)
 |0=>⟨Fu.refl h,z⟩
 |k+1=>by have i:=E4 hn z k;exact⟨i.1.trans (Zb ..),(acF (by omega) k 1000 i.2).mono⟩
def TI (h:Host)(l:bW):Host:=(h.1,h.2.1,h.2.2.1,h.2.2.2.1,h.2.2.2.2.1,h.2.2.2.2.2.1,h.2.2.2.2.2.2.1,h.2.2.2.2.2.2.2.1,h.2.2.2.2.2.2.2.2.1,h.2.2.2.2.2.2.2.2.2.1,h.2.2.2.2.2.2.2.2.2.2.1,h.2.2.2.2.2.2.2.2.2.2.2.1,h.2.2.2.2.2.2.2.2.2.2.2.2.1,h.2.2.2.2.2.2.2.2.2.2.2.2.2.1++l,h.2.2.2.2.2.2.2.2.2.2.2.2.2.2)
def Wp (h:Host):Host:=(h.1,h.2.1,(yq.1,yq.2.1,yq.2.2.1,h.2.2.1.2.2.2),h.2.2.2)
def Ik (h:Host)(i:Nat)(dr:Int):Host:=
 ((uk h.2.1 h.1 i).1,h.2.1,h.2.2.1,h.2.2.2.1.set i ((uk h.2.1 h.1 i).2.1,(GN i).2.1,(GN i).2.2.1,(GN i).2.2.2.1,(GN i).2.2.2.2.1,dr),h.2.2.2.2.1.set i (uk h.2.1 h.1 i).2.2.1,h.2.2.2.2.2)
def HX (x:cA):Int:=bif x.2.2.2.2.1 then au (x.2.2.2.2.2+x.2.2.2.1.2.2) else x.2.2.2.2.2
def wg (i:Nat)(h:Host):Host:=
 match h.2.2.2.1[i]?,h.2.2.2.2.2.1[i]? with
 |some x,some v=>((Ik h i (HX x)).1,h.2.1,h.2.2.1,(Ik h i (HX x)).2.2.2.1,(Ik h i (HX x)).2.2.2.2.1,h.2.2.2.2.2.1.set i (v.1,v.2.1,0,0,false,false),h.2.2.2.2.2.2.1.set i false,h.2.2.2.2.2.2.2)
 |_,_=>h
structure amR (k:Nat) (a b:Host):Prop where
 mem:b.1.length=a.1.length
 maps:b.2.1=a.2.1
 rx:b.2.2.2.1.length=a.2.2.2.1.length
 pl:b.2.2.2.2.1.length=a.2.2.2.2.1.length
 vec:b.2.2.2.2.2.1.length=a.2.2.2.2.2.1.length
 Z5:∀j,k<=j->b.2.2.2.2.2.1[j]?=a.2.2.2.2.2.1[j]?
 pol:b.2.2.2.2.2.2.1.length=a.2.2.2.2.2.2.1.length
theorem Tw (l:ax aH)(m:bP)(i:Nat):(uk l m i).1.length=m.length:=by unfold uk;rw[adK,ll]
theorem Zp (i:Nat)(h:Host):amR (i+1) h (wg i h):=by unfold wg;rcases h1:h.2.2.2.1[i]? with _|x;exact⟨rfl,rfl,rfl,rfl,rfl,λ_ _=>rfl,rfl⟩;rcases h2:h.2.2.2.2.2.1[i]? with _|v;exact⟨rfl,rfl,rfl,rfl,rfl,λ_ _=>rfl,rfl⟩;have e1:(Ik h i (HX x)).1.length=h.1.length:=Tw h.2.1 h.1 i;exact⟨e1,rfl,aC ..,aC ..,aC ..,λj hj=>aP (by omega),aC ..⟩
def iL (h:Host)(k:Nat):Host:=Wf wg k h
theorem zA (h:Host):∀k,amR k h (iL h k)
 |0=>⟨rfl,rfl,rfl,rfl,rfl,λ_ _=>rfl,rfl⟩
 |k+1=>by have a:=zA h k;have b:=Zp k (iL h k);exact⟨b.mem.trans a.mem,b.maps.trans a.maps,b.rx.trans a.rx,b.pl.trans a.pl,b.vec.trans a.vec,λj hj=>(b.Z5 j hj).trans (a.Z5 j (by omega)),b.pol.trans a.pol⟩
theorem agz (hn:1000<=n)(i:Nat)(d:Int)(z:dj n dL h):dj n dL (Ik h i d):=by unfold Ik uk;have h4:=ql (iv i+128) 384 4;have hf:=IL h.2.1 (jb h.2.1 h.1 0 (iv i) (yr 128) false).1 0 (iv i,4,0,0) (iK (iv i+128) 384 4).1;refine⟨SJ (by omega) (GI (by omega) z.1 ..) ..,z.2.1,z.2.2.1,nw z.2.2.2.1 ?_,nw z.2.2.2.2.1 ?_,z.2.2.2.2.2⟩;refine⟨⟨cB,cB,cB,cB⟩,⟨cB,cB,cB⟩,⟨cB,cB,cB⟩,⟨⟨cB,cB,cB,cB,cB,cB,cB,cB,cB,cB,cB,cB,cB,cB,cB,?_⟩,cB,cB⟩,cB,cB⟩;exact cg _;exact⟨cB,cB,cB,by show List.length _<=_;omega,λ_ _=>trivial⟩
theorem acO (hn:1000<=n)(i:Nat)(z:dj n dL h):dj n dL (wg i h):=by unfold wg;rcases h1:h.2.2.2.1[i]? with _|x;exact z;rcases h2:h.2.2.2.2.2.1[i]? with _|v;exact z;have zo:=agz hn i (HX x) z;exact⟨zo.1,z.2.1,z.2.2.1,zo.2.2.2.1,zo.2.2.2.2.1,nw z.2.2.2.2.2.1 ⟨cB,cB,cB,cB,cB,cB⟩,nw z.2.2.2.2.2.2.1 trivial,z.2.2.2.2.2.2.2⟩
theorem E8 (hn:1000<=n)(z:dj n dL h):∀k,dj n dL (iL h k)
 |0=>z
 |k+1=>acO hn k (E8 hn z k)
def Mj (W:ax pQ)(i:Nat)(s:Host):Host:=match W[i]? with|some x=>TI s [x.1]|none=>s
def polled (h:Host):Host:=rY h h.2.2.2.1.length
def returned (h:Host)(k:Nat):Host:=Wf (Mj h.2.2.1.2.2.1) k (polled h)
structure apT (a b:Host):Prop where
 e:b=(a.1,a.2.1,a.2.2.1,a.2.2.2.1,a.2.2.2.2.1,a.2.2.2.2.2.1,a.2.2.2.2.2.2.1,a.2.2.2.2.2.2.2.1,a.2.2.2.2.2.2.2.2.1,a.2.2.2.2.2.2.2.2.2.1,a.2.2.2.2.2.2.2.2.2.2.1,a.2.2.2.2.2.2.2.2.2.2.2.1,a.2.2.2.2.2.2.2.2.2.2.2.2.1,b.2.2.2.2.2.2.2.2.2.2.2.2.2.1,a.2.2.2.2.2.2.2.2.2.2.2.2.2.2)
theorem Ak (z:dj n dL (polled h)):∀k,apT (polled h) (returned h k)/\(returned h k).2.2.2.2.2.2.2.2.2.2.2.2.2.1.length<=n+k
 |0=>⟨⟨rfl⟩,by have:=z.2.2.2.2.2.2.2.2.2.2.2.2.2.1.1;exact bp this (by omega)⟩
 |k+1=>by have i:=Ak z k;have e:returned h (k+1)=Mj h.2.2.1.2.2.1 k (returned h k):=rfl;rw[e];unfold Mj;cases h.2.2.1.2.2.1[k]? with|none=>exact⟨i.1,bp i.2 (by omega)⟩|some x=>refine⟨⟨?_⟩,?_⟩;show TI _ _=_;have e:=i.1.e;generalize returned h k=r at e⊢;rw[e];rfl;show(_++[_]).length<=_;rw[ai,ba];omega
theorem V0 (z:dj n dL (polled h))(k:Nat):dj (n+k) dL (returned h k):=by have i:=Ak z k;have z':dj (n+k) dL (polled h):=z.mono;rw[i.1.e];exact⟨z'.1,z'.2.1,z'.2.2.1,z'.2.2.2.1,z'.2.2.2.2.1,z'.2.2.2.2.2.1,z'.2.2.2.2.2.2.1,z'.2.2.2.2.2.2.2.1,z'.2.2.2.2.2.2.2.2.1,z'.2.2.2.2.2.2.2.2.2.1,z'.2.2.2.2.2.2.2.2.2.2.1,z'.2.2.2.2.2.2.2.2.2.2.2.1,z'.2.2.2.2.2.2.2.2.2.2.2.2.1,⟨i.2,λ_ _=>trivial⟩,z'.2.2.2.2.2.2.2.2.2.2.2.2.2.2⟩
theorem Z0 (hn:1000<=n)(z:dj n dL h):dj n dL (Wp h):=by have h4:=ql 256 128 8;exact⟨z.1,z.2.1,⟨⟨cB,cB,cB,cB⟩,⟨cB,cB,cB,by show List.length (iK 256 128 8).1.2.2.2<=n;omega,λ_ _=>trivial⟩,⟨cg _,λx hx=>by cases hx⟩,cB⟩,z.2.2.2⟩
def rD (h:Host):Host:=Wp (returned h h.2.2.1.2.2.1.length)
def rp (h:Host):Host:=bif dZ h then iL (rD h) h.2.2.2.1.length else h
theorem PR (hb:dZ h=true):uh h=true:=by simp only[dZ,ae]at hb;exact hb.2.2.2.2.1
theorem MG (hn:1000<=n)(z:dj n dL h)(hl:h.2.2.2.1.length<=2):dj (n+644000+h.2.2.1.2.2.1.length) dL (rD h):=by have hp:=E4 (by omega) z h.2.2.2.1.length;exact Z0 (by omega) (V0 (hp.2.mono) _)
theorem are (l:ax aH)(X:bP)(q:cA)(P:dB)(o:bP×kY×dB×Int)(k:cA×dB->bP×kY×dB×Int->az R)(h:jf l X 0 q.1 P=some o):(aa (jf l X 0 (q,P).1.1 (q,P).2) λSe=>k (q,P) Se)=k (q,P) o:=by show aa (jf l X 0 q.1 P) (λSe=>k (q,P) Se)=k (q,P) o;rw[h,ab]
theorem Ta (l:ax aH)(m:bP)(i:Nat)(hi:i<=8)(hl:l.length<=10^9)(hm:m.length<=10^9)(k:cA×dB->bP×kY×dB×Int->az R): (aa (sK (i:Int)) λBQ=>aa (pO 0 128) λRA=>aa (kz l m 0 BQ RA) λAL=>aa (yB (i:Int)) λEF=>aa (jf l AL.1 0 EF.1.1 EF.2) λSe=>k EF Se)=k (GN i,(iK (iv i+128) 384 4).1) (uk l m i):=by
 have hb:iv i=1280+(i:Int)*1792:=rfl;have SZ:iv i<=9223372036854775807:=by omega
 have hz:pO 0 128=some (yr 128):=adU 128;have hf:=X6 l (jb l m 0 (iv i) (yr 128) false).1 0 (iv i,4,0,0) (iK (iv i+128) 384 4).1 hl (by rw[ll];exact hm) (bp (ql (iv i+128) 384 4) (by omega));rw[X0 i hi,ab,hz,ab,DF l m 0 (iv i) (yr 128) hl hm SZ,ab,afN i hi,ab];exact are l _ (GN i) _ (uk l m i) k hf
theorem R0 (K:Int->Host->az Host)(s0 B:Host)(N:Nat)(hN:N<=2)(h1:s0.2.2.2.1.length=N)(h2:s0.2.2.2.2.1.length=N)(h3:s0.2.2.2.2.2.1.length=N)(h4:s0.2.2.2.2.2.2.1.length=N)(z:dj 900000000 dL s0): bl (mj K (N:Int) B) fuel (0,s0)=K (N:Int) (iL s0 N):=by
 refine dE (λi=>((i:Int),iL s0 i)) N (by omega) (λi nx hi=>?_) (λnx=>?_);have kr:=zA s0 i;have zr:=E8 (by omega) z i;have z1:(iL s0 i).1.length<=10^9:=bp zr.1.1 (by omega);have z2:(iL s0 i).2.1.length<=10^9:=bp zr.2.1.1 (by omega);have i1:i<(iL s0 i).2.2.2.1.length:=by rw[kr.rx,h1];exact hi
 have i2:i<(iL s0 i).2.2.2.2.1.length:=by rw[kr.pl,h2];exact hi
 have i3:i<(iL s0 i).2.2.2.2.2.1.length:=by rw[kr.vec,h3];exact hi
 have i4:i<(iL s0 i).2.2.2.2.2.2.1.length:=by rw[kr.pol,h4];exact hi
 rw[show iL s0 (i+1)=wg i (iL s0 i) from rfl];generalize iL s0 i=s at z1 z2 i1 i2 i3 i4⊢;unfold wg HX Ik;simp only[al i1,al i3];simp only[mj];rw[jI,ah];simp only[br i1,ab];rw[Ta s.2.1 s.1 i (by omega) z2 z1,Ta s.2.1 s.1 i (by omega) z2 z1];generalize GN i=q;generalize uk s.2.1 s.1 i=o;simp only[br i1,br i2,br i3,br i4,ab];rw[ak (n:=(i:Int)+1),aw];cases s.2.2.2.1[i].2.2.2.2.1<;>rfl;simp only[mj];rw[cC,af]
theorem UZ (hq:Fu h (polled h))(hz:dj n dL (polled h)):(rD h).2.2.2.1.length=h.2.2.2.1.length/\(rD h).2.2.2.2.1.length=h.2.2.2.2.1.length/\(rD h).2.2.2.2.2.1=h.2.2.2.2.2.1/\(rD h).2.2.2.2.2.2.1=h.2.2.2.2.2.2.1:=by have er:=(Ak hz h.2.2.1.2.2.1.length).1.e;refine⟨?_,?_,?_,?_⟩;show(returned h h.2.2.1.2.2.1.length).2.2.2.1.length=_;rw[er];exact hq.rx;show(returned h h.2.2.1.2.2.1.length).2.2.2.2.1.length=_;rw[er];exact hq.pl;show(returned h h.2.2.1.2.2.1.length).2.2.2.2.2.1=_;rw[er];exact hq.vec;show(returned h h.2.2.1.2.2.1.length).2.2.2.2.2.2.1=_;rw[er];exact hq.pol
theorem Ic (h:Host)(k:OH h)(z:dj 100000000 dL h):sE h=some (rp h):=by
 have D5:=eS;unfold sE rp;rw[kc h (z.mono),ab,wZ h k,ab];cases hb:dZ h;rfl;have hl:=tQ (PR hb);have hw:h.2.2.1.2.2.1.length<=100000000:=z.2.2.1.2.2.1.1;have hp:=E4 (n:=100000000) (by omega) z;simp only[aj,af,ah];refine dE (λi=>((i:Int),rY h i)) h.2.2.2.1.length (by omega) (λi nx hi=>?_) (λnx=>?_);simp only[rK];rw[jI,ah,VD (rY h i) i 1000 (by rw[(hp i).1.rx];exact hi) (by rw[(hp i).1.pl];omega) ((hp i).2.mono),ab,ak];rfl;simp only[rK];rw[cC,af];have hq:=hp h.2.2.2.1.length;have hr:=Ak (n:=100000000+322000*h.2.2.2.1.length) hq.2;have e1:(rY h h.2.2.2.1.length).2.2.1.2.2.1=h.2.2.1.2.2.1:=by rw[hq.1.tx]
 rw[e1];refine dE (λi=>((i:Int),returned h i)) h.2.2.1.2.2.1.length (by omega) (λi nx hi=>?_) (λnx=>?_);have hri:=(hr i).2;simp only[pX];rw[jI,ah,br hi,ab,aR (by rw[ba];omega),ak];rw[show returned h (i+1)=Mj h.2.2.1.2.2.1 i (returned h i) from rfl,Mj,al hi];rfl;simp only[pX];rw[cC,af];simp only[af0,ab];have hE:=MG (n:=100000000) (by omega) z hl.1;have hk:=UZ hq.1 hq.2;have eN:((List.length (returned h h.2.2.1.2.2.1.length).2.2.2.1:Nat):Int)=(h.2.2.2.1.length:Int):=congrArg Nat.cast hk.1;rw[eN];exact R0 _ (rD h) _ h.2.2.2.1.length hl.1 hk.1 (hk.2.1.trans hl.2.1) (by rw[hk.2.2.1];exact hl.2.2.1) (by rw[hk.2.2.2];exact hl.2.2.2) (hE.mono)
def B5 (x:Jn):Bool:=db x.1 0 65535&&(db x.2.1 0 65535&&(db x.2.2.1 0 65535&&(db x.2.2.2.1 0 65535&&db x.2.2.2.2 0 4294967295)))
theorem S5 (x:Jn):nm x=some (B5 x):=by simp only[nm,cm,ab,bM,cF,B5]
def U0 (x:Jn)(p:Int):Bytes:=bif B5 x&&db p 0 1 then((((aW x.1++aW x.2.1)++aW x.2.2.1)++aW x.2.2.2.1)++dh x.2.2.2.2)++dh p else []
theorem ajm (x:Jn)(p:Int):mE x p=some (U0 x p):=by have h1:=bT x.1;have h2:=bT x.2.1;have h3:=bT x.2.2.1;have h4:=bT x.2.2.2.1;have h5:=dS x.2.2.2.2;have h6:=dS p;unfold mE U0;simp only[S5,cm,ab,mh,wa];cases B5 x;rfl;cases db p 0 1;rfl;simp only[aj,af,ab,bR,ah];rw[aR,aR (by simp only[ai];omega),aR (by simp only[ai];omega),aR (by simp only[ai];omega),aR (by simp only[ai];omega)]
def Dh (l:ax aH)(m:bP)(d:Int)(q:uA)(x:Jn):bP×uA×Bool:=
 bif !gE q|| !B5 x then(m,q,false) else
 bif !(jb l m d (uo q) (U0 x (Cs q)) true).2 then(m,q,false) else
 ((jb l m d (uo q) (U0 x (Cs q)) true).1,(q.1,q.2.1,tmod (q.2.2+1) (2*q.2.1)),true)
theorem ajw (l:ax aH)(m:bP)(d:Int)(q:uA)(x:Jn)(hl:l.length<=10^9)(hm:m.length<=10^9):qb l m d q x=some (Dh l m d q x):=by unfold qb Dh;simp only[LJ,S5,ab,gM m (show m.length<=1073741824 by omega),Tb,ajm];cases hq:gE q;rfl;have h:=xM hq;have hs:=V6 hq;cases B5 x;rfl;simp only[aj,af,ab,cl,Tf q hq,ET l m d _ _ hl hm (show uo q<=9223372036854775807 by unfold uo;omega)];cases hp:(jb l m d (uo q) (U0 x (Cs q)) true).2 with|false=>simp only[bt,ah,Me hp]|true=>simp only[aj,af];rw[ak (n:=2*q.2.1),nU,ak (n:=q.2.2+1)]
theorem agP (hn:128<=n)(z:dj n (.sl .str) m)(l:ax aH)(d:Int)(q:uA)(x:Jn):dj n (.sl .str) (Dh l m d q x).1/\(Dh l m d q x).1.length=m.length:=by
 unfold Dh;cases !gE q|| !B5 x;case true=>exact⟨z,rfl⟩
 cases (jb l m d (uo q) (U0 x (Cs q)) true).2 with|false=>exact⟨z,rfl⟩|true=>exact⟨GI hn z ..,ll ..⟩
theorem aeh {q:uA}{x:Jn}(h:gE q=true):gE (Dh l m d q x).2.1=true/\(Dh l m d q x).2.1.1=q.1/\(Dh l m d q x).2.1.2.1=q.2.1:=by
 have hq:=xM h;unfold Dh;cases !gE q|| !B5 x;case true=>exact⟨h,rfl,rfl⟩
 cases (jb l m d (uo q) (U0 x (Cs q)) true).2 with|false=>exact⟨h,rfl,rfl⟩|true=>refine⟨?_,rfl,rfl⟩;have e:=Wo (a:=q.2.2+1) (b:=2*q.2.1);simp only[af,aj,gE,ae,aS]at h⊢;refine⟨h.1,h.2.1,?_⟩;rw[BS h.2.1];omega
def je (l:ax aH)(m:bP)(d:Int)(q:cA)(k:Bytes)(s:Bytes):bP×uA×Bool:=
 bif !(dx s).2||(((dx s).1.1 !=3)||decide ((dx s).1.2.2.1<((dC q.2.2.2.1.1).1.length:Int))) then(m,q.2.1,false) else
 bif !(jb l m d (dx s).1.2.2.2.1 (dC q.2.2.2.1.1).1 true).2 then(m,q.2.1,false) else
 Dh l (jb l m d (dx s).1.2.2.2.1 (dC q.2.2.2.1.1).1 true).1 d q.2.1 ((dx s).1.2.2.2.2.2,((dC q.2.2.2.1.1).1.length:Int),q.2.2.2.1.2.1,q.2.2.2.1.2.2,Cc k (wW (nL q.2.2.2.1.1)))
theorem afV (l:ax aH)(m:bP)(d:Int)(q:cA)(k s:Bytes)(hl:l.length<=10^9)(hm:m.length<=10^9)(hs:s.length<=10^9)(hh:dv q.2.2.2.1.1=true):∃b,xD l m d q k s=some (b,je l m d q k s)/\(b=false->je l m d q k s=(m,q.2.1,false)):=by
 unfold xD je;have pK:=abb (s:=s);simp only[X3 s hs,Ea,ab,Hw hh];generalize dx s=x at pK⊢;cases hx:x.2;exact⟨false,rfl,λ_=>rfl⟩;have hd:=pK hx;simp only[wq,ae,aS]at hd;cases x.1.1 !=3;case true=>exact⟨false,rfl,λ_=>rfl⟩
 cases decide (x.1.2.2.1<((dC q.2.2.2.1.1).1.length:Int));case true=>exact⟨false,rfl,λ_=>rfl⟩
 simp only[aj,af,ab,cl,ET l m d _ _ hl hm (show x.1.2.2.2.1<=9223372036854775807 by omega)];cases (jb l m d x.1.2.2.2.1 (dC q.2.2.2.1.1).1 true).2;exact⟨false,rfl,λ_=>rfl⟩;simp only[aj,af,P2,ab,J7,ajw l _ d _ _ hl (show(jb l m d x.1.2.2.2.1 (dC q.2.2.2.1.1).1 true).1.length<=10^9 by rw[ll];exact hm)];exact⟨true,rfl,λh=>by cases h⟩
theorem T1 (hn:128<=n){k:Bytes}(z:dj n (.sl .str) m)(hq:gE q.2.1=true): dj n (.sl .str) (je l m d q k s).1/\(je l m d q k s).1.length=m.length/\gE (je l m d q k s).2.1=true/\(je l m d q k s).2.1.1=q.2.1.1/\(je l m d q k s).2.1.2.1=q.2.1.2.1:=by
 unfold je;cases !(dx s).2||(((dx s).1.1 !=3)||decide ((dx s).1.2.2.1<((dC q.2.2.2.1.1).1.length:Int)));case true=>exact⟨z,rfl,hq,rfl,rfl⟩
 cases (jb l m d (dx s).1.2.2.2.1 (dC q.2.2.2.1.1).1 true).2;exact⟨z,rfl,hq,rfl,rfl⟩;have h1:=GI hn z l d (dx s).1.2.2.2.1 (dC q.2.2.2.1.1).1 true;have h2:=ll l m d (dx s).1.2.2.2.1 (dC q.2.2.2.1.1).1 true;generalize (jb l m d (dx s).1.2.2.2.1 (dC q.2.2.2.1.1).1 true).1=w at h1 h2;have h3:=agP hn h1 l d q.2.1 ((dx s).1.2.2.2.2.2,((dC q.2.2.2.1.1).1.length:Int),q.2.2.2.1.2.1,q.2.2.2.1.2.2,Cc k (wW (nL q.2.2.2.1.1)));have h4:=aeh (l:=l) (m:=w) (d:=d) (x:=((dx s).1.2.2.2.2.2,((dC q.2.2.2.1.1).1.length:Int),q.2.2.2.1.2.1,q.2.2.2.1.2.2,Cc k (wW (nL q.2.2.2.1.1)))) hq;exact⟨h3.1,h3.2.trans h2,h4⟩
def jC (l:ax aH)(m:bP)(d:Int)(q:cA)(k:Bytes):bP×cA:=
 bif !Ju q||(!q.2.2.2.2.1||((k.length:Int) !=16)) then(m,q) else
 bif (bC l m d q.1).2.2&&(je l m d q k (bC l m d q.1).1).2.2 then
  ((je l m d q k (bC l m d q.1).1).1,(bC l m d q.1).2.1,(je l m d q k (bC l m d q.1).1).2.1,q.2.2.1,ahp,false,q.2.2.2.2.2)
 else(m,(bC l m d q.1).2.1,q.2.1,q.2.2.1,ahp,false,au (q.2.2.2.2.2+q.2.2.2.1.2.2))
theorem ZV (h:(bC l m d r).2.2=false):(bC l m d r).2.1=r:=by
 unfold bC at h⊢;cases hc: !dz r||(bV r==0);case true=>rfl
 cases hd:(uu l m d (qL r r.2.2.1) 16).2 with|false=>rfl|true=>rw[hc,hd]at h;cases h
theorem Et (h:Ju q=true):gE q.2.1=true/\(q.2.2.2.2.1=true->dv q.2.2.2.1.1=true):=by unfold Ju at h;simp only[ae]at h;refine⟨h.1.2.1,λhh=>?_⟩;have h2:=h.2;rw[hh]at h2;simp only[ah,ae]at h2;exact h2.1
theorem LI (l:ax aH)(m:bP)(d:Int)(q:cA)(k:Bytes)(hl:l.length<=10^9)(hm:m.length<=10^9):oM l m d q k=some (jC l m d q k):=by
 have ht:=Iy l m d q.1;have Ht:=ZV (l:=l) (m:=m) (d:=d) (r:=q.1);unfold oM jC;simp only[VE,ab,gM m (show m.length<=1073741824 by omega),Kg l m d q.1 hl hm];cases hr:Ju q;rfl;cases hh:q.2.2.2.2.1;rfl;cases (k.length:Int) !=16;case true=>rfl
 obtain⟨b,hb,SZ⟩:=afV l m d q k (bC l m d q.1).1 hl hm (by omega) ((Et hr).2 hh);simp only[aj,af,ab,cl,hb];generalize je l m d q k (bC l m d q.1).1=s at hb SZ⊢;cases hk:(bC l m d q.1).2.2 with|false=>rw[Ht hk];rfl|true=>?_
 cases b with|true=>cases hs:s.2.2<;>rfl|false=>rw[SZ rfl];rfl
theorem Hm (hn:128<=n){k:Bytes}(z:dj n (.sl .str) m)(zq:dj n fC q): dj n (.sl .str) (jC l m d q k).1/\(jC l m d q k).1.length=m.length/\dj n fC (jC l m d q k).2/\(Ju q=true->gE (jC l m d q k).2.2.1=true/\(jC l m d q k).2.2.1.2.1=q.2.1.2.1):=by
 unfold jC;cases hc: !Ju q||(!q.2.2.2.2.1||((k.length:Int) !=16));case true=>exact⟨z,rfl,zq,λh=>⟨(Et h).1,rfl⟩⟩
 simp only[cn,dM]at hc;have hq:=(Et hc.1).1;have hs:=T1 hn (l:=l) (d:=d) (k:=k) (s:=(bC l m d q.1).1) z hq;have e0:dj n fC ((bC l m d q.1).2.1,(je l m d q k (bC l m d q.1).1).2.1,q.2.2.1,ahp,false,q.2.2.2.2.2):=⟨⟨cB,cB,cB,cB⟩,⟨cB,cB,cB⟩,⟨cB,cB,cB⟩,⟨⟨cB,cB,cB,cB,cB,cB,cB,cB,cB,cB,cB,cB,cB,cB,cB,cg _⟩,cB,cB⟩,cB,cB⟩
 cases (bC l m d q.1).2.2&&(je l m d q k (bC l m d q.1).1).2.2 with|true=>exact⟨hs.1,hs.2.1,e0,λ_=>⟨hs.2.2.1,hs.2.2.2.2⟩⟩|false=>exact⟨z,rfl,⟨⟨cB,cB,cB,cB⟩,⟨cB,cB,cB⟩,⟨cB,cB,cB⟩,⟨⟨cB,cB,cB,cB,cB,cB,cB,cB,cB,cB,cB,cB,cB,cB,cB,cg _⟩,cB,cB⟩,cB,cB⟩,λ_=>⟨hq,rfl⟩⟩
def evS (k:Nat)(h:Host):Host:=
 match h.2.2.2.2.2.1[k]? with
 |some v=>(h.1,h.2.1,h.2.2.1,h.2.2.2.1,h.2.2.2.2.1,h.2.2.2.2.2.1.set k (evV v),h.2.2.2.2.2.2)
 |none=>h
def evH (k:Nat):Nat->Host->Host
 |0,h=>h
 |i+1,h=>evS k (evH k i h)
theorem aiL (k:Nat)(h:Host):ma (k+1) h (evS k h):=by unfold evS;cases h.2.2.2.2.2.1[k]? with|none=>exact ma.refl _ _|some v=>exact⟨rfl,rfl,rfl,rfl,λ_ _=>rfl,rfl,aC ..,λj hj=>aP (by omega),rfl,rfl,rfl⟩
theorem Pj (k:Nat)(h:Host):∀i,ma (k+1) h (evH k i h)
 |0=>ma.refl _ _
 |i+1=>(Pj k h i).trans (aiL k _)
theorem alK (k:Nat)(z:dj n dL h):dj n dL (evS k h):=by unfold evS;cases h.2.2.2.2.2.1[k]? with|none=>exact z|some v=>exact⟨z.1,z.2.1,z.2.2.1,z.2.2.2.1,z.2.2.2.2.1,OB z.2.2.2.2.2.1,z.2.2.2.2.2.2⟩
theorem adG (k:Nat)(z:dj n dL h):∀i,dj n dL (evH k i h)
 |0=>z
 |i+1=>alK k (adG k z i)
theorem abE (h:Host)(k:Nat)(b:Int)(h1:k<h.2.2.2.1.length)(h2:k<h.2.2.2.2.2.1.length)(hq:gE h.2.2.2.1[k].2.1=true)(hb:0<=b/\b<=31):mq h (k:Int) b=some ((),evH k ((h.2.2.2.1[k].2.1.2.2-b)%(2*h.2.2.2.1[k].2.1.2.1)).toNat h):=by
 have D5:=eS;have q:=xM hq;unfold mq;rw[br h1,ab];generalize h.2.2.2.1[k]=x at q⊢;rw[ak (n:=x.2.1.2.2-b),ak (n:=2*x.2.1.2.1),L1 _ _,ab];have hm:0<=(x.2.1.2.2-b)%(2*x.2.1.2.1)/\(x.2.1.2.2-b)%(2*x.2.1.2.1)<32:=by have g1:=fJ (x.2.1.2.2-b) (show 2*x.2.1.2.1≠0 by omega);have g2:=fL (x.2.1.2.2-b) (show 0<2*x.2.1.2.1 by omega);omega
 generalize (x.2.1.2.2-b)%(2*x.2.1.2.1)=c at hm⊢;obtain⟨c,rfl⟩:=aD hm.1;rw[aw];have e0:((c:Int),h)=(((c:Int)-((0:Nat):Int)),evH k 0 h):=by simp[evH]
 rw[e0];refine dE (λi=>((c:Int)-(i:Int),evH k i h)) c (by omega) (λi nx hi=>?_) (λnx=>?_);have kk:=Pj k h i;have i1:k<(evH k i h).2.2.2.2.2.1.length:=by rw[kk.vec];exact h2
 rw[show evH k (i+1) h=evS k (evH k i h) from rfl];generalize evH k i h=s at i1⊢;simp only[rQ,evS];rw[jI,ah,al i1];simp only[br i1,ab,afC,aw];rw[ak,show(c:Int)-(i:Int)-1=(c:Int)-((i+1:Nat):Int) by omega];simp only[rQ];rw[cC,af]
def KL (h:Host)(k:Nat)(f:bP×cA):Host:=(f.1,h.2.1,h.2.2.1,h.2.2.2.1.set k f.2,h.2.2.2.2)
def G3 (h:Host)(k:Nat)(b:Int)(f:bP×cA):Host:=evH k ((f.2.2.1.2.2-b)%(2*f.2.2.1.2.1)).toNat (KL h k f)
def oH (k:Nat)(h:Host):Host:=
 match h.2.2.2.1[k]? with
 |some x=>G3 h k x.2.1.2.2 (jC h.2.1 h.1 0 x h.2.2.2.2.2.2.2.2.1.2.2.1)
 |none=>h
theorem G4 (hf:f.1.length=h.1.length):ma (k+1) h (G3 h k b f):=by
 have a:ma (k+1) h (KL h k f):=⟨hf,rfl,rfl,aC ..,λj hj=>aP (by omega),rfl,rfl,λ_ _=>rfl,rfl,rfl,rfl⟩
 exact a.trans (Pj k (KL h k f) _)
theorem Ro (z:dj n dL h)(h1:dj n (.sl .str) f.1)(h2:dj n fC f.2):dj n dL (G3 h k b f):=by
 have a:dj n dL (KL h k f):=⟨h1,z.2.1,z.2.2.1,nw z.2.2.2.1 h2,z.2.2.2.2⟩
 exact adG k a _
theorem Xq {k:Bytes}:(jC l m d q k).1.length=m.length:=by
 have hs:(je l m d q k (bC l m d q.1).1).1.length=m.length:=by
  unfold je;cases !(dx (bC l m d q.1).1).2||(((dx (bC l m d q.1).1).1.1 !=3)||decide ((dx (bC l m d q.1).1).1.2.2.1<((dC q.2.2.2.1.1).1.length:Int)));case true=>rfl
  cases (jb l m d (dx (bC l m d q.1).1).1.2.2.2.1 (dC q.2.2.2.1.1).1 true).2;rfl;have h2:=ll l m d (dx (bC l m d q.1).1).1.2.2.2.1 (dC q.2.2.2.1.1).1 true;simp only[af,aj];unfold Dh;cases !gE q.2.1|| !B5 ((dx (bC l m d q.1).1).1.2.2.2.2.2,((dC q.2.2.2.1.1).1.length:Int),q.2.2.2.1.2.1,q.2.2.2.1.2.2,Cc k (wW (nL q.2.2.2.1.1)));case true=>exact h2
  cases (jb l (jb l m d (dx (bC l m d q.1).1).1.2.2.2.1 (dC q.2.2.2.1.1).1 true).1 d (uo q.2.1) (U0 ((dx (bC l m d q.1).1).1.2.2.2.2.2,((dC q.2.2.2.1.1).1.length:Int),q.2.2.2.1.2.1,q.2.2.2.1.2.2,Cc k (wW (nL q.2.2.2.1.1))) (Cs q.2.1)) true).2 with|false=>exact h2|true=>exact(ll ..).trans h2
 unfold jC;cases !Ju q||(!q.2.2.2.2.1||((k.length:Int) !=16));case true=>rfl
 cases (bC l m d q.1).2.2&&(je l m d q k (bC l m d q.1).1).2.2 with|true=>exact hs|false=>rfl
theorem zX (k:Nat)(h:Host):ma (k+1) h (oH k h):=by unfold oH;cases h.2.2.2.1[k]? with|none=>exact ma.refl _ _|some x=>exact G4 Xq
theorem Pv (k:Nat)(h:Host)(n:Nat)(hn:1000<=n)(z:dj n dL h):dj (n+0) dL (oH k h):=by unfold oH;cases hx:h.2.2.2.1[k]? with|none=>exact z|some x=>have hf:=Hm (show 128<=n by omega) (l:=h.2.1) (d:=0) (k:=h.2.2.2.2.2.2.2.2.1.2.2.1) z.1 (z.2.2.2.1.2 _ (aY hx));exact Ro z hf.1 hf.2.2.1
def vW (h:Host):Host:=bif dZ h then mB oH h.2.2.2.1.length h else h
theorem afm (hn:1000<=n)(k:BW n h):BW n (vW h):=by unfold vW;cases dZ h with|false=>exact k|true=>refine⟨(Ff hn Pv k.z _).mono,?_⟩;simp only[ah];rw[(pH zX h _).tx];exact k.t
theorem IV (hb:dZ h=true):∀i (hi:i<h.2.2.2.1.length),Ju h.2.2.2.1[i]=true:=by simp only[dZ,Zr,ae]at hb;exact λi hi=>aF.1 hb.2.2.2.2.2.2.1.1 _ (aM hi)
theorem NP (h1:k<h.2.2.2.1.length)(h2:k<h.2.2.2.2.2.1.length)(hq:gE f.2.2.1=true)(hb:0<=b/\b<=31:=by omega): mq (f.1,h.2.1,h.2.2.1,h.2.2.2.1.set k f.2,h.2.2.2.2) (k:Int) b=some ((),G3 h k b f):=by
 have h3:k<(KL h k f).2.2.2.1.length:=by show k<(h.2.2.2.1.set k f.2).length;rw[aC];exact h1
 have e:(KL h k f).2.2.2.1[k]=f.2:=List.getElem_set_self _;have a:=abE (KL h k f) k b h3 h2 (by rw[e];exact hq) hb;rw[e]at a;exact a
theorem abI (h:Host)(k:BW 900000000 h):xi h=some (vW h):=by
 have D5:=eS;unfold xi vW;rw[kc h (k.z.mono),ab,wZ h (k.sz),ab];cases hb:dZ h;rfl;have hl:=tQ (by simp only[dZ,ae]at hb;exact hb.2.2.2.2.1:uh h=true);have hr:=IV hb;simp only[aj,af,ah];refine dE (λi=>((i:Int),mB oH i h)) h.2.2.2.1.length (by omega) (λi nx hi=>?_) (λnx=>?_);have kk:=pH zX h i;have zz:dj 900000000 dL (mB oH i h):=(Ff (by omega) Pv k.z i).mono;have i1:i<(mB oH i h).2.2.2.1.length:=by rw[kk.rx];exact hi
 have i2:i<(mB oH i h).2.2.2.2.2.1.length:=by rw[kk.vec];omega
 have e1:(mB oH i h).2.2.2.1[i]=h.2.2.2.1[i]:=by have:=kk.rxs i (bj _);rw[al i1,al hi]at this;exact bN this
 rw[show mB oH (i+1) h=oH i (mB oH i h) from rfl];generalize mB oH i h=s at zz i1 i2 e1⊢;have z1:s.1.length<=900000000:=zz.1.1;have z2:s.2.1.length<=900000000:=zz.2.1.1;have hrx:=hr i hi;rw[<-e1]at hrx;have hqd:=xM (Et hrx).1;have hf:=Hm (show 128<=900000000 by omega) (l:=s.2.1) (d:=0) (k:=s.2.2.2.2.2.2.2.2.1.2.2.1) zz.1 (zz.2.2.2.1.2 _ (aM i1));have ev:=NP (h:=s) (k:=i) (b:=s.2.2.2.1[i].2.1.2.2) (f:=jC s.2.1 s.1 0 s.2.2.2.1[i] s.2.2.2.2.2.2.2.2.1.2.2.1) i1 i2 (hf.2.2.2 hrx).1;simp only[rJ,oH];rw[jI,ah,al i1];simp only[br i1,br hi,ab,LI s.2.1 s.1 0 _ _ (show s.2.1.length<=10^9 by omega) (show s.1.length<=10^9 by omega),aw,<-e1,ev];rw[ak];rfl;simp only[rJ];rw[cC,af]
def YZ (a b:aK):Bool:=(a.1==b.1)&&((a.2.1==b.2.1)&&((a.2.2.1==b.2.2.1)&&((a.2.2.2.1==b.2.2.2.1)&&((a.2.2.2.2.2.1==b.2.2.2.2.2.1)&&((a.2.2.2.2.2.2.1==b.2.2.2.2.2.2.1)&&((a.2.2.2.2.2.2.2.1==b.2.2.2.2.2.2.2.1)&&((a.2.2.2.2.2.2.2.2.1==b.2.2.2.2.2.2.2.2.1)&&((a.2.2.2.2.2.2.2.2.2.1==b.2.2.2.2.2.2.2.2.2.1)&&((a.2.2.2.2.2.2.2.2.2.2.1==b.2.2.2.2.2.2.2.2.2.2.1)&&((a.2.2.2.2.2.2.2.2.2.2.2.2.1==b.2.2.2.2.2.2.2.2.2.2.2.2.1)&&((a.2.2.2.2.2.2.2.2.2.2.2.2.2.2.1==b.2.2.2.2.2.2.2.2.2.2.2.2.2.2.1))))))))))))
theorem ajv (a b:aK):zg a b=some (YZ a b):=by unfold zg YZ;simp only[fS,bn,gw]
def apy (s:ug)(p:aK):Bool:=(p.2.2.2.2.2.2.2.2.2.2.2.1==tmod (au (s.1.2.2.2.2.2.2.2.2.2.2.2.1+(s.1.2.2.2.2.2.2.2.2.2.2.2.2.2.2.2.length:Int))) 4294967296)&&(p.2.2.2.2.1==tmod (au (s.1.2.2.2.2.1+s.2.2)) 65536)
def aeq (s:ug)(p:aK):Bool:=decide (1<=s.2.1)&&(db s.2.2 1 320&&(decide ((s.1.2.2.2.2.2.2.2.2.2.2.2.2.2.2.2.length:Int)=s.2.1*s.2.2)&&(db (p.2.2.2.2.2.2.2.2.2.2.2.2.2.2.2.length:Int) 1 s.2.1&&decide ((s.1.2.2.2.2.2.2.2.2.2.2.2.2.2.2.2.length:Int)+(p.2.2.2.2.2.2.2.2.2.2.2.2.2.2.2.length:Int)<=320))))
def ai2 (s:ug)(p:aK):Bool:=dv s.1&&(dq p&&(YZ s.1 p&&((p.2.2.2.2.2.2.2.2.1==6)&&((s.1.2.2.2.2.2.2.2.2.2.2.2.2.2.1==16)&&EL p.2.2.2.2.2.2.2.2.2.2.2.2.2.1))))
def Ls (s:ug)(p:aK):Bool:=ai2 s p&&(aeq s p&&apy s p)
theorem KF (h:dq p=true)(h6:(p.2.2.2.2.2.2.2.2.1==6)=true):db p.2.2.2.2.2.2.2.2.2.2.2.2.2.1 0 31=true:=by simp only[dq,dv,ae]at h;exact HG (zY h.1.1) h6
theorem Ja (h:dq p=true):p.2.2.2.2.2.2.2.2.2.2.2.2.2.2.2.length<=128:=by simp only[dq,ae,aE]at h;omega
theorem adR (s:ug)(p:aK):xc s p=some (Ls s p):=by
 unfold xc Ls ai2;rw[mS,ab,yz,ab,ajv,ab];cases hs:dv s.1;rfl;cases hp:dq p;rfl;cases YZ s.1 p;rfl;cases h6:p.2.2.2.2.2.2.2.2.1==6 with|false=>simp only[bne,h6];rfl|true=>?_
 cases h16:s.1.2.2.2.2.2.2.2.2.2.2.2.2.2.1==16 with|false=>simp only[bne,h6,h16];rfl|true=>?_
 have hf:=KF hp h6;have hsl:=Fh hs;have Hu:=Ja hp;simp only[bne,h6,h16,aj,af,ab,Po _ hf,bn];cases EL p.2.2.2.2.2.2.2.2.2.2.2.2.2.1;rfl;simp only[aj,af,cm,ab,bn];rw[aG (show¬(4294967296:Nat)=0 by omega),aG (show¬(65536:Nat)=0 by omega)];simp only[bM,cF];rw[show((p.2.2.2.2.2.2.2.2.2.2.2.1==tmod (au (s.1.2.2.2.2.2.2.2.2.2.2.2.1+(s.1.2.2.2.2.2.2.2.2.2.2.2.2.2.2.2.length:Int))) 4294967296)&&(p.2.2.2.2.1==tmod (au (s.1.2.2.2.2.1+s.2.2)) 65536))=apy s p from rfl];unfold aeq;generalize apy s p=q;generalize s.1.2.2.2.2.2.2.2.2.2.2.2.2.2.2.2.length=n at hsl⊢;generalize p.2.2.2.2.2.2.2.2.2.2.2.2.2.2.2.length=m at Hu⊢;rw[ak (n:=(n:Int)+(m:Int))];by_cases h1:s.2.1<1;rw[ar h1,aq (show¬1<=s.2.1 by omega)];rfl;rw[aq h1,ar (show 1<=s.2.1 by omega)];cases h2:db s.2.2 1 320;rfl;have Wt:=aS.1 h2;simp only[aj,af,ab,bn];rw[nU,nU];have e1:tmod (n:Int) s.2.2=(n:Int)%s.2.2:=dK (by omega);have e2:tdiv (n:Int) s.2.2=(n:Int)/s.2.2:=Int.tdiv_eq_ediv_of_nonneg (by omega);have hdm:=Int.emod_add_mul_ediv (n:Int) s.2.2;have hq0:0<=(n:Int)/s.2.2:=Int.ediv_nonneg (by omega) (by omega);have hq1:(n:Int)/s.2.2<=(n:Int):=Int.ediv_le_self _ (by omega);rw[e1,e2,ak (n:=(n:Int)/s.2.2)];by_cases h3:(n:Int)=s.2.1*s.2.2;have h4:(n:Int)%s.2.2=0:=by rw[h3];exact Int.mul_emod_left ..
 have h5:(n:Int)/s.2.2=s.2.1:=by rw[h3];exact Int.mul_ediv_cancel _ (by omega)
 rw[h4,h5,ar h3];simp only[fS,aj,af,ab,bn];cases db (m:Int) 1 s.2.1;rfl;cases decide ((n:Int)+(m:Int)<=320)<;>rfl;rw[aq h3];cases h4:(n:Int)%s.2.2==0 with
 |false=>rfl
 |true=>
  have h4':(n:Int)%s.2.2=0:=by simpa using h4
  have h5:((n:Int)/s.2.2==s.2.1)=false:=by rw[cv];intro h5;rw[h4',h5]at hdm;exact h3 (by rw[Int.mul_comm];omega)
  simp only[aj,af,h5,bt,ab,ah];rfl
def Ig (s:ug)(p:aK):ug:=bif Ls s p then((s.1.1,s.1.2.1,s.1.2.2.1,s.1.2.2.2.1,s.1.2.2.2.2.1,s.1.2.2.2.2.2.1,s.1.2.2.2.2.2.2.1,s.1.2.2.2.2.2.2.2.1,s.1.2.2.2.2.2.2.2.2.1,s.1.2.2.2.2.2.2.2.2.2.1,s.1.2.2.2.2.2.2.2.2.2.2.1,s.1.2.2.2.2.2.2.2.2.2.2.2.1,s.1.2.2.2.2.2.2.2.2.2.2.2.2.1,p.2.2.2.2.2.2.2.2.2.2.2.2.2.1,s.1.2.2.2.2.2.2.2.2.2.2.2.2.2.2.1,s.1.2.2.2.2.2.2.2.2.2.2.2.2.2.2.2++p.2.2.2.2.2.2.2.2.2.2.2.2.2.2.2),s.2.1,au (s.2.2+1)) else s
theorem Uu {s:ug}(h:Ls s p=true):s.1.2.2.2.2.2.2.2.2.2.2.2.2.2.2.2.length+p.2.2.2.2.2.2.2.2.2.2.2.2.2.2.2.length<=320:=by simp only[Ls,aeq,ae,aE]at h;have:=h.2.1.2.2.2.2;omega
theorem ajs (s:ug)(p:aK):Hz s p=some (Ig s p):=by unfold Hz Ig;rw[adR,ab];cases h:Ls s p;rfl;have:=Uu h;simp only[aj,af,ah];rw[aR]
def nV (p:aK):ug:=(p,(p.2.2.2.2.2.2.2.2.2.2.2.2.2.2.2.length:Int),1)
theorem abS (p:aK):Gx p=some (nV p):=rfl
def PM (q:cA)(s:ug):cA:=(q.1,q.2.1,q.2.2.1,s,true,q.2.2.2.2.2)
def mX (l:ax aH)(m:bP)(d:Int)(q:cA)(k:Bytes)(p:aK)(c:Bool):bP×cA:=
 bif !Ju q||(!dq p||((k.length:Int) !=16)) then(m,q) else
 bif c&&(q.2.2.2.2.1&&Ls q.2.2.2.1 p) then(m,q.1,q.2.1,q.2.2.1,Ig q.2.2.2.1 p,q.2.2.2.2) else
 bif c then((jC l m d q k).1,PM (jC l m d q k).2 (nV p)) else jC l (jC l m d q k).1 d (PM (jC l m d q k).2 (nV p)) k
theorem abF (l:ax aH)(m:bP)(d:Int)(q:cA)(k:Bytes)(p:aK)(c:Bool)(hl:l.length<=10^9)(hm:m.length<=10^9):qd l m d q k p c=some (mX l m d q k p c):=by
 unfold qd mX PM;simp only[VE,yz,ab,gM m (show m.length<=1073741824 by omega),adR,ajs,LI l m d q k hl hm,abS,LI l (jC l m d q k).1 d _ k hl (show(jC l m d q k).1.length<=10^9 by rw[Xq];exact hm)];cases Ju q;rfl;cases dq p;rfl;cases (k.length:Int) !=16;case true=>rfl
 cases c;rfl;cases q.2.2.2.2.1;rfl;cases Ls q.2.2.2.1 p<;>rfl
theorem Xr {k:Bytes}(h:gE q.2.1=true):gE (jC l m d q k).2.2.1=true:=by
 unfold jC;cases !Ju q||(!q.2.2.2.2.1||((k.length:Int) !=16));case true=>exact h
 have hs:gE (je l m d q k (bC l m d q.1).1).2.1=true:=by
  unfold je;cases !(dx (bC l m d q.1).1).2||(((dx (bC l m d q.1).1).1.1 !=3)||decide ((dx (bC l m d q.1).1).1.2.2.1<((dC q.2.2.2.1.1).1.length:Int)));case true=>exact h
  cases (jb l m d (dx (bC l m d q.1).1).1.2.2.2.1 (dC q.2.2.2.1.1).1 true).2;exact h;exact(aeh h).1
 cases (bC l m d q.1).2.2&&(je l m d q k (bC l m d q.1).1).2.2 with|true=>exact hs|false=>exact h
theorem afu {s:ug}(h:s.1.2.2.2.2.2.2.2.2.2.2.2.2.2.2.2.length<=n):dj n fC (PM q s):=⟨⟨cB,cB,cB,cB⟩,⟨cB,cB,cB⟩,⟨cB,cB,cB⟩,⟨⟨cB,cB,cB,cB,cB,cB,cB,cB,cB,cB,cB,cB,cB,cB,cB,h⟩,cB,cB⟩,cB,cB⟩
theorem OO (hn:1000<=n){k:Bytes}{c:Bool}(z:dj n (.sl .str) m)(zq:dj n fC q)(hq:gE q.2.1=true): dj n (.sl .str) (mX l m d q k p c).1/\(mX l m d q k p c).1.length=m.length/\dj n fC (mX l m d q k p c).2/\gE (mX l m d q k p c).2.2.1=true:=by
 unfold mX;cases hc: !Ju q||(!dq p||((k.length:Int) !=16));case true=>exact⟨z,rfl,zq,hq⟩
 simp only[cn,dM]at hc;have hp:=Ja hc.2.1;cases hj:c&&(q.2.2.2.2.1&&Ls q.2.2.2.1 p)with|true=>simp only[ae]at hj;have:=Uu hj.2.2;refine⟨z,rfl,⟨⟨cB,cB,cB,cB⟩,⟨cB,cB,cB⟩,⟨cB,cB,cB⟩,⟨?_,cB,cB⟩,cB,cB⟩,hq⟩;refine⟨cB,cB,cB,cB,cB,cB,cB,cB,cB,cB,cB,cB,cB,cB,cB,?_⟩;unfold Ig;rw[hj.2.2];show List.length (q.2.2.2.1.1.2.2.2.2.2.2.2.2.2.2.2.2.2.2.2++p.2.2.2.2.2.2.2.2.2.2.2.2.2.2.2)<=n;rw[ai];omega|false=>have hf:=Hm (show 128<=n by omega) (l:=l) (d:=d) (k:=k) z zq;have hfq:=Xr (l:=l) (m:=m) (d:=d) (k:=k) hq;have hh:dj n fC (PM (jC l m d q k).2 (nV p)):=afu (by show p.2.2.2.2.2.2.2.2.2.2.2.2.2.2.2.length<=n;omega);cases c with|true=>exact⟨hf.1,hf.2.1,hh,hfq⟩|false=>have CN:=Hm (show 128<=n by omega) (l:=l) (d:=d) (k:=k) hf.1 hh;exact⟨CN.1,CN.2.1.trans hf.2.1,CN.2.2.1,Xr (q:=PM (jC l m d q k).2 (nV p)) hfq⟩
theorem Zt {r:nK}(h:Di r=true):0<=r.2.2.2.2.2.2.2.2:=by
 by_cases h0:0<=r.2.2.2.2.2.2.2.2;exact h0;exfalso;have e:∀b:Int,db r.2.2.2.2.2.2.2.2 0 b=false:=λb=>by rw[Bool.eq_false_iff];intro hc;have:=aS.1 hc;omega
 have e1:(r.2.2.2.2.2.2.2.2==0)=false:=by rw[cv];omega
 revert h;unfold Di;have z:∀c:Bool,(bif c then false else false)=false:=by intro c;cases c<;>rfl
 simp only[nH,dQ,ab,bM,e,e1,gr,z,af];intro h;cases h
theorem ahk {s:dT}{q:Int}:rr s q p= -1\/∃n:Nat,rr s q p=(n:Int)/\(n:Int)<q:=by
 unfold rr;cases hb: !fE s q|| !dv p;case true=>exact .inl rfl
 simp only[cn,dM]at hb;have hs:=hb.1;simp only[fE,ae]at hs;simp only[af];cases hd:decide (HY s.1 p>=0)with
 |true=>obtain⟨n,hn,hl⟩:=Xh s.1 p (bu hd);simp only[ah,hn,aw,cu hl];cases s.1[n].2.2.2.2.2.2.2.1==1 with|true=>exact .inl rfl|false=>have h1:=aF.1 hs.1.2 _ (aM hl);have h2:=hs.1.1.1.1;simp only[AD,ae]at h2;have h3:=Zt (aF.1 h2.1 _ (aM hl));simp only[aN,cL]at h1;exact .inr ⟨s.1[n].2.2.2.2.2.2.2.2.toNat,by simp only[af];omega,by omega⟩
 |false=>
  simp only[af];cases Wv:decide (findF s.2.1 (nL p)>=0)with
  |true=>obtain⟨n,hn,hl⟩:=Xg s.2.1 (nL p) (bu Wv);simp only[ah,hn,aw,cu hl];have h1:=aF.1 hs.2 _ (aM hl);have h2:=hs.1.1.1.2;simp only[uz,ae,bg]at h2;have h3:=aF.1 h2.2 n (bB.2 (by omega));unfold po TO at h3;rw[yG hl]at h3;simp only[ae,aS]at h3;simp only[aN,cL]at h1;exact .inr ⟨s.2.1[n].2.2.toNat,by omega,by omega⟩
  |false=>
   simp only[af];unfold Oy;cases hc: !ue s.2.2 q||decide (EJ s.2.2 (nL p)<0);case true=>exact .inl rfl
   simp only[cn,dM,cL]at hc;obtain⟨n,hn,hl⟩:=SF s.2.2 (nL p) hc.2;have h1:=hc.1;simp only[ue,ae]at h1;have h2:=aS.1 (aF.1 h1.2 _ (aM hl));simp only[af,hn,aw,cu hl];exact .inr ⟨s.2.2.2[n].toNat,by omega,by omega⟩
def Dw (h:Host)(a b c d:Int):Host:=(h.1,h.2.1,h.2.2.1,h.2.2.2.1,h.2.2.2.2.1,h.2.2.2.2.2.1,h.2.2.2.2.2.2.1,h.2.2.2.2.2.2.2.1,h.2.2.2.2.2.2.2.2.1,h.2.2.2.2.2.2.2.2.2.1,h.2.2.2.2.2.2.2.2.2.2.1,h.2.2.2.2.2.2.2.2.2.2.2.1,h.2.2.2.2.2.2.2.2.2.2.2.2.1,h.2.2.2.2.2.2.2.2.2.2.2.2.2.1,au (h.2.2.2.2.2.2.2.2.2.2.2.2.2.2.1+1),a,b,c,d)
def jH (h:Host)(x:Bytes):Host:=
 bif !dZ h then h else
 bif (fy x).2 !=0 then Dw h (au (h.2.2.2.2.2.2.2.2.2.2.2.2.2.2.2.1+1)) h.2.2.2.2.2.2.2.2.2.2.2.2.2.2.2.2.1 h.2.2.2.2.2.2.2.2.2.2.2.2.2.2.2.2.2.1 h.2.2.2.2.2.2.2.2.2.2.2.2.2.2.2.2.2.2 else
 bif !wP h.2.2.2.2.2.2.2.1 (fy x).1 then Dw h h.2.2.2.2.2.2.2.2.2.2.2.2.2.2.2.1 (au (h.2.2.2.2.2.2.2.2.2.2.2.2.2.2.2.2.1+1)) h.2.2.2.2.2.2.2.2.2.2.2.2.2.2.2.2.2.1 h.2.2.2.2.2.2.2.2.2.2.2.2.2.2.2.2.2.2 else
 bif rr h.2.2.2.2.2.2.2.2.1 (h.2.2.2.1.length:Int) (fy x).1== -1 then Dw h h.2.2.2.2.2.2.2.2.2.2.2.2.2.2.2.1 h.2.2.2.2.2.2.2.2.2.2.2.2.2.2.2.2.1 (au (h.2.2.2.2.2.2.2.2.2.2.2.2.2.2.2.2.2.1+1)) h.2.2.2.2.2.2.2.2.2.2.2.2.2.2.2.2.2.2 else
 match h.2.2.2.1[(rr h.2.2.2.2.2.2.2.2.1 (h.2.2.2.1.length:Int) (fy x).1).toNat]? with
 |some q=>G3 (Dw h h.2.2.2.2.2.2.2.2.2.2.2.2.2.2.2.1 h.2.2.2.2.2.2.2.2.2.2.2.2.2.2.2.2.1 h.2.2.2.2.2.2.2.2.2.2.2.2.2.2.2.2.2.1 (au (h.2.2.2.2.2.2.2.2.2.2.2.2.2.2.2.2.2.2+1))) (rr h.2.2.2.2.2.2.2.2.1 (h.2.2.2.1.length:Int) (fy x).1).toNat q.2.1.2.2 (mX h.2.1 h.1 0 q h.2.2.2.2.2.2.2.2.1.2.2.1 (fy x).1 h.2.2.2.2.2.2.2.2.2.2.1)
 |none=>h
theorem Kc (h:Host)(x:Bytes)(k:BW 900000000 h)(hx:x.length<=10^9):oQ h x=some (jH h x):=by
 have z:=k.z;have z1:h.1.length<=900000000:=z.1.1;have z2:h.2.1.length<=900000000:=z.2.1.1;have zf:h.2.2.2.2.2.2.2.1.2.2.length<=900000000:=z.2.2.2.2.2.2.2.1.2.2.1;have s1:h.2.2.2.2.2.2.2.2.1.1.length<=900000000:=z.2.2.2.2.2.2.2.2.1.1.1;have s2:h.2.2.2.2.2.2.2.2.1.2.1.length<=900000000:=z.2.2.2.2.2.2.2.2.1.2.1.1;have s3:h.2.2.2.2.2.2.2.2.1.2.2.2.length<=900000000:=z.2.2.2.2.2.2.2.2.1.2.2.2.1;unfold oQ jH;rw[kc h (z.mono),ab,wZ h (k.sz),ab];cases hb:dZ h;rfl;have hl:=tQ (by simp only[dZ,ae]at hb;exact hb.2.2.2.2.1:uh h=true);have hr:=IV hb;simp only[aj,af,LL x hx,ab,XX h.2.2.2.2.2.2.2.1 _ (show h.2.2.2.2.2.2.2.1.2.2.length<=10^9 by omega),afU h.2.2.2.2.2.2.2.2.1 _ _ (show h.2.2.2.2.2.2.2.2.1.1.length<=10^9 by omega) (show h.2.2.2.2.2.2.2.2.1.2.1.length<=10^9 by omega) (show h.2.2.2.2.2.2.2.2.1.2.2.2.length<=10^9 by omega)];generalize fy x=f;cases f.2 !=0;case true=>rfl
 cases wP h.2.2.2.2.2.2.2.1 f.1;rfl;simp only[aj,af];have nY:=ahk (s:=h.2.2.2.2.2.2.2.2.1) (q:=(h.2.2.2.1.length:Int)) (p:=f.1);generalize rr h.2.2.2.2.2.2.2.2.1 (h.2.2.2.1.length:Int) f.1=r at nY⊢;rcases nY with rfl|⟨n,rfl,hn⟩;rfl;have i1:n<h.2.2.2.1.length:=by omega
 have i2:n<h.2.2.2.2.2.1.length:=by omega
 have hq:=(Et (hr n i1)).1;have hqi:=xM hq;have ha:=OO (show 1000<=900000000 by omega) (l:=h.2.1) (d:=0) (k:=h.2.2.2.2.2.2.2.2.1.2.2.1) (p:=f.1) (c:=h.2.2.2.2.2.2.2.2.2.2.1) z.1 (z.2.2.2.1.2 _ (aM i1)) hq;have ev:=NP (h:=Dw h h.2.2.2.2.2.2.2.2.2.2.2.2.2.2.2.1 h.2.2.2.2.2.2.2.2.2.2.2.2.2.2.2.2.1 h.2.2.2.2.2.2.2.2.2.2.2.2.2.2.2.2.2.1 (au (h.2.2.2.2.2.2.2.2.2.2.2.2.2.2.2.2.2.2+1))) (k:=n) (b:=h.2.2.2.1[n].2.1.2.2) (f:=mX h.2.1 h.1 0 h.2.2.2.1[n] h.2.2.2.2.2.2.2.2.1.2.2.1 f.1 h.2.2.2.2.2.2.2.2.2.2.1) i1 i2 ha.2.2.2;rw[show((n:Int)== -1)=false from by rw[cv];omega,aw,al i1];simp only[af,br i1,ab,abF h.2.1 h.1 0 _ _ _ _ (show h.2.1.length<=10^9 by omega) (show h.1.length<=10^9 by omega)];rw[show(mq ((mX h.2.1 h.1 0 h.2.2.2.1[n] h.2.2.2.2.2.2.2.2.1.2.2.1 f.1 h.2.2.2.2.2.2.2.2.2.2.1).1,h.2.1,h.2.2.1,h.2.2.2.1.set n (mX h.2.1 h.1 0 h.2.2.2.1[n] h.2.2.2.2.2.2.2.2.1.2.2.1 f.1 h.2.2.2.2.2.2.2.2.2.2.1).2,h.2.2.2.2.1,h.2.2.2.2.2.1,h.2.2.2.2.2.2.1,h.2.2.2.2.2.2.2.1,h.2.2.2.2.2.2.2.2.1,h.2.2.2.2.2.2.2.2.2.1,h.2.2.2.2.2.2.2.2.2.2.1,h.2.2.2.2.2.2.2.2.2.2.2.1,h.2.2.2.2.2.2.2.2.2.2.2.2.1,h.2.2.2.2.2.2.2.2.2.2.2.2.2.1,au (h.2.2.2.2.2.2.2.2.2.2.2.2.2.2.1+1),h.2.2.2.2.2.2.2.2.2.2.2.2.2.2.2.1,h.2.2.2.2.2.2.2.2.2.2.2.2.2.2.2.2.1,h.2.2.2.2.2.2.2.2.2.2.2.2.2.2.2.2.2.1,au (h.2.2.2.2.2.2.2.2.2.2.2.2.2.2.2.2.2.2+1)) (n:Int) h.2.2.2.1[n].2.1.2.2)=_ from ev,ab]
theorem GK (hn:1000<=n)(x:Bytes)(k:BW n h):BW n (jH h x)/\(jH h x).2.2.1=h.2.2.1/\(jH h x).2.2.2.2.1.length=h.2.2.2.2.1.length:=by
 have z:=k.z;have zc:∀a b c d,BW n (Dw h a b c d):=λa b c d=>⟨⟨z.1,z.2.1,z.2.2.1,z.2.2.2.1,z.2.2.2.2.1,z.2.2.2.2.2.1,z.2.2.2.2.2.2.1,z.2.2.2.2.2.2.2.1,z.2.2.2.2.2.2.2.2.1,z.2.2.2.2.2.2.2.2.2.1,z.2.2.2.2.2.2.2.2.2.2.1,z.2.2.2.2.2.2.2.2.2.2.2.1,z.2.2.2.2.2.2.2.2.2.2.2.2.1,z.2.2.2.2.2.2.2.2.2.2.2.2.2.1,cB,cB,cB,cB,cB⟩,k.t⟩
 unfold jH;cases hb:dZ h;exact⟨k,rfl,rfl⟩;have hr:=IV hb;generalize fy x=f;cases f.2 !=0;case true=>exact⟨zc ..,rfl,rfl⟩
 cases wP h.2.2.2.2.2.2.2.1 f.1;exact⟨zc ..,rfl,rfl⟩;simp only[aj,af];generalize rr h.2.2.2.2.2.2.2.2.1 (h.2.2.2.1.length:Int) f.1=r;cases r== -1;case true=>exact⟨zc ..,rfl,rfl⟩
 simp only[af];rcases hq:h.2.2.2.1[r.toNat]? with _|q;exact⟨k,rfl,rfl⟩;obtain⟨hi,hqe⟩:=aA.1 hq;have hqd:=(Et (hr _ hi)).1;rw[hqe]at hqd;have ha:=OO hn (l:=h.2.1) (d:=0) (k:=h.2.2.2.2.2.2.2.2.1.2.2.1) (p:=f.1) (c:=h.2.2.2.2.2.2.2.2.2.2.1) z.1 (z.2.2.2.1.2 _ (aY hq)) hqd;have zc':=zc h.2.2.2.2.2.2.2.2.2.2.2.2.2.2.2.1 h.2.2.2.2.2.2.2.2.2.2.2.2.2.2.2.2.1 h.2.2.2.2.2.2.2.2.2.2.2.2.2.2.2.2.2.1 (au (h.2.2.2.2.2.2.2.2.2.2.2.2.2.2.2.2.2.2+1));have kk:=G4 (h:=Dw h h.2.2.2.2.2.2.2.2.2.2.2.2.2.2.2.1 h.2.2.2.2.2.2.2.2.2.2.2.2.2.2.2.2.1 h.2.2.2.2.2.2.2.2.2.2.2.2.2.2.2.2.2.1 (au (h.2.2.2.2.2.2.2.2.2.2.2.2.2.2.2.2.2.2+1))) (k:=r.toNat) (b:=q.2.1.2.2) (f:=mX h.2.1 h.1 0 q h.2.2.2.2.2.2.2.2.1.2.2.1 f.1 h.2.2.2.2.2.2.2.2.2.2.1) ha.2.1;exact⟨⟨Ro zc'.z ha.1 ha.2.2.1,by rw[kk.tx];exact k.t⟩,kk.tx,kk.pl⟩
end
end Go.Pu
