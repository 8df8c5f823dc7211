import Derived.Test.YthllnaiaikjelaaGreatPuX1
namespace Go.Pu
open Go.Dn
open BitVec (toNat)
open Int (tdiv tmod)
set_option linter.unusedSimpArgs false
set_option linter.unusedVariables false
noncomputable section
variable {s t x:Bytes} {h:Host} {c d:Int} {a k o:Nat} {g:Nat->Host->Host} {p:aR} {R α:Type} {l:ar aC} {m:bp} {r:kl}
/- Frames received: the program's and the reference's results are one. -/
def atF (f:K5)(s:Stream):Bool:=decide (s.1=f)
def TY (l:ar Stream)(f:K5):Int:=match l.findIdx? (atF f)with|some i=>(i:Int)|none=> -1
theorem anS (l:ar Stream)(f:K5)(h:l.length<=10^9):wY l f=some (TY l f):=by unfold wY TY;rw[Ge (p:=atF f) (hit:=λi=>some i) (fin:=some (-1)) l (by omega) (λi hi nx=>?hs) (λnx=>?hf)];all_goals grind[xw,aN,aj,ab,atF]
theorem amK (l:ar Stream)(f:K5)(h:l.length<=10^9):wa l f=some (TY l f):=by unfold wa TY;rw[Ge (p:=atF f) (hit:=λi=>some i) (fin:=some (-1)) l (by omega) (λi hi nx=>?hs) (λnx=>?hf)];all_goals grind[xn,aN,aj,ab,atF]
def ag8:Stream:=((0,0,0,0,0),0,([]:Bytes),false)
def body (p:aR):Bytes:=p.2.2.2.2.2.2.2.2.2.2.2.2.2.2.2
def udp (p:aR):Bytes:=cw ((body p).length:Int)++body p
def EK (p:aR)(b:Int):Bool:=ak (toNat (gv p.2.2.2.2.2.2.2.2.2.2.2.2.2.1&&&gv b)) !=0
def uA (s:Stream)(p:aR):Int:=(s.2.1-p.2.2.2.2.2.2.2.2.2.2.2.1)%4294967296
def apx (s:Stream)(p:aR):Stream:=(s.1,(s.2.1+((body p).length:Int)-uA s p)%4294967296,s.2.2.1++(body p).drop (uA s p).toNat,EK p 1)
def Gx (l:ar Stream)(p:aR):ar Stream:=
 bif !dL p then l else
 match l.findIdx? (atF (oL p))with
 |none=>
  bif p.2.2.2.2.2.2.2.2.1==17 then l++[(oL p,0,udp p,false)] else
  bif EK p 2 then l++[(oL p,tmod (ak (p.2.2.2.2.2.2.2.2.2.2.2.1+1)) 4294967296,([]:Bytes),false)] else l
 |some i=>
  bif p.2.2.2.2.2.2.2.2.1==17 then l.set i ((l.getD i ag8).1,(l.getD i ag8).2.1,(l.getD i ag8).2.2.1++udp p,(l.getD i ag8).2.2.2) else
  bif EK p 2 then l else
  bif (l.getD i ag8).2.2.2||EK p 4 then l else
  bif decide (uA (l.getD i ag8) p<=((body p).length:Int)) then l.set i (apx (l.getD i ag8) p) else l
theorem abt (s:Stream)(p:aR):0<=uA s p/\uA s p<4294967296:=by unfold uA;omega
theorem amX (x:Int):ak (toNat (gv x&&&gv 4294967295))=x%4294967296:=by have:=I1 x 32;grind[aj]
theorem aoh (x:Int):ak x%4294967296=x%4294967296:=by have:=JC x 32;omega
theorem QQ (l:ar α)(x y:α):(l++[x]).set l.length y=l++[y]:=by grind
theorem ahN {l:ar α}{i:Nat}(h:i<l.length)(x:α):idx (l.set i x) (i:Int)=some x:=by rw[No,List.getElem?_set_self h]
theorem Fs (l:ar α)(x:α):idx (l++[x]) (l.length:Int)=some x:=by grind[No]
theorem UH (h:dL p=true):(body p).length<=320:=C5 h
theorem aak (l:ar Stream)(p:aR)(h:bt 900000000 (.sl eD) l):Fw l p=some (Gx l p):=by
 have hl:l.length<=900000000:=h.1;unfold Fw Gx;simp only[ET l,nC,ab,Vz,amK l _ (show l.length<=10^9 by omega),mG];cases hs:dL p;rfl;have hb:=UH hs;have hw:=bQ ((body p).length:Int);simp only[ai,ae];rw[show p.2.2.2.2.2.2.2.2.2.2.2.2.2.2.2=body p from rfl];cases hf:l.findIdx? (atF (oL p))with
 |none=>
  have e1:TY l (oL p)= -1:=by rw[TY,hf]
  simp only[e1,show decide ((-1:Int)<0)=true from rfl,af];cases p.2.2.2.2.2.2.2.2.1==17 with|true=>simp only[af];rw[aQ (by simp;omega),Fs,ab];simp only;rw[aQ (by omega),aQ (by simp only[ay,eo];omega),ab,aw];simp only[ab,Fs,QQ,bH];rfl|false=>simp only[ae];rw[show(ak (toNat (gv p.2.2.2.2.2.2.2.2.2.2.2.2.2.1&&&gv 2)) !=0)=EK p 2 from rfl];cases EK p 2 with|true=>simp only[af];rw[ny,aQ (by simp;omega)]|false=>rfl
 |some i=>
  obtain⟨hi,_⟩:=List.findIdx?_eq_some_iff_getElem.1 hf;have hd:(l[i].2.2.1).length<=900000000:=(h.2 _ (aE hi)).2.2.1;have e1:TY l (oL p)=(i:Int):=by rw[TY,hf]
  simp only[e1,aq (show¬(i:Int)<0 by omega),ae,aN hi,ab,dx hi,aw];cases p.2.2.2.2.2.2.2.2.1==17 with
  |true=>simp only[af];rw[aQ (by omega),aQ (by simp only[ay];omega)];rfl
  |false=>
   simp only[ae];rw[show(ak (toNat (gv p.2.2.2.2.2.2.2.2.2.2.2.2.2.1&&&gv 2)) !=0)=EK p 2 from rfl,show(ak (toNat (gv p.2.2.2.2.2.2.2.2.2.2.2.2.2.1&&&gv 4)) !=0)=EK p 4 from rfl,show(ak (toNat (gv p.2.2.2.2.2.2.2.2.2.2.2.2.2.1&&&gv 1)) !=0)=EK p 1 from rfl];cases EK p 2;case true=>rfl
   simp only[ae];rw[show(aa (cond l[i].2.2.2 (some true) (some (EK p 4))):(Bool->au (ar Stream))->au (ar Stream))=λK=>K (l[i].2.2.2||EK p 4) from by funext K;cases l[i].2.2.2<;>rfl];simp only;cases l[i].2.2.2||EK p 4;case true=>rfl
   simp only[ae,R4 _ 4294967296,ab,aoh];rw[show(l[i].2.1-p.2.2.2.2.2.2.2.2.2.2.2.1)%4294967296=uA l[i] p from rfl];have ha:=abt l[i] p;by_cases hq:uA l[i] p<=((body p).length:Int)
   rw[ax hq,xi (l:=body p) (uA l[i] p).toNat];simp only[af,ab];rw[aQ (by rw[bl];omega)];simp only[ahN hi,ab,dF];refine congrArg some (congrArg (l.set i) ?_);simp only[apx];rw[show(ak (l[i].2.1+((body p).length:Int))-uA l[i] p)%4294967296=(l[i].2.1+((body p).length:Int)-uA l[i] p)%4294967296 from by rw[Int.sub_emod,aoh,<-Int.sub_emod]];rw[aq hq];rfl
theorem aa1 (l:ar Stream)(p:aR)(h:bt 900000000 (.sl eD) l):FV l p=some (Gx l p):=by
 have hl:l.length<=900000000:=h.1;unfold FV Gx;rw[fb (by omega)];simp only[bH,qG,ab,Wo,anS l _ (show l.length<=10^9 by omega),iU];cases hs:dL p;rfl;have hb:=UH hs;have hw:=bQ ((body p).length:Int);simp only[ai,ae];rw[show p.2.2.2.2.2.2.2.2.2.2.2.2.2.2.2=body p from rfl];cases hf:l.findIdx? (atF (oL p))with
 |none=>
  have e1:TY l (oL p)= -1:=by rw[TY,hf]
  simp only[e1,show decide ((-1:Int)<0)=true from rfl,af];cases p.2.2.2.2.2.2.2.2.1==17 with|true=>simp only[af];rw[aQ (by simp;omega),Fs,ab];simp only;rw[aQ (by simp only[eo];omega),aQ (by simp only[ay,eo];omega),ab,aw];simp only[ab,Fs,QQ,bH];rfl|false=>simp only[ae];rw[show(ak (toNat (gv p.2.2.2.2.2.2.2.2.2.2.2.2.2.1&&&gv 2)) !=0)=EK p 2 from rfl];cases EK p 2 with|true=>simp only[af];rw[ny,aQ (by simp;omega)]|false=>rfl
 |some i=>
  obtain⟨hi,_⟩:=List.findIdx?_eq_some_iff_getElem.1 hf;have hd:(l[i].2.2.1).length<=900000000:=(h.2 _ (aE hi)).2.2.1;have e1:TY l (oL p)=(i:Int):=by rw[TY,hf]
  simp only[e1,aq (show¬(i:Int)<0 by omega),ae,aN hi,ab,dx hi,aw];cases p.2.2.2.2.2.2.2.2.1==17 with
  |true=>simp only[af];rw[aQ (by omega),aQ (by simp only[ay];omega),aX];rfl
  |false=>
   simp only[ae];rw[show(ak (toNat (gv p.2.2.2.2.2.2.2.2.2.2.2.2.2.1&&&gv 2)) !=0)=EK p 2 from rfl,show(ak (toNat (gv p.2.2.2.2.2.2.2.2.2.2.2.2.2.1&&&gv 4)) !=0)=EK p 4 from rfl,show(ak (toNat (gv p.2.2.2.2.2.2.2.2.2.2.2.2.2.1&&&gv 1)) !=0)=EK p 1 from rfl];cases EK p 2;case true=>rfl
   simp only[ae];rw[show(aa (cond l[i].2.2.2 (some true) (some (EK p 4))):(Bool->au (ar Stream))->au (ar Stream))=λK=>K (l[i].2.2.2||EK p 4) from by funext K;cases l[i].2.2.2<;>rfl];simp only;cases l[i].2.2.2||EK p 4;case true=>rfl
   simp only[ae,amX,ab,aoh];rw[show(l[i].2.1-p.2.2.2.2.2.2.2.2.2.2.2.1)%4294967296=uA l[i] p from rfl];have ha:=abt l[i] p;by_cases hq:uA l[i] p<=((body p).length:Int)
   rw[ax hq,xi (l:=body p) (uA l[i] p).toNat];simp only[af,ab];rw[aQ (by rw[bl];omega)];simp only[ahN hi,ab,dF,aK (show¬(4294967296:Nat)=0 by omega)];refine congrArg some (congrArg (l.set i) ?_);simp only[apx];have e:tmod (ak (ak (l[i].2.1%4294967296+((body p).length:Int))-uA l[i] p)) 4294967296=(l[i].2.1+((body p).length:Int)-uA l[i] p)%4294967296:=by rw[aj (n:=l[i].2.1%4294967296+((body p).length:Int)) (by omega) (by omega),aj (by omega) (by omega),fu (by omega)];omega
   rw[e];rw[aq hq];rfl
theorem ZZ {l:ar Stream}{n:Nat}(h:bt n (.sl eD) l):bt (n+322) (.sl eD) (Gx l p):=by
 have h':bt (n+322) (.sl eD) l:=h.mono;unfold Gx;cases hs:dL p;exact h';have hb:=UH hs;have hw:=bQ ((body p).length:Int);have hu:(udp p).length<=322:=by simp only[udp,ay];omega
 simp only[ai,ae];have app:∀x:Stream,x.2.2.1.length<=n+322->bt (n+322) (.sl eD) (l++[x]):=by intro x hx;refine⟨?_,λy hy=>?_⟩;have:l.length<=n:=h.1;simp only[ay,aS];omega;rcases aA.1 hy with g|g;exact h'.2 y g;rw[dC.1 g];exact⟨⟨bF,bF,bF,bF,bF⟩,bF,hx,bF⟩
 have put:∀(i:Nat)(x:Stream),x.2.2.1.length<=n+322->bt (n+322) (.sl eD) (l.set i x):=by intro i x hx;refine⟨?_,λy hy=>?_⟩;show(l.set i x).length<=_;rw[aL];exact h'.1;rcases eR hy with g|rfl;exact h'.2 y g;exact⟨⟨bF,bF,bF,bF,bF⟩,bF,hx,bF⟩
 split;cases p.2.2.2.2.2.2.2.2.1==17 with|true=>exact app _ (show(udp p).length<=_ by omega)|false=>cases EK p 2 with|true=>exact app _ (eh _)|false=>exact h'
 ·rename_i i hf;obtain⟨hi,_⟩:=List.findIdx?_eq_some_iff_getElem.1 hf;have hd:(l[i].2.2.1).length<=n:=(h.2 _ (aE hi)).2.2.1;simp only[dx hi];cases p.2.2.2.2.2.2.2.2.1==17 with
  |true=>exact put _ _ (by simp only[ay];omega)
  |false=>
   cases EK p 2;case true=>exact h'
   cases l[i].2.2.2||EK p 4;case true=>exact h'
   cases decide (uA l[i] p<=((body p).length:Int))with|false=>exact h'|true=>exact put _ _ (by simp only[apx,ay,bl];omega)
theorem kH {y:Bytes}{i:Nat}(h:i<x.length):bZ (x++y) i=bZ x i:=by grind[bZ]
theorem zC {y:Bytes}{i:Nat}(h:x.length<=i):bZ (x++y) i=bZ y (i-x.length):=by grind[bZ]
theorem abE {i n:Nat}(h:i<n):bZ (x.take n) i=bZ x i:=by grind[bZ]
theorem ra {i n:Nat}:bZ (x.drop n) i=bZ x (n+i):=by grind[bZ]
theorem aia {p:Bytes}{i:Nat}(h:i<a\/a+p.length<=i):bZ (xv s (a:Int) p) i=bZ s i:=by
 unfold xv fP;by_cases hw:(0:Int)<=a/\(a:Int)+(p.length:Int)<=(s.length:Int)
 rw[ax hw,af,aw];have ht:(s.take a).length=a:=by rw[bm];omega
 rcases h with h|h;rw[kH (by rw[ay];omega),kH (by omega),abE h];rw[zC (by rw[ay];omega),ra,ay,ht];congr 1;omega;rw[aq hw];rfl
theorem ah9 {p:Bytes}{j:Nat}(hw:a+p.length<=s.length)(hj:j<p.length):bZ (xv s (a:Int) p) (a+j)=bZ p j:=by unfold xv fP;rw[ax ⟨by omega,by omega⟩,af,aw];grind[kH,zC]
theorem CF:cO s (a:Int)=bif decide (a+2<=s.length) then((bZ s a*256+bZ s (a+1):Nat):Int) else-1:=by grind[cO,fP]
theorem Me (hl:s.length=t.length)(h0:bZ s a=bZ t a)(h1:bZ s (a+1)=bZ t (a+1)):cO s (a:Int)=cO t (a:Int):=by grind[CF]
theorem Vg:cO (s.drop k) (a:Int)=cO s ((k+a:Nat):Int):=by rw[CF,CF,ra,ra,bl,show k+(a+1)=k+a+1 by omega,show decide (a+2<=s.length-k)=decide (k+a+2<=s.length) from decide_eq_decide.2 (by omega)]
theorem Nl:ec s (a:Int)=bif decide (a+4<=s.length) then(((bZ s a*256+bZ s (a+1))*65536+(bZ s (a+2)*256+bZ s (a+3)):Nat):Int) else-1:=by grind[ec,fP]
theorem Vh:ec (s.drop k) (a:Int)=ec s ((k+a:Nat):Int):=by rw[Nl,Nl,ra,ra,ra,ra,bl,show k+(a+1)=k+a+1 by omega,show k+(a+2)=k+a+2 by omega,show k+(a+3)=k+a+3 by omega,show decide (a+4<=s.length-k)=decide (k+a+4<=s.length) from decide_eq_decide.2 (by omega)]
theorem ace (hl:s.length=t.length)(h:∀j,j<4->bZ s (a+j)=bZ t (a+j)):ec s (a:Int)=ec t (a:Int):=by rw[Nl,Nl,hl,show bZ s a=bZ t a from h 0 (by omega),h 1 (by omega),h 2 (by omega),h 3 (by omega)]
def cy (s:Bytes):Nat:=bif cO s 12==33024 then 18 else 14
def jF (s:Bytes):Nat:=bZ s (cy s+9)
def TW (k:Nat):Nat:=bif (k:Int)==6 then 16 else 6
def Cj (s:Bytes):Nat:=cy s+10
def vE (s:Bytes):Nat:=cy s+20+TW (jF s)
theorem NK (k:Nat):TW k=16/\k=6\/TW k=6/\k≠6:=by grind[TW]
theorem PF (s:Bytes):cy s=18/\(cO s 12==33024)=true\/cy s=14/\(cO s 12==33024)=false:=by grind[cy]
theorem RR (k:Nat)(h:k<256):fN (k:Int)=some (TW k:Int):=by grind[fN,TW]
theorem Qo (s:Bytes)(h:s.length<=10^9):uT s=some ((Cj s:Int),(vE s:Int)):=by
 unfold uT;rw[CI s 12 h,ab];have hk:=fw s (cy s+9)
 have core:∀o:Nat,cy s=o->(o=18\/o=14)->(bif decide (ak ((o:Int)+9)<(s.length:Int)) then
  aa (idx s (ak ((o:Int)+9))) λx2=>aa (fN (ak ((UInt8.toNat x2:Int)))) λr3=>some (ak ((o:Int)+10),ak ((ak ((o:Int)+20))+r3))
  else aa (fN 0) λr4=>some (ak ((o:Int)+10),ak ((ak ((o:Int)+20))+r4)))=some ((Cj s:Int),(vE s:Int)):=by
  intro o ho h2
  have hs:=NK (jF s)
  rw[aj (n:=(o:Int)+9) (by omega) (by omega),aj (n:=(o:Int)+10) (by omega) (by omega),aj (n:=(o:Int)+20) (by omega) (by omega)]
  unfold Cj vE
  rw[ho]
  by_cases hl:o+9<s.length
  ·obtain⟨x,hx,ex⟩:=lO hl
   rw[gL,af,show(o:Int)+9=((o+9:Nat):Int) by omega,hx,ab,ex,gu (by rw[<-ho];omega),RR _ (by rw[<-ho];exact hk),ab,show bZ s (o+9)=jF s by unfold jF;rw[ho],aj (by omega) (by omega)]
   congr 1
  ·have hz:jF s=0:=by unfold jF;rw[ho];exact OP
   have h0:fN 0=some (TW 0:Int):=RR 0 (by omega)
   rw[fG,ae,h0,ab,<-hz,aj (by omega) (by omega)]
   congr 1
 rcases PF s with⟨h1,h2⟩|⟨h1,h2⟩;rw[h2,af];exact core 18 h1 (.inl rfl);rw[h2,ae];exact core 14 h1 (.inr rfl)
theorem Wr (s:Bytes)(h:s.length<=10^9):Cf s=some (bif decide (s.length<cy s+46) then(-1, -1) else((Cj s:Int),(vE s:Int))):=by
 unfold Cf;rw[wI s 12 h,ab];have hk:=fw s (cy s+9)
 have core:∀o:Nat,cy s=o->(o=18\/o=14)->(bif decide ((s.length:Int)<ak ((o:Int)+46)) then some ((-1),(-1)) else
  aa (idx s (ak ((o:Int)+9))) λx2=>bif (ak ((UInt8.toNat x2:Int)))==6 then some (ak ((o:Int)+10),ak ((o:Int)+36)) else some (ak ((o:Int)+10),ak ((o:Int)+26)))=some (bif decide (s.length<cy s+46) then(-1, -1) else((Cj s:Int),(vE s:Int))):=by
  intro o ho h2
  rw[aj (n:=(o:Int)+9) (by omega) (by omega),aj (n:=(o:Int)+10) (by omega) (by omega),aj (n:=(o:Int)+46) (by omega) (by omega),aj (n:=(o:Int)+36) (by omega) (by omega),aj (n:=(o:Int)+26) (by omega) (by omega),ho]
  by_cases hl:s.length<o+46
  ·rw[ax (show(s.length:Int)<(o:Int)+46 by omega),ax hl];rfl
  ·obtain⟨x,hx,ex⟩:=lO (s:=s) (i:=o+9)
   rw[aq (show¬(s.length:Int)<(o:Int)+46 by omega),aq hl,ae,ae,show(o:Int)+9=((o+9:Nat):Int) by omega,hx,ab,ex,gu (by rw[<-ho];omega),show bZ s (o+9)=jF s by unfold jF;rw[ho]]
   unfold Cj vE TW
   rw[ho]
   cases (jF s:Int)==6 with
   |true=>simp only[af];congr 2
   |false=>simp only[ae];congr 2
 rcases PF s with⟨h1,h2⟩|⟨h1,h2⟩;rw[h2,af];exact core 18 h1 (.inl rfl);rw[h2,ae];exact core 14 h1 (.inr rfl)
theorem ah0 {a:Int}(h:du a 0 281474976710655=true):(mac a).length=6:=by
 have ha:=bq.1 h;have e:mac a=cw (Int.fdiv a (2^(vH 32)))++gT (ak (toNat (gv a&&&gv 4294967295))):=by grind[mac,jL,iU,lK,ab,bQ,dD,aQ]
 grind[IntKind.bits,Pw,WW,amX,bq]
theorem SY (h:dL p=true):cy (eS p).1+46<=(eS p).1.length:=by
 have hh:Mh p=true:=by simp only[dL,ah]at h;exact h.1
 have hp:=aaJ (ipP p).1;have hi:=Jc h;unfold eS aoG abW at hi⊢;rw[h,af]at hi⊢;cases he:GB (p.1,p.2.1,p.2.2.1,2048,pad (ipP p).1)with|false=>rw[he]at hi;cases hi|true=>?_
 simp only[af];simp only[Mh,ah]at hh;have m1:=ah0 hh.1;have m2:=ah0 hh.2.1;have hv:=bq.1 hh.2.2.1;have w1:(cw 33024).length=2:=rfl;have w3:(cw 2048).length=2:=rfl;generalize pad (ipP p).1=bd at hp⊢;unfold X6;simp only;generalize mac p.1=M1 at m1⊢;generalize mac p.2.1=M2 at m2⊢;by_cases hc:p.2.2.1>=0;have w2:(cw p.2.2.1).length=2:=by rw[Pw,bq.2 (by omega)];rfl
 rw[ax hc,af];have hb:cy (((((M1++M2)++cw 33024)++cw p.2.2.1)++cw 2048)++bd)=18:=by
  unfold cy;have e12:cO (((((M1++M2)++cw 33024)++cw p.2.2.1)++cw 2048)++bd) ((12:Nat):Int)=33024:=by rw[CF,ax (by simp only[ay];omega),af];rw[kH (by simp only[ay];omega),kH (by simp only[ay];omega),kH (by simp only[ay];omega),zC (by simp only[ay];omega)];rw[kH (by simp only[ay];omega),kH (by simp only[ay];omega),kH (by simp only[ay];omega),zC (by simp only[ay];omega)];rw[ay,m1,m2];rfl
  rw[show(12:Int)=((12:Nat):Int) from rfl,e12];rfl
 rw[hb];simp only[ay];omega;rw[aq hc,ae];have hb:cy (((M1++M2)++cw 2048)++bd)=14:=by
  unfold cy;have e12:cO (((M1++M2)++cw 2048)++bd) ((12:Nat):Int)=2048:=by rw[CF,ax (by simp only[ay];omega),af];rw[kH (by simp only[ay];omega),zC (by simp only[ay];omega)];rw[kH (by simp only[ay];omega),zC (by simp only[ay];omega)];rw[ay,m1,m2];rfl
  rw[show(12:Int)=((12:Nat):Int) from rfl,e12];rfl
 rw[hb];simp only[ay];omega
def tW (t:Bytes)(x y:Bytes):Bytes:=xv (xv t (Cj t:Int) x) (vE t:Int) y
theorem Im (t x y:Bytes):(tW t x y).length=t.length:=by grind[tW,Eu]
def jO (p:aR):Bytes×Bool:=bif dL p then(tW (eS p).1 (cw 0) (cw 0),true) else([],false)
theorem acy (h:dL p=false):eS p=([],false):=by grind[eS]
theorem YE (p:aR):oM p=some (jO p):=by have hl:=CH p;have w0:=bQ 0;unfold oM jO tW;rw[Je,ab];cases h:dL p with|false=>rw[acy h];rfl|true=>rw[Jc h];simp only[ai,ae,af,Qo _ (show(eS p).1.length<=10^9 by omega),ab,mG,J3 _ _ _ (show(eS p).1.length<=10^9 by omega) (show(cw 0).length<=10^9 by omega),J3 _ _ _ (show(xv (eS p).1 (Cj (eS p).1:Int) (cw 0)).length<=10^9 by rw[Eu];omega) (show(cw 0).length<=10^9 by omega)]
theorem Zm (p:aR):oU p=some (jO p):=by have hl:=CH p;unfold oU jO tW;rw[Jy,ab];cases h:dL p with|false=>rw[acy h];rfl|true=>grind[SY,Jc,Wr,ab,iU,FQ,cw,Eu]
def K6 (s t:Bytes):Prop:=s.length=t.length/\∀i,i<Cj t\/(Cj t+2<=i/\i<vE t)\/vE t+2<=i->bZ s i=bZ t i
theorem Et (t:Bytes):(cy t=14\/cy t=18)/\Cj t=cy t+10/\cy t+26<=vE t/\vE t<=cy t+36/\(vE t=cy t+36/\jF t=6\/vE t=cy t+26/\jF t≠6):=by grind[PF,NK,Cj,vE]
theorem Ot (t:Bytes){y:Bytes}(hx:x.length<=2)(hy:y.length<=2):K6 (tW t x y) t:=by have:=Et t;refine⟨Im t x y,λi hi=>?_⟩;grind[tW,aia]
theorem K6.body (h:K6 s t):cy s=cy t:=by have:=Et t;unfold cy;have e:cO s ((12:Nat):Int)=cO t ((12:Nat):Int):=Me h.1 (h.2 _ (by omega)) (h.2 _ (by omega));grind
theorem K6.kind (h:K6 s t):jF s=jF t:=by have:=Et t;unfold jF;rw[h.body,h.2 _ (by omega)]
theorem K6.aqW (h:K6 s t):Cj s=Cj t/\vE s=vE t:=by unfold Cj vE;rw[h.body,h.kind];exact⟨rfl,rfl⟩
theorem K6.arZ (h:K6 s t):cO s ((cy t+2:Nat):Int)=cO t ((cy t+2:Nat):Int):=by have:=Et t;exact Me h.1 (h.2 _ (by omega)) (h.2 _ (by omega))
structure TOk (t:Bytes):Prop where
 eth:(gr t).2=true
 bd:(gr t).1.2.2.2.2=t.drop (cy t)
 l1:cy t+46<=t.length
 n1:20+TW (jF t)+2<=cO t ((cy t+2:Nat):Int)
 n2:cO t ((cy t+2:Nat):Int)<=(t.length:Int)-(cy t:Int)
theorem Sd (h:(gr s).2=true):(gr s).1.2.2.2.2=s.drop (cy s)/\18<=s.length/\46<=s.length-cy s/\s.length-cy s<=400:=by
 unfold gr at h⊢;by_cases h8:(s.length:Int)<18;rw[ax h8]at h;cases h;rw[aq h8]at h⊢;simp only[ae]at h⊢;rcases PF s with⟨h1,h2⟩|⟨h1,h2⟩;rw[h2]at h⊢;simp only[af]at h⊢;cases he:GB (UW s)with|false=>rw[he]at h;cases h|true=>rw[h1];simp only[GB,ah,bq,UW,bl]at he;simp only[af,UW];refine⟨bF,by omega,by omega,by omega⟩
 rw[h2]at h⊢;simp only[ae]at h⊢;cases he:GB (I3 s)with|false=>rw[he]at h;cases h|true=>rw[h1];simp only[GB,ah,bq,I3,bl]at he;simp only[af,I3];refine⟨bF,by omega,by omega,by omega⟩
theorem ans (h:(zW s).2=0):(gr s).2=true/\(ot (gr s).1.2.2.2.2).2=true/\dL (zW s).1=true/\ (yc (ot (gr s).1.2.2.2.2).1.2.2.2.2.1 (ot (gr s).1.2.2.2.2).1.2.2.2.2.2.1 (ot (gr s).1.2.2.2.2).1.2.2.2.1 (ot (gr s).1.2.2.2.2).1.2.2.2.2.2.2).2=true:=by grind[zW]
theorem ank {b:Bytes}(h:(ot b).2=true):20<=cO b 2/\cO b 2<=(b.length:Int)/\(ot b).1=Pb b:=by grind[ot]
theorem akf {a b k:Int}(h:(yc a b k s).2=true):k=6/\20<=s.length\/k=17/\8<=s.length:=by grind[yc]
theorem aiY (hl:s.length=t.length)(h:∀i,i<18->bZ s i=bZ t i)(hs:(gr s).2=true):(gr t).2=true:=by
 have g16:∀a,a+2<=18->cO s ((a:Nat):Int)=cO t ((a:Nat):Int):=λa ha=>Me hl (h _ (by omega)) (h _ (by omega));have g32:∀a,a+4<=18->ec s ((a:Nat):Int)=ec t ((a:Nat):Int):=λa ha=>ace hl (λj hj=>h _ (by omega));have e0:Ok s 0=Ok t 0:=by unfold Ok;rw[show(0:Int)=((0:Nat):Int) from rfl,g16 0 (by omega),show((0:Nat):Int)+2=((2:Nat):Int) from rfl,g32 2 (by omega)]
 have e6:Ok s 6=Ok t 6:=by unfold Ok;rw[show(6:Int)=((6:Nat):Int) from rfl,g16 6 (by omega),show((6:Nat):Int)+2=((8:Nat):Int) from rfl,g32 8 (by omega)]
 grind[cO,GB,UW,I3,gr]
theorem aq4 (ha:K6 s t)(h:(zW s).2=0):TOk t:=by
 have hp:=Et t;obtain⟨h1,h2,_,h4⟩:=ans h;have he:=Sd h1;rw[he.1]at h2 h4;have hi:=ank h2;have hs:=akf h4;rw[hi.2.2]at hs;have e1:(gr t).2=true:=aiY ha.1 (λi hi=>ha.2 i (by omega)) h1;have e2:=Sd e1;have en:cO (s.drop (cy s)) 2=cO t ((cy t+2:Nat):Int):=by have:cO (s.drop (cy s)) ((2:Nat):Int)=cO s ((cy s+2:Nat):Int):=Vg;rw[show(2:Int)=((2:Nat):Int) from rfl,this,ha.body,ha.arZ]
 have ek:(Pb (s.drop (cy s))).2.2.2.1=(jF t:Int):=by show(bZ (s.drop (cy s)) 9:Int)=_;rw[ra,<-ha.kind];rfl
 have eg:(Pb (s.drop (cy s))).2.2.2.2.2.2.length=(cO t ((cy t+2:Nat):Int)).toNat-20:=by show(((s.drop (cy s)).take (cO (s.drop (cy s)) 2).toNat).drop 20).length=_;grind
 rw[ek,eg]at hs;rw[en]at hi;have hn:=hi.2.1;rw[bl,ha.1,ha.body]at hn;have hk:=NK (jF t);exact⟨e1,e2.1,by omega,by omega,by omega⟩
theorem akS (h:(jO p).1=t)(hs:dL p=true)(ht:TOk t):cO t (Cj t:Int)=0/\cO t (vE t:Int)=0:=by
 unfold jO at h;rw[hs]at h;simp only[af]at h;have w0:(cw 0).length=2:=rfl;have ha:K6 (tW (eS p).1 (cw 0) (cw 0)) (eS p).1:=Ot _ (by omega) (by omega);rw[h]at ha;have hp:=Et t;have HF:=ha.aqW;have hl:=ht.l1;have ER:=ha.1;have HE:=ht.n1;have Dc:=ht.n2;have hk:=NK (jF t);have hB:vE t+2<=t.length:=by omega
 have b0:bZ (cw 0) 0=0:=rfl;have b1:bZ (cw 0) 1=0:=rfl;rw[CF,CF,gL,ax hB,af,af];have eB:∀j,j<2->bZ t (vE t+j)=bZ (cw 0) j:=by intro j hj;rw[<-h];unfold tW;rw[show vE (xv (xv (eS p).1 (Cj (eS p).1:Int) (cw 0)) (vE (eS p).1:Int) (cw 0))=vE (eS p).1 from by have:=HF.2;rw[<-h]at this;exact this];simp_all[ah9,Eu]
 have eA:∀j,j<2->bZ t (Cj t+j)=bZ (cw 0) j:=by intro j hj;rw[<-h];unfold tW;rw[show Cj (xv (xv (eS p).1 (Cj (eS p).1:Int) (cw 0)) (vE (eS p).1:Int) (cw 0))=Cj (eS p).1 from by have:=HF.1;rw[<-h]at this;exact this];simp(disch:=omega)[aia,ah9]
 grind
theorem CB (s:Bytes):aU (dc s)=s:=by simp_all[aU,dc,List.map_congr_left]
theorem amM (s t:Bytes):dc (s++t)=dc s++dc t:=eu
theorem Qv (s:Bytes):(dc s).length=s.length:=bW ..
theorem Un (l:ar α)(i j:Nat)(h:i<=j)(h2:j<=l.length):sub l (i:Int) (j:Int)=some ((l.drop i).take (j-i)):=by grind[sub,List.take_drop]
theorem aiw (a k:Nat):tdiv (a:Int) (k:Int)=((a/k:Nat):Int):=(Int.ofNat_tdiv a k).symm
theorem aeu (a k:Nat):tmod (a:Int) (k:Int)=((a%k:Nat):Int):=(Int.ofNat_tmod a k).symm
theorem mem_iff:iw m=true↔(∀x∈m,x.length=128)/\m.length<=64:=by grind[iw]
theorem ab7:∀{m:bp},(∀x∈m,x.length=128)->m.flatten.length=128*m.length
 |[],_=>rfl
 |x::m,h=>by have:=ab7 (m:=m) (λy hy=>h y (by simp[hy]));grind
theorem Yg:∀{m:bp}(_:∀x∈m,x.length=128)(p:Nat)(hp:p<m.length)(o c:Nat),o+c<=128->(m.flatten.drop (128*p+o)).take c=(m[p].drop o).take c
 |x::m,h,0,hp,o,c,ho=>by grind
 |x::m,h,p+1,hp,o,c,ho=>by have hx:=h x (by simp);simp only[List.flatten_cons,List.getElem_cons_succ];rw[show 128*(p+1)+o=x.length+(128*p+o) by omega,List.drop_length_add_append];exact Yg (m:=m) (λy hy=>h y (by simp[hy])) p (by simpa using hp) o c ho
def Fg (m:bp)(a n:Nat):Bytes:=(m.flatten.drop a).take n
theorem Jr {n:Nat}(h:iw m=true)(hn:a+n<=128*m.length):(Fg m a n).length=n:=by have:=ab7 (mem_iff.1 h).1;grind[Fg]
theorem ant (m:bp)(a n:Nat):(Fg m a n).length<=n:=by simp[Fg];omega
theorem Y3 (m:bp)(a k c:Nat):Fg m a (k+c)=Fg m a k++Fg m (a+k) c:=by grind[Fg,eO]
theorem V9 (h:iw m=true){p:Nat}(hp:p<m.length){c:Nat}(ho:o+c<=128)(ha:a=128*p+o):(m[p].drop o).take c=Fg m a c:=by subst ha;exact(Yg (mem_iff.1 h).1 p hp o c ho).symm
def iz (m:bp)(a n:Int):Bool:=iw m&&decide (0<=n/\0<=a/\a+n<=128*(m.length:Int))
theorem Mu (m:bp)(a n:Int)(h:m.length<=10^9):zL m a n=some (iz m a n):=by unfold zL iz;rw[O8 m h,ab,aj (n:=(m.length:Int)*128) (by omega) (by omega)];cases hm:iw m with|false=>rfl|true=>simp only[af,bj];by_cases h1:n>=0;by_cases h2:n<=(m.length:Int)*128;rw[aj (n:=(m.length:Int)*128-n) (by omega) (by omega)];by_cases h3:a>=0;simp only[ax h1,ax h2,ax h3,af,ab];exact congrArg some (decide_eq_decide.2 (by omega));simp only[ax h1,ax h2,aq h3,af,ae,ab];exact congrArg some (fG).symm;simp only[ax h1,aq h2,af,ae,ab];exact congrArg some (fG).symm;simp only[aq h1,ae,ab];exact congrArg some (fG).symm
theorem MR (m:bp)(a n:Int)(h:m.length<=10^9):mT m a n=some (iz m a n):=by unfold mT iz;rw[KM m h,ab,aj (n:=128*(m.length:Int)) (by omega) (by omega)];cases hm:iw m with|false=>rfl|true=>simp only[af,bj];by_cases h1:n>=0;by_cases h3:a>=0;by_cases h2:a<=128*(m.length:Int);rw[aj (n:=128*(m.length:Int)-a) (by omega) (by omega)];simp only[ax h1,ax h2,ax h3,af,ab];exact congrArg some (decide_eq_decide.2 (by omega));simp only[ax h1,aq h2,ax h3,af,ae,ab];exact congrArg some (fG).symm;simp only[ax h1,aq h3,af,ae,ab];exact congrArg some (fG).symm;simp only[aq h1,ae,ab];exact congrArg some (fG).symm
theorem Qk (hm:iw m=true)(K:Int->cI->au R):∀(n r k a f:Nat),r<=n->n<f->a+k+r<=128*m.length->
 aH (mJ K ((k+r:Nat):Int) m) f (((a+k:Nat):Int),dc (Fg m a k))=K ((a+k+r:Nat):Int) (dc (Fg m a (k+r)))
 |n,r,k,a,0,_,hf,_=>by omega
 |n,0,k,a,f+1,hr,hf,hb=>by grind[aH,mJ,Qv,Jr]
 |0,r+1,k,a,f+1,hr,hf,hb=>by omega
 |n+1,r+1,k,a,f+1,hr,hf,hb=>by
  have h64:=(mem_iff.1 hm).2;have hl:=Jr hm (show a+k<=128*m.length by omega);obtain⟨p,hp⟩:∃p,(a+k)/128=p:=⟨_,rfl⟩
  obtain⟨o,ho⟩:∃o,(a+k)%128=o:=⟨_,rfl⟩
  have hpo:a+k=128*p+o:=by omega
  have ho2:o<128:=by omega
  have HF:p<m.length:=by omega
  obtain⟨c,hc⟩:∃c,min (r+1) (128-o)=c:=⟨_,rfl⟩
  have hpg:=(mem_iff.1 hm).1 _ (aE HF);have e1:tdiv ((a+k:Nat):Int) 128=(p:Int):=by grind
  have e2:tmod ((a+k:Nat):Int) 128=(o:Int):=by grind
  have key:=Qk hm K n (r+1-c) (k+c) a f (by omega) (by omega) (by omega);rw[aH];simp only[mJ,Qv,hl,e1,e2];rw[gL,af,ny,aj (n:=(p:Int)) (by omega) (by omega),aN HF,ab,ny];rw[aj (n:=(o:Int)+((k+(r+1):Nat):Int)) (by omega) (by omega),aj (n:=(o:Int)+((k+(r+1):Nat):Int)-(k:Int)) (by omega) (by omega)];rw[show(if(o:Int)+((k+(r+1):Nat):Int)-(k:Int)<128 then(o:Int)+((k+(r+1):Nat):Int)-(k:Int) else 128)=((o+c:Nat):Int) by split<;>omega];rw[Un _ _ _ (by omega) (by omega),ab,show o+c-o=c by omega,V9 hm HF (show o+c<=128 by omega) hpo];have ER:=Jr hm (show a+k+c<=128*m.length by omega);rw[ER,aQ (by omega),aj (by omega) (by omega),<-amM,<-Y3];grind
theorem amH (m:bp)(a n:Int)(h:m.length<=10^9):sv m a n=some (bif iz m a n then(Fg m a.toNat n.toNat,true) else([],false)):=by have Ae:=da;unfold sv;rw[Mu m a n h,ab];cases hw:iz m a n with|false=>rfl|true=>simp only[iz,ah,bK]at hw;obtain⟨hm,h1,h2,h3⟩:=hw;have h64:=(mem_iff.1 hm).2;simp only[ai,ae,af];rw[zip,aQ (by omega)];obtain⟨a,rfl⟩:=aD h2;obtain⟨n,rfl⟩:=aD h1;have:=Qk hm (λ(y4:Int) (y5:cI)=>some (aU y5,true)) n n 0 a fuel (by omega) (by omega) (by omega);rw[cv,dZ]at this;refine Eq.trans this ?_;simp only[CB,aw]
theorem QZ (hm:iw m=true)(K:Int->Int->Bytes->au R):∀(n r k a f:Nat),r<=n->n<f->a+k+r<=128*m.length->
 aH (rV K m) f (((a+k:Nat):Int),(r:Int),Fg m a k)=K ((a+k+r:Nat):Int) 0 (Fg m a (k+r))
 |n,r,k,a,0,_,hf,_=>by omega
 |n,0,k,a,f+1,hr,hf,hb=>by rfl
 |0,r+1,k,a,f+1,hr,hf,hb=>by omega
 |n+1,r+1,k,a,f+1,hr,hf,hb=>by
  have h64:=(mem_iff.1 hm).2;have hl:=Jr hm (show a+k<=128*m.length by omega);obtain⟨p,hp⟩:∃p,(a+k)/128=p:=⟨_,rfl⟩
  obtain⟨o,ho⟩:∃o,(a+k)%128=o:=⟨_,rfl⟩
  have hpo:a+k=128*p+o:=by omega
  have ho2:o<128:=by omega
  have HF:p<m.length:=by omega
  obtain⟨c,hc⟩:∃c,min (r+1) (128-o)=c:=⟨_,rfl⟩
  have hpg:=(mem_iff.1 hm).1 _ (aE HF);have e1:tdiv ((a+k:Nat):Int) 128=(p:Int):=by grind
  have e2:tmod ((a+k:Nat):Int) 128=(o:Int):=by grind
  have key:=QZ hm K n (r+1-c) (k+c) a f (by omega) (by omega) (by omega);rw[aH];simp only[rV,e1,e2];rw[gL,af,ny,ny,aj (n:=(p:Int)) (by omega) (by omega),aN HF,ab];rw[aj (n:=128-(o:Int)) (by omega) (by omega)];rw[show(if 128-(o:Int)<((r+1:Nat):Int) then 128-(o:Int) else((r+1:Nat):Int))=(c:Int) by split<;>omega];rw[aj (n:=(o:Int)+(c:Int)) (by omega) (by omega),show(o:Int)+(c:Int)=((o+c:Nat):Int) by omega];rw[Un _ _ _ (by omega) (by omega),ab,show o+c-o=c by omega,V9 hm HF (show o+c<=128 by omega) hpo];have ER:=Jr hm (show a+k+c<=128*m.length by omega);rw[ER,hl,aQ (by omega),aj (n:=((a+k:Nat):Int)+(c:Int)) (by omega) (by omega),aj (n:=((r+1:Nat):Int)-(c:Int)) (by omega) (by omega),<-Y3];grind
theorem anQ (m:bp)(a n:Int)(h:m.length<=10^9):sK m a n=some (bif iz m a n then(Fg m a.toNat n.toNat,true) else([],false)):=by have Ae:=da;unfold sK;rw[MR m a n h,ab];cases hw:iz m a n with|false=>rfl|true=>simp only[iz,ah,bK]at hw;obtain⟨hm,h1,h2,h3⟩:=hw;have h64:=(mem_iff.1 hm).2;simp only[ai,ae,af];obtain⟨a,rfl⟩:=aD h2;obtain⟨n,rfl⟩:=aD h1;have:=QZ hm (λ(y4:Int) (y5:Int) (y6:Bytes)=>some (y6,true)) n n 0 a fuel (by omega) (by omega) (by omega);rw[cv,dZ]at this;exact this
def aax (d p:Int)(w:Bool)(x:aC):Bool:=zS d p x&&(x.2.2.2|| !w)
def zT (l:ar aC)(d p:Int)(w:Bool):Int:=match l.findIdx? (aax d p w)with|some i=>(l.getD i aay).2.2.1|none=> -1
theorem anN (l:ar aC)(d p:Int)(w:Bool)(h:l.length<=10^9):F4 l d p w=some (zT l d p w):=by unfold F4 zT;refine Eq.trans (Ge (p:=aax d p w) (hit:=λi=>aa (idx l i) λx=>some x.2.2.1) (fin:=some (-1)) l (by omega) (λi hi nx=>?_) (λnx=>?_)) ?_;simp only[yW];rw[gL,aN hi,aj (by omega) (by omega)];simp only[af,ab,aax,zS];cases l[i].1==d<;>cases l[i].2.1==p<;>cases l[i].2.2.2<;>cases w<;>rfl;simp only[yW];rw[fG];rfl;cases hf:l.findIdx? (aax d p w)with|none=>rfl|some i=>obtain⟨hi,_⟩:=List.findIdx?_eq_some_iff_getElem.1 hf;simp only[aN hi,ab,dx hi]
theorem VQ (h:fO l=true){i:Nat}(hi:i<l.length):RZ l[i]=true/\∀j (hj:j<i),zS l[i].1 l[i].2.1 (l[j]'(by omega))=false:=by simp only[fO,ah,aP,bU]at h;have:=h.2 i hi;simp only[aaw,ah,aP,bU,dx hi,aW]at this;grind
theorem YM {p:Int}{m:aC}:zS d p m=true↔m.1=d/\m.2.1=p:=by simp[zS]
theorem amW (h:fO l=true){p:Int}{i j:Nat}(hi:i<l.length)(hj:j<l.length)(h1:zS d p l[i]=true)(h2:zS d p l[j]=true):i=j:=by grind[YM,VQ]
theorem VW (h:fO l=true)(d p:Int)(w:Bool)(h1:0<=zT l d p w):zT l d p w<=63/\0<=p/\p<=1023:=by grind[zT,aax,List.findIdx?_eq_some_iff_getElem,VQ,YM,RZ,bq]
theorem ajr (l:ar aC)(d:Int)(a:Nat)(w:Bool)(h:l.length<=10^9)(hm:fO l=true)(ha:a<=9223372036854775807): J7 l d (a:Int) w=some (if 0<=zT l d ((a/128:Nat):Int) w then zT l d ((a/128:Nat):Int) w*128+((a%128:Nat):Int) else-1):=by
 have e1:tdiv (a:Int) 128=((a/128:Nat):Int):=aiw a 128;have e2:tmod (a:Int) 128=((a%128:Nat):Int):=aeu a 128;unfold J7;rw[fG,ae,ny,e1,e2,aj (by omega) (by omega),acM l _ _ h,ab];generalize ((a/128:Nat):Int)=p;have vG:=VW hm d p w;unfold adr;cases hf:l.findIdx? (zS d p)with
 |none=>
  have hn:zT l d p w= -1:=by grind[zT,aax]
  rw[hn];rfl
 |some i=>
  obtain⟨hi,h2,h3⟩:=List.findIdx?_eq_some_iff_getElem.1 hf;simp only;rw[fG,aN hi];simp only[ae,ab];cases hq:l[i].2.2.2|| !w with
  |true=>
   have hF:zT l d p w=l[i].2.2.1:=by grind[zT,List.findIdx?_eq_some_iff_getElem,aax]
   have h4:=(VQ hm hi).1;simp only[RZ,ah,bq]at h4
   rw[hF,aM (show 0<=l[i].2.2.1 by omega),show(aa (cond w (some (!l[i].2.2.2)) (some false)) λq3=>cond q3 (some (-1:Int)) _)=_ from by
    have:(cond w (some (!l[i].2.2.2)) (some false))=some false:=by cases w<;>cases hz:l[i].2.2.2<;>rw[hz]at hq<;>first|rfl|cases hq
    rw[this,ab,ae]]
   grind[aj]
  |false=>grind[zT,List.getElem_of_mem,zS,aax,amW,ab]
def nv (l:ar aC)(m:bp)(d:Int)(w:Bool):Nat->Nat->Nat->au (ar (Int×Int))
 |0,_,_=>some []
 |n+1,a,r=>if r=0 then some [] else
  if 0<=zT l d ((a/128:Nat):Int) w/\zT l d ((a/128:Nat):Int) w<(m.length:Int) then
   (nv l m d w n (a+min (128-a%128) r) (r-min (128-a%128) r)).map (λq=>(zT l d ((a/128:Nat):Int) w*128+((a%128:Nat):Int),((min (128-a%128) r:Nat):Int))::q)
  else none
theorem abp (hm:iw m=true){f:Int}(h0:0<=f){c:Nat}(hc:0<c)(ho:o+c<=128):iz m (f*128+(o:Int)) (c:Int)=decide (f<(m.length:Int)):=by grind[iz]
theorem aeL (hm:iw m=true){f:Int}(h0:0<=f):iz m (f*128) 128=decide (f<(m.length:Int)):=by grind[iz]
theorem Qm (hl:fO l=true)(hL:l.length<=10^9)(hm:iw m=true)(d:Int)(w:Bool):∀(n a r f:Nat)(acc:ar (Int×Int)),r<=n->n<f->acc.length+n<=1000000->a<=9223372036854775807->
 aH (uQ (λ(y9:Int) (uu:Int) (Co:ar (Int×Int))=>some (Co,true)) (λ(Gb:Int) (EF:Int) (Ad:ar (Int×Int)) (Gt:Bool) (LQ:ar (Int×Int))=>some (Ad,Gt)) l d w ([]:ar (Int×Int)) false m) f ((a:Int),(r:Int),acc)
  =match nv l m d w n a r with|some q=>some (acc++q,true)|none=>some ([],false)
 |n,a,r,0,acc,_,hf,_,_=>by omega
 |0,a,r,f+1,acc,hr,hf,hA,ha=>by rw[aH];simp only[uQ];rw[fG];simp[nv]
 |n+1,a,r,f+1,acc,hr,hf,hA,ha=>by
  have h64:=(mem_iff.1 hm).2;rw[aH];simp only[uQ,nv];by_cases h0:r=0;rw[fG,aM h0];simp;have e2:tmod (a:Int) 128=((a%128:Nat):Int):=aeu a 128;have vG:=VW hl d ((a/128:Nat):Int) w;rw[gL,aK h0,ajr l d a w hL hl ha,ab,ny,e2,aj (n:=128-((a%128:Nat):Int)) (by omega) (by omega)];obtain⟨c,hc⟩:∃c,min (128-a%128) r=c:=⟨_,rfl⟩
  rw[hc,show(if 128-((a%128:Nat):Int)<(r:Int) then 128-((a%128:Nat):Int) else(r:Int))=(c:Int) by split<;>omega];generalize hP:zT l d ((a/128:Nat):Int) w=P at vG⊢;by_cases hP0:0<=P;have vG:=vG hP0;simp only[aM hP0,af];rw[aq (show¬P*128+((a%128:Nat):Int)<0 by omega),Mu m _ _ (by omega),abp hm hP0 (by omega) (by omega)];simp only[ae,ab];by_cases hP1:P<(m.length:Int);rw[ax hP1,aM ⟨hP0,hP1⟩];simp only[ai,ae];rw[aQ (by simp;omega),aj (n:=(a:Int)+(c:Int)) (by omega) (by omega),aj (n:=(r:Int)-(c:Int)) (by omega) (by omega),aq (show¬(a:Int)+(c:Int)<0 by omega)];simp only[ae,ab];have key:=Qm hl hL hm d w n (a+c) (r-c) f (acc++[(P*128+((a%128:Nat):Int),(c:Int))]) (by omega) (by omega) (by simp;omega) (by omega);rw[show((a+c:Nat):Int)=(a:Int)+(c:Int) by omega,show((r-c:Nat):Int)=(r:Int)-(c:Int) by omega]at key;rw[key];cases nv l m d w n (a+c) (r-c)with|none=>rfl|some q=>simp
  rw[aq hP1,ny];rfl;simp only[aK hP0,af];rw[ny,gL];rfl
theorem Q1 (hl:fO l=true)(hL:l.length<=10^9)(hm:iw m=true)(d:Int)(w:Bool):∀(n a r f:Nat)(acc:ar (Int×Int)),r<=n->n<f->acc.length+n<=1000000->a<=9223372036854775807->
 aH (mC (λ(uu:Int) (Co:Int) (Gb:cI) (EF:cI)=>some (Gb,EF,true)) (λ(Ad:Int) (Gt:Int) (LQ:cI) (ZE:cI) (y18:Bool) (y19:cI) (y20:cI)=>some (LQ,ZE,y18)) l d w ([]:cI) ([]:cI) false m) f ((a:Int),(r:Int),acc.map (·.1),acc.map (·.2))
  =match nv l m d w n a r with|some q=>some ((acc++q).map (·.1),(acc++q).map (·.2),true)|none=>some ([],[],false)
 |n,a,r,0,acc,_,hf,_,_=>by omega
 |0,a,r,f+1,acc,hr,hf,hA,ha=>by rw[aH];simp only[mC];rw[fG];simp[nv]
 |n+1,a,r,f+1,acc,hr,hf,hA,ha=>by
  have h64:=(mem_iff.1 hm).2;rw[aH];simp only[mC,nv];by_cases h0:r=0;rw[fG,aM h0];simp;have e1:tdiv (a:Int) 128=((a/128:Nat):Int):=aiw a 128;have e2:tmod (a:Int) 128=((a%128:Nat):Int):=aeu a 128;have vG:=VW hl d ((a/128:Nat):Int) w;rw[ax (show(r:Int)>0 by omega),ax (show(a:Int)>=0 by omega),aK h0];simp only[af];rw[ny,e1,e2,aj (n:=((a/128:Nat):Int)) (by omega) (by omega),anN l _ _ w hL,ab,ny,aj (n:=128-((a%128:Nat):Int)) (by omega) (by omega)];obtain⟨c,hc⟩:∃c,min (128-a%128) r=c:=⟨_,rfl⟩
  rw[hc,show(if 128-((a%128:Nat):Int)<(r:Int) then 128-((a%128:Nat):Int) else(r:Int))=(c:Int) by split<;>omega];generalize hP:zT l d ((a/128:Nat):Int) w=P at vG⊢;by_cases hP0:0<=P;have vG:=vG hP0;rw[aq (show¬P<0 by omega),aj (n:=P*128) (by omega) (by omega),MR m _ _ (by omega),aeL hm hP0];simp only[ae,ab];by_cases hP1:P<(m.length:Int);rw[ax hP1,aM ⟨hP0,hP1⟩];simp only[ai,ae];rw[aQ (by simp;omega),aQ (by simp;omega),aj (n:=P*128+((a%128:Nat):Int)) (by omega) (by omega),aj (n:=(a:Int)+(c:Int)) (by omega) (by omega),aj (n:=(r:Int)-(c:Int)) (by omega) (by omega)];have key:=Q1 hl hL hm d w n (a+c) (r-c) f (acc++[(P*128+((a%128:Nat):Int),(c:Int))]) (by omega) (by omega) (by simp;omega) (by omega);rw[show((a+c:Nat):Int)=(a:Int)+(c:Int) by omega,show((r-c:Nat):Int)=(r:Int)-(c:Int) by omega,eu,eu]at key;refine Eq.trans key ?_;cases nv l m d w n (a+c) (r-c)with|none=>rfl|some q=>simp
  rw[aq hP1,ny];rfl;rw[ny,gL];rfl
def ri (l:ar aC)(m:bp)(d a n:Int)(w:Bool):ar (Int×Int)×Bool:=
 bif fO l&&(iw m&&du n 0 4096) then
  (bif n==0 then([],true) else bif decide (a<0) then([],false) else match nv l m d w n.toNat a.toNat n.toNat with|some q=>(q,true)|none=>([],false))
 else([],false)
theorem acQ (l:ar aC)(m:bp)(d a n:Int)(w:Bool)(hl:l.length<=10^9)(hm:m.length<=10^9)(ha:a<=9223372036854775807):Ef l m d a n w=some (ri l m d a n w):=by
 have Ae:=da;unfold Ef ri;simp only[Qh l hl,O8 m hm,cr,ab];cases hB:fO l;rfl;cases hM:iw m;rfl;cases hN:du n 0 4096;rfl;have hn:=bq.1 hN;simp only[ai,ae,ab,cB,af];cases h0:n==0;case true=>rfl
 by_cases hA:a<0;rw[ax hA];rfl;rw[aq hA];simp only[ae];obtain⟨a,rfl⟩:=aD (show 0<=a by omega);obtain⟨n,rfl⟩:=aD hn.1;rw[Qm hB hl hM d w n a n fuel [] (by omega) (by omega) (by simp;omega) (by omega)];simp only[aw];cases nv l m d w n a n<;>rfl
theorem Zh (l:ar aC)(m:bp)(d a n:Int)(w:Bool)(hl:l.length<=10^9)(hm:m.length<=10^9)(ha:a<=9223372036854775807):yn l m d a n w=some ((ri l m d a n w).1.map (·.1),(ri l m d a n w).1.map (·.2),(ri l m d a n w).2):=by
 have Ae:=da;unfold yn ri;simp only[QX l hl,KM m hm,cm,ab];cases hB:fO l;rfl;cases hM:iw m;rfl;cases hN:du n 0 4096;rfl;have hn:=bq.1 hN;simp only[ai,ae,ab,cB,af];obtain⟨n,rfl⟩:=aD hn.1;cases h0:((n:Int)==0)with
 |true=>
  have:n=0:=by simpa using h0
  subst this;obtain⟨f,hf⟩:∃f,fuel=f+1:=⟨fuel-1,by omega⟩
  rw[hf,aH];rfl
 |false=>
  have hn0:n≠0:=by simpa using h0
  by_cases hA:a<0;obtain⟨f,hf⟩:∃f,fuel=f+1:=⟨fuel-1,by omega⟩
  rw[ax hA,hf,aH];simp only[mC];rw[gL,fG];rfl;rw[aq hA];simp only[ae];obtain⟨a,rfl⟩:=aD (show 0<=a by omega);refine Eq.trans (Q1 hB hl hM d w n a n fuel [] (by omega) (by omega) (by simp;omega) (by omega)) ?_;simp only[aw];cases nv l m d w n a n<;>rfl
def On (x:Bytes)(o:Nat)(t:Bytes):Bytes:=x.take o++(t++x.drop (o+t.length))
theorem aj9 (h:o+t.length<=x.length):(On x o t).length=x.length:=by grind[On]
theorem akc (x:Bytes)(o:Nat)(t:Bytes):aU (Jo (dc x) o (dc t))=On x o t:=by
 have e:Jo (dc x) o (dc t)=dc (On x o t):=by grind[Jo,On,dc,List.map_take,List.map_drop]
 rw[e,CB]
theorem ano (h:o+t.length<=x.length):xv x (o:Int) t=On x o t:=by grind[xv,fP,On]
def HC:Nat->bp->Nat->Bytes->bp
 |0,m,_,_=>m
 |n+1,m,a,s=>if s.length=0 then m else
  HC n (m.set (a/128) (On (m.getD (a/128) []) (a%128) (s.take (128-a%128)))) (a+min (128-a%128) s.length) (s.drop (128-a%128))
def Kx (m:bp):Prop:=(∀x∈m,x.length=128)/\m.length<=64
theorem Nw:iw m=true↔Kx m:=mem_iff
theorem Sc {p:Nat}(h:Kx m)(hx:x.length=128):Kx (m.set p x):=by refine⟨λy hy=>?_,by rw[aL];exact h.2⟩;rcases eR hy with g|g;exact h.1 y g;rw[g];exact hx
theorem Px (h:Kx m)(hs:s.length≠0)(ha:a+s.length<=128*m.length): ∃(hp:a/128<m.length),(m[a/128]'hp).length=128/\(On (m[a/128]'hp) (a%128) (s.take (128-a%128))).length=128:=by
 have hp:a/128<m.length:=by omega
 have hl:=h.1 _ (aE hp);grind[aj9]
theorem K4:∀(n:Nat){m:bp}{a:Nat}{s:Bytes},Kx m->a+s.length<=128*m.length->Kx (HC n m a s)/\(HC n m a s).length=m.length
 |0,m,a,s,h,_=>⟨h,rfl⟩
 |n+1,m,a,s,h,ha=>by rw[HC];split;exact⟨h,rfl⟩;rename_i hs;obtain⟨hp,hl,ho⟩:=Px h hs ha;rw[dx hp];have:=K4 n (m:=m.set (a/128) (On m[a/128] (a%128) (s.take (128-a%128)))) (a:=a+min (128-a%128) s.length) (s:=s.drop (128-a%128)) (Sc h ho) (by rw[aL,bl];omega);rw[aL]at this;exact this
theorem Oh (K:Int->Bytes->bp->au R)(K':bp->au R)(hK:∀a m,K a [] m=K' m):∀(n:Nat)(m:bp)(a:Nat)(s:Bytes)(f:Nat),s.length<=n->n<f->Kx m->a+s.length<=128*m.length->
 aH (pw K ([]:bp)) f ((a:Int),s,m)=K' (HC n m a s)
 |n,m,a,s,0,_,hf,_,_=>by omega
 |n,m,a,s,f+1,hs,hf,hm,ha=>by
  rw[aH];simp only[pw];by_cases h0:s.length=0;have:s=[]:=cQ h0;subst this;rw[aq (by simp),ae,hK];cases n<;>simp[HC];cases n with
  |zero=>omega
  |succ n=>
   obtain⟨hp,hl,ho⟩:=Px hm h0 ha;have h64:=hm.2;have e1:tdiv (a:Int) 128=((a/128:Nat):Int):=aiw a 128;have e2:tmod (a:Int) 128=((a%128:Nat):Int):=aeu a 128;rw[gL,af,ny,e1,e2,aj (n:=((a/128:Nat):Int)) (by omega) (by omega),aN hp,ab,aQ (by omega),ny];have ti:sub (dc m[a/128]) ((a%128:Nat):Int) ((dc m[a/128]).length:Int)=some ((dc m[a/128]).drop (a%128)):=by rw[Un _ _ _ (by rw[Qv];omega) (ba _),bN (by rw[bl];exact ba _)]
   rw[ti,ab,ny,ab,ab];have hd:((dc m[a/128]).drop (a%128)).length=128-a%128:=by rw[bl,Qv,hl]
   rw[hd];have hdr:s.drop (min (128-a%128) s.length)=s.drop (128-a%128):=by by_cases h3:128-a%128<=s.length;rw[hG h3];rw[jw (by omega),dk (ba _),dk (by omega)]
   have arT:sub s (((min (128-a%128) s.length:Nat)):Int) ((s.length:Int))=some (s.drop (128-a%128)):=by rw[<-hdr];unfold sub;rw[zip];simp
   rw[arT,ab,aj (n:=(a:Int)+((min (128-a%128) s.length:Nat):Int)) (by omega) (by omega),aw,aw,akc];rw[HC,aK h0,dx hp,show(a:Int)+((min (128-a%128) s.length:Nat):Int)=((a+min (128-a%128) s.length:Nat):Int) by omega];exact Oh K K' hK n _ _ _ f (by rw[bl];omega) (by omega) (Sc hm ho) (by rw[aL,bl];omega)
theorem OB (K:Int->Bytes->bp->au R)(K':bp->au R)(hK:∀a m,K a [] m=K' m):∀(n:Nat)(m:bp)(a:Nat)(s:Bytes)(f:Nat),s.length<=n->n<f->Kx m->a+s.length<=128*m.length->
 aH (pH K ([]:bp)) f ((a:Int),s,m)=K' (HC n m a s)
 |n,m,a,s,0,_,hf,_,_=>by omega
 |n,m,a,s,f+1,hs,hf,hm,ha=>by
  rw[aH];simp only[pH];by_cases h0:s.length=0;have:s=[]:=cQ h0;subst this;rw[aq (by simp),ae,hK];cases n<;>simp[HC];cases n with
  |zero=>omega
  |succ n=>
   obtain⟨hp,hl,ho⟩:=Px hm h0 ha;have h64:=hm.2;have e1:tdiv (a:Int) 128=((a/128:Nat):Int):=aiw a 128;have e2:tmod (a:Int) 128=((a%128:Nat):Int):=aeu a 128;rw[gL,af,ny,ny,ny,e1,e2,aj (n:=((a/128:Nat):Int)) (by omega) (by omega),aj (n:=128-((a%128:Nat):Int)) (by omega) (by omega),aN hp,ab];obtain⟨c,hc⟩:∃c,min (128-a%128) s.length=c:=⟨_,rfl⟩
   rw[show(if 128-((a%128:Nat):Int)<(s.length:Int) then 128-((a%128:Nat):Int) else(s.length:Int))=(c:Int) by split<;>omega];have ht:s.take c=s.take (128-a%128):=by by_cases h3:128-a%128<=s.length;rw[<-hc,hG h3];rw[<-hc,jw (by omega),bN (ba _),bN (by omega)]
   have hdr:s.drop c=s.drop (128-a%128):=by by_cases h3:128-a%128<=s.length;rw[<-hc,hG h3];rw[<-hc,jw (by omega),dk (ba _),dk (by omega)]
   have hs1:sub s 0 (c:Int)=some (s.take (128-a%128)):=by rw[<-ht];unfold sub;rw[zip];simp
   have hs2:sub s (c:Int) (s.length:Int)=some (s.drop (128-a%128)):=by rw[<-hdr];unfold sub;rw[zip];simp
   rw[hs1,ab,FQ _ _ _ (by omega),ab,ab,ab,hs2,ab,ano (by rw[bm,hl];omega),aj (n:=(a:Int)+(c:Int)) (by omega) (by omega),aw];rw[HC,aK h0,dx hp,hc,show(a:Int)+(c:Int)=((a+c:Nat):Int) by omega];exact OB K K' hK n _ _ _ f (by rw[bl];omega) (by omega) (Sc hm ho) (by rw[aL,bl];omega)
def Cn (m:bp)(a:Int)(s:Bytes):bp×Bool:=bif iz m a (s.length:Int) then(HC s.length m a.toNat s,true) else(m,false)
theorem afZ (m:bp)(a:Int)(s:Bytes)(h:m.length<=10^9)(hs:s.length<=10^9):wk m a s=some (Cn m a s):=by have Ae:=da;unfold wk Cn;rw[gx m,ab,Mu m _ _ h,ab];cases hw:iz m a (s.length:Int);rfl;simp only[iz,ah,bK]at hw;obtain⟨a,rfl⟩:=aD hw.2.2.1;simp only[ai,ae,af,aw];exact Oh _ (λm=>some (m,true)) (λ_ _=>rfl) s.length m a s fuel (ba _) (by omega) (Nw.1 hw.1) (by omega)
theorem ag3 (m:bp)(a:Int)(s:Bytes)(h:m.length<=10^9)(hs:s.length<=10^9):xd m a s=some (Cn m a s):=by have Ae:=da;unfold xd Cn;rw[iT m,ab,MR m _ _ h,ab];cases hw:iz m a (s.length:Int);rfl;simp only[iz,ah,bK]at hw;obtain⟨a,rfl⟩:=aD hw.2.2.1;simp only[ai,ae,af,aw];exact OB _ (λm=>some (m,true)) (λ_ _=>rfl) s.length m a s fuel (ba _) (by omega) (Nw.1 hw.1) (by omega)
theorem M4 (m:bp)(a:Int)(s:Bytes):(Cn m a s).1.length=m.length:=by grind[Cn,iz,K4,Nw]
def aaM:ar (Int×Int)->bp->Bytes->bp
 |[],m,_=>m
 |p::q,m,s=>aaM q (Cn m p.1 (s.take p.2.toNat)).1 (s.drop p.2.toNat)
theorem ady:∀(q:ar (Int×Int))(m:bp)(s:Bytes),(aaM q m s).length=m.length
 |[],m,s=>rfl
 |p::q,m,s=>by rw[aaM,ady q,M4]
def XF (q:ar (Int×Int)):Int:=(q.map (·.2)).sum
theorem ais:∀(q:ar (Int×Int)),(∀p∈q,0<=p.2)->0<=XF q
 |[],_=>Int.le_refl _
 |p::q,h=>by have:=ais q (λx hx=>h x (by simp[hx]));grind[XF]
theorem adC {p:Int×Int}{q:ar (Int×Int)}(hc:∀x∈p::q,0<=x.2)(hs:(s.length:Int)=XF (p::q)):0<=p.2/\p.2<=(s.length:Int)/\((s.drop p.2.toNat).length:Int)=XF q:=by have h1:=hc p (by simp);have h2:=ais q (λx hx=>hc x (by simp[hx]));grind[XF]
theorem Zs (h0:0<=c)(h1:c<=(s.length:Int)):sub s 0 c=some (s.take c.toNat):=by grind[sub]
theorem aej (h0:0<=c)(h1:c<=(s.length:Int)):sub s c (s.length:Int)=some (s.drop c.toNat):=by simp_all[sub]
theorem S1 (K:Bytes->Int->bp->au (bp×Bool))(hK:∀s i m,K s i m=some (m,true)):∀(rest pre:ar (Int×Int))(m:bp)(s:Bytes)(f:Nat),rest.length<f->pre.length+rest.length<=1000000->(∀x∈rest,0<=x.2)->(s.length:Int)=XF rest->m.length<=10^9->s.length<=1000000->
 aH (Ee K (pre++rest) ((pre++rest).length:Int) ([]:bp)) f (s,(pre.length:Int),m)=some (aaM rest m s,true)
 |rest,pre,m,s,0,hf,_,_,_,_,_=>by omega
 |[],pre,m,s,f+1,_,_,_,_,_,_=>by rw[aH];simp only[Ee];rw[aq (by simp),ae,hK];rfl
 |p::q,pre,m,s,f+1,hf,hn,hc,hs,hm,hl=>by
  obtain⟨h1,h2,h3⟩:=adC hc hs;simp only[bJ]at hf hn;have hi:pre.length<(pre++p::q).length:=by simp
  have hp:(pre++p::q)[pre.length]=p:=by simp
  rw[aH];simp only[Ee];rw[ax (by simp;omega),aN hi,hp,aj (by omega) (by omega)];simp only[af,ab,Zs h1 h2,aej h1 h2,afZ m _ _ hm (show(s.take p.2.toNat).length<=10^9 by rw[bm];omega)];have key:=S1 K hK q (pre++[p]) (Cn m p.1 (s.take p.2.toNat)).1 (s.drop p.2.toNat) f (by omega) (by simp;omega) (λx hx=>hc x (by simp[hx])) h3 (by rw[M4];exact hm) (by rw[bl];omega);grind[aaM]
theorem Th (K:Bytes->Int->bp->au (bp×Bool))(hK:∀s i m,K s i m=some (m,true)):∀(rest pre:ar (Int×Int))(m:bp)(s:Bytes)(f:Nat),rest.length<f->pre.length+rest.length<=1000000->(∀x∈rest,0<=x.2)->(s.length:Int)=XF rest->m.length<=10^9->s.length<=1000000->
 aH (qI K ((pre++rest).map (·.1)) ((pre++rest).map (·.2)) ([]:bp)) f (s,(pre.length:Int),m)=some (aaM rest m s,true)
 |rest,pre,m,s,0,hf,_,_,_,_,_=>by omega
 |[],pre,m,s,f+1,_,_,_,_,_,_=>by rw[aH];simp only[qI];rw[aq (by simp),ae,hK];rfl
 |p::q,pre,m,s,f+1,hf,hn,hc,hs,hm,hl=>by
  obtain⟨h1,h2,h3⟩:=adC hc hs;simp only[bJ]at hf hn;have hi:pre.length<(pre++p::q).length:=by simp
  have hp:(pre++p::q)[pre.length]=p:=by simp
  have i1:idx ((pre++p::q).map (·.1)) (pre.length:Int)=some p.1:=by grind[aN]
  have i2:idx ((pre++p::q).map (·.2)) (pre.length:Int)=some p.2:=by grind[aN]
  rw[aH];simp only[qI];rw[ax (by simp;omega),i1,i2,aj (by omega) (by omega)];simp only[af,ab,Zs h1 h2,aej h1 h2,ag3 m _ _ hm (show(s.take p.2.toNat).length<=10^9 by rw[bm];omega)];have key:=Th K hK q (pre++[p]) (Cn m p.1 (s.take p.2.toNat)).1 (s.drop p.2.toNat) f (by omega) (by simp;omega) (λx hx=>hc x (by simp[hx])) h3 (by rw[M4];exact hm) (by rw[bl];omega);grind[aaM]
theorem V0 (l:ar aC)(m:bp)(d:Int)(w:Bool):∀(n a r:Nat)(q:ar (Int×Int)),r<=n->nv l m d w n a r=some q->XF q=(r:Int)/\(∀p∈q,0<=p.2)/\q.length<=n
 |0,a,r,q,hr,h=>by simp only[nv,bf]at h;subst h;exact⟨by show(0:Int)=_;omega,by simp,by simp⟩
 |n+1,a,r,q,hr,h=>by simp only[nv]at h;split at h;simp only[bf]at h;subst h;exact⟨by show(0:Int)=_;omega,by simp,by simp⟩;split at h;simp only[Option.map_eq_some_iff]at h;obtain⟨q',h1,rfl⟩:=h;obtain⟨i1,i2,i3⟩:=V0 l m d w n _ _ q' (by omega) h1;refine⟨?_,?_,by simp only[bJ];omega⟩;simp only[XF,ew,List.sum_cons]at i1⊢;rw[i1];omega;intro p hp;rcases cq.1 hp with rfl|hp;show(0:Int)<=((min (128-a%128) r:Nat):Int);omega;exact i2 p hp;cases h
theorem Y8 (l:ar aC)(m:bp)(d a n:Int)(w:Bool)(h:(ri l m d a n w).2=true):XF (ri l m d a n w).1=n/\(∀p∈(ri l m d a n w).1,0<=p.2)/\(ri l m d a n w).1.length<=4096/\n<=4096:=by
 unfold ri at h⊢;cases hB:fO l&&(iw m&&du n 0 4096)with|false=>grind|true=>?_
 rw[hB]at h;simp only[ah,bq]at hB;simp only[af]at h⊢;cases h0:n==0 with
 |true=>
  have:n=0:=by simpa using h0
  subst this;exact⟨rfl,by simp,by simp,by omega⟩
 |false=>rw[h0]at h;simp only[ae]at h⊢;cases ha:decide (a<0)with|true=>grind|false=>rw[ha]at h;simp only[ae]at h⊢;cases hq:nv l m d w n.toNat a.toNat n.toNat with|none=>grind|some q=>obtain⟨i1,i2,i3⟩:=V0 l m d w _ _ _ q (ba _) hq;grind
def oQ (l:ar aC)(m:bp)(d a:Int)(s:Bytes)(w:Bool):bp×Bool:=
 bif (ri l m d a (s.length:Int) w).2 then(aaM (ri l m d a (s.length:Int) w).1 m s,true) else(m,false)
theorem mQ (l:ar aC)(m:bp)(d a:Int)(s:Bytes)(w:Bool):(oQ l m d a s w).1.length=m.length:=by grind[oQ,ady]
theorem acP (l:ar aC)(m:bp)(d a:Int)(s:Bytes)(w:Bool)(hl:l.length<=10^9)(hm:m.length<=10^9)(ha:a<=9223372036854775807):Mw l m d a s w=some (oQ l m d a s w):=by have Ae:=da;unfold Mw oQ;rw[gx m,ab,acQ l m d a _ w hl hm ha,ab];have hS:=Y8 l m d a (s.length:Int) w;generalize ri l m d a (s.length:Int) w=r at hS⊢;cases hr:r.2;rfl;obtain⟨h1,h2,h3,h4⟩:=hS hr;simp only[ai,ae,af];exact S1 _ (λ_ _ _=>rfl) r.1 [] m s fuel (by omega) (by simp;omega) h2 h1.symm hm (by omega)
theorem FP (l:ar aC)(m:bp)(d a:Int)(s:Bytes)(hl:l.length<=10^9)(hm:m.length<=10^9)(ha:a<=9223372036854775807):oT l m d a s=some (oQ l m d a s true):=by have Ae:=da;unfold oT oQ;rw[Zh l m d a _ true hl hm ha,ab,iT m,ab];have hS:=Y8 l m d a (s.length:Int) true;generalize ri l m d a (s.length:Int) true=r at hS⊢;cases hr:r.2;rfl;obtain⟨h1,h2,h3,h4⟩:=hS hr;simp only[ai,ae,af];exact Th _ (λ_ _ _=>rfl) r.1 [] m s fuel (by omega) (by simp;omega) h2 h1.symm hm (by omega)
theorem J2 (l:ar aC)(m:bp)(d a:Int)(s:Bytes)(hl:l.length<=10^9)(hm:m.length<=10^9)(ha:a<=9223372036854775807):sS l m d a s=some (oQ l m d a s true):=by simp_all[sS,acP]
def wrM (x:aC):aC:=(x.1,x.2.1,x.2.2.1,true)
theorem getD_map {i:Nat}(hi:i<l.length):(l.map wrM).getD i aay=wrM (l.getD i aay):=by grind
theorem aaz (l:ar aC):fO (l.map wrM)=fO l:=by
 unfold fO;rw[bW];congr 1;rw[dU,aP,aP];have key:∀i,i<l.length->aaw (l.map wrM) i=aaw l i:=by
  intro i hi;unfold aaw;rw[getD_map hi];congr 1;rw[dU,aP,aP];constructor;intro h j hj;have hjl:j<l.length:=by have:=bU.1 hj;omega
  have:=h j hj;rw[getD_map hjl]at this;exact this;intro h j hj;have hjl:j<l.length:=by have:=bU.1 hj;omega
  rw[getD_map hjl];exact h j hj
 constructor;intro h i hi;rw[<-key i (bU.1 hi)];exact h i hi;intro h i hi;rw[key i (bU.1 hi)];exact h i hi
theorem ani (l:ar aC)(d p:Int):zT (l.map wrM) d p true=zT l d p false:=by grind[zT,aax,wrM,zS,List.findIdx?_eq_some_iff_getElem]
theorem YU (l:ar aC)(m:bp)(d:Int):∀n a r,nv (l.map wrM) m d true n a r=nv l m d false n a r
 |0,a,r=>rfl
 |n+1,a,r=>by simp only[nv,ani,YU l m d n]
theorem apb (l:ar aC)(m:bp)(d a:Int)(s:Bytes):oQ (l.map wrM) m d a s true=oQ l m d a s false:=by
 have e:ri (l.map wrM) m d a (s.length:Int) true=ri l m d a (s.length:Int) false:=by simp only[ri,aaz,YU]
 simp only[oQ,e]
theorem OA (l:ar aC)(m:bp)(d a:Int)(s:Bytes)(hl:l.length<=10^9)(hm:m.length<=10^9)(ha:a<=9223372036854775807):vz l m d a s=some (oQ l m d a s false):=by unfold vz;refine bz (λi=>((l.take i).map wrM,(i:Int))) l.length (by omega) (λi nx hi=>?_) (λnx=>?_);simp only[ue];rw[gL,aN hi,aj (by omega) (by omega)];simp only[af,ab];rw[aQ (by simp;omega),aO hi,eu];rfl;simp only[ue];rw[fG,ae,bA,FP _ m d a s (by rw[bW];exact hl) hm ha,apb];rfl
theorem IB (l:ar aC)(m:bp)(d a:Int)(s:Bytes)(hl:l.length<=10^9)(hm:m.length<=10^9)(ha:a<=9223372036854775807:=by omega):kQ l m d a s=some (oQ l m d a s false):=by simp_all[kQ,acP]
def uD (d:IY):Bool:=du d.1 0 3&&(du d.2.1 0 3&&(du d.2.2.1 0 65535&&(du d.2.2.2.2.1 0 65535&&(du d.2.2.2.2.2 0 65535&&du d.2.2.2.1 0 4294967295))))
theorem acH (d:IY):Eb d=some (uD d):=by simp only[Eb,cr,ab,uD];cases du d.1 0 3<;>cases du d.2.1 0 3<;>cases du d.2.2.1 0 65535<;>cases du d.2.2.2.2.1 0 65535<;>cases du d.2.2.2.2.2 0 65535<;>rfl
theorem QT (d:IY):vx d=some (uD d):=by simp only[vx,cm,ab,uD];cases du d.1 0 3<;>cases du d.2.1 0 3<;>cases du d.2.2.1 0 65535<;>cases du d.2.2.2.2.1 0 65535<;>cases du d.2.2.2.2.2 0 65535<;>rfl
def Fl (d:IY):Bytes:=
 bif uD d then((((aU [gU d.1,gU d.2.1]++cw d.2.2.1)++gT d.2.2.2.1)++cw d.2.2.2.2.1)++cw d.2.2.2.2.2)++gT 0 else []
theorem aa3 (d:IY):nJ d=some (Fl d):=by have h1:=bQ d.2.2.1;have h2:=dD d.2.2.2.1;have h3:=bQ d.2.2.2.2.1;have h4:=bQ d.2.2.2.2.2;have h5:=dD 0;have h0:(aU [gU d.1,gU d.2.1]).length=2:=rfl;unfold nJ Fl;rw[QT,ab];cases uD d;all_goals simp(disch:=omega)[iU,lK,aQ]
theorem aam (d:IY):nD d=some (Fl d):=by have h1:=bQ d.2.2.1;have h2:=dD d.2.2.2.1;have h3:=bQ d.2.2.2.2.1;have h4:=bQ d.2.2.2.2.2;have h5:=dD 0;have h0:(aU [gU d.1,gU d.2.1]).length=2:=rfl;unfold nD Fl;rw[acH,ab];cases uD d;all_goals simp(disch:=omega)[mG,zu,aQ]
def Ao (r:kl):Int:=bif fT r then ak (r.2.1-dv r) else 0
def Fh (r:kl)(c:Int):Int:=bif !fT r||decide (c<0) then-1 else r.1+tmod c r.2.1*16
theorem tY (h:fT r=true):0<=r.1/\r.1<=130944/\(r.2.1=2\/r.2.1=4\/r.2.1=8\/r.2.1=16)/\0<=r.2.2.1/\r.2.2.1<=2*r.2.1-1/\0<=r.2.2.2/\r.2.2.2<=2*r.2.1-1:=by grind[fT,bq,oR]
theorem Jw (r:kl)(c:Int): -1<=Fh r c/\Fh r c<=200000:=by unfold Fh;cases hc: !fT r||decide (c<0)with|true=>grind|false=>simp only[dy,ef,cM]at hc;have h:=tY hc.1;grind
def dW (l:ar aC)(m:bp)(d:Int)(r:kl)(s:Bytes):bp×kl×Bool:=
 bif (Ao r==0)||((s.length:Int) !=16) then(m,r,false) else
 bif !(oQ l m d (Fh r r.2.2.2) s true).2 then(m,r,false) else
 ((oQ l m d (Fh r r.2.2.2) s true).1,(r.1,r.2.1,r.2.2.1,tmod (r.2.2.2+1) (2*r.2.1)),true)
theorem YW {a:Int}{w:Bool}(h:(oQ l m d a s w).2=false):(oQ l m d a s w).1=m:=by grind[oQ]
theorem ND (r:kl):tf r=some (Ao r):=by grind[tf,Ao,Ey,ab,Hw]
theorem Zk (r:kl)(c:Int):qV r c=some (Fh r c):=by
 have vG:=Jw r c;unfold qV;rw[Ey,ab];unfold Fh at vG⊢;cases hb:fT r;rfl;have h:=tY hb;by_cases hc:c<0;rw[ax hc];rfl;rw[hb,aq hc]at vG;rw[aq hc];have h2:0<=tmod c r.2.1/\tmod c r.2.1<r.2.1:=by rw[fu (by omega)];exact⟨Int.emod_nonneg _ (by omega),gG _ (by omega)⟩
 simp only[ai,ae,ab,bO]at vG⊢;rw[ny,aj (n:=16*tmod c r.2.1) (by omega) (by omega),aj (by omega) (by omega)];congr 1;omega
theorem Ti (l:ar aC)(m:bp)(d:Int)(r:kl)(s:Bytes)(hl:l.length<=10^9)(hm:m.length<=10^9):B8 l m d r s=some (dW l m d r s):=by
 have hA:=Jw r r.2.2.2;unfold B8 dW;simp only[ND,ab,Zk,FP l m d _ s hl hm (show Fh r r.2.2.2<=9223372036854775807 by omega),iT m (show m.length<=1073741824 by omega)];cases hf:Ao r==0;case true=>rfl
 cases (s.length:Int) !=16;case true=>rfl
 have hb:fT r=true:=by grind[Ao]
 have h:=tY hb;grind[ab,aj]
theorem Yw (r:kl):xJ r=some (Ao r):=by grind[xJ,Ao,Ea,ab,GO]
theorem YB (r:kl)(c:Int):qe r c=some (Fh r c):=by
 have vG:=Jw r c;unfold qe;rw[Ea,ab];unfold Fh at vG⊢;cases hb:fT r;rfl;have h:=tY hb;by_cases hc:c<0;rw[ax hc];rfl;rw[hb,aq hc]at vG;rw[aq hc];have h2:0<=tmod c r.2.1/\tmod c r.2.1<r.2.1:=by rw[fu (by omega)];exact⟨Int.emod_nonneg _ (by omega),gG _ (by omega)⟩
 simp only[ai,ae,ab,bO]at vG⊢;rw[ny,aj (n:=tmod c r.2.1*16) (by omega) (by omega),aj (by omega) (by omega)]
theorem S2 (l:ar aC)(m:bp)(d:Int)(r:kl)(s:Bytes)(hl:l.length<=10^9)(hm:m.length<=10^9):AK l m d r s=some (dW l m d r s):=by
 have hA:=Jw r r.2.2.2;unfold AK dW;simp only[Yw,ab,YB,J2 l m d _ s hl hm (show Fh r r.2.2.2<=9223372036854775807 by omega),gx m (show m.length<=1073741824 by omega)];cases hf:Ao r==0;case true=>rfl
 cases (s.length:Int) !=16;case true=>rfl
 have hb:fT r=true:=by grind[Ao]
 have h:=tY hb;grind[ab,YW,aj]
theorem Ii {p:cJ}(h:ga p=true):0<=p.1/\p.1<=130944/\1<=p.2.1/\p.2.1<=512/\0<=p.2.2.1/\p.2.2.1<=16:=by grind[ga,bq]
def nq (p:cJ)(i:Int):Int:=bif !ga p|| !du i 0 (p.2.2.1-1) then-1 else p.1+i*p.2.1
theorem ahx {p:cJ}{i:Int}(hp:ga p=true)(hi:du i 0 (p.2.2.1-1)=true):ak (p.1+ak (i*p.2.1))=p.1+i*p.2.1:=by have h:=Ii hp;have h2:=bq.1 hi;have h3:0<=i*p.2.1:=Int.mul_nonneg h2.1 (by omega);have h4:i*p.2.1<=16*512:=Int.mul_le_mul (by omega) (by omega) (by omega) (by omega);grind[aj]
theorem Wm (p:cJ)(i:Int)(h:p.2.2.2.length<=10^9):kg p i=some (nq p i):=by grind[kg,nq,yg,ab,ga,aj,cm,du,ahx]
theorem Qc (p:cJ)(i:Int)(h:p.2.2.2.length<=10^9):gk p i=some (nq p i):=by grind[gk,nq,Au,ab,ga,aj,cr,du,ahx]
def upto (n:Nat):cI:=(List.range n).map Int.ofNat
theorem ZA (n:Nat):upto (n+1)=upto n++[(n:Int)]:=by simp[upto,List.range_succ]
theorem aod {n i:Nat}(h:i<n):(upto n).getD i 0=(i:Int):=by grind[upto]
theorem agw (a b:Int)(n:Nat)(hn:n<=16):ga (a,b,(n:Int),upto n)=ga (a,b,(n:Int),[]):=by
 unfold ga;congr 3;have h1:(List.range (upto n).length).all (Md (n:Int) (upto n))=true:=by
  rw[aP];intro i hi;have hi:i<n:=by simpa[upto]using hi
  simp only[Md,aod hi,ah,bq,aW];refine⟨by omega,?_⟩;rw[Bool.eq_false_iff,ne_eq,List.contains_iff_mem];intro hm;simp only[upto,<-List.map_take,List.mem_map]at hm;grind
 rw[h1];rfl
def mP (a b n:Int):cJ×Bool:=bif ga (a,b,n,[]) then((a,b,n,upto n.toNat),true) else((0,0,0,[]),false)
theorem S0 (a b n:Int):AH a b n=some (mP a b n):=by
 unfold AH mP;rw[Au _ (by simp),ab];cases hp:ga (a,b,n,[]);rfl;have vG:=Ii hp;obtain⟨n,rfl⟩:=aD (show 0<=n from vG.2.2.2.2.1);have h16:n<=16:=by have:=vG.2.2.2.2.2;simp only at this;omega
 simp only[ai,ae,af,aw];refine bz (λi=>((i:Int),a,b,(n:Int),upto i)) n (by omega) (λi nx hi=>?_) (λnx=>?_);simp only[yx];rw[gL,aQ (by simp[upto];omega),aj (by omega) (by omega),ZA];rfl;simp only[yx];rw[fG];rfl
theorem Tg (a b n:Int):B6 a b n=some (mP a b n):=by
 have Ae:=da;unfold B6 mP;by_cases hn:0<=n/\n<=16;obtain⟨n,rfl⟩:=aD hn.1;have h16:n<=16:=by omega
 refine bz (λi=>((i:Int),a,b,(n:Int),upto i)) n (by omega) (λi nx hi=>?_) (λnx=>?_);simp only[sI];rw[ax (show(i:Int)<n by omega),ax (show(n:Int)<=16 by omega)];simp only[af,ab];rw[aQ (by simp[upto];omega),aj (by omega) (by omega),ZA];rfl;simp only[sI];rw[aq (show¬(n:Int)<n by omega)];simp only[ae,ab,yg (a,b,(n:Int),upto n) (show(upto n).length<=10^9 by simp[upto];omega),agw a b n h16,aw];cases ga (a,b,(n:Int),[])<;>rfl;have hb:ga (a,b,n,[])=false:=by cases hp:ga (a,b,n,[])with|false=>rfl|true=>have:=Ii hp;exact absurd ⟨this.2.2.2.2.1,this.2.2.2.2.2⟩ hn
 obtain⟨f,hf⟩:∃f,fuel=f+1:=⟨fuel-1,by omega⟩
 rw[hf,aH];simp only[sI];have hc:(cond (decide ((0:Int)<n)) (some (decide (n<=16))) (some false))=some false:=by by_cases h0:(0:Int)<n;rw[ax h0,fG];rfl;rw[aq h0];rfl
 rw[hc];simp only[ab,ae,yg (a,b,n,[]) (show([]:cI).length<=10^9 by simp),hb];rfl
def gA (p:cJ)(b:Int):Bytes:=Fl (3,0,p.2.1,nq p b,0,b)
def uE (l:ar aC)(d:Int)(p:cJ):cI->bp->kl->Nat×bp×kl
 |[],m,r=>(0,m,r)
 |b::q,m,r=>bif (dW l m d r (gA p b)).2.2 then
   ((uE l d p q (dW l m d r (gA p b)).1 (dW l m d r (gA p b)).2.1).1+1,(uE l d p q (dW l m d r (gA p b)).1 (dW l m d r (gA p b)).2.1).2)
  else(0,m,r)
theorem BP (l:ar aC)(m:bp)(d:Int)(r:kl)(s:Bytes):(dW l m d r s).1.length=m.length:=by grind[dW,mQ]
theorem RE (l:ar aC)(d:Int)(p:cJ):∀(q:cI)(m:bp)(r:kl),(uE l d p q m r).2.1.length=m.length/\(uE l d p q m r).1<=q.length
 |[],m,r=>⟨rfl,ba _⟩
 |b::q,m,r=>by rw[uE];cases (dW l m d r (gA p b)).2.2 with|false=>grind|true=>have:=RE l d p q (dW l m d r (gA p b)).1 (dW l m d r (gA p b)).2.1;grind[BP]
theorem acb (r:kl):0<=Ao r:=by unfold Ao;cases hb:fT r with|false=>exact Int.le_refl _|true=>have h:=tY hb;grind[fT,dv,aj]
theorem aaN (h:¬Ao r>0):dW l m d r s=(m,r,false):=by have h0:=acb r;grind[dW]
theorem Qe (K:Int->Int->kl->bp->au R)(K':Nat->kl->bp->au R)(hK:∀(c:Nat) i r m,K (c:Int) i r m=K' c r m)(l:ar aC)(d:Int)(p p2 p3:cJ)(hp:p.2.2.2.length<=10^9)(hl:l.length<=10^9):∀(rest pre:cI)(m:bp)(r:kl)(f:Nat),rest.length<f->pre.length+rest.length<=10^9->m.length<=10^9->
 aH (pX K l d (pre++rest) ((pre++rest).length:Int) p ([]:bp) (0,0,0,0) p2 p3) f ((pre.length:Int),(pre.length:Int),r,m)=K' (pre.length+(uE l d p rest m r).1) (uE l d p rest m r).2.2 (uE l d p rest m r).2.1
 |rest,pre,m,r,0,hf,_,_=>by omega
 |[],pre,m,r,f+1,_,_,_=>by rw[aH];simp only[pX];rw[aq (by simp),ae,hK];rfl
 |b::q,pre,m,r,f+1,hf,hn,hm=>by
  simp only[bJ]at hf hn;have hi:pre.length<(pre++b::q).length:=by simp
  have hb:(pre++b::q)[pre.length]=b:=by simp
  rw[aH];simp only[pX];rw[ax (by simp;omega),aN hi,hb];simp only[af,ab,Qc p b hp,aam,S2 l m d r _ hl hm];rw[show Fl (3,0,p.2.1,nq p b,0,b)=gA p b from rfl,uE];cases hq:(dW l m d r (gA p b)).2.2 with|false=>grind|true=>simp only[ai,ae,af];rw[aj (n:=(pre.length:Int)+1) (by omega) (by omega)];have key:=Qe K K' hK l d p p2 p3 hp hl q (pre++[b]) (dW l m d r (gA p b)).1 (dW l m d r (gA p b)).2.1 f (by omega) (by simp;omega) (by rw[BP];exact hm);grind
theorem QV (K:Int->kl->bp->cJ->au R)(l:ar aC)(d:Int)(p p2:cJ)(hp:p.2.2.2.length<=10^9)(hl:l.length<=10^9)(A B C:Int):∀(rest:cI)(c:Nat)(m:bp)(r:kl)(f:Nat),rest.length<f->c+rest.length<=10^9->m.length<=10^9->
 aH (qL K l d p ([]:bp) (0,0,0,0) p2) f ((c:Int),r,m,A,B,C,rest)=K ((c+(uE l d p rest m r).1:Nat):Int) (uE l d p rest m r).2.2 (uE l d p rest m r).2.1 (A,B,C,rest.drop (uE l d p rest m r).1)
 |rest,c,m,r,0,hf,_,_=>by omega
 |[],c,m,r,f+1,_,_,_=>by
  rw[aH];simp only[qL,ND,ab];have hc:(cond (decide (Ao r>0)) (some (decide ((([]:cI).length:Int)>0))) (some false))=some false:=by cases decide (Ao r>0)<;>rfl
  rw[hc];rfl
 |b::q,c,m,r,f+1,hf,hn,hm=>by
  simp only[bJ]at hf hn;rw[aH];simp only[qL,ND,ab];by_cases hr:Ao r>0;rw[ax hr,ax (show(((b::q).length:Nat):Int)>0 by simp)];have hi:idx (b::q) 0=some b:=rfl;have hs:sub (b::q) 1 ((b::q).length:Int)=some q:=by unfold sub;rw[aM (by simp;omega)];simp
  simp only[af,ab,hi,Wm p b hp,aa3,Ti l m d r _ hl hm];rw[show Fl (3,0,p.2.1,nq p b,0,b)=gA p b from rfl,uE];cases hq:(dW l m d r (gA p b)).2.2 with|false=>rfl|true=>simp only[ai,ae,af,hs,ab];rw[fb (by omega),aj (n:=(c:Int)+1) (by omega) (by omega),bH];have key:=QV K l d p p2 hp hl A B C q (c+1) (dW l m d r (gA p b)).1 (dW l m d r (gA p b)).2.1 f (by omega) (by omega) (by rw[BP];exact hm);rw[show((c+1:Nat):Int)=(c:Int)+1 by omega]at key;refine Eq.trans key ?_;rw[show c+1+(uE l d p q (dW l m d r (gA p b)).1 (dW l m d r (gA p b)).2.1).1=c+((uE l d p q (dW l m d r (gA p b)).1 (dW l m d r (gA p b)).2.1).1+1) by omega];rfl
  rw[aq hr,uE,aaN hr];rfl
def GF (l:ar aC)(m:bp)(d:Int)(r:kl)(p:cJ):bp×kl×cJ×Int:=
 bif !fT r|| !ga p then(m,r,p,0) else
 ((uE l d p p.2.2.2 m r).2.1,(uE l d p p.2.2.2 m r).2.2,(p.1,p.2.1,p.2.2.1,p.2.2.2.drop (uE l d p p.2.2.2 m r).1),((uE l d p p.2.2.2 m r).1:Int))
theorem acK (l:ar aC)(m:bp)(d:Int)(r:kl)(p:cJ)(hl:l.length<=10^9)(hm:m.length<=10^9)(hp:p.2.2.2.length<=10^9):kt l m d r p=some (GF l m d r p):=by have Ae:=da;unfold kt GF;simp only[gx m (show m.length<=1073741824 by omega),zE p hp,Ea,Au p hp,ab];cases fT r;rfl;cases ga p;rfl;simp only[ai,ae,ab,bO];have hlen:=(RE l d p p.2.2.2 m r).2;refine(Qe _ (λc r m=>aa (sub p.2.2.2 (c:Int) (p.2.2.2.length:Int)) λLP=>aa (gh LP) λzU=>some (m,r,(p.1,p.2.1,p.2.2.1,zU),(c:Int))) (λ_ _ _ _=>rfl) l d p _ p hp hl p.2.2.2 [] m r fuel (by omega) (by simp;omega) hm).trans ?_;grind[Un,ab,nP]
theorem ad0 (l:ar aC)(m:bp)(d:Int)(r:kl)(p:cJ)(hl:l.length<=10^9)(hm:m.length<=10^9)(hp:p.2.2.2.length<=10^9):yi l m d r p=some (GF l m d r p):=by have Ae:=da;unfold yi GF;simp only[iT m (show m.length<=1073741824 by omega),CO p hp,Ey,yg p hp,ab];cases fT r;rfl;cases ga p;rfl;simp only[ai,ae,ab,bO];refine(QV _ l d p _ hp hl p.1 p.2.1 p.2.2.1 p.2.2.2 0 m r fuel (by omega) (by omega) hm).trans ?_;rw[cv]
def mw (p:cJ)(n:Int):cJ×cI×Bool:=bif ga p&&du n 0 (p.2.2.2.length:Int) then((p.1,p.2.1,p.2.2.1,p.2.2.2.drop n.toNat),p.2.2.2.take n.toNat,true) else(p,[],false)
theorem akJ (p:cJ)(n:Int)(h:p.2.2.2.length<=10^9):xa p n=some (mw p n):=by unfold xa mw;rw[CO p h,ab,yg p h,ab,cm];grind[bq,ab,D4,aQ,Jz]
theorem ajC (p:cJ)(n:Int)(h:p.2.2.2.length<=10^9):wh p n=some (mw p n):=by unfold wh mw;rw[zE p h,ab,Au p h,ab,cr];cases ga p;rfl;cases hi:du n 0 (p.2.2.2.length:Int);rfl;have hn:=bq.1 hi;obtain⟨n,rfl⟩:=aD hn.1;simp only[ai,ae,ab,cB,af,aw];grind[ab,nP,sub]
theorem D9:∀l:ar ie,(∀x∈l,0<=x.2.1/\x.2.1<=16)->0<=eK l/\eK l<=16*(l.length:Int)
 |[],_=>by simp[eK]
 |y::l,h=>by have h1:=D9 l (λx hx=>h x (dK _ hx));grind[eK]
theorem UP (l:ar ie)(i:Nat)(hi:i<l.length):eK (l.take (i+1))=eK (l.take i)+l[i].2.1:=by grind[aO,eK]
theorem akD (t:bX)(h:t.2.2.1.length<=1000000)(hs:∀x∈t.2.2.1,0<=x.2.1/\x.2.1<=16):D0 t=some (eK t.2.2.1):=by
 have Ae:=da;unfold D0;refine bz (λi=>(eK (t.2.2.1.take i),(i:Int))) t.2.2.1.length (by omega) (λi nx hi=>?_) (λnx=>?_);have hb:=D9 (t.2.2.1.take i) (λx hx=>hs x (List.mem_of_mem_take hx));have hc:=hs _ (aE hi);have hl:(t.2.2.1.take i).length<=1000000:=by rw[bm];omega
 rw[UP _ _ hi];simp only[xf];rw[gL,af,aN hi,ab,aj (n:=(i:Int)+1) (by omega) (by omega),aj (by omega) (by omega)];rfl;simp only[xf];rw[fG,ae,bA]
theorem ajw (t:bX)(h:t.2.2.1.length<=1000000)(hs:∀x∈t.2.2.1,0<=x.2.1/\x.2.1<=16):tQ t=some (eK t.2.2.1):=by
 have Ae:=da;unfold tQ;refine bz (λi=>(eK (t.2.2.1.take i),(i:Int))) t.2.2.1.length (by omega) (λi nx hi=>?_) (λnx=>?_);have hb:=D9 (t.2.2.1.take i) (λx hx=>hs x (List.mem_of_mem_take hx));have hc:=hs _ (aE hi);have hl:(t.2.2.1.take i).length<=1000000:=by rw[bm];omega
 rw[UP _ _ hi];simp only[od];rw[gL,af,aN hi,ab,aj (n:=(i:Int)+1) (by omega) (by omega),aj (by omega) (by omega)];rfl;simp only[od];rw[fG,ae,bA]
def FN (l:ar aC)(d:Int):bp->bp->kl->au (bp×kl)
 |[],m,r=>some (m,r)
 |s::q,m,r=>bif (dW l m d r s).2.2 then FN l d q (dW l m d r s).1 (dW l m d r s).2.1 else none
def ane (m:bp)(r:kl):au (bp×kl)->bp×kl×Bool
 |some x=>(x.1,x.2,true)
 |none=>(m,r,false)
def BO (l:ar aC)(m:bp)(d:Int)(r:kl)(q:bp):bp×kl×Bool:=ane m r (FN l d q m r)
theorem Mr (l:ar aC)(d:Int)(M:bp)(A B2:kl)(B1:bp)(hl:l.length<=10^9)(hM:M.length<=10^9):∀(rest pre:bp)(m:bp)(r:kl)(f:Nat),rest.length<f->(pre++rest).length<=10^9->m.length<=10^9->
 aH (mK (λ_ y6 y7=>some (y6,y7,true)) (λy8 _ uu Co _ _=>some (uu,Co,y8)) l d false (pre++rest) ((pre++rest).length:Int) M A B1 B2) f ((pre.length:Int),m,r)=some (ane M A (FN l d rest m r))
 |rest,pre,m,r,0,hf,_,_=>by omega
 |[],pre,m,r,f+1,_,_,_=>by rw[aH];simp only[mK];rw[aq (by simp),ae];rfl
 |s::q,pre,m,r,f+1,hf,hn,hm=>by
  simp only[bJ,ay]at hf hn;have hi:pre.length<(pre++s::q).length:=by simp
  have hb:(pre++s::q)[pre.length]=s:=by simp
  rw[aH];simp only[mK];rw[ax (by simp;omega),aN hi,hb];simp only[af,ab,S2 l m d r _ hl hm];rw[FN];cases hq:(dW l m d r s).2.2 with|false=>simp only[bB,af,ae,gx M,ab];rfl|true=>simp only[ai,ae,af];rw[aj (n:=(pre.length:Int)+1) (by omega) (by omega)];have key:=Mr l d M A B2 B1 hl hM q (pre++[s]) (dW l m d r s).1 (dW l m d r s).2.1 f (by omega) (by simp;omega) (by rw[BP];exact hm);grind
theorem MO (l:ar aC)(d:Int)(M:bp)(A B2:kl)(B1:bp)(hl:l.length<=10^9)(hM:M.length<=10^9):∀(rest pre:bp)(m:bp)(r:kl)(f:Nat),rest.length<f->(pre++rest).length<=10^9->m.length<=10^9->
 aH (mS (λ_ y6 y7=>some (y6,y7,true)) (λy8 _ uu Co _ _=>some (uu,Co,y8)) l d (pre++rest) false M A B1 B2) f ((pre.length:Int),m,r)=some (ane M A (FN l d rest m r))
 |rest,pre,m,r,0,hf,_,_=>by omega
 |[],pre,m,r,f+1,_,_,_=>by rw[aH];simp only[mS];rw[aq (by simp),ae];rfl
 |s::q,pre,m,r,f+1,hf,hn,hm=>by
  simp only[bJ,ay]at hf hn;have hi:pre.length<(pre++s::q).length:=by simp
  have hb:(pre++s::q)[pre.length]=s:=by simp
  rw[aH];simp only[mS];rw[ax (by simp;omega),aN hi,hb];simp only[af,ab,Ti l m d r _ hl hm];rw[FN];cases hq:(dW l m d r s).2.2 with|false=>simp only[bB,af,ae,iT M,ab];rfl|true=>simp only[ai,ae,af];rw[aj (n:=(pre.length:Int)+1) (by omega) (by omega)];have key:=MO l d M A B2 B1 hl hM q (pre++[s]) (dW l m d r s).1 (dW l m d r s).2.1 f (by omega) (by simp;omega) (by rw[BP];exact hm);grind
theorem afS (l:ar aC)(m:bp)(d:Int)(r:kl)(q:bp)(hl:l.length<=10^9)(hm:m.length<=10^9)(hq:q.length<=10^9):lB l m d r q=some (BO l m d r q):=by have Ae:=da;unfold lB BO;rw[gx m,ab];exact Mr l d m r _ _ hl hm q [] m r fuel (by omega) (by simpa using hq) hm
theorem agU (l:ar aC)(m:bp)(d:Int)(r:kl)(q:bp)(hl:l.length<=10^9)(hm:m.length<=10^9)(hq:q.length<=10^9):yP l m d r q=some (BO l m d r q):=by have Ae:=da;unfold yP BO;rw[iT m,ab];exact MO l d m r _ _ hl hm q [] m r fuel (by omega) (by simpa using hq) hm
theorem VZ (l:ar aC)(m:bp)(d:Int)(w:Bool):∀(n a r:Nat)(q:ar (Int×Int)),nv l m d w n a r=some q->q.length<=n
 |0,a,r,q,h=>by simp only[nv,bf]at h;subst h;simp
 |n+1,a,r,q,h=>by simp only[nv]at h;split at h;simp only[bf]at h;subst h;simp;split at h;simp only[Option.map_eq_some_iff]at h;obtain⟨q',h1,rfl⟩:=h;have:=VZ l m d w n _ _ q' h1;simp only[bJ];omega;cases h
theorem Nz (l:ar aC)(m:bp)(d a n:Int)(w:Bool):(ri l m d a n w).1.length<=4096:=by
 unfold ri;cases hB:fO l&&(iw m&&du n 0 4096);simp;simp only[ah,bq]at hB;simp only[af];cases n==0;case true=>simp
 cases decide (a<0);case true=>simp
 simp only[ae];split;rename_i q hq;have:=VZ _ _ _ _ _ _ _ _ hq;show q.length<=4096;omega;simp
def sY (m:bp)(p:Int×Int):Bytes:=bif iz m p.1 p.2 then Fg m p.1.toNat p.2.toNat else []
theorem IK (m:bp)(p:Int×Int):(sY m p).length<=8192:=by grind[sY,iz,ant,mem_iff]
theorem vt (m:bp):∀q:ar (Int×Int),(q.flatMap (sY m)).length<=8192*q.length
 |[]=>by simp
 |p::q=>by have:=vt m q;grind[IK]
def uv (l:ar aC)(m:bp)(d a n:Int):Bytes×Bool:=
 bif (ri l m d a n false).2 then((ri l m d a n false).1.flatMap (sY m),true) else([],false)
theorem PX {β:Type}(g:α->ar β)(l:ar α)(i:Nat)(hi:i<l.length):(l.take (i+1)).flatMap g=(l.take i).flatMap g++g l[i]:=by grind[aO]
theorem HU (l:ar aC)(m:bp)(d a n:Int)(hl:l.length<=10^9)(hm:m.length<=10^9)(ha:a<=9223372036854775807):rm l m d a n=some (uv l m d a n):=by
 unfold rm uv;rw[acQ l m d a n false hl hm ha,ab];have hL:=Nz l m d a n false;generalize ri l m d a n false=r at hL⊢;cases hr:r.2;rfl;simp only[ai,ae,af];refine(bz (λi=>((r.1.take i).flatMap (sY m),(i:Int))) r.1.length (by omega) (λi nx hi=>?_) (λnx=>?_));simp only[yv];rw[gL,aN hi,aj (by omega) (by omega)];have e:sv m r.1[i].1 r.1[i].2=some (sY m r.1[i],iz m r.1[i].1 r.1[i].2):=by rw[amH m _ _ hm,sY];cases iz m r.1[i].1 r.1[i].2<;>rfl
 have h1:=vt m (r.1.take i);have h2:=IK m r.1[i];simp only[af,ab,e];rw[aQ (by rw[bm]at h1;omega),<-PX];rfl;simp only[yv];rw[fG,bA];rfl
theorem Iq (l:ar aC)(m:bp)(d a n:Int)(hl:l.length<=10^9)(hm:m.length<=10^9)(ha:a<=9223372036854775807):rM l m d a n=some (uv l m d a n):=by
 unfold rM uv;rw[Zh l m d a n false hl hm ha,ab];have hL:=Nz l m d a n false;generalize ri l m d a n false=r at hL⊢;cases hr:r.2;rfl;simp only[ai,ae,af];refine(bz (λi=>((r.1.take i).flatMap (sY m),(i:Int))) r.1.length (by omega) (λi nx hi=>?_) (λnx=>?_));simp only[yL];have i1:idx (r.1.map (·.1)) (i:Int)=some r.1[i].1:=by rw[aN (by simpa using hi),List.getElem_map]
 have i2:idx (r.1.map (·.2)) (i:Int)=some r.1[i].2:=by rw[aN (by simpa using hi),List.getElem_map]
 rw[ax (by rw[bW];omega),i1,i2,aj (by omega) (by omega)];have e:sK m r.1[i].1 r.1[i].2=some (sY m r.1[i],iz m r.1[i].1 r.1[i].2):=by rw[anQ m _ _ hm,sY];cases iz m r.1[i].1 r.1[i].2<;>rfl
 have h1:=vt m (r.1.take i);have h2:=IK m r.1[i];simp only[af,ab,e];rw[aQ (by rw[bm]at h1;omega),<-PX];rfl;simp only[yL];rw[aq (by rw[bW];omega),bA];rfl
theorem L5 (l:ar aC)(m:bp)(d a n:Int):(uv l m d a n).1.length<=100000000:=by have hL:=Nz l m d a n false;have h1:=vt m (ri l m d a n false).1;grind[uv]
def Al (s:Bytes):K5×Int×Bool:=
 bif ((s.length:Int) !=16)||decide (ec s 12>1) then((0,0,0,0,0),0,false) else((cO s 0,cO s 2,cO s 4,cO s 6,ec s 8),ec s 12,true)
theorem afJ (s:Bytes)(h:s.length<=10^9):mX s=some (Al s):=by
 unfold mX Al;cases (s.length:Int) !=16;case true=>rfl
 simp only[CI s _ h,CJ s _ h,ab,ae,cC];grind
theorem agM (s:Bytes)(h:s.length<=10^9):nf s=some (Al s):=by
 unfold nf Al;cases (s.length:Int) !=16;case true=>rfl
 simp only[wI s _ h,CW s _ h,ab,ae,cC];grind
def II (q:Cx):Int:=bif decide (q.2.2<q.2.1) then 1 else 0
theorem Yy (q:Cx):AZ q=some (II q):=by grind[AZ,II]
theorem ou {q:Cx}(h:iG q=true):0<=q.1/\q.1<=130944/\(q.2.1=2\/q.2.1=4\/q.2.1=8\/q.2.1=16)/\0<=q.2.2/\q.2.2<=2*q.2.1-1:=by grind[iG,bq,NB,oR]
theorem Zi (q:Cx)(h:iG q=true):yo q=some (II q):=by
 obtain⟨_,_,h3,h4,h5⟩:=ou h;have e:tdiv q.2.2 q.2.1=if q.2.2<q.2.1 then 0 else 1:=by grind
 unfold yo II;rw[ny,e];by_cases hq:q.2.2<q.2.1;rw[aM hq,ax hq];rfl;rw[aK hq,aq hq];rfl
def ow (q:Cx):Int:=q.1+tmod q.2.2 q.2.1*16
theorem Uk {q:Cx}(h:iG q=true):0<=tmod q.2.2 q.2.1/\tmod q.2.2 q.2.1<16:=by obtain⟨_,_,h3,h4,h5⟩:=ou h;grind
theorem YC (q:Cx)(h:iG q=true):qj q=some (ow q):=by obtain⟨h1,h2,h3,h4,h5⟩:=ou h;grind[qj,ow,aj]
def ar1 (q:Cx):Cx:=(q.1,q.2.1,tmod (q.2.2+1) (2*q.2.1))
def aaF (l:ar aC)(m:bp)(d:Int)(q:Cx):Bool:=
 iG q&&((uv l m d (ow q) 16).2&&((Al (uv l m d (ow q) 16).1).2.2&&((Al (uv l m d (ow q) 16).1).2.1==II q)))
def xZ (l:ar aC)(m:bp)(d:Int)(q:Cx):K5×Cx×Bool:=
 bif aaF l m d q then((Al (uv l m d (ow q) 16).1).1,ar1 q,true) else((0,0,0,0,0),q,false)
theorem amE (l:ar aC)(m:bp)(d:Int)(q:Cx)(hl:l.length<=10^9)(hm:m.length<=10^9):po l m d q=some (xZ l m d q):=by unfold po xZ aaF;rw[RP q,ab];cases hq:iG q;rfl;obtain⟨h1,h2,h3,h4,h5⟩:=ou hq;have hs:=Uk hq;have hd:=L5 l m d (ow q) 16;simp only[ai,ae,YC q hq,ab,HU l m d (ow q) 16 hl hm (by unfold ow;omega),bj];cases (uv l m d (ow q) 16).2;rfl;simp only[ai,ae,afJ _ (aF hd (by omega)),ab,bj];cases (Al (uv l m d (ow q) 16).1).2.2;rfl;simp only[ai,ae,Yy,ab,bj,bne];cases (Al (uv l m d (ow q) 16).1).2.1==II q;rfl;simp only[ai,ae,af];rw[aj (n:=2*q.2.1) (by omega) (by omega),ny,aj (n:=q.2.2+1) (by omega) (by omega)];rfl
theorem anM (l:ar aC)(m:bp)(d:Int)(q:Cx)(hl:l.length<=10^9)(hm:m.length<=10^9):pF l m d q=some (xZ l m d q):=by
 unfold pF xZ aaF;rw[Su q,ab];cases hq:iG q;rfl;obtain⟨h1,h2,h3,h4,h5⟩:=ou hq;have hs:=Uk hq;have hd:=L5 l m d (ow q) 16;have es:ak (q.1+ak (16*tmod q.2.2 q.2.1))=ow q:=by grind[aj,ow]
 simp only[ai,ae];rw[ny,es];simp only[Iq l m d (ow q) 16 hl hm (by unfold ow;omega),ab,bj,agM _ (aF hd (by omega)),Zi q hq,bne];cases (uv l m d (ow q) 16).2;rfl;cases (Al (uv l m d (ow q) 16).1).2.2;rfl;cases (Al (uv l m d (ow q) 16).1).2.1==II q;rfl;simp only[ai,ae,af,ab,bj];rw[aj (n:=2*q.2.1) (by omega) (by omega),ny,aj (n:=q.2.2+1) (by omega) (by omega)];rfl
theorem ahy (p:cJ)(i:Int):nq p i= -1\/(0<=nq p i/\nq p i<=200000):=by unfold nq;cases hp:ga p;exact .inl rfl;cases hi:du i 0 (p.2.2.1-1);exact .inl rfl;have h:=Ii hp;have h2:=bq.1 hi;have h3:0<=i*p.2.1:=Int.mul_nonneg h2.1 (by omega);have h4:i*p.2.1<=16*512:=Int.mul_le_mul (by omega) (by omega) (by omega) (by omega);grind
def ai6 (l:ar aC)(m:bp)(d a n:Int):Bool:=(uv l m d a n).2&&((zW (uv l m d a n).1).2==0)
theorem aoL {n:Int}:ai6 l m d (-1) n=false:=by unfold ai6 uv ri;cases fO l&&(iw m&&du n 0 4096);rfl;simp only[af];cases n==0 with|true=>rfl|false=>rfl
def Jq (l:ar aC)(m:bp)(d:Int)(s:ar Stream×bk×cJ):ar Stream×bk×cJ:=
 ((bif ai6 l m d (nq s.2.2 (xZ l m d s.2.1.2.2.1).1.1) (xZ l m d s.2.1.2.2.1).1.2.1 then Gx s.1 (zW (uv l m d (nq s.2.2 (xZ l m d s.2.1.2.2.1).1.1) (xZ l m d s.2.1.2.2.1).1.2.1).1).1 else s.1),
   (s.2.1.1,s.2.1.2.1,(xZ l m d s.2.1.2.2.1).2.1,s.2.1.2.2.2),(Vi s.2.2 [(xZ l m d s.2.1.2.2.1).1.1]).1)
def jH (l:ar aC)(m:bp)(d:Int):Nat->ar Stream×bk×cJ->Nat×(ar Stream×bk×cJ)
 |0,s=>(0,s)
 |k+1,s=>bif !(xZ l m d s.2.1.2.2.1).2.2 then(0,s) else((jH l m d k (Jq l m d s)).1+1,(jH l m d k (Jq l m d s)).2)
structure LY (n:Nat) (s:List Stream×bk×cJ):Prop where
 st:bt n (.sl eD) s.1
 pl:s.2.2.2.2.2.length<=n
theorem acg (p:cJ)(l:cI):(Vi p l).1.2.2.2.length<=p.2.2.2.length+l.length:=by grind[Vi,Uf]
theorem MG {s:ar Stream×bk×cJ}{n:Nat}(h:LY n s):LY (n+322) (Jq l m d s):=by
 refine⟨?_,?_⟩;unfold Jq;cases ai6 l m d (nq s.2.2 (xZ l m d s.2.1.2.2.1).1.1) (xZ l m d s.2.1.2.2.1).1.2.1 with|false=>exact h.st.mono|true=>exact ZZ h.st
 have:=acg s.2.2 [(xZ l m d s.2.1.2.2.1).1.1];have h2:=h.pl;show(Vi s.2.2 [(xZ l m d s.2.1.2.2.1).1.1]).1.2.2.2.length<=_;simp only[aS]at this;omega
theorem Qj (K:ar Stream->Int->bk->cJ->au R)(l:ar aC)(m:bp)(d:Int)(N:Nat)(hN:N<=1000)(B1:bp)(B2:bk)(B3:cJ)(hl:l.length<=10^9)(hm:m.length<=10^9):∀(k i:Nat)(s:ar Stream×bk×cJ)(f:Nat),i+k=N->k<f->LY (500000000+322*i) s->
 aH (nY K l d (N:Int) B1 B2 B3 m) f (s.1,(i:Int),s.2.1,s.2.2)=K (jH l m d k s).2.1 ((i+(jH l m d k s).1:Nat):Int) (jH l m d k s).2.2.1 (jH l m d k s).2.2.2
 |k,i,s,0,_,hf,_=>by omega
 |0,i,s,f+1,hi,hf,z=>by rw[aH];simp only[nY];rw[fG,ae];rfl
 |k+1,i,s,f+1,hi,hf,z=>by have nm:bt 900000000 (.sl eD) s.1:=z.st.mono;have HF:s.2.2.2.2.2.length<=900000000:=aF z.pl (by omega);rw[aH];simp only[nY];rw[gL];simp only[af,amE l m d _ hl hm,ab,jH];cases hnx:(xZ l m d s.2.1.2.2.1).2.2 with|false=>rfl|true=>have key:=Qj K l m d N hN B1 B2 B3 hl hm k (i+1) (Jq l m d s) f (by omega) (by omega) ((MG z).st.mono|>λa=>⟨a,aF (MG z).pl (by omega)⟩);rw[show i+1+(jH l m d k (Jq l m d s)).1=i+((jH l m d k (Jq l m d s)).1+1) by omega]at key;simp only[ai,ae];rw[<-key];unfold Jq;generalize xZ l m d s.2.1.2.2.1=c;have ha:=ahy s.2.2 c.1.1;have hd:=L5 l m d (nq s.2.2 c.1.1) c.1.2.1;simp only[Qc _ _ (show s.2.2.2.2.2.length<=10^9 by omega),HU l m d _ c.1.2.1 hl hm (show nq s.2.2 c.1.1<=9223372036854775807 by omega),ab,Nr _ (aF hd (by omega)),aak _ _ nm,VA s.2.2 [c.1.1] (show s.2.2.2.2.2.length+1<=10^9 by omega)];rw[aj (n:=(i:Int)+1) (by omega) (by omega),show((i+1:Nat):Int)=(i:Int)+1 by omega];grind[ai6]
theorem QY (K:ar Stream->Int->bk->cJ->au R)(l:ar aC)(m:bp)(d:Int)(N:Nat)(hN:N<=1000)(B1:bp)(B2:bk)(B3:cJ)(hl:l.length<=10^9)(hm:m.length<=10^9):∀(k i:Nat)(s:ar Stream×bk×cJ)(f:Nat),i+k=N->k<f->LY (500000000+322*i) s->
 aH (oE K l d (N:Int) m B1 B2 B3) f (s.1,(i:Int),s.2.1,s.2.2)=K (jH l m d k s).2.1 ((i+(jH l m d k s).1:Nat):Int) (jH l m d k s).2.2.1 (jH l m d k s).2.2.2
 |k,i,s,0,_,hf,_=>by omega
 |0,i,s,f+1,hi,hf,z=>by rw[aH];simp only[oE];rw[fG,ae];rfl
 |k+1,i,s,f+1,hi,hf,z=>by have nm:bt 900000000 (.sl eD) s.1:=z.st.mono;have HF:s.2.2.2.2.2.length<=900000000:=aF z.pl (by omega);rw[aH];simp only[oE];rw[gL];simp only[af,anM l m d _ hl hm,ab,jH];cases hnx:(xZ l m d s.2.1.2.2.1).2.2 with|false=>rfl|true=>have key:=QY K l m d N hN B1 B2 B3 hl hm k (i+1) (Jq l m d s) f (by omega) (by omega) ((MG z).st.mono|>λa=>⟨a,aF (MG z).pl (by omega)⟩);rw[show i+1+(jH l m d k (Jq l m d s)).1=i+((jH l m d k (Jq l m d s)).1+1) by omega]at key;simp only[ai,ae];rw[<-key];unfold Jq;generalize xZ l m d s.2.1.2.2.1=c;have ha:=ahy s.2.2 c.1.1;have hd:=L5 l m d (nq s.2.2 c.1.1) c.1.2.1;simp only[Wm _ _ (show s.2.2.2.2.2.length<=10^9 by omega),Iq l m d _ c.1.2.1 hl hm (show nq s.2.2 c.1.1<=9223372036854775807 by omega),ab,NG _ (aF hd (by omega)),aa1 _ _ nm,Wp s.2.2 [c.1.1] (show s.2.2.2.2.2.length+1<=10^9 by omega)];rw[aj (n:=(i:Int)+1) (by omega) (by omega),show((i+1:Nat):Int)=(i:Int)+1 by omega];rcases ha with ha|ha;rw[ha,aoL];rfl;rw[ax (show nq s.2.2 c.1.1>=0 by omega)];unfold ai6;cases (uv l m d (nq s.2.2 c.1.1) c.1.2.1).2<;>cases (zW (uv l m d (nq s.2.2 c.1.1) c.1.2.1).1).2==0<;>rfl
theorem QE {l:ar aC}{m:bp}{d:Int}:∀(k:Nat){s:ar Stream×bk×cJ}{n:Nat},LY n s->LY (n+322*k) (jH l m d k s).2
 |0,s,n,h=>h
 |k+1,s,n,h=>by rw[jH];cases (xZ l m d s.2.1.2.2.1).2.2 with|false=>exact⟨h.st.mono,aF h.pl (by omega)⟩|true=>have:=QE (l:=l) (m:=m) (d:=d) k (MG (l:=l) (m:=m) (d:=d) h);grind
def mr (l:ar aC)(m:bp)(d:Int)(rx:bk)(pl:cJ)(st:ar Stream)(n:Int):bp×bk×cJ×ar Stream×Int:=
 bif !QK rx||(!ga pl|| !du n 0 1000) then(m,rx,pl,st,0) else
 ((GF l m d (jH l m d n.toNat (st,rx,pl)).2.2.1.1 (jH l m d n.toNat (st,rx,pl)).2.2.2).1,
   ((GF l m d (jH l m d n.toNat (st,rx,pl)).2.2.1.1 (jH l m d n.toNat (st,rx,pl)).2.2.2).2.1,(jH l m d n.toNat (st,rx,pl)).2.2.1.2),
   (GF l m d (jH l m d n.toNat (st,rx,pl)).2.2.1.1 (jH l m d n.toNat (st,rx,pl)).2.2.2).2.2.1,(jH l m d n.toNat (st,rx,pl)).2.1,((jH l m d n.toNat (st,rx,pl)).1:Int))
theorem acO (l:ar aC)(m:bp)(d:Int)(rx:bk)(pl:cJ)(st:ar Stream)(n:Int)(hl:l.length<=10^9)(hm:m.length<=10^9)(hp:pl.2.2.2.length<=500000000)(hs:bt 500000000 (.sl eD) st):AI l m d rx pl st n=some (mr l m d rx pl st n):=by
 have Ae:=da;have hsl:st.length<=500000000:=hs.1;unfold AI mr;simp only[gx m (show m.length<=1073741824 by omega),zE pl (show pl.2.2.2.length<=10^9 by omega),ET st,aas,Au pl (show pl.2.2.2.length<=10^9 by omega),cr,ab];cases QK rx;rfl;cases ga pl;rfl;cases hn:du n 0 1000;rfl;have h:=bq.1 hn;obtain⟨n,rfl⟩:=aD h.1;simp only[ai,ae,ab,bO,aw];have z:LY (500000000+322*0) (st,rx,pl):=⟨hs,hp⟩
 have hz:=QE (l:=l) (m:=m) (d:=d) n z;refine(Qj _ l m d n (by omega) _ _ _ hl hm n 0 (st,rx,pl) fuel (by omega) (by omega) z).trans ?_;rw[cv];simp only[acK l m d _ _ hl hm (show(jH l m d n (st,rx,pl)).2.2.2.2.2.2.length<=10^9 from aF hz.pl (by omega)),ab]
theorem ad8 (l:ar aC)(m:bp)(d:Int)(rx:bk)(pl:cJ)(st:ar Stream)(n:Int)(hl:l.length<=10^9)(hm:m.length<=10^9)(hp:pl.2.2.2.length<=500000000)(hs:bt 500000000 (.sl eD) st):qT l m d rx pl st n=some (mr l m d rx pl st n):=by
 have Ae:=da;have hsl:st.length<=500000000:=hs.1;unfold qT mr;rw[fb (by omega)];simp only[bH,CO pl (show pl.2.2.2.length<=10^9 by omega),iT m (show m.length<=1073741824 by omega),aba,yg pl (show pl.2.2.2.length<=10^9 by omega),cm,ab];cases QK rx;rfl;cases ga pl;rfl;cases hn:du n 0 1000;rfl;have h:=bq.1 hn;obtain⟨n,rfl⟩:=aD h.1;simp only[ai,ae,ab,bO,aw];have z:LY (500000000+322*0) (st,rx,pl):=⟨hs,hp⟩
 have hz:=QE (l:=l) (m:=m) (d:=d) n z;refine(QY _ l m d n (by omega) _ _ _ hl hm n 0 (st,rx,pl) fuel (by omega) (by omega) z).trans ?_;rw[cv];simp only[ad0 l m d _ _ hl hm (show(jH l m d n (st,rx,pl)).2.2.2.2.2.2.length<=10^9 from aF hz.pl (by omega)),ab]
def lf (i:Nat):Int:=1280+(i:Int)*1792
theorem ahu {i:Nat}(h:i<=8):ak (1280+ak ((i:Int)*1792))=lf i:=by rw[aj (n:=(i:Int)*1792) (by omega) (by omega),aj (by omega) (by omega)];rfl
theorem acD (i:Nat)(h:i<=8):uR (i:Int)=some (lf i):=by rw[uR,ahu h]
theorem BL (a b n:Int)(h:n<=1000:=by omega):(mP a b n).1.2.2.2.length<=1000:=by grind[mP,upto]
def Wd (i:Nat):bk:=((lf i,4,0,0),(lf i+64,4,0),(lf i+64,4,0),((0,0,0,0,0,0,0,0,0,0,0,0,0,0,0,([]:Bytes)),0,0),false,0)
theorem ajs (i:Nat)(h:i<=8):CM (i:Int)=some (Wd i,(mP (lf i+128) 384 4).1):=by have hb:lf i=1280+(i:Int)*1792:=rfl;simp only[CM,acD i h,ab];rw[aj (n:=lf i+128) (by omega) (by omega),aj (n:=lf i+64) (by omega) (by omega),S0];rfl
def Tw:bX:=((0,16,0,0),(mP 256 128 8).1,([]:ar ie),0)
theorem ajG:J6=some Tw:=by rw[J6,S0];rfl
theorem akN:D2=some Tw:=by rw[D2,Tg];rfl
def Lz (l:ar aC)(m:bp)(i:Nat):bp×kl×cJ×Int:=
 GF l (oQ l m 0 (lf i) (JE 128) false).1 0 (lf i,4,0,0) (mP (lf i+128) 384 4).1
def YR (h:Host)(i:Nat):Host:=
 ((Lz h.2.1 h.1 i).1,h.2.1,h.2.2.1,h.2.2.2.1.set i ((Lz h.2.1 h.1 i).2.1,(lf i+64,4,0),(lf i+64,4,0),((0,0,0,0,0,0,0,0,0,0,0,0,0,0,0,([]:Bytes)),0,0),false,(match h.2.2.2.1[i]? with|some x=>x.2.2.2.2.2|none=>0)),h.2.2.2.2.1.set i (Lz h.2.1 h.1 i).2.2.1,h.2.2.2.2.2)
theorem ad6 (h:Host)(i:Nat)(hi:i<=8)(h1:i<h.2.2.2.1.length)(h2:i<h.2.2.2.2.1.length)(hl:h.2.1.length<=10^9)(hm:h.1.length<=10^9):Ch h (i:Int)=some ((),YR h i):=by have hb:lf i=1280+(i:Int)*1792:=rfl;have hz:mj 128 0=some (JE 128):=ad3 128;have hf:=ad0 h.2.1 (oQ h.2.1 h.1 0 (lf i) (JE 128) false).1 0 (lf i,4,0,0) (mP (lf i+128) 384 4).1 hl (by rw[mQ];exact hm) (aF (BL (lf i+128) 384 4) (by omega));unfold Ch;simp only[ahu hi];rw[aj (n:=lf i+128) (by omega) (by omega),aj (n:=lf i+64) (by omega) (by omega),Tg,hz];simp only[aN h1,aN h2,ab,OA h.2.1 h.1 0 (lf i) (JE 128) hl hm (by omega),hf,aw,YR,Lz,al h1]
def Kz (h:Host)(i:Nat)(n:Int):Int×Host:=
 match h.2.2.2.1[i]?,h.2.2.2.2.1[i]? with
 |some rx,some pl=>
  ((mr h.2.1 h.1 0 rx pl h.2.2.2.2.2.2.2.2.2.1 n).2.2.2.2,(mr h.2.1 h.1 0 rx pl h.2.2.2.2.2.2.2.2.2.1 n).1,h.2.1,h.2.2.1,h.2.2.2.1.set i (mr h.2.1 h.1 0 rx pl h.2.2.2.2.2.2.2.2.2.1 n).2.1,h.2.2.2.2.1.set i (mr h.2.1 h.1 0 rx pl h.2.2.2.2.2.2.2.2.2.1 n).2.2.1,h.2.2.2.2.2.1,h.2.2.2.2.2.2.1,h.2.2.2.2.2.2.2.1,h.2.2.2.2.2.2.2.2.1,(mr h.2.1 h.1 0 rx pl h.2.2.2.2.2.2.2.2.2.1 n).2.2.2.1,h.2.2.2.2.2.2.2.2.2.2)
 |_,_=>(0,h)
theorem aaq (h:Host)(i:Nat)(n:Int)(h1:i<h.2.2.2.1.length)(h2:i<h.2.2.2.2.1.length)(z:bt 500000000 cS h):mq h (i:Int) n=some (Kz h i n):=by have hl:h.2.1.length<=500000000:=z.2.1.1;have hm:h.1.length<=500000000:=z.1.1;have hp:h.2.2.2.2.1[i].2.2.2.length<=500000000:=(z.2.2.2.2.1.2 _ (aE h2)).2.2.2.1;unfold mq;simp only[aN h1,aN h2,ab,acO h.2.1 h.1 0 _ _ _ n (show h.2.1.length<=10^9 by omega) (show h.1.length<=10^9 by omega) hp z.2.2.2.2.2.2.2.2.2.1,aw,Kz,al h1,al h2]
theorem qy {n:Nat}{t:CT}{l:ar t.D}{i:Nat}{x:t.D}(z:bt n (.sl t) l)(hx:bt n t x):bt n (.sl t) (l.set i x):=by refine⟨?_,λy hy=>?_⟩;show(l.set i x).length<=n;rw[aL];exact z.1;rcases eR hy with h|h;exact z.2 y h;rw[h];exact hx
theorem ake {n:Nat}(hn:128<=n)(h:Kx m):bt n (.sl .str) m:=⟨aF h.2 (by omega),λx hx=>aF (fY (h.1 x hx)) hn⟩
theorem aeM {n:Nat}(hn:128<=n)(z:bt n (.sl .str) m)(a:Int)(s:Bytes):bt n (.sl .str) (Cn m a s).1:=by grind[Cn,iz,ake,K4,Nw]
theorem adz {n:Nat}(hn:128<=n):∀(q:ar (Int×Int)){m:bp}(s:Bytes),bt n (.sl .str) m->bt n (.sl .str) (aaM q m s)
 |[],m,s,z=>z
 |p::q,m,s,z=>adz hn q _ (aeM hn z _ _)
theorem MH {n:Nat}(hn:128<=n)(z:bt n (.sl .str) m)(l:ar aC)(d a:Int)(s:Bytes)(w:Bool):bt n (.sl .str) (oQ l m d a s w).1:=by grind[oQ,adz]
theorem QG {n:Nat}(hn:128<=n)(z:bt n (.sl .str) m)(l:ar aC)(d:Int)(r:kl)(s:Bytes):bt n (.sl .str) (dW l m d r s).1:=by grind[dW,MH]
theorem X8 {n:Nat}(hn:128<=n)(l:ar aC)(d:Int)(p:cJ):∀(q:cI){m:bp}(r:kl),bt n (.sl .str) m->bt n (.sl .str) (uE l d p q m r).2.1
 |[],m,r,z=>z
 |b::q,m,r,z=>by rw[uE];cases (dW l m d r (gA p b)).2.2 with|false=>exact z|true=>exact X8 hn l d p q _ (QG hn z ..)
theorem X9 {n:Nat}(hn:128<=n)(z:bt n (.sl .str) m)(l:ar aC)(d:Int)(r:kl)(p:cJ):bt n (.sl .str) (GF l m d r p).1:=by unfold GF;cases !fT r|| !ga p with|true=>exact z|false=>exact X8 hn _ _ _ _ _ z
theorem ahJ (l:ar aC)(m:bp)(d:Int)(r:kl)(p:cJ):(GF l m d r p).1.length=m.length:=by grind[GF,RE]
theorem U4 (l:ar aC)(m:bp)(d:Int)(r:kl)(p:cJ):(GF l m d r p).2.2.1.2.2.2.length<=p.2.2.2.length:=by grind[GF]
theorem adt (l:ar aC)(m:bp)(d:Int):∀(k:Nat)(s:ar Stream×bk×cJ),(jH l m d k s).2.2.1.2.2.2=s.2.1.2.2.2/\(jH l m d k s).1<=k
 |0,s=>⟨rfl,ba _⟩
 |k+1,s=>by rw[jH];cases (xZ l m d s.2.1.2.2.1).2.2 with|false=>grind|true=>have:=adt l m d k (Jq l m d s);simp only[ai,ae];exact⟨this.1,by omega⟩
theorem YV {n:Nat}(hn:128<=n){rx:bk}{pl:cJ}{st:ar Stream}(c:Int)(zm:bt n (.sl .str) m)(zr:bt n dR rx)(zp:bt n jT pl)(zs:bt n (.sl eD) st): bt n (.sl .str) (mr l m d rx pl st c).1/\bt n dR (mr l m d rx pl st c).2.1/\bt (n+322000) jT (mr l m d rx pl st c).2.2.1/\bt (n+322000) (.sl eD) (mr l m d rx pl st c).2.2.2.1/\0<=(mr l m d rx pl st c).2.2.2.2/\(mr l m d rx pl st c).2.2.2.2<=1000:=by
 unfold mr;cases hc: !QK rx||(!ga pl|| !du c 0 1000)with
 |true=>exact⟨zm,zr,zp.mono,zs.mono,Int.le_refl _,by show(0:Int)<=1000;omega⟩
 |false=>
  have hi:du c 0 1000=true:=by cases h:du c 0 1000 with|true=>rfl|false=>rw[h]at hc;simp at hc
  have h:=bq.1 hi;have z:=QE (l:=l) (m:=m) (d:=d) c.toNat (s:=(st,rx,pl)) (n:=n) ⟨zs,zp.2.2.2.1⟩;have hx:=adt l m d c.toNat (st,rx,pl);refine⟨X9 hn zm ..,⟨?_,?_,?_,?_⟩,⟨bF,bF,bF,?_,λ_ _=>trivial⟩,z.st.mono,by show(0:Int)<=((jH l m d c.toNat (st,rx,pl)).1:Int);omega,by show((jH l m d c.toNat (st,rx,pl)).1:Int)<=1000;omega⟩;exact⟨bF,bF,bF,bF⟩;exact⟨bF,bF,bF⟩;exact⟨bF,bF,bF⟩;have e:=congrArg (λq=>bt n dR (rx.1,rx.2.1,rx.2.2.1,q)) hx.1;exact(e.mpr zr).2.2.2;have:=U4 l m d (jH l m d c.toNat (st,rx,pl)).2.2.1.1 (jH l m d c.toNat (st,rx,pl)).2.2.2;have h2:=z.pl;show(GF l m d (jH l m d c.toNat (st,rx,pl)).2.2.1.1 (jH l m d c.toNat (st,rx,pl)).2.2.2).2.2.1.2.2.2.length<=_;omega
theorem agv {n:Nat}(hn:128<=n)(i:Nat)(c:Int)(z:bt n cS h):bt (n+322000) cS (Kz h i c).2:=by unfold Kz;rcases h1:h.2.2.2.1[i]? with _|rx;exact z.mono;rcases h2:h.2.2.2.2.1[i]? with _|pl;exact z.mono;have zr:=z.2.2.2.1.2 _ (bM h1);have zp:=z.2.2.2.2.1.2 _ (bM h2);have hp:=YV hn (l:=h.2.1) (d:=0) c z.1 zr zp z.2.2.2.2.2.2.2.2.2.1;have z':bt (n+322000) cS h:=z.mono;exact⟨hp.1.mono,z'.2.1,z'.2.2.1,qy z'.2.2.2.1 (hp.2.1.mono),qy z'.2.2.2.2.1 hp.2.2.1,z'.2.2.2.2.2.1,z'.2.2.2.2.2.2.1,z'.2.2.2.2.2.2.2.1,z'.2.2.2.2.2.2.2.2.1,hp.2.2.2.1,z'.2.2.2.2.2.2.2.2.2.2⟩
def cc (l:ar aC)(m:bp)(d:Int)(r:kl):Bytes×kl×Bool:=
 bif !fT r||(dv r==0) then([],r,false) else
 bif !(uv l m d (Fh r r.2.2.1) 16).2 then([],r,false) else
 ((uv l m d (Fh r r.2.2.1) 16).1,(r.1,r.2.1,tmod (r.2.2.1+1) (2*r.2.1),r.2.2.2),true)
theorem Q3 (l:ar aC)(m:bp)(d:Int)(r:kl)(hl:l.length<=10^9)(hm:m.length<=10^9):yl l m d r=some (cc l m d r):=by have hA:=Jw r r.2.2.1;unfold yl cc;simp only[Ey,Hw,ab,Zk,Iq l m d _ 16 hl hm (show Fh r r.2.2.1<=9223372036854775807 by omega)];cases hb:fT r;rfl;have h:=tY hb;grind[ab,aj]
theorem Qp (l:ar aC)(m:bp)(d:Int)(r:kl)(hl:l.length<=10^9)(hm:m.length<=10^9):xK l m d r=some (cc l m d r):=by have hA:=Jw r r.2.2.1;unfold xK cc;simp only[Ea,GO,ab,YB,HU l m d _ 16 hl hm (show Fh r r.2.2.1<=9223372036854775807 by omega)];cases hb:fT r;rfl;have h:=tY hb;grind[ab,aj]
theorem D6 (l:ar aC)(m:bp)(d:Int)(r:kl):(cc l m d r).1.length<=100000000:=by grind[cc,L5]
theorem HA (h:(cc l m d r).2.2=true): fT (cc l m d r).2.1=true/\dv (cc l m d r).2.1=dv r-1/\(cc l m d r).2.1.1=r.1/\(cc l m d r).2.1.2.1=r.2.1/\(cc l m d r).2.1.2.2.2=r.2.2.2:=by
 unfold cc at h⊢;cases hb:fT r with|false=>grind|true=>?_
 cases hu:dv r==0 with|true=>grind|false=>?_
 cases hd:(uv l m d (Fh r r.2.2.1) 16).2 with|false=>grind|true=>?_
 grind[tY,fT,dv,bq]
theorem ov (h:fT r=true):0<=dv r/\dv r<=16:=by have hr:=tY h;grind[fT,dv]
def Lb:IY:=(0,0,0,0,0,0)
def L4 (s:Bytes):IY:=((bZ s 0:Int),(bZ s 1:Int),cO s 2,ec s 4,cO s 8,cO s 10)
def eL (s:Bytes):IY×Bool:=
 bif ((s.length:Int) !=16) then(Lb,false) else bif !(Fl (L4 s)==s) then(Lb,false) else(L4 s,true)
theorem adX (s:Bytes)(h:s.length<=10^9):sG s=some (eL s):=by
 unfold sG eL;cases hn:(s.length:Int) !=16;case true=>rfl
 have hl:s.length=16:=by grind
 have b0:=lZ (s[0]'(by omega));have b1:=lZ (s[1]'(by omega));have i0:idx s 0=some (s[0]'(by omega)):=aN (i:=0) (by omega);have i1:idx s 1=some (s[1]'(by omega)):=aN (i:=1) (by omega);have e:(((s[0]'(by omega)).toNat:Int),((s[1]'(by omega)).toNat:Int),cO s 2,ec s 4,cO s 8,cO s 10)=L4 s:=by grind[L4,bZ]
 simp only[ae,i0,i1,ab,wI s _ h,CW s _ h];rw[gu (n:=(s[0]'(by omega)).toNat) (by omega),gu (n:=(s[1]'(by omega)).toNat) (by omega),e,aa3,ab];cases Fl (L4 s)==s<;>rfl
theorem acG (s:Bytes)(h:s.length<=10^9):sn s=some (eL s):=by
 unfold sn eL;cases hn:(s.length:Int) !=16;case true=>rfl
 have hl:s.length=16:=by grind
 have b0:=lZ (s[0]'(by omega));have b1:=lZ (s[1]'(by omega));have i0:idx s 0=some (s[0]'(by omega)):=aN (i:=0) (by omega);have i1:idx s 1=some (s[1]'(by omega)):=aN (i:=1) (by omega);have e:(((s[0]'(by omega)).toNat:Int),((s[1]'(by omega)).toNat:Int),cO s 2,ec s 4,cO s 8,cO s 10)=L4 s:=by grind[L4,bZ]
 simp only[ae,i0,i1,ab,CI s _ h,CJ s _ h];rw[gu (n:=(s[0]'(by omega)).toNat) (by omega),gu (n:=(s[1]'(by omega)).toNat) (by omega),e,aam,ab];cases Fl (L4 s)==s<;>rfl
theorem UQ (h:(eL s).2=true):uD (eL s).1=true:=by grind[eL,Fl]
def Z0 (x:IY):Bool:=bif x.1==1 then(ak (toNat (gv x.2.1&&&gv 1))) !=0 else false
def EL (l:ar aC)(m:bp)(d:Int):Nat->ar IY->kl->ar IY×kl×Bool
 |0,acc,r=>(acc,r,true)
 |n+1,acc,r=>
  bif !(cc l m d r).2.2|| !(eL (cc l m d r).1).2 then([],(r.1,r.2.1,r.2.2.2,r.2.2.2),false) else
  bif Z0 (eL (cc l m d r).1).1 then(acc++[(eL (cc l m d r).1).1],(cc l m d r).2.1,true) else
  EL l m d n (acc++[(eL (cc l m d r).1).1]) (cc l m d r).2.1
def fi (l:ar aC)(m:bp)(d:Int)(r:kl):ar IY×kl×Bool:=
 bif !fT r||(dv r==0) then([],r,false) else EL l m d (dv r).toNat [] r
theorem Oc (k0:ar IY->kl->au R)(k1:ar IY->Bool->ar IY->kl->kl->au R)(K:ar IY×kl×Bool->au R)
 (h0:∀a r,k0 a r=K (a,r,true)) (l:ar aC) (m:bp) (d:Int) (B E:kl) (h1:∀a r,k1 [] false a r E=K ([],E,false)) (hl:l.length<=10^9) (hm:m.length<=10^9):∀(n:Nat)(acc:ar IY)(r:kl)(f:Nat),
 n<f->fT r=true->(dv r).toNat=n->acc.length+n<=1000->E=(r.1,r.2.1,r.2.2.2,r.2.2.2)->aH (oc k0 k1 l d ([]:ar IY) false m B E) f (acc,r)=K (EL l m d n acc r)
 |n,acc,r,0,hf,_,_,_,_=>by omega
 |0,acc,r,f+1,hf,hb,hu,ha,hE=>by rw[aH];simp only[oc,GO,ab];rw[fG,ae,h0];rfl
 |n+1,acc,r,f+1,hf,hb,hu,ha,hE=>by
  have hlen:=D6 l m d r;have hk:=HA (l:=l) (m:=m) (d:=d) (r:=r);rw[aH];simp only[oc,GO,ab];rw[gL,af,Qp l m d r hl hm,ab,EL];generalize cc l m d r=t at hlen hk⊢;cases ht:t.2.2 with
  |false=>grind
  |true=>
   have hk:=hk ht;simp only[ai,ae,cC];rw[acG _ (show t.1.length<=10^9 by omega),ab];generalize eL t.1=x;cases x.2 with
   |false=>grind
   |true=>
    simp only[ai,ae];rw[aQ (by rw[aS];omega)];have e:(aa (cond (x.1.1==1) (some ((ak (toNat (gv x.1.2.1&&&gv 1))) !=0)) (some false)):(Bool->au R)->au R)=λK=>K (Z0 x.1):=by funext K;simp_all[Z0]
    rw[e];cases Z0 x.1 with|true=>simp only[af,h0]|false=>simp only[ae];exact Oc k0 k1 K h0 l m d B E h1 hl hm n _ _ f (by omega) hk.1 (by omega) (by simp;omega) (by grind)
theorem Ow (k0:ar IY->kl->au R)(k1:ar IY->Bool->ar IY->kl->kl->au R)(K:ar IY×kl×Bool->au R)
 (h0:∀a r,k0 a r=K (a,r,true)) (l:ar aC) (m:bp) (d:Int) (B:kl) (h1:∀a r,k1 [] false a r r=K ([],r,false)) (hl:l.length<=10^9) (hm:m.length<=10^9):∀(n:Nat)(acc:ar IY)(r:kl)(f:Nat),
 n<f->fT r=true->(dv r).toNat=n->acc.length+n<=1000->aH (oJ k0 k1 l d ([]:ar IY) false m B) f (acc,r)=K (EL l m d n acc r)
 |n,acc,r,0,hf,_,_,_=>by omega
 |0,acc,r,f+1,hf,hb,hu,ha=>by rw[aH];simp only[oJ,Hw,ab];rw[fG,ae,h0];rfl
 |n+1,acc,r,f+1,hf,hb,hu,ha=>by
  have hlen:=D6 l m d r;have hk:=HA (l:=l) (m:=m) (d:=d) (r:=r);rw[aH];simp only[oJ,Hw,ab];rw[gL,af,Q3 l m d r hl hm,ab,EL];generalize cc l m d r=t at hlen hk⊢;rw[adX _ (show t.1.length<=10^9 by omega),ab];generalize eL t.1=x;cases ht:t.2.2 with
  |false=>simp_all
  |true=>
   have hk:=hk ht;simp only[ai,ae,ab,cC];cases x.2 with
   |false=>grind
   |true=>
    simp only[ai,ae];rw[aQ (by rw[aS];omega)];have e:(aa (cond (x.1.1==1) (some ((ak (toNat (gv x.1.2.1&&&gv 1))) !=0)) (some false)):(Bool->au R)->au R)=λK=>K (Z0 x.1):=by funext K;simp_all[Z0]
    rw[e];cases Z0 x.1 with|true=>simp only[af,h0]|false=>simp only[ae];exact Ow k0 k1 K h0 l m d B h1 hl hm n _ _ f (by omega) hk.1 (by omega) (by simp;omega)
theorem Xk (l:ar aC)(m:bp)(d:Int)(r:kl)(hl:l.length<=10^9)(hm:m.length<=10^9):AN l m d r=some (fi l m d r):=by
 have Ae:=da;unfold AN fi;simp only[Ea,GO,ab];cases hb:fT r;rfl;cases dv r==0;case true=>rfl
 have hu:=ov hb;simp only[ai,ae,ab,bO];exact Oc _ _ (λx=>some x) (λ_ _=>rfl) l m d _ _ (λ_ _=>rfl) hl hm _ [] r fuel (by omega) hb rfl (by simp;omega) rfl
theorem XB (l:ar aC)(m:bp)(d:Int)(r:kl)(hl:l.length<=10^9)(hm:m.length<=10^9):Cc l m d r=some (fi l m d r):=by
 have Ae:=da;unfold Cc fi;simp only[Ey,Hw,ab];cases hb:fT r;rfl;cases dv r==0;case true=>rfl
 have hu:=ov hb;simp only[ai,ae,ab,bO];exact Ow _ _ (λx=>some x) (λ_ _=>rfl) l m d _ (λ_ _=>rfl) hl hm _ [] r fuel (by omega) hb rfl (by simp;omega)
def Es (x:Int×Int):Bool:=decide (x.1<0)|| !du x.2 0 4096
def nd (l:ar (Int×Int)):Bool:= !l.any Es&&decide ((l.length:Int)<=16)
theorem V3 (l:ar (Int×Int)):(bif l.any Es then some false else some (decide ((l.length:Int)<=16)))=some (nd l):=by grind[nd]
theorem VC (l:ar (Int×Int))(h:l.length<=10^9):Dq l=some (nd l):=by
 rw[<-V3];refine L1 Es l (by omega) (λi hi nx=>?_) (λnx=>?_);simp only[vV];rw[gL,af,aN hi,ab,cr,aj (by omega) (by omega)];unfold Es;cases decide (l[i].1<0)with|true=>rfl|false=>rfl
 simp only[vV];rw[fG,ae]
theorem Wq (l:ar (Int×Int))(h:l.length<=10^9):DV l=some (nd l):=by
 rw[<-V3];refine L1 Es l (by omega) (λi hi nx=>?_) (λnx=>?_);simp only[wS];rw[gL,af,aN hi,ab,ab,cm,aj (by omega) (by omega)];unfold Es;cases decide (l[i].1<0)with|true=>rfl|false=>rfl
 simp only[wS];rw[fG,ae]
theorem Jp {l:ar (Int×Int)}(h:nd l=true):l.length<=16/\∀x∈l,0<=x.1/\0<=x.2/\x.2<=4096:=by grind[nd,Es,bq]
def dsc (n:Nat)(c:Int)(i:Nat)(x:Int×Int):IY:=(1,(if i+1=n then 1 else 0),x.2,x.1,0,c)
def xA (ps:ar (Int×Int))(c:Int):Nat->ar IY
 |0=>[]
 |i+1=>xA ps c i++[dsc ps.length c i (ps.getD i (0,0))]
theorem Gd (ps:ar (Int×Int))(c:Int):∀i,(xA ps c i).length=i
 |0=>rfl
 |i+1=>by rw[xA,ay,Gd ps c i];rfl
theorem Nc (ps:ar (Int×Int))(c:Int)(q:IY->Bool):∀i,(xA ps c i).all q=(List.range i).all (λj=>q (dsc ps.length c j (ps.getD j (0,0))))
 |0=>rfl
 |i+1=>by rw[xA,List.all_append,Nc ps c q i,List.range_succ,List.all_append];rfl
def rb (ps:ar (Int×Int))(z c:Int):ar IY:=
 bif ((ps.length:Int)==0)||(!nd ps|| !du z 1 128) then [] else
 bif ([(2,0,0,0,z,c)]++xA ps c ps.length).all uD then [(2,0,0,0,z,c)]++xA ps c ps.length else []
theorem J1 (ps:ar (Int×Int))(z c:Int)(h:ps.length<=10^9:=by omega):∃b,jx ps z c=some (b,rb ps z c)/\(b=false->rb ps z c=[]):=by
 unfold jx rb;rw[VC ps h,cr];cases ((ps.length:Int)==0);case true=>exact⟨false,rfl,λ_=>rfl⟩
 cases nd ps;exact⟨false,rfl,λ_=>rfl⟩;cases du z 1 128;exact⟨false,rfl,λ_=>rfl⟩;refine⟨([(2,0,0,0,z,c)]++xA ps c ps.length).all uD,?_,λhb=>by rw[hb];rfl⟩;refine bz (λi=>(([(2,0,0,0,z,c)]++xA ps c i,(i:Int)))) ps.length (by omega) (λi nx hi=>?_) (λnx=>?_);have hl:=Gd ps c i;simp only[md];rw[gL,af,aN hi,ab,aj (by omega) (by omega),aj (by omega) (by omega)];have e:[(2,0,0,0,z,c)]++xA ps c (i+1)=([(2,0,0,0,z,c)]++xA ps c i)++[dsc ps.length c i ps[i]]:=by rw[xA,dx hi,aX]
 rw[e];unfold dsc;by_cases hc:i+1=ps.length;rw[show((i:Int)==(ps.length)-1)=true from by rw[bn];omega,aM hc];rw[aQ (by simp only[ay,aS];omega)];rfl;rw[show((i:Int)==(ps.length)-1)=false from by rw[cz];omega,aK hc];simp only[ae];rw[aQ (by simp only[ay,aS];omega)];rfl;simp only[md];rw[fG,ae];have hl:=Gd ps c ps.length;generalize hq:[(2,0,0,0,z,c)]++xA ps c ps.length=q;have hn:q.length<=1000000001:=by rw[<-hq];simp only[ay,aS];omega
 rw[vI (fin:=some (true,q)) uD q (by omega) (λi hi nx=>?_) (λnx=>?_)];cases q.all uD<;>rfl;simp only[ll];rw[gL,af,aN hi,ab,acH,ab,aj (by omega) (by omega)];rfl;simp only[ll];rw[fG,ae]
theorem QU (ps:ar (Int×Int))(z c:Int)(h:ps.length<=10^9):lT ps z c=some (rb ps z c):=by
 unfold lT rb;rw[Wq ps h,cm];cases ((ps.length:Int)==0);case true=>rfl
 cases nd ps;rfl;cases du z 1 128;rfl;have i0:idx [((2,0,0,0,z,c):IY)] 0=some (2,0,0,0,z,c):=rfl;simp only[ai,ae,ab,bO,i0,QT,List.all_append,bV,List.all_nil,gw];cases uD (2,0,0,0,z,c);rfl;rw[Nc];refine(M8 (fin:=some ([(2,0,0,0,z,c)]++xA ps c ps.length)) (hit:=some []) (λi=>(([(2,0,0,0,z,c)]++xA ps c i,(i:Int)))) (λj=>uD (dsc ps.length c j (ps.getD j (0,0)))) ps.length (by omega) (λi nx hi _=>?_) (λ_ nx=>?_)).trans ?_;have hl:=Gd ps c i;simp only[mi];rw[gL,af,aN hi,ab,ab,aj (by omega) (by omega),aj (by omega) (by omega)];have e:[(2,0,0,0,z,c)]++xA ps c (i+1)=([(2,0,0,0,z,c)]++xA ps c i)++[dsc ps.length c i ps[i]]:=by rw[xA,dx hi,aX]
 rw[e,dx hi];unfold dsc;by_cases hc:i+1=ps.length;rw[show((i:Int)==(ps.length)-1)=true from by rw[bn];omega,aM hc];simp only[af,QT,ab];rw[aQ (by simp only[ay,aS];omega)];rfl;rw[show((i:Int)==(ps.length)-1)=false from by rw[cz];omega,aK hc];simp only[ae,QT,ab];rw[aQ (by simp only[ay,aS];omega)];rfl;simp only[mi];rw[fG,ae];cases (List.range ps.length).all (λj=>uD (dsc ps.length c j (ps.getD j (0,0))))<;>rfl
def ML (x y:IY):Bool:=(x.1==y.1)&&((x.2.1==y.2.1)&&((x.2.2.1==y.2.2.1)&&((x.2.2.2.1==y.2.2.2.1)&&((x.2.2.2.2.1==y.2.2.2.2.1)&&((x.2.2.2.2.2==y.2.2.2.2.2)&&true)))))
def KG (a b:ar IY):Bool:=((a.length:Int)==(b.length:Int))&&(List.range a.length).all λi=>ML (a.getD i Lb) (b.getD i Lb)
theorem akz (a b:ar IY)(ha:a.length<=10^9):F5 a b=some (KG a b):=by
 unfold F5 KG;cases hl:((a.length:Int)==(b.length))with
 |false=>simp only[bne,hl,bB,af,gN]
 |true=>
  have hn:a.length=b.length:=by have:=iY hl;omega
  simp only[bne,hl,ai,ae,bj];rw[gV (λi=>ML (a.getD i Lb) (b.getD i Lb)) a.length (by omega) (λi nx hi=>?_) (λnx=>?_)];cases (List.range a.length).all (λi=>ML (a.getD i Lb) (b.getD i Lb))<;>rfl;have SU:i<b.length:=by omega
  simp only[yX];rw[gL,af,aN hi,aN SU,ab,ab,aj (by omega) (by omega),dx hi,dx SU];rfl;simp only[yX];rw[fG,ae]
def iC (l:ar IY):ar (Int×Int):=(l.drop 1).map λx=>(x.2.2.2.1,x.2.2.1)
def kc (l:ar IY):ar (Int×Int)×Int×Int×Bool:=
 match l with
 |h::x::r=>bif KG (rb (iC l) h.2.2.2.2.1 h.2.2.2.2.2) l then(iC l,h.2.2.2.2.1,h.2.2.2.2.2,true) else([],0,0,false)
 |_=>([],0,0,false)
theorem XY (ps:ar (Int×Int))(z c:Int):(rb ps z c).length<=ps.length+1:=by
 unfold rb;cases ((ps.length:Int)==0)||(!nd ps|| !du z 1 128);case true=>simp
 cases ([(2,0,0,0,z,c)]++xA ps c ps.length).all uD with|false=>simp|true=>simp only[ae,af,ay,aS,Gd];omega
theorem aa8 (l:ar IY)(hl:l.length<=10^9):rQ l=some (kc l):=by
 unfold rQ;match l,hl with
 |[],_=>
  obtain⟨g,hg⟩:∃g,fuel=g+1:=⟨fuel-1,by have:=da;omega⟩
  rw[hg,aH];rfl
 |h::q,hl=>
  simp only[bJ]at hl;refine bz (λi=>(((q.take i).map (λx=>(x.2.2.2.1,x.2.2.1)),((i+1:Nat):Int)))) q.length (by omega) (λi nx hi=>?_) (λnx=>?_);have SU:i+1<(h::q).length:=by simp;omega
  have e2:(h::q)[i+1]=q[i]:=rfl;simp only[nh];rw[gL,af,aN SU,ab,ab,aQ (by simp only[bW,bm,aS];omega),aj (by omega) (by omega),e2,aO hi,eu];rfl;have i0:idx (h::q) 0=some h:=rfl;simp only[nh];rw[aq (by simp only[bJ];omega),ae,bA];have hp:q.map (λx=>(x.2.2.2.1,x.2.2.1))=iC (h::q):=rfl;have HF:(iC (h::q)).length=q.length:=by rw[<-hp,bW]
  rw[hp];have hdl:=XY (iC (h::q)) h.2.2.2.2.1 h.2.2.2.2.2;simp only[i0,ab,QU (iC (h::q)) _ _ (show(iC (h::q)).length<=10^9 by omega),akz _ (h::q) (show(rb (iC (h::q)) h.2.2.2.2.1 h.2.2.2.2.2).length<=10^9 by omega)];cases q with|nil=>rfl|cons x r=>simp only[ae,ab,kc];cases KG (rb (iC (h::x::r)) h.2.2.2.2.1 h.2.2.2.2.2) (h::x::r)<;>rfl
theorem aap (l:ar IY)(hl:l.length<=10^9):rr l=some (kc l):=by
 unfold rr;match l,hl with
 |[],_=>rfl
 |[h],_=>rfl
 |h::y::r,hl=>
  generalize hq:y::r=q;have hq1:1<=q.length:=by rw[<-hq];simp
  have hlen:q.length+1<=10^9:=by rw[<-hq];simpa using hl
  have i0:idx (h::q) 0=some h:=rfl;have s0:sub (h::q) 1 (((h::q).length))=some q:=xi 1 (by simp) rfl;rw[aq (by simp only[bJ];omega),ae,s0,ab];refine bz (λi=>(((q.take i).map (λx=>(x.2.2.2.1,x.2.2.1)),(i:Int)))) q.length (by omega) (λi nx hi=>?_) (λnx=>?_);simp only[mZ];rw[gL,af,aN hi,ab,aQ (by simp only[bW,bm,aS];omega),aj (by omega) (by omega),aO hi,eu];rfl;simp only[mZ];rw[fG,ae,bA];have hp:q.map (λx=>(x.2.2.2.1,x.2.2.1))=iC (h::q):=rfl;have HF:(iC (h::q)).length=q.length:=by rw[<-hp,bW]
  rw[hp];have hdl:=XY (iC (h::q)) h.2.2.2.2.1 h.2.2.2.2.2;obtain⟨b,hd,hb⟩:=J1 (iC (h::q)) h.2.2.2.2.1 h.2.2.2.2.2;have hR:kc (h::q)=bif KG (rb (iC (h::q)) h.2.2.2.2.1 h.2.2.2.2.2) (h::q) then(iC (h::q),h.2.2.2.2.1,h.2.2.2.2.2,true) else([],0,0,false):=by rw[<-hq];rfl
  rw[hR];simp only[i0,ab,hd];have hlc:(((h::q).length):Int)=(q.length)+1:=by simp only[bJ];omega
  generalize rb (iC (h::q)) h.2.2.2.2.1 h.2.2.2.2.2=w at hdl hb⊢
  have core:∀(K:au (ar (Int×Int)×Int×Int×Bool))(w':ar IY),w'=w->(bif ((w'.length):Int) !=(((h::q).length)) then some (([]),(0),(0),false) else
   aH (iq (λuu=>some (iC (h::q),h.2.2.2.2.1,h.2.2.2.2.2,true)) (λCo Gb EF Ad Gt=>some (Co,Gb,EF,Ad)) (h::q) (iC (h::q)) h.2.2.2.2.1 h.2.2.2.2.2 w' ((w'.length))) fuel 0)=some (bif KG w (h::q) then(iC (h::q),h.2.2.2.2.1,h.2.2.2.2.2,true) else([],0,0,false)):=by
   intro K w' e
   subst e
   unfold KG
   cases hl:((w'.length)==(((h::q).length):Int))with
   |false=>simp only[bne,hl,bB,af,gN,ae]
   |true=>
    simp only[bne,hl,ai,ae,bj]
    rw[gV (fin:=some (iC (h::q),h.2.2.2.2.1,h.2.2.2.2.2,true)) (λi=>ML (w'.getD i Lb) ((h::q).getD i Lb)) w'.length (by omega) (λi nx hi=>?_) (λnx=>?_)]
    ·cases (List.range w'.length).all (λi=>ML (w'.getD i Lb) ((h::q).getD i Lb))<;>rfl
    ·have SU:i<(h::q).length:=by omega
     simp only[iq]
     rw[gL,af,aN hi,aN SU,ab,ab,aj (by omega) (by omega),dx hi,dx SU];rfl
    ·simp only[iq]
     rw[fG,ae]
  cases b with|true=>exact core none w rfl|false=>exact core none [] (hb rfl).symm
theorem S9 {l:ar IY}(h:(kc l).2.2.2=true):nd (kc l).1=true/\∀p∈(kc l).1,p.1<=4294967295:=by match l,h with|hd::x::r,h=>unfold kc at h⊢;simp only at h⊢;cases hs:KG (rb (iC (hd::x::r)) hd.2.2.2.2.1 hd.2.2.2.2.2) (hd::x::r)with|false=>grind|true=>generalize hw:iC (hd::x::r)=ps at hs⊢;unfold KG at hs;simp only[ah]at hs;have hn:=iY hs.1;unfold rb at hn;cases hc:((ps.length)==0)||(!nd ps|| !du hd.2.2.2.2.1 1 128)with|true=>grind|false=>cases ha:([(2,0,0,0,hd.2.2.2.2.1,hd.2.2.2.2.2)]++xA ps hd.2.2.2.2.2 ps.length).all uD with|false=>grind|true=>simp only[dy,ef]at hc;refine⟨hc.2.1,λp hp=>?_⟩;rw[List.all_append,Nc,ah]at ha;obtain⟨i,hi,rfl⟩:=List.getElem_of_mem hp;simp_all[uD,dsc,bq]
theorem I2 (l:ar aC)(m:bp)(d a n:Int):(uv l m d a n).1.length<=33554432:=by grind[Nz,vt,uv]
def JW (l:ar aC)(m:bp)(d:Int):ar (Int×Int)->Bytes->Bytes×Bool
 |[],acc=>(acc,true)
 |p::ps,acc=>bif (uv l m d p.1 p.2).2 then JW l m d ps (acc++(uv l m d p.1 p.2).1) else([],false)
def Da (l:ar aC)(m:bp)(d:Int)(ps:ar (Int×Int)):Bytes×Bool:=bif nd ps then JW l m d ps [] else([],false)
def HQ (l:ar aC)(m:bp)(d:Int)(p:Int×Int)(s:Bytes):Except (au (Bytes×Bool)) Bytes:=
 if(uv l m d p.1 p.2).2=true then .ok (s++(uv l m d p.1 p.2).1) else .error (some ([],false))
theorem OZ (l:ar aC)(m:bp)(d:Int):∀(ps:ar (Int×Int))(s:Bytes),TQ (HQ l m d) (λs=>some (s,true)) ps s=some (JW l m d ps s)
 |[],s=>rfl
 |p::ps,s=>by rw[TQ,JW];unfold HQ;cases hd:(uv l m d p.1 p.2).2 with|false=>rfl|true=>exact OZ l m d ps _
theorem SP (l:ar aC)(m:bp)(d:Int):∀(ps:ar (Int×Int))(s:Bytes),(JW l m d ps s).1.length<=s.length+33554432*ps.length
 |[],s=>by simp[JW]
 |p::ps,s=>by have h1:=I2 l m d p.1 p.2;rw[JW];cases (uv l m d p.1 p.2).2 with|false=>simp|true=>have:=SP l m d ps (s++(uv l m d p.1 p.2).1);grind
theorem SQ (l:ar aC)(m:bp)(d:Int)(ps:ar (Int×Int)):(Da l m d ps).1.length<=10^9:=by unfold Da;cases hp:nd ps with|false=>simp|true=>have:=(Jp hp).1;have:=SP l m d ps [];grind
theorem afM (l:ar aC)(m:bp)(d:Int)(ps:ar (Int×Int))(hl:l.length<=10^9)(hm:m.length<=10^9)(hn:ps.length<=10^9)(ha:∀p∈ps,p.1<=9223372036854775807):tB l m d ps=some (Da l m d ps):=by
 unfold tB Da;rw[VC ps hn,ab];cases hp:nd ps;rfl;have h16:=(Jp hp).1;simp only[ai,ae,af];rw[<-OZ];refine vu ps (λs i=>(s,(i:Int))) (λi s=>s.length<=33554432*i) (HQ l m d) _ (by omega) (λi hi s nx hI=>?_) (λi hi s s' hI he=>?_) (λs nx hI=>?_) [] (by simp);have h1:=I2 l m d ps[i].1 ps[i].2;simp only[nW];rw[gL,af,aN hi,ab,HU l m d _ _ hl hm (ha _ (aE hi)),ab];unfold HQ;cases hd:(uv l m d ps[i].1 ps[i].2).2 with|false=>rfl|true=>rw[aM rfl,aQ (by omega),aj (by omega) (by omega)];rfl
 have h1:=I2 l m d ps[i].1 ps[i].2;unfold HQ at he;split at he;injection he with he;rw[<-he,ay];omega;cases he;simp only[nW];rw[fG,ae]
theorem agP (l:ar aC)(m:bp)(d:Int)(ps:ar (Int×Int))(hl:l.length<=10^9)(hm:m.length<=10^9)(hn:ps.length<=10^9)(ha:∀p∈ps,p.1<=9223372036854775807):ub l m d ps=some (Da l m d ps):=by
 unfold ub Da;rw[Wq ps hn,ab];cases hp:nd ps;rfl;have h16:=(Jp hp).1;simp only[ai,ae,af];rw[<-OZ];refine vu ps (λs i=>(s,(i:Int))) (λi s=>s.length<=33554432*i) (HQ l m d) _ (by omega) (λi hi s nx hI=>?_) (λi hi s s' hI he=>?_) (λs nx hI=>?_) [] (by simp);have h1:=I2 l m d ps[i].1 ps[i].2;simp only[oB];rw[gL,af,aN hi,ab,ab,Iq l m d _ _ hl hm (ha _ (aE hi)),ab];unfold HQ;cases hd:(uv l m d ps[i].1 ps[i].2).2 with|false=>rfl|true=>rw[aM rfl,aQ (by omega),aj (by omega) (by omega)];rfl
 have h1:=I2 l m d ps[i].1 ps[i].2;unfold HQ at he;split at he;injection he with he;rw[<-he,ay];omega;cases he;simp only[oB];rw[fG,ae]
def xY (t:Bytes):Int:=cO t ((cy t+2:Nat):Int)
def TZ (t:Bytes):Int:=ZP ((t.take (cy t+20)).drop (cy t))
def Xw (t:Bytes):Bytes:=(t.take (cy t+(xY t).toNat)).drop (cy t+20)
def aoM (t:Bytes):Bytes:=CR (ec t ((cy t+12:Nat):Int)) (ec t ((cy t+16:Nat):Int)) (jF t:Int) (xY t-20)
def Rb (t:Bytes):Int:=bif ((jF t:Int)==17)&&(ZP (aoM t++Xw t)==0) then 65535 else ZP (aoM t++Xw t)
def ab2 (t s:Bytes):Bytes×Bool:=bif ((zW s).2==0)&&((jO (zW s).1).1==t) then eS (zW s).1 else([],false)
def I6 (t:Bytes):Bytes×Bool:=ab2 t (tW t (cw (TZ t)) (cw (Rb t)))
theorem Fo (h:¬(TOk t/\cO t (Cj t:Int)=0/\cO t (vE t:Int)=0)):I6 t=([],false):=by have ha:K6 (tW t (cw (TZ t)) (cw (Rb t))) t:=Ot t (bQ _) (bQ _);grind[I6,ab2,zW,aq4,akS]
theorem abi (t:Bytes)(o n:Nat):(t.drop o).take n=(t.take (o+n)).drop o:=by grind[List.drop_take]
theorem Ta (h1:cy t+20<=t.length)(h2:20<=xY t)(h3:xY t<=(t.length:Int))(h4:t.length<=10^9):FL (ec t ((cy t+12:Nat):Int)) (ec t ((cy t+16:Nat):Int)) (jF t:Int) (xY t-20)=true:=by have a1:=I9 (s:=t) (a:=((cy t+12:Nat):Int));have a2:=I9 (s:=t) (a:=((cy t+16:Nat):Int));have a3:=fw t (cy t+9);have a4:=I8 (s:=t) (a:=((cy t+2:Nat):Int));grind[FL,bq,jF,xY]
theorem akv (t:Bytes)(hl:t.length<=10^9):DM t=some (I6 t):=by
 have hp:=Et t
 have hk:=NK (jF t)
 have Yl:jF t<256:=fw t (cy t+9)
 unfold DM
 rw[Wr t hl,ab]
 by_cases h1:t.length<cy t+46
 ·rw[ax h1,Fo λh=>by have:=h.1.l1;omega];rfl
 rw[aq h1]
 simp only[ae]
 rw[aq (show¬(Cj t:Int)<0 by omega)]
 simp only[ae,wI t _ hl,ab]
 cases h2:cO t (Cj t:Int) !=0 with
 |true=>simp_all[Fo]
 |false=>
 simp only[ae,ab]
 cases h3:cO t (vE t:Int) !=0 with
 |true=>grind[Fo]
 |false=>
 have w1:ak ((Cj t:Int)-10)=(cy t:Int):=by grind[aj]
 have w2:ak ((cy t:Int)+2)=((cy t+2:Nat):Int):=by grind[aj]
 have w9:ak ((cy t:Int)+9)=((cy t+9:Nat):Int):=by grind[aj]
 have w12:ak ((cy t:Int)+12)=((cy t+12:Nat):Int):=by grind[aj]
 have w16:ak ((cy t:Int)+16)=((cy t+16:Nat):Int):=by grind[aj]
 have w20:ak ((cy t:Int)+20)=((cy t+20:Nat):Int):=by grind[aj]
 have wb:ak ((vE t:Int)+2)=(vE t:Int)+2:=by grind[aj]
 have wc:ak ((vE t:Int)+2-(cy t:Int))=(vE t:Int)+2-(cy t:Int):=by grind[aj]
 have wl:ak ((t.length:Int)-(cy t:Int))=(t.length:Int)-(cy t:Int):=by grind[aj]
 obtain⟨x,hx,ex⟩:=lO (s:=t) (i:=cy t+9)
 have a4:=I8 (s:=t) (a:=((cy t+2:Nat):Int))
 simp only[ae,ab,w1,w2,w9,hx,wb,wc,wl]
 rw[show cO t ((cy t+2:Nat):Int)=xY t from rfl]at a4⊢
 by_cases h4:xY t<(vE t:Int)+2-(cy t:Int)
 ·rw[ax h4,Fo λh=>by have:=h.1.n1;grind[xY]];rfl
 rw[aq h4]
 simp only[ae,ab]
 by_cases h5:xY t>(t.length:Int)-(cy t:Int)
 ·rw[ax h5,Fo λh=>by have:=h.1.n2;grind[xY]];rfl
 rw[aq h5]
 obtain⟨n,hn⟩:=aD a4.1
 have wn:ak ((cy t:Int)+xY t)=((cy t+n:Nat):Int):=by grind[aj]
 have wm:ak (xY t-20)=xY t-20:=by grind[aj]
 have s1:sub t (cy t:Int) ((cy t+20:Nat):Int)=some ((t.take (cy t+20)).drop (cy t)):=by grind[Ra,aw]
 have s2:sub t ((cy t+20:Nat):Int) ((cy t+n:Nat):Int)=some (Xw t):=by grind[Ra,aw,Xw]
 have hps:=Ny (ec t ((cy t+12:Nat):Int)) (ec t ((cy t+16:Nat):Int)) (jF t:Int) (xY t-20)
 have Mo:(Xw t).length<=65535:=by unfold Xw;grind
 have hk2:ak ((UInt8.toNat x:Int))=(jF t:Int):=by grind[gu,jF]
 simp only[ae,ab,w12,w16,w20,wn,wm,s1,s2,CW t _ hl,hk2,KN,Ta (show cy t+20<=t.length by omega) (show 20<=xY t by omega) (show xY t<=(t.length:Int) by omega) hl,af]
 rw[show CR (ec t ((cy t+12:Nat):Int)) (ec t ((cy t+16:Nat):Int)) (jF t:Int) (xY t-20)=aoM t from rfl]at hps⊢
 rw[QS _ (by grind),ab,aQ (by omega),QS _ (by rw[ay];omega),ab]
 rw[show ZP ((t.take (cy t+20)).drop (cy t))=TZ t from rfl]
 have nk:∀y:Int,Rb t=y->(aa (cj (TZ t)) λGp=>aa (eF t (Cj t:Int) Gp) λNY=>aa (cj y) λr18=>aa (eF NY (vE t:Int) r18) λYX=>aa (ju YX) λKC=>
  bif KC.2 !=0 then some (([]:Bytes),false) else aa (oU KC.1) λMI=>bif !(MI.1==t) then some (([]:Bytes),false) else aa (ic KC.1) λr22=>some r22)=some (I6 t):=by
  intro y hy
  subst hy
  rw[iU,ab,FQ t _ _ hl,ab,iU,ab,FQ _ _ _ (by rw[Eu];exact hl),ab]
  have hlen:=Im t (cw (TZ t)) (cw (Rb t))
  unfold I6
  rw[show xv (xv t (Cj t:Int) (cw (TZ t))) (vE t:Int) (cw (Rb t))=tW t (cw (TZ t)) (cw (Rb t)) from rfl]
  grind[NG,ab,Zm,Jy,ab2]
 grind[Rb,ab]
theorem ajm (t:Bytes)(hl:t.length<=10^9):Dh t=some (I6 t):=by
 have hp:=Et t
 have hk:=NK (jF t)
 have Yl:jF t<256:=fw t (cy t+9)
 have Mi:=Ky t
 unfold Dh
 rw[Qi t hl,ab,CI _ _ (by omega),ab]
 cases h1:(gr t).2 with
 |false=>rw[Fo λh=>by have:=h.1.eth;grind];rfl
 |true=>
 have he:=Sd h1
 rw[he.1]
 simp only[ai,ae,ab]
 have en:cO (t.drop (cy t)) 2=xY t:=Vg (a:=2)
 rw[en]
 by_cases h4:xY t<20
 ·rw[ax h4,Fo λh=>by have:=h.1.n1;grind[xY]];rfl
 rw[aq h4]
 simp only[ae,ab]
 by_cases h5:xY t>((t.drop (cy t)).length:Int)
 ·rw[ax h5,Fo λh=>by have:=h.1.n2;grind[xY]];rfl
 rw[aq h5]
 rw[bl]at h5
 have hdl:(t.drop (cy t)).length=t.length-cy t:=bl ..
 obtain⟨n,hn⟩:=aD (show 0<=xY t by omega)
 obtain⟨x,hx,ex⟩:=lO (s:=t.drop (cy t)) (i:=9)
 have hx9:idx (t.drop (cy t)) 9=some x:=hx
 have s1:sub (t.drop (cy t)) 0 20=some ((t.take (cy t+20)).drop (cy t)):=by grind[D4]
 have s2:sub (t.drop (cy t)) 20 (xY t)=some (Xw t):=by rw[Ra (l:=t.drop (cy t)) 20 (a:=20) rfl (by omega) (by omega),hn,aw,abi,eO];grind[Xw]
 have hps:=Ny (ec t ((cy t+12:Nat):Int)) (ec t ((cy t+16:Nat):Int)) (jF t:Int) (xY t-20)
 have Mo:((Xw t).length:Int)=xY t-20:=by grind[Xw]
 have hk2:ak ((UInt8.toNat x:Int))=(jF t:Int):=by grind[gu,bZ,jF]
 have g12:ec (t.drop (cy t)) 12=ec t ((cy t+12:Nat):Int):=Vh (a:=12)
 have g16:ec (t.drop (cy t)) 16=ec t ((cy t+16:Nat):Int):=Vh (a:=16)
 have hw:ak ((TW (jF t):Int)+2)=(TW (jF t):Int)+2:=by grind[aj]
 simp only[ae,ab,Qo t hl,s1,s2,hx9,CJ _ _ (show(t.drop (cy t)).length<=10^9 by omega),hk2,VD,Mo,g12,g16,Ta (show cy t+20<=t.length by omega) (show 20<=xY t by omega) (show xY t<=(t.length:Int) by omega) hl,af,ai,RR _ Yl,hw]
 rw[show CR (ec t ((cy t+12:Nat):Int)) (ec t ((cy t+16:Nat):Int)) (jF t:Int) (xY t-20)=aoM t from rfl]at hps⊢
 by_cases h6:(TW (jF t):Int)+2>xY t-20
 ·rw[ax h6,Fo λh=>by have:=h.1.n1;grind[xY]];rfl
 rw[aq h6]
 simp only[ae]
 have hck:((t.take (cy t+20)).drop (cy t)).length<=10^9:=by grind
 rw[aQ (by omega),Ub _ (by rw[ay];omega),ab]
 have nk:∀y:Int,Rb t=y->(aa (kq ((t.take (cy t+20)).drop (cy t))) λr25=>aa (cH r25) λr26=>aa (gb t (Cj t:Int) r26) λYY=>aa (cH y) λTO=>aa (gb YY (vE t:Int) TO) λr29=>aa (jo r29) λr30=>aa (oM r30.1) λr31=>
  aa (bif r30.2 !=0 then some true else bif !r31.2 then some true else some (!(r31.1==t))) λq32=>bif q32 then some (([]:Bytes),false) else aa (ia r30.1) λr33=>some r33)=some (I6 t):=by
  intro y hy
  subst hy
  have b1:=bQ (TZ t)
  have b2:=bQ (Rb t)
  rw[Ub _ hck,ab,show ZP ((t.take (cy t+20)).drop (cy t))=TZ t from rfl]
  rw[mG,ab,J3 t _ _ hl,ab,mG,ab,J3 _ _ _ (by rw[Eu];exact hl),ab]
  have hlen:=Im t (cw (TZ t)) (cw (Rb t))
  unfold I6
  rw[show xv (xv t (Cj t:Int) (cw (TZ t))) (vE t:Int) (cw (Rb t))=tW t (cw (TZ t)) (cw (Rb t)) from rfl]
  grind[Nr,ab,YE,Je,ab2,jO]
 cases h8:(jF t:Int)==17 with
 |false=>simp_all[Rb]
 |true=>
  grind[ab,Rb]
theorem Ya (t:Bytes):(I6 t).1.length<=378:=by grind[I6,ab2,CH]
theorem OQ (l:ar aC)(m:bp)(d:Int):∀(n:Nat)(acc:ar IY)(r:kl),(EL l m d n acc r).1.length<=acc.length+n
 |0,acc,r=>ba _
 |n+1,acc,r=>by
  rw[EL];cases !(cc l m d r).2.2|| !(eL (cc l m d r).1).2;case true=>exact eh _
  cases Z0 (eL (cc l m d r).1).1 with|true=>grind|false=>have:=OQ l m d n (acc++[(eL (cc l m d r).1).1]) (cc l m d r).2.1;grind
theorem agE (h:fT r=true):fT (r.1,r.2.1,r.2.2.2,r.2.2.2)=true/\dv (r.1,r.2.1,r.2.2.2,r.2.2.2)=0:=by grind[fT,dv,Int.zero_emod,bq]
theorem SI (l:ar aC)(m:bp)(d:Int):∀(n:Nat)(acc:ar IY)(r:kl),fT r=true->(dv r).toNat=n->
 fT (EL l m d n acc r).2.1=true/\dv (EL l m d n acc r).2.1<=dv r/\(0<dv r->dv (EL l m d n acc r).2.1<dv r)
 |0,acc,r,hb,hu=>⟨hb,Int.le_refl _,λh=>by omega⟩
 |n+1,acc,r,hb,hu=>by have hk:=HA (l:=l) (m:=m) (d:=d) (r:=r);have he:=agE hb;rw[EL];cases hc: !(cc l m d r).2.2|| !(eL (cc l m d r).1).2 with|true=>grind|false=>simp only[dy,ef]at hc;have hk:=hk hc.1;cases Z0 (eL (cc l m d r).1).1 with|true=>grind|false=>have:=SI l m d n (acc++[(eL (cc l m d r).1).1]) (cc l m d r).2.1 hk.1 (by omega);grind
def mf (l:ar aC)(m:bp)(d:Int)(r:kl):kl×bp×Int:=
 bif !fT r||(dv r==0) then(r,[],0) else
 bif !(fi l m d r).2.2|| !(kc (fi l m d r).1).2.2.2 then((fi l m d r).2.1,[],2) else
 bif !(Da l m d (kc (fi l m d r).1).1).2||(!(I6 (Da l m d (kc (fi l m d r).1).1).1).2||((zW (I6 (Da l m d (kc (fi l m d r).1).1).1).1).2 !=0)) then((fi l m d r).2.1,[],2) else
 ((fi l m d r).2.1,Zb (zW (I6 (Da l m d (kc (fi l m d r).1).1).1).1).1 (kc (fi l m d r).1).2.1,1)
theorem afQ (l:ar aC)(m:bp)(d:Int)(r:kl)(hl:l.length<=10^9)(hm:m.length<=10^9):tL l m d r=some (mf l m d r):=by
 unfold tL mf;simp only[Ea,GO,ab,Xk l m d r hl hm];cases hb:fT r;rfl;cases dv r==0;case true=>rfl
 have hu:=ov hb;have hcl:(fi l m d r).1.length<=16:=by unfold fi;cases !fT r||(dv r==0)with|true=>exact eh _|false=>have:=OQ l m d (dv r).toNat [] r;grind
 simp only[ai,ae,ab,bO];generalize fi l m d r=c at hcl⊢;cases c.2.2;rfl;simp only[ai,ae,ab,cC,aap c.1 (show c.1.length<=10^9 by omega)];have hpo:=S9 (l:=c.1);grind[Jp,SQ,ab,afM,Ya,ajm,Nr,amJ]
theorem agT (l:ar aC)(m:bp)(d:Int)(r:kl)(hl:l.length<=10^9)(hm:m.length<=10^9):uk l m d r=some (mf l m d r):=by
 unfold uk mf;simp only[Ey,Hw,ab,XB l m d r hl hm];cases hb:fT r;rfl;cases dv r==0;case true=>rfl
 have hu:=ov hb;have hcl:(fi l m d r).1.length<=16:=by unfold fi;cases !fT r||(dv r==0)with|true=>exact eh _|false=>have:=OQ l m d (dv r).toNat [] r;grind
 simp only[ai,ae,ab,bO];generalize fi l m d r=c at hcl⊢;simp only[aa8 c.1 (show c.1.length<=10^9 by omega),ab];cases c.2.2;rfl;simp only[ai,ae,ab,cC];have hpo:=S9 (l:=c.1);generalize kc c.1=p at hpo⊢;cases hp:p.2.2.2;rfl;have hpo:=hpo hp;have h16:=(Jp hpo.1).1;have hg:=SQ l m d p.1;simp only[ai,ae,ab,cC,agP l m d p.1 hl hm (show p.1.length<=10^9 by omega) (λq hq=>Int.le_trans (hpo.2 q hq) (by omega))];grind[Ya,akv,ab,NG,anR]
theorem R8 (l:ar aC)(m:bp)(d:Int)(r:kl): ((mf l m d r).2.2=0->(mf l m d r).1=r)/\((mf l m d r).2.2≠0->0<dv r/\fT r=true/\fT (mf l m d r).1=true/\dv (mf l m d r).1<dv r)/\(mf l m d r).2.1.length<=320/\(∀x∈(mf l m d r).2.1,x.length<=382)/\((mf l m d r).2.2=0\/(mf l m d r).2.2=1\/(mf l m d r).2.2=2):=by
 unfold mf;cases hc: !fT r||(dv r==0)with
 |true=>grind
 |false=>
  simp only[dy,ef,cz]at hc;have hu:=ov hc.1;have hch:fT (fi l m d r).2.1=true/\dv (fi l m d r).2.1<dv r:=by have:=SI l m d (dv r).toNat [] r hc.1 rfl;grind[fi]
  grind[akp]
def tq (l:ar aC)(m:bp)(d:Int):Nat->bp->Nat->Nat->kl->kl×bp×Int×Int
 |0,fr,dn,bd,r=>(r,fr,(dn:Int),(bd:Int))
 |n+1,fr,dn,bd,r=>
  bif (mf l m d r).2.2==0 then(r,fr,(dn:Int),(bd:Int)) else
  bif (mf l m d r).2.2==1 then tq l m d n (fr++(mf l m d r).2.1) (dn+1) bd (mf l m d r).1 else
  tq l m d n (fr++(mf l m d r).2.1) dn (bd+1) (mf l m d r).1
def lL (l:ar aC)(m:bp)(d:Int)(r:kl):kl×bp×Int×Int:=tq l m d 17 [] 0 0 r
theorem O9 (l:ar aC)(m:bp)(d:Int)(hl:l.length<=10^9)(hm:m.length<=10^9):∀(n:Nat)(fr:bp)(dn bd:Nat)(r:kl)(f:Nat),n<f->(fT r=true->dv r<n)->0<n->fr.length+320*n<=10000->dn+bd+n<=1000->
 aH (pt (λy2 y3 y4 _ _ _ _ y9=>some (y9,y2,y3,y4)) l d ([]:bp) 0 0 m (0,0,0,0)) f (fr,(dn:Int),(bd:Int),r)=some (tq l m d n fr dn bd r)
 |0,fr,dn,bd,r,f,_,_,h0,_,_=>by omega
 |n+1,fr,dn,bd,r,0,hf,_,_,_,_=>by omega
 |n+1,fr,dn,bd,r,f+1,hf,hr,_,iA,hc=>by have ok:=R8 l m d r;rw[aH,tq];simp only[pt,afQ l m d r hl hm,ab];generalize mf l m d r=x at ok⊢;cases h0:x.2.2==0 with|true=>grind|false=>have hk:=ok.2.1 (by simpa using h0);have hu:=hr hk.2.1;have hu2:=(ov hk.2.2.1).1;simp only[ae];cases x.2.2==1 with|true=>simp only[af];rw[aQ (by omega),aj (by omega) (by omega)];exact O9 l m d hl hm n _ (dn+1) bd _ f (by omega) (λ_=>by omega) (by omega) (by rw[ay];omega) (by omega)|false=>simp only[ae];rw[aQ (by omega),aj (by omega) (by omega)];exact O9 l m d hl hm n _ dn (bd+1) _ f (by omega) (λ_=>by omega) (by omega) (by rw[ay];omega) (by omega)
theorem Pm (l:ar aC)(m:bp)(d:Int)(hl:l.length<=10^9)(hm:m.length<=10^9):∀(n:Nat)(fr:bp)(dn bd:Nat)(r:kl)(f:Nat),n<f->(fT r=true->dv r<n)->0<n->fr.length+320*n<=10000->dn+bd+n<=1000->
 aH (pG (λy2 y3 y4 _ _ _ _ y9=>some (y9,y2,y3,y4)) l d ([]:bp) 0 0 m (0,0,0,0)) f (fr,(dn:Int),(bd:Int),r)=some (tq l m d n fr dn bd r)
 |0,fr,dn,bd,r,f,_,_,h0,_,_=>by omega
 |n+1,fr,dn,bd,r,0,hf,_,_,_,_=>by omega
 |n+1,fr,dn,bd,r,f+1,hf,hr,_,iA,hc=>by have ok:=R8 l m d r;rw[aH,tq];simp only[pG,agT l m d r hl hm,ab];generalize mf l m d r=x at ok⊢;cases h0:x.2.2==0 with|true=>rfl|false=>have hk:=ok.2.1 (by simpa using h0);have hu:=hr hk.2.1;have hu2:=(ov hk.2.2.1).1;simp only[ae];rw[aQ (by omega)];cases x.2.2==1 with|true=>simp only[af];rw[aj (by omega) (by omega)];exact Pm l m d hl hm n _ (dn+1) bd _ f (by omega) (λ_=>by omega) (by omega) (by rw[ay];omega) (by omega)|false=>simp only[ae];rw[aj (by omega) (by omega)];exact Pm l m d hl hm n _ dn (bd+1) _ f (by omega) (λ_=>by omega) (by omega) (by rw[ay];omega) (by omega)
theorem ajF (l:ar aC)(m:bp)(d:Int)(r:kl)(hl:l.length<=10^9)(hm:m.length<=10^9):wi l m d r=some (lL l m d r):=by have Ae:=da;unfold wi;exact O9 l m d hl hm 17 [] 0 0 r fuel (by omega) (λh=>by have:=(ov h).2;omega) (by omega) (by simp) (by omega)
theorem akM (l:ar aC)(m:bp)(d:Int)(r:kl)(hl:l.length<=10^9)(hm:m.length<=10^9):xb l m d r=some (lL l m d r):=by have Ae:=da;unfold xb;exact Pm l m d hl hm 17 [] 0 0 r fuel (by omega) (λh=>by have:=(ov h).2;omega) (by omega) (by simp) (by omega)
theorem Gs (l:ar aC)(m:bp)(d:Int):∀(n:Nat)(fr:bp)(dn bd:Nat)(r:kl),(∀x∈fr,x.length<=382)->
 (tq l m d n fr dn bd r).2.1.length<=fr.length+320*n/\(∀x∈(tq l m d n fr dn bd r).2.1,x.length<=382)/\0<=(tq l m d n fr dn bd r).2.2.1/\(tq l m d n fr dn bd r).2.2.1<=(dn+n:Nat)/\0<=(tq l m d n fr dn bd r).2.2.2/\(tq l m d n fr dn bd r).2.2.2<=(bd+n:Nat)
 |0,fr,dn,bd,r,h=>⟨ba _,h,by show(0:Int)<=(dn:Int);omega,by show(dn:Int)<=_;omega,by show(0:Int)<=(bd:Int);omega,by show(bd:Int)<=_;omega⟩
 |n+1,fr,dn,bd,r,h=>by
  have ok:=R8 l m d r;rw[tq];generalize mf l m d r=x at ok⊢;have h2:∀y∈fr++x.2.1,y.length<=382:=λy hy=>by grind
  cases x.2.2==0 with|true=>grind|false=>cases x.2.2==1 with|true=>have i:=Gs l m d n (fr++x.2.1) (dn+1) bd x.1 h2;grind|false=>have i:=Gs l m d n (fr++x.2.1) dn (bd+1) x.1 h2;grind
def alw (v:Vector):Bool:=bif decide (v.2.2.1>=1) then(bif decide (v.2.2.1>=v.1) then true else decide (v.2.2.2.1>=v.2.1)) else false
theorem aoU (v:Vector):Jh v=some (alw v):=by unfold Jh alw;cases decide (v.2.2.1>=1);all_goals simp_all
theorem api (v:Vector):vC v=some (alw v):=by unfold vC alw;cases decide (v.2.2.1>=1);all_goals simp_all
def L3 (v:Vector):Vector:=bif alw v&& !v.2.2.2.2.1 then(v.1,v.2.1,v.2.2.1,v.2.2.2.1,v.2.2.2.2.1,true) else v
theorem RL (v:Vector):rG v=some (L3 v):=by grind[rG,L3,aoU,ab]
theorem So (v:Vector):oV v=some (L3 v):=by grind[oV,L3,api,ab]
def upM (n:Int):Int:=if 1000000<ak (n+1) then 1000000 else ak (n+1)
theorem aix (n:Int):(if ak (n+1)<1000000 then ak (n+1) else 1000000)=upM n:=by grind[upM]
def evV (v:Vector):Vector:=bif uq v then L3 (v.1,v.2.1,upM v.2.2.1,v.2.2.2) else v
theorem ajg (v:Vector):Dd v=some (evV v):=by unfold Dd evV;rw[GP,ab,RL,ab];cases uq v<;>rfl
theorem akr (v:Vector):DH v=some (evV v):=by grind[DH,evV,CY,ab,aix,So]
def aet (v:Vector):Vector:=bif uq v then(bif decide (v.2.2.1>0) then L3 (v.1,v.2.1,v.2.2.1,upM v.2.2.2.1,v.2.2.2.2) else L3 v) else v
theorem ajE (v:Vector):yD v=some (aet v):=by unfold yD aet;simp only[GP,ab,RL];cases uq v;rfl;cases decide (v.2.2.1>0)<;>rfl
theorem akL (v:Vector):yU v=some (aet v):=by grind[yU,aet,CY,ab,aix,So]
def LD (v:Vector):Vector×Bool:=bif uq v&&v.2.2.2.2.2 then((v.1,v.2.1,0,0,true,false),true) else(v,false)
theorem ajD (v:Vector):rE v=some (LD v):=by grind[rE,LD,GP,ab]
theorem akK (v:Vector):rZ v=some (LD v):=by grind[rZ,LD,CY,ab]
def Rh (v:Vector):Vector:=bif uq v then L3 (v.1,v.2.1,v.2.2.1,v.2.2.2.1,false,v.2.2.2.2.2) else v
theorem VF (v:Vector):Ec v=some (Rh v):=by grind[Ec,Rh,GP,ab,RL]
theorem Wt (v:Vector):Ez v=some (Rh v):=by grind[Ez,Rh,CY,ab,So]
structure mE (k:Nat) (a b:Host):Prop where
 mem:b.1.length=a.1.length
 maps:b.2.1=a.2.1
 tx:b.2.2.1=a.2.2.1
 rx:b.2.2.2.1.length=a.2.2.2.1.length
 rxs:∀j,k<=j->b.2.2.2.1[j]?=a.2.2.2.1[j]?
 pl:b.2.2.2.2.1.length=a.2.2.2.2.1.length
 vec:b.2.2.2.2.2.1.length=a.2.2.2.2.2.1.length
 aeI:∀j,k<=j->b.2.2.2.2.2.1[j]?=a.2.2.2.2.2.1[j]?
 pol:b.2.2.2.2.2.2.1.length=a.2.2.2.2.2.2.1.length
 flt:b.2.2.2.2.2.2.2.1=a.2.2.2.2.2.2.2.1
 ste:b.2.2.2.2.2.2.2.2.1=a.2.2.2.2.2.2.2.2.1
theorem mE.refl (k:Nat)(a:Host):mE k a a:=⟨rfl,rfl,rfl,rfl,λ_ _=>rfl,rfl,rfl,λ_ _=>rfl,rfl,rfl,rfl⟩
theorem mE.trans {a b c:Host}(h:mE k a b)(g:mE k b c):mE k a c:=⟨g.mem.trans h.mem,g.maps.trans h.maps,g.tx.trans h.tx,g.rx.trans h.rx,λj hj=>(g.rxs j hj).trans (h.rxs j hj),g.pl.trans h.pl,g.vec.trans h.vec,λj hj=>(g.aeI j hj).trans (h.aeI j hj),g.pol.trans h.pol,g.flt.trans h.flt,g.ste.trans h.ste⟩
theorem mE.up {m:Nat}{a b:Host}(h:mE k a b)(hk:k<=m):mE m a b:=⟨h.mem,h.maps,h.tx,h.rx,λj hj=>h.rxs j (by omega),h.pl,h.vec,λj hj=>h.aeI j (by omega),h.pol,h.flt,h.ste⟩
def iV (g:Nat->Host->Host):Nat->Host->Host
 |0,h=>h
 |k+1,h=>g k (iV g k h)
theorem xh (hg:∀k h,mE (k+1) h (g k h))(h:Host):∀k,mE k h (iV g k h)
 |0=>mE.refl 0 h
 |k+1=>((xh hg h k).up (by omega)).trans (hg k _)
theorem Hz {d n:Nat}(hn:1000<=n)(hg:∀k h m,1000<=m->bt m cS h->bt (m+d) cS (g k h))(z:bt n cS h):∀k,bt (n+d*k) cS (iV g k h)
 |0=>z
 |k+1=>(hg k _ _ (by omega) (Hz hn hg z k)).mono (by rw[Nat.mul_add];omega)
def Cm (i:Nat)(h:Host):Host:=
 match h.2.2.2.2.2.1[i]? with
 |some v=>(h.1,h.2.1,h.2.2.1,h.2.2.2.1,h.2.2.2.2.1,h.2.2.2.2.2.1.set i (aet v),h.2.2.2.2.2.2)
 |none=>h
theorem KZ (i:Nat)(h:Host):mE (i+1) h (Cm i h):=by unfold Cm;cases h.2.2.2.2.2.1[i]? with|none=>exact mE.refl _ _|some v=>exact⟨rfl,rfl,rfl,rfl,λ_ _=>rfl,rfl,aL ..,λj hj=>aZ (by omega),rfl,rfl,rfl⟩
theorem Uu {n:Nat}{l:ar Vector}{i:Nat}{v:Vector}(z:bt n (.sl gZ) l):bt n (.sl gZ) (l.set i v):=qy z ⟨bF,bF,bF,bF,bF,bF⟩
theorem akY (i:Nat)(h:Host)(n:Nat)(hn:1000<=n)(z:bt n cS h):bt (n+0) cS (Cm i h):=by unfold Cm;cases h.2.2.2.2.2.1[i]? with|none=>exact z|some v=>exact⟨z.1,z.2.1,z.2.2.1,z.2.2.2.1,z.2.2.2.2.1,Uu z.2.2.2.2.2.1,z.2.2.2.2.2.2⟩
def EE (h:Host):Host:=bif fy h then iV Cm h.2.2.2.2.2.1.length h else h
theorem an9 {n:Nat}(hn:1000<=n)(z:bt n cS h):bt n cS (EE h)/\(EE h).2.2.1=h.2.2.1:=by unfold EE;cases fy h with|false=>exact⟨z,rfl⟩|true=>exact⟨(Hz hn akY z _).mono,(xh KZ h _).tx⟩
theorem acV (h:Host)(k:LX h)(z:bt 1000000000 cS h):xG h=some (EE h):=by
 have Ae:=da;unfold xG EE;rw[ko h z,ab,As h k,ab];cases hb:fy h;rfl;have hv:h.2.2.2.2.2.1.length<=10^9:=z.2.2.2.2.2.1.1;simp only[ai,ae,af];refine bz (λi=>((i:Int),iV Cm i h)) h.2.2.2.2.2.1.length (by omega) (λi nx hi=>?_) (λnx=>?_);have kk:=xh KZ h i;have i1:i<(iV Cm i h).2.2.2.2.2.1.length:=by rw[kk.vec];exact hi
 rw[show iV Cm (i+1) h=Cm i (iV Cm i h) from rfl];generalize iV Cm i h=s at i1⊢;simp only[vT,Cm];rw[gL,af,al i1];simp only[aN i1,ab,ajE,aw];rw[aj (by omega) (by omega)];rfl;simp only[vT];rw[fG,ae]
theorem aec (h:Host)(k:LX h)(z:bt 1000000000 cS h):yk h=some (EE h):=by
 have Ae:=da;unfold yk EE;rw[kz h z,ab];have hv:h.2.2.2.2.2.1.length<=10^9:=z.2.2.2.2.2.1.1;cases hb:fy h with
 |false=>
  obtain⟨g,hg⟩:∃g,fuel=g+1:=⟨fuel-1,by omega⟩
  rw[hg,aH,qS,vw h k,hb];cases decide ((0:Int)<(h.2.2.2.2.2.1.length:Int))<;>rfl
 |true=>
  simp only[af];refine bz (λi=>((i:Int),iV Cm i h)) h.2.2.2.2.2.1.length (by omega) (λi nx hi=>?_) (λnx=>?_);have kk:=xh KZ h i;have i1:i<(iV Cm i h).2.2.2.2.2.1.length:=by rw[kk.vec];exact hi
  have e1:=kk.aeI i (ba _);rw[al i1,al hi]at e1;have e2:=cY e1;rw[show iV Cm (i+1) h=Cm i (iV Cm i h) from rfl];generalize iV Cm i h=s at i1 e2⊢;simp only[qS,Cm,vw h k,hb];rw[gL,af,al i1];simp only[aN i1,aN hi,ab,akL,aw,af,e2];rw[aj (by omega) (by omega)];rfl;simp only[qS];rw[fG,ae,ab,ae]
structure D8 (n:Nat) (h:Host):Prop where
 z:bt n cS h
 t:h.2.2.1.2.1.2.2.2.length+(cG h.2.2.1.2.2.1).length<=n
theorem D8.mono {n m:Nat}(k:D8 n h)(hn:n<=m:=by omega):D8 m h:=⟨k.z.mono hn,aF k.t hn⟩
theorem D8.sz {n:Nat}(k:D8 n h)(hn:n<=10^9:=by omega):LX h:=by have z:bt 1000000000 cS h:=k.z.mono hn;exact⟨z.1.1,z.2.1.1,z.2.2.1.2.2.1.1,aF k.t hn,z.2.2.2.2.2.2.2.1.2.2.1,z.2.2.2.2.2.2.2.2.1.1.1,z.2.2.2.2.2.2.2.2.1.2.1.1,z.2.2.2.2.2.2.2.2.1.2.2.2.1,λp hp=>(z.2.2.2.2.1.2 p hp).2.2.2.1⟩
theorem D8.of (k:mm cS h<=1048576):D8 1048576 h:=by refine⟨KU k,?_⟩;have hb:=ahz h.2.2.1.2.2.1;simp_all[mm];omega
def zH (p:cJ):ar ie->cJ
 |[]=>p
 |x::l=>zH (Vi p x.2.2).1 l
theorem Nm:∀(l:ar ie)(p:cJ),(zH p l).2.2.2.length<=p.2.2.2.length+(cG l).length
 |[],p=>by simp[zH]
 |x::l,p=>by have h1:=acg p x.2.2;have h2:=Nm l (Vi p x.2.2).1;grind[zH,cG]
theorem RI:∀(l:ar ie)(p:cJ)(x:ie),zH p (l++[x])=(Vi (zH p l) x.2.2).1
 |[],p,x=>rfl
 |y::l,p,x=>by rw[List.cons_append,zH,zH,RI l]
theorem UK (a b:ar ie):(cG (a++b)).length=(cG a).length+(cG b).length:=by grind[cG]
theorem UL (l:ar ie)(n:Nat):(cG (l.take n)).length+(cG (l.drop n)).length=(cG l).length:=by rw[<-UK,cK]
def nz (t:bX)(n:Int):bX×cI:=
 bif Tv t&&du n 0 (t.2.2.1.length:Int) then((t.1,zH t.2.1 (t.2.2.1.take n.toNat),t.2.2.1.drop n.toNat,t.2.2.2),(t.2.2.1.take n.toNat).map (·.1)) else(t,[])
theorem aih {l:ar ie}(h:(cG l).length<=10^9:=by omega):∀x∈l,x.2.2.length<=10^9:=by intro x hx;induction l with|nil=>cases hx|cons y l ih=>grind[cG]
theorem aaj (t:bX)(n:Int)(hw:t.2.2.1.length<=10^9)(hs:t.2.1.2.2.2.length+(cG t.2.2.1).length<=10^9):nT t n=some (nz t n):=by
 have hx:=aih (l:=t.2.2.1);unfold nT nz;rw[O6 t ⟨by omega,hw,hx⟩,ab,afX t hw hs];simp only[ab,cr];cases Tv t;rfl;cases hn:du n 0 (t.2.2.1.length:Int);rfl;have h:=bq.1 hn;obtain⟨n,rfl⟩:=aD h.1;have hl:n<=t.2.2.1.length:=by omega
 simp only[ai,ae,ab,cB,af,aw];rw[D4 (by omega) (by omega),ab,aw];have htl:(t.2.2.1.take n).length=n:=by rw[bm];omega
 rw[htl];refine bz (λi=>(((t.2.2.1.take i).map (·.1),(i:Int),t.1,zH t.2.1 (t.2.2.1.take i),t.2.2):cI×Int×bX)) n (by omega) (λi nx hi=>?_) (λnx=>?_);have SU:i<(t.2.2.1.take n).length:=by omega
 have hi3:i<t.2.2.1.length:=by omega
 have e1:(t.2.2.1.take n)[i]=t.2.2.1[i]:=List.getElem_take ..;have g1:=Nm (t.2.2.1.take i) t.2.1;have g2:=UL t.2.2.1 (i+1);have g3:(cG (t.2.2.1.take (i+1))).length=(cG (t.2.2.1.take i)).length+t.2.2.1[i].2.2.length:=by rw[aO hi3,UK];simp[cG]
 simp only[lj];rw[gL,af,aN SU,e1,ab,VA _ _ (by omega),ab,aQ (by simp only[bW,bm,aS];omega),aj (by omega) (by omega),aO hi3,RI,eu];rfl;simp only[lj];rw[fG,ae,xi (l:=t.2.2.1) n hl rfl,ab,Qd _ (by rw[bl];omega) (λx Fe=>hx x (List.mem_of_mem_drop Fe)),ab]
theorem aa0 (t:bX)(n:Int)(hw:t.2.2.1.length<=10^9)(hs:t.2.1.2.2.2.length+(cG t.2.2.1).length<=10^9):oy t n=some (nz t n):=by
 have hx:=aih (l:=t.2.2.1);unfold oy nz;rw[Hv t ⟨by omega,hw,hx⟩,ab,agY t hw hs];simp only[ab,cm];cases Tv t;rfl;cases hn:du n 0 (t.2.2.1.length:Int);rfl;have h:=bq.1 hn;obtain⟨n,rfl⟩:=aD h.1;have hl:n<=t.2.2.1.length:=by omega
 simp only[ai,ae,ab,cB,af,aw];refine bz (λi=>(((t.2.2.1.take i).map (·.1),(i:Int),t.1,zH t.2.1 (t.2.2.1.take i),t.2.2):cI×Int×bX)) n (by omega) (λi nx hi=>?_) (λnx=>?_);have hi3:i<t.2.2.1.length:=by omega
 have g1:=Nm (t.2.2.1.take i) t.2.1;have g2:=UL t.2.2.1 (i+1);have g3:(cG (t.2.2.1.take (i+1))).length=(cG (t.2.2.1.take i)).length+t.2.2.1[i].2.2.length:=by rw[aO hi3,UK];simp[cG]
 simp only[lq];rw[gL,af,aN hi3,ab,aQ (by simp only[bW,bm,aS];omega),ab,Wp _ _ (by omega),ab,aj (by omega) (by omega),aO hi3,RI,eu];rfl;simp only[lq];rw[fG,ae,xi (l:=t.2.2.1) n hl rfl,ab]
theorem XW (n:Int):∀l:ar ie,l.all (jR n)=true->(l.length:Int)<=eK l
 |[],_=>by simp[eK]
 |x::l,h=>by simp only[bV,ah]at h;have:=XW n l h.2;grind[jR,bq,eK]
theorem K0 {t:bX}(h:Tv t=true):t.2.2.1.length<=16:=by unfold Tv at h;simp only[ah,bK]at h;have h1:=XW _ _ h.2.2.2.1;have h2:=(tY h.1).2.2.1;omega
theorem JO {t:bX}(n:Int)(z:bt k uz t)(hs:t.2.1.2.2.2.length+(cG t.2.2.1).length<=k): bt k uz (nz t n).1/\(nz t n).1.2.1.2.2.2.length+(cG (nz t n).1.2.2.1).length<=k/\(nz t n).2.length<=16:=by unfold nz;cases h:Tv t&&du n 0 (t.2.2.1.length:Int)with|false=>exact⟨z,hs,eh _⟩|true=>simp only[ah]at h;have h16:=K0 h.1;have g1:=Nm (t.2.2.1.take n.toNat) t.2.1;have g2:=UL t.2.2.1 n.toNat;have hw:t.2.2.1.length<=k:=z.2.2.1.1;refine⟨⟨z.1,⟨bF,bF,bF,?_,λ_ _=>trivial⟩,⟨?_,λx hx=>z.2.2.1.2 x (List.mem_of_mem_drop hx)⟩,z.2.2.2⟩,?_,?_⟩;show(zH t.2.1 (t.2.2.1.take n.toNat)).2.2.2.length<=k;omega;show(t.2.2.1.drop n.toNat).length<=k;rw[bl];omega;show(zH t.2.1 (t.2.2.1.take n.toNat)).2.2.2.length+(cG (t.2.2.1.drop n.toNat)).length<=k;omega;show((t.2.2.1.take n.toNat).map (·.1)).length<=16;rw[bW,bm];omega
theorem Ji {n:Nat}{t:CT}{l q:ar t.D}(z:bt n (.sl t) l)(hq:∀y∈q,bt n t y)(hk:q.length<=k):bt (n+k) (.sl t) (l++q):=by refine⟨?_,λy hy=>?_⟩;show(l++q).length<=n+k;have:=z.1;rw[ay];omega;rcases aA.1 hy with h|h;exact(z.2 y h).mono;exact(hq y h).mono
def gY (h:Host):Host:=bif fy h then
    (h.1,h.2.1,(nz ((lL h.2.1 h.1 0 h.2.2.1.1).1,h.2.2.1.2) (if(h.2.2.1.2.2.1.length:Int)<ak ((lL h.2.1 h.1 0 h.2.2.1.1).2.2.1+(lL h.2.1 h.1 0 h.2.2.1.1).2.2.2) then(h.2.2.1.2.2.1.length:Int) else ak ((lL h.2.1 h.1 0 h.2.2.1.1).2.2.1+(lL h.2.1 h.1 0 h.2.2.1.1).2.2.2))).1,
      h.2.2.2.1,h.2.2.2.2.1,h.2.2.2.2.2.1,h.2.2.2.2.2.2.1,h.2.2.2.2.2.2.2.1,h.2.2.2.2.2.2.2.2.1,h.2.2.2.2.2.2.2.2.2.1,h.2.2.2.2.2.2.2.2.2.2.1,h.2.2.2.2.2.2.2.2.2.2.2.1++(lL h.2.1 h.1 0 h.2.2.1.1).2.1,
      h.2.2.2.2.2.2.2.2.2.2.2.2.1++(nz ((lL h.2.1 h.1 0 h.2.2.1.1).1,h.2.2.1.2) (if(h.2.2.1.2.2.1.length:Int)<ak ((lL h.2.1 h.1 0 h.2.2.1.1).2.2.1+(lL h.2.1 h.1 0 h.2.2.1.1).2.2.2) then(h.2.2.1.2.2.1.length:Int) else ak ((lL h.2.1 h.1 0 h.2.2.1.1).2.2.1+(lL h.2.1 h.1 0 h.2.2.1.1).2.2.2))).2,h.2.2.2.2.2.2.2.2.2.2.2.2.2) else h
theorem Qq (h:Host)(k:D8 900000000 h):nX h=some (gY h):=by have z:bt 1000000000 cS h:=k.z.mono;have hz:=k.sz;have hm:h.1.length<=900000000:=k.z.1.1;have hl:h.2.1.length<=900000000:=k.z.2.1.1;have hw:h.2.2.1.2.2.1.length<=900000000:=k.z.2.2.1.2.2.1.1;have hwi:h.2.2.2.2.2.2.2.2.2.2.2.1.length<=900000000:=k.z.2.2.2.2.2.2.2.2.2.2.2.1.1;have hco:h.2.2.2.2.2.2.2.2.2.2.2.2.1.length<=900000000:=k.z.2.2.2.2.2.2.2.2.2.2.2.2.1.1;have hA:=Gs h.2.1 h.1 0 17 [] 0 0 h.2.2.1.1 (λx hx=>by cases hx);unfold nX gY;rw[ko h z,ab,As h hz,ab];cases fy h;rfl;simp only[ai,ae,af,ajF h.2.1 h.1 0 _ (show h.2.1.length<=10^9 by omega) (show h.1.length<=10^9 by omega),ab];rw[show tq h.2.1 h.1 0 17 [] 0 0 h.2.2.1.1=lL h.2.1 h.1 0 h.2.2.1.1 from rfl]at hA;generalize lL h.2.1 h.1 0 h.2.2.1.1=x at hA⊢;simp only[eo]at hA;have hC:=JO (k:=900000000) (t:=(x.1,h.2.2.1.2)) (if(h.2.2.1.2.2.1.length:Int)<ak (x.2.2.1+x.2.2.2) then(h.2.2.1.2.2.1.length:Int) else ak (x.2.2.1+x.2.2.2)) ⟨⟨bF,bF,bF,bF⟩,k.z.2.2.1.2⟩ k.t;rw[aQ (by omega),aaj (x.1,h.2.2.1.2) _ (by grind) (aF k.t (by omega)),ab,aQ (by omega)]
theorem Q4 (h:Host)(k:D8 900000000 h):oD h=some (gY h):=by have z:bt 1000000000 cS h:=k.z.mono;have hz:=k.sz;have hm:h.1.length<=900000000:=k.z.1.1;have hl:h.2.1.length<=900000000:=k.z.2.1.1;have hw:h.2.2.1.2.2.1.length<=900000000:=k.z.2.2.1.2.2.1.1;have hwi:h.2.2.2.2.2.2.2.2.2.2.2.1.length<=900000000:=k.z.2.2.2.2.2.2.2.2.2.2.2.1.1;have hco:h.2.2.2.2.2.2.2.2.2.2.2.2.1.length<=900000000:=k.z.2.2.2.2.2.2.2.2.2.2.2.2.1.1;have hA:=Gs h.2.1 h.1 0 17 [] 0 0 h.2.2.1.1 (λx hx=>by cases hx);unfold oD gY;rw[kz h z,ab,vw h hz,ab];cases fy h;rfl;simp only[ai,ae,af,akM h.2.1 h.1 0 _ (show h.2.1.length<=10^9 by omega) (show h.1.length<=10^9 by omega),ab];rw[show tq h.2.1 h.1 0 17 [] 0 0 h.2.2.1.1=lL h.2.1 h.1 0 h.2.2.1.1 from rfl]at hA;generalize lL h.2.1 h.1 0 h.2.2.1.1=x at hA⊢;simp only[eo]at hA;have hC:=JO (k:=900000000) (t:=(x.1,h.2.2.1.2)) (if(h.2.2.1.2.2.1.length:Int)<ak (x.2.2.1+x.2.2.2) then(h.2.2.1.2.2.1.length:Int) else ak (x.2.2.1+x.2.2.2)) ⟨⟨bF,bF,bF,bF⟩,k.z.2.2.1.2⟩ k.t;rw[aQ (by omega),aa0 (x.1,h.2.2.1.2) _ (by grind) (aF k.t (by omega)),ab,aQ (by omega)]
theorem F9 {n:Nat}(hn:400<=n)(k:D8 n h):D8 (n+5440) (gY h):=by have k':D8 (n+5440) h:=k.mono;have hA:=Gs h.2.1 h.1 0 17 [] 0 0 h.2.2.1.1 (λx hx=>by cases hx);unfold gY;cases fy h;exact k';rw[show tq h.2.1 h.1 0 17 [] 0 0 h.2.2.1.1=lL h.2.1 h.1 0 h.2.2.1.1 from rfl]at hA;generalize lL h.2.1 h.1 0 h.2.2.1.1=x at hA⊢;simp only[eo]at hA;generalize (if(h.2.2.1.2.2.1.length:Int)<ak (x.2.2.1+x.2.2.2) then(h.2.2.1.2.2.1.length:Int) else ak (x.2.2.1+x.2.2.2))=q;have hC:=JO (k:=n) (t:=(x.1,h.2.2.1.2)) q ⟨⟨bF,bF,bF,bF⟩,k.z.2.2.1.2⟩ k.t;have z:=k'.z;refine⟨⟨z.1,z.2.1,hC.1.mono,z.2.2.2.1,z.2.2.2.2.1,z.2.2.2.2.2.1,z.2.2.2.2.2.2.1,z.2.2.2.2.2.2.2.1,z.2.2.2.2.2.2.2.2.1,z.2.2.2.2.2.2.2.2.2.1,bF,?_,?_,z.2.2.2.2.2.2.2.2.2.2.2.2.2⟩,aF hC.2.1 (by omega)⟩;exact Ji (t:=.str) (n:=n) (k:=5440) k.z.2.2.2.2.2.2.2.2.2.2.2.1 (λy hy=>by show y.length<=_;grind) (by omega);exact(Ji (t:=.int .i64) (n:=n) (k:=16) k.z.2.2.2.2.2.2.2.2.2.2.2.2.1 (λ_ _=>trivial) hC.2.2).mono
def Fb (l:ar aC)(d:Int)(p:cJ)(z:Nat):cI->Bytes->bp->ar fH->au (ar fH×bp)
 |[],_,m,a=>some (a,m)
 |b::q,s,m,a=>bif (oQ l m d (nq p b) (s.take z) false).2 then Fb l d p z q (s.drop z) (oQ l m d (nq p b) (s.take z) false).1 (a++[(nq p b,((s.take z).length:Int))]) else none
theorem PW (l:ar aC)(d:Int)(p:cJ)(z:Nat):∀(q:cI)(s:Bytes)(m:bp)(a:ar fH){x},Fb l d p z q s m a=some x->
 x.2.length=m.length/\x.1.length=a.length+q.length/\∀y∈x.1,y∈a\/((∃b∈q,y.1=nq p b)/\0<=y.2/\y.2<=(z:Int))
 |[],s,m,a,x,h=>by cases h;exact⟨rfl,rfl,λy hy=>Or.inl hy⟩
 |b::q,s,m,a,x,h=>by rw[Fb]at h;cases hq:(oQ l m d (nq p b) (s.take z) false).2 with|false=>rw[hq]at h;cases h|true=>rw[hq]at h;obtain⟨h1,h2,h3⟩:=PW l d p z q _ _ _ h;rw[mQ]at h1;rw[ay,aS]at h2;refine⟨h1,by rw[bJ];omega,λy hy=>?_⟩;rcases h3 y hy with g|⟨⟨b',ig,g⟩,g2⟩;rcases aA.1 g with g|g;exact Or.inl g;rw[dC.1 g];refine Or.inr ⟨⟨b,List.mem_cons_self ..,rfl⟩,?_,?_⟩;show(0:Int)<=((s.take z).length:Int);omega;show((s.take z).length:Int)<=(z:Int);rw[bm];omega;exact Or.inr ⟨⟨b',dK _ ig,g⟩,g2⟩
theorem T1 (p:cJ)(i:Int): -1<=nq p i/\nq p i<=139136:=by unfold nq;cases hb: !ga p|| !du i 0 (p.2.2.1-1)with|true=>grind|false=>simp only[dy,ef]at hb;have h:=Ii hb.1;have h2:=bq.1 hb.2;have h3:0<=i*p.2.1:=Int.mul_nonneg h2.1 (by omega);have h4:i*p.2.1<=16*512:=Int.mul_le_mul (by omega) (by omega) (by omega) (by omega);simp only[ae];omega
theorem alo {p:cJ}(hp:ga p=true){b:Int}(hb:b∈p.2.2.2):0<=nq p b:=by obtain⟨i,hi,rfl⟩:=List.getElem_of_mem hb;have hq:=hp;simp only[ga,ah]at hq;have:=aP.1 hq.2.2.2 i (bU.2 hi);simp only[Md,ah,dx hi]at this;have hn:=this.1;have h:=Ii hp;have h2:=bq.1 hn;have h3:0<=p.2.2.2[i]*p.2.1:=Int.mul_nonneg h2.1 (by omega);grind[nq]
theorem aer (s:Bytes)(z:Nat):sub s 0 (if(s.length:Int)<(z:Int) then(s.length:Int) else(z:Int))=some (s.take z):=by grind[D4,bN]
theorem abO (s:Bytes)(z:Nat):sub s ((s.take z).length:Int) (s.length:Int)=some (s.drop z):=by grind[Jz,List.drop_eq_nil_of_le]
def alb:au (ar fH×bp)->au (Bool×bp×ar fH×Bool)->Prop
 |some x,r=>r=some (true,x.2,x.1,true)
 |none,r=>∃c m,r=some (c,m,[],false)
theorem Oe (l:ar aC)(d:Int)(p:cJ)(z:Nat)(B:bp)(hp:p.2.2.2.length<=10^9)(hl:l.length<=10^9):∀(rest pre:cI)(s:Bytes)(m:bp)(a:ar fH)(f:Nat),rest.length<f->(pre++rest).length<=1000000->a.length+rest.length<=1000000->m.length<=10^9->
 alb (Fb l d p z rest s m a) (aH (lP (λ_ Ad _ LQ=>some (true,LQ,Ad,true)) (λ_ y18 y19 _ _ _ y23=>some (true,y23,y18,y19)) l d (z:Int) ([]:ar fH) false (pre++rest) ((pre++rest).length:Int) p B) f (s,a,(pre.length:Int),m))
 |rest,pre,s,m,a,0,hf,_,_,_=>by omega
 |[],pre,s,m,a,f+1,_,_,_,_=>by rw[aH];simp only[lP];rw[aq (by simp),ae];rfl
 |b::q,pre,s,m,a,f+1,hf,hn,ha,hm=>by
  simp only[bJ,ay]at hf hn ha;have hi:pre.length<(pre++b::q).length:=by simp
  have hb:(pre++b::q)[pre.length]=b:=by simp
  have hA:=T1 p b;rw[aH];simp only[lP];rw[ax (by simp;omega),aN hi,hb];simp only[af,ab,aer,abO,Qc p b hp,IB l m d (nq p b) (s.take z) hl hm];rw[Fb];cases hq:(oQ l m d (nq p b) (s.take z) false).2 with|false=>exact⟨_,_,rfl⟩|true=>simp only[ai,ae,af];rw[aj (n:=(pre.length:Int)+1) (by omega) (by omega),aQ (by grind)];have key:=Oe l d p z B hp hl q (pre++[b]) (s.drop z) (oQ l m d (nq p b) (s.take z) false).1 (a++[(nq p b,((s.take z).length:Int))]) f (by omega) (by simp;omega) (by simp;omega) (by rw[mQ];exact hm);grind
theorem ajl (l:ar aC)(m:bp)(d:Int)(p:cJ)(q:cI)(s:Bytes)(z:Nat)(hp:p.2.2.2.length<=10^9)(hl:l.length<=10^9)(hm:m.length<=10^9)(hq:q.length<=1000)(h0:0<q.length): alb (Fb l d p z q s m []) (qg l m d p q s (z:Int)):=by have Ae:=da;cases q with|nil=>cases h0|cons b q=>simp only[bJ]at hq;have hA:=T1 p b;have hi:idx (b::q) 0=some b:=rfl;unfold qg;rw[ax (by simp),af,hi];simp only[ab,aer,abO,Qc p b hp,IB l m d (nq p b) (s.take z) hl hm];rw[Fb];cases hq':(oQ l m d (nq p b) (s.take z) false).2 with|false=>exact⟨_,_,rfl⟩|true=>simp only[ai,ae,af];rw[aQ (by simp),show ak (0+1)=1 from rfl];exact Oe l d p z _ hp hl q [b] (s.drop z) (oQ l m d (nq p b) (s.take z) false).1 [(nq p b,((s.take z).length:Int))] fuel (by omega) (by simp;omega) (by simp;omega) (by rw[mQ];exact hm)
theorem Ox (K:ar fH->Int->bp->au (bp×bX×Bool))(l:ar aC)(d c N:Int)(z:Nat)(t:Bytes)(M:bp)(A B2:bX)(B1:bp)(B3:cJ)(hp:A.2.1.2.2.2.length<=10^9)(hl:l.length<=10^9)(hM:M.length<=10^9)(hA:aeR A)(ht:t.length<=1000)(hz:z<=1000):∀(rest pre:cI)(m:bp)(a:ar fH)(f:Nat),rest.length<f->(pre++rest).length<=1000->a.length+rest.length<=1000000->m.length<=10^9->(∀i<(pre++rest).length,i*z<=t.length)->N=((pre++rest).length:Int)->
 aH (lU K (λy34 _ _ y37 y38 _=>some (y37,y38,y34)) l d c (z:Int) false t N (pre++rest) M A B1 B2 B3) f (a,(pre.length:Int),m)=
  (match Fb l d A.2.1 z rest (t.drop (pre.length*z)) m a with|some x=>K x.1 N x.2|none=>some (M,A,false))
 |rest,pre,m,a,0,hf,_,_,_,_,_=>by omega
 |[],pre,m,a,f+1,_,_,_,_,_,hN=>by rw[aH];simp only[lU];rw[aq (by rw[hN];simp),ae,hN,bD];rfl
 |b::q,pre,m,a,f+1,hf,hn,ha,hm,hiz,hN=>by
  simp only[bJ]at hf ha;have hi:pre.length<(pre++b::q).length:=by simp
  have hb:(pre++b::q)[pre.length]=b:=by simp
  have hB:=T1 A.2.1 b;have h1:=hiz pre.length hi;have h2:(pre.length+1)*z=pre.length*z+z:=Nat.succ_mul ..;have hs:sub t (ak ((pre.length:Int)*(z:Int))) (if ak (ak ((pre.length:Int)+1)*(z:Int))<(t.length:Int) then ak (ak ((pre.length:Int)+1)*(z:Int)) else(t.length:Int))=some ((t.drop (pre.length*z)).take z):=by rw[aj (n:=(pre.length:Int)+1) (by omega) (by omega),show(pre.length:Int)*(z:Int)=((pre.length*z:Nat):Int) by simp,show((pre.length:Int)+1)*(z:Int)=((pre.length*z+z:Nat):Int) by rw[<-h2];simp];generalize pre.length*z=g at h1⊢;rw[aj (n:=(g:Int)) (by omega) (by omega),aj (n:=((g+z:Nat):Int)) (by omega) (by omega)];by_cases iJ:((g+z:Nat):Int)<(t.length:Int);rw[aM iJ];unfold sub;rw[zip];simp only[aw,bf];rw[List.drop_take,Nat.add_sub_cancel_left];rw[aK iJ];unfold sub;rw[zip];simp only[aw,bf];rw[bN (ba _),bN (by rw[bl];omega)]
  rw[aH];simp only[lU];rw[gL,af,hs,aN hi,hb];simp only[ab,Wm A.2.1 b hp,OA l m d (nq A.2.1 b) _ hl hm (show nq A.2.1 b<=9223372036854775807 by omega)];rw[Fb];cases hq:(oQ l m d (nq A.2.1 b) ((t.drop (pre.length*z)).take z) false).2 with
  |false=>simp only[bB,af,ae,iT M,Hv A hA,ab]
  |true=>
   simp only[ai,ae,af];rw[aj (n:=(pre.length:Int)+1) (by omega) (by omega),aQ (by simp only[aS];omega)];have key:=Ox K l d c N z t M A B2 B1 B3 hp hl hM hA ht hz q (pre++[b]) (oQ l m d (nq A.2.1 b) ((t.drop (pre.length*z)).take z) false).1 (a++[(nq A.2.1 b,(((t.drop (pre.length*z)).take z).length:Int))]) f (by omega) (by simpa using hn) (by simp;omega) (by rw[mQ];exact hm) (by simpa using hiz) (by simpa using hN);have el:((pre++[b]).length:Int)=(pre.length:Int)+1:=by simp
   have el2:(pre++[b]).length=pre.length+1:=by simp
   rw[aX,List.singleton_append,el,el2,h2,<-eO]at key;exact key
theorem alv {ps:ar fH}{z:Int}(h0:0<ps.length)(h16:ps.length<=16)(hp:∀x∈ps,0<=x.1/\x.1<=200000/\0<=x.2/\x.2<=4096)(hz:du z 1 128=true)(hc:du c 0 65535=true):(rb ps z c).length=ps.length+1:=by
 have hz2:=bq.1 hz;have hc2:=bq.1 hc;have e1:nd ps=true:=by unfold nd;rw[ah,aW,bK];refine⟨List.any_eq_false.2 λx hx=>?_,by omega⟩;have:=hp x hx;unfold Es;rw[fG,cC,aW,Bool.eq_false_iff];intro h;exact h (bq.2 (by omega))
 have e2:([((2:Int),(0:Int),(0:Int),(0:Int),z,c)]++xA ps c ps.length).all uD=true:=by rw[List.all_append,ah];constructor;simp only[bV,List.all_nil,gw,uD,ah,bq];omega;rw[Nc];refine aP.2 λj hj=>?_;have hj:=bU.1 hj;have:=hp _ (aE hj);simp only[dsc,dx hj,uD,ah,bq];refine⟨by omega,?_,by omega,by omega,by omega,by omega⟩;by_cases hq:j+1=ps.length;rw[aM hq];omega;rw[aK hq];omega
 unfold rb;rw[e1,hz,e2,show((ps.length:Int)==0)=false from by rw[cz];omega];simp only[ai,bO,ae,af,ay,aS,Gd];omega
theorem acJ (K:bp->Int->au R)(l:ar aC)(d:Int)(q:cI)(ds ds2:ar jg)(t1 t2 t3 t4:bX)(m1 m2 m3:bp)(h:ds.length<=1000): aH (gD K l d q ds2 ds (ds.length:Int) t1 m1 t2 m2 t3 t4 m3) fuel (([]:bp),0)=K (ds.map Fl) (ds.length:Int):=by
 have Ae:=da;refine bz (λi=>((ds.take i).map Fl,(i:Int))) ds.length (by omega) (λi nx hi=>?_) (λnx=>?_);have e:((ds.take i).map Fl).length<=1000:=by simp;omega
 rw[aO hi,eu];simp only[gD];rw[gL,af,aN hi,ab,aam,ab,aQ (by simp only[aS];omega),aj (by omega) (by omega)];rfl;simp only[gD];rw[fG,ae,bA]
theorem adZ (K:bp->Int->au R)(l:ar aC)(d n:Int)(q:cI)(ds:ar jg)(t1 t2:bX)(p:cJ)(m1 m2 m3:bp)(h:ds.length<=1000): aH (lV K l d n q ds m1 t1 m2 t2 p m3) fuel (([]:bp),0)=K (ds.map Fl) (ds.length:Int):=by
 have Ae:=da;refine bz (λi=>((ds.take i).map Fl,(i:Int))) ds.length (by omega) (λi nx hi=>?_) (λnx=>?_);have e:((ds.take i).map Fl).length<=1000:=by simp;omega
 rw[aO hi,eu];simp only[lV];rw[gL,af,aN hi,ab,aa3,ab,aQ (by simp only[aS];omega),aj (by omega) (by omega)];rfl;simp only[lV];rw[fG,ae,bA]
def uB (p:aR)(z:Nat):Nat:=((jO p).1.length+z-1)/z
def aif (l:ar aC)(m:bp)(d:Int)(t:bX)(c:Int)(n:Nat)(x:ar fH×bp):bp×bX×Bool:=
 bif (BO l x.2 d t.1 ((rb x.1 c t.2.2.2).map Fl)).2.2 then
  ((BO l x.2 d t.1 ((rb x.1 c t.2.2.2).map Fl)).1,((BO l x.2 d t.1 ((rb x.1 c t.2.2.2).map Fl)).2.1,(mw t.2.1 (n:Int)).1,t.2.2.1++[(t.2.2.2,(n:Int)+1,(mw t.2.1 (n:Int)).2.1)],tmod (t.2.2.2+1) 65536),true)
 else(m,t,false)
def ab5 (t:bX)(n:Nat):Bool:=(mw t.2.1 (n:Int)).2.2&&(!decide ((n:Int)>16)&&(!decide ((n:Int)+1>Ao t.1)&& !decide (eK t.2.2.1+(n:Int)+1>t.1.2.1)))
def IP (l:ar aC)(m:bp)(d:Int)(t:bX)(p:aR)(c z:Int):bp×bX×Bool:=
 bif Tv t&&(dL p&&(du z 1 t.2.1.2.1&&du c 1 128)) then
  bif ab5 t (uB p z.toNat) then
   match Fb l d t.2.1 z.toNat (mw t.2.1 (uB p z.toNat:Int)).2.1 (jO p).1 m []with
   |some x=>aif l m d t c (uB p z.toNat) x
   |none=>(m,t,false)
  else(m,t,false)
 else(m,t,false)
theorem WJ (h:dL p=true):0<(jO p).1.length/\(jO p).1.length<=378:=by grind[CH,SY,jO,Im]
theorem alp (len z:Nat)(h:len<=1000:=by omega)(hz:z<=1000:=by omega)(h0:0<z:=by omega):ak (tdiv (ak (ak ((len:Int)+(z:Int))-1)) (z:Int))=(((len+z-1)/z:Nat):Int):=by have hd:(len+z-1)/z<=len+z-1:=Nat.div_le_self ..;grind[aj]
theorem WD {p:cJ}{n:Nat}(h:(mw p (n:Int)).2.2=true):ga p=true/\n<=p.2.2.2.length/\(mw p (n:Int)).2.1=p.2.2.2.take n:=by grind[mw,bq]
theorem Yc {t:bX}{z n:Nat}{x:ar fH×bp}(ht:Tv t=true)(hz:z<=512)(hc:du c 1 128=true)(h0:0<n)(h16:n<=16)(hk:(mw t.2.1 (n:Int)).2.2=true)(hx:Fb l d t.2.1 z (mw t.2.1 (n:Int)).2.1 s m []=some x):x.2.length=m.length/\(rb x.1 c t.2.2.2).length=n+1:=by
 obtain⟨hp,hn,hb⟩:=WD hk;rw[hb]at hx;obtain⟨h1,h2,h3⟩:=PW l d t.2.1 z _ _ _ _ hx;simp only[eo,bm,cv]at h2;have e:x.1.length=n:=by omega
 refine⟨h1,?_⟩;rw[alv (by omega) (by omega) (λy hy=>?_) hc (by simp only[Tv,ah]at ht;exact ht.2.2.1),e];rcases h3 y hy with g|⟨⟨b,ig,g⟩,g2⟩;cases g;have q1:=alo hp (List.mem_of_mem_take ig);have q2:=T1 t.2.1 b;rw[g];omega
theorem akB (l:ar aC)(m:bp)(d:Int)(t:bX)(p:aR)(c z:Int)(hl:l.length<=10^9)(hm:m.length<=10^9)(ht:aeR t)(h1:t.2.2.1.length<=10^9)(h2:t.2.1.2.2.2.length+(cG t.2.2.1).length<=10^9):yS l m d t p c z=some (IP l m d t p c z):=by
 have Ae:=da;unfold yS IP;rw[Zm,ab,agY t h1 h2,ab,cm,cm];have e0:(jO p).2=dL p:=by grind[jO]
 rw[e0];simp only[iT m,Hv t ht,ab];cases hb:Tv t;rfl;cases hp:dL p;rfl;cases hz:du z 1 t.2.1.2.1;rfl;cases hc:du c 1 128;rfl;have hT:=WJ hp;have hz2:=bq.1 hz;have hq:=hb;simp only[Tv,ah]at hq;have HF:=Ii hq.2.1;have h16:=K0 hb;have hrg:=tY hq.1;have hnx:=bq.1 hq.2.2.1;obtain⟨z,rfl⟩:=aD (by omega:0<=z);have hzn:(z:Int)≠0:=by omega
 have hS:∀x∈t.2.2.1,0<=x.2.1/\x.2.1<=16:=λx hx=>by grind[jR,bq]
 have hcb:=D9 _ hS;have hN:uB p z<=1000:=by have:uB p z<=(jO p).1.length+z-1:=Nat.div_le_self ..;omega
 have hN0:0<uB p z:=Nat.div_pos (by omega) (by omega);have hce:=alp (jO p).1.length z;rw[show((jO p).1.length+z-1)/z=uB p z from rfl]at hce;have hfi: -1<=Ao t.1:=by have:=acb t.1;omega
 simp only[ai,ae,ab,cB,af,aw,aK hzn,hce,akJ _ _ (show t.2.1.2.2.2.length<=10^9 by omega),ND,akD t (by omega) hS,ab5];rw[aj (n:=(uB p z:Int)+1) (by omega) (by omega),aj (n:=eK t.2.2.1+(uB p z:Int)) (by omega) (by omega),aj (n:=eK t.2.2.1+(uB p z:Int)+1) (by omega) (by omega)];cases hk:(mw t.2.1 (uB p z:Int)).2.2;rfl;by_cases g1:(uB p z:Int)>16;rw[ax g1];rfl;rw[aq g1];simp only[ai,bB,ae,bj];cases decide ((uB p z:Int)+1>Ao t.1);case true=>rfl
 simp only[ai,bB,ae,bj,ab];cases decide (eK t.2.2.1+(uB p z:Int)+1>t.1.2.1);case true=>rfl
 simp only[ai,bB,ae,af,ab];obtain⟨_,hkn,Yl⟩:=WD hk;have hkl:(mw t.2.1 (uB p z:Int)).2.1.length=uB p z:=by rw[Yl,bm];omega
 have hiz:∀i<uB p z,i*z<=(jO p).1.length:=λi hi=>by have:=(Nat.le_div_iff_mul_le (by omega:0<z)).1 (show i+1<=((jO p).1.length+z-1)/z from hi);grind
 refine(Ox _ l d c _ z (jO p).1 m t _ _ _ (by omega) hl hm ht (by omega) (by omega) (mw t.2.1 (uB p z:Int)).2.1 [] m [] fuel (by omega) (by rw[bH];omega) (by rw[eo];omega) hm (λi hi=>hiz i (by grind)) (by rw[bH,hkl])).trans ?_;simp only[eo,Nat.zero_mul,fJ];cases hx:Fb l d t.2.1 z (mw t.2.1 (uB p z:Int)).2.1 (jO p).1 m []with|none=>rfl|some x=>obtain⟨x1,x2⟩:=Yc hb (by omega) hc hN0 (by omega) hk hx;obtain⟨_,x3,_⟩:=PW l d t.2.1 z _ _ _ _ hx;simp only[eo]at x3;simp only[QU x.1 c t.2.2.2 (by omega),ab,aif];rw[adZ _ _ _ _ _ _ _ _ _ _ _ _ (by omega)];simp only[agU l x.2 d t.1 _ hl (by omega) (show((rb x.1 c t.2.2.2).map Fl).length<=10^9 by rw[bW];omega),ab,iT m (show m.length<=1073741824 by omega),Hv t ht];cases (BO l x.2 d t.1 ((rb x.1 c t.2.2.2).map Fl)).2.2 with|false=>rfl|true=>rw[show(((rb x.1 c t.2.2.2).length:Int)==0)=false from by rw[cz];omega];grind[ab,aQ,aj]
theorem aju (l:ar aC)(m:bp)(d:Int)(t:bX)(p:aR)(c z:Int)(hl:l.length<=10^9)(hm:m.length<=10^9)(ht:aeR t)(h1:t.2.2.1.length<=10^9)(h2:t.2.1.2.2.2.length+(cG t.2.2.1).length<=10^9):yB l m d t p c z=some (IP l m d t p c z):=by
 have Ae:=da;unfold yB IP;rw[gx m,ab,O6 t ht,ab,afX t h1 h2,ab,nC,cr,cr];simp only[ab];cases hb:Tv t;rfl;cases hp:dL p;rfl;cases hz:du z 1 t.2.1.2.1;rfl;cases hc:du c 1 128;rfl;have hT:=WJ hp;have hz2:=bq.1 hz;have hq:=hb;simp only[Tv,ah]at hq;have HF:=Ii hq.2.1;have h16:=K0 hb;have hrg:=tY hq.1;have hnx:=bq.1 hq.2.2.1;obtain⟨z,rfl⟩:=aD (by omega:0<=z);have hzn:¬(z:Int)=0:=by omega
 have hS:∀x∈t.2.2.1,0<=x.2.1/\x.2.1<=16:=λx hx=>by grind[jR,bq]
 have hcb:=D9 _ hS;have hN:uB p z<=1000:=by have:uB p z<=(jO p).1.length+z-1:=Nat.div_le_self ..;omega
 have hN0:0<uB p z:=Nat.div_pos (by omega) (by omega);have hce:=alp (jO p).1.length z;rw[show((jO p).1.length+z-1)/z=uB p z from rfl]at hce;simp only[ai,ae,ab,cB,af,aw,YE,aK hzn,hce,ajC _ _ (show t.2.1.2.2.2.length<=10^9 by omega),Yw,ajw t (by omega) hS,ab5];rw[aj (n:=(uB p z:Int)+1) (by omega) (by omega),aj (n:=eK t.2.2.1+(uB p z:Int)) (by omega) (by omega),aj (n:=eK t.2.2.1+(uB p z:Int)+1) (by omega) (by omega)];by_cases g1:(uB p z:Int)>16;simp_all;rw[aq g1];simp only[bB,ae,bj];cases decide ((uB p z:Int)+1>Ao t.1)with|true=>simp_all|false=> ?_
 simp only[bB,ae,bj,ab];cases decide (eK t.2.2.1+(uB p z:Int)+1>t.1.2.1)with|true=>grind|false=> ?_
 simp only[bB,ae,gw,ab];cases hk:(mw t.2.1 (uB p z:Int)).2.2;rfl;simp only[ai,ae,af,gx m (show m.length<=1073741824 by omega),ab];obtain⟨_,hkn,Yl⟩:=WD hk;have hkl:(mw t.2.1 (uB p z:Int)).2.1.length=uB p z:=by rw[Yl,bm];omega
 have key:=ajl l m d t.2.1 (mw t.2.1 (uB p z:Int)).2.1 (jO p).1 z (by omega) hl hm (by omega) (by omega);cases hx:Fb l d t.2.1 z (mw t.2.1 (uB p z:Int)).2.1 (jO p).1 m []with
 |none=>rw[hx]at key;obtain⟨a,b,e⟩:=key;obtain⟨f,g,_⟩:=J1 [] c t.2.2.2 (by simp);simp_all
 |some x=>
  rw[hx]at key;have key:qg _ _ _ _ _ _ _=_:=key;obtain⟨x1,x2⟩:=Yc hb (by omega) hc hN0 (by omega) hk hx;obtain⟨_,x3,_⟩:=PW l d t.2.1 z _ _ _ _ hx;simp only[eo]at x3;obtain⟨f,g,hf⟩:=J1 x.1 c t.2.2.2;have hft:f=true:=by grind
  subst hft;simp only[key,g,ab,af,ai,ae,aK (show¬(rb x.1 c t.2.2.2).length=0 by omega),aif];grind[acJ,afS,ab,aQ,aj]
def abc (g:Nat->Host->Host):Nat->Host->Host
 |0,h=>h
 |k+1,h=>g k (abc g k h)
structure K7 (a b:Host):Prop where
 maps:b.2.1=a.2.1
 tx:b.2.2.1=a.2.2.1
 rx:b.2.2.2.1.length=a.2.2.2.1.length
 pl:b.2.2.2.2.1.length=a.2.2.2.2.1.length
 vec:b.2.2.2.2.2.1=a.2.2.2.2.2.1
 pol:b.2.2.2.2.2.2.1=a.2.2.2.2.2.2.1
 ret:b.2.2.2.2.2.2.2.2.2.2.2.2.2.1=a.2.2.2.2.2.2.2.2.2.2.2.2.2.1
theorem K7.refl (a:Host):K7 a a:=⟨rfl,rfl,rfl,rfl,rfl,rfl,rfl⟩
theorem K7.trans {a b c:Host}(h:K7 a b)(k:K7 b c):K7 a c:=⟨k.1.trans h.1,k.2.trans h.2,k.3.trans h.3,k.4.trans h.4,k.5.trans h.5,k.6.trans h.6,k.7.trans h.7⟩
theorem ads (h:Host)(i:Nat)(c:Int):K7 h (Kz h i c).2:=by unfold Kz;rcases h1:h.2.2.2.1[i]? with _|rx;exact K7.refl h;rcases h2:h.2.2.2.2.1[i]? with _|pl;exact K7.refl h;exact⟨rfl,rfl,aL ..,aL ..,rfl,rfl,rfl⟩
def wF (h:Host)(k:Nat):Host:=abc (λi s=>(Kz s i 1000).2) k h
theorem Hq {n:Nat}(hn:128<=n)(z:bt n cS h):∀k,K7 h (wF h k)/\bt (n+322000*k) cS (wF h k)
 |0=>⟨K7.refl h,z⟩
 |k+1=>by have i:=Hq hn z k;exact⟨i.1.trans (ads ..),(agv (by omega) k 1000 i.2).mono⟩
def ar7 (h:Host)(l:cI):Host:=(h.1,h.2.1,h.2.2.1,h.2.2.2.1,h.2.2.2.2.1,h.2.2.2.2.2.1,h.2.2.2.2.2.2.1,h.2.2.2.2.2.2.2.1,h.2.2.2.2.2.2.2.2.1,h.2.2.2.2.2.2.2.2.2.1,h.2.2.2.2.2.2.2.2.2.2.1,h.2.2.2.2.2.2.2.2.2.2.2.1,h.2.2.2.2.2.2.2.2.2.2.2.2.1,h.2.2.2.2.2.2.2.2.2.2.2.2.2.1++l,h.2.2.2.2.2.2.2.2.2.2.2.2.2.2)
def abm (h:Host):Host:=(h.1,h.2.1,(Tw.1,Tw.2.1,Tw.2.2.1,h.2.2.1.2.2.2),h.2.2.2)
def Ly (h:Host)(i:Nat)(dr:Int):Host:=
 ((Lz h.2.1 h.1 i).1,h.2.1,h.2.2.1,h.2.2.2.1.set i ((Lz h.2.1 h.1 i).2.1,(Wd i).2.1,(Wd i).2.2.1,(Wd i).2.2.2.1,(Wd i).2.2.2.2.1,dr),h.2.2.2.2.1.set i (Lz h.2.1 h.1 i).2.2.1,h.2.2.2.2.2)
theorem ao8 {i:Nat}{x:bk}(hx:h.2.2.2.1[i]?=some x):YR h i=Ly h i x.2.2.2.2.2:=by unfold YR Ly;rw[hx];rfl
theorem aj6 (h:Host){i:Nat}(x:bk)(hi:i<h.2.2.2.1.length):YR (h.1,h.2.1,h.2.2.1,h.2.2.2.1.set i x,h.2.2.2.2) i=Ly h i x.2.2.2.2.2:=by unfold YR Ly;simp only[List.getElem?_set_self hi,dF];rfl
def X0 (x:bk):Int:=bif x.2.2.2.2.1 then ak (x.2.2.2.2.2+x.2.2.2.1.2.2) else x.2.2.2.2.2
def Hs (i:Nat)(h:Host):Host:=
 match h.2.2.2.1[i]?,h.2.2.2.2.2.1[i]? with
 |some x,some v=>((Ly h i (X0 x)).1,h.2.1,h.2.2.1,(Ly h i (X0 x)).2.2.2.1,(Ly h i (X0 x)).2.2.2.2.1,h.2.2.2.2.2.1.set i (v.1,v.2.1,0,0,false,false),h.2.2.2.2.2.2.1.set i false,h.2.2.2.2.2.2.2)
 |_,_=>h
structure apH (k:Nat) (a b:Host):Prop where
 mem:b.1.length=a.1.length
 maps:b.2.1=a.2.1
 rx:b.2.2.2.1.length=a.2.2.2.1.length
 pl:b.2.2.2.2.1.length=a.2.2.2.2.1.length
 vec:b.2.2.2.2.2.1.length=a.2.2.2.2.2.1.length
 aeI:∀j,k<=j->b.2.2.2.2.2.1[j]?=a.2.2.2.2.2.1[j]?
 pol:b.2.2.2.2.2.2.1.length=a.2.2.2.2.2.2.1.length
theorem aj5 (l:ar aC)(m:bp)(i:Nat):(Lz l m i).1.length=m.length:=by grind[Lz,ahJ,mQ]
theorem adE (i:Nat)(h:Host):apH (i+1) h (Hs i h):=by unfold Hs;rcases h1:h.2.2.2.1[i]? with _|x;exact⟨rfl,rfl,rfl,rfl,rfl,λ_ _=>rfl,rfl⟩;rcases h2:h.2.2.2.2.2.1[i]? with _|v;exact⟨rfl,rfl,rfl,rfl,rfl,λ_ _=>rfl,rfl⟩;have e1:=aj5 h.2.1 h.1 i;exact⟨e1,rfl,aL ..,aL ..,aL ..,λj hj=>aZ (by omega),aL ..⟩
def fC (h:Host)(k:Nat):Host:=abc Hs k h
theorem ye (h:Host):∀k,apH k h (fC h k)
 |0=>⟨rfl,rfl,rfl,rfl,rfl,λ_ _=>rfl,rfl⟩
 |k+1=>by have a:=ye h k;have b:=adE k (fC h k);exact⟨b.mem.trans a.mem,b.maps.trans a.maps,b.rx.trans a.rx,b.pl.trans a.pl,b.vec.trans a.vec,λj hj=>(b.aeI j hj).trans (a.aeI j (by omega)),b.pol.trans a.pol⟩
theorem aj4 {n:Nat}(hn:1000<=n)(i:Nat)(d:Int)(z:bt n cS h):bt n cS (Ly h i d):=by unfold Ly Lz;have h4:=BL (lf i+128) 384 4;have hf:=U4 h.2.1 (oQ h.2.1 h.1 0 (lf i) (JE 128) false).1 0 (lf i,4,0,0) (mP (lf i+128) 384 4).1;refine⟨X9 (by omega) (MH (by omega) z.1 ..) ..,z.2.1,z.2.2.1,qy z.2.2.2.1 ?_,qy z.2.2.2.2.1 ?_,z.2.2.2.2.2⟩;refine⟨⟨bF,bF,bF,bF⟩,⟨bF,bF,bF⟩,⟨bF,bF,bF⟩,⟨⟨bF,bF,bF,bF,bF,bF,bF,bF,bF,bF,bF,bF,bF,bF,bF,?_⟩,bF,bF⟩,bF,bF⟩;exact eh _;exact⟨bF,bF,bF,by omega,λ_ _=>trivial⟩
theorem agB {n:Nat}(hn:1000<=n)(i:Nat)(z:bt n cS h):bt n cS (Hs i h):=by unfold Hs;rcases h1:h.2.2.2.1[i]? with _|x;exact z;rcases h2:h.2.2.2.2.2.1[i]? with _|v;exact z;have zo:=aj4 hn i (X0 x) z;exact⟨zo.1,z.2.1,z.2.2.1,zo.2.2.2.1,zo.2.2.2.2.1,qy z.2.2.2.2.2.1 ⟨bF,bF,bF,bF,bF,bF⟩,qy z.2.2.2.2.2.2.1 trivial,z.2.2.2.2.2.2.2⟩
theorem FO {n:Nat}(hn:1000<=n)(z:bt n cS h):∀k,bt n cS (fC h k)
 |0=>z
 |k+1=>agB hn k (FO hn z k)
def agD (W:ar ie)(i:Nat)(s:Host):Host:=match W[i]? with|some x=>ar7 s [x.1]|none=>s
def polled (h:Host):Host:=wF h h.2.2.2.1.length
def returned (h:Host)(k:Nat):Host:=abc (agD h.2.2.1.2.2.1) k (polled h)
structure arb (a b:Host):Prop where
 e:b=(a.1,a.2.1,a.2.2.1,a.2.2.2.1,a.2.2.2.2.1,a.2.2.2.2.2.1,a.2.2.2.2.2.2.1,a.2.2.2.2.2.2.2.1,a.2.2.2.2.2.2.2.2.1,a.2.2.2.2.2.2.2.2.2.1,a.2.2.2.2.2.2.2.2.2.2.1,a.2.2.2.2.2.2.2.2.2.2.2.1,a.2.2.2.2.2.2.2.2.2.2.2.2.1,b.2.2.2.2.2.2.2.2.2.2.2.2.2.1,a.2.2.2.2.2.2.2.2.2.2.2.2.2.2)
theorem zX {n:Nat}(z:bt n cS (polled h)):∀k,arb (polled h) (returned h k)/\(returned h k).2.2.2.2.2.2.2.2.2.2.2.2.2.1.length<=n+k
 |0=>⟨⟨rfl⟩,by have:=z.2.2.2.2.2.2.2.2.2.2.2.2.2.1.1;exact aF this (by omega)⟩
 |k+1=>by have i:=zX z k;have e:returned h (k+1)=agD h.2.2.1.2.2.1 k (returned h k):=rfl;rw[e];unfold agD;cases h.2.2.1.2.2.1[k]? with|none=>exact⟨i.1,aF i.2 (by omega)⟩|some x=>refine⟨⟨?_⟩,?_⟩;have e:=i.1.e;rw[e];rfl;show(_++[_]).length<=_;rw[ay,aS];omega
theorem aaQ {n:Nat}(z:bt n cS (polled h))(k:Nat):bt (n+k) cS (returned h k):=by have i:=zX z k;have z':bt (n+k) cS (polled h):=z.mono;rw[i.1.e];exact⟨z'.1,z'.2.1,z'.2.2.1,z'.2.2.2.1,z'.2.2.2.2.1,z'.2.2.2.2.2.1,z'.2.2.2.2.2.2.1,z'.2.2.2.2.2.2.2.1,z'.2.2.2.2.2.2.2.2.1,z'.2.2.2.2.2.2.2.2.2.1,z'.2.2.2.2.2.2.2.2.2.2.1,z'.2.2.2.2.2.2.2.2.2.2.2.1,z'.2.2.2.2.2.2.2.2.2.2.2.2.1,⟨i.2,λ_ _=>trivial⟩,z'.2.2.2.2.2.2.2.2.2.2.2.2.2.2⟩
theorem aeF {n:Nat}(hn:1000<=n)(z:bt n cS h):bt n cS (abm h):=by have h4:=BL 256 128 8;exact⟨z.1,z.2.1,⟨⟨bF,bF,bF,bF⟩,⟨bF,bF,bF,by show List.length (mP 256 128 8).1.2.2.2<=n;omega,λ_ _=>trivial⟩,⟨eh _,λx hx=>by cases hx⟩,bF⟩,z.2.2.2⟩
def vL (h:Host):Host:=abm (returned h h.2.2.1.2.2.1.length)
def BR (h:Host):Host:=bif fy h then fC (vL h) h.2.2.2.1.length else h
theorem O3 (hb:fy h=true):zR h=true:=by grind[fy]
theorem L6 {n:Nat}(hn:1000<=n)(z:bt n cS h)(hl:h.2.2.2.1.length<=2):bt (n+644000+h.2.2.1.2.2.1.length) cS (vL h):=by have hp:=Hq (by omega) z h.2.2.2.1.length;exact aeF (by omega) (aaQ (hp.2.mono) _)
theorem ar5 (l:ar aC)(X:bp)(q:bk)(P:cJ)(o:bp×kl×cJ×Int)(k:bk×cJ->bp×kl×cJ×Int->au R)(h:kt l X 0 q.1 P=some o):(aa (kt l X 0 (q,P).1.1 (q,P).2) λNY=>k (q,P) NY)=k (q,P) o:=by simp_all
theorem Yx (l:ar aC)(m:bp)(i:Nat)(hi:i<=8)(hl:l.length<=10^9)(hm:m.length<=10^9)(k:bk×cJ->bp×kl×cJ×Int->au R): (aa (uR (i:Int)) λBQ=>aa (re 0 128) λOu=>aa (kQ l m 0 BQ Ou) λzU=>aa (CM (i:Int)) λGp=>aa (kt l zU.1 0 Gp.1.1 Gp.2) λNY=>k Gp NY)=k (Wd i,(mP (lf i+128) 384 4).1) (Lz l m i):=by
 have hb:lf i=1280+(i)*1792:=rfl;have LI:lf i<=9223372036854775807:=by omega
 have hz:re 0 128=some (JE 128):=ahU 128;have hf:=acK l (oQ l m 0 (lf i) (JE 128) false).1 0 (lf i,4,0,0) (mP (lf i+128) 384 4).1 hl (by rw[mQ];exact hm) (aF (BL (lf i+128) 384 4) (by omega));rw[acD i hi,ab,hz,ab,IB l m 0 (lf i) (JE 128) hl hm LI,ab,ajs i hi,ab];exact ar5 l _ (Wd i) _ (Lz l m i) k hf
theorem Xj (K:Int->Host->au Host)(s0 B:Host)(N:Nat)(hN:N<=2)(h1:s0.2.2.2.1.length=N)(h2:s0.2.2.2.2.1.length=N)(h3:s0.2.2.2.2.2.1.length=N)(h4:s0.2.2.2.2.2.2.1.length=N)(z:bt 900000000 cS s0): aH (mI K (N:Int) B) fuel (0,s0)=K (N:Int) (fC s0 N):=by
 refine bz (λi=>((i:Int),fC s0 i)) N (by omega) (λi nx hi=>?_) (λnx=>?_);have kr:=ye s0 i;have zr:=FO (by omega) z i;have z1:(fC s0 i).1.length<=10^9:=aF zr.1.1 (by omega);have z2:(fC s0 i).2.1.length<=10^9:=aF zr.2.1.1 (by omega);have i1:i<(fC s0 i).2.2.2.1.length:=by rw[kr.rx,h1];exact hi
 have i2:i<(fC s0 i).2.2.2.2.1.length:=by rw[kr.pl,h2];exact hi
 have i3:i<(fC s0 i).2.2.2.2.2.1.length:=by rw[kr.vec,h3];exact hi
 have i4:i<(fC s0 i).2.2.2.2.2.2.1.length:=by rw[kr.pol,h4];exact hi
 rw[show fC s0 (i+1)=Hs i (fC s0 i) from rfl];generalize fC s0 i=s at z1 z2 i1 i2 i3 i4⊢;unfold Hs X0 Ly;simp only[al i1,al i3];simp only[mI];rw[gL,af];simp only[aN i1,ab];rw[Yx s.2.1 s.1 i (by omega) z2 z1,Yx s.2.1 s.1 i (by omega) z2 z1];simp only[aN i2,aN i3,aN i4,ab];rw[aj (by omega) (by omega),aw];cases s.2.2.2.1[i].2.2.2.2.1<;>rfl;simp only[mI];rw[fG,ae]
theorem PN {n:Nat}(hq:K7 h (polled h))(hz:bt n cS (polled h)):(vL h).2.2.2.1.length=h.2.2.2.1.length/\(vL h).2.2.2.2.1.length=h.2.2.2.2.1.length/\(vL h).2.2.2.2.2.1=h.2.2.2.2.2.1/\(vL h).2.2.2.2.2.2.1=h.2.2.2.2.2.2.1:=by have er:=(zX hz h.2.2.1.2.2.1.length).1.e;refine⟨?_,?_,?_,?_⟩;show(returned h h.2.2.1.2.2.1.length).2.2.2.1.length=_;rw[er];exact hq.rx;show(returned h h.2.2.1.2.2.1.length).2.2.2.2.1.length=_;rw[er];exact hq.pl;show(returned h h.2.2.1.2.2.1.length).2.2.2.2.2.1=_;rw[er];exact hq.vec;show(returned h h.2.2.1.2.2.1.length).2.2.2.2.2.2.1=_;rw[er];exact hq.pol
theorem Og (h:Host)(k:LX h)(z:bt 100000000 cS h):uL h=some (BR h):=by
 unfold uL BR;rw[ko h (z.mono),ab,As h k,ab];cases hb:fy h;rfl;have hl:=px (O3 hb);have hw:=z.2.2.1.2.2.1.1;have hp:=Hq (by omega) z;refine bz (λi=>((i:Int),wF h i)) h.2.2.2.1.length (by omega) (λi nx hi=>?_) (λnx=>?_);simp only[tF];rw[gL,af,aaq (wF h i) i 1000 (by rw[(hp i).1.rx];exact hi) (by rw[(hp i).1.pl];omega) ((hp i).2.mono),ab,aj (by omega) (by omega)];rfl;simp only[tF];rw[fG,ae];have hq:=hp h.2.2.2.1.length;have hr:=zX hq.2;have e1:(wF h h.2.2.2.1.length).2.2.1.2.2.1=h.2.2.1.2.2.1:=by rw[hq.1.tx]
 rw[e1];refine bz (λi=>((i:Int),returned h i)) h.2.2.1.2.2.1.length (by omega) (λi nx hi=>?_) (λnx=>?_);have hri:=(hr i).2;simp only[rp];rw[gL,af,aN hi,ab,aQ (by rw[aS];omega),aj (by omega) (by omega)];rw[show returned h (i+1)=agD h.2.2.1.2.2.1 i (returned h i) from rfl,agD,al hi];rfl;simp only[rp];rw[fG,ae];simp only[ajG,ab];have hE:=L6 (by omega) z hl.1;have hk:=PN hq.1 hq.2;have eN:((List.length (returned h h.2.2.1.2.2.1.length).2.2.2.1))=(h.2.2.2.1.length):=congrArg Nat.cast hk.1;rw[eN];exact Xj _ (vL h) _ h.2.2.2.1.length hl.1 hk.1 (hk.2.1.trans hl.2.1) (by rw[hk.2.2.1];exact hl.2.2.1) (by rw[hk.2.2.2];exact hl.2.2.2) (hE.mono)
theorem XA (K:Int->Host->au Host)(h s0 B:Host)(N:Nat)(hN:N<=2)(h1:s0.2.2.2.1.length=N)(h2:s0.2.2.2.2.1.length=N)(h3:s0.2.2.2.2.2.1=h.2.2.2.2.2.1)(h5:h.2.2.2.2.2.1.length=N)(h4:s0.2.2.2.2.2.2.1.length=N)(z:bt 900000000 cS s0): aH (mR K h B) fuel (0,s0)=K (N:Int) (fC s0 N):=by
 refine bz (λi=>((i:Int),fC s0 i)) N (by omega) (λi nx hi=>?_) (λnx=>?_);have kr:=ye s0 i;have zr:=FO (by omega) z i;have z1:(fC s0 i).1.length<=10^9:=aF zr.1.1 (by omega);have z2:(fC s0 i).2.1.length<=10^9:=aF zr.2.1.1 (by omega);have i1:i<(fC s0 i).2.2.2.1.length:=by rw[kr.rx,h1];exact hi
 have iN:(fC s0 i).2.2.2.1.length=N:=by rw[kr.rx,h1]
 have i2:i<(fC s0 i).2.2.2.2.1.length:=by rw[kr.pl,h2];exact hi
 have i3:i<(fC s0 i).2.2.2.2.2.1.length:=by rw[kr.vec,h3,h5];exact hi
 have i4:i<(fC s0 i).2.2.2.2.2.2.1.length:=by rw[kr.pol,h4];exact hi
 have i5:i<h.2.2.2.2.2.1.length:=by rw[h5];exact hi
 have iv:(fC s0 i).2.2.2.2.2.1[i]=h.2.2.2.2.2.1[i]:=by have:=kr.aeI i (ba _);rw[al i3,h3,al i5]at this;exact cY this
 rw[show fC s0 (i+1)=Hs i (fC s0 i) from rfl];generalize fC s0 i=s at z1 z2 iN i1 i2 i3 i4 iv⊢;have g1:=al i1;unfold Hs;rw[g1,al i3];simp only[mR];rw[gL,af];simp only[aN i1,ab];have o1:=ad6 s i (by omega) i1 i2 z2 z1;rw[ao8 g1]at o1;have o2:=λx:bk=>ad6 (s.1,s.2.1,s.2.2.1,s.2.2.2.1.set i x,s.2.2.2.2) i (by omega) (by rw[aL];exact i1) i2 z2 z1;simp only[aj6 s _ i1]at o2;rw[aw,aj (n:=(i)+1) (by omega) (by omega),o1,o2,ab,ab];simp only[aN i5,ab,iv];have j3:∀d,i<(Ly s i d).2.2.2.2.2.1.length:=λd=>i3;have j4:∀d,i<(Ly s i d).2.2.2.2.2.2.1.length:=λd=>i4;simp only[aN (j3 _),aN (j4 _),ab];unfold X0;cases s.2.2.2.1[i].2.2.2.2.1<;>rfl;have kN:=(ye s0 N).rx;simp only[mR];rw[fG,ae]
theorem Oz (h:Host)(k:LX h)(z:bt 100000000 cS h):vy h=some (BR h):=by
 unfold vy BR;rw[kz h (z.mono),ab,vw h k,ab];cases hb:fy h;rfl;have hl:=px (O3 hb);have hw:=z.2.2.1.2.2.1.1;have hp:=Hq (by omega) z;refine bz (λi=>((i:Int),wF h i)) h.2.2.2.1.length (by omega) (λi nx hi=>?_) (λnx=>?_);have h1:i<(wF h i).2.2.2.1.length:=by rw[(hp i).1.rx];exact hi
 have h2:i<(wF h i).2.2.2.2.1.length:=by rw[(hp i).1.pl];omega
 have zi:bt 500000000 cS (wF h i):=(hp i).2.mono;have hz2:=zi.2.1.1;have hz1:=zi.1.1;have em:=(hp i).1.maps;rw[show wF h (i+1)=(Kz (wF h i) i 1000).2 from rfl];generalize wF h i=s at h1 h2 zi hz1 hz2 em⊢;have HF:=(zi.2.2.2.2.1.2 _ (aE h2)).2.2.2.1;simp only[ud];rw[gL,af,<-em];simp only[aN h1,aN h2,ab,ad8 s.2.1 s.1 0 _ _ _ 1000 (show s.2.1.length<=10^9 by omega) (show s.1.length<=10^9 by omega) HF zi.2.2.2.2.2.2.2.2.2.1,aw,Kz,al h1,al h2];rw[aj (by omega) (by omega)];rfl;simp only[ud];rw[fG,ae];have hq:=hp h.2.2.2.1.length;have hr:=zX hq.2;refine bz (λi=>((i:Int),returned h i)) h.2.2.1.2.2.1.length (by omega) (λi nx hi=>?_) (λnx=>?_);have hri:=(hr i).2;simp only[rO];rw[gL,af,aN hi,ab,aQ (by rw[aS];omega),aj (by omega) (by omega)];rw[show returned h (i+1)=agD h.2.2.1.2.2.1 i (returned h i) from rfl,agD,al hi];rfl;simp only[rO];rw[fG,ae];simp only[akN,ab];have hE:=L6 (by omega) z hl.1;have hk:=PN hq.1 hq.2;have ex:vL h=((returned h h.2.2.1.2.2.1.length).1,(returned h h.2.2.1.2.2.1.length).2.1,(Tw.1,Tw.2.1,Tw.2.2.1,h.2.2.1.2.2.2),(returned h h.2.2.1.2.2.1.length).2.2.2):=by
  have et:(returned h h.2.2.1.2.2.1.length).2.2.1=h.2.2.1:=by rw[(hr h.2.2.1.2.2.1.length).1.e];exact hq.1.tx
  unfold vL abm;rw[et]
 rw[<-ex];exact XA _ h (vL h) _ h.2.2.2.1.length hl.1 hk.1 (hk.2.1.trans hl.2.1) hk.2.2.1 hl.2.2.1 (by rw[hk.2.2.2];exact hl.2.2.2) (hE.mono)
end
end Go.Pu
