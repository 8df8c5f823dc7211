import Derived.Test.YthllnaiaikjelaaGreatPuX1
namespace Go.Pu
open Go.Dn
open BitVec (toNat)
open Int (tdiv tmod)
set_option linter.unusedSimpArgs false
set_option linter.unusedVariables false
noncomputable section
variable {s t x:Bytes} {h:Host} {c d:Int} {a k o:Nat} {g:Nat->Host->Host} {p:aP} {R α:Type} {l:ar aC} {m:bp} {r:kf}
/- Frames received: the program's and the reference's results are one. -/
def atF (f:KN)(s:Stream):Bool:=decide (s.1=f)
def TD (l:ar Stream)(f:KN):Int:=match l.findIdx? (atF f)with|some i=>(i:Int)|none=> -1
theorem ans (l:ar Stream)(f:KN)(h:l.length<=10^9):wS l f=some (TD l f):=by unfold wS TD;rw[F4 (p:=atF f) (hit:=λi=>some i) (fin:=some (-1)) l (by omega) (λi hi nx=>?hs) (λnx=>?hf)];all_goals grind[xo,aN,aj,ab,atF]
theorem aml (l:ar Stream)(f:KN)(h:l.length<=10^9):vV l f=some (TD l f):=by unfold vV TD;rw[F4 (p:=atF f) (hit:=λi=>some i) (fin:=some (-1)) l (by omega) (λi hi nx=>?hs) (λnx=>?hf)];all_goals grind[xh,aN,aj,ab,atF]
def agF:Stream:=((0,0,0,0,0),0,([]:Bytes),false)
def body (p:aP):Bytes:=p.2.2.2.2.2.2.2.2.2.2.2.2.2.2.2
def udp (p:aP):Bytes:=cv ((body p).length:Int)++body p
def EB (p:aP)(b:Int):Bool:=ak (toNat (gr p.2.2.2.2.2.2.2.2.2.2.2.2.2.1&&&gr b)) !=0
def uy (s:Stream)(p:aP):Int:=(s.2.1-p.2.2.2.2.2.2.2.2.2.2.2.1)%4294967296
def ao8 (s:Stream)(p:aP):Stream:=(s.1,(s.2.1+((body p).length:Int)-uy s p)%4294967296,s.2.2.1++(body p).drop (uy s p).toNat,EB p 1)
def Gl (l:ar Stream)(p:aP):ar Stream:=
 bif !dK p then l else
 match l.findIdx? (atF (oI p))with
 |none=>
  bif p.2.2.2.2.2.2.2.2.1==17 then l++[(oI p,0,udp p,false)] else
  bif EB p 2 then l++[(oI p,tmod (ak (p.2.2.2.2.2.2.2.2.2.2.2.1+1)) 4294967296,([]:Bytes),false)] else l
 |some i=>
  bif p.2.2.2.2.2.2.2.2.1==17 then l.set i ((l.getD i agF).1,(l.getD i agF).2.1,(l.getD i agF).2.2.1++udp p,(l.getD i agF).2.2.2) else
  bif EB p 2 then l else
  bif (l.getD i agF).2.2.2||EB p 4 then l else
  bif decide (uy (l.getD i agF) p<=((body p).length:Int)) then l.set i (ao8 (l.getD i agF) p) else l
theorem aa7 (s:Stream)(p:aP):0<=uy s p/\uy s p<4294967296:=by unfold uy;omega
theorem amy (x:Int):ak (toNat (gr x&&&gr 4294967295))=x%4294967296:=by have:=IH x 32;grind[aj]
theorem anS (x:Int):ak x%4294967296=x%4294967296:=by have:=Jk x 32;omega
theorem Qx (l:ar α)(x y:α):(l++[x]).set l.length y=l++[y]:=by grind
theorem ahn {l:ar α}{i:Nat}(h:i<l.length)(x:α):idx (l.set i x) (i:Int)=some x:=by rw[M5,List.getElem?_set_self h]
theorem Fg (l:ar α)(x:α):idx (l++[x]) (l.length:Int)=some x:=by grind[M5]
theorem Um (h:dK p=true):(body p).length<=320:=CV h
theorem Z3 (l:ar Stream)(p:aP)(h:bu 900000000 (.sl eu) l):Fk l p=some (Gl l p):=by
 have hl:l.length<=900000000:=h.1;unfold Fk Gl;simp only[EJ l,ny,ab,Vf,aml l _ (show l.length<=10^9 by omega),mC];cases hs:dK p;rfl;have hb:=Um hs;have hw:=bO ((body p).length:Int);simp only[ai,ae];rw[show p.2.2.2.2.2.2.2.2.2.2.2.2.2.2.2=body p from rfl];cases hf:l.findIdx? (atF (oI p))with
 |none=>
  have e1:TD l (oI p)= -1:=by rw[TD,hf]
  simp only[e1,show decide ((-1:Int)<0)=true from rfl,af];cases p.2.2.2.2.2.2.2.2.1==17 with|true=>simp only[af];rw[aQ (by simp;omega),Fg,ab];simp only;rw[aQ (by omega),aQ (by simp only[ay,ef];omega),ab,aw];simp only[ab,Fg,Qx,bE];rfl|false=>simp only[ae];rw[show(ak (toNat (gr p.2.2.2.2.2.2.2.2.2.2.2.2.2.1&&&gr 2)) !=0)=EB p 2 from rfl];cases EB p 2 with|true=>simp only[af];rw[nt,aQ (by simp;omega)]|false=>rfl
 |some i=>
  obtain⟨hi,_⟩:=List.findIdx?_eq_some_iff_getElem.1 hf;have hd:(l[i].2.2.1).length<=900000000:=(h.2 _ (aE hi)).2.2.1;have e1:TD l (oI p)=(i:Int):=by rw[TD,hf]
  simp only[e1,aq (show¬(i:Int)<0 by omega),ae,aN hi,ab,dv hi,aw];cases p.2.2.2.2.2.2.2.2.1==17 with
  |true=>simp only[af];rw[aQ (by omega),aQ (by simp only[ay];omega)];rfl
  |false=>
   simp only[ae];rw[show(ak (toNat (gr p.2.2.2.2.2.2.2.2.2.2.2.2.2.1&&&gr 2)) !=0)=EB p 2 from rfl,show(ak (toNat (gr p.2.2.2.2.2.2.2.2.2.2.2.2.2.1&&&gr 4)) !=0)=EB p 4 from rfl,show(ak (toNat (gr p.2.2.2.2.2.2.2.2.2.2.2.2.2.1&&&gr 1)) !=0)=EB p 1 from rfl];cases EB p 2;case true=>rfl
   simp only[ae];rw[show(aa (cond l[i].2.2.2 (some true) (some (EB p 4))):(Bool->au (ar Stream))->au (ar Stream))=λK=>K (l[i].2.2.2||EB p 4) from by funext K;cases l[i].2.2.2<;>rfl];simp only;cases l[i].2.2.2||EB p 4;case true=>rfl
   simp only[ae,RJ _ 4294967296,ab,anS];rw[show(l[i].2.1-p.2.2.2.2.2.2.2.2.2.2.2.1)%4294967296=uy l[i] p from rfl];have ha:=aa7 l[i] p;by_cases hq:uy l[i] p<=((body p).length:Int)
   rw[ax hq,xc (l:=body p) (uy l[i] p).toNat];simp only[af,ab];rw[aQ (by rw[bl];omega)];simp only[ahn hi,ab,dE];refine congrArg some (congrArg (l.set i) ?_);simp only[ao8];rw[show(ak (l[i].2.1+((body p).length:Int))-uy l[i] p)%4294967296=(l[i].2.1+((body p).length:Int)-uy l[i] p)%4294967296 from by rw[Int.sub_emod,anS,<-Int.sub_emod]];rw[aq hq];rfl
theorem aaH (l:ar Stream)(p:aP)(h:bu 900000000 (.sl eu) l):FI l p=some (Gl l p):=by
 have hl:l.length<=900000000:=h.1;unfold FI Gl;rw[eZ (by omega)];simp only[bE,qB,ab,V5,ans l _ (show l.length<=10^9 by omega),iS];cases hs:dK p;rfl;have hb:=Um hs;have hw:=bO ((body p).length:Int);simp only[ai,ae];rw[show p.2.2.2.2.2.2.2.2.2.2.2.2.2.2.2=body p from rfl];cases hf:l.findIdx? (atF (oI p))with
 |none=>
  have e1:TD l (oI p)= -1:=by rw[TD,hf]
  simp only[e1,show decide ((-1:Int)<0)=true from rfl,af];cases p.2.2.2.2.2.2.2.2.1==17 with|true=>simp only[af];rw[aQ (by simp;omega),Fg,ab];simp only;rw[aQ (by simp only[ef];omega),aQ (by simp only[ay,ef];omega),ab,aw];simp only[ab,Fg,Qx,bE];rfl|false=>simp only[ae];rw[show(ak (toNat (gr p.2.2.2.2.2.2.2.2.2.2.2.2.2.1&&&gr 2)) !=0)=EB p 2 from rfl];cases EB p 2 with|true=>simp only[af];rw[nt,aQ (by simp;omega)]|false=>rfl
 |some i=>
  obtain⟨hi,_⟩:=List.findIdx?_eq_some_iff_getElem.1 hf;have hd:(l[i].2.2.1).length<=900000000:=(h.2 _ (aE hi)).2.2.1;have e1:TD l (oI p)=(i:Int):=by rw[TD,hf]
  simp only[e1,aq (show¬(i:Int)<0 by omega),ae,aN hi,ab,dv hi,aw];cases p.2.2.2.2.2.2.2.2.1==17 with
  |true=>simp only[af];rw[aQ (by omega),aQ (by simp only[ay];omega),aW];rfl
  |false=>
   simp only[ae];rw[show(ak (toNat (gr p.2.2.2.2.2.2.2.2.2.2.2.2.2.1&&&gr 2)) !=0)=EB p 2 from rfl,show(ak (toNat (gr p.2.2.2.2.2.2.2.2.2.2.2.2.2.1&&&gr 4)) !=0)=EB p 4 from rfl,show(ak (toNat (gr p.2.2.2.2.2.2.2.2.2.2.2.2.2.1&&&gr 1)) !=0)=EB p 1 from rfl];cases EB p 2;case true=>rfl
   simp only[ae];rw[show(aa (cond l[i].2.2.2 (some true) (some (EB p 4))):(Bool->au (ar Stream))->au (ar Stream))=λK=>K (l[i].2.2.2||EB p 4) from by funext K;cases l[i].2.2.2<;>rfl];simp only;cases l[i].2.2.2||EB p 4;case true=>rfl
   simp only[ae,amy,ab,anS];rw[show(l[i].2.1-p.2.2.2.2.2.2.2.2.2.2.2.1)%4294967296=uy l[i] p from rfl];have ha:=aa7 l[i] p;by_cases hq:uy l[i] p<=((body p).length:Int)
   rw[ax hq,xc (l:=body p) (uy l[i] p).toNat];simp only[af,ab];rw[aQ (by rw[bl];omega)];simp only[ahn hi,ab,dE,aK (show¬(4294967296:Nat)=0 by omega)];refine congrArg some (congrArg (l.set i) ?_);simp only[ao8];have e:tmod (ak (ak (l[i].2.1%4294967296+((body p).length:Int))-uy l[i] p)) 4294967296=(l[i].2.1+((body p).length:Int)-uy l[i] p)%4294967296:=by rw[aj (n:=l[i].2.1%4294967296+((body p).length:Int)) (by omega) (by omega),aj (by omega) (by omega),ft (by omega)];omega
   rw[e];rw[aq hq];rfl
theorem ZE {l:ar Stream}{n:Nat}(h:bu n (.sl eu) l):bu (n+322) (.sl eu) (Gl l p):=by
 have h':bu (n+322) (.sl eu) l:=h.mono;unfold Gl;cases hs:dK p;exact h';have hb:=Um hs;have hw:=bO ((body p).length:Int);have hu:(udp p).length<=322:=by simp only[udp,ay];omega
 simp only[ai,ae];have app:∀x:Stream,x.2.2.1.length<=n+322->bu (n+322) (.sl eu) (l++[x]):=by intro x hx;refine⟨?_,λy hy=>?_⟩;have:l.length<=n:=h.1;simp only[ay,aY];omega;rcases aA.1 hy with g|g;exact h'.2 y g;rw[dA.1 g];exact⟨⟨bM,bM,bM,bM,bM⟩,bM,hx,bM⟩
 have put:∀(i:Nat)(x:Stream),x.2.2.1.length<=n+322->bu (n+322) (.sl eu) (l.set i x):=by intro i x hx;refine⟨?_,λy hy=>?_⟩;show(l.set i x).length<=_;rw[aL];exact h'.1;rcases eP hy with g|rfl;exact h'.2 y g;exact⟨⟨bM,bM,bM,bM,bM⟩,bM,hx,bM⟩
 split;cases p.2.2.2.2.2.2.2.2.1==17 with|true=>exact app _ (show(udp p).length<=_ by omega)|false=>cases EB p 2 with|true=>exact app _ (eT _)|false=>exact h'
 ·rename_i i hf;obtain⟨hi,_⟩:=List.findIdx?_eq_some_iff_getElem.1 hf;have hd:(l[i].2.2.1).length<=n:=(h.2 _ (aE hi)).2.2.1;simp only[dv hi];cases p.2.2.2.2.2.2.2.2.1==17 with
  |true=>exact put _ _ (by simp only[ay];omega)
  |false=>
   cases EB p 2;case true=>exact h'
   cases l[i].2.2.2||EB p 4;case true=>exact h'
   cases decide (uy l[i] p<=((body p).length:Int))with|false=>exact h'|true=>exact put _ _ (by simp only[ao8,ay,bl];omega)
theorem kB {y:Bytes}{i:Nat}(h:i<x.length):bZ (x++y) i=bZ x i:=by grind[bZ]
theorem zj {y:Bytes}{i:Nat}(h:x.length<=i):bZ (x++y) i=bZ y (i-x.length):=by grind[bZ]
theorem abi {i n:Nat}(h:i<n):bZ (x.take n) i=bZ x i:=by grind[bZ]
theorem qW {i n:Nat}:bZ (x.drop n) i=bZ x (n+i):=by grind[bZ]
theorem ahK {p:Bytes}{i:Nat}(h:i<a\/a+p.length<=i):bZ (xn s (a:Int) p) i=bZ s i:=by
 unfold xn fO;by_cases hw:(0:Int)<=a/\(a:Int)+(p.length:Int)<=(s.length:Int)
 rw[ax hw,af,aw];have ht:(s.take a).length=a:=by rw[bm];omega
 rcases h with h|h;rw[kB (by rw[ay];omega),kB (by omega),abi h];rw[zj (by rw[ay];omega),qW,ay,ht];congr 1;omega;rw[aq hw];rfl
theorem ahJ {p:Bytes}{j:Nat}(hw:a+p.length<=s.length)(hj:j<p.length):bZ (xn s (a:Int) p) (a+j)=bZ p j:=by unfold xn fO;rw[ax ⟨by omega,by omega⟩,af,aw];grind[kB,zj]
theorem Cr:cM s (a:Int)=bif decide (a+2<=s.length) then((bZ s a*256+bZ s (a+1):Nat):Int) else-1:=by grind[cM,fO]
theorem LQ (hl:s.length=t.length)(h0:bZ s a=bZ t a)(h1:bZ s (a+1)=bZ t (a+1)):cM s (a:Int)=cM t (a:Int):=by grind[Cr]
theorem UU:cM (s.drop k) (a:Int)=cM s ((k+a:Nat):Int):=by rw[Cr,Cr,qW,qW,bl,show k+(a+1)=k+a+1 by omega,show decide (a+2<=s.length-k)=decide (k+a+2<=s.length) from decide_eq_decide.2 (by omega)]
theorem M0:dX s (a:Int)=bif decide (a+4<=s.length) then(((bZ s a*256+bZ s (a+1))*65536+(bZ s (a+2)*256+bZ s (a+3)):Nat):Int) else-1:=by grind[dX,fO]
theorem UW:dX (s.drop k) (a:Int)=dX s ((k+a:Nat):Int):=by rw[M0,M0,qW,qW,qW,qW,bl,show k+(a+1)=k+a+1 by omega,show k+(a+2)=k+a+2 by omega,show k+(a+3)=k+a+3 by omega,show decide (a+4<=s.length-k)=decide (k+a+4<=s.length) from decide_eq_decide.2 (by omega)]
theorem abT (hl:s.length=t.length)(h:∀j,j<4->bZ s (a+j)=bZ t (a+j)):dX s (a:Int)=dX t (a:Int):=by rw[M0,M0,hl,show bZ s a=bZ t a from h 0 (by omega),h 1 (by omega),h 2 (by omega),h 3 (by omega)]
def cx (s:Bytes):Nat:=bif cM s 12==33024 then 18 else 14
def jC (s:Bytes):Nat:=bZ s (cx s+9)
def TA (k:Nat):Nat:=bif (k:Int)==6 then 16 else 6
def Ca (s:Bytes):Nat:=cx s+10
def vA (s:Bytes):Nat:=cx s+20+TA (jC s)
theorem Ns (k:Nat):TA k=16/\k=6\/TA k=6/\k≠6:=by grind[TA]
theorem Pk (s:Bytes):cx s=18/\(cM s 12==33024)=true\/cx s=14/\(cM s 12==33024)=false:=by grind[cx]
theorem Rv (k:Nat)(h:k<256):fM (k:Int)=some (TA k:Int):=by grind[fM,TA]
theorem P6 (s:Bytes)(h:s.length<=10^9):uR s=some ((Ca s:Int),(vA s:Int)):=by
 unfold uR;rw[Cw s 12 h,ab];have hk:=fu s (cx s+9)
 have core:∀o:Nat,cx s=o->(o=18\/o=14)->(bif decide (ak ((o:Int)+9)<(s.length:Int)) then
  aa (idx s (ak ((o:Int)+9))) λx2=>aa (fM (ak ((UInt8.toNat x2:Int)))) λr3=>some (ak ((o:Int)+10),ak ((ak ((o:Int)+20))+r3))
  else aa (fM 0) λr4=>some (ak ((o:Int)+10),ak ((ak ((o:Int)+20))+r4)))=some ((Ca s:Int),(vA s:Int)):=by
  intro o ho h2
  have hs:=Ns (jC s)
  rw[aj (n:=(o:Int)+9) (by omega) (by omega),aj (n:=(o:Int)+10) (by omega) (by omega),aj (n:=(o:Int)+20) (by omega) (by omega)]
  unfold Ca vA
  rw[ho]
  by_cases hl:o+9<s.length
  ·obtain⟨x,hx,ex⟩:=lJ hl
   rw[gN,af,show(o:Int)+9=((o+9:Nat):Int) by omega,hx,ab,ex,gq (by rw[<-ho];omega),Rv _ (by rw[<-ho];exact hk),ab,show bZ s (o+9)=jC s by unfold jC;rw[ho],aj (by omega) (by omega)]
   congr 1
  ·have hz:jC s=0:=by unfold jC;rw[ho];exact Ox
   have h0:fM 0=some (TA 0:Int):=Rv 0 (by omega)
   rw[fF,ae,h0,ab,<-hz,aj (by omega) (by omega)]
   congr 1
 rcases Pk s with⟨h1,h2⟩|⟨h1,h2⟩;rw[h2,af];exact core 18 h1 (.inl rfl);rw[h2,ae];exact core 14 h1 (.inr rfl)
theorem V8 (s:Bytes)(h:s.length<=10^9):B6 s=some (bif decide (s.length<cx s+46) then(-1, -1) else((Ca s:Int),(vA s:Int))):=by
 unfold B6;rw[wC s 12 h,ab];have hk:=fu s (cx s+9)
 have core:∀o:Nat,cx s=o->(o=18\/o=14)->(bif decide ((s.length:Int)<ak ((o:Int)+46)) then some ((-1),(-1)) else
  aa (idx s (ak ((o:Int)+9))) λx2=>bif (ak ((UInt8.toNat x2:Int)))==6 then some (ak ((o:Int)+10),ak ((o:Int)+36)) else some (ak ((o:Int)+10),ak ((o:Int)+26)))=some (bif decide (s.length<cx s+46) then(-1, -1) else((Ca s:Int),(vA s:Int))):=by
  intro o ho h2
  rw[aj (n:=(o:Int)+9) (by omega) (by omega),aj (n:=(o:Int)+10) (by omega) (by omega),aj (n:=(o:Int)+46) (by omega) (by omega),aj (n:=(o:Int)+36) (by omega) (by omega),aj (n:=(o:Int)+26) (by omega) (by omega),ho]
  by_cases hl:s.length<o+46
  ·rw[ax (show(s.length:Int)<(o:Int)+46 by omega),ax hl];rfl
  ·obtain⟨x,hx,ex⟩:=lJ (s:=s) (i:=o+9)
   rw[aq (show¬(s.length:Int)<(o:Int)+46 by omega),aq hl,ae,ae,show(o:Int)+9=((o+9:Nat):Int) by omega,hx,ab,ex,gq (by rw[<-ho];omega),show bZ s (o+9)=jC s by unfold jC;rw[ho]]
   unfold Ca vA TA
   rw[ho]
   cases (jC s:Int)==6 with
   |true=>simp only[af];congr 2
   |false=>simp only[ae];congr 2
 rcases Pk s with⟨h1,h2⟩|⟨h1,h2⟩;rw[h2,af];exact core 18 h1 (.inl rfl);rw[h2,ae];exact core 14 h1 (.inr rfl)
theorem ahA {a:Int}(h:dp a 0 281474976710655=true):(mac a).length=6:=by
 have ha:=bq.1 h;have e:mac a=cv (Int.fdiv a (2^(vD 32)))++gP (ak (toNat (gr a&&&gr 4294967295))):=by grind[mac,jH,iS,lE,ab,bO,dB,aQ]
 grind[IntKind.bits,Pb,WB,amy,bq]
theorem SB (h:dK p=true):cx (eQ p).1+46<=(eQ p).1.length:=by
 have hh:LV p=true:=by simp only[dK,ah]at h;exact h.1
 have hp:=aar (ipP p).1;have hi:=IV h;unfold eQ aoh abC at hi⊢;rw[h,af]at hi⊢;cases he:Gq (p.1,p.2.1,p.2.2.1,2048,pad (ipP p).1)with|false=>rw[he]at hi;cases hi|true=>?_
 simp only[af];simp only[LV,ah]at hh;have m1:=ahA hh.1;have m2:=ahA hh.2.1;have hv:=bq.1 hh.2.2.1;have w1:(cv 33024).length=2:=rfl;have w3:(cv 2048).length=2:=rfl;generalize pad (ipP p).1=bd at hp⊢;unfold XM;simp only;generalize mac p.1=M1 at m1⊢;generalize mac p.2.1=M2 at m2⊢;by_cases hc:p.2.2.1>=0;have w2:(cv p.2.2.1).length=2:=by rw[Pb,bq.2 (by omega)];rfl
 rw[ax hc,af];have hb:cx (((((M1++M2)++cv 33024)++cv p.2.2.1)++cv 2048)++bd)=18:=by
  unfold cx;have e12:cM (((((M1++M2)++cv 33024)++cv p.2.2.1)++cv 2048)++bd) ((12:Nat):Int)=33024:=by rw[Cr,ax (by simp only[ay];omega),af];rw[kB (by simp only[ay];omega),kB (by simp only[ay];omega),kB (by simp only[ay];omega),zj (by simp only[ay];omega)];rw[kB (by simp only[ay];omega),kB (by simp only[ay];omega),kB (by simp only[ay];omega),zj (by simp only[ay];omega)];rw[ay,m1,m2];rfl
  rw[show(12:Int)=((12:Nat):Int) from rfl,e12];rfl
 rw[hb];simp only[ay];omega;rw[aq hc,ae];have hb:cx (((M1++M2)++cv 2048)++bd)=14:=by
  unfold cx;have e12:cM (((M1++M2)++cv 2048)++bd) ((12:Nat):Int)=2048:=by rw[Cr,ax (by simp only[ay];omega),af];rw[kB (by simp only[ay];omega),zj (by simp only[ay];omega)];rw[kB (by simp only[ay];omega),zj (by simp only[ay];omega)];rw[ay,m1,m2];rfl
  rw[show(12:Int)=((12:Nat):Int) from rfl,e12];rfl
 rw[hb];simp only[ay];omega
def tV (t:Bytes)(x y:Bytes):Bytes:=xn (xn t (Ca t:Int) x) (vA t:Int) y
theorem H4 (t x y:Bytes):(tV t x y).length=t.length:=by grind[tV,Ek]
def jK (p:aP):Bytes×Bool:=bif dK p then(tV (eQ p).1 (cv 0) (cv 0),true) else([],false)
theorem acb (h:dK p=false):eQ p=([],false):=by grind[eQ]
theorem Yj (p:aP):oJ p=some (jK p):=by have hl:=Ct p;have w0:=bO 0;unfold oJ jK tV;rw[IW,ab];cases h:dK p with|false=>rw[acb h];rfl|true=>rw[IV h];simp only[ai,ae,af,P6 _ (show(eQ p).1.length<=10^9 by omega),ab,mC,JN _ _ _ (show(eQ p).1.length<=10^9 by omega) (show(cv 0).length<=10^9 by omega),JN _ _ _ (show(xn (eQ p).1 (Ca (eQ p).1:Int) (cv 0)).length<=10^9 by rw[Ek];omega) (show(cv 0).length<=10^9 by omega)]
theorem YX (p:aP):oR p=some (jK p):=by have hl:=Ct p;unfold oR jK tV;rw[Jg,ab];cases h:dK p with|false=>rw[acb h];rfl|true=>grind[SB,IV,V8,ab,iS,FE,cv,Ek]
def KO (s t:Bytes):Prop:=s.length=t.length/\∀i,i<Ca t\/(Ca t+2<=i/\i<vA t)\/vA t+2<=i->bZ s i=bZ t i
theorem Ej (t:Bytes):(cx t=14\/cx t=18)/\Ca t=cx t+10/\cx t+26<=vA t/\vA t<=cx t+36/\(vA t=cx t+36/\jC t=6\/vA t=cx t+26/\jC t≠6):=by grind[Pk,Ns,Ca,vA]
theorem N9 (t:Bytes){y:Bytes}(hx:x.length<=2)(hy:y.length<=2):KO (tV t x y) t:=by have:=Ej t;refine⟨H4 t x y,λi hi=>?_⟩;grind[tV,ahK]
theorem KO.body (h:KO s t):cx s=cx t:=by have:=Ej t;unfold cx;have e:cM s ((12:Nat):Int)=cM t ((12:Nat):Int):=LQ h.1 (h.2 _ (by omega)) (h.2 _ (by omega));grind
theorem KO.kind (h:KO s t):jC s=jC t:=by have:=Ej t;unfold jC;rw[h.body,h.2 _ (by omega)]
theorem KO.aqw (h:KO s t):Ca s=Ca t/\vA s=vA t:=by unfold Ca vA;rw[h.body,h.kind];exact⟨rfl,rfl⟩
theorem KO.arz (h:KO s t):cM s ((cx t+2:Nat):Int)=cM t ((cx t+2:Nat):Int):=by have:=Ej t;exact LQ h.1 (h.2 _ (by omega)) (h.2 _ (by omega))
structure TOk (t:Bytes):Prop where
 eth:(gn t).2=true
 bd:(gn t).1.2.2.2.2=t.drop (cx t)
 l1:cx t+46<=t.length
 n1:20+TA (jC t)+2<=cM t ((cx t+2:Nat):Int)
 n2:cM t ((cx t+2:Nat):Int)<=(t.length:Int)-(cx t:Int)
theorem RS (h:(gn s).2=true):(gn s).1.2.2.2.2=s.drop (cx s)/\18<=s.length/\46<=s.length-cx s/\s.length-cx s<=400:=by
 unfold gn at h⊢;by_cases h8:(s.length:Int)<18;rw[ax h8]at h;cases h;rw[aq h8]at h⊢;simp only[ae]at h⊢;rcases Pk s with⟨h1,h2⟩|⟨h1,h2⟩;rw[h2]at h⊢;simp only[af]at h⊢;cases he:Gq (UA s)with|false=>rw[he]at h;cases h|true=>rw[h1];simp only[Gq,ah,bq,UA,bl]at he;simp only[af,UA];refine⟨bM,by omega,by omega,by omega⟩
 rw[h2]at h⊢;simp only[ae]at h⊢;cases he:Gq (IJ s)with|false=>rw[he]at h;cases h|true=>rw[h1];simp only[Gq,ah,bq,IJ,bl]at he;simp only[af,IJ];refine⟨bM,by omega,by omega,by omega⟩
theorem am2 (h:(zL s).2=0):(gn s).2=true/\(om (gn s).1.2.2.2.2).2=true/\dK (zL s).1=true/\ (xU (om (gn s).1.2.2.2.2).1.2.2.2.2.1 (om (gn s).1.2.2.2.2).1.2.2.2.2.2.1 (om (gn s).1.2.2.2.2).1.2.2.2.1 (om (gn s).1.2.2.2.2).1.2.2.2.2.2.2).2=true:=by grind[zL]
theorem amU {b:Bytes}(h:(om b).2=true):20<=cM b 2/\cM b 2<=(b.length:Int)/\(om b).1=OU b:=by grind[om]
theorem ajR {a b k:Int}(h:(xU a b k s).2=true):k=6/\20<=s.length\/k=17/\8<=s.length:=by grind[xU]
theorem aiA (hl:s.length=t.length)(h:∀i,i<18->bZ s i=bZ t i)(hs:(gn s).2=true):(gn t).2=true:=by
 have g16:∀a,a+2<=18->cM s ((a:Nat):Int)=cM t ((a:Nat):Int):=λa ha=>LQ hl (h _ (by omega)) (h _ (by omega));have g32:∀a,a+4<=18->dX s ((a:Nat):Int)=dX t ((a:Nat):Int):=λa ha=>abT hl (λj hj=>h _ (by omega));have e0:N3 s 0=N3 t 0:=by unfold N3;rw[show(0:Int)=((0:Nat):Int) from rfl,g16 0 (by omega),show((0:Nat):Int)+2=((2:Nat):Int) from rfl,g32 2 (by omega)]
 have e6:N3 s 6=N3 t 6:=by unfold N3;rw[show(6:Int)=((6:Nat):Int) from rfl,g16 6 (by omega),show((6:Nat):Int)+2=((8:Nat):Int) from rfl,g32 8 (by omega)]
 grind[cM,Gq,UA,IJ,gn]
theorem aqE (ha:KO s t)(h:(zL s).2=0):TOk t:=by
 have hp:=Ej t;obtain⟨h1,h2,_,h4⟩:=am2 h;have he:=RS h1;rw[he.1]at h2 h4;have hi:=amU h2;have hs:=ajR h4;rw[hi.2.2]at hs;have e1:(gn t).2=true:=aiA ha.1 (λi hi=>ha.2 i (by omega)) h1;have e2:=RS e1;have en:cM (s.drop (cx s)) 2=cM t ((cx t+2:Nat):Int):=by have:cM (s.drop (cx s)) ((2:Nat):Int)=cM s ((cx s+2:Nat):Int):=UU;rw[show(2:Int)=((2:Nat):Int) from rfl,this,ha.body,ha.arz]
 have ek:(OU (s.drop (cx s))).2.2.2.1=(jC t:Int):=by show(bZ (s.drop (cx s)) 9:Int)=_;rw[qW,<-ha.kind];rfl
 have eg:(OU (s.drop (cx s))).2.2.2.2.2.2.length=(cM t ((cx t+2:Nat):Int)).toNat-20:=by show(((s.drop (cx s)).take (cM (s.drop (cx s)) 2).toNat).drop 20).length=_;grind
 rw[ek,eg]at hs;rw[en]at hi;have hn:=hi.2.1;rw[bl,ha.1,ha.body]at hn;have hk:=Ns (jC t);exact⟨e1,e2.1,by omega,by omega,by omega⟩
theorem aku (h:(jK p).1=t)(hs:dK p=true)(ht:TOk t):cM t (Ca t:Int)=0/\cM t (vA t:Int)=0:=by
 unfold jK at h;rw[hs]at h;simp only[af]at h;have w0:(cv 0).length=2:=rfl;have ha:KO (tV (eQ p).1 (cv 0) (cv 0)) (eQ p).1:=N9 _ (by omega) (by omega);rw[h]at ha;have hp:=Ej t;have Hr:=ha.aqw;have hl:=ht.l1;have EH:=ha.1;have Hq:=ht.n1;have C1:=ht.n2;have hk:=Ns (jC t);have hB:vA t+2<=t.length:=by omega
 have b0:bZ (cv 0) 0=0:=rfl;have b1:bZ (cv 0) 1=0:=rfl;rw[Cr,Cr,gN,ax hB,af,af];have eB:∀j,j<2->bZ t (vA t+j)=bZ (cv 0) j:=by intro j hj;rw[<-h];unfold tV;rw[show vA (xn (xn (eQ p).1 (Ca (eQ p).1:Int) (cv 0)) (vA (eQ p).1:Int) (cv 0))=vA (eQ p).1 from by have:=Hr.2;rw[<-h]at this;exact this];simp_all[ahJ,Ek]
 have eA:∀j,j<2->bZ t (Ca t+j)=bZ (cv 0) j:=by intro j hj;rw[<-h];unfold tV;rw[show Ca (xn (xn (eQ p).1 (Ca (eQ p).1:Int) (cv 0)) (vA (eQ p).1:Int) (cv 0))=Ca (eQ p).1 from by have:=Hr.1;rw[<-h]at this;exact this];simp(disch:=omega)[ahK,ahJ]
 grind
theorem Co (s:Bytes):aS (da s)=s:=by simp_all[aS,da,List.map_congr_left]
theorem amn (s t:Bytes):da (s++t)=da s++da t:=eh
theorem Qd (s:Bytes):(da s).length=s.length:=bW ..
theorem T1 (l:ar α)(i j:Nat)(h:i<=j)(h2:j<=l.length):sub l (i:Int) (j:Int)=some ((l.drop i).take (j-i)):=by grind[sub,List.take_drop]
theorem ah5 (a k:Nat):tdiv (a:Int) (k:Int)=((a/k:Nat):Int):=(Int.ofNat_tdiv a k).symm
theorem ad8 (a k:Nat):tmod (a:Int) (k:Int)=((a%k:Nat):Int):=(Int.ofNat_tmod a k).symm
theorem mem_iff:im m=true↔(∀x∈m,x.length=128)/\m.length<=64:=by grind[im]
theorem abN:∀{m:bp},(∀x∈m,x.length=128)->m.flatten.length=128*m.length
 |[],_=>rfl
 |x::m,h=>by have:=abN (m:=m) (λy hy=>h y (by simp[hy]));grind
theorem XW:∀{m:bp}(_:∀x∈m,x.length=128)(p:Nat)(hp:p<m.length)(o c:Nat),o+c<=128->(m.flatten.drop (128*p+o)).take c=(m[p].drop o).take c
 |x::m,h,0,hp,o,c,ho=>by grind
 |x::m,h,p+1,hp,o,c,ho=>by have hx:=h x (by simp);simp only[List.flatten_cons,List.getElem_cons_succ];rw[show 128*(p+1)+o=x.length+(128*p+o) by omega,List.drop_length_add_append];exact XW (m:=m) (λy hy=>h y (by simp[hy])) p (by simpa using hp) o c ho
def E4 (m:bp)(a n:Nat):Bytes:=(m.flatten.drop a).take n
theorem I9 {n:Nat}(h:im m=true)(hn:a+n<=128*m.length):(E4 m a n).length=n:=by have:=abN (mem_iff.1 h).1;grind[E4]
theorem am3 (m:bp)(a n:Nat):(E4 m a n).length<=n:=by simp[E4];omega
theorem YE (m:bp)(a k c:Nat):E4 m a (k+c)=E4 m a k++E4 m (a+k) c:=by grind[E4,eL]
theorem VQ (h:im m=true){p:Nat}(hp:p<m.length){c:Nat}(ho:o+c<=128)(ha:a=128*p+o):(m[p].drop o).take c=E4 m a c:=by subst ha;exact(XW (mem_iff.1 h).1 p hp o c ho).symm
def iu (m:bp)(a n:Int):Bool:=im m&&decide (0<=n/\0<=a/\a+n<=128*(m.length:Int))
theorem Ma (m:bp)(a n:Int)(h:m.length<=10^9):zB m a n=some (iu m a n):=by unfold zB iu;rw[OR m h,ab,aj (n:=(m.length:Int)*128) (by omega) (by omega)];cases hm:im m with|false=>rfl|true=>simp only[af,bj];by_cases h1:n>=0;by_cases h2:n<=(m.length:Int)*128;rw[aj (n:=(m.length:Int)*128-n) (by omega) (by omega)];by_cases h3:a>=0;simp only[ax h1,ax h2,ax h3,af,ab];exact congrArg some (decide_eq_decide.2 (by omega));simp only[ax h1,ax h2,aq h3,af,ae,ab];exact congrArg some (fF).symm;simp only[ax h1,aq h2,af,ae,ab];exact congrArg some (fF).symm;simp only[aq h1,ae,ab];exact congrArg some (fF).symm
theorem Mz (m:bp)(a n:Int)(h:m.length<=10^9):mQ m a n=some (iu m a n):=by unfold mQ iu;rw[Ku m h,ab,aj (n:=128*(m.length:Int)) (by omega) (by omega)];cases hm:im m with|false=>rfl|true=>simp only[af,bj];by_cases h1:n>=0;by_cases h3:a>=0;by_cases h2:a<=128*(m.length:Int);rw[aj (n:=128*(m.length:Int)-a) (by omega) (by omega)];simp only[ax h1,ax h2,ax h3,af,ab];exact congrArg some (decide_eq_decide.2 (by omega));simp only[ax h1,aq h2,ax h3,af,ae,ab];exact congrArg some (fF).symm;simp only[ax h1,aq h3,af,ae,ab];exact congrArg some (fF).symm;simp only[aq h1,ae,ab];exact congrArg some (fF).symm
theorem P2 (hm:im m=true)(K:Int->cI->au R):∀(n r k a f:Nat),r<=n->n<f->a+k+r<=128*m.length->
 aH (mF K ((k+r:Nat):Int) m) f (((a+k:Nat):Int),da (E4 m a k))=K ((a+k+r:Nat):Int) (da (E4 m a (k+r)))
 |n,r,k,a,0,_,hf,_=>by omega
 |n,0,k,a,f+1,hr,hf,hb=>by grind[aH,mF,Qd,I9]
 |0,r+1,k,a,f+1,hr,hf,hb=>by omega
 |n+1,r+1,k,a,f+1,hr,hf,hb=>by
  have h64:=(mem_iff.1 hm).2;have hl:=I9 hm (show a+k<=128*m.length by omega);obtain⟨p,hp⟩:∃p,(a+k)/128=p:=⟨_,rfl⟩
  obtain⟨o,ho⟩:∃o,(a+k)%128=o:=⟨_,rfl⟩
  have hpo:a+k=128*p+o:=by omega
  have ho2:o<128:=by omega
  have Hr:p<m.length:=by omega
  obtain⟨c,hc⟩:∃c,min (r+1) (128-o)=c:=⟨_,rfl⟩
  have hpg:=(mem_iff.1 hm).1 _ (aE Hr);have e1:tdiv ((a+k:Nat):Int) 128=(p:Int):=by grind
  have e2:tmod ((a+k:Nat):Int) 128=(o:Int):=by grind
  have key:=P2 hm K n (r+1-c) (k+c) a f (by omega) (by omega) (by omega);rw[aH];simp only[mF,Qd,hl,e1,e2];rw[gN,af,nt,aj (n:=(p:Int)) (by omega) (by omega),aN Hr,ab,nt];rw[aj (n:=(o:Int)+((k+(r+1):Nat):Int)) (by omega) (by omega),aj (n:=(o:Int)+((k+(r+1):Nat):Int)-(k:Int)) (by omega) (by omega)];rw[show(if(o:Int)+((k+(r+1):Nat):Int)-(k:Int)<128 then(o:Int)+((k+(r+1):Nat):Int)-(k:Int) else 128)=((o+c:Nat):Int) by split<;>omega];rw[T1 _ _ _ (by omega) (by omega),ab,show o+c-o=c by omega,VQ hm Hr (show o+c<=128 by omega) hpo];have EH:=I9 hm (show a+k+c<=128*m.length by omega);rw[EH,aQ (by omega),aj (by omega) (by omega),<-amn,<-YE];grind
theorem ami (m:bp)(a n:Int)(h:m.length<=10^9):sq m a n=some (bif iu m a n then(E4 m a.toNat n.toNat,true) else([],false)):=by have Cg:=dc;unfold sq;rw[Ma m a n h,ab];cases hw:iu m a n with|false=>rfl|true=>simp only[iu,ah,bI]at hw;obtain⟨hm,h1,h2,h3⟩:=hw;have h64:=(mem_iff.1 hm).2;simp only[ai,ae,af];rw[zip,aQ (by omega)];obtain⟨a,rfl⟩:=aD h2;obtain⟨n,rfl⟩:=aD h1;have:=P2 hm (λ(y4:Int) (y5:cI)=>some (aS y5,true)) n n 0 a fuel (by omega) (by omega) (by omega);rw[cr,dW]at this;refine Eq.trans this ?_;simp only[Co,aw]
theorem QG (hm:im m=true)(K:Int->Int->Bytes->au R):∀(n r k a f:Nat),r<=n->n<f->a+k+r<=128*m.length->
 aH (rT K m) f (((a+k:Nat):Int),(r:Int),E4 m a k)=K ((a+k+r:Nat):Int) 0 (E4 m a (k+r))
 |n,r,k,a,0,_,hf,_=>by omega
 |n,0,k,a,f+1,hr,hf,hb=>by rfl
 |0,r+1,k,a,f+1,hr,hf,hb=>by omega
 |n+1,r+1,k,a,f+1,hr,hf,hb=>by
  have h64:=(mem_iff.1 hm).2;have hl:=I9 hm (show a+k<=128*m.length by omega);obtain⟨p,hp⟩:∃p,(a+k)/128=p:=⟨_,rfl⟩
  obtain⟨o,ho⟩:∃o,(a+k)%128=o:=⟨_,rfl⟩
  have hpo:a+k=128*p+o:=by omega
  have ho2:o<128:=by omega
  have Hr:p<m.length:=by omega
  obtain⟨c,hc⟩:∃c,min (r+1) (128-o)=c:=⟨_,rfl⟩
  have hpg:=(mem_iff.1 hm).1 _ (aE Hr);have e1:tdiv ((a+k:Nat):Int) 128=(p:Int):=by grind
  have e2:tmod ((a+k:Nat):Int) 128=(o:Int):=by grind
  have key:=QG hm K n (r+1-c) (k+c) a f (by omega) (by omega) (by omega);rw[aH];simp only[rT,e1,e2];rw[gN,af,nt,nt,aj (n:=(p:Int)) (by omega) (by omega),aN Hr,ab];rw[aj (n:=128-(o:Int)) (by omega) (by omega)];rw[show(if 128-(o:Int)<((r+1:Nat):Int) then 128-(o:Int) else((r+1:Nat):Int))=(c:Int) by split<;>omega];rw[aj (n:=(o:Int)+(c:Int)) (by omega) (by omega),show(o:Int)+(c:Int)=((o+c:Nat):Int) by omega];rw[T1 _ _ _ (by omega) (by omega),ab,show o+c-o=c by omega,VQ hm Hr (show o+c<=128 by omega) hpo];have EH:=I9 hm (show a+k+c<=128*m.length by omega);rw[EH,hl,aQ (by omega),aj (n:=((a+k:Nat):Int)+(c:Int)) (by omega) (by omega),aj (n:=((r+1:Nat):Int)-(c:Int)) (by omega) (by omega),<-YE];grind
theorem anq (m:bp)(a n:Int)(h:m.length<=10^9):sH m a n=some (bif iu m a n then(E4 m a.toNat n.toNat,true) else([],false)):=by have Cg:=dc;unfold sH;rw[Mz m a n h,ab];cases hw:iu m a n with|false=>rfl|true=>simp only[iu,ah,bI]at hw;obtain⟨hm,h1,h2,h3⟩:=hw;have h64:=(mem_iff.1 hm).2;simp only[ai,ae,af];obtain⟨a,rfl⟩:=aD h2;obtain⟨n,rfl⟩:=aD h1;have:=QG hm (λ(y4:Int) (y5:Int) (y6:Bytes)=>some (y6,true)) n n 0 a fuel (by omega) (by omega) (by omega);rw[cr,dW]at this;exact this
def aaf (d p:Int)(w:Bool)(x:aC):Bool:=zI d p x&&(x.2.2.2|| !w)
def zJ (l:ar aC)(d p:Int)(w:Bool):Int:=match l.findIdx? (aaf d p w)with|some i=>(l.getD i aag).2.2.1|none=> -1
theorem ann (l:ar aC)(d p:Int)(w:Bool)(h:l.length<=10^9):FU l d p w=some (zJ l d p w):=by unfold FU zJ;refine Eq.trans (F4 (p:=aaf d p w) (hit:=λi=>aa (idx l i) λx=>some x.2.2.1) (fin:=some (-1)) l (by omega) (λi hi nx=>?_) (λnx=>?_)) ?_;simp only[yL];rw[gN,aN hi,aj (by omega) (by omega)];simp only[af,ab,aaf,zI];cases l[i].1==d<;>cases l[i].2.1==p<;>cases l[i].2.2.2<;>cases w<;>rfl;simp only[yL];rw[fF];rfl;cases hf:l.findIdx? (aaf d p w)with|none=>rfl|some i=>obtain⟨hi,_⟩:=List.findIdx?_eq_some_iff_getElem.1 hf;simp only[aN hi,ab,dv hi]
theorem Vw (h:fN l=true){i:Nat}(hi:i<l.length):RE l[i]=true/\∀j (hj:j<i),zI l[i].1 l[i].2.1 (l[j]'(by omega))=false:=by simp only[fN,ah,aO,bU]at h;have:=h.2 i hi;simp only[aae,ah,aO,bU,dv hi,aU]at this;grind
theorem Yr {p:Int}{m:aC}:zI d p m=true↔m.1=d/\m.2.1=p:=by simp[zI]
theorem amx (h:fN l=true){p:Int}{i j:Nat}(hi:i<l.length)(hj:j<l.length)(h1:zI d p l[i]=true)(h2:zI d p l[j]=true):i=j:=by grind[Yr,Vw]
theorem VC (h:fN l=true)(d p:Int)(w:Bool)(h1:0<=zJ l d p w):zJ l d p w<=63/\0<=p/\p<=1023:=by grind[zJ,aaf,List.findIdx?_eq_some_iff_getElem,Vw,Yr,RE,bq]
theorem ai3 (l:ar aC)(d:Int)(a:Nat)(w:Bool)(h:l.length<=10^9)(hm:fN l=true)(ha:a<=9223372036854775807): JR l d (a:Int) w=some (if 0<=zJ l d ((a/128:Nat):Int) w then zJ l d ((a/128:Nat):Int) w*128+((a%128:Nat):Int) else-1):=by
 have e1:tdiv (a:Int) 128=((a/128:Nat):Int):=ah5 a 128;have e2:tmod (a:Int) 128=((a%128:Nat):Int):=ad8 a 128;unfold JR;rw[fF,ae,nt,e1,e2,aj (by omega) (by omega),acr l _ _ h,ab];generalize ((a/128:Nat):Int)=p;have vC:=VC hm d p w;unfold ac4;cases hf:l.findIdx? (zI d p)with
 |none=>
  have hn:zJ l d p w= -1:=by grind[zJ,aaf]
  rw[hn];rfl
 |some i=>
  obtain⟨hi,h2,h3⟩:=List.findIdx?_eq_some_iff_getElem.1 hf;simp only;rw[fF,aN hi];simp only[ae,ab];cases hq:l[i].2.2.2|| !w with
  |true=>
   have hF:zJ l d p w=l[i].2.2.1:=by grind[zJ,List.findIdx?_eq_some_iff_getElem,aaf]
   have h4:=(Vw hm hi).1;simp only[RE,ah,bq]at h4
   rw[hF,aM (show 0<=l[i].2.2.1 by omega),show(aa (cond w (some (!l[i].2.2.2)) (some false)) λq3=>cond q3 (some (-1:Int)) _)=_ from by
    have:(cond w (some (!l[i].2.2.2)) (some false))=some false:=by cases w<;>cases hz:l[i].2.2.2<;>rw[hz]at hq<;>first|rfl|cases hq
    rw[this,ab,ae]]
   grind[aj]
  |false=>grind[zJ,List.getElem_of_mem,zI,aaf,amx,ab]
def nr (l:ar aC)(m:bp)(d:Int)(w:Bool):Nat->Nat->Nat->au (ar (Int×Int))
 |0,_,_=>some []
 |n+1,a,r=>if r=0 then some [] else
  if 0<=zJ l d ((a/128:Nat):Int) w/\zJ l d ((a/128:Nat):Int) w<(m.length:Int) then
   (nr l m d w n (a+min (128-a%128) r) (r-min (128-a%128) r)).map (λq=>(zJ l d ((a/128:Nat):Int) w*128+((a%128:Nat):Int),((min (128-a%128) r:Nat):Int))::q)
  else none
theorem aa4 (hm:im m=true){f:Int}(h0:0<=f){c:Nat}(hc:0<c)(ho:o+c<=128):iu m (f*128+(o:Int)) (c:Int)=decide (f<(m.length:Int)):=by grind[iu]
theorem aeo (hm:im m=true){f:Int}(h0:0<=f):iu m (f*128) 128=decide (f<(m.length:Int)):=by grind[iu]
theorem P4 (hl:fN l=true)(hL:l.length<=10^9)(hm:im m=true)(d:Int)(w:Bool):∀(n a r f:Nat)(acc:ar (Int×Int)),r<=n->n<f->acc.length+n<=1000000->a<=9223372036854775807->
 aH (uO (λ(y9:Int) (uq:Int) (Cf:ar (Int×Int))=>some (Cf,true)) (λ(F1:Int) (Ev:Int) (zS:ar (Int×Int)) (Gg:Bool) (Lt:ar (Int×Int))=>some (zS,Gg)) l d w ([]:ar (Int×Int)) false m) f ((a:Int),(r:Int),acc)
  =match nr l m d w n a r with|some q=>some (acc++q,true)|none=>some ([],false)
 |n,a,r,0,acc,_,hf,_,_=>by omega
 |0,a,r,f+1,acc,hr,hf,hA,ha=>by rw[aH];simp only[uO];rw[fF];simp[nr]
 |n+1,a,r,f+1,acc,hr,hf,hA,ha=>by
  have h64:=(mem_iff.1 hm).2;rw[aH];simp only[uO,nr];by_cases h0:r=0;rw[fF,aM h0];simp;have e2:tmod (a:Int) 128=((a%128:Nat):Int):=ad8 a 128;have vC:=VC hl d ((a/128:Nat):Int) w;rw[gN,aK h0,ai3 l d a w hL hl ha,ab,nt,e2,aj (n:=128-((a%128:Nat):Int)) (by omega) (by omega)];obtain⟨c,hc⟩:∃c,min (128-a%128) r=c:=⟨_,rfl⟩
  rw[hc,show(if 128-((a%128:Nat):Int)<(r:Int) then 128-((a%128:Nat):Int) else(r:Int))=(c:Int) by split<;>omega];generalize hP:zJ l d ((a/128:Nat):Int) w=P at vC⊢;by_cases hP0:0<=P;have vC:=vC hP0;simp only[aM hP0,af];rw[aq (show¬P*128+((a%128:Nat):Int)<0 by omega),Ma m _ _ (by omega),aa4 hm hP0 (by omega) (by omega)];simp only[ae,ab];by_cases hP1:P<(m.length:Int);rw[ax hP1,aM ⟨hP0,hP1⟩];simp only[ai,ae];rw[aQ (by simp;omega),aj (n:=(a:Int)+(c:Int)) (by omega) (by omega),aj (n:=(r:Int)-(c:Int)) (by omega) (by omega),aq (show¬(a:Int)+(c:Int)<0 by omega)];simp only[ae,ab];have key:=P4 hl hL hm d w n (a+c) (r-c) f (acc++[(P*128+((a%128:Nat):Int),(c:Int))]) (by omega) (by omega) (by simp;omega) (by omega);rw[show((a+c:Nat):Int)=(a:Int)+(c:Int) by omega,show((r-c:Nat):Int)=(r:Int)-(c:Int) by omega]at key;rw[key];cases nr l m d w n (a+c) (r-c)with|none=>rfl|some q=>simp
  rw[aq hP1,nt];rfl;simp only[aK hP0,af];rw[nt,gN];rfl
theorem QI (hl:fN l=true)(hL:l.length<=10^9)(hm:im m=true)(d:Int)(w:Bool):∀(n a r f:Nat)(acc:ar (Int×Int)),r<=n->n<f->acc.length+n<=1000000->a<=9223372036854775807->
 aH (mx (λ(uq:Int) (Cf:Int) (F1:cI) (Ev:cI)=>some (F1,Ev,true)) (λ(zS:Int) (Gg:Int) (Lt:cI) (Zi:cI) (y18:Bool) (y19:cI) (y20:cI)=>some (Lt,Zi,y18)) l d w ([]:cI) ([]:cI) false m) f ((a:Int),(r:Int),acc.map (·.1),acc.map (·.2))
  =match nr l m d w n a r with|some q=>some ((acc++q).map (·.1),(acc++q).map (·.2),true)|none=>some ([],[],false)
 |n,a,r,0,acc,_,hf,_,_=>by omega
 |0,a,r,f+1,acc,hr,hf,hA,ha=>by rw[aH];simp only[mx];rw[fF];simp[nr]
 |n+1,a,r,f+1,acc,hr,hf,hA,ha=>by
  have h64:=(mem_iff.1 hm).2;rw[aH];simp only[mx,nr];by_cases h0:r=0;rw[fF,aM h0];simp;have e1:tdiv (a:Int) 128=((a/128:Nat):Int):=ah5 a 128;have e2:tmod (a:Int) 128=((a%128:Nat):Int):=ad8 a 128;have vC:=VC hl d ((a/128:Nat):Int) w;rw[ax (show(r:Int)>0 by omega),ax (show(a:Int)>=0 by omega),aK h0];simp only[af];rw[nt,e1,e2,aj (n:=((a/128:Nat):Int)) (by omega) (by omega),ann l _ _ w hL,ab,nt,aj (n:=128-((a%128:Nat):Int)) (by omega) (by omega)];obtain⟨c,hc⟩:∃c,min (128-a%128) r=c:=⟨_,rfl⟩
  rw[hc,show(if 128-((a%128:Nat):Int)<(r:Int) then 128-((a%128:Nat):Int) else(r:Int))=(c:Int) by split<;>omega];generalize hP:zJ l d ((a/128:Nat):Int) w=P at vC⊢;by_cases hP0:0<=P;have vC:=vC hP0;rw[aq (show¬P<0 by omega),aj (n:=P*128) (by omega) (by omega),Mz m _ _ (by omega),aeo hm hP0];simp only[ae,ab];by_cases hP1:P<(m.length:Int);rw[ax hP1,aM ⟨hP0,hP1⟩];simp only[ai,ae];rw[aQ (by simp;omega),aQ (by simp;omega),aj (n:=P*128+((a%128:Nat):Int)) (by omega) (by omega),aj (n:=(a:Int)+(c:Int)) (by omega) (by omega),aj (n:=(r:Int)-(c:Int)) (by omega) (by omega)];have key:=QI hl hL hm d w n (a+c) (r-c) f (acc++[(P*128+((a%128:Nat):Int),(c:Int))]) (by omega) (by omega) (by simp;omega) (by omega);rw[show((a+c:Nat):Int)=(a:Int)+(c:Int) by omega,show((r-c:Nat):Int)=(r:Int)-(c:Int) by omega,eh,eh]at key;refine Eq.trans key ?_;cases nr l m d w n (a+c) (r-c)with|none=>rfl|some q=>simp
  rw[aq hP1,nt];rfl;rw[nt,gN];rfl
def re (l:ar aC)(m:bp)(d a n:Int)(w:Bool):ar (Int×Int)×Bool:=
 bif fN l&&(im m&&dp n 0 4096) then
  (bif n==0 then([],true) else bif decide (a<0) then([],false) else match nr l m d w n.toNat a.toNat n.toNat with|some q=>(q,true)|none=>([],false))
 else([],false)
theorem acw (l:ar aC)(m:bp)(d a n:Int)(w:Bool)(hl:l.length<=10^9)(hm:m.length<=10^9)(ha:a<=9223372036854775807):D6 l m d a n w=some (re l m d a n w):=by
 have Cg:=dc;unfold D6 re;simp only[PZ l hl,OR m hm,cq,ab];cases hB:fN l;rfl;cases hM:im m;rfl;cases hN:dp n 0 4096;rfl;have hn:=bq.1 hN;simp only[ai,ae,ab,cA,af];cases h0:n==0;case true=>rfl
 by_cases hA:a<0;rw[ax hA];rfl;rw[aq hA];simp only[ae];obtain⟨a,rfl⟩:=aD (show 0<=a by omega);obtain⟨n,rfl⟩:=aD hn.1;rw[P4 hB hl hM d w n a n fuel [] (by omega) (by omega) (by simp;omega) (by omega)];simp only[aw];cases nr l m d w n a n<;>rfl
theorem YS (l:ar aC)(m:bp)(d a n:Int)(w:Bool)(hl:l.length<=10^9)(hm:m.length<=10^9)(ha:a<=9223372036854775807):ye l m d a n w=some ((re l m d a n w).1.map (·.1),(re l m d a n w).1.map (·.2),(re l m d a n w).2):=by
 have Cg:=dc;unfold ye re;simp only[QE l hl,Ku m hm,cj,ab];cases hB:fN l;rfl;cases hM:im m;rfl;cases hN:dp n 0 4096;rfl;have hn:=bq.1 hN;simp only[ai,ae,ab,cA,af];obtain⟨n,rfl⟩:=aD hn.1;cases h0:((n:Int)==0)with
 |true=>
  have:n=0:=by simpa using h0
  subst this;obtain⟨f,hf⟩:∃f,fuel=f+1:=⟨fuel-1,by omega⟩
  rw[hf,aH];rfl
 |false=>
  have hn0:n≠0:=by simpa using h0
  by_cases hA:a<0;obtain⟨f,hf⟩:∃f,fuel=f+1:=⟨fuel-1,by omega⟩
  rw[ax hA,hf,aH];simp only[mx];rw[gN,fF];rfl;rw[aq hA];simp only[ae];obtain⟨a,rfl⟩:=aD (show 0<=a by omega);refine Eq.trans (QI hB hl hM d w n a n fuel [] (by omega) (by omega) (by simp;omega) (by omega)) ?_;simp only[aw];cases nr l m d w n a n<;>rfl
def N6 (x:Bytes)(o:Nat)(t:Bytes):Bytes:=x.take o++(t++x.drop (o+t.length))
theorem ajL (h:o+t.length<=x.length):(N6 x o t).length=x.length:=by grind[N6]
theorem ajO (x:Bytes)(o:Nat)(t:Bytes):aS (I6 (da x) o (da t))=N6 x o t:=by
 have e:I6 (da x) o (da t)=da (N6 x o t):=by grind[I6,N6,da,List.map_take,List.map_drop]
 rw[e,Co]
theorem amY (h:o+t.length<=x.length):xn x (o:Int) t=N6 x o t:=by grind[xn,fO,N6]
def Ho:Nat->bp->Nat->Bytes->bp
 |0,m,_,_=>m
 |n+1,m,a,s=>if s.length=0 then m else
  Ho n (m.set (a/128) (N6 (m.getD (a/128) []) (a%128) (s.take (128-a%128)))) (a+min (128-a%128) s.length) (s.drop (128-a%128))
def Kf (m:bp):Prop:=(∀x∈m,x.length=128)/\m.length<=64
theorem Nd:im m=true↔Kf m:=mem_iff
theorem RR {p:Nat}(h:Kf m)(hx:x.length=128):Kf (m.set p x):=by refine⟨λy hy=>?_,by rw[aL];exact h.2⟩;rcases eP hy with g|g;exact h.1 y g;rw[g];exact hx
theorem Pc (h:Kf m)(hs:s.length≠0)(ha:a+s.length<=128*m.length): ∃(hp:a/128<m.length),(m[a/128]'hp).length=128/\(N6 (m[a/128]'hp) (a%128) (s.take (128-a%128))).length=128:=by
 have hp:a/128<m.length:=by omega
 have hl:=h.1 _ (aE hp);grind[ajL]
theorem KM:∀(n:Nat){m:bp}{a:Nat}{s:Bytes},Kf m->a+s.length<=128*m.length->Kf (Ho n m a s)/\(Ho n m a s).length=m.length
 |0,m,a,s,h,_=>⟨h,rfl⟩
 |n+1,m,a,s,h,ha=>by rw[Ho];split;exact⟨h,rfl⟩;rename_i hs;obtain⟨hp,hl,ho⟩:=Pc h hs ha;rw[dv hp];have:=KM n (m:=m.set (a/128) (N6 m[a/128] (a%128) (s.take (128-a%128)))) (a:=a+min (128-a%128) s.length) (s:=s.drop (128-a%128)) (RR h ho) (by rw[aL,bl];omega);rw[aL]at this;exact this
theorem N0 (K:Int->Bytes->bp->au R)(K':bp->au R)(hK:∀a m,K a [] m=K' m):∀(n:Nat)(m:bp)(a:Nat)(s:Bytes)(f:Nat),s.length<=n->n<f->Kf m->a+s.length<=128*m.length->
 aH (po K ([]:bp)) f ((a:Int),s,m)=K' (Ho n m a s)
 |n,m,a,s,0,_,hf,_,_=>by omega
 |n,m,a,s,f+1,hs,hf,hm,ha=>by
  rw[aH];simp only[po];by_cases h0:s.length=0;have:s=[]:=cP h0;subst this;rw[aq (by simp),ae,hK];cases n<;>simp[Ho];cases n with
  |zero=>omega
  |succ n=>
   obtain⟨hp,hl,ho⟩:=Pc hm h0 ha;have h64:=hm.2;have e1:tdiv (a:Int) 128=((a/128:Nat):Int):=ah5 a 128;have e2:tmod (a:Int) 128=((a%128:Nat):Int):=ad8 a 128;rw[gN,af,nt,e1,e2,aj (n:=((a/128:Nat):Int)) (by omega) (by omega),aN hp,ab,aQ (by omega),nt];have th:sub (da m[a/128]) ((a%128:Nat):Int) ((da m[a/128]).length:Int)=some ((da m[a/128]).drop (a%128)):=by rw[T1 _ _ _ (by rw[Qd];omega) (ba _),bL (by rw[bl];exact ba _)]
   rw[th,ab,nt,ab,ab];have hd:((da m[a/128]).drop (a%128)).length=128-a%128:=by rw[bl,Qd,hl]
   rw[hd];have hdr:s.drop (min (128-a%128) s.length)=s.drop (128-a%128):=by by_cases h3:128-a%128<=s.length;rw[gX h3];rw[jt (by omega),dj (ba _),dj (by omega)]
   have art:sub s (((min (128-a%128) s.length:Nat)):Int) ((s.length:Int))=some (s.drop (128-a%128)):=by rw[<-hdr];unfold sub;rw[zip];simp
   rw[art,ab,aj (n:=(a:Int)+((min (128-a%128) s.length:Nat):Int)) (by omega) (by omega),aw,aw,ajO];rw[Ho,aK h0,dv hp,show(a:Int)+((min (128-a%128) s.length:Nat):Int)=((a+min (128-a%128) s.length:Nat):Int) by omega];exact N0 K K' hK n _ _ _ f (by rw[bl];omega) (by omega) (RR hm ho) (by rw[aL,bl];omega)
theorem Oh (K:Int->Bytes->bp->au R)(K':bp->au R)(hK:∀a m,K a [] m=K' m):∀(n:Nat)(m:bp)(a:Nat)(s:Bytes)(f:Nat),s.length<=n->n<f->Kf m->a+s.length<=128*m.length->
 aH (pE K ([]:bp)) f ((a:Int),s,m)=K' (Ho n m a s)
 |n,m,a,s,0,_,hf,_,_=>by omega
 |n,m,a,s,f+1,hs,hf,hm,ha=>by
  rw[aH];simp only[pE];by_cases h0:s.length=0;have:s=[]:=cP h0;subst this;rw[aq (by simp),ae,hK];cases n<;>simp[Ho];cases n with
  |zero=>omega
  |succ n=>
   obtain⟨hp,hl,ho⟩:=Pc hm h0 ha;have h64:=hm.2;have e1:tdiv (a:Int) 128=((a/128:Nat):Int):=ah5 a 128;have e2:tmod (a:Int) 128=((a%128:Nat):Int):=ad8 a 128;rw[gN,af,nt,nt,nt,e1,e2,aj (n:=((a/128:Nat):Int)) (by omega) (by omega),aj (n:=128-((a%128:Nat):Int)) (by omega) (by omega),aN hp,ab];obtain⟨c,hc⟩:∃c,min (128-a%128) s.length=c:=⟨_,rfl⟩
   rw[show(if 128-((a%128:Nat):Int)<(s.length:Int) then 128-((a%128:Nat):Int) else(s.length:Int))=(c:Int) by split<;>omega];have ht:s.take c=s.take (128-a%128):=by by_cases h3:128-a%128<=s.length;rw[<-hc,gX h3];rw[<-hc,jt (by omega),bL (ba _),bL (by omega)]
   have hdr:s.drop c=s.drop (128-a%128):=by by_cases h3:128-a%128<=s.length;rw[<-hc,gX h3];rw[<-hc,jt (by omega),dj (ba _),dj (by omega)]
   have hs1:sub s 0 (c:Int)=some (s.take (128-a%128)):=by rw[<-ht];unfold sub;rw[zip];simp
   have hs2:sub s (c:Int) (s.length:Int)=some (s.drop (128-a%128)):=by rw[<-hdr];unfold sub;rw[zip];simp
   rw[hs1,ab,FE _ _ _ (by omega),ab,ab,ab,hs2,ab,amY (by rw[bm,hl];omega),aj (n:=(a:Int)+(c:Int)) (by omega) (by omega),aw];rw[Ho,aK h0,dv hp,hc,show(a:Int)+(c:Int)=((a+c:Nat):Int) by omega];exact Oh K K' hK n _ _ _ f (by rw[bl];omega) (by omega) (RR hm ho) (by rw[aL,bl];omega)
def Ce (m:bp)(a:Int)(s:Bytes):bp×Bool:=bif iu m a (s.length:Int) then(Ho s.length m a.toNat s,true) else(m,false)
theorem afz (m:bp)(a:Int)(s:Bytes)(h:m.length<=10^9)(hs:s.length<=10^9):we m a s=some (Ce m a s):=by have Cg:=dc;unfold we Ce;rw[gv m,ab,Ma m _ _ h,ab];cases hw:iu m a (s.length:Int);rfl;simp only[iu,ah,bI]at hw;obtain⟨a,rfl⟩:=aD hw.2.2.1;simp only[ai,ae,af,aw];exact N0 _ (λm=>some (m,true)) (λ_ _=>rfl) s.length m a s fuel (ba _) (by omega) (Nd.1 hw.1) (by omega)
theorem agA (m:bp)(a:Int)(s:Bytes)(h:m.length<=10^9)(hs:s.length<=10^9):wX m a s=some (Ce m a s):=by have Cg:=dc;unfold wX Ce;rw[iR m,ab,Mz m _ _ h,ab];cases hw:iu m a (s.length:Int);rfl;simp only[iu,ah,bI]at hw;obtain⟨a,rfl⟩:=aD hw.2.2.1;simp only[ai,ae,af,aw];exact Oh _ (λm=>some (m,true)) (λ_ _=>rfl) s.length m a s fuel (ba _) (by omega) (Nd.1 hw.1) (by omega)
theorem MK (m:bp)(a:Int)(s:Bytes):(Ce m a s).1.length=m.length:=by grind[Ce,iu,KM,Nd]
def aau:ar (Int×Int)->bp->Bytes->bp
 |[],m,_=>m
 |p::q,m,s=>aau q (Ce m p.1 (s.take p.2.toNat)).1 (s.drop p.2.toNat)
theorem adb:∀(q:ar (Int×Int))(m:bp)(s:Bytes),(aau q m s).length=m.length
 |[],m,s=>rfl
 |p::q,m,s=>by rw[aau,adb q,MK]
def Xm (q:ar (Int×Int)):Int:=(q.map (·.2)).sum
theorem ah1:∀(q:ar (Int×Int)),(∀p∈q,0<=p.2)->0<=Xm q
 |[],_=>Int.le_refl _
 |p::q,h=>by have:=ah1 q (λx hx=>h x (by simp[hx]));grind[Xm]
theorem adh {p:Int×Int}{q:ar (Int×Int)}(hc:∀x∈p::q,0<=x.2)(hs:(s.length:Int)=Xm (p::q)):0<=p.2/\p.2<=(s.length:Int)/\((s.drop p.2.toNat).length:Int)=Xm q:=by have h1:=hc p (by simp);have h2:=ah1 q (λx hx=>hc x (by simp[hx]));grind[Xm]
theorem Y6 (h0:0<=c)(h1:c<=(s.length:Int)):sub s 0 c=some (s.take c.toNat):=by grind[sub]
theorem adY (h0:0<=c)(h1:c<=(s.length:Int)):sub s c (s.length:Int)=some (s.drop c.toNat):=by simp_all[sub]
theorem SF (K:Bytes->Int->bp->au (bp×Bool))(hK:∀s i m,K s i m=some (m,true)):∀(rest pre:ar (Int×Int))(m:bp)(s:Bytes)(f:Nat),rest.length<f->pre.length+rest.length<=1000000->(∀x∈rest,0<=x.2)->(s.length:Int)=Xm rest->m.length<=10^9->s.length<=1000000->
 aH (D5 K (pre++rest) ((pre++rest).length:Int) ([]:bp)) f (s,(pre.length:Int),m)=some (aau rest m s,true)
 |rest,pre,m,s,0,hf,_,_,_,_,_=>by omega
 |[],pre,m,s,f+1,_,_,_,_,_,_=>by rw[aH];simp only[D5];rw[aq (by simp),ae,hK];rfl
 |p::q,pre,m,s,f+1,hf,hn,hc,hs,hm,hl=>by
  obtain⟨h1,h2,h3⟩:=adh hc hs;simp only[bH]at hf hn;have hi:pre.length<(pre++p::q).length:=by simp
  have hp:(pre++p::q)[pre.length]=p:=by simp
  rw[aH];simp only[D5];rw[ax (by simp;omega),aN hi,hp,aj (by omega) (by omega)];simp only[af,ab,Y6 h1 h2,adY h1 h2,afz m _ _ hm (show(s.take p.2.toNat).length<=10^9 by rw[bm];omega)];have key:=SF K hK q (pre++[p]) (Ce m p.1 (s.take p.2.toNat)).1 (s.drop p.2.toNat) f (by omega) (by simp;omega) (λx hx=>hc x (by simp[hx])) h3 (by rw[MK];exact hm) (by rw[bl];omega);grind[aau]
theorem SX (K:Bytes->Int->bp->au (bp×Bool))(hK:∀s i m,K s i m=some (m,true)):∀(rest pre:ar (Int×Int))(m:bp)(s:Bytes)(f:Nat),rest.length<f->pre.length+rest.length<=1000000->(∀x∈rest,0<=x.2)->(s.length:Int)=Xm rest->m.length<=10^9->s.length<=1000000->
 aH (qD K ((pre++rest).map (·.1)) ((pre++rest).map (·.2)) ([]:bp)) f (s,(pre.length:Int),m)=some (aau rest m s,true)
 |rest,pre,m,s,0,hf,_,_,_,_,_=>by omega
 |[],pre,m,s,f+1,_,_,_,_,_,_=>by rw[aH];simp only[qD];rw[aq (by simp),ae,hK];rfl
 |p::q,pre,m,s,f+1,hf,hn,hc,hs,hm,hl=>by
  obtain⟨h1,h2,h3⟩:=adh hc hs;simp only[bH]at hf hn;have hi:pre.length<(pre++p::q).length:=by simp
  have hp:(pre++p::q)[pre.length]=p:=by simp
  have i1:idx ((pre++p::q).map (·.1)) (pre.length:Int)=some p.1:=by grind[aN]
  have i2:idx ((pre++p::q).map (·.2)) (pre.length:Int)=some p.2:=by grind[aN]
  rw[aH];simp only[qD];rw[ax (by simp;omega),i1,i2,aj (by omega) (by omega)];simp only[af,ab,Y6 h1 h2,adY h1 h2,agA m _ _ hm (show(s.take p.2.toNat).length<=10^9 by rw[bm];omega)];have key:=SX K hK q (pre++[p]) (Ce m p.1 (s.take p.2.toNat)).1 (s.drop p.2.toNat) f (by omega) (by simp;omega) (λx hx=>hc x (by simp[hx])) h3 (by rw[MK];exact hm) (by rw[bl];omega);grind[aau]
theorem VG (l:ar aC)(m:bp)(d:Int)(w:Bool):∀(n a r:Nat)(q:ar (Int×Int)),r<=n->nr l m d w n a r=some q->Xm q=(r:Int)/\(∀p∈q,0<=p.2)/\q.length<=n
 |0,a,r,q,hr,h=>by simp only[nr,bf]at h;subst h;exact⟨by show(0:Int)=_;omega,by simp,by simp⟩
 |n+1,a,r,q,hr,h=>by simp only[nr]at h;split at h;simp only[bf]at h;subst h;exact⟨by show(0:Int)=_;omega,by simp,by simp⟩;split at h;simp only[Option.map_eq_some_iff]at h;obtain⟨q',h1,rfl⟩:=h;obtain⟨i1,i2,i3⟩:=VG l m d w n _ _ q' (by omega) h1;refine⟨?_,?_,by simp only[bH];omega⟩;simp only[Xm,ei,List.sum_cons]at i1⊢;rw[i1];omega;intro p hp;rcases cp.1 hp with rfl|hp;show(0:Int)<=((min (128-a%128) r:Nat):Int);omega;exact i2 p hp;cases h
theorem YJ (l:ar aC)(m:bp)(d a n:Int)(w:Bool)(h:(re l m d a n w).2=true):Xm (re l m d a n w).1=n/\(∀p∈(re l m d a n w).1,0<=p.2)/\(re l m d a n w).1.length<=4096/\n<=4096:=by
 unfold re at h⊢;cases hB:fN l&&(im m&&dp n 0 4096)with|false=>grind|true=>?_
 rw[hB]at h;simp only[ah,bq]at hB;simp only[af]at h⊢;cases h0:n==0 with
 |true=>
  have:n=0:=by simpa using h0
  subst this;exact⟨rfl,by simp,by simp,by omega⟩
 |false=>rw[h0]at h;simp only[ae]at h⊢;cases ha:decide (a<0)with|true=>grind|false=>rw[ha]at h;simp only[ae]at h⊢;cases hq:nr l m d w n.toNat a.toNat n.toNat with|none=>grind|some q=>obtain⟨i1,i2,i3⟩:=VG l m d w _ _ _ q (ba _) hq;grind
def oN (l:ar aC)(m:bp)(d a:Int)(s:Bytes)(w:Bool):bp×Bool:=
 bif (re l m d a (s.length:Int) w).2 then(aau (re l m d a (s.length:Int) w).1 m s,true) else(m,false)
theorem mN (l:ar aC)(m:bp)(d a:Int)(s:Bytes)(w:Bool):(oN l m d a s w).1.length=m.length:=by grind[oN,adb]
theorem acv (l:ar aC)(m:bp)(d a:Int)(s:Bytes)(w:Bool)(hl:l.length<=10^9)(hm:m.length<=10^9)(ha:a<=9223372036854775807):Mc l m d a s w=some (oN l m d a s w):=by have Cg:=dc;unfold Mc oN;rw[gv m,ab,acw l m d a _ w hl hm ha,ab];have hS:=YJ l m d a (s.length:Int) w;generalize re l m d a (s.length:Int) w=r at hS⊢;cases hr:r.2;rfl;obtain⟨h1,h2,h3,h4⟩:=hS hr;simp only[ai,ae,af];exact SF _ (λ_ _ _=>rfl) r.1 [] m s fuel (by omega) (by simp;omega) h2 h1.symm hm (by omega)
theorem FD (l:ar aC)(m:bp)(d a:Int)(s:Bytes)(hl:l.length<=10^9)(hm:m.length<=10^9)(ha:a<=9223372036854775807):oQ l m d a s=some (oN l m d a s true):=by have Cg:=dc;unfold oQ oN;rw[YS l m d a _ true hl hm ha,ab,iR m,ab];have hS:=YJ l m d a (s.length:Int) true;generalize re l m d a (s.length:Int) true=r at hS⊢;cases hr:r.2;rfl;obtain⟨h1,h2,h3,h4⟩:=hS hr;simp only[ai,ae,af];exact SX _ (λ_ _ _=>rfl) r.1 [] m s fuel (by omega) (by simp;omega) h2 h1.symm hm (by omega)
theorem JM (l:ar aC)(m:bp)(d a:Int)(s:Bytes)(hl:l.length<=10^9)(hm:m.length<=10^9)(ha:a<=9223372036854775807):sP l m d a s=some (oN l m d a s true):=by simp_all[sP,acv]
def wrM (x:aC):aC:=(x.1,x.2.1,x.2.2.1,true)
theorem getD_map {i:Nat}(hi:i<l.length):(l.map wrM).getD i aag=wrM (l.getD i aag):=by grind
theorem aah (l:ar aC):fN (l.map wrM)=fN l:=by
 unfold fN;rw[bW];congr 1;rw[dQ,aO,aO];have key:∀i,i<l.length->aae (l.map wrM) i=aae l i:=by
  intro i hi;unfold aae;rw[getD_map hi];congr 1;rw[dQ,aO,aO];constructor;intro h j hj;have hjl:j<l.length:=by have:=bU.1 hj;omega
  have:=h j hj;rw[getD_map hjl]at this;exact this;intro h j hj;have hjl:j<l.length:=by have:=bU.1 hj;omega
  rw[getD_map hjl];exact h j hj
 constructor;intro h i hi;rw[<-key i (bU.1 hi)];exact h i hi;intro h i hi;rw[key i (bU.1 hi)];exact h i hi
theorem amS (l:ar aC)(d p:Int):zJ (l.map wrM) d p true=zJ l d p false:=by grind[zJ,aaf,wrM,zI,List.findIdx?_eq_some_iff_getElem]
theorem Yz (l:ar aC)(m:bp)(d:Int):∀n a r,nr (l.map wrM) m d true n a r=nr l m d false n a r
 |0,a,r=>rfl
 |n+1,a,r=>by simp only[nr,amS,Yz l m d n]
theorem aoN (l:ar aC)(m:bp)(d a:Int)(s:Bytes):oN (l.map wrM) m d a s true=oN l m d a s false:=by
 have e:re (l.map wrM) m d a (s.length:Int) true=re l m d a (s.length:Int) false:=by simp only[re,aah,Yz]
 simp only[oN,e]
theorem Og (l:ar aC)(m:bp)(d a:Int)(s:Bytes)(hl:l.length<=10^9)(hm:m.length<=10^9)(ha:a<=9223372036854775807):vu l m d a s=some (oN l m d a s false):=by unfold vu;refine bB (λi=>((l.take i).map wrM,(i:Int))) l.length (by omega) (λi nx hi=>?_) (λnx=>?_);simp only[uc];rw[gN,aN hi,aj (by omega) (by omega)];simp only[af,ab];rw[aQ (by simp;omega),aR hi,eh];rfl;simp only[uc];rw[fF,ae,bN,FD _ m d a s (by rw[bW];exact hl) hm ha,aoN];rfl
theorem Ii (l:ar aC)(m:bp)(d a:Int)(s:Bytes)(hl:l.length<=10^9)(hm:m.length<=10^9)(ha:a<=9223372036854775807:=by omega):kJ l m d a s=some (oN l m d a s false):=by simp_all[kJ,acv]
def uB (d:ID):Bool:=dp d.1 0 3&&(dp d.2.1 0 3&&(dp d.2.2.1 0 65535&&(dp d.2.2.2.2.1 0 65535&&(dp d.2.2.2.2.2 0 65535&&dp d.2.2.2.1 0 4294967295))))
theorem acm (d:ID):D1 d=some (uB d):=by simp only[D1,cq,ab,uB];cases dp d.1 0 3<;>cases dp d.2.1 0 3<;>cases dp d.2.2.1 0 65535<;>cases dp d.2.2.2.2.1 0 65535<;>cases dp d.2.2.2.2.2 0 65535<;>rfl
theorem QA (d:ID):vq d=some (uB d):=by simp only[vq,cj,ab,uB];cases dp d.1 0 3<;>cases dp d.2.1 0 3<;>cases dp d.2.2.1 0 65535<;>cases dp d.2.2.2.2.1 0 65535<;>cases dp d.2.2.2.2.2 0 65535<;>rfl
def E9 (d:ID):Bytes:=
 bif uB d then((((aS [gQ d.1,gQ d.2.1]++cv d.2.2.1)++gP d.2.2.2.1)++cv d.2.2.2.2.1)++cv d.2.2.2.2.2)++gP 0 else []
theorem aaJ (d:ID):nD d=some (E9 d):=by have h1:=bO d.2.2.1;have h2:=dB d.2.2.2.1;have h3:=bO d.2.2.2.2.1;have h4:=bO d.2.2.2.2.2;have h5:=dB 0;have h0:(aS [gQ d.1,gQ d.2.1]).length=2:=rfl;unfold nD E9;rw[QA,ab];cases uB d;all_goals simp(disch:=omega)[iS,lE,aQ]
theorem Z5 (d:ID):nz d=some (E9 d):=by have h1:=bO d.2.2.1;have h2:=dB d.2.2.2.1;have h3:=bO d.2.2.2.2.1;have h4:=bO d.2.2.2.2.2;have h5:=dB 0;have h0:(aS [gQ d.1,gQ d.2.1]).length=2:=rfl;unfold nz E9;rw[acm,ab];cases uB d;all_goals simp(disch:=omega)[mC,yX,aQ]
def Ad (r:kf):Int:=bif fS r then ak (r.2.1-dq r) else 0
def E5 (r:kf)(c:Int):Int:=bif !fS r||decide (c<0) then-1 else r.1+tmod c r.2.1*16
theorem tW (h:fS r=true):0<=r.1/\r.1<=130944/\(r.2.1=2\/r.2.1=4\/r.2.1=8\/r.2.1=16)/\0<=r.2.2.1/\r.2.2.1<=2*r.2.1-1/\0<=r.2.2.2/\r.2.2.2<=2*r.2.1-1:=by grind[fS,bq,oO]
theorem Jf (r:kf)(c:Int): -1<=E5 r c/\E5 r c<=200000:=by unfold E5;cases hc: !fS r||decide (c<0)with|true=>grind|false=>simp only[dw,dZ,dD]at hc;have h:=tW hc.1;grind
def dU (l:ar aC)(m:bp)(d:Int)(r:kf)(s:Bytes):bp×kf×Bool:=
 bif (Ad r==0)||((s.length:Int) !=16) then(m,r,false) else
 bif !(oN l m d (E5 r r.2.2.2) s true).2 then(m,r,false) else
 ((oN l m d (E5 r r.2.2.2) s true).1,(r.1,r.2.1,r.2.2.1,tmod (r.2.2.2+1) (2*r.2.1)),true)
theorem YB {a:Int}{w:Bool}(h:(oN l m d a s w).2=false):(oN l m d a s w).1=m:=by grind[oN]
theorem Nm (r:kf):td r=some (Ad r):=by grind[td,Ad,En,ab,Hi]
theorem YV (r:kf)(c:Int):qQ r c=some (E5 r c):=by
 have vC:=Jf r c;unfold qQ;rw[En,ab];unfold E5 at vC⊢;cases hb:fS r;rfl;have h:=tW hb;by_cases hc:c<0;rw[ax hc];rfl;rw[hb,aq hc]at vC;rw[aq hc];have h2:0<=tmod c r.2.1/\tmod c r.2.1<r.2.1:=by rw[ft (by omega)];exact⟨Int.emod_nonneg _ (by omega),gD _ (by omega)⟩
 simp only[ai,ae,ab,bR]at vC⊢;rw[nt,aj (n:=16*tmod c r.2.1) (by omega) (by omega),aj (by omega) (by omega)];congr 1;omega
theorem SY (l:ar aC)(m:bp)(d:Int)(r:kf)(s:Bytes)(hl:l.length<=10^9)(hm:m.length<=10^9):BV l m d r s=some (dU l m d r s):=by
 have hA:=Jf r r.2.2.2;unfold BV dU;simp only[Nm,ab,YV,FD l m d _ s hl hm (show E5 r r.2.2.2<=9223372036854775807 by omega),iR m (show m.length<=1073741824 by omega)];cases hf:Ad r==0;case true=>rfl
 cases (s.length:Int) !=16;case true=>rfl
 have hb:fS r=true:=by grind[Ad]
 have h:=tW hb;grind[ab,aj]
theorem Yb (r:kf):xC r=some (Ad r):=by grind[xC,Ad,D0,ab,GC]
theorem Yg (r:kf)(c:Int):qa r c=some (E5 r c):=by
 have vC:=Jf r c;unfold qa;rw[D0,ab];unfold E5 at vC⊢;cases hb:fS r;rfl;have h:=tW hb;by_cases hc:c<0;rw[ax hc];rfl;rw[hb,aq hc]at vC;rw[aq hc];have h2:0<=tmod c r.2.1/\tmod c r.2.1<r.2.1:=by rw[ft (by omega)];exact⟨Int.emod_nonneg _ (by omega),gD _ (by omega)⟩
 simp only[ai,ae,ab,bR]at vC⊢;rw[nt,aj (n:=tmod c r.2.1*16) (by omega) (by omega),aj (by omega) (by omega)]
theorem SH (l:ar aC)(m:bp)(d:Int)(r:kf)(s:Bytes)(hl:l.length<=10^9)(hm:m.length<=10^9):AA l m d r s=some (dU l m d r s):=by
 have hA:=Jf r r.2.2.2;unfold AA dU;simp only[Yb,ab,Yg,JM l m d _ s hl hm (show E5 r r.2.2.2<=9223372036854775807 by omega),gv m (show m.length<=1073741824 by omega)];cases hf:Ad r==0;case true=>rfl
 cases (s.length:Int) !=16;case true=>rfl
 have hb:fS r=true:=by grind[Ad]
 have h:=tW hb;grind[ab,YB,aj]
theorem HZ {p:cH}(h:fZ p=true):0<=p.1/\p.1<=130944/\1<=p.2.1/\p.2.1<=512/\0<=p.2.2.1/\p.2.2.1<=16:=by grind[fZ,bq]
def nk (p:cH)(i:Int):Int:=bif !fZ p|| !dp i 0 (p.2.2.1-1) then-1 else p.1+i*p.2.1
theorem ag7 {p:cH}{i:Int}(hp:fZ p=true)(hi:dp i 0 (p.2.2.1-1)=true):ak (p.1+ak (i*p.2.1))=p.1+i*p.2.1:=by have h:=HZ hp;have h2:=bq.1 hi;have h3:0<=i*p.2.1:=Int.mul_nonneg h2.1 (by omega);have h4:i*p.2.1<=16*512:=Int.mul_le_mul (by omega) (by omega) (by omega) (by omega);grind[aj]
theorem V3 (p:cH)(i:Int)(h:p.2.2.2.length<=10^9):ka p i=some (nk p i):=by grind[ka,nk,xX,ab,fZ,aj,cj,dp,ag7]
theorem PU (p:cH)(i:Int)(h:p.2.2.2.length<=10^9):gj p i=some (nk p i):=by grind[gj,nk,Aj,ab,fZ,aj,cq,dp,ag7]
def upto (n:Nat):cI:=(List.range n).map Int.ofNat
theorem Ze (n:Nat):upto (n+1)=upto n++[(n:Int)]:=by simp[upto,List.range_succ]
theorem anO {n i:Nat}(h:i<n):(upto n).getD i 0=(i:Int):=by grind[upto]
theorem af5 (a b:Int)(n:Nat)(hn:n<=16):fZ (a,b,(n:Int),upto n)=fZ (a,b,(n:Int),[]):=by
 unfold fZ;congr 3;have h1:(List.range (upto n).length).all (LP (n:Int) (upto n))=true:=by
  rw[aO];intro i hi;have hi:i<n:=by simpa[upto]using hi
  simp only[LP,anO hi,ah,bq,aU];refine⟨by omega,?_⟩;rw[Bool.eq_false_iff,ne_eq,List.contains_iff_mem];intro hm;simp only[upto,<-List.map_take,List.mem_map]at hm;grind
 rw[h1];rfl
def mM (a b n:Int):cH×Bool:=bif fZ (a,b,n,[]) then((a,b,n,upto n.toNat),true) else((0,0,0,[]),false)
theorem SE (a b n:Int):Ax a b n=some (mM a b n):=by
 unfold Ax mM;rw[Aj _ (by simp),ab];cases hp:fZ (a,b,n,[]);rfl;have vC:=HZ hp;obtain⟨n,rfl⟩:=aD (show 0<=n from vC.2.2.2.2.1);have h16:n<=16:=by have:=vC.2.2.2.2.2;simp only at this;omega
 simp only[ai,ae,af,aw];refine bB (λi=>((i:Int),a,b,(n:Int),upto i)) n (by omega) (λi nx hi=>?_) (λnx=>?_);simp only[yn];rw[gN,aQ (by simp[upto];omega),aj (by omega) (by omega),Ze];rfl;simp only[yn];rw[fF];rfl
theorem SW (a b n:Int):BT a b n=some (mM a b n):=by
 have Cg:=dc;unfold BT mM;by_cases hn:0<=n/\n<=16;obtain⟨n,rfl⟩:=aD hn.1;have h16:n<=16:=by omega
 refine bB (λi=>((i:Int),a,b,(n:Int),upto i)) n (by omega) (λi nx hi=>?_) (λnx=>?_);simp only[sE];rw[ax (show(i:Int)<n by omega),ax (show(n:Int)<=16 by omega)];simp only[af,ab];rw[aQ (by simp[upto];omega),aj (by omega) (by omega),Ze];rfl;simp only[sE];rw[aq (show¬(n:Int)<n by omega)];simp only[ae,ab,xX (a,b,(n:Int),upto n) (show(upto n).length<=10^9 by simp[upto];omega),af5 a b n h16,aw];cases fZ (a,b,(n:Int),[])<;>rfl;have hb:fZ (a,b,n,[])=false:=by cases hp:fZ (a,b,n,[])with|false=>rfl|true=>have:=HZ hp;exact absurd ⟨this.2.2.2.2.1,this.2.2.2.2.2⟩ hn
 obtain⟨f,hf⟩:∃f,fuel=f+1:=⟨fuel-1,by omega⟩
 rw[hf,aH];simp only[sE];have hc:(cond (decide ((0:Int)<n)) (some (decide (n<=16))) (some false))=some false:=by by_cases h0:(0:Int)<n;rw[ax h0,fF];rfl;rw[aq h0];rfl
 rw[hc];simp only[ab,ae,xX (a,b,n,[]) (show([]:cI).length<=10^9 by simp),hb];rfl
def gy (p:cH)(b:Int):Bytes:=E9 (3,0,p.2.1,nk p b,0,b)
def uC (l:ar aC)(d:Int)(p:cH):cI->bp->kf->Nat×bp×kf
 |[],m,r=>(0,m,r)
 |b::q,m,r=>bif (dU l m d r (gy p b)).2.2 then
   ((uC l d p q (dU l m d r (gy p b)).1 (dU l m d r (gy p b)).2.1).1+1,(uC l d p q (dU l m d r (gy p b)).1 (dU l m d r (gy p b)).2.1).2)
  else(0,m,r)
theorem BE (l:ar aC)(m:bp)(d:Int)(r:kf)(s:Bytes):(dU l m d r s).1.length=m.length:=by grind[dU,mN]
theorem Ri (l:ar aC)(d:Int)(p:cH):∀(q:cI)(m:bp)(r:kf),(uC l d p q m r).2.1.length=m.length/\(uC l d p q m r).1<=q.length
 |[],m,r=>⟨rfl,ba _⟩
 |b::q,m,r=>by rw[uC];cases (dU l m d r (gy p b)).2.2 with|false=>grind|true=>have:=Ri l d p q (dU l m d r (gy p b)).1 (dU l m d r (gy p b)).2.1;grind[BE]
theorem abR (r:kf):0<=Ad r:=by unfold Ad;cases hb:fS r with|false=>exact Int.le_refl _|true=>have h:=tW hb;grind[fS,dq,aj]
theorem aav (h:¬Ad r>0):dU l m d r s=(m,r,false):=by have h0:=abR r;grind[dU]
theorem PW (K:Int->Int->kf->bp->au R)(K':Nat->kf->bp->au R)(hK:∀(c:Nat) i r m,K (c:Int) i r m=K' c r m)(l:ar aC)(d:Int)(p p2 p3:cH)(hp:p.2.2.2.length<=10^9)(hl:l.length<=10^9):∀(rest pre:cI)(m:bp)(r:kf)(f:Nat),rest.length<f->pre.length+rest.length<=10^9->m.length<=10^9->
 aH (pT K l d (pre++rest) ((pre++rest).length:Int) p ([]:bp) (0,0,0,0) p2 p3) f ((pre.length:Int),(pre.length:Int),r,m)=K' (pre.length+(uC l d p rest m r).1) (uC l d p rest m r).2.2 (uC l d p rest m r).2.1
 |rest,pre,m,r,0,hf,_,_=>by omega
 |[],pre,m,r,f+1,_,_,_=>by rw[aH];simp only[pT];rw[aq (by simp),ae,hK];rfl
 |b::q,pre,m,r,f+1,hf,hn,hm=>by
  simp only[bH]at hf hn;have hi:pre.length<(pre++b::q).length:=by simp
  have hb:(pre++b::q)[pre.length]=b:=by simp
  rw[aH];simp only[pT];rw[ax (by simp;omega),aN hi,hb];simp only[af,ab,PU p b hp,Z5,SH l m d r _ hl hm];rw[show E9 (3,0,p.2.1,nk p b,0,b)=gy p b from rfl,uC];cases hq:(dU l m d r (gy p b)).2.2 with|false=>grind|true=>simp only[ai,ae,af];rw[aj (n:=(pre.length:Int)+1) (by omega) (by omega)];have key:=PW K K' hK l d p p2 p3 hp hl q (pre++[b]) (dU l m d r (gy p b)).1 (dU l m d r (gy p b)).2.1 f (by omega) (by simp;omega) (by rw[BE];exact hm);grind
theorem QC (K:Int->kf->bp->cH->au R)(l:ar aC)(d:Int)(p p2:cH)(hp:p.2.2.2.length<=10^9)(hl:l.length<=10^9)(A B C:Int):∀(rest:cI)(c:Nat)(m:bp)(r:kf)(f:Nat),rest.length<f->c+rest.length<=10^9->m.length<=10^9->
 aH (qG K l d p ([]:bp) (0,0,0,0) p2) f ((c:Int),r,m,A,B,C,rest)=K ((c+(uC l d p rest m r).1:Nat):Int) (uC l d p rest m r).2.2 (uC l d p rest m r).2.1 (A,B,C,rest.drop (uC l d p rest m r).1)
 |rest,c,m,r,0,hf,_,_=>by omega
 |[],c,m,r,f+1,_,_,_=>by
  rw[aH];simp only[qG,Nm,ab];have hc:(cond (decide (Ad r>0)) (some (decide ((([]:cI).length:Int)>0))) (some false))=some false:=by cases decide (Ad r>0)<;>rfl
  rw[hc];rfl
 |b::q,c,m,r,f+1,hf,hn,hm=>by
  simp only[bH]at hf hn;rw[aH];simp only[qG,Nm,ab];by_cases hr:Ad r>0;rw[ax hr,ax (show(((b::q).length:Nat):Int)>0 by simp)];have hi:idx (b::q) 0=some b:=rfl;have hs:sub (b::q) 1 ((b::q).length:Int)=some q:=by unfold sub;rw[aM (by simp;omega)];simp
  simp only[af,ab,hi,V3 p b hp,aaJ,SY l m d r _ hl hm];rw[show E9 (3,0,p.2.1,nk p b,0,b)=gy p b from rfl,uC];cases hq:(dU l m d r (gy p b)).2.2 with|false=>rfl|true=>simp only[ai,ae,af,hs,ab];rw[eZ (by omega),aj (n:=(c:Int)+1) (by omega) (by omega),bE];have key:=QC K l d p p2 hp hl A B C q (c+1) (dU l m d r (gy p b)).1 (dU l m d r (gy p b)).2.1 f (by omega) (by omega) (by rw[BE];exact hm);rw[show((c+1:Nat):Int)=(c:Int)+1 by omega]at key;refine Eq.trans key ?_;rw[show c+1+(uC l d p q (dU l m d r (gy p b)).1 (dU l m d r (gy p b)).2.1).1=c+((uC l d p q (dU l m d r (gy p b)).1 (dU l m d r (gy p b)).2.1).1+1) by omega];rfl
  rw[aq hr,uC,aav hr];rfl
def Gt (l:ar aC)(m:bp)(d:Int)(r:kf)(p:cH):bp×kf×cH×Int:=
 bif !fS r|| !fZ p then(m,r,p,0) else
 ((uC l d p p.2.2.2 m r).2.1,(uC l d p p.2.2.2 m r).2.2,(p.1,p.2.1,p.2.2.1,p.2.2.2.drop (uC l d p p.2.2.2 m r).1),((uC l d p p.2.2.2 m r).1:Int))
theorem acp (l:ar aC)(m:bp)(d:Int)(r:kf)(p:cH)(hl:l.length<=10^9)(hm:m.length<=10^9)(hp:p.2.2.2.length<=10^9):kl l m d r p=some (Gt l m d r p):=by have Cg:=dc;unfold kl Gt;simp only[gv m (show m.length<=1073741824 by omega),zn p hp,D0,Aj p hp,ab];cases fS r;rfl;cases fZ p;rfl;simp only[ai,ae,ab,bR];have hlen:=(Ri l d p p.2.2.2 m r).2;refine(PW _ (λc r m=>aa (sub p.2.2.2 (c:Int) (p.2.2.2.length:Int)) λLs=>aa (gb Ls) λzT=>some (m,r,(p.1,p.2.1,p.2.2.1,zT),(c:Int))) (λ_ _ _ _=>rfl) l d p _ p hp hl p.2.2.2 [] m r fuel (by omega) (by simp;omega) hm).trans ?_;grind[T1,ab,nM]
theorem adF (l:ar aC)(m:bp)(d:Int)(r:kf)(p:cH)(hl:l.length<=10^9)(hm:m.length<=10^9)(hp:p.2.2.2.length<=10^9):xZ l m d r p=some (Gt l m d r p):=by have Cg:=dc;unfold xZ Gt;simp only[iR m (show m.length<=1073741824 by omega),CE p hp,En,xX p hp,ab];cases fS r;rfl;cases fZ p;rfl;simp only[ai,ae,ab,bR];refine(QC _ l d p _ hp hl p.1 p.2.1 p.2.2.1 p.2.2.2 0 m r fuel (by omega) (by omega) hm).trans ?_;rw[cr]
def ml (p:cH)(n:Int):cH×cI×Bool:=bif fZ p&&dp n 0 (p.2.2.2.length:Int) then((p.1,p.2.1,p.2.2.1,p.2.2.2.drop n.toNat),p.2.2.2.take n.toNat,true) else(p,[],false)
theorem akl (p:cH)(n:Int)(h:p.2.2.2.length<=10^9):wU p n=some (ml p n):=by unfold wU ml;rw[CE p h,ab,xX p h,ab,cj];grind[bq,ab,DT,aQ,Jh]
theorem aje (p:cH)(n:Int)(h:p.2.2.2.length<=10^9):vY p n=some (ml p n):=by unfold vY ml;rw[zn p h,ab,Aj p h,ab,cq];cases fZ p;rfl;cases hi:dp n 0 (p.2.2.2.length:Int);rfl;have hn:=bq.1 hi;obtain⟨n,rfl⟩:=aD hn.1;simp only[ai,ae,ab,cA,af,aw];grind[ab,nM,sub]
theorem DY:∀l:ar ia,(∀x∈l,0<=x.2.1/\x.2.1<=16)->0<=eI l/\eI l<=16*(l.length:Int)
 |[],_=>by simp[eI]
 |y::l,h=>by have h1:=DY l (λx hx=>h x (dJ _ hx));grind[eI]
theorem Uu (l:ar ia)(i:Nat)(hi:i<l.length):eI (l.take (i+1))=eI (l.take i)+l[i].2.1:=by grind[aR,eI]
theorem akf (t:bX)(h:t.2.2.1.length<=1000000)(hs:∀x∈t.2.2.1,0<=x.2.1/\x.2.1<=16):DP t=some (eI t.2.2.1):=by
 have Cg:=dc;unfold DP;refine bB (λi=>(eI (t.2.2.1.take i),(i:Int))) t.2.2.1.length (by omega) (λi nx hi=>?_) (λnx=>?_);have hb:=DY (t.2.2.1.take i) (λx hx=>hs x (List.mem_of_mem_take hx));have hc:=hs _ (aE hi);have hl:(t.2.2.1.take i).length<=1000000:=by rw[bm];omega
 rw[Uu _ _ hi];simp only[wZ];rw[gN,af,aN hi,ab,aj (n:=(i:Int)+1) (by omega) (by omega),aj (by omega) (by omega)];rfl;simp only[wZ];rw[fF,ae,bN]
theorem ai8 (t:bX)(h:t.2.2.1.length<=1000000)(hs:∀x∈t.2.2.1,0<=x.2.1/\x.2.1<=16):tP t=some (eI t.2.2.1):=by
 have Cg:=dc;unfold tP;refine bB (λi=>(eI (t.2.2.1.take i),(i:Int))) t.2.2.1.length (by omega) (λi nx hi=>?_) (λnx=>?_);have hb:=DY (t.2.2.1.take i) (λx hx=>hs x (List.mem_of_mem_take hx));have hc:=hs _ (aE hi);have hl:(t.2.2.1.take i).length<=1000000:=by rw[bm];omega
 rw[Uu _ _ hi];simp only[nY];rw[gN,af,aN hi,ab,aj (n:=(i:Int)+1) (by omega) (by omega),aj (by omega) (by omega)];rfl;simp only[nY];rw[fF,ae,bN]
def FB (l:ar aC)(d:Int):bp->bp->kf->au (bp×kf)
 |[],m,r=>some (m,r)
 |s::q,m,r=>bif (dU l m d r s).2.2 then FB l d q (dU l m d r s).1 (dU l m d r s).2.1 else none
def amO (m:bp)(r:kf):au (bp×kf)->bp×kf×Bool
 |some x=>(x.1,x.2,true)
 |none=>(m,r,false)
def BD (l:ar aC)(m:bp)(d:Int)(r:kf)(q:bp):bp×kf×Bool:=amO m r (FB l d q m r)
theorem L7 (l:ar aC)(d:Int)(M:bp)(A B2:kf)(B1:bp)(hl:l.length<=10^9)(hM:M.length<=10^9):∀(rest pre:bp)(m:bp)(r:kf)(f:Nat),rest.length<f->(pre++rest).length<=10^9->m.length<=10^9->
 aH (mG (λ_ y6 y7=>some (y6,y7,true)) (λy8 _ uq Cf _ _=>some (uq,Cf,y8)) l d false (pre++rest) ((pre++rest).length:Int) M A B1 B2) f ((pre.length:Int),m,r)=some (amO M A (FB l d rest m r))
 |rest,pre,m,r,0,hf,_,_=>by omega
 |[],pre,m,r,f+1,_,_,_=>by rw[aH];simp only[mG];rw[aq (by simp),ae];rfl
 |s::q,pre,m,r,f+1,hf,hn,hm=>by
  simp only[bH,ay]at hf hn;have hi:pre.length<(pre++s::q).length:=by simp
  have hb:(pre++s::q)[pre.length]=s:=by simp
  rw[aH];simp only[mG];rw[ax (by simp;omega),aN hi,hb];simp only[af,ab,SH l m d r _ hl hm];rw[FB];cases hq:(dU l m d r s).2.2 with|false=>simp only[bz,af,ae,gv M,ab];rfl|true=>simp only[ai,ae,af];rw[aj (n:=(pre.length:Int)+1) (by omega) (by omega)];have key:=L7 l d M A B2 B1 hl hM q (pre++[s]) (dU l m d r s).1 (dU l m d r s).2.1 f (by omega) (by simp;omega) (by rw[BE];exact hm);grind
theorem Mw (l:ar aC)(d:Int)(M:bp)(A B2:kf)(B1:bp)(hl:l.length<=10^9)(hM:M.length<=10^9):∀(rest pre:bp)(m:bp)(r:kf)(f:Nat),rest.length<f->(pre++rest).length<=10^9->m.length<=10^9->
 aH (mP (λ_ y6 y7=>some (y6,y7,true)) (λy8 _ uq Cf _ _=>some (uq,Cf,y8)) l d (pre++rest) false M A B1 B2) f ((pre.length:Int),m,r)=some (amO M A (FB l d rest m r))
 |rest,pre,m,r,0,hf,_,_=>by omega
 |[],pre,m,r,f+1,_,_,_=>by rw[aH];simp only[mP];rw[aq (by simp),ae];rfl
 |s::q,pre,m,r,f+1,hf,hn,hm=>by
  simp only[bH,ay]at hf hn;have hi:pre.length<(pre++s::q).length:=by simp
  have hb:(pre++s::q)[pre.length]=s:=by simp
  rw[aH];simp only[mP];rw[ax (by simp;omega),aN hi,hb];simp only[af,ab,SY l m d r _ hl hm];rw[FB];cases hq:(dU l m d r s).2.2 with|false=>simp only[bz,af,ae,iR M,ab];rfl|true=>simp only[ai,ae,af];rw[aj (n:=(pre.length:Int)+1) (by omega) (by omega)];have key:=Mw l d M A B2 B1 hl hM q (pre++[s]) (dU l m d r s).1 (dU l m d r s).2.1 f (by omega) (by simp;omega) (by rw[BE];exact hm);grind
theorem afs (l:ar aC)(m:bp)(d:Int)(r:kf)(q:bp)(hl:l.length<=10^9)(hm:m.length<=10^9)(hq:q.length<=10^9):lr l m d r q=some (BD l m d r q):=by have Cg:=dc;unfold lr BD;rw[gv m,ab];exact L7 l d m r _ _ hl hm q [] m r fuel (by omega) (by simpa using hq) hm
theorem agu (l:ar aC)(m:bp)(d:Int)(r:kf)(q:bp)(hl:l.length<=10^9)(hm:m.length<=10^9)(hq:q.length<=10^9):yF l m d r q=some (BD l m d r q):=by have Cg:=dc;unfold yF BD;rw[iR m,ab];exact Mw l d m r _ _ hl hm q [] m r fuel (by omega) (by simpa using hq) hm
theorem VF (l:ar aC)(m:bp)(d:Int)(w:Bool):∀(n a r:Nat)(q:ar (Int×Int)),nr l m d w n a r=some q->q.length<=n
 |0,a,r,q,h=>by simp only[nr,bf]at h;subst h;simp
 |n+1,a,r,q,h=>by simp only[nr]at h;split at h;simp only[bf]at h;subst h;simp;split at h;simp only[Option.map_eq_some_iff]at h;obtain⟨q',h1,rfl⟩:=h;have:=VF l m d w n _ _ q' h1;simp only[bH];omega;cases h
theorem Ni (l:ar aC)(m:bp)(d a n:Int)(w:Bool):(re l m d a n w).1.length<=4096:=by
 unfold re;cases hB:fN l&&(im m&&dp n 0 4096);simp;simp only[ah,bq]at hB;simp only[af];cases n==0;case true=>simp
 cases decide (a<0);case true=>simp
 simp only[ae];split;rename_i q hq;have:=VF _ _ _ _ _ _ _ _ hq;show q.length<=4096;omega;simp
def sX (m:bp)(p:Int×Int):Bytes:=bif iu m p.1 p.2 then E4 m p.1.toNat p.2.toNat else []
theorem Is (m:bp)(p:Int×Int):(sX m p).length<=8192:=by grind[sX,iu,am3,mem_iff]
theorem vm (m:bp):∀q:ar (Int×Int),(q.flatMap (sX m)).length<=8192*q.length
 |[]=>by simp
 |p::q=>by have:=vm m q;grind[Is]
def ur (l:ar aC)(m:bp)(d a n:Int):Bytes×Bool:=
 bif (re l m d a n false).2 then((re l m d a n false).1.flatMap (sX m),true) else([],false)
theorem PA {β:Type}(g:α->ar β)(l:ar α)(i:Nat)(hi:i<l.length):(l.take (i+1)).flatMap g=(l.take i).flatMap g++g l[i]:=by grind[aR]
theorem HF (l:ar aC)(m:bp)(d a n:Int)(hl:l.length<=10^9)(hm:m.length<=10^9)(ha:a<=9223372036854775807):rk l m d a n=some (ur l m d a n):=by
 unfold rk ur;rw[acw l m d a n false hl hm ha,ab];have hL:=Ni l m d a n false;generalize re l m d a n false=r at hL⊢;cases hr:r.2;rfl;simp only[ai,ae,af];refine(bB (λi=>((r.1.take i).flatMap (sX m),(i:Int))) r.1.length (by omega) (λi nx hi=>?_) (λnx=>?_));simp only[yl];rw[gN,aN hi,aj (by omega) (by omega)];have e:sq m r.1[i].1 r.1[i].2=some (sX m r.1[i],iu m r.1[i].1 r.1[i].2):=by rw[ami m _ _ hm,sX];cases iu m r.1[i].1 r.1[i].2<;>rfl
 have h1:=vm m (r.1.take i);have h2:=Is m r.1[i];simp only[af,ab,e];rw[aQ (by rw[bm]at h1;omega),<-PA];rfl;simp only[yl];rw[fF,bN];rfl
theorem H6 (l:ar aC)(m:bp)(d a n:Int)(hl:l.length<=10^9)(hm:m.length<=10^9)(ha:a<=9223372036854775807):rK l m d a n=some (ur l m d a n):=by
 unfold rK ur;rw[YS l m d a n false hl hm ha,ab];have hL:=Ni l m d a n false;generalize re l m d a n false=r at hL⊢;cases hr:r.2;rfl;simp only[ai,ae,af];refine(bB (λi=>((r.1.take i).flatMap (sX m),(i:Int))) r.1.length (by omega) (λi nx hi=>?_) (λnx=>?_));simp only[yB];have i1:idx (r.1.map (·.1)) (i:Int)=some r.1[i].1:=by rw[aN (by simpa using hi),List.getElem_map]
 have i2:idx (r.1.map (·.2)) (i:Int)=some r.1[i].2:=by rw[aN (by simpa using hi),List.getElem_map]
 rw[ax (by rw[bW];omega),i1,i2,aj (by omega) (by omega)];have e:sH m r.1[i].1 r.1[i].2=some (sX m r.1[i],iu m r.1[i].1 r.1[i].2):=by rw[anq m _ _ hm,sX];cases iu m r.1[i].1 r.1[i].2<;>rfl
 have h1:=vm m (r.1.take i);have h2:=Is m r.1[i];simp only[af,ab,e];rw[aQ (by rw[bm]at h1;omega),<-PA];rfl;simp only[yB];rw[aq (by rw[bW];omega),bN];rfl
theorem LF (l:ar aC)(m:bp)(d a n:Int):(ur l m d a n).1.length<=100000000:=by have hL:=Ni l m d a n false;have h1:=vm m (re l m d a n false).1;grind[ur]
def Ab (s:Bytes):KN×Int×Bool:=
 bif ((s.length:Int) !=16)||decide (dX s 12>1) then((0,0,0,0,0),0,false) else((cM s 0,cM s 2,cM s 4,cM s 6,dX s 8),dX s 12,true)
theorem afj (s:Bytes)(h:s.length<=10^9):mT s=some (Ab s):=by
 unfold mT Ab;cases (s.length:Int) !=16;case true=>rfl
 simp only[Cw s _ h,Cx s _ h,ab,ae,cB];grind
theorem agm (s:Bytes)(h:s.length<=10^9):mZ s=some (Ab s):=by
 unfold mZ Ab;cases (s.length:Int) !=16;case true=>rfl
 simp only[wC s _ h,CK s _ h,ab,ae,cB];grind
def Iq (q:Cl):Int:=bif decide (q.2.2<q.2.1) then 1 else 0
theorem Yd (q:Cl):AM q=some (Iq q):=by grind[AM,Iq]
theorem oo {q:Cl}(h:iC q=true):0<=q.1/\q.1<=130944/\(q.2.1=2\/q.2.1=4\/q.2.1=8\/q.2.1=16)/\0<=q.2.2/\q.2.2<=2*q.2.1-1:=by grind[iC,bq,Nk,oO]
theorem YT (q:Cl)(h:iC q=true):yf q=some (Iq q):=by
 obtain⟨_,_,h3,h4,h5⟩:=oo h;have e:tdiv q.2.2 q.2.1=if q.2.2<q.2.1 then 0 else 1:=by grind
 unfold yf Iq;rw[nt,e];by_cases hq:q.2.2<q.2.1;rw[aM hq,ax hq];rfl;rw[aK hq,aq hq];rfl
def ot (q:Cl):Int:=q.1+tmod q.2.2 q.2.1*16
theorem TY {q:Cl}(h:iC q=true):0<=tmod q.2.2 q.2.1/\tmod q.2.2 q.2.1<16:=by obtain⟨_,_,h3,h4,h5⟩:=oo h;grind
theorem Yh (q:Cl)(h:iC q=true):qf q=some (ot q):=by obtain⟨h1,h2,h3,h4,h5⟩:=oo h;grind[qf,ot,aj]
def arB (q:Cl):Cl:=(q.1,q.2.1,tmod (q.2.2+1) (2*q.2.1))
def aan (l:ar aC)(m:bp)(d:Int)(q:Cl):Bool:=
 iC q&&((ur l m d (ot q) 16).2&&((Ab (ur l m d (ot q) 16).1).2.2&&((Ab (ur l m d (ot q) 16).1).2.1==Iq q)))
def xR (l:ar aC)(m:bp)(d:Int)(q:Cl):KN×Cl×Bool:=
 bif aan l m d q then((Ab (ur l m d (ot q) 16).1).1,arB q,true) else((0,0,0,0,0),q,false)
theorem amf (l:ar aC)(m:bp)(d:Int)(q:Cl)(hl:l.length<=10^9)(hm:m.length<=10^9):ph l m d q=some (xR l m d q):=by unfold ph xR aan;rw[Rt q,ab];cases hq:iC q;rfl;obtain⟨h1,h2,h3,h4,h5⟩:=oo hq;have hs:=TY hq;have hd:=LF l m d (ot q) 16;simp only[ai,ae,Yh q hq,ab,HF l m d (ot q) 16 hl hm (by unfold ot;omega),bj];cases (ur l m d (ot q) 16).2;rfl;simp only[ai,ae,afj _ (aF hd (by omega)),ab,bj];cases (Ab (ur l m d (ot q) 16).1).2.2;rfl;simp only[ai,ae,Yd,ab,bj,bne];cases (Ab (ur l m d (ot q) 16).1).2.1==Iq q;rfl;simp only[ai,ae,af];rw[aj (n:=2*q.2.1) (by omega) (by omega),nt,aj (n:=q.2.2+1) (by omega) (by omega)];rfl
theorem anm (l:ar aC)(m:bp)(d:Int)(q:Cl)(hl:l.length<=10^9)(hm:m.length<=10^9):pC l m d q=some (xR l m d q):=by
 unfold pC xR aan;rw[R8 q,ab];cases hq:iC q;rfl;obtain⟨h1,h2,h3,h4,h5⟩:=oo hq;have hs:=TY hq;have hd:=LF l m d (ot q) 16;have es:ak (q.1+ak (16*tmod q.2.2 q.2.1))=ot q:=by grind[aj,ot]
 simp only[ai,ae];rw[nt,es];simp only[H6 l m d (ot q) 16 hl hm (by unfold ot;omega),ab,bj,agm _ (aF hd (by omega)),YT q hq,bne];cases (ur l m d (ot q) 16).2;rfl;cases (Ab (ur l m d (ot q) 16).1).2.2;rfl;cases (Ab (ur l m d (ot q) 16).1).2.1==Iq q;rfl;simp only[ai,ae,af,ab,bj];rw[aj (n:=2*q.2.1) (by omega) (by omega),nt,aj (n:=q.2.2+1) (by omega) (by omega)];rfl
theorem ag8 (p:cH)(i:Int):nk p i= -1\/(0<=nk p i/\nk p i<=200000):=by unfold nk;cases hp:fZ p;exact .inl rfl;cases hi:dp i 0 (p.2.2.1-1);exact .inl rfl;have h:=HZ hp;have h2:=bq.1 hi;have h3:0<=i*p.2.1:=Int.mul_nonneg h2.1 (by omega);have h4:i*p.2.1<=16*512:=Int.mul_le_mul (by omega) (by omega) (by omega) (by omega);grind
def aiI (l:ar aC)(m:bp)(d a n:Int):Bool:=(ur l m d a n).2&&((zL (ur l m d a n).1).2==0)
theorem aon {n:Int}:aiI l m d (-1) n=false:=by unfold aiI ur re;cases fN l&&(im m&&dp n 0 4096);rfl;simp only[af];cases n==0 with|true=>rfl|false=>rfl
def I8 (l:ar aC)(m:bp)(d:Int)(s:ar Stream×bk×cH):ar Stream×bk×cH:=
 ((bif aiI l m d (nk s.2.2 (xR l m d s.2.1.2.2.1).1.1) (xR l m d s.2.1.2.2.1).1.2.1 then Gl s.1 (zL (ur l m d (nk s.2.2 (xR l m d s.2.1.2.2.1).1.1) (xR l m d s.2.1.2.2.1).1.2.1).1).1 else s.1),
   (s.2.1.1,s.2.1.2.1,(xR l m d s.2.1.2.2.1).2.1,s.2.1.2.2.2),(UX s.2.2 [(xR l m d s.2.1.2.2.1).1.1]).1)
def jD (l:ar aC)(m:bp)(d:Int):Nat->ar Stream×bk×cH->Nat×(ar Stream×bk×cH)
 |0,s=>(0,s)
 |k+1,s=>bif !(xR l m d s.2.1.2.2.1).2.2 then(0,s) else((jD l m d k (I8 l m d s)).1+1,(jD l m d k (I8 l m d s)).2)
structure Ly (n:Nat) (s:List Stream×bk×cH):Prop where
 st:bu n (.sl eu) s.1
 pl:s.2.2.2.2.2.length<=n
theorem abV (p:cH)(l:cI):(UX p l).1.2.2.2.length<=p.2.2.2.length+l.length:=by grind[UX,TS]
theorem Mo {s:ar Stream×bk×cH}{n:Nat}(h:Ly n s):Ly (n+322) (I8 l m d s):=by
 refine⟨?_,?_⟩;unfold I8;cases aiI l m d (nk s.2.2 (xR l m d s.2.1.2.2.1).1.1) (xR l m d s.2.1.2.2.1).1.2.1 with|false=>exact h.st.mono|true=>exact ZE h.st
 have:=abV s.2.2 [(xR l m d s.2.1.2.2.1).1.1];have h2:=h.pl;show(UX s.2.2 [(xR l m d s.2.1.2.2.1).1.1]).1.2.2.2.length<=_;simp only[aY]at this;omega
theorem P1 (K:ar Stream->Int->bk->cH->au R)(l:ar aC)(m:bp)(d:Int)(N:Nat)(hN:N<=1000)(B1:bp)(B2:bk)(B3:cH)(hl:l.length<=10^9)(hm:m.length<=10^9):∀(k i:Nat)(s:ar Stream×bk×cH)(f:Nat),i+k=N->k<f->Ly (500000000+322*i) s->
 aH (nU K l d (N:Int) B1 B2 B3 m) f (s.1,(i:Int),s.2.1,s.2.2)=K (jD l m d k s).2.1 ((i+(jD l m d k s).1:Nat):Int) (jD l m d k s).2.2.1 (jD l m d k s).2.2.2
 |k,i,s,0,_,hf,_=>by omega
 |0,i,s,f+1,hi,hf,z=>by rw[aH];simp only[nU];rw[fF,ae];rfl
 |k+1,i,s,f+1,hi,hf,z=>by have nh:bu 900000000 (.sl eu) s.1:=z.st.mono;have Hr:s.2.2.2.2.2.length<=900000000:=aF z.pl (by omega);rw[aH];simp only[nU];rw[gN];simp only[af,amf l m d _ hl hm,ab,jD];cases hnx:(xR l m d s.2.1.2.2.1).2.2 with|false=>rfl|true=>have key:=P1 K l m d N hN B1 B2 B3 hl hm k (i+1) (I8 l m d s) f (by omega) (by omega) ((Mo z).st.mono|>λa=>⟨a,aF (Mo z).pl (by omega)⟩);rw[show i+1+(jD l m d k (I8 l m d s)).1=i+((jD l m d k (I8 l m d s)).1+1) by omega]at key;simp only[ai,ae];rw[<-key];unfold I8;generalize xR l m d s.2.1.2.2.1=c;have ha:=ag8 s.2.2 c.1.1;have hd:=LF l m d (nk s.2.2 c.1.1) c.1.2.1;simp only[PU _ _ (show s.2.2.2.2.2.length<=10^9 by omega),HF l m d _ c.1.2.1 hl hm (show nk s.2.2 c.1.1<=9223372036854775807 by omega),ab,M8 _ (aF hd (by omega)),Z3 _ _ nh,Vg s.2.2 [c.1.1] (show s.2.2.2.2.2.length+1<=10^9 by omega)];rw[aj (n:=(i:Int)+1) (by omega) (by omega),show((i+1:Nat):Int)=(i:Int)+1 by omega];grind[aiI]
theorem QF (K:ar Stream->Int->bk->cH->au R)(l:ar aC)(m:bp)(d:Int)(N:Nat)(hN:N<=1000)(B1:bp)(B2:bk)(B3:cH)(hl:l.length<=10^9)(hm:m.length<=10^9):∀(k i:Nat)(s:ar Stream×bk×cH)(f:Nat),i+k=N->k<f->Ly (500000000+322*i) s->
 aH (oA K l d (N:Int) m B1 B2 B3) f (s.1,(i:Int),s.2.1,s.2.2)=K (jD l m d k s).2.1 ((i+(jD l m d k s).1:Nat):Int) (jD l m d k s).2.2.1 (jD l m d k s).2.2.2
 |k,i,s,0,_,hf,_=>by omega
 |0,i,s,f+1,hi,hf,z=>by rw[aH];simp only[oA];rw[fF,ae];rfl
 |k+1,i,s,f+1,hi,hf,z=>by have nh:bu 900000000 (.sl eu) s.1:=z.st.mono;have Hr:s.2.2.2.2.2.length<=900000000:=aF z.pl (by omega);rw[aH];simp only[oA];rw[gN];simp only[af,anm l m d _ hl hm,ab,jD];cases hnx:(xR l m d s.2.1.2.2.1).2.2 with|false=>rfl|true=>have key:=QF K l m d N hN B1 B2 B3 hl hm k (i+1) (I8 l m d s) f (by omega) (by omega) ((Mo z).st.mono|>λa=>⟨a,aF (Mo z).pl (by omega)⟩);rw[show i+1+(jD l m d k (I8 l m d s)).1=i+((jD l m d k (I8 l m d s)).1+1) by omega]at key;simp only[ai,ae];rw[<-key];unfold I8;generalize xR l m d s.2.1.2.2.1=c;have ha:=ag8 s.2.2 c.1.1;have hd:=LF l m d (nk s.2.2 c.1.1) c.1.2.1;simp only[V3 _ _ (show s.2.2.2.2.2.length<=10^9 by omega),H6 l m d _ c.1.2.1 hl hm (show nk s.2.2 c.1.1<=9223372036854775807 by omega),ab,No _ (aF hd (by omega)),aaH _ _ nh,V6 s.2.2 [c.1.1] (show s.2.2.2.2.2.length+1<=10^9 by omega)];rw[aj (n:=(i:Int)+1) (by omega) (by omega),show((i+1:Nat):Int)=(i:Int)+1 by omega];rcases ha with ha|ha;rw[ha,aon];rfl;rw[ax (show nk s.2.2 c.1.1>=0 by omega)];unfold aiI;cases (ur l m d (nk s.2.2 c.1.1) c.1.2.1).2<;>cases (zL (ur l m d (nk s.2.2 c.1.1) c.1.2.1).1).2==0<;>rfl
theorem Qm {l:ar aC}{m:bp}{d:Int}:∀(k:Nat){s:ar Stream×bk×cH}{n:Nat},Ly n s->Ly (n+322*k) (jD l m d k s).2
 |0,s,n,h=>h
 |k+1,s,n,h=>by rw[jD];cases (xR l m d s.2.1.2.2.1).2.2 with|false=>exact⟨h.st.mono,aF h.pl (by omega)⟩|true=>have:=Qm (l:=l) (m:=m) (d:=d) k (Mo (l:=l) (m:=m) (d:=d) h);grind
def mi (l:ar aC)(m:bp)(d:Int)(rx:bk)(pl:cH)(st:ar Stream)(n:Int):bp×bk×cH×ar Stream×Int:=
 bif !Qr rx||(!fZ pl|| !dp n 0 1000) then(m,rx,pl,st,0) else
 ((Gt l m d (jD l m d n.toNat (st,rx,pl)).2.2.1.1 (jD l m d n.toNat (st,rx,pl)).2.2.2).1,
   ((Gt l m d (jD l m d n.toNat (st,rx,pl)).2.2.1.1 (jD l m d n.toNat (st,rx,pl)).2.2.2).2.1,(jD l m d n.toNat (st,rx,pl)).2.2.1.2),
   (Gt l m d (jD l m d n.toNat (st,rx,pl)).2.2.1.1 (jD l m d n.toNat (st,rx,pl)).2.2.2).2.2.1,(jD l m d n.toNat (st,rx,pl)).2.1,((jD l m d n.toNat (st,rx,pl)).1:Int))
theorem acu (l:ar aC)(m:bp)(d:Int)(rx:bk)(pl:cH)(st:ar Stream)(n:Int)(hl:l.length<=10^9)(hm:m.length<=10^9)(hp:pl.2.2.2.length<=500000000)(hs:bu 500000000 (.sl eu) st):Ay l m d rx pl st n=some (mi l m d rx pl st n):=by
 have Cg:=dc;have hsl:st.length<=500000000:=hs.1;unfold Ay mi;simp only[gv m (show m.length<=1073741824 by omega),zn pl (show pl.2.2.2.length<=10^9 by omega),EJ st,aaa,Aj pl (show pl.2.2.2.length<=10^9 by omega),cq,ab];cases Qr rx;rfl;cases fZ pl;rfl;cases hn:dp n 0 1000;rfl;have h:=bq.1 hn;obtain⟨n,rfl⟩:=aD h.1;simp only[ai,ae,ab,bR,aw];have z:Ly (500000000+322*0) (st,rx,pl):=⟨hs,hp⟩
 have hz:=Qm (l:=l) (m:=m) (d:=d) n z;refine(P1 _ l m d n (by omega) _ _ _ hl hm n 0 (st,rx,pl) fuel (by omega) (by omega) z).trans ?_;rw[cr];simp only[acp l m d _ _ hl hm (show(jD l m d n (st,rx,pl)).2.2.2.2.2.2.length<=10^9 from aF hz.pl (by omega)),ab]
theorem adN (l:ar aC)(m:bp)(d:Int)(rx:bk)(pl:cH)(st:ar Stream)(n:Int)(hl:l.length<=10^9)(hm:m.length<=10^9)(hp:pl.2.2.2.length<=500000000)(hs:bu 500000000 (.sl eu) st):qO l m d rx pl st n=some (mi l m d rx pl st n):=by
 have Cg:=dc;have hsl:st.length<=500000000:=hs.1;unfold qO mi;rw[eZ (by omega)];simp only[bE,CE pl (show pl.2.2.2.length<=10^9 by omega),iR m (show m.length<=1073741824 by omega),aaP,xX pl (show pl.2.2.2.length<=10^9 by omega),cj,ab];cases Qr rx;rfl;cases fZ pl;rfl;cases hn:dp n 0 1000;rfl;have h:=bq.1 hn;obtain⟨n,rfl⟩:=aD h.1;simp only[ai,ae,ab,bR,aw];have z:Ly (500000000+322*0) (st,rx,pl):=⟨hs,hp⟩
 have hz:=Qm (l:=l) (m:=m) (d:=d) n z;refine(QF _ l m d n (by omega) _ _ _ hl hm n 0 (st,rx,pl) fuel (by omega) (by omega) z).trans ?_;rw[cr];simp only[adF l m d _ _ hl hm (show(jD l m d n (st,rx,pl)).2.2.2.2.2.2.length<=10^9 from aF hz.pl (by omega)),ab]
def kW (i:Nat):Int:=1280+(i:Int)*1792
theorem ag4 {i:Nat}(h:i<=8):ak (1280+ak ((i:Int)*1792))=kW i:=by rw[aj (n:=(i:Int)*1792) (by omega) (by omega),aj (by omega) (by omega)];rfl
theorem ach (i:Nat)(h:i<=8):uP (i:Int)=some (kW i):=by rw[uP,ag4 h]
theorem BA (a b n:Int)(h:n<=1000:=by omega):(mM a b n).1.2.2.2.length<=1000:=by grind[mM,upto]
def VU (i:Nat):bk:=((kW i,4,0,0),(kW i+64,4,0),(kW i+64,4,0),((0,0,0,0,0,0,0,0,0,0,0,0,0,0,0,([]:Bytes)),0,0),false,0)
theorem ai4 (i:Nat)(h:i<=8):CB (i:Int)=some (VU i,(mM (kW i+128) 384 4).1):=by have hb:kW i=1280+(i:Int)*1792:=rfl;simp only[CB,ach i h,ab];rw[aj (n:=kW i+128) (by omega) (by omega),aj (n:=kW i+64) (by omega) (by omega),SE];rfl
def Tc:bX:=((0,16,0,0),(mM 256 128 8).1,([]:ar ia),0)
theorem aji:JQ=some Tc:=by rw[JQ,SE];rfl
theorem akp:DR=some Tc:=by rw[DR,SW];rfl
def Lg (l:ar aC)(m:bp)(i:Nat):bp×kf×cH×Int:=
 Gt l (oN l m 0 (kW i) (Jm 128) false).1 0 (kW i,4,0,0) (mM (kW i+128) 384 4).1
def Yw (h:Host)(i:Nat):Host:=
 ((Lg h.2.1 h.1 i).1,h.2.1,h.2.2.1,h.2.2.2.1.set i ((Lg h.2.1 h.1 i).2.1,(kW i+64,4,0),(kW i+64,4,0),((0,0,0,0,0,0,0,0,0,0,0,0,0,0,0,([]:Bytes)),0,0),false,(match h.2.2.2.1[i]? with|some x=>x.2.2.2.2.2|none=>0)),h.2.2.2.2.1.set i (Lg h.2.1 h.1 i).2.2.1,h.2.2.2.2.2)
theorem adL (h:Host)(i:Nat)(hi:i<=8)(h1:i<h.2.2.2.1.length)(h2:i<h.2.2.2.2.1.length)(hl:h.2.1.length<=10^9)(hm:h.1.length<=10^9):B8 h (i:Int)=some ((),Yw h i):=by have hb:kW i=1280+(i:Int)*1792:=rfl;have hz:md 128 0=some (Jm 128):=adI 128;have hf:=adF h.2.1 (oN h.2.1 h.1 0 (kW i) (Jm 128) false).1 0 (kW i,4,0,0) (mM (kW i+128) 384 4).1 hl (by rw[mN];exact hm) (aF (BA (kW i+128) 384 4) (by omega));unfold B8;simp only[ag4 hi];rw[aj (n:=kW i+128) (by omega) (by omega),aj (n:=kW i+64) (by omega) (by omega),SW,hz];simp only[aN h1,aN h2,ab,Og h.2.1 h.1 0 (kW i) (Jm 128) hl hm (by omega),hf,aw,Yw,Lg,al h1]
def Kh (h:Host)(i:Nat)(n:Int):Int×Host:=
 match h.2.2.2.1[i]?,h.2.2.2.2.1[i]? with
 |some rx,some pl=>
  ((mi h.2.1 h.1 0 rx pl h.2.2.2.2.2.2.2.2.2.1 n).2.2.2.2,(mi h.2.1 h.1 0 rx pl h.2.2.2.2.2.2.2.2.2.1 n).1,h.2.1,h.2.2.1,h.2.2.2.1.set i (mi h.2.1 h.1 0 rx pl h.2.2.2.2.2.2.2.2.2.1 n).2.1,h.2.2.2.2.1.set i (mi h.2.1 h.1 0 rx pl h.2.2.2.2.2.2.2.2.2.1 n).2.2.1,h.2.2.2.2.2.1,h.2.2.2.2.2.2.1,h.2.2.2.2.2.2.2.1,h.2.2.2.2.2.2.2.2.1,(mi h.2.1 h.1 0 rx pl h.2.2.2.2.2.2.2.2.2.1 n).2.2.2.1,h.2.2.2.2.2.2.2.2.2.2)
 |_,_=>(0,h)
theorem Z9 (h:Host)(i:Nat)(n:Int)(h1:i<h.2.2.2.1.length)(h2:i<h.2.2.2.2.1.length)(z:bu 500000000 cR h):mh h (i:Int) n=some (Kh h i n):=by have hl:h.2.1.length<=500000000:=z.2.1.1;have hm:h.1.length<=500000000:=z.1.1;have hp:h.2.2.2.2.1[i].2.2.2.length<=500000000:=(z.2.2.2.2.1.2 _ (aE h2)).2.2.2.1;unfold mh;simp only[aN h1,aN h2,ab,acu h.2.1 h.1 0 _ _ _ n (show h.2.1.length<=10^9 by omega) (show h.1.length<=10^9 by omega) hp z.2.2.2.2.2.2.2.2.2.1,aw,Kh,al h1,al h2]
theorem qt {n:Nat}{t:CT}{l:ar t.D}{i:Nat}{x:t.D}(z:bu n (.sl t) l)(hx:bu n t x):bu n (.sl t) (l.set i x):=by refine⟨?_,λy hy=>?_⟩;show(l.set i x).length<=n;rw[aL];exact z.1;rcases eP hy with h|h;exact z.2 y h;rw[h];exact hx
theorem ajQ {n:Nat}(hn:128<=n)(h:Kf m):bu n (.sl .str) m:=⟨aF h.2 (by omega),λx hx=>aF (fX (h.1 x hx)) hn⟩
theorem aep {n:Nat}(hn:128<=n)(z:bu n (.sl .str) m)(a:Int)(s:Bytes):bu n (.sl .str) (Ce m a s).1:=by grind[Ce,iu,ajQ,KM,Nd]
theorem ade {n:Nat}(hn:128<=n):∀(q:ar (Int×Int)){m:bp}(s:Bytes),bu n (.sl .str) m->bu n (.sl .str) (aau q m s)
 |[],m,s,z=>z
 |p::q,m,s,z=>ade hn q _ (aep hn z _ _)
theorem Mp {n:Nat}(hn:128<=n)(z:bu n (.sl .str) m)(l:ar aC)(d a:Int)(s:Bytes)(w:Bool):bu n (.sl .str) (oN l m d a s w).1:=by grind[oN,ade]
theorem Qo {n:Nat}(hn:128<=n)(z:bu n (.sl .str) m)(l:ar aC)(d:Int)(r:kf)(s:Bytes):bu n (.sl .str) (dU l m d r s).1:=by grind[dU,Mp]
theorem XO {n:Nat}(hn:128<=n)(l:ar aC)(d:Int)(p:cH):∀(q:cI){m:bp}(r:kf),bu n (.sl .str) m->bu n (.sl .str) (uC l d p q m r).2.1
 |[],m,r,z=>z
 |b::q,m,r,z=>by rw[uC];cases (dU l m d r (gy p b)).2.2 with|false=>exact z|true=>exact XO hn l d p q _ (Qo hn z ..)
theorem XP {n:Nat}(hn:128<=n)(z:bu n (.sl .str) m)(l:ar aC)(d:Int)(r:kf)(p:cH):bu n (.sl .str) (Gt l m d r p).1:=by unfold Gt;cases !fS r|| !fZ p with|true=>exact z|false=>exact XO hn _ _ _ _ _ z
theorem ahj (l:ar aC)(m:bp)(d:Int)(r:kf)(p:cH):(Gt l m d r p).1.length=m.length:=by grind[Gt,Ri]
theorem UI (l:ar aC)(m:bp)(d:Int)(r:kf)(p:cH):(Gt l m d r p).2.2.1.2.2.2.length<=p.2.2.2.length:=by grind[Gt]
theorem ac6 (l:ar aC)(m:bp)(d:Int):∀(k:Nat)(s:ar Stream×bk×cH),(jD l m d k s).2.2.1.2.2.2=s.2.1.2.2.2/\(jD l m d k s).1<=k
 |0,s=>⟨rfl,ba _⟩
 |k+1,s=>by rw[jD];cases (xR l m d s.2.1.2.2.1).2.2 with|false=>grind|true=>have:=ac6 l m d k (I8 l m d s);simp only[ai,ae];exact⟨this.1,by omega⟩
theorem YA {n:Nat}(hn:128<=n){rx:bk}{pl:cH}{st:ar Stream}(c:Int)(zm:bu n (.sl .str) m)(zr:bu n dN rx)(zp:bu n jQ pl)(zs:bu n (.sl eu) st): bu n (.sl .str) (mi l m d rx pl st c).1/\bu n dN (mi l m d rx pl st c).2.1/\bu (n+322000) jQ (mi l m d rx pl st c).2.2.1/\bu (n+322000) (.sl eu) (mi l m d rx pl st c).2.2.2.1/\0<=(mi l m d rx pl st c).2.2.2.2/\(mi l m d rx pl st c).2.2.2.2<=1000:=by
 unfold mi;cases hc: !Qr rx||(!fZ pl|| !dp c 0 1000)with
 |true=>exact⟨zm,zr,zp.mono,zs.mono,Int.le_refl _,by show(0:Int)<=1000;omega⟩
 |false=>
  have hi:dp c 0 1000=true:=by cases h:dp c 0 1000 with|true=>rfl|false=>rw[h]at hc;simp at hc
  have h:=bq.1 hi;have z:=Qm (l:=l) (m:=m) (d:=d) c.toNat (s:=(st,rx,pl)) (n:=n) ⟨zs,zp.2.2.2.1⟩;have hx:=ac6 l m d c.toNat (st,rx,pl);refine⟨XP hn zm ..,⟨?_,?_,?_,?_⟩,⟨bM,bM,bM,?_,λ_ _=>trivial⟩,z.st.mono,by show(0:Int)<=((jD l m d c.toNat (st,rx,pl)).1:Int);omega,by show((jD l m d c.toNat (st,rx,pl)).1:Int)<=1000;omega⟩;exact⟨bM,bM,bM,bM⟩;exact⟨bM,bM,bM⟩;exact⟨bM,bM,bM⟩;have e:=congrArg (λq=>bu n dN (rx.1,rx.2.1,rx.2.2.1,q)) hx.1;exact(e.mpr zr).2.2.2;have:=UI l m d (jD l m d c.toNat (st,rx,pl)).2.2.1.1 (jD l m d c.toNat (st,rx,pl)).2.2.2;have h2:=z.pl;show(Gt l m d (jD l m d c.toNat (st,rx,pl)).2.2.1.1 (jD l m d c.toNat (st,rx,pl)).2.2.2).2.2.1.2.2.2.length<=_;omega
theorem af4 {n:Nat}(hn:128<=n)(i:Nat)(c:Int)(z:bu n cR h):bu (n+322000) cR (Kh h i c).2:=by unfold Kh;rcases h1:h.2.2.2.1[i]? with _|rx;exact z.mono;rcases h2:h.2.2.2.2.1[i]? with _|pl;exact z.mono;have zr:=z.2.2.2.1.2 _ (bK h1);have zp:=z.2.2.2.2.1.2 _ (bK h2);have hp:=YA hn (l:=h.2.1) (d:=0) c z.1 zr zp z.2.2.2.2.2.2.2.2.2.1;have z':bu (n+322000) cR h:=z.mono;exact⟨hp.1.mono,z'.2.1,z'.2.2.1,qt z'.2.2.2.1 (hp.2.1.mono),qt z'.2.2.2.2.1 hp.2.2.1,z'.2.2.2.2.2.1,z'.2.2.2.2.2.2.1,z'.2.2.2.2.2.2.2.1,z'.2.2.2.2.2.2.2.2.1,hp.2.2.2.1,z'.2.2.2.2.2.2.2.2.2.2⟩
def cc (l:ar aC)(m:bp)(d:Int)(r:kf):Bytes×kf×Bool:=
 bif !fS r||(dq r==0) then([],r,false) else
 bif !(ur l m d (E5 r r.2.2.1) 16).2 then([],r,false) else
 ((ur l m d (E5 r r.2.2.1) 16).1,(r.1,r.2.1,tmod (r.2.2.1+1) (2*r.2.1),r.2.2.2),true)
theorem QK (l:ar aC)(m:bp)(d:Int)(r:kf)(hl:l.length<=10^9)(hm:m.length<=10^9):yc l m d r=some (cc l m d r):=by have hA:=Jf r r.2.2.1;unfold yc cc;simp only[En,Hi,ab,YV,H6 l m d _ 16 hl hm (show E5 r r.2.2.1<=9223372036854775807 by omega)];cases hb:fS r;rfl;have h:=tW hb;grind[ab,aj]
theorem P7 (l:ar aC)(m:bp)(d:Int)(r:kf)(hl:l.length<=10^9)(hm:m.length<=10^9):xD l m d r=some (cc l m d r):=by have hA:=Jf r r.2.2.1;unfold xD cc;simp only[D0,GC,ab,Yg,HF l m d _ 16 hl hm (show E5 r r.2.2.1<=9223372036854775807 by omega)];cases hb:fS r;rfl;have h:=tW hb;grind[ab,aj]
theorem DV (l:ar aC)(m:bp)(d:Int)(r:kf):(cc l m d r).1.length<=100000000:=by grind[cc,LF]
theorem Hm (h:(cc l m d r).2.2=true): fS (cc l m d r).2.1=true/\dq (cc l m d r).2.1=dq r-1/\(cc l m d r).2.1.1=r.1/\(cc l m d r).2.1.2.1=r.2.1/\(cc l m d r).2.1.2.2.2=r.2.2.2:=by
 unfold cc at h⊢;cases hb:fS r with|false=>grind|true=>?_
 cases hu:dq r==0 with|true=>grind|false=>?_
 cases hd:(ur l m d (E5 r r.2.2.1) 16).2 with|false=>grind|true=>?_
 grind[tW,fS,dq,bq]
theorem oq (h:fS r=true):0<=dq r/\dq r<=16:=by have hr:=tW h;grind[fS,dq]
def KT:ID:=(0,0,0,0,0,0)
def LD (s:Bytes):ID:=((bZ s 0:Int),(bZ s 1:Int),cM s 2,dX s 4,cM s 8,cM s 10)
def eJ (s:Bytes):ID×Bool:=
 bif ((s.length:Int) !=16) then(KT,false) else bif !(E9 (LD s)==s) then(KT,false) else(LD s,true)
theorem adC (s:Bytes)(h:s.length<=10^9):sC s=some (eJ s):=by
 unfold sC eJ;cases hn:(s.length:Int) !=16;case true=>rfl
 have hl:s.length=16:=by grind
 have b0:=lV (s[0]'(by omega));have b1:=lV (s[1]'(by omega));have i0:idx s 0=some (s[0]'(by omega)):=aN (i:=0) (by omega);have i1:idx s 1=some (s[1]'(by omega)):=aN (i:=1) (by omega);have e:(((s[0]'(by omega)).toNat:Int),((s[1]'(by omega)).toNat:Int),cM s 2,dX s 4,cM s 8,cM s 10)=LD s:=by grind[LD,bZ]
 simp only[ae,i0,i1,ab,wC s _ h,CK s _ h];rw[gq (n:=(s[0]'(by omega)).toNat) (by omega),gq (n:=(s[1]'(by omega)).toNat) (by omega),e,aaJ,ab];cases E9 (LD s)==s<;>rfl
theorem ack (s:Bytes)(h:s.length<=10^9):sj s=some (eJ s):=by
 unfold sj eJ;cases hn:(s.length:Int) !=16;case true=>rfl
 have hl:s.length=16:=by grind
 have b0:=lV (s[0]'(by omega));have b1:=lV (s[1]'(by omega));have i0:idx s 0=some (s[0]'(by omega)):=aN (i:=0) (by omega);have i1:idx s 1=some (s[1]'(by omega)):=aN (i:=1) (by omega);have e:(((s[0]'(by omega)).toNat:Int),((s[1]'(by omega)).toNat:Int),cM s 2,dX s 4,cM s 8,cM s 10)=LD s:=by grind[LD,bZ]
 simp only[ae,i0,i1,ab,Cw s _ h,Cx s _ h];rw[gq (n:=(s[0]'(by omega)).toNat) (by omega),gq (n:=(s[1]'(by omega)).toNat) (by omega),e,Z5,ab];cases E9 (LD s)==s<;>rfl
theorem Uv (h:(eJ s).2=true):uB (eJ s).1=true:=by grind[eJ,E9]
def ZF (x:ID):Bool:=bif x.1==1 then(ak (toNat (gr x.2.1&&&gr 1))) !=0 else false
def EC (l:ar aC)(m:bp)(d:Int):Nat->ar ID->kf->ar ID×kf×Bool
 |0,acc,r=>(acc,r,true)
 |n+1,acc,r=>
  bif !(cc l m d r).2.2|| !(eJ (cc l m d r).1).2 then([],(r.1,r.2.1,r.2.2.2,r.2.2.2),false) else
  bif ZF (eJ (cc l m d r).1).1 then(acc++[(eJ (cc l m d r).1).1],(cc l m d r).2.1,true) else
  EC l m d n (acc++[(eJ (cc l m d r).1).1]) (cc l m d r).2.1
def fg (l:ar aC)(m:bp)(d:Int)(r:kf):ar ID×kf×Bool:=
 bif !fS r||(dq r==0) then([],r,false) else EC l m d (dq r).toNat [] r
theorem NV (k0:ar ID->kf->au R)(k1:ar ID->Bool->ar ID->kf->kf->au R)(K:ar ID×kf×Bool->au R)
 (h0:∀a r,k0 a r=K (a,r,true)) (l:ar aC) (m:bp) (d:Int) (B E:kf) (h1:∀a r,k1 [] false a r E=K ([],E,false)) (hl:l.length<=10^9) (hm:m.length<=10^9):∀(n:Nat)(acc:ar ID)(r:kf)(f:Nat),
 n<f->fS r=true->(dq r).toNat=n->acc.length+n<=1000->E=(r.1,r.2.1,r.2.2.2,r.2.2.2)->aH (nX k0 k1 l d ([]:ar ID) false m B E) f (acc,r)=K (EC l m d n acc r)
 |n,acc,r,0,hf,_,_,_,_=>by omega
 |0,acc,r,f+1,hf,hb,hu,ha,hE=>by rw[aH];simp only[nX,GC,ab];rw[fF,ae,h0];rfl
 |n+1,acc,r,f+1,hf,hb,hu,ha,hE=>by
  have hlen:=DV l m d r;have hk:=Hm (l:=l) (m:=m) (d:=d) (r:=r);rw[aH];simp only[nX,GC,ab];rw[gN,af,P7 l m d r hl hm,ab,EC];generalize cc l m d r=t at hlen hk⊢;cases ht:t.2.2 with
  |false=>grind
  |true=>
   have hk:=hk ht;simp only[ai,ae,cB];rw[ack _ (show t.1.length<=10^9 by omega),ab];generalize eJ t.1=x;cases x.2 with
   |false=>grind
   |true=>
    simp only[ai,ae];rw[aQ (by rw[aY];omega)];have e:(aa (cond (x.1.1==1) (some ((ak (toNat (gr x.1.2.1&&&gr 1))) !=0)) (some false)):(Bool->au R)->au R)=λK=>K (ZF x.1):=by funext K;simp_all[ZF]
    rw[e];cases ZF x.1 with|true=>simp only[af,h0]|false=>simp only[ae];exact NV k0 k1 K h0 l m d B E h1 hl hm n _ _ f (by omega) hk.1 (by omega) (by simp;omega) (by grind)
theorem Oc (k0:ar ID->kf->au R)(k1:ar ID->Bool->ar ID->kf->kf->au R)(K:ar ID×kf×Bool->au R)
 (h0:∀a r,k0 a r=K (a,r,true)) (l:ar aC) (m:bp) (d:Int) (B:kf) (h1:∀a r,k1 [] false a r r=K ([],r,false)) (hl:l.length<=10^9) (hm:m.length<=10^9):∀(n:Nat)(acc:ar ID)(r:kf)(f:Nat),
 n<f->fS r=true->(dq r).toNat=n->acc.length+n<=1000->aH (oF k0 k1 l d ([]:ar ID) false m B) f (acc,r)=K (EC l m d n acc r)
 |n,acc,r,0,hf,_,_,_=>by omega
 |0,acc,r,f+1,hf,hb,hu,ha=>by rw[aH];simp only[oF,Hi,ab];rw[fF,ae,h0];rfl
 |n+1,acc,r,f+1,hf,hb,hu,ha=>by
  have hlen:=DV l m d r;have hk:=Hm (l:=l) (m:=m) (d:=d) (r:=r);rw[aH];simp only[oF,Hi,ab];rw[gN,af,QK l m d r hl hm,ab,EC];generalize cc l m d r=t at hlen hk⊢;rw[adC _ (show t.1.length<=10^9 by omega),ab];generalize eJ t.1=x;cases ht:t.2.2 with
  |false=>simp_all
  |true=>
   have hk:=hk ht;simp only[ai,ae,ab,cB];cases x.2 with
   |false=>grind
   |true=>
    simp only[ai,ae];rw[aQ (by rw[aY];omega)];have e:(aa (cond (x.1.1==1) (some ((ak (toNat (gr x.1.2.1&&&gr 1))) !=0)) (some false)):(Bool->au R)->au R)=λK=>K (ZF x.1):=by funext K;simp_all[ZF]
    rw[e];cases ZF x.1 with|true=>simp only[af,h0]|false=>simp only[ae];exact Oc k0 k1 K h0 l m d B h1 hl hm n _ _ f (by omega) hk.1 (by omega) (by simp;omega)
theorem W1 (l:ar aC)(m:bp)(d:Int)(r:kf)(hl:l.length<=10^9)(hm:m.length<=10^9):AD l m d r=some (fg l m d r):=by
 have Cg:=dc;unfold AD fg;simp only[D0,GC,ab];cases hb:fS r;rfl;cases dq r==0;case true=>rfl
 have hu:=oq hb;simp only[ai,ae,ab,bR];exact NV _ _ (λx=>some x) (λ_ _=>rfl) l m d _ _ (λ_ _=>rfl) hl hm _ [] r fuel (by omega) hb rfl (by simp;omega) rfl
theorem Xi (l:ar aC)(m:bp)(d:Int)(r:kf)(hl:l.length<=10^9)(hm:m.length<=10^9):B0 l m d r=some (fg l m d r):=by
 have Cg:=dc;unfold B0 fg;simp only[En,Hi,ab];cases hb:fS r;rfl;cases dq r==0;case true=>rfl
 have hu:=oq hb;simp only[ai,ae,ab,bR];exact Oc _ _ (λx=>some x) (λ_ _=>rfl) l m d _ (λ_ _=>rfl) hl hm _ [] r fuel (by omega) hb rfl (by simp;omega)
def Ei (x:Int×Int):Bool:=decide (x.1<0)|| !dp x.2 0 4096
def mY (l:ar (Int×Int)):Bool:= !l.any Ei&&decide ((l.length:Int)<=16)
theorem VJ (l:ar (Int×Int)):(bif l.any Ei then some false else some (decide ((l.length:Int)<=16)))=some (mY l):=by grind[mY]
theorem Vi (l:ar (Int×Int))(h:l.length<=10^9):Dd l=some (mY l):=by
 rw[<-VJ];refine LA Ei l (by omega) (λi hi nx=>?_) (λnx=>?_);simp only[vQ];rw[gN,af,aN hi,ab,cq,aj (by omega) (by omega)];unfold Ei;cases decide (l[i].1<0)with|true=>rfl|false=>rfl
 simp only[vQ];rw[fF,ae]
theorem V7 (l:ar (Int×Int))(h:l.length<=10^9):DJ l=some (mY l):=by
 rw[<-VJ];refine LA Ei l (by omega) (λi hi nx=>?_) (λnx=>?_);simp only[wM];rw[gN,af,aN hi,ab,ab,cj,aj (by omega) (by omega)];unfold Ei;cases decide (l[i].1<0)with|true=>rfl|false=>rfl
 simp only[wM];rw[fF,ae]
theorem I7 {l:ar (Int×Int)}(h:mY l=true):l.length<=16/\∀x∈l,0<=x.1/\0<=x.2/\x.2<=4096:=by grind[mY,Ei,bq]
def dsc (n:Nat)(c:Int)(i:Nat)(x:Int×Int):ID:=(1,(if i+1=n then 1 else 0),x.2,x.1,0,c)
def xt (ps:ar (Int×Int))(c:Int):Nat->ar ID
 |0=>[]
 |i+1=>xt ps c i++[dsc ps.length c i (ps.getD i (0,0))]
theorem F3 (ps:ar (Int×Int))(c:Int):∀i,(xt ps c i).length=i
 |0=>rfl
 |i+1=>by rw[xt,ay,F3 ps c i];rfl
theorem MS (ps:ar (Int×Int))(c:Int)(q:ID->Bool):∀i,(xt ps c i).all q=(List.range i).all (λj=>q (dsc ps.length c j (ps.getD j (0,0))))
 |0=>rfl
 |i+1=>by rw[xt,List.all_append,MS ps c q i,List.range_succ,List.all_append];rfl
def qX (ps:ar (Int×Int))(z c:Int):ar ID:=
 bif ((ps.length:Int)==0)||(!mY ps|| !dp z 1 128) then [] else
 bif ([(2,0,0,0,z,c)]++xt ps c ps.length).all uB then [(2,0,0,0,z,c)]++xt ps c ps.length else []
theorem JL (ps:ar (Int×Int))(z c:Int)(h:ps.length<=10^9:=by omega):∃b,ju ps z c=some (b,qX ps z c)/\(b=false->qX ps z c=[]):=by
 unfold ju qX;rw[Vi ps h,cq];cases ((ps.length:Int)==0);case true=>exact⟨false,rfl,λ_=>rfl⟩
 cases mY ps;exact⟨false,rfl,λ_=>rfl⟩;cases dp z 1 128;exact⟨false,rfl,λ_=>rfl⟩;refine⟨([(2,0,0,0,z,c)]++xt ps c ps.length).all uB,?_,λhb=>by rw[hb];rfl⟩;refine bB (λi=>(([(2,0,0,0,z,c)]++xt ps c i,(i:Int)))) ps.length (by omega) (λi nx hi=>?_) (λnx=>?_);have hl:=F3 ps c i;simp only[lX];rw[gN,af,aN hi,ab,aj (by omega) (by omega),aj (by omega) (by omega)];have e:[(2,0,0,0,z,c)]++xt ps c (i+1)=([(2,0,0,0,z,c)]++xt ps c i)++[dsc ps.length c i ps[i]]:=by rw[xt,dv hi,aW]
 rw[e];unfold dsc;by_cases hc:i+1=ps.length;rw[show((i:Int)==(ps.length)-1)=true from by rw[bn];omega,aM hc];rw[aQ (by simp only[ay,aY];omega)];rfl;rw[show((i:Int)==(ps.length)-1)=false from by rw[cy];omega,aK hc];simp only[ae];rw[aQ (by simp only[ay,aY];omega)];rfl;simp only[lX];rw[fF,ae];have hl:=F3 ps c ps.length;generalize hq:[(2,0,0,0,z,c)]++xt ps c ps.length=q;have hn:q.length<=1000000001:=by rw[<-hq];simp only[ay,aY];omega
 rw[vE (fin:=some (true,q)) uB q (by omega) (λi hi nx=>?_) (λnx=>?_)];cases q.all uB<;>rfl;simp only[la];rw[gN,af,aN hi,ab,acm,ab,aj (by omega) (by omega)];rfl;simp only[la];rw[fF,ae]
theorem QB (ps:ar (Int×Int))(z c:Int)(h:ps.length<=10^9):lO ps z c=some (qX ps z c):=by
 unfold lO qX;rw[V7 ps h,cj];cases ((ps.length:Int)==0);case true=>rfl
 cases mY ps;rfl;cases dp z 1 128;rfl;have i0:idx [((2,0,0,0,z,c):ID)] 0=some (2,0,0,0,z,c):=rfl;simp only[ai,ae,ab,bR,i0,QA,List.all_append,bV,List.all_nil,gu];cases uB (2,0,0,0,z,c);rfl;rw[MS];refine(MO (fin:=some ([(2,0,0,0,z,c)]++xt ps c ps.length)) (hit:=some []) (λi=>(([(2,0,0,0,z,c)]++xt ps c i,(i:Int)))) (λj=>uB (dsc ps.length c j (ps.getD j (0,0)))) ps.length (by omega) (λi nx hi _=>?_) (λ_ nx=>?_)).trans ?_;have hl:=F3 ps c i;simp only[mc];rw[gN,af,aN hi,ab,ab,aj (by omega) (by omega),aj (by omega) (by omega)];have e:[(2,0,0,0,z,c)]++xt ps c (i+1)=([(2,0,0,0,z,c)]++xt ps c i)++[dsc ps.length c i ps[i]]:=by rw[xt,dv hi,aW]
 rw[e,dv hi];unfold dsc;by_cases hc:i+1=ps.length;rw[show((i:Int)==(ps.length)-1)=true from by rw[bn];omega,aM hc];simp only[af,QA,ab];rw[aQ (by simp only[ay,aY];omega)];rfl;rw[show((i:Int)==(ps.length)-1)=false from by rw[cy];omega,aK hc];simp only[ae,QA,ab];rw[aQ (by simp only[ay,aY];omega)];rfl;simp only[mc];rw[fF,ae];cases (List.range ps.length).all (λj=>uB (dsc ps.length c j (ps.getD j (0,0))))<;>rfl
def Ms (x y:ID):Bool:=(x.1==y.1)&&((x.2.1==y.2.1)&&((x.2.2.1==y.2.2.1)&&((x.2.2.2.1==y.2.2.2.1)&&((x.2.2.2.2.1==y.2.2.2.2.1)&&((x.2.2.2.2.2==y.2.2.2.2.2)&&true)))))
def Kn (a b:ar ID):Bool:=((a.length:Int)==(b.length:Int))&&(List.range a.length).all λi=>Ms (a.getD i KT) (b.getD i KT)
theorem akb (a b:ar ID)(ha:a.length<=10^9):FV a b=some (Kn a b):=by
 unfold FV Kn;cases hl:((a.length:Int)==(b.length))with
 |false=>simp only[bne,hl,bz,af,gI]
 |true=>
  have hn:a.length=b.length:=by have:=iW hl;omega
  simp only[bne,hl,ai,ae,bj];rw[gR (λi=>Ms (a.getD i KT) (b.getD i KT)) a.length (by omega) (λi nx hi=>?_) (λnx=>?_)];cases (List.range a.length).all (λi=>Ms (a.getD i KT) (b.getD i KT))<;>rfl;have Sx:i<b.length:=by omega
  simp only[yM];rw[gN,af,aN hi,aN Sx,ab,ab,aj (by omega) (by omega),dv hi,dv Sx];rfl;simp only[yM];rw[fF,ae]
def iz (l:ar ID):ar (Int×Int):=(l.drop 1).map λx=>(x.2.2.2.1,x.2.2.1)
def jY (l:ar ID):ar (Int×Int)×Int×Int×Bool:=
 match l with
 |h::x::r=>bif Kn (qX (iz l) h.2.2.2.2.1 h.2.2.2.2.2) l then(iz l,h.2.2.2.2.1,h.2.2.2.2.2,true) else([],0,0,false)
 |_=>([],0,0,false)
theorem XF (ps:ar (Int×Int))(z c:Int):(qX ps z c).length<=ps.length+1:=by
 unfold qX;cases ((ps.length:Int)==0)||(!mY ps|| !dp z 1 128);case true=>simp
 cases ([(2,0,0,0,z,c)]++xt ps c ps.length).all uB with|false=>simp|true=>simp only[ae,af,ay,aY,F3];omega
theorem aaO (l:ar ID)(hl:l.length<=10^9):rO l=some (jY l):=by
 unfold rO;match l,hl with
 |[],_=>
  obtain⟨g,hg⟩:∃g,fuel=g+1:=⟨fuel-1,by have:=dc;omega⟩
  rw[hg,aH];rfl
 |h::q,hl=>
  simp only[bH]at hl;refine bB (λi=>(((q.take i).map (λx=>(x.2.2.2.1,x.2.2.1)),((i+1:Nat):Int)))) q.length (by omega) (λi nx hi=>?_) (λnx=>?_);have Sx:i+1<(h::q).length:=by simp;omega
  have e2:(h::q)[i+1]=q[i]:=rfl;simp only[nb];rw[gN,af,aN Sx,ab,ab,aQ (by simp only[bW,bm,aY];omega),aj (by omega) (by omega),e2,aR hi,eh];rfl;have i0:idx (h::q) 0=some h:=rfl;simp only[nb];rw[aq (by simp only[bH];omega),ae,bN];have hp:q.map (λx=>(x.2.2.2.1,x.2.2.1))=iz (h::q):=rfl;have Hr:(iz (h::q)).length=q.length:=by rw[<-hp,bW]
  rw[hp];have hdl:=XF (iz (h::q)) h.2.2.2.2.1 h.2.2.2.2.2;simp only[i0,ab,QB (iz (h::q)) _ _ (show(iz (h::q)).length<=10^9 by omega),akb _ (h::q) (show(qX (iz (h::q)) h.2.2.2.2.1 h.2.2.2.2.2).length<=10^9 by omega)];cases q with|nil=>rfl|cons x r=>simp only[ae,ab,jY];cases Kn (qX (iz (h::x::r)) h.2.2.2.2.1 h.2.2.2.2.2) (h::x::r)<;>rfl
theorem Z8 (l:ar ID)(hl:l.length<=10^9):rp l=some (jY l):=by
 unfold rp;match l,hl with
 |[],_=>rfl
 |[h],_=>rfl
 |h::y::r,hl=>
  generalize hq:y::r=q;have hq1:1<=q.length:=by rw[<-hq];simp
  have hlen:q.length+1<=10^9:=by rw[<-hq];simpa using hl
  have i0:idx (h::q) 0=some h:=rfl;have s0:sub (h::q) 1 (((h::q).length))=some q:=xc 1 (by simp) rfl;rw[aq (by simp only[bH];omega),ae,s0,ab];refine bB (λi=>(((q.take i).map (λx=>(x.2.2.2.1,x.2.2.1)),(i:Int)))) q.length (by omega) (λi nx hi=>?_) (λnx=>?_);simp only[mV];rw[gN,af,aN hi,ab,aQ (by simp only[bW,bm,aY];omega),aj (by omega) (by omega),aR hi,eh];rfl;simp only[mV];rw[fF,ae,bN];have hp:q.map (λx=>(x.2.2.2.1,x.2.2.1))=iz (h::q):=rfl;have Hr:(iz (h::q)).length=q.length:=by rw[<-hp,bW]
  rw[hp];have hdl:=XF (iz (h::q)) h.2.2.2.2.1 h.2.2.2.2.2;obtain⟨b,hd,hb⟩:=JL (iz (h::q)) h.2.2.2.2.1 h.2.2.2.2.2;have hR:jY (h::q)=bif Kn (qX (iz (h::q)) h.2.2.2.2.1 h.2.2.2.2.2) (h::q) then(iz (h::q),h.2.2.2.2.1,h.2.2.2.2.2,true) else([],0,0,false):=by rw[<-hq];rfl
  rw[hR];simp only[i0,ab,hd];have hlc:(((h::q).length):Int)=(q.length)+1:=by simp only[bH];omega
  generalize qX (iz (h::q)) h.2.2.2.2.1 h.2.2.2.2.2=w at hdl hb⊢
  have core:∀(K:au (ar (Int×Int)×Int×Int×Bool))(w':ar ID),w'=w->(bif ((w'.length):Int) !=(((h::q).length)) then some (([]),(0),(0),false) else
   aH (ij (λuq=>some (iz (h::q),h.2.2.2.2.1,h.2.2.2.2.2,true)) (λCf F1 Ev zS Gg=>some (Cf,F1,Ev,zS)) (h::q) (iz (h::q)) h.2.2.2.2.1 h.2.2.2.2.2 w' ((w'.length))) fuel 0)=some (bif Kn w (h::q) then(iz (h::q),h.2.2.2.2.1,h.2.2.2.2.2,true) else([],0,0,false)):=by
   intro K w' e
   subst e
   unfold Kn
   cases hl:((w'.length)==(((h::q).length):Int))with
   |false=>simp only[bne,hl,bz,af,gI,ae]
   |true=>
    simp only[bne,hl,ai,ae,bj]
    rw[gR (fin:=some (iz (h::q),h.2.2.2.2.1,h.2.2.2.2.2,true)) (λi=>Ms (w'.getD i KT) ((h::q).getD i KT)) w'.length (by omega) (λi nx hi=>?_) (λnx=>?_)]
    ·cases (List.range w'.length).all (λi=>Ms (w'.getD i KT) ((h::q).getD i KT))<;>rfl
    ·have Sx:i<(h::q).length:=by omega
     simp only[ij]
     rw[gN,af,aN hi,aN Sx,ab,ab,aj (by omega) (by omega),dv hi,dv Sx];rfl
    ·simp only[ij]
     rw[fF,ae]
  cases b with|true=>exact core none w rfl|false=>exact core none [] (hb rfl).symm
theorem SO {l:ar ID}(h:(jY l).2.2.2=true):mY (jY l).1=true/\∀p∈(jY l).1,p.1<=4294967295:=by match l,h with|hd::x::r,h=>unfold jY at h⊢;simp only at h⊢;cases hs:Kn (qX (iz (hd::x::r)) hd.2.2.2.2.1 hd.2.2.2.2.2) (hd::x::r)with|false=>grind|true=>generalize hw:iz (hd::x::r)=ps at hs⊢;unfold Kn at hs;simp only[ah]at hs;have hn:=iW hs.1;unfold qX at hn;cases hc:((ps.length)==0)||(!mY ps|| !dp hd.2.2.2.2.1 1 128)with|true=>grind|false=>cases ha:([(2,0,0,0,hd.2.2.2.2.1,hd.2.2.2.2.2)]++xt ps hd.2.2.2.2.2 ps.length).all uB with|false=>grind|true=>simp only[dw,dZ]at hc;refine⟨hc.2.1,λp hp=>?_⟩;rw[List.all_append,MS,ah]at ha;obtain⟨i,hi,rfl⟩:=List.getElem_of_mem hp;simp_all[uB,dsc,bq]
theorem II (l:ar aC)(m:bp)(d a n:Int):(ur l m d a n).1.length<=33554432:=by grind[Ni,vm,ur]
def JG (l:ar aC)(m:bp)(d:Int):ar (Int×Int)->Bytes->Bytes×Bool
 |[],acc=>(acc,true)
 |p::ps,acc=>bif (ur l m d p.1 p.2).2 then JG l m d ps (acc++(ur l m d p.1 p.2).1) else([],false)
def C0 (l:ar aC)(m:bp)(d:Int)(ps:ar (Int×Int)):Bytes×Bool:=bif mY ps then JG l m d ps [] else([],false)
def HB (l:ar aC)(m:bp)(d:Int)(p:Int×Int)(s:Bytes):Except (au (Bytes×Bool)) Bytes:=
 if(ur l m d p.1 p.2).2=true then .ok (s++(ur l m d p.1 p.2).1) else .error (some ([],false))
theorem OH (l:ar aC)(m:bp)(d:Int):∀(ps:ar (Int×Int))(s:Bytes),Tu (HB l m d) (λs=>some (s,true)) ps s=some (JG l m d ps s)
 |[],s=>rfl
 |p::ps,s=>by rw[Tu,JG];unfold HB;cases hd:(ur l m d p.1 p.2).2 with|false=>rfl|true=>exact OH l m d ps _
theorem Ss (l:ar aC)(m:bp)(d:Int):∀(ps:ar (Int×Int))(s:Bytes),(JG l m d ps s).1.length<=s.length+33554432*ps.length
 |[],s=>by simp[JG]
 |p::ps,s=>by have h1:=II l m d p.1 p.2;rw[JG];cases (ur l m d p.1 p.2).2 with|false=>simp|true=>have:=Ss l m d ps (s++(ur l m d p.1 p.2).1);grind
theorem Su (l:ar aC)(m:bp)(d:Int)(ps:ar (Int×Int)):(C0 l m d ps).1.length<=10^9:=by unfold C0;cases hp:mY ps with|false=>simp|true=>have:=(I7 hp).1;have:=Ss l m d ps [];grind
theorem afm (l:ar aC)(m:bp)(d:Int)(ps:ar (Int×Int))(hl:l.length<=10^9)(hm:m.length<=10^9)(hn:ps.length<=10^9)(ha:∀p∈ps,p.1<=9223372036854775807):tA l m d ps=some (C0 l m d ps):=by
 unfold tA C0;rw[Vi ps hn,ab];cases hp:mY ps;rfl;have h16:=(I7 hp).1;simp only[ai,ae,af];rw[<-OH];refine vn ps (λs i=>(s,(i:Int))) (λi s=>s.length<=33554432*i) (HB l m d) _ (by omega) (λi hi s nx hI=>?_) (λi hi s s' hI he=>?_) (λs nx hI=>?_) [] (by simp);have h1:=II l m d ps[i].1 ps[i].2;simp only[nS];rw[gN,af,aN hi,ab,HF l m d _ _ hl hm (ha _ (aE hi)),ab];unfold HB;cases hd:(ur l m d ps[i].1 ps[i].2).2 with|false=>rfl|true=>rw[aM rfl,aQ (by omega),aj (by omega) (by omega)];rfl
 have h1:=II l m d ps[i].1 ps[i].2;unfold HB at he;split at he;injection he with he;rw[<-he,ay];omega;cases he;simp only[nS];rw[fF,ae]
theorem agp (l:ar aC)(m:bp)(d:Int)(ps:ar (Int×Int))(hl:l.length<=10^9)(hm:m.length<=10^9)(hn:ps.length<=10^9)(ha:∀p∈ps,p.1<=9223372036854775807):tZ l m d ps=some (C0 l m d ps):=by
 unfold tZ C0;rw[V7 ps hn,ab];cases hp:mY ps;rfl;have h16:=(I7 hp).1;simp only[ai,ae,af];rw[<-OH];refine vn ps (λs i=>(s,(i:Int))) (λi s=>s.length<=33554432*i) (HB l m d) _ (by omega) (λi hi s nx hI=>?_) (λi hi s s' hI he=>?_) (λs nx hI=>?_) [] (by simp);have h1:=II l m d ps[i].1 ps[i].2;simp only[ox];rw[gN,af,aN hi,ab,ab,H6 l m d _ _ hl hm (ha _ (aE hi)),ab];unfold HB;cases hd:(ur l m d ps[i].1 ps[i].2).2 with|false=>rfl|true=>rw[aM rfl,aQ (by omega),aj (by omega) (by omega)];rfl
 have h1:=II l m d ps[i].1 ps[i].2;unfold HB at he;split at he;injection he with he;rw[<-he,ay];omega;cases he;simp only[ox];rw[fF,ae]
def xQ (t:Bytes):Int:=cM t ((cx t+2:Nat):Int)
def TE (t:Bytes):Int:=Zu ((t.take (cx t+20)).drop (cx t))
def Xd (t:Bytes):Bytes:=(t.take (cx t+(xQ t).toNat)).drop (cx t+20)
def aoo (t:Bytes):Bytes:=CH (dX t ((cx t+12:Nat):Int)) (dX t ((cx t+16:Nat):Int)) (jC t:Int) (xQ t-20)
def QS (t:Bytes):Int:=bif ((jC t:Int)==17)&&(Zu (aoo t++Xd t)==0) then 65535 else Zu (aoo t++Xd t)
def abI (t s:Bytes):Bytes×Bool:=bif ((zL s).2==0)&&((jK (zL s).1).1==t) then eQ (zL s).1 else([],false)
def IM (t:Bytes):Bytes×Bool:=abI t (tV t (cv (TE t)) (cv (QS t)))
theorem Fb (h:¬(TOk t/\cM t (Ca t:Int)=0/\cM t (vA t:Int)=0)):IM t=([],false):=by have ha:KO (tV t (cv (TE t)) (cv (QS t))) t:=N9 t (bO _) (bO _);grind[IM,abI,zL,aqE,aku]
theorem aaX (t:Bytes)(o n:Nat):(t.drop o).take n=(t.take (o+n)).drop o:=by grind[List.drop_take]
theorem SP (h1:cx t+20<=t.length)(h2:20<=xQ t)(h3:xQ t<=(t.length:Int))(h4:t.length<=10^9):FA (dX t ((cx t+12:Nat):Int)) (dX t ((cx t+16:Nat):Int)) (jC t:Int) (xQ t-20)=true:=by have a1:=IS (s:=t) (a:=((cx t+12:Nat):Int));have a2:=IS (s:=t) (a:=((cx t+16:Nat):Int));have a3:=fu t (cx t+9);have a4:=IQ (s:=t) (a:=((cx t+2:Nat):Int));grind[FA,bq,jC,xQ]
theorem aj7 (t:Bytes)(hl:t.length<=10^9):Dz t=some (IM t):=by
 have hp:=Ej t
 have hk:=Ns (jC t)
 have X0:jC t<256:=fu t (cx t+9)
 unfold Dz
 rw[V8 t hl,ab]
 by_cases h1:t.length<cx t+46
 ·rw[ax h1,Fb λh=>by have:=h.1.l1;omega];rfl
 rw[aq h1]
 simp only[ae]
 rw[aq (show¬(Ca t:Int)<0 by omega)]
 simp only[ae,wC t _ hl,ab]
 cases h2:cM t (Ca t:Int) !=0 with
 |true=>simp_all[Fb]
 |false=>
 simp only[ae,ab]
 cases h3:cM t (vA t:Int) !=0 with
 |true=>grind[Fb]
 |false=>
 have w1:ak ((Ca t:Int)-10)=(cx t:Int):=by grind[aj]
 have w2:ak ((cx t:Int)+2)=((cx t+2:Nat):Int):=by grind[aj]
 have w9:ak ((cx t:Int)+9)=((cx t+9:Nat):Int):=by grind[aj]
 have w12:ak ((cx t:Int)+12)=((cx t+12:Nat):Int):=by grind[aj]
 have w16:ak ((cx t:Int)+16)=((cx t+16:Nat):Int):=by grind[aj]
 have w20:ak ((cx t:Int)+20)=((cx t+20:Nat):Int):=by grind[aj]
 have wb:ak ((vA t:Int)+2)=(vA t:Int)+2:=by grind[aj]
 have wc:ak ((vA t:Int)+2-(cx t:Int))=(vA t:Int)+2-(cx t:Int):=by grind[aj]
 have wl:ak ((t.length:Int)-(cx t:Int))=(t.length:Int)-(cx t:Int):=by grind[aj]
 obtain⟨x,hx,ex⟩:=lJ (s:=t) (i:=cx t+9)
 have a4:=IQ (s:=t) (a:=((cx t+2:Nat):Int))
 simp only[ae,ab,w1,w2,w9,hx,wb,wc,wl]
 rw[show cM t ((cx t+2:Nat):Int)=xQ t from rfl]at a4⊢
 by_cases h4:xQ t<(vA t:Int)+2-(cx t:Int)
 ·rw[ax h4,Fb λh=>by have:=h.1.n1;grind[xQ]];rfl
 rw[aq h4]
 simp only[ae,ab]
 by_cases h5:xQ t>(t.length:Int)-(cx t:Int)
 ·rw[ax h5,Fb λh=>by have:=h.1.n2;grind[xQ]];rfl
 rw[aq h5]
 obtain⟨n,hn⟩:=aD a4.1
 have wn:ak ((cx t:Int)+xQ t)=((cx t+n:Nat):Int):=by grind[aj]
 have wm:ak (xQ t-20)=xQ t-20:=by grind[aj]
 have s1:sub t (cx t:Int) ((cx t+20:Nat):Int)=some ((t.take (cx t+20)).drop (cx t)):=by grind[QR,aw]
 have s2:sub t ((cx t+20:Nat):Int) ((cx t+n:Nat):Int)=some (Xd t):=by grind[QR,aw,Xd]
 have hps:=Ng (dX t ((cx t+12:Nat):Int)) (dX t ((cx t+16:Nat):Int)) (jC t:Int) (xQ t-20)
 have L3:(Xd t).length<=65535:=by unfold Xd;grind
 have hk2:ak ((UInt8.toNat x:Int))=(jC t:Int):=by grind[gq,jC]
 simp only[ae,ab,w12,w16,w20,wn,wm,s1,s2,CK t _ hl,hk2,Kv,SP (show cx t+20<=t.length by omega) (show 20<=xQ t by omega) (show xQ t<=(t.length:Int) by omega) hl,af]
 rw[show CH (dX t ((cx t+12:Nat):Int)) (dX t ((cx t+16:Nat):Int)) (jC t:Int) (xQ t-20)=aoo t from rfl]at hps⊢
 rw[Qz _ (by grind),ab,aQ (by omega),Qz _ (by rw[ay];omega),ab]
 rw[show Zu ((t.take (cx t+20)).drop (cx t))=TE t from rfl]
 have ng:∀y:Int,QS t=y->(aa (ch (TE t)) λBG=>aa (eD t (Ca t:Int) BG) λNh=>aa (ch y) λr18=>aa (eD Nh (vA t:Int) r18) λYC=>aa (js YC) λIC=>
  bif IC.2 !=0 then some (([]:Bytes),false) else aa (oR IC.1) λTs=>bif !(Ts.1==t) then some (([]:Bytes),false) else aa (hZ IC.1) λr22=>some r22)=some (IM t):=by
  intro y hy
  subst hy
  rw[iS,ab,FE t _ _ hl,ab,iS,ab,FE _ _ _ (by rw[Ek];exact hl),ab]
  have hlen:=H4 t (cv (TE t)) (cv (QS t))
  unfold IM
  rw[show xn (xn t (Ca t:Int) (cv (TE t))) (vA t:Int) (cv (QS t))=tV t (cv (TE t)) (cv (QS t)) from rfl]
  grind[No,ab,YX,Jg,abI]
 grind[QS,ab]
theorem aiY (t:Bytes)(hl:t.length<=10^9):C6 t=some (IM t):=by
 have hp:=Ej t
 have hk:=Ns (jC t)
 have X0:jC t<256:=fu t (cx t+9)
 have LW:=Kg t
 unfold C6
 rw[P0 t hl,ab,Cw _ _ (by omega),ab]
 cases h1:(gn t).2 with
 |false=>rw[Fb λh=>by have:=h.1.eth;grind];rfl
 |true=>
 have he:=RS h1
 rw[he.1]
 simp only[ai,ae,ab]
 have en:cM (t.drop (cx t)) 2=xQ t:=UU (a:=2)
 rw[en]
 by_cases h4:xQ t<20
 ·rw[ax h4,Fb λh=>by have:=h.1.n1;grind[xQ]];rfl
 rw[aq h4]
 simp only[ae,ab]
 by_cases h5:xQ t>((t.drop (cx t)).length:Int)
 ·rw[ax h5,Fb λh=>by have:=h.1.n2;grind[xQ]];rfl
 rw[aq h5]
 rw[bl]at h5
 have hdl:(t.drop (cx t)).length=t.length-cx t:=bl ..
 obtain⟨n,hn⟩:=aD (show 0<=xQ t by omega)
 obtain⟨x,hx,ex⟩:=lJ (s:=t.drop (cx t)) (i:=9)
 have hx9:idx (t.drop (cx t)) 9=some x:=hx
 have s1:sub (t.drop (cx t)) 0 20=some ((t.take (cx t+20)).drop (cx t)):=by grind[DT]
 have s2:sub (t.drop (cx t)) 20 (xQ t)=some (Xd t):=by rw[QR (l:=t.drop (cx t)) 20 (a:=20) rfl (by omega) (by omega),hn,aw,aaX,eL];grind[Xd]
 have hps:=Ng (dX t ((cx t+12:Nat):Int)) (dX t ((cx t+16:Nat):Int)) (jC t:Int) (xQ t-20)
 have L3:((Xd t).length:Int)=xQ t-20:=by grind[Xd]
 have hk2:ak ((UInt8.toNat x:Int))=(jC t:Int):=by grind[gq,bZ,jC]
 have g12:dX (t.drop (cx t)) 12=dX t ((cx t+12:Nat):Int):=UW (a:=12)
 have g16:dX (t.drop (cx t)) 16=dX t ((cx t+16:Nat):Int):=UW (a:=16)
 have hw:ak ((TA (jC t):Int)+2)=(TA (jC t):Int)+2:=by grind[aj]
 simp only[ae,ab,P6 t hl,s1,s2,hx9,Cx _ _ (show(t.drop (cx t)).length<=10^9 by omega),hk2,Vj,L3,g12,g16,SP (show cx t+20<=t.length by omega) (show 20<=xQ t by omega) (show xQ t<=(t.length:Int) by omega) hl,af,ai,Rv _ X0,hw]
 rw[show CH (dX t ((cx t+12:Nat):Int)) (dX t ((cx t+16:Nat):Int)) (jC t:Int) (xQ t-20)=aoo t from rfl]at hps⊢
 by_cases h6:(TA (jC t):Int)+2>xQ t-20
 ·rw[ax h6,Fb λh=>by have:=h.1.n1;grind[xQ]];rfl
 rw[aq h6]
 simp only[ae]
 have hck:((t.take (cx t+20)).drop (cx t)).length<=10^9:=by grind
 rw[aQ (by omega),TO _ (by rw[ay];omega),ab]
 have ng:∀y:Int,QS t=y->(aa (kj ((t.take (cx t+20)).drop (cx t))) λr25=>aa (cG r25) λr26=>aa (ga t (Ca t:Int) r26) λr27=>aa (cG y) λVP=>aa (ga r27 (vA t:Int) VP) λr29=>aa (jm r29) λr30=>aa (oJ r30.1) λr31=>
  aa (bif r30.2 !=0 then some true else bif !r31.2 then some true else some (!(r31.1==t))) λq32=>bif q32 then some (([]:Bytes),false) else aa (hH r30.1) λr33=>some r33)=some (IM t):=by
  intro y hy
  subst hy
  have b1:=bO (TE t)
  have b2:=bO (QS t)
  rw[TO _ hck,ab,show Zu ((t.take (cx t+20)).drop (cx t))=TE t from rfl]
  rw[mC,ab,JN t _ _ hl,ab,mC,ab,JN _ _ _ (by rw[Ek];exact hl),ab]
  have hlen:=H4 t (cv (TE t)) (cv (QS t))
  unfold IM
  rw[show xn (xn t (Ca t:Int) (cv (TE t))) (vA t:Int) (cv (QS t))=tV t (cv (TE t)) (cv (QS t)) from rfl]
  grind[M8,ab,Yj,IW,abI,jK]
 cases h8:(jC t:Int)==17 with
 |false=>simp_all[QS]
 |true=>
  grind[ab,QS]
theorem XQ (t:Bytes):(IM t).1.length<=378:=by grind[IM,abI,Ct]
theorem Oy (l:ar aC)(m:bp)(d:Int):∀(n:Nat)(acc:ar ID)(r:kf),(EC l m d n acc r).1.length<=acc.length+n
 |0,acc,r=>ba _
 |n+1,acc,r=>by
  rw[EC];cases !(cc l m d r).2.2|| !(eJ (cc l m d r).1).2;case true=>exact eT _
  cases ZF (eJ (cc l m d r).1).1 with|true=>grind|false=>have:=Oy l m d n (acc++[(eJ (cc l m d r).1).1]) (cc l m d r).2.1;grind
theorem agd (h:fS r=true):fS (r.1,r.2.1,r.2.2.2,r.2.2.2)=true/\dq (r.1,r.2.1,r.2.2.2,r.2.2.2)=0:=by grind[fS,dq,Int.zero_emod,bq]
theorem Sl (l:ar aC)(m:bp)(d:Int):∀(n:Nat)(acc:ar ID)(r:kf),fS r=true->(dq r).toNat=n->
 fS (EC l m d n acc r).2.1=true/\dq (EC l m d n acc r).2.1<=dq r/\(0<dq r->dq (EC l m d n acc r).2.1<dq r)
 |0,acc,r,hb,hu=>⟨hb,Int.le_refl _,λh=>by omega⟩
 |n+1,acc,r,hb,hu=>by have hk:=Hm (l:=l) (m:=m) (d:=d) (r:=r);have he:=agd hb;rw[EC];cases hc: !(cc l m d r).2.2|| !(eJ (cc l m d r).1).2 with|true=>grind|false=>simp only[dw,dZ]at hc;have hk:=hk hc.1;cases ZF (eJ (cc l m d r).1).1 with|true=>grind|false=>have:=Sl l m d n (acc++[(eJ (cc l m d r).1).1]) (cc l m d r).2.1 hk.1 (by omega);grind
def lZ (l:ar aC)(m:bp)(d:Int)(r:kf):kf×bp×Int:=
 bif !fS r||(dq r==0) then(r,[],0) else
 bif !(fg l m d r).2.2|| !(jY (fg l m d r).1).2.2.2 then((fg l m d r).2.1,[],2) else
 bif !(C0 l m d (jY (fg l m d r).1).1).2||(!(IM (C0 l m d (jY (fg l m d r).1).1).1).2||((zL (IM (C0 l m d (jY (fg l m d r).1).1).1).1).2 !=0)) then((fg l m d r).2.1,[],2) else
 ((fg l m d r).2.1,YM (zL (IM (C0 l m d (jY (fg l m d r).1).1).1).1).1 (jY (fg l m d r).1).2.1,1)
theorem afq (l:ar aC)(m:bp)(d:Int)(r:kf)(hl:l.length<=10^9)(hm:m.length<=10^9):tK l m d r=some (lZ l m d r):=by
 unfold tK lZ;simp only[D0,GC,ab,W1 l m d r hl hm];cases hb:fS r;rfl;cases dq r==0;case true=>rfl
 have hu:=oq hb;have hcl:(fg l m d r).1.length<=16:=by unfold fg;cases !fS r||(dq r==0)with|true=>exact eT _|false=>have:=Oy l m d (dq r).toNat [] r;grind
 simp only[ai,ae,ab,bR];generalize fg l m d r=c at hcl⊢;cases c.2.2;rfl;simp only[ai,ae,ab,cB,Z8 c.1 (show c.1.length<=10^9 by omega)];have hpo:=SO (l:=c.1);grind[I7,Su,ab,afm,XQ,aiY,M8,amk]
theorem agt (l:ar aC)(m:bp)(d:Int)(r:kf)(hl:l.length<=10^9)(hm:m.length<=10^9):ui l m d r=some (lZ l m d r):=by
 unfold ui lZ;simp only[En,Hi,ab,Xi l m d r hl hm];cases hb:fS r;rfl;cases dq r==0;case true=>rfl
 have hu:=oq hb;have hcl:(fg l m d r).1.length<=16:=by unfold fg;cases !fS r||(dq r==0)with|true=>exact eT _|false=>have:=Oy l m d (dq r).toNat [] r;grind
 simp only[ai,ae,ab,bR];generalize fg l m d r=c at hcl⊢;simp only[aaO c.1 (show c.1.length<=10^9 by omega),ab];cases c.2.2;rfl;simp only[ai,ae,ab,cB];have hpo:=SO (l:=c.1);generalize jY c.1=p at hpo⊢;cases hp:p.2.2.2;rfl;have hpo:=hpo hp;have h16:=(I7 hpo.1).1;have hg:=Su l m d p.1;simp only[ai,ae,ab,cB,agp l m d p.1 hl hm (show p.1.length<=10^9 by omega) (λq hq=>Int.le_trans (hpo.2 q hq) (by omega))];grind[XQ,aj7,ab,No,anr]
theorem RN (l:ar aC)(m:bp)(d:Int)(r:kf): ((lZ l m d r).2.2=0->(lZ l m d r).1=r)/\((lZ l m d r).2.2≠0->0<dq r/\fS r=true/\fS (lZ l m d r).1=true/\dq (lZ l m d r).1<dq r)/\(lZ l m d r).2.1.length<=320/\(∀x∈(lZ l m d r).2.1,x.length<=382)/\((lZ l m d r).2.2=0\/(lZ l m d r).2.2=1\/(lZ l m d r).2.2=2):=by
 unfold lZ;cases hc: !fS r||(dq r==0)with
 |true=>grind
 |false=>
  simp only[dw,dZ,cy]at hc;have hu:=oq hc.1;have hch:fS (fg l m d r).2.1=true/\dq (fg l m d r).2.1<dq r:=by have:=Sl l m d (dq r).toNat [] r hc.1 rfl;grind[fg]
  grind[aj1]
def tn (l:ar aC)(m:bp)(d:Int):Nat->bp->Nat->Nat->kf->kf×bp×Int×Int
 |0,fr,dn,bd,r=>(r,fr,(dn:Int),(bd:Int))
 |n+1,fr,dn,bd,r=>
  bif (lZ l m d r).2.2==0 then(r,fr,(dn:Int),(bd:Int)) else
  bif (lZ l m d r).2.2==1 then tn l m d n (fr++(lZ l m d r).2.1) (dn+1) bd (lZ l m d r).1 else
  tn l m d n (fr++(lZ l m d r).2.1) dn (bd+1) (lZ l m d r).1
def lG (l:ar aC)(m:bp)(d:Int)(r:kf):kf×bp×Int×Int:=tn l m d 17 [] 0 0 r
theorem OS (l:ar aC)(m:bp)(d:Int)(hl:l.length<=10^9)(hm:m.length<=10^9):∀(n:Nat)(fr:bp)(dn bd:Nat)(r:kf)(f:Nat),n<f->(fS r=true->dq r<n)->0<n->fr.length+320*n<=10000->dn+bd+n<=1000->
 aH (pn (λy2 y3 y4 _ _ _ _ y9=>some (y9,y2,y3,y4)) l d ([]:bp) 0 0 m (0,0,0,0)) f (fr,(dn:Int),(bd:Int),r)=some (tn l m d n fr dn bd r)
 |0,fr,dn,bd,r,f,_,_,h0,_,_=>by omega
 |n+1,fr,dn,bd,r,0,hf,_,_,_,_=>by omega
 |n+1,fr,dn,bd,r,f+1,hf,hr,_,iw,hc=>by have ok:=RN l m d r;rw[aH,tn];simp only[pn,afq l m d r hl hm,ab];generalize lZ l m d r=x at ok⊢;cases h0:x.2.2==0 with|true=>grind|false=>have hk:=ok.2.1 (by simpa using h0);have hu:=hr hk.2.1;have hu2:=(oq hk.2.2.1).1;simp only[ae];cases x.2.2==1 with|true=>simp only[af];rw[aQ (by omega),aj (by omega) (by omega)];exact OS l m d hl hm n _ (dn+1) bd _ f (by omega) (λ_=>by omega) (by omega) (by rw[ay];omega) (by omega)|false=>simp only[ae];rw[aQ (by omega),aj (by omega) (by omega)];exact OS l m d hl hm n _ dn (bd+1) _ f (by omega) (λ_=>by omega) (by omega) (by rw[ay];omega) (by omega)
theorem O2 (l:ar aC)(m:bp)(d:Int)(hl:l.length<=10^9)(hm:m.length<=10^9):∀(n:Nat)(fr:bp)(dn bd:Nat)(r:kf)(f:Nat),n<f->(fS r=true->dq r<n)->0<n->fr.length+320*n<=10000->dn+bd+n<=1000->
 aH (pD (λy2 y3 y4 _ _ _ _ y9=>some (y9,y2,y3,y4)) l d ([]:bp) 0 0 m (0,0,0,0)) f (fr,(dn:Int),(bd:Int),r)=some (tn l m d n fr dn bd r)
 |0,fr,dn,bd,r,f,_,_,h0,_,_=>by omega
 |n+1,fr,dn,bd,r,0,hf,_,_,_,_=>by omega
 |n+1,fr,dn,bd,r,f+1,hf,hr,_,iw,hc=>by have ok:=RN l m d r;rw[aH,tn];simp only[pD,agt l m d r hl hm,ab];generalize lZ l m d r=x at ok⊢;cases h0:x.2.2==0 with|true=>rfl|false=>have hk:=ok.2.1 (by simpa using h0);have hu:=hr hk.2.1;have hu2:=(oq hk.2.2.1).1;simp only[ae];rw[aQ (by omega)];cases x.2.2==1 with|true=>simp only[af];rw[aj (by omega) (by omega)];exact O2 l m d hl hm n _ (dn+1) bd _ f (by omega) (λ_=>by omega) (by omega) (by rw[ay];omega) (by omega)|false=>simp only[ae];rw[aj (by omega) (by omega)];exact O2 l m d hl hm n _ dn (bd+1) _ f (by omega) (λ_=>by omega) (by omega) (by rw[ay];omega) (by omega)
theorem ajh (l:ar aC)(m:bp)(d:Int)(r:kf)(hl:l.length<=10^9)(hm:m.length<=10^9):vZ l m d r=some (lG l m d r):=by have Cg:=dc;unfold vZ;exact OS l m d hl hm 17 [] 0 0 r fuel (by omega) (λh=>by have:=(oq h).2;omega) (by omega) (by simp) (by omega)
theorem ako (l:ar aC)(m:bp)(d:Int)(r:kf)(hl:l.length<=10^9)(hm:m.length<=10^9):wV l m d r=some (lG l m d r):=by have Cg:=dc;unfold wV;exact O2 l m d hl hm 17 [] 0 0 r fuel (by omega) (λh=>by have:=(oq h).2;omega) (by omega) (by simp) (by omega)
theorem Gf (l:ar aC)(m:bp)(d:Int):∀(n:Nat)(fr:bp)(dn bd:Nat)(r:kf),(∀x∈fr,x.length<=382)->
 (tn l m d n fr dn bd r).2.1.length<=fr.length+320*n/\(∀x∈(tn l m d n fr dn bd r).2.1,x.length<=382)/\0<=(tn l m d n fr dn bd r).2.2.1/\(tn l m d n fr dn bd r).2.2.1<=(dn+n:Nat)/\0<=(tn l m d n fr dn bd r).2.2.2/\(tn l m d n fr dn bd r).2.2.2<=(bd+n:Nat)
 |0,fr,dn,bd,r,h=>⟨ba _,h,by show(0:Int)<=(dn:Int);omega,by show(dn:Int)<=_;omega,by show(0:Int)<=(bd:Int);omega,by show(bd:Int)<=_;omega⟩
 |n+1,fr,dn,bd,r,h=>by
  have ok:=RN l m d r;rw[tn];generalize lZ l m d r=x at ok⊢;have h2:∀y∈fr++x.2.1,y.length<=382:=λy hy=>by grind
  cases x.2.2==0 with|true=>grind|false=>cases x.2.2==1 with|true=>have i:=Gf l m d n (fr++x.2.1) (dn+1) bd x.1 h2;grind|false=>have i:=Gf l m d n (fr++x.2.1) dn (bd+1) x.1 h2;grind
def ak5 (v:Vector):Bool:=bif decide (v.2.2.1>=1) then(bif decide (v.2.2.1>=v.1) then true else decide (v.2.2.2.1>=v.2.1)) else false
theorem aow (v:Vector):IZ v=some (ak5 v):=by unfold IZ ak5;cases decide (v.2.2.1>=1);all_goals simp_all
theorem aoU (v:Vector):vy v=some (ak5 v):=by unfold vy ak5;cases decide (v.2.2.1>=1);all_goals simp_all
def LC (v:Vector):Vector:=bif ak5 v&& !v.2.2.2.2.1 then(v.1,v.2.1,v.2.2.1,v.2.2.2.1,v.2.2.2.2.1,true) else v
theorem Rp (v:Vector):rE v=some (LC v):=by grind[rE,LC,aow,ab]
theorem R3 (v:Vector):oS v=some (LC v):=by grind[oS,LC,aoU,ab]
def upM (n:Int):Int:=if 1000000<ak (n+1) then 1000000 else ak (n+1)
theorem ah6 (n:Int):(if ak (n+1)<1000000 then ak (n+1) else 1000000)=upM n:=by grind[upM]
def evV (v:Vector):Vector:=bif um v then LC (v.1,v.2.1,upM v.2.2.1,v.2.2.2) else v
theorem aiS (v:Vector):C2 v=some (evV v):=by unfold C2 evV;rw[GD,ab,Rp,ab];cases um v<;>rfl
theorem aj3 (v:Vector):Dv v=some (evV v):=by grind[Dv,evV,CM,ab,ah6,R3]
def ad7 (v:Vector):Vector:=bif um v then(bif decide (v.2.2.1>0) then LC (v.1,v.2.1,v.2.2.1,upM v.2.2.2.1,v.2.2.2.2) else LC v) else v
theorem ajg (v:Vector):yt v=some (ad7 v):=by unfold yt ad7;simp only[GD,ab,Rp];cases um v;rfl;cases decide (v.2.2.1>0)<;>rfl
theorem akn (v:Vector):yJ v=some (ad7 v):=by grind[yJ,ad7,CM,ab,ah6,R3]
def Lk (v:Vector):Vector×Bool:=bif um v&&v.2.2.2.2.2 then((v.1,v.2.1,0,0,true,false),true) else(v,false)
theorem ajf (v:Vector):rC v=some (Lk v):=by grind[rC,Lk,GD,ab]
theorem akm (v:Vector):rX v=some (Lk v):=by grind[rX,Lk,CM,ab]
def QX (v:Vector):Vector:=bif um v then LC (v.1,v.2.1,v.2.2.1,v.2.2.2.1,false,v.2.2.2.2.2) else v
theorem Vl (v:Vector):D3 v=some (QX v):=by grind[D3,QX,GD,ab,Rp]
theorem Wa (v:Vector):Eo v=some (QX v):=by grind[Eo,QX,CM,ab,R3]
structure mA (k:Nat) (a b:Host):Prop where
 mem:b.1.length=a.1.length
 maps:b.2.1=a.2.1
 tx:b.2.2.1=a.2.2.1
 rx:b.2.2.2.1.length=a.2.2.2.1.length
 rxs:∀j,k<=j->b.2.2.2.1[j]?=a.2.2.2.1[j]?
 pl:b.2.2.2.2.1.length=a.2.2.2.2.1.length
 vec:b.2.2.2.2.2.1.length=a.2.2.2.2.2.1.length
 ael:∀j,k<=j->b.2.2.2.2.2.1[j]?=a.2.2.2.2.2.1[j]?
 pol:b.2.2.2.2.2.2.1.length=a.2.2.2.2.2.2.1.length
 flt:b.2.2.2.2.2.2.2.1=a.2.2.2.2.2.2.2.1
 ste:b.2.2.2.2.2.2.2.2.1=a.2.2.2.2.2.2.2.2.1
theorem mA.refl (k:Nat)(a:Host):mA k a a:=⟨rfl,rfl,rfl,rfl,λ_ _=>rfl,rfl,rfl,λ_ _=>rfl,rfl,rfl,rfl⟩
theorem mA.trans {a b c:Host}(h:mA k a b)(g:mA k b c):mA k a c:=⟨g.mem.trans h.mem,g.maps.trans h.maps,g.tx.trans h.tx,g.rx.trans h.rx,λj hj=>(g.rxs j hj).trans (h.rxs j hj),g.pl.trans h.pl,g.vec.trans h.vec,λj hj=>(g.ael j hj).trans (h.ael j hj),g.pol.trans h.pol,g.flt.trans h.flt,g.ste.trans h.ste⟩
theorem mA.up {m:Nat}{a b:Host}(h:mA k a b)(hk:k<=m):mA m a b:=⟨h.mem,h.maps,h.tx,h.rx,λj hj=>h.rxs j (by omega),h.pl,h.vec,λj hj=>h.ael j (by omega),h.pol,h.flt,h.ste⟩
def iT (g:Nat->Host->Host):Nat->Host->Host
 |0,h=>h
 |k+1,h=>g k (iT g k h)
theorem xb (hg:∀k h,mA (k+1) h (g k h))(h:Host):∀k,mA k h (iT g k h)
 |0=>mA.refl 0 h
 |k+1=>((xb hg h k).up (by omega)).trans (hg k _)
theorem Hl {d n:Nat}(hn:1000<=n)(hg:∀k h m,1000<=m->bu m cR h->bu (m+d) cR (g k h))(z:bu n cR h):∀k,bu (n+d*k) cR (iT g k h)
 |0=>z
 |k+1=>(hg k _ _ (by omega) (Hl hn hg z k)).mono (by rw[Nat.mul_add];omega)
def Cd (i:Nat)(h:Host):Host:=
 match h.2.2.2.2.2.1[i]? with
 |some v=>(h.1,h.2.1,h.2.2.1,h.2.2.2.1,h.2.2.2.2.1,h.2.2.2.2.2.1.set i (ad7 v),h.2.2.2.2.2.2)
 |none=>h
theorem KH (i:Nat)(h:Host):mA (i+1) h (Cd i h):=by unfold Cd;cases h.2.2.2.2.2.1[i]? with|none=>exact mA.refl _ _|some v=>exact⟨rfl,rfl,rfl,rfl,λ_ _=>rfl,rfl,aL ..,λj hj=>aZ (by omega),rfl,rfl,rfl⟩
theorem T9 {n:Nat}{l:ar Vector}{i:Nat}{v:Vector}(z:bu n (.sl gV) l):bu n (.sl gV) (l.set i v):=qt z ⟨bM,bM,bM,bM,bM,bM⟩
theorem akA (i:Nat)(h:Host)(n:Nat)(hn:1000<=n)(z:bu n cR h):bu (n+0) cR (Cd i h):=by unfold Cd;cases h.2.2.2.2.2.1[i]? with|none=>exact z|some v=>exact⟨z.1,z.2.1,z.2.2.1,z.2.2.2.1,z.2.2.2.2.1,T9 z.2.2.2.2.2.1,z.2.2.2.2.2.2⟩
def Eu (h:Host):Host:=bif fw h then iT Cd h.2.2.2.2.2.1.length h else h
theorem anK {n:Nat}(hn:1000<=n)(z:bu n cR h):bu n cR (Eu h)/\(Eu h).2.2.1=h.2.2.1:=by unfold Eu;cases fw h with|false=>exact⟨z,rfl⟩|true=>exact⟨(Hl hn akA z _).mono,(xb KH h _).tx⟩
theorem acB (h:Host)(k:Lx h)(z:bu 1000000000 cR h):xz h=some (Eu h):=by
 have Cg:=dc;unfold xz Eu;rw[ki h z,ab,Ai h k,ab];cases hb:fw h;rfl;have hv:h.2.2.2.2.2.1.length<=10^9:=z.2.2.2.2.2.1.1;simp only[ai,ae,af];refine bB (λi=>((i:Int),iT Cd i h)) h.2.2.2.2.2.1.length (by omega) (λi nx hi=>?_) (λnx=>?_);have kk:=xb KH h i;have i1:i<(iT Cd i h).2.2.2.2.2.1.length:=by rw[kk.vec];exact hi
 rw[show iT Cd (i+1) h=Cd i (iT Cd i h) from rfl];generalize iT Cd i h=s at i1⊢;simp only[vO,Cd];rw[gN,af,al i1];simp only[aN i1,ab,ajg,aw];rw[aj (by omega) (by omega)];rfl;simp only[vO];rw[fF,ae]
theorem adR (h:Host)(k:Lx h)(z:bu 1000000000 cR h):yb h=some (Eu h):=by
 have Cg:=dc;unfold yb Eu;rw[kt h z,ab];have hv:h.2.2.2.2.2.1.length<=10^9:=z.2.2.2.2.2.1.1;cases hb:fw h with
 |false=>
  obtain⟨g,hg⟩:∃g,fuel=g+1:=⟨fuel-1,by omega⟩
  rw[hg,aH,qN,vp h k,hb];cases decide ((0:Int)<(h.2.2.2.2.2.1.length:Int))<;>rfl
 |true=>
  simp only[af];refine bB (λi=>((i:Int),iT Cd i h)) h.2.2.2.2.2.1.length (by omega) (λi nx hi=>?_) (λnx=>?_);have kk:=xb KH h i;have i1:i<(iT Cd i h).2.2.2.2.2.1.length:=by rw[kk.vec];exact hi
  have e1:=kk.ael i (ba _);rw[al i1,al hi]at e1;have e2:=cX e1;rw[show iT Cd (i+1) h=Cd i (iT Cd i h) from rfl];generalize iT Cd i h=s at i1 e2⊢;simp only[qN,Cd,vp h k,hb];rw[gN,af,al i1];simp only[aN i1,aN hi,ab,akn,aw,af,e2];rw[aj (by omega) (by omega)];rfl;simp only[qN];rw[fF,ae,ab,ae]
structure DX (n:Nat) (h:Host):Prop where
 z:bu n cR h
 t:h.2.2.1.2.1.2.2.2.length+(cE h.2.2.1.2.2.1).length<=n
theorem DX.mono {n m:Nat}(k:DX n h)(hn:n<=m:=by omega):DX m h:=⟨k.z.mono hn,aF k.t hn⟩
theorem DX.sz {n:Nat}(k:DX n h)(hn:n<=10^9:=by omega):Lx h:=by have z:bu 1000000000 cR h:=k.z.mono hn;exact⟨z.1.1,z.2.1.1,z.2.2.1.2.2.1.1,aF k.t hn,z.2.2.2.2.2.2.2.1.2.2.1,z.2.2.2.2.2.2.2.2.1.1.1,z.2.2.2.2.2.2.2.2.1.2.1.1,z.2.2.2.2.2.2.2.2.1.2.2.2.1,λp hp=>(z.2.2.2.2.1.2 p hp).2.2.2.1⟩
theorem DX.of (k:my cR h<=1048576):DX 1048576 h:=by refine⟨KC k,?_⟩;have hb:=ag9 h.2.2.1.2.2.1;simp_all[my];omega
def zw (p:cH):ar ia->cH
 |[]=>p
 |x::l=>zw (UX p x.2.2).1 l
theorem M3:∀(l:ar ia)(p:cH),(zw p l).2.2.2.length<=p.2.2.2.length+(cE l).length
 |[],p=>by simp[zw]
 |x::l,p=>by have h1:=abV p x.2.2;have h2:=M3 l (UX p x.2.2).1;grind[zw,cE]
theorem Rm:∀(l:ar ia)(p:cH)(x:ia),zw p (l++[x])=(UX (zw p l) x.2.2).1
 |[],p,x=>rfl
 |y::l,p,x=>by rw[List.cons_append,zw,zw,Rm l]
theorem Up (a b:ar ia):(cE (a++b)).length=(cE a).length+(cE b).length:=by grind[cE]
theorem Uq (l:ar ia)(n:Nat):(cE (l.take n)).length+(cE (l.drop n)).length=(cE l).length:=by rw[<-Up,cK]
def nu (t:bX)(n:Int):bX×cI:=
 bif Tb t&&dp n 0 (t.2.2.1.length:Int) then((t.1,zw t.2.1 (t.2.2.1.take n.toNat),t.2.2.1.drop n.toNat,t.2.2.2),(t.2.2.1.take n.toNat).map (·.1)) else(t,[])
theorem ahQ {l:ar ia}(h:(cE l).length<=10^9:=by omega):∀x∈l,x.2.2.length<=10^9:=by intro x hx;induction l with|nil=>cases hx|cons y l ih=>grind[cE]
theorem Z2 (t:bX)(n:Int)(hw:t.2.2.1.length<=10^9)(hs:t.2.1.2.2.2.length+(cE t.2.2.1).length<=10^9):nP t n=some (nu t n):=by
 have hx:=ahQ (l:=t.2.2.1);unfold nP nu;rw[OP t ⟨by omega,hw,hx⟩,ab,afx t hw hs];simp only[ab,cq];cases Tb t;rfl;cases hn:dp n 0 (t.2.2.1.length:Int);rfl;have h:=bq.1 hn;obtain⟨n,rfl⟩:=aD h.1;have hl:n<=t.2.2.1.length:=by omega
 simp only[ai,ae,ab,cA,af,aw];rw[DT (by omega) (by omega),ab,aw];have htl:(t.2.2.1.take n).length=n:=by rw[bm];omega
 rw[htl];refine bB (λi=>(((t.2.2.1.take i).map (·.1),(i:Int),t.1,zw t.2.1 (t.2.2.1.take i),t.2.2):cI×Int×bX)) n (by omega) (λi nx hi=>?_) (λnx=>?_);have Sx:i<(t.2.2.1.take n).length:=by omega
 have hi3:i<t.2.2.1.length:=by omega
 have e1:(t.2.2.1.take n)[i]=t.2.2.1[i]:=List.getElem_take ..;have g1:=M3 (t.2.2.1.take i) t.2.1;have g2:=Uq t.2.2.1 (i+1);have g3:(cE (t.2.2.1.take (i+1))).length=(cE (t.2.2.1.take i)).length+t.2.2.1[i].2.2.length:=by rw[aR hi3,Up];simp[cE]
 simp only[kZ];rw[gN,af,aN Sx,e1,ab,Vg _ _ (by omega),ab,aQ (by simp only[bW,bm,aY];omega),aj (by omega) (by omega),aR hi3,Rm,eh];rfl;simp only[kZ];rw[fF,ae,xc (l:=t.2.2.1) n hl rfl,ab,PV _ (by rw[bl];omega) (λx E2=>hx x (List.mem_of_mem_drop E2)),ab]
theorem aaG (t:bX)(n:Int)(hw:t.2.2.1.length<=10^9)(hs:t.2.1.2.2.2.length+(cE t.2.2.1).length<=10^9):ou t n=some (nu t n):=by
 have hx:=ahQ (l:=t.2.2.1);unfold ou nu;rw[Hh t ⟨by omega,hw,hx⟩,ab,agy t hw hs];simp only[ab,cj];cases Tb t;rfl;cases hn:dp n 0 (t.2.2.1.length:Int);rfl;have h:=bq.1 hn;obtain⟨n,rfl⟩:=aD h.1;have hl:n<=t.2.2.1.length:=by omega
 simp only[ai,ae,ab,cA,af,aw];refine bB (λi=>(((t.2.2.1.take i).map (·.1),(i:Int),t.1,zw t.2.1 (t.2.2.1.take i),t.2.2):cI×Int×bX)) n (by omega) (λi nx hi=>?_) (λnx=>?_);have hi3:i<t.2.2.1.length:=by omega
 have g1:=M3 (t.2.2.1.take i) t.2.1;have g2:=Uq t.2.2.1 (i+1);have g3:(cE (t.2.2.1.take (i+1))).length=(cE (t.2.2.1.take i)).length+t.2.2.1[i].2.2.length:=by rw[aR hi3,Up];simp[cE]
 simp only[lh];rw[gN,af,aN hi3,ab,aQ (by simp only[bW,bm,aY];omega),ab,V6 _ _ (by omega),ab,aj (by omega) (by omega),aR hi3,Rm,eh];rfl;simp only[lh];rw[fF,ae,xc (l:=t.2.2.1) n hl rfl,ab]
theorem XD (n:Int):∀l:ar ia,l.all (jO n)=true->(l.length:Int)<=eI l
 |[],_=>by simp[eI]
 |x::l,h=>by simp only[bV,ah]at h;have:=XD n l h.2;grind[jO,bq,eI]
theorem KI {t:bX}(h:Tb t=true):t.2.2.1.length<=16:=by unfold Tb at h;simp only[ah,bI]at h;have h1:=XD _ _ h.2.2.2.1;have h2:=(tW h.1).2.2.1;omega
theorem Jx {t:bX}(n:Int)(z:bu k ux t)(hs:t.2.1.2.2.2.length+(cE t.2.2.1).length<=k): bu k ux (nu t n).1/\(nu t n).1.2.1.2.2.2.length+(cE (nu t n).1.2.2.1).length<=k/\(nu t n).2.length<=16:=by unfold nu;cases h:Tb t&&dp n 0 (t.2.2.1.length:Int)with|false=>exact⟨z,hs,eT _⟩|true=>simp only[ah]at h;have h16:=KI h.1;have g1:=M3 (t.2.2.1.take n.toNat) t.2.1;have g2:=Uq t.2.2.1 n.toNat;have hw:t.2.2.1.length<=k:=z.2.2.1.1;refine⟨⟨z.1,⟨bM,bM,bM,?_,λ_ _=>trivial⟩,⟨?_,λx hx=>z.2.2.1.2 x (List.mem_of_mem_drop hx)⟩,z.2.2.2⟩,?_,?_⟩;show(zw t.2.1 (t.2.2.1.take n.toNat)).2.2.2.length<=k;omega;show(t.2.2.1.drop n.toNat).length<=k;rw[bl];omega;show(zw t.2.1 (t.2.2.1.take n.toNat)).2.2.2.length+(cE (t.2.2.1.drop n.toNat)).length<=k;omega;show((t.2.2.1.take n.toNat).map (·.1)).length<=16;rw[bW,bm];omega
theorem I0 {n:Nat}{t:CT}{l q:ar t.D}(z:bu n (.sl t) l)(hq:∀y∈q,bu n t y)(hk:q.length<=k):bu (n+k) (.sl t) (l++q):=by refine⟨?_,λy hy=>?_⟩;show(l++q).length<=n+k;have:=z.1;rw[ay];omega;rcases aA.1 hy with h|h;exact(z.2 y h).mono;exact(hq y h).mono
def gU (h:Host):Host:=bif fw h then
    (h.1,h.2.1,(nu ((lG h.2.1 h.1 0 h.2.2.1.1).1,h.2.2.1.2) (if(h.2.2.1.2.2.1.length:Int)<ak ((lG h.2.1 h.1 0 h.2.2.1.1).2.2.1+(lG h.2.1 h.1 0 h.2.2.1.1).2.2.2) then(h.2.2.1.2.2.1.length:Int) else ak ((lG h.2.1 h.1 0 h.2.2.1.1).2.2.1+(lG h.2.1 h.1 0 h.2.2.1.1).2.2.2))).1,
      h.2.2.2.1,h.2.2.2.2.1,h.2.2.2.2.2.1,h.2.2.2.2.2.2.1,h.2.2.2.2.2.2.2.1,h.2.2.2.2.2.2.2.2.1,h.2.2.2.2.2.2.2.2.2.1,h.2.2.2.2.2.2.2.2.2.2.1,h.2.2.2.2.2.2.2.2.2.2.2.1++(lG h.2.1 h.1 0 h.2.2.1.1).2.1,
      h.2.2.2.2.2.2.2.2.2.2.2.2.1++(nu ((lG h.2.1 h.1 0 h.2.2.1.1).1,h.2.2.1.2) (if(h.2.2.1.2.2.1.length:Int)<ak ((lG h.2.1 h.1 0 h.2.2.1.1).2.2.1+(lG h.2.1 h.1 0 h.2.2.1.1).2.2.2) then(h.2.2.1.2.2.1.length:Int) else ak ((lG h.2.1 h.1 0 h.2.2.1.1).2.2.1+(lG h.2.1 h.1 0 h.2.2.1.1).2.2.2))).2,h.2.2.2.2.2.2.2.2.2.2.2.2.2) else h
theorem P8 (h:Host)(k:DX 900000000 h):nT h=some (gU h):=by have z:bu 1000000000 cR h:=k.z.mono;have hz:=k.sz;have hm:h.1.length<=900000000:=k.z.1.1;have hl:h.2.1.length<=900000000:=k.z.2.1.1;have hw:h.2.2.1.2.2.1.length<=900000000:=k.z.2.2.1.2.2.1.1;have hwi:h.2.2.2.2.2.2.2.2.2.2.2.1.length<=900000000:=k.z.2.2.2.2.2.2.2.2.2.2.2.1.1;have hco:h.2.2.2.2.2.2.2.2.2.2.2.2.1.length<=900000000:=k.z.2.2.2.2.2.2.2.2.2.2.2.2.1.1;have hA:=Gf h.2.1 h.1 0 17 [] 0 0 h.2.2.1.1 (λx hx=>by cases hx);unfold nT gU;rw[ki h z,ab,Ai h hz,ab];cases fw h;rfl;simp only[ai,ae,af,ajh h.2.1 h.1 0 _ (show h.2.1.length<=10^9 by omega) (show h.1.length<=10^9 by omega),ab];rw[show tn h.2.1 h.1 0 17 [] 0 0 h.2.2.1.1=lG h.2.1 h.1 0 h.2.2.1.1 from rfl]at hA;generalize lG h.2.1 h.1 0 h.2.2.1.1=x at hA⊢;simp only[ef]at hA;have hC:=Jx (k:=900000000) (t:=(x.1,h.2.2.1.2)) (if(h.2.2.1.2.2.1.length:Int)<ak (x.2.2.1+x.2.2.2) then(h.2.2.1.2.2.1.length:Int) else ak (x.2.2.1+x.2.2.2)) ⟨⟨bM,bM,bM,bM⟩,k.z.2.2.1.2⟩ k.t;rw[aQ (by omega),Z2 (x.1,h.2.2.1.2) _ (by grind) (aF k.t (by omega)),ab,aQ (by omega)]
theorem QL (h:Host)(k:DX 900000000 h):oz h=some (gU h):=by have z:bu 1000000000 cR h:=k.z.mono;have hz:=k.sz;have hm:h.1.length<=900000000:=k.z.1.1;have hl:h.2.1.length<=900000000:=k.z.2.1.1;have hw:h.2.2.1.2.2.1.length<=900000000:=k.z.2.2.1.2.2.1.1;have hwi:h.2.2.2.2.2.2.2.2.2.2.2.1.length<=900000000:=k.z.2.2.2.2.2.2.2.2.2.2.2.1.1;have hco:h.2.2.2.2.2.2.2.2.2.2.2.2.1.length<=900000000:=k.z.2.2.2.2.2.2.2.2.2.2.2.2.1.1;have hA:=Gf h.2.1 h.1 0 17 [] 0 0 h.2.2.1.1 (λx hx=>by cases hx);unfold oz gU;rw[kt h z,ab,vp h hz,ab];cases fw h;rfl;simp only[ai,ae,af,ako h.2.1 h.1 0 _ (show h.2.1.length<=10^9 by omega) (show h.1.length<=10^9 by omega),ab];rw[show tn h.2.1 h.1 0 17 [] 0 0 h.2.2.1.1=lG h.2.1 h.1 0 h.2.2.1.1 from rfl]at hA;generalize lG h.2.1 h.1 0 h.2.2.1.1=x at hA⊢;simp only[ef]at hA;have hC:=Jx (k:=900000000) (t:=(x.1,h.2.2.1.2)) (if(h.2.2.1.2.2.1.length:Int)<ak (x.2.2.1+x.2.2.2) then(h.2.2.1.2.2.1.length:Int) else ak (x.2.2.1+x.2.2.2)) ⟨⟨bM,bM,bM,bM⟩,k.z.2.2.1.2⟩ k.t;rw[aQ (by omega),aaG (x.1,h.2.2.1.2) _ (by grind) (aF k.t (by omega)),ab,aQ (by omega)]
theorem FZ {n:Nat}(hn:400<=n)(k:DX n h):DX (n+5440) (gU h):=by have k':DX (n+5440) h:=k.mono;have hA:=Gf h.2.1 h.1 0 17 [] 0 0 h.2.2.1.1 (λx hx=>by cases hx);unfold gU;cases fw h;exact k';rw[show tn h.2.1 h.1 0 17 [] 0 0 h.2.2.1.1=lG h.2.1 h.1 0 h.2.2.1.1 from rfl]at hA;generalize lG h.2.1 h.1 0 h.2.2.1.1=x at hA⊢;simp only[ef]at hA;generalize (if(h.2.2.1.2.2.1.length:Int)<ak (x.2.2.1+x.2.2.2) then(h.2.2.1.2.2.1.length:Int) else ak (x.2.2.1+x.2.2.2))=q;have hC:=Jx (k:=n) (t:=(x.1,h.2.2.1.2)) q ⟨⟨bM,bM,bM,bM⟩,k.z.2.2.1.2⟩ k.t;have z:=k'.z;refine⟨⟨z.1,z.2.1,hC.1.mono,z.2.2.2.1,z.2.2.2.2.1,z.2.2.2.2.2.1,z.2.2.2.2.2.2.1,z.2.2.2.2.2.2.2.1,z.2.2.2.2.2.2.2.2.1,z.2.2.2.2.2.2.2.2.2.1,bM,?_,?_,z.2.2.2.2.2.2.2.2.2.2.2.2.2⟩,aF hC.2.1 (by omega)⟩;exact I0 (t:=.str) (n:=n) (k:=5440) k.z.2.2.2.2.2.2.2.2.2.2.2.1 (λy hy=>by show y.length<=_;grind) (by omega);exact(I0 (t:=.int .i64) (n:=n) (k:=16) k.z.2.2.2.2.2.2.2.2.2.2.2.2.1 (λ_ _=>trivial) hC.2.2).mono
def E0 (l:ar aC)(d:Int)(p:cH)(z:Nat):cI->Bytes->bp->ar fG->au (ar fG×bp)
 |[],_,m,a=>some (a,m)
 |b::q,s,m,a=>bif (oN l m d (nk p b) (s.take z) false).2 then E0 l d p z q (s.drop z) (oN l m d (nk p b) (s.take z) false).1 (a++[(nk p b,((s.take z).length:Int))]) else none
theorem Pz (l:ar aC)(d:Int)(p:cH)(z:Nat):∀(q:cI)(s:Bytes)(m:bp)(a:ar fG){x},E0 l d p z q s m a=some x->
 x.2.length=m.length/\x.1.length=a.length+q.length/\∀y∈x.1,y∈a\/((∃b∈q,y.1=nk p b)/\0<=y.2/\y.2<=(z:Int))
 |[],s,m,a,x,h=>by cases h;exact⟨rfl,rfl,λy hy=>Or.inl hy⟩
 |b::q,s,m,a,x,h=>by rw[E0]at h;cases hq:(oN l m d (nk p b) (s.take z) false).2 with|false=>rw[hq]at h;cases h|true=>rw[hq]at h;obtain⟨h1,h2,h3⟩:=Pz l d p z q _ _ _ h;rw[mN]at h1;rw[ay,aY]at h2;refine⟨h1,by rw[bH];omega,λy hy=>?_⟩;rcases h3 y hy with g|⟨⟨b',ib,g⟩,g2⟩;rcases aA.1 g with g|g;exact Or.inl g;rw[dA.1 g];refine Or.inr ⟨⟨b,List.mem_cons_self ..,rfl⟩,?_,?_⟩;show(0:Int)<=((s.take z).length:Int);omega;show((s.take z).length:Int)<=(z:Int);rw[bm];omega;exact Or.inr ⟨⟨b',dJ _ ib,g⟩,g2⟩
theorem TF (p:cH)(i:Int): -1<=nk p i/\nk p i<=139136:=by unfold nk;cases hb: !fZ p|| !dp i 0 (p.2.2.1-1)with|true=>grind|false=>simp only[dw,dZ]at hb;have h:=HZ hb.1;have h2:=bq.1 hb.2;have h3:0<=i*p.2.1:=Int.mul_nonneg h2.1 (by omega);have h4:i*p.2.1<=16*512:=Int.mul_le_mul (by omega) (by omega) (by omega) (by omega);simp only[ae];omega
theorem akY {p:cH}(hp:fZ p=true){b:Int}(hb:b∈p.2.2.2):0<=nk p b:=by obtain⟨i,hi,rfl⟩:=List.getElem_of_mem hb;have hq:=hp;simp only[fZ,ah]at hq;have:=aO.1 hq.2.2.2 i (bU.2 hi);simp only[LP,ah,dv hi]at this;have hn:=this.1;have h:=HZ hp;have h2:=bq.1 hn;have h3:0<=p.2.2.2[i]*p.2.1:=Int.mul_nonneg h2.1 (by omega);grind[nk]
theorem ad5 (s:Bytes)(z:Nat):sub s 0 (if(s.length:Int)<(z:Int) then(s.length:Int) else(z:Int))=some (s.take z):=by grind[DT,bL]
theorem abv (s:Bytes)(z:Nat):sub s ((s.take z).length:Int) (s.length:Int)=some (s.drop z):=by grind[Jh,List.drop_eq_nil_of_le]
def akM:au (ar fG×bp)->au (Bool×bp×ar fG×Bool)->Prop
 |some x,r=>r=some (true,x.2,x.1,true)
 |none,r=>∃c m,r=some (c,m,[],false)
theorem NX (l:ar aC)(d:Int)(p:cH)(z:Nat)(B:bp)(hp:p.2.2.2.length<=10^9)(hl:l.length<=10^9):∀(rest pre:cI)(s:Bytes)(m:bp)(a:ar fG)(f:Nat),rest.length<f->(pre++rest).length<=1000000->a.length+rest.length<=1000000->m.length<=10^9->
 akM (E0 l d p z rest s m a) (aH (lK (λ_ zS _ Lt=>some (true,Lt,zS,true)) (λ_ y18 y19 _ _ _ y23=>some (true,y23,y18,y19)) l d (z:Int) ([]:ar fG) false (pre++rest) ((pre++rest).length:Int) p B) f (s,a,(pre.length:Int),m))
 |rest,pre,s,m,a,0,hf,_,_,_=>by omega
 |[],pre,s,m,a,f+1,_,_,_,_=>by rw[aH];simp only[lK];rw[aq (by simp),ae];rfl
 |b::q,pre,s,m,a,f+1,hf,hn,ha,hm=>by
  simp only[bH,ay]at hf hn ha;have hi:pre.length<(pre++b::q).length:=by simp
  have hb:(pre++b::q)[pre.length]=b:=by simp
  have hA:=TF p b;rw[aH];simp only[lK];rw[ax (by simp;omega),aN hi,hb];simp only[af,ab,ad5,abv,PU p b hp,Ii l m d (nk p b) (s.take z) hl hm];rw[E0];cases hq:(oN l m d (nk p b) (s.take z) false).2 with|false=>exact⟨_,_,rfl⟩|true=>simp only[ai,ae,af];rw[aj (n:=(pre.length:Int)+1) (by omega) (by omega),aQ (by grind)];have key:=NX l d p z B hp hl q (pre++[b]) (s.drop z) (oN l m d (nk p b) (s.take z) false).1 (a++[(nk p b,((s.take z).length:Int))]) f (by omega) (by simp;omega) (by simp;omega) (by rw[mN];exact hm);grind
theorem aiX (l:ar aC)(m:bp)(d:Int)(p:cH)(q:cI)(s:Bytes)(z:Nat)(hp:p.2.2.2.length<=10^9)(hl:l.length<=10^9)(hm:m.length<=10^9)(hq:q.length<=1000)(h0:0<q.length): akM (E0 l d p z q s m []) (qc l m d p q s (z:Int)):=by have Cg:=dc;cases q with|nil=>cases h0|cons b q=>simp only[bH]at hq;have hA:=TF p b;have hi:idx (b::q) 0=some b:=rfl;unfold qc;rw[ax (by simp),af,hi];simp only[ab,ad5,abv,PU p b hp,Ii l m d (nk p b) (s.take z) hl hm];rw[E0];cases hq':(oN l m d (nk p b) (s.take z) false).2 with|false=>exact⟨_,_,rfl⟩|true=>simp only[ai,ae,af];rw[aQ (by simp),show ak (0+1)=1 from rfl];exact NX l d p z _ hp hl q [b] (s.drop z) (oN l m d (nk p b) (s.take z) false).1 [(nk p b,((s.take z).length:Int))] fuel (by omega) (by simp;omega) (by simp;omega) (by rw[mN];exact hm)
theorem Od (K:ar fG->Int->bp->au (bp×bX×Bool))(l:ar aC)(d c N:Int)(z:Nat)(t:Bytes)(M:bp)(A B2:bX)(B1:bp)(B3:cH)(hp:A.2.1.2.2.2.length<=10^9)(hl:l.length<=10^9)(hM:M.length<=10^9)(hA:aet A)(ht:t.length<=1000)(hz:z<=1000):∀(rest pre:cI)(m:bp)(a:ar fG)(f:Nat),rest.length<f->(pre++rest).length<=1000->a.length+rest.length<=1000000->m.length<=10^9->(∀i<(pre++rest).length,i*z<=t.length)->N=((pre++rest).length:Int)->
 aH (lP K (λy34 _ _ y37 y38 _=>some (y37,y38,y34)) l d c (z:Int) false t N (pre++rest) M A B1 B2 B3) f (a,(pre.length:Int),m)=
  (match E0 l d A.2.1 z rest (t.drop (pre.length*z)) m a with|some x=>K x.1 N x.2|none=>some (M,A,false))
 |rest,pre,m,a,0,hf,_,_,_,_,_=>by omega
 |[],pre,m,a,f+1,_,_,_,_,_,hN=>by rw[aH];simp only[lP];rw[aq (by rw[hN];simp),ae,hN,bC];rfl
 |b::q,pre,m,a,f+1,hf,hn,ha,hm,hiz,hN=>by
  simp only[bH]at hf ha;have hi:pre.length<(pre++b::q).length:=by simp
  have hb:(pre++b::q)[pre.length]=b:=by simp
  have hB:=TF A.2.1 b;have h1:=hiz pre.length hi;have h2:(pre.length+1)*z=pre.length*z+z:=Nat.succ_mul ..;have hs:sub t (ak ((pre.length:Int)*(z:Int))) (if ak (ak ((pre.length:Int)+1)*(z:Int))<(t.length:Int) then ak (ak ((pre.length:Int)+1)*(z:Int)) else(t.length:Int))=some ((t.drop (pre.length*z)).take z):=by rw[aj (n:=(pre.length:Int)+1) (by omega) (by omega),show(pre.length:Int)*(z:Int)=((pre.length*z:Nat):Int) by simp,show((pre.length:Int)+1)*(z:Int)=((pre.length*z+z:Nat):Int) by rw[<-h2];simp];generalize pre.length*z=g at h1⊢;rw[aj (n:=(g:Int)) (by omega) (by omega),aj (n:=((g+z:Nat):Int)) (by omega) (by omega)];by_cases iG:((g+z:Nat):Int)<(t.length:Int);rw[aM iG];unfold sub;rw[zip];simp only[aw,bf];rw[List.drop_take,Nat.add_sub_cancel_left];rw[aK iG];unfold sub;rw[zip];simp only[aw,bf];rw[bL (ba _),bL (by rw[bl];omega)]
  rw[aH];simp only[lP];rw[gN,af,hs,aN hi,hb];simp only[ab,V3 A.2.1 b hp,Og l m d (nk A.2.1 b) _ hl hm (show nk A.2.1 b<=9223372036854775807 by omega)];rw[E0];cases hq:(oN l m d (nk A.2.1 b) ((t.drop (pre.length*z)).take z) false).2 with
  |false=>simp only[bz,af,ae,iR M,Hh A hA,ab]
  |true=>
   simp only[ai,ae,af];rw[aj (n:=(pre.length:Int)+1) (by omega) (by omega),aQ (by simp only[aY];omega)];have key:=Od K l d c N z t M A B2 B1 B3 hp hl hM hA ht hz q (pre++[b]) (oN l m d (nk A.2.1 b) ((t.drop (pre.length*z)).take z) false).1 (a++[(nk A.2.1 b,(((t.drop (pre.length*z)).take z).length:Int))]) f (by omega) (by simpa using hn) (by simp;omega) (by rw[mN];exact hm) (by simpa using hiz) (by simpa using hN);have el:((pre++[b]).length:Int)=(pre.length:Int)+1:=by simp
   have el2:(pre++[b]).length=pre.length+1:=by simp
   rw[aW,List.singleton_append,el,el2,h2,<-eL]at key;exact key
theorem ak4 {ps:ar fG}{z:Int}(h0:0<ps.length)(h16:ps.length<=16)(hp:∀x∈ps,0<=x.1/\x.1<=200000/\0<=x.2/\x.2<=4096)(hz:dp z 1 128=true)(hc:dp c 0 65535=true):(qX ps z c).length=ps.length+1:=by
 have hz2:=bq.1 hz;have hc2:=bq.1 hc;have e1:mY ps=true:=by unfold mY;rw[ah,aU,bI];refine⟨List.any_eq_false.2 λx hx=>?_,by omega⟩;have:=hp x hx;unfold Ei;rw[fF,cB,aU,Bool.eq_false_iff];intro h;exact h (bq.2 (by omega))
 have e2:([((2:Int),(0:Int),(0:Int),(0:Int),z,c)]++xt ps c ps.length).all uB=true:=by rw[List.all_append,ah];constructor;simp only[bV,List.all_nil,gu,uB,ah,bq];omega;rw[MS];refine aO.2 λj hj=>?_;have hj:=bU.1 hj;have:=hp _ (aE hj);simp only[dsc,dv hj,uB,ah,bq];refine⟨by omega,?_,by omega,by omega,by omega,by omega⟩;by_cases hq:j+1=ps.length;rw[aM hq];omega;rw[aK hq];omega
 unfold qX;rw[e1,hz,e2,show((ps.length:Int)==0)=false from by rw[cy];omega];simp only[ai,bR,ae,af,ay,aY,F3];omega
theorem aco (K:bp->Int->au R)(l:ar aC)(d:Int)(q:cI)(ds ds2:ar je)(t1 t2 t3 t4:bX)(m1 m2 m3:bp)(h:ds.length<=1000): aH (gA K l d q ds2 ds (ds.length:Int) t1 m1 t2 m2 t3 t4 m3) fuel (([]:bp),0)=K (ds.map E9) (ds.length:Int):=by
 have Cg:=dc;refine bB (λi=>((ds.take i).map E9,(i:Int))) ds.length (by omega) (λi nx hi=>?_) (λnx=>?_);have e:((ds.take i).map E9).length<=1000:=by simp;omega
 rw[aR hi,eh];simp only[gA];rw[gN,af,aN hi,ab,Z5,ab,aQ (by simp only[aY];omega),aj (by omega) (by omega)];rfl;simp only[gA];rw[fF,ae,bN]
theorem adE (K:bp->Int->au R)(l:ar aC)(d n:Int)(q:cI)(ds:ar je)(t1 t2:bX)(p:cH)(m1 m2 m3:bp)(h:ds.length<=1000): aH (lQ K l d n q ds m1 t1 m2 t2 p m3) fuel (([]:bp),0)=K (ds.map E9) (ds.length:Int):=by
 have Cg:=dc;refine bB (λi=>((ds.take i).map E9,(i:Int))) ds.length (by omega) (λi nx hi=>?_) (λnx=>?_);have e:((ds.take i).map E9).length<=1000:=by simp;omega
 rw[aR hi,eh];simp only[lQ];rw[gN,af,aN hi,ab,aaJ,ab,aQ (by simp only[aY];omega),aj (by omega) (by omega)];rfl;simp only[lQ];rw[fF,ae,bN]
def uz (p:aP)(z:Nat):Nat:=((jK p).1.length+z-1)/z
def ahP (l:ar aC)(m:bp)(d:Int)(t:bX)(c:Int)(n:Nat)(x:ar fG×bp):bp×bX×Bool:=
 bif (BD l x.2 d t.1 ((qX x.1 c t.2.2.2).map E9)).2.2 then
  ((BD l x.2 d t.1 ((qX x.1 c t.2.2.2).map E9)).1,((BD l x.2 d t.1 ((qX x.1 c t.2.2.2).map E9)).2.1,(ml t.2.1 (n:Int)).1,t.2.2.1++[(t.2.2.2,(n:Int)+1,(ml t.2.1 (n:Int)).2.1)],tmod (t.2.2.2+1) 65536),true)
 else(m,t,false)
def abL (t:bX)(n:Nat):Bool:=(ml t.2.1 (n:Int)).2.2&&(!decide ((n:Int)>16)&&(!decide ((n:Int)+1>Ad t.1)&& !decide (eI t.2.2.1+(n:Int)+1>t.1.2.1)))
def Iu (l:ar aC)(m:bp)(d:Int)(t:bX)(p:aP)(c z:Int):bp×bX×Bool:=
 bif Tb t&&(dK p&&(dp z 1 t.2.1.2.1&&dp c 1 128)) then
  bif abL t (uz p z.toNat) then
   match E0 l d t.2.1 z.toNat (ml t.2.1 (uz p z.toNat:Int)).2.1 (jK p).1 m []with
   |some x=>ahP l m d t c (uz p z.toNat) x
   |none=>(m,t,false)
  else(m,t,false)
 else(m,t,false)
theorem Wp (h:dK p=true):0<(jK p).1.length/\(jK p).1.length<=378:=by grind[Ct,SB,jK,H4]
theorem akZ (len z:Nat)(h:len<=1000:=by omega)(hz:z<=1000:=by omega)(h0:0<z:=by omega):ak (tdiv (ak (ak ((len:Int)+(z:Int))-1)) (z:Int))=(((len+z-1)/z:Nat):Int):=by have hd:(len+z-1)/z<=len+z-1:=Nat.div_le_self ..;grind[aj]
theorem Wk {p:cH}{n:Nat}(h:(ml p (n:Int)).2.2=true):fZ p=true/\n<=p.2.2.2.length/\(ml p (n:Int)).2.1=p.2.2.2.take n:=by grind[ml,bq]
theorem XS {t:bX}{z n:Nat}{x:ar fG×bp}(ht:Tb t=true)(hz:z<=512)(hc:dp c 1 128=true)(h0:0<n)(h16:n<=16)(hk:(ml t.2.1 (n:Int)).2.2=true)(hx:E0 l d t.2.1 z (ml t.2.1 (n:Int)).2.1 s m []=some x):x.2.length=m.length/\(qX x.1 c t.2.2.2).length=n+1:=by
 obtain⟨hp,hn,hb⟩:=Wk hk;rw[hb]at hx;obtain⟨h1,h2,h3⟩:=Pz l d t.2.1 z _ _ _ _ hx;simp only[ef,bm,cr]at h2;have e:x.1.length=n:=by omega
 refine⟨h1,?_⟩;rw[ak4 (by omega) (by omega) (λy hy=>?_) hc (by simp only[Tb,ah]at ht;exact ht.2.2.1),e];rcases h3 y hy with g|⟨⟨b,ib,g⟩,g2⟩;cases g;have q1:=akY hp (List.mem_of_mem_take ib);have q2:=TF t.2.1 b;rw[g];omega
theorem akd (l:ar aC)(m:bp)(d:Int)(t:bX)(p:aP)(c z:Int)(hl:l.length<=10^9)(hm:m.length<=10^9)(ht:aet t)(h1:t.2.2.1.length<=10^9)(h2:t.2.1.2.2.2.length+(cE t.2.2.1).length<=10^9):yH l m d t p c z=some (Iu l m d t p c z):=by
 have Cg:=dc;unfold yH Iu;rw[YX,ab,agy t h1 h2,ab,cj,cj];have e0:(jK p).2=dK p:=by grind[jK]
 rw[e0];simp only[iR m,Hh t ht,ab];cases hb:Tb t;rfl;cases hp:dK p;rfl;cases hz:dp z 1 t.2.1.2.1;rfl;cases hc:dp c 1 128;rfl;have hT:=Wp hp;have hz2:=bq.1 hz;have hq:=hb;simp only[Tb,ah]at hq;have Hr:=HZ hq.2.1;have h16:=KI hb;have hrg:=tW hq.1;have hnx:=bq.1 hq.2.2.1;obtain⟨z,rfl⟩:=aD (by omega:0<=z);have hzn:(z:Int)≠0:=by omega
 have hS:∀x∈t.2.2.1,0<=x.2.1/\x.2.1<=16:=λx hx=>by grind[jO,bq]
 have hcb:=DY _ hS;have hN:uz p z<=1000:=by have:uz p z<=(jK p).1.length+z-1:=Nat.div_le_self ..;omega
 have hN0:0<uz p z:=Nat.div_pos (by omega) (by omega);have hce:=akZ (jK p).1.length z;rw[show((jK p).1.length+z-1)/z=uz p z from rfl]at hce;have hfi: -1<=Ad t.1:=by have:=abR t.1;omega
 simp only[ai,ae,ab,cA,af,aw,aK hzn,hce,akl _ _ (show t.2.1.2.2.2.length<=10^9 by omega),Nm,akf t (by omega) hS,abL];rw[aj (n:=(uz p z:Int)+1) (by omega) (by omega),aj (n:=eI t.2.2.1+(uz p z:Int)) (by omega) (by omega),aj (n:=eI t.2.2.1+(uz p z:Int)+1) (by omega) (by omega)];cases hk:(ml t.2.1 (uz p z:Int)).2.2;rfl;by_cases g1:(uz p z:Int)>16;rw[ax g1];rfl;rw[aq g1];simp only[ai,bz,ae,bj];cases decide ((uz p z:Int)+1>Ad t.1);case true=>rfl
 simp only[ai,bz,ae,bj,ab];cases decide (eI t.2.2.1+(uz p z:Int)+1>t.1.2.1);case true=>rfl
 simp only[ai,bz,ae,af,ab];obtain⟨_,hkn,X0⟩:=Wk hk;have hkl:(ml t.2.1 (uz p z:Int)).2.1.length=uz p z:=by rw[X0,bm];omega
 have hiz:∀i<uz p z,i*z<=(jK p).1.length:=λi hi=>by have:=(Nat.le_div_iff_mul_le (by omega:0<z)).1 (show i+1<=((jK p).1.length+z-1)/z from hi);grind
 refine(Od _ l d c _ z (jK p).1 m t _ _ _ (by omega) hl hm ht (by omega) (by omega) (ml t.2.1 (uz p z:Int)).2.1 [] m [] fuel (by omega) (by rw[bE];omega) (by rw[ef];omega) hm (λi hi=>hiz i (by grind)) (by rw[bE,hkl])).trans ?_;simp only[ef,Nat.zero_mul,fI];cases hx:E0 l d t.2.1 z (ml t.2.1 (uz p z:Int)).2.1 (jK p).1 m []with|none=>rfl|some x=>obtain⟨x1,x2⟩:=XS hb (by omega) hc hN0 (by omega) hk hx;obtain⟨_,x3,_⟩:=Pz l d t.2.1 z _ _ _ _ hx;simp only[ef]at x3;simp only[QB x.1 c t.2.2.2 (by omega),ab,ahP];rw[adE _ _ _ _ _ _ _ _ _ _ _ _ (by omega)];simp only[agu l x.2 d t.1 _ hl (by omega) (show((qX x.1 c t.2.2.2).map E9).length<=10^9 by rw[bW];omega),ab,iR m (show m.length<=1073741824 by omega),Hh t ht];cases (BD l x.2 d t.1 ((qX x.1 c t.2.2.2).map E9)).2.2 with|false=>rfl|true=>rw[show(((qX x.1 c t.2.2.2).length:Int)==0)=false from by rw[cy];omega];grind[ab,aQ,aj]
theorem ai6 (l:ar aC)(m:bp)(d:Int)(t:bX)(p:aP)(c z:Int)(hl:l.length<=10^9)(hm:m.length<=10^9)(ht:aet t)(h1:t.2.2.1.length<=10^9)(h2:t.2.1.2.2.2.length+(cE t.2.2.1).length<=10^9):yq l m d t p c z=some (Iu l m d t p c z):=by
 have Cg:=dc;unfold yq Iu;rw[gv m,ab,OP t ht,ab,afx t h1 h2,ab,ny,cq,cq];simp only[ab];cases hb:Tb t;rfl;cases hp:dK p;rfl;cases hz:dp z 1 t.2.1.2.1;rfl;cases hc:dp c 1 128;rfl;have hT:=Wp hp;have hz2:=bq.1 hz;have hq:=hb;simp only[Tb,ah]at hq;have Hr:=HZ hq.2.1;have h16:=KI hb;have hrg:=tW hq.1;have hnx:=bq.1 hq.2.2.1;obtain⟨z,rfl⟩:=aD (by omega:0<=z);have hzn:¬(z:Int)=0:=by omega
 have hS:∀x∈t.2.2.1,0<=x.2.1/\x.2.1<=16:=λx hx=>by grind[jO,bq]
 have hcb:=DY _ hS;have hN:uz p z<=1000:=by have:uz p z<=(jK p).1.length+z-1:=Nat.div_le_self ..;omega
 have hN0:0<uz p z:=Nat.div_pos (by omega) (by omega);have hce:=akZ (jK p).1.length z;rw[show((jK p).1.length+z-1)/z=uz p z from rfl]at hce;simp only[ai,ae,ab,cA,af,aw,Yj,aK hzn,hce,aje _ _ (show t.2.1.2.2.2.length<=10^9 by omega),Yb,ai8 t (by omega) hS,abL];rw[aj (n:=(uz p z:Int)+1) (by omega) (by omega),aj (n:=eI t.2.2.1+(uz p z:Int)) (by omega) (by omega),aj (n:=eI t.2.2.1+(uz p z:Int)+1) (by omega) (by omega)];by_cases g1:(uz p z:Int)>16;simp_all;rw[aq g1];simp only[bz,ae,bj];cases decide ((uz p z:Int)+1>Ad t.1)with|true=>simp_all|false=> ?_
 simp only[bz,ae,bj,ab];cases decide (eI t.2.2.1+(uz p z:Int)+1>t.1.2.1)with|true=>grind|false=> ?_
 simp only[bz,ae,gu,ab];cases hk:(ml t.2.1 (uz p z:Int)).2.2;rfl;simp only[ai,ae,af,gv m (show m.length<=1073741824 by omega),ab];obtain⟨_,hkn,X0⟩:=Wk hk;have hkl:(ml t.2.1 (uz p z:Int)).2.1.length=uz p z:=by rw[X0,bm];omega
 have key:=aiX l m d t.2.1 (ml t.2.1 (uz p z:Int)).2.1 (jK p).1 z (by omega) hl hm (by omega) (by omega);cases hx:E0 l d t.2.1 z (ml t.2.1 (uz p z:Int)).2.1 (jK p).1 m []with
 |none=>rw[hx]at key;obtain⟨a,b,e⟩:=key;obtain⟨f,g,_⟩:=JL [] c t.2.2.2 (by simp);simp_all
 |some x=>
  rw[hx]at key;have key:qc _ _ _ _ _ _ _=_:=key;obtain⟨x1,x2⟩:=XS hb (by omega) hc hN0 (by omega) hk hx;obtain⟨_,x3,_⟩:=Pz l d t.2.1 z _ _ _ _ hx;simp only[ef]at x3;obtain⟨f,g,hf⟩:=JL x.1 c t.2.2.2;have hft:f=true:=by grind
  subst hft;simp only[key,g,ab,af,ai,ae,aK (show¬(qX x.1 c t.2.2.2).length=0 by omega),ahP];grind[aco,afs,ab,aQ,aj]
def aaR (g:Nat->Host->Host):Nat->Host->Host
 |0,h=>h
 |k+1,h=>g k (aaR g k h)
structure KP (a b:Host):Prop where
 maps:b.2.1=a.2.1
 tx:b.2.2.1=a.2.2.1
 rx:b.2.2.2.1.length=a.2.2.2.1.length
 pl:b.2.2.2.2.1.length=a.2.2.2.2.1.length
 vec:b.2.2.2.2.2.1=a.2.2.2.2.2.1
 pol:b.2.2.2.2.2.2.1=a.2.2.2.2.2.2.1
 ret:b.2.2.2.2.2.2.2.2.2.2.2.2.2.1=a.2.2.2.2.2.2.2.2.2.2.2.2.2.1
theorem KP.refl (a:Host):KP a a:=⟨rfl,rfl,rfl,rfl,rfl,rfl,rfl⟩
theorem KP.trans {a b c:Host}(h:KP a b)(k:KP b c):KP a c:=⟨k.1.trans h.1,k.2.trans h.2,k.3.trans h.3,k.4.trans h.4,k.5.trans h.5,k.6.trans h.6,k.7.trans h.7⟩
theorem ac5 (h:Host)(i:Nat)(c:Int):KP h (Kh h i c).2:=by unfold Kh;rcases h1:h.2.2.2.1[i]? with _|rx;exact KP.refl h;rcases h2:h.2.2.2.2.1[i]? with _|pl;exact KP.refl h;exact⟨rfl,rfl,aL ..,aL ..,rfl,rfl,rfl⟩
def wA (h:Host)(k:Nat):Host:=aaR (λi s=>(Kh s i 1000).2) k h
theorem Hc {n:Nat}(hn:128<=n)(z:bu n cR h):∀k,KP h (wA h k)/\bu (n+322000*k) cR (wA h k)
 |0=>⟨KP.refl h,z⟩
 |k+1=>by have i:=Hc hn z k;exact⟨i.1.trans (ac5 ..),(af4 (by omega) k 1000 i.2).mono⟩
def arH (h:Host)(l:cI):Host:=(h.1,h.2.1,h.2.2.1,h.2.2.2.1,h.2.2.2.2.1,h.2.2.2.2.2.1,h.2.2.2.2.2.2.1,h.2.2.2.2.2.2.2.1,h.2.2.2.2.2.2.2.2.1,h.2.2.2.2.2.2.2.2.2.1,h.2.2.2.2.2.2.2.2.2.2.1,h.2.2.2.2.2.2.2.2.2.2.2.1,h.2.2.2.2.2.2.2.2.2.2.2.2.1,h.2.2.2.2.2.2.2.2.2.2.2.2.2.1++l,h.2.2.2.2.2.2.2.2.2.2.2.2.2.2)
def aa1 (h:Host):Host:=(h.1,h.2.1,(Tc.1,Tc.2.1,Tc.2.2.1,h.2.2.1.2.2.2),h.2.2.2)
def Lf (h:Host)(i:Nat)(dr:Int):Host:=
 ((Lg h.2.1 h.1 i).1,h.2.1,h.2.2.1,h.2.2.2.1.set i ((Lg h.2.1 h.1 i).2.1,(VU i).2.1,(VU i).2.2.1,(VU i).2.2.2.1,(VU i).2.2.2.2.1,dr),h.2.2.2.2.1.set i (Lg h.2.1 h.1 i).2.2.1,h.2.2.2.2.2)
theorem aoK {i:Nat}{x:bk}(hx:h.2.2.2.1[i]?=some x):Yw h i=Lf h i x.2.2.2.2.2:=by unfold Yw Lf;rw[hx];rfl
theorem ajI (h:Host){i:Nat}(x:bk)(hi:i<h.2.2.2.1.length):Yw (h.1,h.2.1,h.2.2.1,h.2.2.2.1.set i x,h.2.2.2.2) i=Lf h i x.2.2.2.2.2:=by unfold Yw Lf;simp only[List.getElem?_set_self hi,dE];rfl
def XH (x:bk):Int:=bif x.2.2.2.2.1 then ak (x.2.2.2.2.2+x.2.2.2.1.2.2) else x.2.2.2.2.2
def He (i:Nat)(h:Host):Host:=
 match h.2.2.2.1[i]?,h.2.2.2.2.2.1[i]? with
 |some x,some v=>((Lf h i (XH x)).1,h.2.1,h.2.2.1,(Lf h i (XH x)).2.2.2.1,(Lf h i (XH x)).2.2.2.2.1,h.2.2.2.2.2.1.set i (v.1,v.2.1,0,0,false,false),h.2.2.2.2.2.2.1.set i false,h.2.2.2.2.2.2.2)
 |_,_=>h
structure api (k:Nat) (a b:Host):Prop where
 mem:b.1.length=a.1.length
 maps:b.2.1=a.2.1
 rx:b.2.2.2.1.length=a.2.2.2.1.length
 pl:b.2.2.2.2.1.length=a.2.2.2.2.1.length
 vec:b.2.2.2.2.2.1.length=a.2.2.2.2.2.1.length
 ael:∀j,k<=j->b.2.2.2.2.2.1[j]?=a.2.2.2.2.2.1[j]?
 pol:b.2.2.2.2.2.2.1.length=a.2.2.2.2.2.2.1.length
theorem ajH (l:ar aC)(m:bp)(i:Nat):(Lg l m i).1.length=m.length:=by grind[Lg,ahj,mN]
theorem adj (i:Nat)(h:Host):api (i+1) h (He i h):=by unfold He;rcases h1:h.2.2.2.1[i]? with _|x;exact⟨rfl,rfl,rfl,rfl,rfl,λ_ _=>rfl,rfl⟩;rcases h2:h.2.2.2.2.2.1[i]? with _|v;exact⟨rfl,rfl,rfl,rfl,rfl,λ_ _=>rfl,rfl⟩;have e1:=ajH h.2.1 h.1 i;exact⟨e1,rfl,aL ..,aL ..,aL ..,λj hj=>aZ (by omega),aL ..⟩
def fB (h:Host)(k:Nat):Host:=aaR He k h
theorem xW (h:Host):∀k,api k h (fB h k)
 |0=>⟨rfl,rfl,rfl,rfl,rfl,λ_ _=>rfl,rfl⟩
 |k+1=>by have a:=xW h k;have b:=adj k (fB h k);exact⟨b.mem.trans a.mem,b.maps.trans a.maps,b.rx.trans a.rx,b.pl.trans a.pl,b.vec.trans a.vec,λj hj=>(b.ael j hj).trans (a.ael j (by omega)),b.pol.trans a.pol⟩
theorem ajG {n:Nat}(hn:1000<=n)(i:Nat)(d:Int)(z:bu n cR h):bu n cR (Lf h i d):=by unfold Lf Lg;have h4:=BA (kW i+128) 384 4;have hf:=UI h.2.1 (oN h.2.1 h.1 0 (kW i) (Jm 128) false).1 0 (kW i,4,0,0) (mM (kW i+128) 384 4).1;refine⟨XP (by omega) (Mp (by omega) z.1 ..) ..,z.2.1,z.2.2.1,qt z.2.2.2.1 ?_,qt z.2.2.2.2.1 ?_,z.2.2.2.2.2⟩;refine⟨⟨bM,bM,bM,bM⟩,⟨bM,bM,bM⟩,⟨bM,bM,bM⟩,⟨⟨bM,bM,bM,bM,bM,bM,bM,bM,bM,bM,bM,bM,bM,bM,bM,?_⟩,bM,bM⟩,bM,bM⟩;exact eT _;exact⟨bM,bM,bM,by omega,λ_ _=>trivial⟩
theorem aga {n:Nat}(hn:1000<=n)(i:Nat)(z:bu n cR h):bu n cR (He i h):=by unfold He;rcases h1:h.2.2.2.1[i]? with _|x;exact z;rcases h2:h.2.2.2.2.2.1[i]? with _|v;exact z;have zo:=ajG hn i (XH x) z;exact⟨zo.1,z.2.1,z.2.2.1,zo.2.2.2.1,zo.2.2.2.2.1,qt z.2.2.2.2.2.1 ⟨bM,bM,bM,bM,bM,bM⟩,qt z.2.2.2.2.2.2.1 trivial,z.2.2.2.2.2.2.2⟩
theorem FC {n:Nat}(hn:1000<=n)(z:bu n cR h):∀k,bu n cR (fB h k)
 |0=>z
 |k+1=>aga hn k (FC hn z k)
def agc (W:ar ia)(i:Nat)(s:Host):Host:=match W[i]? with|some x=>arH s [x.1]|none=>s
def polled (h:Host):Host:=wA h h.2.2.2.1.length
def returned (h:Host)(k:Nat):Host:=aaR (agc h.2.2.1.2.2.1) k (polled h)
structure aqL (a b:Host):Prop where
 e:b=(a.1,a.2.1,a.2.2.1,a.2.2.2.1,a.2.2.2.2.1,a.2.2.2.2.2.1,a.2.2.2.2.2.2.1,a.2.2.2.2.2.2.2.1,a.2.2.2.2.2.2.2.2.1,a.2.2.2.2.2.2.2.2.2.1,a.2.2.2.2.2.2.2.2.2.2.1,a.2.2.2.2.2.2.2.2.2.2.2.1,a.2.2.2.2.2.2.2.2.2.2.2.2.1,b.2.2.2.2.2.2.2.2.2.2.2.2.2.1,a.2.2.2.2.2.2.2.2.2.2.2.2.2.2)
theorem zM {n:Nat}(z:bu n cR (polled h)):∀k,aqL (polled h) (returned h k)/\(returned h k).2.2.2.2.2.2.2.2.2.2.2.2.2.1.length<=n+k
 |0=>⟨⟨rfl⟩,by have:=z.2.2.2.2.2.2.2.2.2.2.2.2.2.1.1;exact aF this (by omega)⟩
 |k+1=>by have i:=zM z k;have e:returned h (k+1)=agc h.2.2.1.2.2.1 k (returned h k):=rfl;rw[e];unfold agc;cases h.2.2.1.2.2.1[k]? with|none=>exact⟨i.1,aF i.2 (by omega)⟩|some x=>refine⟨⟨?_⟩,?_⟩;have e:=i.1.e;rw[e];rfl;show(_++[_]).length<=_;rw[ay,aY];omega
theorem aay {n:Nat}(z:bu n cR (polled h))(k:Nat):bu (n+k) cR (returned h k):=by have i:=zM z k;have z':bu (n+k) cR (polled h):=z.mono;rw[i.1.e];exact⟨z'.1,z'.2.1,z'.2.2.1,z'.2.2.2.1,z'.2.2.2.2.1,z'.2.2.2.2.2.1,z'.2.2.2.2.2.2.1,z'.2.2.2.2.2.2.2.1,z'.2.2.2.2.2.2.2.2.1,z'.2.2.2.2.2.2.2.2.2.1,z'.2.2.2.2.2.2.2.2.2.2.1,z'.2.2.2.2.2.2.2.2.2.2.2.1,z'.2.2.2.2.2.2.2.2.2.2.2.2.1,⟨i.2,λ_ _=>trivial⟩,z'.2.2.2.2.2.2.2.2.2.2.2.2.2.2⟩
theorem aei {n:Nat}(hn:1000<=n)(z:bu n cR h):bu n cR (aa1 h):=by have h4:=BA 256 128 8;exact⟨z.1,z.2.1,⟨⟨bM,bM,bM,bM⟩,⟨bM,bM,bM,by show List.length (mM 256 128 8).1.2.2.2<=n;omega,λ_ _=>trivial⟩,⟨eT _,λx hx=>by cases hx⟩,bM⟩,z.2.2.2⟩
def vH (h:Host):Host:=aa1 (returned h h.2.2.1.2.2.1.length)
def BH (h:Host):Host:=bif fw h then fB (vH h) h.2.2.2.1.length else h
theorem OM (hb:fw h=true):zH h=true:=by grind[fw]
theorem LG {n:Nat}(hn:1000<=n)(z:bu n cR h)(hl:h.2.2.2.1.length<=2):bu (n+644000+h.2.2.1.2.2.1.length) cR (vH h):=by have hp:=Hc (by omega) z h.2.2.2.1.length;exact aei (by omega) (aay (hp.2.mono) _)
theorem arF (l:ar aC)(X:bp)(q:bk)(P:cH)(o:bp×kf×cH×Int)(k:bk×cH->bp×kf×cH×Int->au R)(h:kl l X 0 q.1 P=some o):(aa (kl l X 0 (q,P).1.1 (q,P).2) λNh=>k (q,P) Nh)=k (q,P) o:=by simp_all
theorem Yc (l:ar aC)(m:bp)(i:Nat)(hi:i<=8)(hl:l.length<=10^9)(hm:m.length<=10^9)(k:bk×cH->bp×kf×cH×Int->au R): (aa (uP (i:Int)) λBF=>aa (qZ 0 128) λOa=>aa (kJ l m 0 BF Oa) λzT=>aa (CB (i:Int)) λBG=>aa (kl l zT.1 0 BG.1.1 BG.2) λNh=>k BG Nh)=k (VU i,(mM (kW i+128) 384 4).1) (Lg l m i):=by
 have hb:kW i=1280+(i)*1792:=rfl;have Lo:kW i<=9223372036854775807:=by omega
 have hz:qZ 0 128=some (Jm 128):=ahu 128;have hf:=acp l (oN l m 0 (kW i) (Jm 128) false).1 0 (kW i,4,0,0) (mM (kW i+128) 384 4).1 hl (by rw[mN];exact hm) (aF (BA (kW i+128) 384 4) (by omega));rw[ach i hi,ab,hz,ab,Ii l m 0 (kW i) (Jm 128) hl hm Lo,ab,ai4 i hi,ab];exact arF l _ (VU i) _ (Lg l m i) k hf
theorem W0 (K:Int->Host->au Host)(s0 B:Host)(N:Nat)(hN:N<=2)(h1:s0.2.2.2.1.length=N)(h2:s0.2.2.2.2.1.length=N)(h3:s0.2.2.2.2.2.1.length=N)(h4:s0.2.2.2.2.2.2.1.length=N)(z:bu 900000000 cR s0): aH (mE K (N:Int) B) fuel (0,s0)=K (N:Int) (fB s0 N):=by
 refine bB (λi=>((i:Int),fB s0 i)) N (by omega) (λi nx hi=>?_) (λnx=>?_);have kr:=xW s0 i;have zr:=FC (by omega) z i;have z1:(fB s0 i).1.length<=10^9:=aF zr.1.1 (by omega);have z2:(fB s0 i).2.1.length<=10^9:=aF zr.2.1.1 (by omega);have i1:i<(fB s0 i).2.2.2.1.length:=by rw[kr.rx,h1];exact hi
 have i2:i<(fB s0 i).2.2.2.2.1.length:=by rw[kr.pl,h2];exact hi
 have i3:i<(fB s0 i).2.2.2.2.2.1.length:=by rw[kr.vec,h3];exact hi
 have i4:i<(fB s0 i).2.2.2.2.2.2.1.length:=by rw[kr.pol,h4];exact hi
 rw[show fB s0 (i+1)=He i (fB s0 i) from rfl];generalize fB s0 i=s at z1 z2 i1 i2 i3 i4⊢;unfold He XH Lf;simp only[al i1,al i3];simp only[mE];rw[gN,af];simp only[aN i1,ab];rw[Yc s.2.1 s.1 i (by omega) z2 z1,Yc s.2.1 s.1 i (by omega) z2 z1];simp only[aN i2,aN i3,aN i4,ab];rw[aj (by omega) (by omega),aw];cases s.2.2.2.1[i].2.2.2.2.1<;>rfl;simp only[mE];rw[fF,ae]
theorem Ps {n:Nat}(hq:KP h (polled h))(hz:bu n cR (polled h)):(vH h).2.2.2.1.length=h.2.2.2.1.length/\(vH h).2.2.2.2.1.length=h.2.2.2.2.1.length/\(vH h).2.2.2.2.2.1=h.2.2.2.2.2.1/\(vH h).2.2.2.2.2.2.1=h.2.2.2.2.2.2.1:=by have er:=(zM hz h.2.2.1.2.2.1.length).1.e;refine⟨?_,?_,?_,?_⟩;show(returned h h.2.2.1.2.2.1.length).2.2.2.1.length=_;rw[er];exact hq.rx;show(returned h h.2.2.1.2.2.1.length).2.2.2.2.1.length=_;rw[er];exact hq.pl;show(returned h h.2.2.1.2.2.1.length).2.2.2.2.2.1=_;rw[er];exact hq.vec;show(returned h h.2.2.1.2.2.1.length).2.2.2.2.2.2.1=_;rw[er];exact hq.pol
theorem NZ (h:Host)(k:Lx h)(z:bu 100000000 cR h):uJ h=some (BH h):=by
 unfold uJ BH;rw[ki h (z.mono),ab,Ai h k,ab];cases hb:fw h;rfl;have hl:=pq (OM hb);have hw:=z.2.2.1.2.2.1.1;have hp:=Hc (by omega) z;refine bB (λi=>((i:Int),wA h i)) h.2.2.2.1.length (by omega) (λi nx hi=>?_) (λnx=>?_);simp only[tE];rw[gN,af,Z9 (wA h i) i 1000 (by rw[(hp i).1.rx];exact hi) (by rw[(hp i).1.pl];omega) ((hp i).2.mono),ab,aj (by omega) (by omega)];rfl;simp only[tE];rw[fF,ae];have hq:=hp h.2.2.2.1.length;have hr:=zM hq.2;have e1:(wA h h.2.2.2.1.length).2.2.1.2.2.1=h.2.2.1.2.2.1:=by rw[hq.1.tx]
 rw[e1];refine bB (λi=>((i:Int),returned h i)) h.2.2.1.2.2.1.length (by omega) (λi nx hi=>?_) (λnx=>?_);have hri:=(hr i).2;simp only[rm];rw[gN,af,aN hi,ab,aQ (by rw[aY];omega),aj (by omega) (by omega)];rw[show returned h (i+1)=agc h.2.2.1.2.2.1 i (returned h i) from rfl,agc,al hi];rfl;simp only[rm];rw[fF,ae];simp only[aji,ab];have hE:=LG (by omega) z hl.1;have hk:=Ps hq.1 hq.2;have eN:((List.length (returned h h.2.2.1.2.2.1.length).2.2.2.1))=(h.2.2.2.1.length):=congrArg Nat.cast hk.1;rw[eN];exact W0 _ (vH h) _ h.2.2.2.1.length hl.1 hk.1 (hk.2.1.trans hl.2.1) (by rw[hk.2.2.1];exact hl.2.2.1) (by rw[hk.2.2.2];exact hl.2.2.2) (hE.mono)
theorem Xh (K:Int->Host->au Host)(h s0 B:Host)(N:Nat)(hN:N<=2)(h1:s0.2.2.2.1.length=N)(h2:s0.2.2.2.2.1.length=N)(h3:s0.2.2.2.2.2.1=h.2.2.2.2.2.1)(h5:h.2.2.2.2.2.1.length=N)(h4:s0.2.2.2.2.2.2.1.length=N)(z:bu 900000000 cR s0): aH (mO K h B) fuel (0,s0)=K (N:Int) (fB s0 N):=by
 refine bB (λi=>((i:Int),fB s0 i)) N (by omega) (λi nx hi=>?_) (λnx=>?_);have kr:=xW s0 i;have zr:=FC (by omega) z i;have z1:(fB s0 i).1.length<=10^9:=aF zr.1.1 (by omega);have z2:(fB s0 i).2.1.length<=10^9:=aF zr.2.1.1 (by omega);have i1:i<(fB s0 i).2.2.2.1.length:=by rw[kr.rx,h1];exact hi
 have iN:(fB s0 i).2.2.2.1.length=N:=by rw[kr.rx,h1]
 have i2:i<(fB s0 i).2.2.2.2.1.length:=by rw[kr.pl,h2];exact hi
 have i3:i<(fB s0 i).2.2.2.2.2.1.length:=by rw[kr.vec,h3,h5];exact hi
 have i4:i<(fB s0 i).2.2.2.2.2.2.1.length:=by rw[kr.pol,h4];exact hi
 have i5:i<h.2.2.2.2.2.1.length:=by rw[h5];exact hi
 have iv:(fB s0 i).2.2.2.2.2.1[i]=h.2.2.2.2.2.1[i]:=by have:=kr.ael i (ba _);rw[al i3,h3,al i5]at this;exact cX this
 rw[show fB s0 (i+1)=He i (fB s0 i) from rfl];generalize fB s0 i=s at z1 z2 iN i1 i2 i3 i4 iv⊢;have g1:=al i1;unfold He;rw[g1,al i3];simp only[mO];rw[gN,af];simp only[aN i1,ab];have o1:=adL s i (by omega) i1 i2 z2 z1;rw[aoK g1]at o1;have o2:=λx:bk=>adL (s.1,s.2.1,s.2.2.1,s.2.2.2.1.set i x,s.2.2.2.2) i (by omega) (by rw[aL];exact i1) i2 z2 z1;simp only[ajI s _ i1]at o2;rw[aw,aj (n:=(i)+1) (by omega) (by omega),o1,o2,ab,ab];simp only[aN i5,ab,iv];have j3:∀d,i<(Lf s i d).2.2.2.2.2.1.length:=λd=>i3;have j4:∀d,i<(Lf s i d).2.2.2.2.2.2.1.length:=λd=>i4;simp only[aN (j3 _),aN (j4 _),ab];unfold XH;cases s.2.2.2.1[i].2.2.2.2.1<;>rfl;have kN:=(xW s0 N).rx;simp only[mO];rw[fF,ae]
theorem Of (h:Host)(k:Lx h)(z:bu 100000000 cR h):vt h=some (BH h):=by
 unfold vt BH;rw[kt h (z.mono),ab,vp h k,ab];cases hb:fw h;rfl;have hl:=pq (OM hb);have hw:=z.2.2.1.2.2.1.1;have hp:=Hc (by omega) z;refine bB (λi=>((i:Int),wA h i)) h.2.2.2.1.length (by omega) (λi nx hi=>?_) (λnx=>?_);have h1:i<(wA h i).2.2.2.1.length:=by rw[(hp i).1.rx];exact hi
 have h2:i<(wA h i).2.2.2.2.1.length:=by rw[(hp i).1.pl];omega
 have zi:bu 500000000 cR (wA h i):=(hp i).2.mono;have hz2:=zi.2.1.1;have hz1:=zi.1.1;have em:=(hp i).1.maps;rw[show wA h (i+1)=(Kh (wA h i) i 1000).2 from rfl];generalize wA h i=s at h1 h2 zi hz1 hz2 em⊢;have Hr:=(zi.2.2.2.2.1.2 _ (aE h2)).2.2.2.1;simp only[ub];rw[gN,af,<-em];simp only[aN h1,aN h2,ab,adN s.2.1 s.1 0 _ _ _ 1000 (show s.2.1.length<=10^9 by omega) (show s.1.length<=10^9 by omega) Hr zi.2.2.2.2.2.2.2.2.2.1,aw,Kh,al h1,al h2];rw[aj (by omega) (by omega)];rfl;simp only[ub];rw[fF,ae];have hq:=hp h.2.2.2.1.length;have hr:=zM hq.2;refine bB (λi=>((i:Int),returned h i)) h.2.2.1.2.2.1.length (by omega) (λi nx hi=>?_) (λnx=>?_);have hri:=(hr i).2;simp only[rM];rw[gN,af,aN hi,ab,aQ (by rw[aY];omega),aj (by omega) (by omega)];rw[show returned h (i+1)=agc h.2.2.1.2.2.1 i (returned h i) from rfl,agc,al hi];rfl;simp only[rM];rw[fF,ae];simp only[akp,ab];have hE:=LG (by omega) z hl.1;have hk:=Ps hq.1 hq.2;have ex:vH h=((returned h h.2.2.1.2.2.1.length).1,(returned h h.2.2.1.2.2.1.length).2.1,(Tc.1,Tc.2.1,Tc.2.2.1,h.2.2.1.2.2.2),(returned h h.2.2.1.2.2.1.length).2.2.2):=by
  have et:(returned h h.2.2.1.2.2.1.length).2.2.1=h.2.2.1:=by rw[(hr h.2.2.1.2.2.1.length).1.e];exact hq.1.tx
  unfold vH aa1;rw[et]
 rw[<-ex];exact Xh _ h (vH h) _ h.2.2.2.1.length hl.1 hk.1 (hk.2.1.trans hl.2.1) hk.2.2.1 hl.2.2.1 (by rw[hk.2.2.2];exact hl.2.2.2) (hE.mono)
end
end Go.Pu
