import Derived.Test.YtfbhfnniblfpbaaGreatPuX1
namespace Go.Pu
open Go.Dn
open List (range)
open Int (tdiv tmod)
set_option linter.unusedSimpArgs false
set_option linter.unusedVariables false
noncomputable section
variable {s t x:Bytes} {h:Host} {c d:Int} {a hd k o:Nat} {g:Nat->Host->Host} {p:dq} {R α:Type} {l:ax aE} {m:bK} {r:mn}
/- The checksums that sending fills in are those of the image. -/
theorem GY {v:Int}(h:0<=v/\v<=65535):(aF v).length=2:=by rw[D0,aS.2 h];rfl
theorem EM {v:Int}(h:0<=v/\v<=4294967295):(cn v).length=4:=by rw[GZ,aS.2 h];rfl
def ak8 (E:Bytes):Prop:=(E.length=18/\∀x,cH (E++x) 12=33024)\/(E.length=14/\∀x,cH (E++x) 12=2048)
theorem ak8.body {E:Bytes}(h:ak8 E)(x:Bytes):cD (E++x)=E.length:=by unfold cD;rcases h with⟨h1,h2⟩|⟨h1,h2⟩;all_goals grind
theorem ad5 {s v:Int}{b:Bytes}(h:xb (d,s,v,2048,b)=true):∃E,ak8 E/\Eg (d,s,v,2048,b)=E++b:=by
 unfold xb at h;simp only[ah,aS,bne_iff_ne,ne_eq]at h;obtain⟨h1,h2,h3,h4,h5,h6⟩:=h;obtain⟨d,rfl⟩:=au h1.1;obtain⟨s,rfl⟩:=au h2.1;have l1:=Pz (v:=d);have l2:=Pz (v:=s);have l3:=iz (v:=2048);by_cases hv:v<0;refine⟨xJ (d:Int)++(xJ (s:Int)++aF ((2048:Nat):Int)),Or.inr ⟨by simp only[aq];omega,λx=>?_⟩,?_⟩;have e:(xJ (d:Int)++(xJ (s:Int)++aF ((2048:Nat):Int)))++x=xJ (d:Int)++(xJ (s:Int)++(aF ((2048:Nat):Int)++x)):=by simp only[aG]
 rw[e];generalize hy:xJ (d:Int)++(xJ (s:Int)++(aF ((2048:Nat):Int)++x))=y;have k0:y.drop 0=xJ (d:Int)++(xJ (s:Int)++(aF ((2048:Nat):Int)++x)):=hy.symm;have k1:y.drop 6=xJ (s:Int)++(aF ((2048:Nat):Int)++x):=eD k0 l1;have k2:y.drop 12=aF ((2048:Nat):Int)++x:=eD k1 l2;exact jt (v:=2048) (by omega) k2;show(bif decide (v>=0) then _ else xJ (d:Int)++xJ (s:Int))++aF 2048++b=_;rw[ie,ae];simp only[aG];rfl;obtain⟨v,rfl⟩:=au (show 0<=v by omega);have l5:=iz (v:=33024);have l6:=iz (v:=v);refine⟨xJ (d:Int)++(xJ (s:Int)++(aF ((33024:Nat):Int)++(aF (v:Int)++aF ((2048:Nat):Int)))),Or.inl ⟨by simp only[aq];omega,λx=>?_⟩,?_⟩;have e:(xJ (d:Int)++(xJ (s:Int)++(aF ((33024:Nat):Int)++(aF (v:Int)++aF ((2048:Nat):Int)))))++x=xJ (d:Int)++(xJ (s:Int)++(aF ((33024:Nat):Int)++(aF (v:Int)++(aF ((2048:Nat):Int)++x)))):=by simp only[aG]
 rw[e];generalize hy:xJ (d:Int)++(xJ (s:Int)++(aF ((33024:Nat):Int)++(aF (v:Int)++(aF ((2048:Nat):Int)++x))))=y;have k0:y.drop 0=xJ (d:Int)++(xJ (s:Int)++(aF ((33024:Nat):Int)++(aF (v:Int)++(aF ((2048:Nat):Int)++x)))):=hy.symm;have k1:y.drop 6=xJ (s:Int)++(aF ((33024:Nat):Int)++(aF (v:Int)++(aF ((2048:Nat):Int)++x))):=eD k0 l1;have k2:y.drop 12=aF ((33024:Nat):Int)++(aF (v:Int)++(aF ((2048:Nat):Int)++x)):=eD k1 l2;exact jt (v:=33024) (by omega) k2;show(bif decide ((v:Int)>=0) then(((xJ (d:Int)++xJ (s:Int))++aF 33024)++aF (v:Int)) else _)++aF 2048++b=_;rw[kW,af];simp only[aG];rfl
theorem ahY {d:Ip}(h:Up d=true):∃A:Bytes,A.length=10/\B6 d=A++(aF 0++(cn d.2.2.2.2.1++cn d.2.2.2.2.2.1))/\yn d=A++(aF (MO (B6 d))++(cn d.2.2.2.2.1++cn d.2.2.2.2.2.1))/\((bV A 9:Nat):Int)=d.2.2.2.1/\∀x,cH (A++x) 2=20+(d.2.2.2.2.2.2.length:Int):=by
 unfold Up at h;simp only[ah,aS,bE]at h;obtain⟨o,i,t,p,a,b,q⟩:=d;simp only at h⊢;obtain⟨h1,h2,h3,h4,h5,h6,h7⟩:=h;obtain⟨o,rfl⟩:=au h1.1;obtain⟨i,rfl⟩:=au h4.1;obtain⟨t,rfl⟩:=au h2.1;obtain⟨p,rfl⟩:=au h3.1;obtain⟨x0,x1,e0,e1⟩:=Vz (x:=69) (y:=o);obtain⟨x8,x9,e8,e8',e9⟩:=acN (x:=t) (y:=p);obtain⟨c,hc,ec⟩:=Pn (B6 ((o:Int),(i:Int),(t:Int),(p:Int),a,b,q));have l2:=iz (v:=20+q.length);have l4:=iz (v:=i);have l6:=iz (v:=16384);have l0:=iz (v:=0);have lc:=iz hc;have hA:([x0,x1]++(aF ((20+q.length:Nat):Int)++(aF (i:Int)++(aF ((16384:Nat):Int)++[x8,x9])))).length=10:=by simp only[aq,bp,eO];omega
 have ajy:B6 ((o:Int),(i:Int),(t:Int),(p:Int),a,b,q)=([x0,x1]++(aF ((20+q.length:Nat):Int)++(aF (i:Int)++(aF ((16384:Nat):Int)++[x8,x9]))))++(aF ((0:Nat):Int)++(cn a++cn b)):=by show((((((bs2 69 (gR (o:Int))++aF (20+(q.length:Int)))++aF (i:Int))++aF 16384)++bs2 (gR (t:Int)) (gR (p:Int)))++aF 0)++cn a)++cn b=_;rw[e0,e8,show(20:Int)+(q.length:Int)=((20+q.length:Nat):Int) by omega];simp only[aG];rfl
 refine⟨_,hA,ajy,?_,?_,λx=>?_⟩;unfold yn;rw[ec,ajy];exact Ez (k:=10) hA (by omega);generalize hy:[x0,x1]++(aF ((20+q.length:Nat):Int)++(aF (i:Int)++(aF ((16384:Nat):Int)++[x8,x9])))=y;have k0:y.drop 0=[x0,x1]++(aF ((20+q.length:Nat):Int)++(aF (i:Int)++(aF ((16384:Nat):Int)++[x8,x9]))):=hy.symm;have k2:=eD k0 (n:=2) rfl;have k4:=eD k2 l2;have k6:=eD k4 l4;have k8:y.drop 8=x8::x9::[]:=eD k6 l6;rw[zE (rX k8),e9];have e:([x0,x1]++(aF ((20+q.length:Nat):Int)++(aF (i:Int)++(aF ((16384:Nat):Int)++[x8,x9]))))++x=[x0,x1]++(aF ((20+q.length:Nat):Int)++(aF (i:Int)++(aF ((16384:Nat):Int)++([x8,x9]++x)))):=by simp only[aG]
 rw[e];generalize hy:[x0,x1]++(aF ((20+q.length:Nat):Int)++(aF (i:Int)++(aF ((16384:Nat):Int)++([x8,x9]++x))))=y;have k0:y.drop 0=[x0,x1]++(aF ((20+q.length:Nat):Int)++(aF (i:Int)++(aF ((16384:Nat):Int)++([x8,x9]++x)))):=hy.symm;have k2:y.drop 2=aF ((20+q.length:Nat):Int)++(aF (i:Int)++(aF ((16384:Nat):Int)++([x8,x9]++x))):=eD k0 rfl;have f2:cH y 2=((20+q.length:Nat):Int):=jt (k:=2) (by omega) k2;rw[f2];omega
theorem afS {a b:Int}{g:fu}(h:zO a b g=true):∃A B:Bytes,(g.1=6/\A.length=16\/g.1=17/\A.length=6)/\bare g=A++(aF 0++B)/\zy a b g=A++(aF (JQ a b g)++B):=by
 have hs:ru g=true:=by grind[zO]
 obtain⟨c,hc,ec⟩:=sum_nat a b g;have lc:=iz hc;have l0:=iz (v:=0);unfold ru at hs;simp only[ah,aS,aP,dh]at hs;obtain⟨k,s,d,n,m,f,w,q⟩:=g;simp only at hs ec⊢;obtain⟨h1,h2,h3,h4⟩:=hs;have ls:=GY h1;have ld:=GY h2;cases h17:k==17 with
 |true=>
  have hk:k=17:=by simpa using h17
  subst hk;have ln:=GY (v:=8+(q.length:Int)) (by omega);have eb:bare (17,s,d,n,m,f,w,q)=((aF s++aF d)++aF (8+(q.length:Int)))++(aF ((0:Nat):Int)++q):=by show(((aF s++aF d)++aF (8+(q.length:Int)))++aF 0)++q=_;rw[aG];rfl
  have hA:((aF s++aF d)++aF (8+(q.length:Int))).length=6:=by simp_all
  refine⟨_,q,Or.inr ⟨rfl,hA⟩,eb,?_⟩;unfold zy;rw[ec,eb];exact Ez (k:=6) hA (by omega)
 |false=>
  rw[h17]at h4;simp only[ae,ah,bD,aS]at h4;obtain⟨rfl,h5,h6,h7,h8⟩:=h4;have ln:=EM h5;have lm:=EM h6;have lw:=GY h8;have eb:bare (6,s,d,n,m,f,w,q)=(((((aF s++aF d)++cn n)++cn m)++bs2 80 (gR f))++aF w)++(aF ((0:Nat):Int)++(aF 0++q)):=by show(((((aF s++aF d)++cn n)++cn m)++bs2 80 (gR f))++aF w)++cn 0++q=_;grind[NO]
  have hA:(((((aF s++aF d)++cn n)++cn m)++bs2 80 (gR f))++aF w).length=16:=by grind[Pj]
  refine⟨_,aF 0++q,Or.inl ⟨rfl,hA⟩,eb,?_⟩;grind[zy,Ez]
def Fx (E A B A' R X Y:Bytes):Bytes:=E++(A++(X++(B++(A'++(Y++R)))))
theorem Yj {E A B A' R X Y X2 Y2:Bytes}(hX:X.length=2)(hX2:X2.length=2)(hY:Y.length=2)(hY2:Y2.length=2)(ha:wk (Fx E A B A' R X Y)=E.length+A.length)(hb:rP (Fx E A B A' R X Y)=E.length+A.length+2+B.length+A'.length):nU (Fx E A B A' R X Y) X2 Y2=Fx E A B A' R X2 Y2:=by
 unfold nU;rw[ha,hb];have e1:vz (Fx E A B A' R X Y) ((E.length+A.length:Nat):Int) X2=Fx E A B A' R X2 Y:=by have:=Ez (A:=E++A) (X:=X) (Y:=X2) (B:=B++(A'++(Y++R))) (k:=E.length+A.length) (by rw[aq]) (by omega);grind[Fx]
 have e2:vz (Fx E A B A' R X2 Y) ((E.length+A.length+2+B.length+A'.length:Nat):Int) Y2=Fx E A B A' R X2 Y2:=by have:=Ez (A:=E++(A++(X2++(B++A')))) (X:=Y) (Y:=Y2) (B:=R) (k:=E.length+A.length+2+B.length+A'.length) (by grind) (by omega);grind[Fx]
 rw[e1,e2]
theorem ad9 {p:aH}(h:cC p=true):Dk (gQ p).1=dv p:=by
 have hh:sI p=true:=by grind[cC]
 have hg:=xP hh;have hb:=hh;unfold sI at hb;simp only[ah]at hb;obtain⟨h1,h2,h3,h4,h5,h6,h7,h8,_⟩:=hb;have hlen:=DM hg;have hbl:=KO p.2.2.2.2.2.2.2.2;have hk:dV p.2.2.2.2.2.2.2.2.1 0 255=true:=by unfold ru at hg;simp only[ah]at hg;have g4:=hg.2.2.2;cases h17:p.2.2.2.2.2.2.2.2.1==17 with|true=>rw[show p.2.2.2.2.2.2.2.2.1=17 from by simpa using h17];rfl|false=>rw[h17]at g4;simp only[ae,ah,bD]at g4;rw[g4.1];rfl
 have hs:zO p.2.2.2.2.2.2.1 p.2.2.2.2.2.2.2.1 p.2.2.2.2.2.2.2.2=true:=by grind[zO,yu,aS]
 have es:Hl p=(zy p.2.2.2.2.2.2.1 p.2.2.2.2.2.2.2.1 p.2.2.2.2.2.2.2.2,true):=by grind[Hl,zP]
 have W7:=WC p.2.2.2.2.2.2.1 p.2.2.2.2.2.2.2.1 p.2.2.2.2.2.2.2.2;rw[show zP p.2.2.2.2.2.2.1 p.2.2.2.2.2.2.2.1 p.2.2.2.2.2.2.2.2=Hl p from rfl,es]at W7;have hi:Up (p.2.2.2.1,p.2.2.2.2.1,p.2.2.2.2.2.1,p.2.2.2.2.2.2.2.2.1,p.2.2.2.2.2.2.1,p.2.2.2.2.2.2.2.1,(Hl p).1)=true:=by grind[Up]
 have ei:Uq p=(yn (p.2.2.2.1,p.2.2.2.2.1,p.2.2.2.2.2.1,p.2.2.2.2.2.2.2.2.1,p.2.2.2.2.2.2.1,p.2.2.2.2.2.2.2.1,(Hl p).1)++(Hl p).1,true):=by grind[Uq,W8]
 have hl:=Nc p;have hp:=LJ (Uq p).1;have he:xb (p.1,p.2.1,p.2.2.1,2048,pad (Uq p).1)=true:=by grind[xb,aS]
 have em:(dv p).1=Eg (p.1,p.2.1,p.2.2.1,2048,pad (Uq p).1):=by grind[dv,ad3,SL]
 obtain⟨z,ez⟩:=YY (Uq p).1;obtain⟨E,hE,eE⟩:=ad5 he;obtain⟨A,a1,a2,a3,a4,a5⟩:=ahY hi;obtain⟨A',B',b1,b2,b3⟩:=afS hs;have ib:=Kh h;have tb:(gQ p).1=nU (dv p).1 (aF 0) (aF 0):=by grind[gQ]
 have i2:=zJ h;have ii:dv p=((dv p).1,true):=by rw[<-i2]
 have l7:=aS.1 h7;have l8:=aS.1 h8;have hk2:=aS.1 hk;obtain⟨c,hc,ec⟩:=Pn (B6 (p.2.2.2.1,p.2.2.2.2.1,p.2.2.2.2.2.1,p.2.2.2.2.2.2.2.2.1,p.2.2.2.2.2.2.1,p.2.2.2.2.2.2.2.1,(Hl p).1));obtain⟨c',BF,ec'⟩:=sum_nat p.2.2.2.2.2.2.1 p.2.2.2.2.2.2.2.1 p.2.2.2.2.2.2.2.2;have esl:(Hl p).1.length=(bare p.2.2.2.2.2.2.2.2).length:=by grind[zy,vS]
 have lc:=iz hc;have lc':=iz BF;have l0:=iz (v:=0);have w1:=EM l7;have w2:=EM l8;rw[<-ec]at lc;rw[<-ec']at lc';have eF:(dv p).1=Fx E A (cn p.2.2.2.2.2.2.1++cn p.2.2.2.2.2.2.2.1) A' (B'++z) (aF (MO (B6 (p.2.2.2.1,p.2.2.2.2.1,p.2.2.2.2.2.1,p.2.2.2.2.2.2.2.2.1,p.2.2.2.2.2.2.1,p.2.2.2.2.2.2.2.1,(Hl p).1)))) (aF (JQ p.2.2.2.2.2.2.1 p.2.2.2.2.2.2.2.1 p.2.2.2.2.2.2.2.2)):=by grind[Fx]
 generalize hcc:MO (B6 (p.2.2.2.1,p.2.2.2.2.1,p.2.2.2.2.2.1,p.2.2.2.2.2.2.2.2.1,p.2.2.2.2.2.2.1,p.2.2.2.2.2.2.2.1,(Hl p).1))=C at eF lc ec;have pl:∀X Y:Bytes,X.length=2->cD (Fx E A (cn p.2.2.2.2.2.2.1++cn p.2.2.2.2.2.2.2.1) A' (B'++z) X Y)=E.length/\((jH (Fx E A (cn p.2.2.2.2.2.2.1++cn p.2.2.2.2.2.2.2.1) A' (B'++z) X Y):Nat):Int)=p.2.2.2.2.2.2.2.2.1:=by intro X Y hX;have eb:=hE.body (A++(X++((cn p.2.2.2.2.2.2.1++cn p.2.2.2.2.2.2.2.1)++(A'++(Y++(B'++z))))));refine⟨eb,?_⟩;rw[<-a4];congr 1;show bV _ (cD _+9)=_;grind[Fx,tz,Nat.add_sub_cancel_left,jZ]
 have ps:∀X Y:Bytes,X.length=2->wk (Fx E A (cn p.2.2.2.2.2.2.1++cn p.2.2.2.2.2.2.2.1) A' (B'++z) X Y)=E.length+A.length/\rP (Fx E A (cn p.2.2.2.2.2.2.1++cn p.2.2.2.2.2.2.2.1) A' (B'++z) X Y)=E.length+A.length+2+(cn p.2.2.2.2.2.2.1++cn p.2.2.2.2.2.2.2.1).length+A'.length:=by intro X Y hX;obtain⟨q1,q2⟩:=pl X Y hX;unfold wk rP;rw[q1,aq];have ME:=GN (jH (Fx E A (cn p.2.2.2.2.2.2.1++cn p.2.2.2.2.2.2.2.1) A' (B'++z) X Y));omega
 have l0':(aF 0).length=2:=l0;have et:(gQ p).1=Fx E A (cn p.2.2.2.2.2.2.1++cn p.2.2.2.2.2.2.2.1) A' (B'++z) (aF 0) (aF 0):=by grind[Yj]
 rw[et];have q:=pl (aF 0) (aF 0) l0';have qs:=ps (aF 0) (aF 0) l0';have ep:=λX2 Y2 hX hY=>Yj (X2:=X2) (Y2:=Y2) l0' hX l0' hY qs.1 qs.2;generalize ht:Fx E A (cn p.2.2.2.2.2.2.1++cn p.2.2.2.2.2.2.2.1) A' (B'++z) (aF 0) (aF 0)=t at et q qs ep⊢;have d0:t.drop E.length=A++(aF 0++((cn p.2.2.2.2.2.2.1++cn p.2.2.2.2.2.2.2.1)++(A'++(aF 0++(B'++z))))):=by rw[<-ht];exact List.drop_left
 have d10:=eD d0 a1;have d12:t.drop (E.length+12)=cn p.2.2.2.2.2.2.1++(cn p.2.2.2.2.2.2.2.1++(A'++(aF 0++(B'++z)))):=by have:=eD d10 l0';grind
 have d16:t.drop (E.length+16)=cn p.2.2.2.2.2.2.2.1++(A'++(aF 0++(B'++z))):=by have:=eD d12 w1;exact this
 have d20:t.drop (E.length+20)=bare p.2.2.2.2.2.2.2.2++z:=by rw[b2];have:=eD d16 w2;grind
 have g1:fM t ((E.length+12:Nat):Int)=p.2.2.2.2.2.2.1:=by obtain⟨v,hv⟩:=au l7.1;rw[hv]at d12⊢;exact xc (by omega) d12
 have g2:fM t ((E.length+16:Nat):Int)=p.2.2.2.2.2.2.2.1:=by obtain⟨v,hv⟩:=au l8.1;rw[hv]at d16⊢;exact xc (by omega) d16
 have g3:uH t=20+((bare p.2.2.2.2.2.2.2.2).length:Int):=by unfold uH;rw[q.1,<-Kd,d0];grind
 have sX:Mo t=C:=by
  unfold Mo;rw[q.1,<-GS,d0,<-hcc,a2];congr 1;have e:A++(aF 0++((cn p.2.2.2.2.2.2.1++cn p.2.2.2.2.2.2.2.1)++(A'++(aF 0++(B'++z)))))=(A++(aF 0++(cn p.2.2.2.2.2.2.1++cn p.2.2.2.2.2.2.2.1)))++(A'++(aF 0++(B'++z))):=by simp only[aG]
  grind[List.take_left',aq]
 have sG:O9 t=bare p.2.2.2.2.2.2.2.2:=by unfold O9;rw[q.1,g3,show(20+((bare p.2.2.2.2.2.2.2.2).length:Int)).toNat=20+(bare p.2.2.2.2.2.2.2.2).length by omega,show E.length+(20+(bare p.2.2.2.2.2.2.2.2).length)=(E.length+20)+(bare p.2.2.2.2.2.2.2.2).length by omega,<-GS,d20];exact List.take_left
 have sY:Jm t=JQ p.2.2.2.2.2.2.1 p.2.2.2.2.2.2.2.1 p.2.2.2.2.2.2.2.2:=by unfold Jm ahl JQ;grind
 simp_all[Dk,TQ,dv]
theorem Qe (s:Bytes):aR (dW s)=s:=by simp_all[aR,dW,List.map_congr_left]
theorem ahV (s t:Bytes):dW (s++t)=dW s++dW t:=cS
theorem Lt (s:Bytes):(dW s).length=s.length:=bX ..
theorem PF (l:ax α)(i j:Nat)(h:i<=j)(h2:j<=l.length):sub l (i:Int) (j:Int)=some ((l.drop i).take (j-i)):=by grind[sub,List.take_drop]
theorem adG (a k:Nat):tdiv (a:Int) (k:Int)=((a/k:Nat):Int):=(Int.ofNat_tdiv a k).symm
theorem Mr (a k:Nat):tmod (a:Int) (k:Int)=((a%k:Nat):Int):=(Int.ofNat_tmod a k).symm
theorem mem_iff:dk m=true↔(∀x∈m,x.length=128)/\m.length<=64:=by grind[dk]
theorem XH:∀{m:bK},(∀x∈m,x.length=128)->m.flatten.length=128*m.length
 |[],_=>rfl
 |x::m,h=>by have:=XH (m:=m) (λy hy=>h y (by simp[hy]));grind
theorem T0:∀{m:bK}(_:∀x∈m,x.length=128)(p:Nat)(hp:p<m.length)(o c:Nat),o+c<=128->(m.flatten.drop (128*p+o)).take c=(m[p].drop o).take c
 |x::m,h,0,hp,o,c,ho=>by grind
 |x::m,h,p+1,hp,o,c,ho=>by have hx:=h x (by simp);simp only[List.flatten_cons,List.getElem_cons_succ];rw[show 128*(p+1)+o=x.length+(128*p+o) by omega,List.drop_length_add_append];exact T0 (m:=m) (λy hy=>h y (by simp[hy])) p (by simpa using hp) o c ho
def Bs (m:bK)(a n:Nat):Bytes:=(m.flatten.drop a).take n
theorem FI {n:Nat}(h:dk m=true)(hn:a+n<=128*m.length):(Bs m a n).length=n:=by have:=XH (mem_iff.1 h).1;grind[Bs]
theorem aiB (m:bK)(a n:Nat):(Bs m a n).length<=n:=by simp[Bs];omega
theorem UR (m:bK)(a k c:Nat):Bs m a (k+c)=Bs m a k++Bs m (a+k) c:=by grind[Bs,fa]
theorem Kt (h:dk m=true){p:Nat}(hp:p<m.length){c:Nat}(ho:o+c<=128)(ha:a=128*p+o):(m[p].drop o).take c=Bs m a c:=by subst ha;exact(T0 (mem_iff.1 h).1 p hp o c ho).symm
def iG (m:bK)(a n:Int):Bool:=dk m&&decide (0<=n/\0<=a/\a+n<=128*(m.length:Int))
theorem HT (m:bK)(a n:Int)(h:m.length<=10^9):xw m a n=some (iG m a n):=by unfold xw iG;rw[Kj m h,ab,ak (n:=(m.length:Int)*128) (by omega) (by omega)];cases hm:dk m with|false=>rfl|true=>simp only[af,bH];by_cases h1:n>=0;by_cases h2:n<=(m.length:Int)*128;rw[ak (n:=(m.length:Int)*128-n) (by omega) (by omega)];by_cases h3:a>=0;simp only[az h1,az h2,az h3,af,ab];exact congrArg some (decide_eq_decide.2 (by omega));simp only[az h1,az h2,aw h3,af,ae,ab];exact congrArg some (ie).symm;simp only[az h1,aw h2,af,ae,ab];exact congrArg some (ie).symm;simp only[aw h1,ae,ab];exact congrArg some (ie).symm
theorem Ij (m:bK)(a n:Int)(h:m.length<=10^9):mV m a n=some (iG m a n):=by unfold mV iG;rw[GH m h,ab,ak (n:=128*(m.length:Int)) (by omega) (by omega)];cases hm:dk m with|false=>rfl|true=>simp only[af,bH];by_cases h1:n>=0;by_cases h3:a>=0;by_cases h2:a<=128*(m.length:Int);rw[ak (n:=128*(m.length:Int)-a) (by omega) (by omega)];simp only[az h1,az h2,az h3,af,ab];exact congrArg some (decide_eq_decide.2 (by omega));simp only[az h1,aw h2,az h3,af,ae,ab];exact congrArg some (ie).symm;simp only[az h1,aw h3,af,ae,ab];exact congrArg some (ie).symm;simp only[aw h1,ae,ab];exact congrArg some (ie).symm
theorem Lk (hm:dk m=true)(K:Int->dm->aA R):∀(n r k a f:Nat),r<=n->n<f->a+k+r<=128*m.length->
 aZ (mL K ((k+r:Nat):Int) m) f (((a+k:Nat):Int),dW (Bs m a k))=K ((a+k+r:Nat):Int) (dW (Bs m a (k+r)))
 |n,r,k,a,0,_,hf,_=>by omega
 |n,0,k,a,f+1,hr,hf,hb=>by grind[aZ,mL,Lt,FI]
 |0,r+1,k,a,f+1,hr,hf,hb=>by omega
 |n+1,r+1,k,a,f+1,hr,hf,hb=>by
  have h64:=(mem_iff.1 hm).2;have hl:=FI hm (show a+k<=128*m.length by omega);obtain⟨p,hp⟩:∃p,(a+k)/128=p:=⟨_,rfl⟩
  obtain⟨o,ho⟩:∃o,(a+k)%128=o:=⟨_,rfl⟩
  have hpo:a+k=128*p+o:=by omega
  have ho2:o<128:=by omega
  have C1:p<m.length:=by omega
  obtain⟨c,hc⟩:∃c,min (r+1) (128-o)=c:=⟨_,rfl⟩
  have hpg:=(mem_iff.1 hm).1 _ (bn C1);have e1:tdiv ((a+k:Nat):Int) 128=(p:Int):=by grind
  have e2:tmod ((a+k:Nat):Int) 128=(o:Int):=by grind
  have key:=Lk hm K n (r+1-c) (k+c) a f (by omega) (by omega) (by omega);rw[aZ];simp only[mL,Lt,hl,e1,e2];rw[kW,af,lH,ak (n:=(p:Int)) (by omega) (by omega),bw C1,ab,lH];rw[ak (n:=(o:Int)+((k+(r+1):Nat):Int)) (by omega) (by omega),ak (n:=(o:Int)+((k+(r+1):Nat):Int)-(k:Int)) (by omega) (by omega)];rw[show(if(o:Int)+((k+(r+1):Nat):Int)-(k:Int)<128 then(o:Int)+((k+(r+1):Nat):Int)-(k:Int) else 128)=((o+c:Nat):Int) by split<;>omega];rw[PF _ _ _ (by omega) (by omega),ab,show o+c-o=c by omega,Kt hm C1 (show o+c<=128 by omega) hpo];have B4:=FI hm (show a+k+c<=128*m.length by omega);rw[B4,bf (by omega),ak (by omega) (by omega),<-ahV,<-UR];grind
theorem ahQ (m:bK)(a n:Int)(h:m.length<=10^9):rl m a n=some (bif iG m a n then(Bs m a.toNat n.toNat,true) else([],false)):=by have zj:=dD;unfold rl;rw[HT m a n h,ab];cases hw:iG m a n with|false=>rfl|true=>simp only[iG,ah,bE]at hw;obtain⟨hm,h1,h2,h3⟩:=hw;have h64:=(mem_iff.1 hm).2;simp only[aj,ae,af];rw[zip,bf (by omega)];obtain⟨a,rfl⟩:=au h2;obtain⟨n,rfl⟩:=au h1;have:=Lk hm (λ(y4:Int) (y5:dm)=>some (aR y5,true)) n n 0 a fuel (by omega) (by omega) (by omega);rw[cJ,eT]at this;refine Eq.trans this ?_;simp only[Qe,aC]
theorem Mf (hm:dk m=true)(K:Int->Int->Bytes->aA R):∀(n r k a f:Nat),r<=n->n<f->a+k+r<=128*m.length->
 aZ (qS K m) f (((a+k:Nat):Int),(r:Int),Bs m a k)=K ((a+k+r:Nat):Int) 0 (Bs m a (k+r))
 |n,r,k,a,0,_,hf,_=>by omega
 |n,0,k,a,f+1,hr,hf,hb=>by rfl
 |0,r+1,k,a,f+1,hr,hf,hb=>by omega
 |n+1,r+1,k,a,f+1,hr,hf,hb=>by
  have h64:=(mem_iff.1 hm).2;have hl:=FI hm (show a+k<=128*m.length by omega);obtain⟨p,hp⟩:∃p,(a+k)/128=p:=⟨_,rfl⟩
  obtain⟨o,ho⟩:∃o,(a+k)%128=o:=⟨_,rfl⟩
  have hpo:a+k=128*p+o:=by omega
  have ho2:o<128:=by omega
  have C1:p<m.length:=by omega
  obtain⟨c,hc⟩:∃c,min (r+1) (128-o)=c:=⟨_,rfl⟩
  have hpg:=(mem_iff.1 hm).1 _ (bn C1);have e1:tdiv ((a+k:Nat):Int) 128=(p:Int):=by grind
  have e2:tmod ((a+k:Nat):Int) 128=(o:Int):=by grind
  have key:=Mf hm K n (r+1-c) (k+c) a f (by omega) (by omega) (by omega);rw[aZ];simp only[qS,e1,e2];rw[kW,af,lH,lH,ak (n:=(p:Int)) (by omega) (by omega),bw C1,ab];rw[ak (n:=128-(o:Int)) (by omega) (by omega)];rw[show(if 128-(o:Int)<((r+1:Nat):Int) then 128-(o:Int) else((r+1:Nat):Int))=(c:Int) by split<;>omega];rw[ak (n:=(o:Int)+(c:Int)) (by omega) (by omega),show(o:Int)+(c:Int)=((o+c:Nat):Int) by omega];rw[PF _ _ _ (by omega) (by omega),ab,show o+c-o=c by omega,Kt hm C1 (show o+c<=128 by omega) hpo];have B4:=FI hm (show a+k+c<=128*m.length by omega);rw[B4,hl,bf (by omega),ak (n:=((a+k:Nat):Int)+(c:Int)) (by omega) (by omega),ak (n:=((r+1:Nat):Int)-(c:Int)) (by omega) (by omega),<-UR];grind
theorem ai2 (m:bK)(a n:Int)(h:m.length<=10^9):rF m a n=some (bif iG m a n then(Bs m a.toNat n.toNat,true) else([],false)):=by have zj:=dD;unfold rF;rw[Ij m a n h,ab];cases hw:iG m a n with|false=>rfl|true=>simp only[iG,ah,bE]at hw;obtain⟨hm,h1,h2,h3⟩:=hw;have h64:=(mem_iff.1 hm).2;simp only[aj,ae,af];obtain⟨a,rfl⟩:=au h2;obtain⟨n,rfl⟩:=au h1;have:=Mf hm (λ(y4:Int) (y5:Int) (y6:Bytes)=>some (y6,true)) n n 0 a fuel (by omega) (by omega) (by omega);rw[cJ,eT]at this;exact this
def Wj (d p:Int)(w:Bool)(x:aE):Bool:=xx d p x&&(x.2.2.2|| !w)
def vn (l:ax aE)(d p:Int)(w:Bool):Int:=match l.findIdx? (Wj d p w)with|some i=>(l.getD i Wk).2.2.1|none=> -1
theorem aiY (l:ax aE)(d p:Int)(w:Bool)(h:l.length<=10^9):CL l d p w=some (vn l d p w):=by unfold CL vn;refine Eq.trans (II (p:=Wj d p w) (hit:=λi=>aa (idx l i) λx=>some x.2.2.1) (fin:=some (-1)) l (by omega) (λi hi nx=>?_) (λnx=>?_)) ?_;simp only[wU];rw[kW,bw hi,ak (by omega) (by omega)];simp only[af,ab,Wj,xx];cases l[i].1==d<;>cases l[i].2.1==p<;>cases l[i].2.2.2<;>cases w<;>rfl;simp only[wU];rw[ie];rfl;cases hf:l.findIdx? (Wj d p w)with|none=>rfl|some i=>obtain⟨hi,_⟩:=List.findIdx?_eq_some_iff_getElem.1 hf;simp only[bw hi,ab,fD hi]
theorem Rm (h:fW l=true){i:Nat}(hi:i<l.length):Nh l[i]=true/\∀j (hj:j<i),xx l[i].1 l[i].2.1 (l[j]'(by omega))=false:=by simp only[fW,ah,aO,cP]at h;have:=h.2 i hi;simp only[Wi,ah,aO,cP,fD hi,aP]at this;grind
theorem UA {p:Int}{m:aE}:xx d p m=true↔m.1=d/\m.2.1=p:=by simp[xx]
theorem ah8 (h:fW l=true){p:Int}{i j:Nat}(hi:i<l.length)(hj:j<l.length)(h1:xx d p l[i]=true)(h2:xx d p l[j]=true):i=j:=by grind[UA,Rm]
theorem Rv (h:fW l=true)(d p:Int)(w:Bool)(h1:0<=vn l d p w):vn l d p w<=63/\0<=p/\p<=1023:=by grind[vn,Wj,List.findIdx?_eq_some_iff_getElem,Rm,UA,Nh,aS]
theorem aeD (l:ax aE)(d:Int)(a:Nat)(w:Bool)(h:l.length<=10^9)(hm:fW l=true)(ha:a<=9223372036854775807): Gp l d (a:Int) w=some (if 0<=vn l d ((a/128:Nat):Int) w then vn l d ((a/128:Nat):Int) w*128+((a%128:Nat):Int) else-1):=by
 have e1:tdiv (a:Int) 128=((a/128:Nat):Int):=adG a 128;have e2:tmod (a:Int) 128=((a%128:Nat):Int):=Mr a 128;unfold Gp;rw[ie,ae,lH,e1,e2,ak (by omega) (by omega),Yq l _ _ h,ab];generalize ((a/128:Nat):Int)=p;have zw:=Rv hm d p w;unfold YZ;cases hf:l.findIdx? (xx d p)with
 |none=>
  have hn:vn l d p w= -1:=by grind[vn,Wj]
  rw[hn];rfl
 |some i=>
  obtain⟨hi,h2,h3⟩:=List.findIdx?_eq_some_iff_getElem.1 hf;simp only;rw[ie,bw hi];simp only[ae,ab];cases hq:l[i].2.2.2|| !w with
  |true=>
   have hF:vn l d p w=l[i].2.2.1:=by grind[vn,List.findIdx?_eq_some_iff_getElem,Wj]
   have h4:=(Rm hm hi).1;simp only[Nh,ah,aS]at h4
   rw[hF,aI (show 0<=l[i].2.2.1 by omega),show(aa (cond w (some (!l[i].2.2.2)) (some false)) λq3=>cond q3 (some (-1:Int)) _)=_ from by
    have:(cond w (some (!l[i].2.2.2)) (some false))=some false:=by cases w<;>cases hz:l[i].2.2.2<;>rw[hz]at hq<;>first|rfl|cases hq
    rw[this,ab,ae]]
   grind[ak]
  |false=>grind[vn,fO,xx,Wj,ah8,ab]
def mf (l:ax aE)(m:bK)(d:Int)(w:Bool):Nat->Nat->Nat->aA (ax (Int×Int))
 |0,_,_=>some []
 |n+1,a,r=>if r=0 then some [] else
  if 0<=vn l d ((a/128:Nat):Int) w/\vn l d ((a/128:Nat):Int) w<(m.length:Int) then
   (mf l m d w n (a+min (128-a%128) r) (r-min (128-a%128) r)).map (λq=>(vn l d ((a/128:Nat):Int) w*128+((a%128:Nat):Int),((min (128-a%128) r:Nat):Int))::q)
  else none
theorem GX (hm:dk m=true){f:Int}(h0:0<=f){c:Nat}(hc:0<c:=by omega)(ho:o+c<=128:=by omega):iG m (f*128+(o:Int)) (c:Int)=decide (f<(m.length:Int)):=by grind[iG]
theorem aaa (hm:dk m=true){f:Int}(h0:0<=f):iG m (f*128) 128=decide (f<(m.length:Int)):=by grind[iG]
theorem Ll (hl:fW l=true)(hL:l.length<=10^9)(hm:dk m=true)(d:Int)(w:Bool):∀(n a r f:Nat)(acc:ax (Int×Int)),r<=n->n<f->acc.length+n<=1000000->a<=9223372036854775807->
 aZ (tI (λ(y9:Int) (zo:Int) (CX:ax (Int×Int))=>some (CX,true)) (λ(Jn:Int) (Jo:Int) (F0:ax (Int×Int)) (Jp:Bool) (MB:ax (Int×Int))=>some (F0,Jp)) l d w ([]:ax (Int×Int)) false m) f ((a:Int),(r:Int),acc)
  =match mf l m d w n a r with|some q=>some (acc++q,true)|none=>some ([],false)
 |n,a,r,0,acc,_,hf,_,_=>by omega
 |0,a,r,f+1,acc,hr,hf,hA,ha=>by rw[aZ];simp only[tI];rw[ie];simp[mf]
 |n+1,a,r,f+1,acc,hr,hf,hA,ha=>by
  have h64:=(mem_iff.1 hm).2;rw[aZ];simp only[tI,mf];by_cases h0:r=0;rw[ie,aI h0];simp;have e2:tmod (a:Int) 128=((a%128:Nat):Int):=Mr a 128;have zw:=Rv hl d ((a/128:Nat):Int) w;rw[kW,aK h0,aeD l d a w hL hl ha,ab,lH,e2,ak (n:=128-((a%128:Nat):Int)) (by omega) (by omega)];obtain⟨c,hc⟩:∃c,min (128-a%128) r=c:=⟨_,rfl⟩
  rw[hc,show(if 128-((a%128:Nat):Int)<(r:Int) then 128-((a%128:Nat):Int) else(r:Int))=(c:Int) by split<;>omega];generalize hP:vn l d ((a/128:Nat):Int) w=P at zw⊢;by_cases hP0:0<=P;have zw:=zw hP0;simp only[aI hP0,af];rw[aw (show¬P*128+((a%128:Nat):Int)<0 by omega),HT m _ _ (by omega),GX hm hP0];simp only[ae,ab];by_cases hP1:P<(m.length:Int);rw[az hP1,aI ⟨hP0,hP1⟩];simp only[aj,ae];rw[bf (by simp;omega),ak (n:=(a:Int)+(c:Int)) (by omega) (by omega),ak (n:=(r:Int)-(c:Int)) (by omega) (by omega),aw (show¬(a:Int)+(c:Int)<0 by omega)];simp only[ae,ab];have key:=Ll hl hL hm d w n (a+c) (r-c) f (acc++[(P*128+((a%128:Nat):Int),(c:Int))]) (by omega) (by omega) (by simp;omega) (by omega);rw[show((a+c:Nat):Int)=(a:Int)+(c:Int) by omega,show((r-c:Nat):Int)=(r:Int)-(c:Int) by omega]at key;rw[key];cases mf l m d w n (a+c) (r-c)with|none=>rfl|some q=>simp
  rw[aw hP1,lH];rfl;simp only[aK hP0,af];rw[lH,kW];rfl
theorem Mg (hl:fW l=true)(hL:l.length<=10^9)(hm:dk m=true)(d:Int)(w:Bool):∀(n a r f:Nat)(acc:ax (Int×Int)),r<=n->n<f->acc.length+n<=1000000->a<=9223372036854775807->
 aZ (mA (λ(zo:Int) (CX:Int) (Jn:dm) (Jo:dm)=>some (Jn,Jo,true)) (λ(F0:Int) (Jp:Int) (MB:dm) (Tv:dm) (Sy:Bool) (y19:dm) (y20:dm)=>some (MB,Tv,Sy)) l d w ([]:dm) ([]:dm) false m) f ((a:Int),(r:Int),acc.map (·.1),acc.map (·.2))
  =match mf l m d w n a r with|some q=>some ((acc++q).map (·.1),(acc++q).map (·.2),true)|none=>some ([],[],false)
 |n,a,r,0,acc,_,hf,_,_=>by omega
 |0,a,r,f+1,acc,hr,hf,hA,ha=>by rw[aZ];simp only[mA];rw[ie];simp[mf]
 |n+1,a,r,f+1,acc,hr,hf,hA,ha=>by
  have h64:=(mem_iff.1 hm).2;rw[aZ];simp only[mA,mf];by_cases h0:r=0;rw[ie,aI h0];simp;have e1:tdiv (a:Int) 128=((a/128:Nat):Int):=adG a 128;have e2:tmod (a:Int) 128=((a%128:Nat):Int):=Mr a 128;have zw:=Rv hl d ((a/128:Nat):Int) w;rw[az (show(r:Int)>0 by omega),az (show(a:Int)>=0 by omega),aK h0];simp only[af];rw[lH,e1,e2,ak (n:=((a/128:Nat):Int)) (by omega) (by omega),aiY l _ _ w hL,ab,lH,ak (n:=128-((a%128:Nat):Int)) (by omega) (by omega)];obtain⟨c,hc⟩:∃c,min (128-a%128) r=c:=⟨_,rfl⟩
  rw[hc,show(if 128-((a%128:Nat):Int)<(r:Int) then 128-((a%128:Nat):Int) else(r:Int))=(c:Int) by split<;>omega];generalize hP:vn l d ((a/128:Nat):Int) w=P at zw⊢;by_cases hP0:0<=P;have zw:=zw hP0;rw[aw (show¬P<0 by omega),ak (n:=P*128) (by omega) (by omega),Ij m _ _ (by omega),aaa hm hP0];simp only[ae,ab];by_cases hP1:P<(m.length:Int);rw[az hP1,aI ⟨hP0,hP1⟩];simp only[aj,ae];rw[bf (by simp;omega),bf (by simp;omega),ak (n:=P*128+((a%128:Nat):Int)) (by omega) (by omega),ak (n:=(a:Int)+(c:Int)) (by omega) (by omega),ak (n:=(r:Int)-(c:Int)) (by omega) (by omega)];have key:=Mg hl hL hm d w n (a+c) (r-c) f (acc++[(P*128+((a%128:Nat):Int),(c:Int))]) (by omega) (by omega) (by simp;omega) (by omega);rw[show((a+c:Nat):Int)=(a:Int)+(c:Int) by omega,show((r-c:Nat):Int)=(r:Int)-(c:Int) by omega,cS,cS]at key;refine Eq.trans key ?_;cases mf l m d w n (a+c) (r-c)with|none=>rfl|some q=>simp
  rw[aw hP1,lH];rfl;rw[lH,kW];rfl
def nW (l:ax aE)(m:bK)(d a n:Int)(w:Bool):ax (Int×Int)×Bool:=
 bif fW l&&(dk m&&dV n 0 4096) then
  (bif n==0 then([],true) else bif decide (a<0) then([],false) else match mf l m d w n.toNat a.toNat n.toNat with|some q=>(q,true)|none=>([],false))
 else([],false)
theorem Yt (l:ax aE)(m:bK)(d a n:Int)(w:Bool)(hl:l.length<=10^9)(hm:m.length<=10^9)(ha:a<=9223372036854775807):Bl l m d a n w=some (nW l m d a n w):=by
 have zj:=dD;unfold Bl nW;simp only[Lh l hl,Kj m hm,dI,ab];cases hB:fW l;rfl;cases hM:dk m;rfl;cases hN:dV n 0 4096;rfl;have hn:=aS.1 hN;simp only[aj,ae,ab,du,af];cases h0:n==0;case true=>rfl
 by_cases hA:a<0;rw[az hA];rfl;rw[aw hA];simp only[ae];obtain⟨a,rfl⟩:=au (show 0<=a by omega);obtain⟨n,rfl⟩:=au hn.1;rw[Ll hB hl hM d w n a n fuel [] (by omega) (by omega) (by simp;omega) (by omega)];simp only[aC];cases mf l m d w n a n<;>rfl
theorem U9 (l:ax aE)(m:bK)(d a n:Int)(w:Bool)(hl:l.length<=10^9)(hm:m.length<=10^9)(ha:a<=9223372036854775807):wh l m d a n w=some ((nW l m d a n w).1.map (·.1),(nW l m d a n w).1.map (·.2),(nW l m d a n w).2):=by
 have zj:=dD;unfold wh nW;simp only[Md l hl,GH m hm,cR,ab];cases hB:fW l;rfl;cases hM:dk m;rfl;cases hN:dV n 0 4096;rfl;have hn:=aS.1 hN;simp only[aj,ae,ab,du,af];obtain⟨n,rfl⟩:=au hn.1;cases h0:((n:Int)==0)with
 |true=>
  have:n=0:=by simpa using h0
  subst this;obtain⟨f,hf⟩:∃f,fuel=f+1:=⟨fuel-1,by omega⟩
  rw[hf,aZ];rfl
 |false=>
  have hn0:n≠0:=by simpa using h0
  by_cases hA:a<0;obtain⟨f,hf⟩:∃f,fuel=f+1:=⟨fuel-1,by omega⟩
  rw[az hA,hf,aZ];simp only[mA];rw[kW,ie];rfl;rw[aw hA];simp only[ae];obtain⟨a,rfl⟩:=au (show 0<=a by omega);refine Eq.trans (Mg hB hl hM d w n a n fuel [] (by omega) (by omega) (by simp;omega) (by omega)) ?_;simp only[aC];cases mf l m d w n a n<;>rfl
def B9 (x:Bytes)(o:Nat)(t:Bytes):Bytes:=x.take o++(t++x.drop (o+t.length))
theorem UG (h:o+t.length<=x.length):(B9 x o t).length=x.length:=by grind[B9]
theorem afv (x:Bytes)(o:Nat)(t:Bytes):aR (FG (dW x) o (dW t))=B9 x o t:=by
 have e:FG (dW x) o (dW t)=dW (B9 x o t):=by grind[FG,B9,dW,List.map_take,List.map_drop]
 rw[e,Qe]
theorem aix (h:o+t.length<=x.length):vz x (o:Int) t=B9 x o t:=by grind[vz,gv,B9]
def za:Nat->bK->Nat->Bytes->bK
 |0,m,_,_=>m
 |n+1,m,a,s=>if s.length=0 then m else
  za n (m.set (a/128) (B9 (m.getD (a/128) []) (a%128) (s.take (128-a%128)))) (a+min (128-a%128) s.length) (s.drop (128-a%128))
def Gv (m:bK):Prop:=(∀x∈m,x.length=128)/\m.length<=64
theorem sn:dk m=true↔Gv m:=mem_iff
theorem Nt {p:Nat}(h:Gv m)(hx:x.length=128):Gv (m.set p x):=by refine⟨λy hy=>?_,by rw[aL];exact h.2⟩;rcases List.mem_or_eq_of_mem_set hy with g|g;exact h.1 y g;rw[g];exact hx
theorem KG (h:Gv m)(hs:s.length≠0)(ha:a+s.length<=128*m.length): ∃(hp:a/128<m.length),(m[a/128]'hp).length=128/\(B9 (m[a/128]'hp) (a%128) (s.take (128-a%128))).length=128:=by
 have hp:a/128<m.length:=by omega
 have hl:=h.1 _ (bn hp);grind[UG]
theorem CV:∀(n:Nat){m:bK}{a:Nat}{s:Bytes},Gv m->a+s.length<=128*m.length->Gv (za n m a s)/\(za n m a s).length=m.length
 |0,m,a,s,h,_=>⟨h,rfl⟩
 |n+1,m,a,s,h,ha=>by rw[za];split;exact⟨h,rfl⟩;rename_i hs;obtain⟨hp,hl,ho⟩:=KG h hs ha;rw[fD hp];have:=CV n (m:=m.set (a/128) (B9 m[a/128] (a%128) (s.take (128-a%128)))) (a:=a+min (128-a%128) s.length) (s:=s.drop (128-a%128)) (Nt h ho) (by rw[aL,bA];omega);rw[aL]at this;exact this
theorem JE (K:Int->Bytes->bK->aA R)(K':bK->aA R)(hK:∀a m,K a [] m=K' m):∀(n:Nat)(m:bK)(a:Nat)(s:Bytes)(f:Nat),s.length<=n->n<f->Gv m->a+s.length<=128*m.length->
 aZ (oS K ([]:bK)) f ((a:Int),s,m)=K' (za n m a s)
 |n,m,a,s,0,_,hf,_,_=>by omega
 |n,m,a,s,f+1,hs,hf,hm,ha=>by
  rw[aZ];simp only[oS];by_cases h0:s.length=0;have:s=[]:=cb h0;subst this;rw[aw (by simp),ae,hK];cases n<;>simp[za];cases n with
  |zero=>omega
  |succ n=>
   obtain⟨hp,hl,ho⟩:=KG hm h0 ha;have h64:=hm.2;have e1:tdiv (a:Int) 128=((a/128:Nat):Int):=adG a 128;have e2:tmod (a:Int) 128=((a%128:Nat):Int):=Mr a 128;rw[kW,af,lH,e1,e2,ak (n:=((a/128:Nat):Int)) (by omega) (by omega),bw hp,ab,bf (by omega),lH];have sB:sub (dW m[a/128]) ((a%128:Nat):Int) ((dW m[a/128]).length:Int)=some ((dW m[a/128]).drop (a%128)):=by rw[PF _ _ _ (by rw[Lt];omega) (bc _),bZ (by rw[bA];exact bc _)]
   rw[sB,ab,lH,ab,ab];have hd:((dW m[a/128]).drop (a%128)).length=128-a%128:=by rw[bA,Lt,hl]
   rw[hd];have hdr:s.drop (min (128-a%128) s.length)=s.drop (128-a%128):=by by_cases h3:128-a%128<=s.length;rw[ko h3];rw[Nat.min_eq_right (by omega),cW (bc _),cW (by omega)]
   have am2:sub s (((min (128-a%128) s.length:Nat)):Int) ((s.length:Int))=some (s.drop (128-a%128)):=by rw[<-hdr];unfold sub;rw[zip];simp
   rw[am2,ab,ak (n:=(a:Int)+((min (128-a%128) s.length:Nat):Int)) (by omega) (by omega),aC,aC,afv];rw[za,aK h0,fD hp,show(a:Int)+((min (128-a%128) s.length:Nat):Int)=((a+min (128-a%128) s.length:Nat):Int) by omega];exact JE K K' hK n _ _ _ f (by rw[bA];omega) (by omega) (Nt hm ho) (by rw[aL,bA];omega)
theorem JN (K:Int->Bytes->bK->aA R)(K':bK->aA R)(hK:∀a m,K a [] m=K' m):∀(n:Nat)(m:bK)(a:Nat)(s:Bytes)(f:Nat),s.length<=n->n<f->Gv m->a+s.length<=128*m.length->
 aZ (pa K ([]:bK)) f ((a:Int),s,m)=K' (za n m a s)
 |n,m,a,s,0,_,hf,_,_=>by omega
 |n,m,a,s,f+1,hs,hf,hm,ha=>by
  rw[aZ];simp only[pa];by_cases h0:s.length=0;have:s=[]:=cb h0;subst this;rw[aw (by simp),ae,hK];cases n<;>simp[za];cases n with
  |zero=>omega
  |succ n=>
   obtain⟨hp,hl,ho⟩:=KG hm h0 ha;have h64:=hm.2;have e1:tdiv (a:Int) 128=((a/128:Nat):Int):=adG a 128;have e2:tmod (a:Int) 128=((a%128:Nat):Int):=Mr a 128;rw[kW,af,lH,lH,lH,e1,e2,ak (n:=((a/128:Nat):Int)) (by omega) (by omega),ak (n:=128-((a%128:Nat):Int)) (by omega) (by omega),bw hp,ab];obtain⟨c,hc⟩:∃c,min (128-a%128) s.length=c:=⟨_,rfl⟩
   rw[show(if 128-((a%128:Nat):Int)<(s.length:Int) then 128-((a%128:Nat):Int) else(s.length:Int))=(c:Int) by split<;>omega];have ht:s.take c=s.take (128-a%128):=by by_cases h3:128-a%128<=s.length;rw[<-hc,ko h3];rw[<-hc,Nat.min_eq_right (by omega),bZ (bc _),bZ (by omega)]
   have hdr:s.drop c=s.drop (128-a%128):=by by_cases h3:128-a%128<=s.length;rw[<-hc,ko h3];rw[<-hc,Nat.min_eq_right (by omega),cW (bc _),cW (by omega)]
   have hs1:sub s 0 (c:Int)=some (s.take (128-a%128)):=by rw[<-ht];unfold sub;rw[zip];simp
   have hs2:sub s (c:Int) (s.length:Int)=some (s.drop (128-a%128)):=by rw[<-hdr];unfold sub;rw[zip];simp
   rw[hs1,ab,EG _ _ _ (by omega),ab,ab,ab,hs2,ab,aix (by rw[bt,hl];omega),ak (n:=(a:Int)+(c:Int)) (by omega) (by omega),aC];rw[za,aK h0,fD hp,hc,show(a:Int)+(c:Int)=((a+c:Nat):Int) by omega];exact JN K K' hK n _ _ _ f (by rw[bA];omega) (by omega) (Nt hm ho) (by rw[aL,bA];omega)
def oo (m:bK)(a:Int)(s:Bytes):bK×Bool:=bif iG m a (s.length:Int) then(za s.length m a.toNat s,true) else(m,false)
theorem abe (m:bK)(a:Int)(s:Bytes)(h:m.length<=10^9)(hs:s.length<=10^9):uD m a s=some (oo m a s):=by have zj:=dD;unfold uD oo;rw[hU m,ab,HT m _ _ h,ab];cases hw:iG m a (s.length:Int);rfl;simp only[iG,ah,bE]at hw;obtain⟨a,rfl⟩:=au hw.2.2.1;simp only[aj,ae,af,aC];exact JE _ (λm=>some (m,true)) (λ_ _=>rfl) s.length m a s fuel (bc _) (by omega) (sn.1 hw.1) (by omega)
theorem ack (m:bK)(a:Int)(s:Bytes)(h:m.length<=10^9)(hs:s.length<=10^9):uY m a s=some (oo m a s):=by have zj:=dD;unfold uY oo;rw[ju m,ab,Ij m _ _ h,ab];cases hw:iG m a (s.length:Int);rfl;simp only[iG,ah,bE]at hw;obtain⟨a,rfl⟩:=au hw.2.2.1;simp only[aj,ae,af,aC];exact JN _ (λm=>some (m,true)) (λ_ _=>rfl) s.length m a s fuel (bc _) (by omega) (sn.1 hw.1) (by omega)
theorem Iw (m:bK)(a:Int)(s:Bytes):(oo m a s).1.length=m.length:=by grind[oo,iG,CV,sn]
def Jl:ax (Int×Int)->bK->Bytes->bK
 |[],m,_=>m
 |p::q,m,s=>Jl q (oo m p.1 (s.take p.2.toNat)).1 (s.drop p.2.toNat)
theorem Za:∀(q:ax (Int×Int))(m:bK)(s:Bytes),(Jl q m s).length=m.length
 |[],m,s=>rfl
 |p::q,m,s=>by rw[Jl,Za q,Iw]
def Tn (q:ax (Int×Int)):Int:=(q.map (·.2)).sum
theorem adC:∀(q:ax (Int×Int)),(∀p∈q,0<=p.2)->0<=Tn q
 |[],_=>iH _
 |p::q,h=>by have:=adC q (λx hx=>h x (by simp[hx]));grind[Tn]
theorem Zf {p:Int×Int}{q:ax (Int×Int)}(hc:∀x∈p::q,0<=x.2)(hs:(s.length:Int)=Tn (p::q)):0<=p.2/\p.2<=(s.length:Int)/\((s.drop p.2.toNat).length:Int)=Tn q:=by have h1:=hc p (by simp);have h2:=adC q (λx hx=>hc x (by simp[hx]));grind[Tn]
theorem Vi (h0:0<=c)(h1:c<=(s.length:Int)):sub s 0 c=some (s.take c.toNat):=by grind[sub]
theorem ZR (h0:0<=c)(h1:c<=(s.length:Int)):sub s c (s.length:Int)=some (s.drop c.toNat):=by simp_all[sub]
theorem Od (K:Bytes->Int->bK->aA (bK×Bool))(hK:∀s i m,K s i m=some (m,true)):∀(rest pre:ax (Int×Int))(m:bK)(s:Bytes)(f:Nat),rest.length<f->pre.length+rest.length<=1000000->(∀x∈rest,0<=x.2)->(s.length:Int)=Tn rest->m.length<=10^9->s.length<=1000000->
 aZ (Bk K (pre++rest) ((pre++rest).length:Int) ([]:bK)) f (s,(pre.length:Int),m)=some (Jl rest m s,true)
 |rest,pre,m,s,0,hf,_,_,_,_,_=>by omega
 |[],pre,m,s,f+1,_,_,_,_,_,_=>by rw[aZ];simp only[Bk];rw[aw (by simp),ae,hK];rfl
 |p::q,pre,m,s,f+1,hf,hn,hc,hs,hm,hl=>by
  obtain⟨h1,h2,h3⟩:=Zf hc hs;simp only[bp]at hf hn;have hi:pre.length<(pre++p::q).length:=by simp
  have hp:(pre++p::q)[pre.length]=p:=by simp
  rw[aZ];simp only[Bk];rw[az (by simp;omega),bw hi,hp,ak (by omega) (by omega)];simp only[af,ab,Vi h1 h2,ZR h1 h2,abe m _ _ hm (show(s.take p.2.toNat).length<=10^9 by rw[bt];omega)];have key:=Od K hK q (pre++[p]) (oo m p.1 (s.take p.2.toNat)).1 (s.drop p.2.toNat) f (by omega) (by simp;omega) (λx hx=>hc x (by simp[hx])) h3 (by rw[Iw];exact hm) (by rw[bA];omega);grind[Jl]
theorem OC (K:Bytes->Int->bK->aA (bK×Bool))(hK:∀s i m,K s i m=some (m,true)):∀(rest pre:ax (Int×Int))(m:bK)(s:Bytes)(f:Nat),rest.length<f->pre.length+rest.length<=1000000->(∀x∈rest,0<=x.2)->(s.length:Int)=Tn rest->m.length<=10^9->s.length<=1000000->
 aZ (pP K ((pre++rest).map (·.1)) ((pre++rest).map (·.2)) ([]:bK)) f (s,(pre.length:Int),m)=some (Jl rest m s,true)
 |rest,pre,m,s,0,hf,_,_,_,_,_=>by omega
 |[],pre,m,s,f+1,_,_,_,_,_,_=>by rw[aZ];simp only[pP];rw[aw (by simp),ae,hK];rfl
 |p::q,pre,m,s,f+1,hf,hn,hc,hs,hm,hl=>by
  obtain⟨h1,h2,h3⟩:=Zf hc hs;simp only[bp]at hf hn;have hi:pre.length<(pre++p::q).length:=by simp
  have hp:(pre++p::q)[pre.length]=p:=by simp
  have i1:idx ((pre++p::q).map (·.1)) (pre.length:Int)=some p.1:=by grind[bw]
  have i2:idx ((pre++p::q).map (·.2)) (pre.length:Int)=some p.2:=by grind[bw]
  rw[aZ];simp only[pP];rw[az (by simp;omega),i1,i2,ak (by omega) (by omega)];simp only[af,ab,Vi h1 h2,ZR h1 h2,ack m _ _ hm (show(s.take p.2.toNat).length<=10^9 by rw[bt];omega)];have key:=OC K hK q (pre++[p]) (oo m p.1 (s.take p.2.toNat)).1 (s.drop p.2.toNat) f (by omega) (by simp;omega) (λx hx=>hc x (by simp[hx])) h3 (by rw[Iw];exact hm) (by rw[bA];omega);grind[Jl]
theorem RA (l:ax aE)(m:bK)(d:Int)(w:Bool):∀(n a r:Nat)(q:ax (Int×Int)),r<=n->mf l m d w n a r=some q->Tn q=(r:Int)/\(∀p∈q,0<=p.2)/\q.length<=n
 |0,a,r,q,hr,h=>by simp only[mf,br]at h;subst h;exact⟨by show(0:Int)=_;omega,by simp,by simp⟩
 |n+1,a,r,q,hr,h=>by simp only[mf]at h;split at h;simp only[br]at h;subst h;exact⟨by show(0:Int)=_;omega,by simp,by simp⟩;split at h;simp only[Option.map_eq_some_iff]at h;obtain⟨q',h1,rfl⟩:=h;obtain⟨i1,i2,i3⟩:=RA l m d w n _ _ q' (by omega) h1;refine⟨?_,?_,by simp only[bp];omega⟩;simp only[Tn,fb,List.sum_cons]at i1⊢;rw[i1];omega;intro p hp;rcases cy.1 hp with rfl|hp;show(0:Int)<=((min (128-a%128) r:Nat):Int);omega;exact i2 p hp;cases h
theorem U0 (l:ax aE)(m:bK)(d a n:Int)(w:Bool)(h:(nW l m d a n w).2=true):Tn (nW l m d a n w).1=n/\(∀p∈(nW l m d a n w).1,0<=p.2)/\(nW l m d a n w).1.length<=4096/\n<=4096:=by
 unfold nW at h⊢;cases hB:fW l&&(dk m&&dV n 0 4096)with|false=>grind|true=>?_
 rw[hB]at h;simp only[ah,aS]at hB;simp only[af]at h⊢;cases h0:n==0 with
 |true=>
  have:n=0:=by simpa using h0
  subst this;exact⟨rfl,by simp,by simp,by omega⟩
 |false=>rw[h0]at h;simp only[ae]at h⊢;cases ha:decide (a<0)with|true=>grind|false=>rw[ha]at h;simp only[ae]at h⊢;cases hq:mf l m d w n.toNat a.toNat n.toNat with|none=>grind|some q=>obtain⟨i1,i2,i3⟩:=RA l m d w _ _ _ q (bc _) hq;grind
def jF (l:ax aE)(m:bK)(d a:Int)(s:Bytes)(w:Bool):bK×Bool:=
 bif (nW l m d a (s.length:Int) w).2 then(Jl (nW l m d a (s.length:Int) w).1 m s,true) else(m,false)
theorem nT (l:ax aE)(m:bK)(d a:Int)(s:Bytes)(w:Bool):(jF l m d a s w).1.length=m.length:=by grind[jF,Za]
theorem Ys (l:ax aE)(m:bK)(d a:Int)(s:Bytes)(w:Bool)(hl:l.length<=10^9)(hm:m.length<=10^9)(ha:a<=9223372036854775807):HW l m d a s w=some (jF l m d a s w):=by have zj:=dD;unfold HW jF;rw[hU m,ab,Yt l m d a _ w hl hm ha,ab];have hS:=U0 l m d a (s.length:Int) w;generalize nW l m d a (s.length:Int) w=r at hS⊢;cases hr:r.2;rfl;obtain⟨h1,h2,h3,h4⟩:=hS hr;simp only[aj,ae,af];exact Od _ (λ_ _ _=>rfl) r.1 [] m s fuel (by omega) (by simp;omega) h2 h1.symm hm (by omega)
theorem Cw (l:ax aE)(m:bK)(d a:Int)(s:Bytes)(hl:l.length<=10^9)(hm:m.length<=10^9)(ha:a<=9223372036854775807):oA l m d a s=some (jF l m d a s true):=by have zj:=dD;unfold oA jF;rw[U9 l m d a _ true hl hm ha,ab,ju m,ab];have hS:=U0 l m d a (s.length:Int) true;generalize nW l m d a (s.length:Int) true=r at hS⊢;cases hr:r.2;rfl;obtain⟨h1,h2,h3,h4⟩:=hS hr;simp only[aj,ae,af];exact OC _ (λ_ _ _=>rfl) r.1 [] m s fuel (by omega) (by simp;omega) h2 h1.symm hm (by omega)
theorem Gf (l:ax aE)(m:bK)(d a:Int)(s:Bytes)(hl:l.length<=10^9)(hm:m.length<=10^9)(ha:a<=9223372036854775807):se l m d a s=some (jF l m d a s true):=by simp_all[se,Ys]
def wrM (x:aE):aE:=(x.1,x.2.1,x.2.2.1,true)
theorem getD_map {i:Nat}(hi:i<l.length):(l.map wrM).getD i Wk=wrM (l.getD i Wk):=by grind
theorem Wl (l:ax aE):fW (l.map wrM)=fW l:=by
 unfold fW;rw[bX];congr 1;rw[gx,aO,aO];have key:∀i,i<l.length->Wi (l.map wrM) i=Wi l i:=by
  intro i hi;unfold Wi;rw[getD_map hi];congr 1;rw[gx,aO,aO];constructor;intro h j hj;have hjl:j<l.length:=by have:=cP.1 hj;omega
  have:=h j hj;rw[getD_map hjl]at this;exact this;intro h j hj;have hjl:j<l.length:=by have:=cP.1 hj;omega
  rw[getD_map hjl];exact h j hj
 constructor;intro h i hi;rw[<-key i (cP.1 hi)];exact h i hi;intro h i hi;rw[key i (cP.1 hi)];exact h i hi
theorem ais (l:ax aE)(d p:Int):vn (l.map wrM) d p true=vn l d p false:=by grind[vn,Wj,wrM,xx,List.findIdx?_eq_some_iff_getElem]
theorem UK (l:ax aE)(m:bK)(d:Int):∀n a r,mf (l.map wrM) m d true n a r=mf l m d false n a r
 |0,a,r=>rfl
 |n+1,a,r=>by simp only[mf,ais,UK l m d n]
theorem akf (l:ax aE)(m:bK)(d a:Int)(s:Bytes):jF (l.map wrM) m d a s true=jF l m d a s false:=by
 have e:nW (l.map wrM) m d a (s.length:Int) true=nW l m d a (s.length:Int) false:=by simp only[nW,Wl,UK]
 simp only[jF,e]
theorem JM (l:ax aE)(m:bK)(d a:Int)(s:Bytes)(hl:l.length<=10^9)(hm:m.length<=10^9)(ha:a<=9223372036854775807):tZ l m d a s=some (jF l m d a s false):=by unfold tZ;refine dA (λi=>((l.take i).map wrM,(i:Int))) l.length (by omega) (λi nx hi=>?_) (λnx=>?_);simp only[tf];rw[kW,bw hi,ak (by omega) (by omega)];simp only[af,ab];rw[bf (by simp;omega),bz hi,cS];rfl;simp only[tf];rw[ie,ae,cQ,Cw _ m d a s (by rw[bX];exact hl) hm ha,akf];rfl
theorem JD (l:ax aE)(m:bK)(d a:Int)(s:Bytes)(hl:l.length<=10^9)(hm:m.length<=10^9)(ha:a<=9223372036854775807:=by omega):mK l m d a s=some (jF l m d a s false):=by simp_all[mK,Ys]
def mr (d:Dd):Bool:=dV d.1 0 3&&(dV d.2.1 0 3&&(dV d.2.2.1 0 65535&&(dV d.2.2.2.2.1 0 65535&&(dV d.2.2.2.2.2 0 65535&&dV d.2.2.2.1 0 4294967295))))
theorem Yn (d:Dd):Bh d=some (mr d):=by simp only[Bh,dI,ab,mr];cases dV d.1 0 3<;>cases dV d.2.1 0 3<;>cases dV d.2.2.1 0 65535<;>cases dV d.2.2.2.2.1 0 65535<;>cases dV d.2.2.2.2.2 0 65535<;>rfl
theorem L8 (d:Dd):tW d=some (mr d):=by simp only[tW,cR,ab,mr];cases dV d.1 0 3<;>cases dV d.2.1 0 3<;>cases dV d.2.2.1 0 65535<;>cases dV d.2.2.2.2.1 0 65535<;>cases dV d.2.2.2.2.2 0 65535<;>rfl
def gJ (d:Dd):Bytes:=
 bif mr d then((((aR [gR d.1,gR d.2.1]++aF d.2.2.1)++cn d.2.2.2.1)++aF d.2.2.2.2.1)++aF d.2.2.2.2.2)++cn 0 else []
theorem WG (d:Dd):nA d=some (gJ d):=by have h1:=bR d.2.2.1;have h2:=eR d.2.2.2.1;have h3:=bR d.2.2.2.2.1;have h4:=bR d.2.2.2.2.2;have h5:=eR 0;have h0:(aR [gR d.1,gR d.2.1]).length=2:=rfl;unfold nA gJ;rw[L8,ab];cases mr d;all_goals simp(disch:=omega)[ja,mS,bf]
theorem V9 (d:Dd):nw d=some (gJ d):=by have h1:=bR d.2.2.1;have h2:=eR d.2.2.2.1;have h3:=bR d.2.2.2.2.1;have h4:=bR d.2.2.2.2.2;have h5:=eR 0;have h0:(aR [gR d.1,gR d.2.1]).length=2:=rfl;unfold nw gJ;rw[Yn,ab];cases mr d;all_goals simp(disch:=omega)[mJ,Dy,bf]
def oH (r:mn):Int:=bif dR r then ar (r.2.1-cw r) else 0
def tU (r:mn)(c:Int):Int:=bif !dR r||decide (c<0) then-1 else r.1+tmod c r.2.1*16
theorem ng (h:dR r=true):0<=r.1/\r.1<=130944/\(r.2.1=2\/r.2.1=4\/r.2.1=8\/r.2.1=16)/\0<=r.2.2.1/\r.2.2.1<=2*r.2.1-1/\0<=r.2.2.2/\r.2.2.2<=2*r.2.1-1:=by grind[dR,aS,iK]
theorem FR (r:mn)(c:Int): -1<=tU r c/\tU r c<=200000:=by unfold tU;cases hc: !dR r||decide (c<0)with|true=>grind|false=>simp only[de,eY,dh]at hc;have h:=ng hc.1;grind
def dr (l:ax aE)(m:bK)(d:Int)(r:mn)(s:Bytes):bK×mn×Bool:=
 bif (oH r==0)||((s.length:Int) !=16) then(m,r,false) else
 bif !(jF l m d (tU r r.2.2.2) s true).2 then(m,r,false) else
 ((jF l m d (tU r r.2.2.2) s true).1,(r.1,r.2.1,r.2.2.1,tmod (r.2.2.2+1) (2*r.2.1)),true)
theorem UN {a:Int}{w:Bool}(h:(jF l m d a s w).2=false):(jF l m d a s w).1=m:=by grind[jF]
theorem I7 (r:mn):sy r=some (oH r):=by grind[sy,oH,Bu,ab,DQ]
theorem Vc (r:mn)(c:Int):qa r c=some (tU r c):=by
 have zw:=FR r c;unfold qa;rw[Bu,ab];unfold tU at zw⊢;cases hb:dR r;rfl;have h:=ng hb;by_cases hc:c<0;rw[az hc];rfl;rw[hb,aw hc]at zw;rw[aw hc];have h2:0<=tmod c r.2.1/\tmod c r.2.1<r.2.1:=by rw[eM (by omega)];exact⟨Int.emod_nonneg _ (by omega),im _ (by omega)⟩
 simp only[aj,ae,ab,bN]at zw⊢;rw[lH,ak (n:=16*tmod c r.2.1) (by omega) (by omega),ak (by omega) (by omega)];congr 1;omega
theorem OD (l:ax aE)(m:bK)(d:Int)(r:mn)(s:Bytes)(hl:l.length<=10^9)(hm:m.length<=10^9):yK l m d r s=some (dr l m d r s):=by
 have hA:=FR r r.2.2.2;unfold yK dr;simp only[I7,ab,Vc,Cw l m d _ s hl hm (show tU r r.2.2.2<=9223372036854775807 by omega),ju m (show m.length<=1073741824 by omega)];cases hf:oH r==0;case true=>rfl
 cases (s.length:Int) !=16;case true=>rfl
 have hb:dR r=true:=by grind[oH]
 have h:=ng hb;grind[ab,ak]
theorem Uh (r:mn):vN r=some (oH r):=by grind[vN,oH,Bg,ab,Dw]
theorem Ul (r:mn)(c:Int):pA r c=some (tU r c):=by
 have zw:=FR r c;unfold pA;rw[Bg,ab];unfold tU at zw⊢;cases hb:dR r;rfl;have h:=ng hb;by_cases hc:c<0;rw[az hc];rfl;rw[hb,aw hc]at zw;rw[aw hc];have h2:0<=tmod c r.2.1/\tmod c r.2.1<r.2.1:=by rw[eM (by omega)];exact⟨Int.emod_nonneg _ (by omega),im _ (by omega)⟩
 simp only[aj,ae,ab,bN]at zw⊢;rw[lH,ak (n:=tmod c r.2.1*16) (by omega) (by omega),ak (by omega) (by omega)]
theorem Oe (l:ax aE)(m:bK)(d:Int)(r:mn)(s:Bytes)(hl:l.length<=10^9)(hm:m.length<=10^9):yc l m d r s=some (dr l m d r s):=by
 have hA:=FR r r.2.2.2;unfold yc dr;simp only[Uh,ab,Ul,Gf l m d _ s hl hm (show tU r r.2.2.2<=9223372036854775807 by omega),hU m (show m.length<=1073741824 by omega)];cases hf:oH r==0;case true=>rfl
 cases (s.length:Int) !=16;case true=>rfl
 have hb:dR r=true:=by grind[oH]
 have h:=ng hb;grind[ab,UN,ak]
theorem Gx (h:dL p=true):0<=p.1/\p.1<=130944/\1<=p.2.1/\p.2.1<=512/\0<=p.2.2.1/\p.2.2.1<=16:=by grind[dL,aS]
def kV (p:dq)(i:Int):Int:=bif !dL p|| !dV i 0 (p.2.2.1-1) then-1 else p.1+i*p.2.1
theorem acO {i:Int}(hp:dL p=true)(hi:dV i 0 (p.2.2.1-1)=true):ar (p.1+ar (i*p.2.1))=p.1+i*p.2.1:=by have h:=Gx hp;have h2:=aS.1 hi;have h3:0<=i*p.2.1:=Int.mul_nonneg h2.1 (by omega);have h4:i*p.2.1<=16*512:=Int.mul_le_mul (by omega) (by omega) (by omega) (by omega);grind[ak]
theorem R1 (p:dq)(i:Int)(h:p.2.2.2.length<=10^9):ky p i=some (kV p i):=by grind[ky,kV,vT,ab,dL,ak,cR,dV,acO]
theorem Lc (p:dq)(i:Int)(h:p.2.2.2.length<=10^9):gX p i=some (kV p i):=by grind[gX,kV,Bf,ab,dL,ak,dI,dV,acO]
def upto (n:Nat):dm:=(range n).map Int.ofNat
theorem ags (n:Nat):upto (n+1)=upto n++[(n:Int)]:=by simp[upto,List.range_succ]
theorem ajd {n i:Nat}(h:i<n):(upto n).getD i 0=(i:Int):=by grind[upto]
theorem abT (a b:Int)(n:Nat)(hn:n<=16):dL (a,b,(n:Int),upto n)=dL (a,b,(n:Int),[]):=by
 unfold dL;congr 3;have h1:(range (upto n).length).all (Dm (n:Int) (upto n))=true:=by
  rw[aO];intro i hi;have hi:i<n:=by simpa[upto]using hi
  simp only[Dm,ajd hi,ah,aS,aP];refine⟨by omega,?_⟩;rw[Bool.eq_false_iff,ne_eq,List.contains_iff_mem];intro hm;simp only[upto,<-List.map_take,dZ]at hm;grind
 rw[h1];rfl
def mP (a b n:Int):dq×Bool:=bif dL (a,b,n,[]) then((a,b,n,upto n.toNat),true) else((0,0,0,[]),false)
theorem OB (a b n:Int):yH a b n=some (mP a b n):=by
 have zj:=dD;unfold yH mP;by_cases hn:0<=n/\n<=16;obtain⟨n,rfl⟩:=au hn.1;have MD:n<=16:=by omega
 refine dA (λi=>((i:Int),a,b,(n:Int),upto i)) n (by omega) (λi nx hi=>?_) (λnx=>?_);simp only[rE];rw[az (show(i:Int)<n by omega),az (show(n:Int)<=16 by omega)];simp only[af,ab];rw[bf (by simp[upto];omega),ak (by omega) (by omega),ags];rfl;simp only[rE];rw[aw (show¬(n:Int)<n by omega)];simp only[ae,ab,vT (a,b,(n:Int),upto n) (show(upto n).length<=10^9 by simp[upto];omega),abT a b n MD,aC];cases dL (a,b,(n:Int),[])<;>rfl;have hb:dL (a,b,n,[])=false:=by cases hp:dL (a,b,n,[])with|false=>rfl|true=>have:=Gx hp;exact absurd ⟨this.2.2.2.2.1,this.2.2.2.2.2⟩ hn
 obtain⟨f,hf⟩:∃f,fuel=f+1:=⟨fuel-1,by omega⟩
 rw[hf,aZ];simp only[rE];have hc:(cond (decide ((0:Int)<n)) (some (decide (n<=16))) (some false))=some false:=by by_cases h0:(0:Int)<n;rw[az h0,ie];rfl;rw[aw h0];rfl
 rw[hc];simp only[ab,ae,vT (a,b,n,[]) (show([]:dm).length<=10^9 by simp),hb];rfl
def gC (p:dq)(b:Int):Bytes:=gJ (3,0,p.2.1,kV p b,0,b)
def lL (l:ax aE)(d:Int)(p:dq):dm->bK->mn->Nat×bK×mn
 |[],m,r=>(0,m,r)
 |b::q,m,r=>bif (dr l m d r (gC p b)).2.2 then
   ((lL l d p q (dr l m d r (gC p b)).1 (dr l m d r (gC p b)).2.1).1+1,(lL l d p q (dr l m d r (gC p b)).1 (dr l m d r (gC p b)).2.1).2)
  else(0,m,r)
theorem yv (l:ax aE)(m:bK)(d:Int)(r:mn)(s:Bytes):(dr l m d r s).1.length=m.length:=by grind[dr,nT]
theorem MU (l:ax aE)(d:Int)(p:dq):∀(q:dm)(m:bK)(r:mn),(lL l d p q m r).2.1.length=m.length/\(lL l d p q m r).1<=q.length
 |[],m,r=>⟨rfl,bc _⟩
 |b::q,m,r=>by rw[lL];cases (dr l m d r (gC p b)).2.2 with|false=>grind|true=>have:=MU l d p q (dr l m d r (gC p b)).1 (dr l m d r (gC p b)).2.1;grind[yv]
theorem XQ (r:mn):0<=oH r:=by unfold oH;cases hb:dR r with|false=>exact iH _|true=>have h:=ng hb;grind[dR,cw,ak]
theorem Wt (h:¬oH r>0):dr l m d r s=(m,r,false):=by have h0:=XQ r;grind[dr]
theorem Lf (K:Int->Int->mn->bK->aA R)(K':Nat->mn->bK->aA R)(hK:∀(c:Nat) i r m,K (c:Int) i r m=K' c r m)(l:ax aE)(d:Int)(p p2 p3:dq)(hp:p.2.2.2.length<=10^9)(hl:l.length<=10^9):∀(rest pre:dm)(m:bK)(r:mn)(f:Nat),rest.length<f->pre.length+rest.length<=10^9->m.length<=10^9->
 aZ (pt K l d (pre++rest) ((pre++rest).length:Int) p ([]:bK) (0,0,0,0) p2 p3) f ((pre.length:Int),(pre.length:Int),r,m)=K' (pre.length+(lL l d p rest m r).1) (lL l d p rest m r).2.2 (lL l d p rest m r).2.1
 |rest,pre,m,r,0,hf,_,_=>by omega
 |[],pre,m,r,f+1,_,_,_=>by rw[aZ];simp only[pt];rw[aw (by simp),ae,hK];rfl
 |b::q,pre,m,r,f+1,hf,hn,hm=>by
  simp only[bp]at hf hn;have hi:pre.length<(pre++b::q).length:=by simp
  have hb:(pre++b::q)[pre.length]=b:=by simp
  rw[aZ];simp only[pt];rw[az (by simp;omega),bw hi,hb];simp only[af,ab,Lc p b hp,V9,Oe l m d r _ hl hm];rw[show gJ (3,0,p.2.1,kV p b,0,b)=gC p b from rfl,lL];cases hq:(dr l m d r (gC p b)).2.2 with|false=>grind|true=>simp only[aj,ae,af];rw[ak (n:=(pre.length:Int)+1) (by omega) (by omega)];have key:=Lf K K' hK l d p p2 p3 hp hl q (pre++[b]) (dr l m d r (gC p b)).1 (dr l m d r (gC p b)).2.1 f (by omega) (by simp;omega) (by rw[yv];exact hm);grind
theorem Ma (K:Int->mn->bK->dq->aA R)(l:ax aE)(d:Int)(p p2:dq)(hp:p.2.2.2.length<=10^9)(hl:l.length<=10^9)(A B C:Int):∀(rest:dm)(c:Nat)(m:bK)(r:mn)(f:Nat),rest.length<f->c+rest.length<=10^9->m.length<=10^9->
 aZ (pQ K l d p ([]:bK) (0,0,0,0) p2) f ((c:Int),r,m,A,B,C,rest)=K ((c+(lL l d p rest m r).1:Nat):Int) (lL l d p rest m r).2.2 (lL l d p rest m r).2.1 (A,B,C,rest.drop (lL l d p rest m r).1)
 |rest,c,m,r,0,hf,_,_=>by omega
 |[],c,m,r,f+1,_,_,_=>by
  rw[aZ];simp only[pQ,I7,ab];have hc:(cond (decide (oH r>0)) (some (decide ((([]:dm).length:Int)>0))) (some false))=some false:=by cases decide (oH r>0)<;>rfl
  rw[hc];rfl
 |b::q,c,m,r,f+1,hf,hn,hm=>by
  simp only[bp]at hf hn;rw[aZ];simp only[pQ,I7,ab];by_cases hr:oH r>0;rw[az hr,az (show(((b::q).length:Nat):Int)>0 by simp)];have hi:idx (b::q) 0=some b:=rfl;have hs:sub (b::q) 1 ((b::q).length:Int)=some q:=by unfold sub;rw[aI (by simp;omega)];simp
  simp only[af,ab,hi,R1 p b hp,WG,OD l m d r _ hl hm];rw[show gJ (3,0,p.2.1,kV p b,0,b)=gC p b from rfl,lL];cases hq:(dr l m d r (gC p b)).2.2 with|false=>rfl|true=>simp only[aj,ae,af,hs,ab];rw[gL (by omega),ak (n:=(c:Int)+1) (by omega) (by omega),bU];have key:=Ma K l d p p2 hp hl A B C q (c+1) (dr l m d r (gC p b)).1 (dr l m d r (gC p b)).2.1 f (by omega) (by omega) (by rw[yv];exact hm);rw[show((c+1:Nat):Int)=(c:Int)+1 by omega]at key;refine Eq.trans key ?_;rw[show c+1+(lL l d p q (dr l m d r (gC p b)).1 (dr l m d r (gC p b)).2.1).1=c+((lL l d p q (dr l m d r (gC p b)).1 (dr l m d r (gC p b)).2.1).1+1) by omega];rfl
  rw[aw hr,lL,Wt hr];rfl
def qu (l:ax aE)(m:bK)(d:Int)(r:mn)(p:dq):bK×mn×dq×Int:=
 bif !dR r|| !dL p then(m,r,p,0) else
 ((lL l d p p.2.2.2 m r).2.1,(lL l d p p.2.2.2 m r).2.2,(p.1,p.2.1,p.2.2.1,p.2.2.2.drop (lL l d p p.2.2.2 m r).1),((lL l d p p.2.2.2 m r).1:Int))
theorem ahH (l:ax aE)(m:bK)(d:Int)(r:mn)(p:dq)(hl:l.length<=10^9)(hm:m.length<=10^9)(hp:p.2.2.2.length<=10^9):si l m d r p=some (qu l m d r p):=by have zj:=dD;unfold si qu;simp only[hU m (show m.length<=1073741824 by omega),xm p hp,Bg,Bf p hp,ab];cases dR r;rfl;cases dL p;rfl;simp only[aj,ae,ab,bN];have hlen:=(MU l d p p.2.2.2 m r).2;refine(Lf _ (λc r m=>aa (sub p.2.2.2 (c:Int) (p.2.2.2.length:Int)) λx14=>aa (ic x14) λBr=>some (m,r,(p.1,p.2.1,p.2.2.1,Br),(c:Int))) (λ_ _ _ _=>rfl) l d p _ p hp hl p.2.2.2 [] m r fuel (by omega) (by simp;omega) hm).trans ?_;grind[PF,ab,qt]
theorem ZD (l:ax aE)(m:bK)(d:Int)(r:mn)(p:dq)(hl:l.length<=10^9)(hm:m.length<=10^9)(hp:p.2.2.2.length<=10^9):vV l m d r p=some (qu l m d r p):=by have zj:=dD;unfold vV qu;simp only[ju m (show m.length<=1073741824 by omega),zL p hp,Bu,vT p hp,ab];cases dR r;rfl;cases dL p;rfl;simp only[aj,ae,ab,bN];refine(Ma _ l d p _ hp hl p.1 p.2.1 p.2.2.1 p.2.2.2 0 m r fuel (by omega) (by omega) hm).trans ?_;rw[cJ]
theorem Rz (l:ax aE)(m:bK)(d:Int)(w:Bool):∀(n a r:Nat)(q:ax (Int×Int)),mf l m d w n a r=some q->q.length<=n
 |0,a,r,q,h=>by simp only[mf,br]at h;subst h;simp
 |n+1,a,r,q,h=>by simp only[mf]at h;split at h;simp only[br]at h;subst h;simp;split at h;simp only[Option.map_eq_some_iff]at h;obtain⟨q',h1,rfl⟩:=h;have:=Rz l m d w n _ _ q' h1;simp only[bp];omega;cases h
theorem I3 (l:ax aE)(m:bK)(d a n:Int)(w:Bool):(nW l m d a n w).1.length<=4096:=by
 unfold nW;cases hB:fW l&&(dk m&&dV n 0 4096);simp;simp only[ah,aS]at hB;simp only[af];cases n==0;case true=>simp
 cases decide (a<0);case true=>simp
 simp only[ae];split;rename_i q hq;have:=Rz _ _ _ _ _ _ _ _ hq;show q.length<=4096;omega;simp
def lp (m:bK)(p:Int×Int):Bytes:=bif iG m p.1 p.2 then Bs m p.1.toNat p.2.toNat else []
theorem E1 (m:bK)(p:Int×Int):(lp m p).length<=8192:=by grind[lp,iG,aiB,mem_iff]
theorem tR (m:bK):∀q:ax (Int×Int),(q.flatMap (lp m)).length<=8192*q.length
 |[]=>by simp
 |p::q=>by have:=tR m q;grind[E1]
def pq (l:ax aE)(m:bK)(d a n:Int):Bytes×Bool:=
 bif (nW l m d a n false).2 then((nW l m d a n false).1.flatMap (lp m),true) else([],false)
theorem K0 {β:Type}(g:α->ax β)(l:ax α)(i:Nat)(hi:i<l.length):(l.take (i+1)).flatMap g=(l.take i).flatMap g++g l[i]:=by grind[bz]
theorem En (l:ax aE)(m:bK)(d a n:Int)(hl:l.length<=10^9)(hm:m.length<=10^9)(ha:a<=9223372036854775807):qy l m d a n=some (pq l m d a n):=by
 unfold qy pq;rw[Yt l m d a n false hl hm ha,ab];have hL:=I3 l m d a n false;generalize nW l m d a n false=r at hL⊢;cases hr:r.2;rfl;simp only[aj,ae,af];refine(dA (λi=>((r.1.take i).flatMap (lp m),(i:Int))) r.1.length (by omega) (λi nx hi=>?_) (λnx=>?_));simp only[wz];rw[kW,bw hi,ak (by omega) (by omega)];have e:rl m r.1[i].1 r.1[i].2=some (lp m r.1[i],iG m r.1[i].1 r.1[i].2):=by rw[ahQ m _ _ hm,lp];cases iG m r.1[i].1 r.1[i].2<;>rfl
 have h1:=tR m (r.1.take i);have h2:=E1 m r.1[i];simp only[af,ab,e];rw[bf (by rw[bt]at h1;omega),<-K0];rfl;simp only[wz];rw[ie,cQ];rfl
theorem EE (l:ax aE)(m:bK)(d a n:Int)(hl:l.length<=10^9)(hm:m.length<=10^9)(ha:a<=9223372036854775807):qN l m d a n=some (pq l m d a n):=by
 unfold qN pq;rw[U9 l m d a n false hl hm ha,ab];have hL:=I3 l m d a n false;generalize nW l m d a n false=r at hL⊢;cases hr:r.2;rfl;simp only[aj,ae,af];refine(dA (λi=>((r.1.take i).flatMap (lp m),(i:Int))) r.1.length (by omega) (λi nx hi=>?_) (λnx=>?_));simp only[wJ];have i1:idx (r.1.map (·.1)) (i:Int)=some r.1[i].1:=by rw[bw (by simpa using hi),List.getElem_map]
 have i2:idx (r.1.map (·.2)) (i:Int)=some r.1[i].2:=by rw[bw (by simpa using hi),List.getElem_map]
 rw[az (by rw[bX];omega),i1,i2,ak (by omega) (by omega)];have e:rF m r.1[i].1 r.1[i].2=some (lp m r.1[i],iG m r.1[i].1 r.1[i].2):=by rw[ai2 m _ _ hm,lp];cases iG m r.1[i].1 r.1[i].2<;>rfl
 have h1:=tR m (r.1.take i);have h2:=E1 m r.1[i];simp only[af,ab,e];rw[bf (by rw[bt]at h1;omega),<-K0];rfl;simp only[wJ];rw[aw (by rw[bX];omega),cQ];rfl
theorem Hw (l:ax aE)(m:bK)(d a n:Int):(pq l m d a n).1.length<=100000000:=by have hL:=I3 l m d a n false;have h1:=tR m (nW l m d a n false).1;grind[pq]
def nE (s:Bytes):Ad×Int×Bool:=
 bif ((s.length:Int) !=16)||decide (fM s 12>1) then((0,0,0,0,0),0,false) else((cH s 0,cH s 2,cH s 4,cH s 6,fM s 8),fM s 12,true)
theorem aa2 (s:Bytes)(h:s.length<=10^9):mZ s=some (nE s):=by
 unfold mZ nE;cases (s.length:Int) !=16;case true=>rfl
 simp only[zK s _ h,C3 s _ h,ab,ae,cM];grind
theorem ab6 (s:Bytes)(h:s.length<=10^9):nh s=some (nE s):=by
 unfold nh nE;cases (s.length:Int) !=16;case true=>rfl
 simp only[uI s _ h,Da s _ h,ab,ae,cM];grind
def DH (q:MF):Int:=bif decide (q.2.2<q.2.1) then 1 else 0
theorem Ui (q:MF):yj q=some (DH q):=by grind[yj,DH]
theorem mQ {q:MF}(h:gG q=true):0<=q.1/\q.1<=130944/\(q.2.1=2\/q.2.1=4\/q.2.1=8\/q.2.1=16)/\0<=q.2.2/\q.2.2<=2*q.2.1-1:=by grind[gG,aS,C8,iK]
theorem Va (q:MF)(h:gG q=true):wi q=some (DH q):=by
 obtain⟨_,_,h3,h4,h5⟩:=mQ h;have e:tdiv q.2.2 q.2.1=if q.2.2<q.2.1 then 0 else 1:=by grind
 unfold wi DH;rw[lH,e];by_cases hq:q.2.2<q.2.1;rw[aI hq,az hq];rfl;rw[aK hq,aw hq];rfl
def nm (q:MF):Int:=q.1+tmod q.2.2 q.2.1*16
theorem PC {q:MF}(h:gG q=true):0<=tmod q.2.2 q.2.1/\tmod q.2.2 q.2.1<16:=by obtain⟨_,_,h3,h4,h5⟩:=mQ h;grind
theorem Um (q:MF)(h:gG q=true):pE q=some (nm q):=by obtain⟨h1,h2,h3,h4,h5⟩:=mQ h;grind[pE,nm,ak]
def aih (q:MF):MF:=(q.1,q.2.1,tmod (q.2.2+1) (2*q.2.1))
def IY (l:ax aE)(m:bK)(d:Int)(q:MF):Bool:=
 gG q&&((pq l m d (nm q) 16).2&&((nE (pq l m d (nm q) 16).1).2.2&&((nE (pq l m d (nm q) 16).1).2.1==DH q)))
def kC (l:ax aE)(m:bK)(d:Int)(q:MF):Ad×MF×Bool:=
 bif IY l m d q then((nE (pq l m d (nm q) 16).1).1,aih q,true) else((0,0,0,0,0),q,false)
theorem Yp (l:ax aE)(m:bK)(d:Int)(q:MF)(hl:l.length<=10^9)(hm:m.length<=10^9):lN l m d q=some (kC l m d q):=by unfold lN kC IY;rw[M7 q,ab];cases hq:gG q;rfl;obtain⟨h1,h2,h3,h4,h5⟩:=mQ hq;have hs:=PC hq;have hd:=Hw l m d (nm q) 16;simp only[aj,ae,Um q hq,ab,En l m d (nm q) 16 hl hm (by unfold nm;omega),bH];cases (pq l m d (nm q) 16).2;rfl;simp only[aj,ae,aa2 _ (bF hd (by omega)),ab,bH];cases (nE (pq l m d (nm q) 16).1).2.2;rfl;simp only[aj,ae,Ui,ab,bH,bne];cases (nE (pq l m d (nm q) 16).1).2.1==DH q;rfl;simp only[aj,ae,af];rw[ak (n:=2*q.2.1) (by omega) (by omega),lH,ak (n:=q.2.2+1) (by omega) (by omega)];rfl
theorem aiW (l:ax aE)(m:bK)(d:Int)(q:MF)(hl:l.length<=10^9)(hm:m.length<=10^9):oY l m d q=some (kC l m d q):=by
 unfold oY kC IY;rw[NI q,ab];cases hq:gG q;rfl;obtain⟨h1,h2,h3,h4,h5⟩:=mQ hq;have hs:=PC hq;have hd:=Hw l m d (nm q) 16;have es:ar (q.1+ar (16*tmod q.2.2 q.2.1))=nm q:=by grind[ak,nm]
 simp only[aj,ae];rw[lH,es];simp only[EE l m d (nm q) 16 hl hm (by unfold nm;omega),ab,bH,ab6 _ (bF hd (by omega)),Va q hq,bne];cases (pq l m d (nm q) 16).2;rfl;cases (nE (pq l m d (nm q) 16).1).2.2;rfl;cases (nE (pq l m d (nm q) 16).1).2.1==DH q;rfl;simp only[aj,ae,af,ab,bH];rw[ak (n:=2*q.2.1) (by omega) (by omega),lH,ak (n:=q.2.2+1) (by omega) (by omega)];rfl
def Gb (l:ax aE)(m:bK)(d:Int)(r:aW):Bool:=FP r&&(kC l m d r.2.2.1).2.2
theorem aa6 (l:ax aE)(m:bK)(d:Int)(r:aW)(hl:l.length<=10^9)(hm:m.length<=10^9):qz l m d r=some (Gb l m d r):=by grind[qz,Q8,Yp,ab,Gb]
def Nx (h:Host):Bool:=eU h&&(!(decide ((h.2.2.1.2.2.1.length:Int)>0))&&h.2.2.2.1.all (λr=> !(r.2.2.2.2.1||Gb h.2.1 h.1 0 r)))
theorem aeE (h:Host)(z:JU h)(hl:dF 1000000000 gY h):Cm h=some (Nx h):=by
 have hL:h.2.2.2.1.length<=10^9:=hl.2.2.2.1.1;unfold Cm Nx;rw[vG h z,ab];cases eU h;rfl;simp only[aj,ae,ab,bH];cases decide ((h.2.2.1.2.2.1.length:Int)>0);case true=>rfl
 simp only[ae,cA,bH];rw[rT (hit:=some false) (fin:=some true) (λr:aW=> !(r.2.2.2.2.1||Gb h.2.1 h.1 0 r)) h.2.2.2.1 (by omega) (λi hi nx=>?hs) (λnx=>?hf)]
 case hs=>
  simp only[wB]
  rw[kW,bw hi,ak (by omega) (by omega)]
  simp only[af,ab,aa6 _ _ _ _ hl.2.1.1 hl.1.1]
  simp_all
 all_goals grind[wB]
theorem acP (p:dq)(i:Int):kV p i= -1\/(0<=kV p i/\kV p i<=200000):=by unfold kV;cases hp:dL p;exact .inl rfl;cases hi:dV i 0 (p.2.2.1-1);exact .inl rfl;have h:=Gx hp;have h2:=aS.1 hi;have h3:0<=i*p.2.1:=Int.mul_nonneg h2.1 (by omega);have h4:i*p.2.1<=16*512:=Int.mul_le_mul (by omega) (by omega) (by omega) (by omega);grind
def aaS (l:ax aE)(m:bK)(d a n:Int):Bool:=(pq l m d a n).2&&((vq (pq l m d a n).1).2==0)
theorem ajF {n:Int}:aaS l m d (-1) n=false:=by unfold aaS pq nW;cases fW l&&(dk m&&dV n 0 4096);rfl;simp only[af];cases n==0 with|true=>rfl|false=>rfl
def tP (l:ax aE)(m:bK)(d:Int)(s:ax Stream×aW×dq):ax Stream×aW×dq:=
 ((bif aaS l m d (kV s.2.2 (kC l m d s.2.1.2.2.1).1.1) (kC l m d s.2.1.2.2.1).1.2.1 then jx s.1 (vq (pq l m d (kV s.2.2 (kC l m d s.2.1.2.2.1).1.1) (kC l m d s.2.1.2.2.1).1.2.1).1).1 else s.1),
   (s.2.1.1,s.2.1.2.1,(kC l m d s.2.1.2.2.1).2.1,s.2.1.2.2.2),(Dp s.2.2 [(kC l m d s.2.1.2.2.1).1.1]).1)
def il (l:ax aE)(m:bK)(d:Int):Nat->ax Stream×aW×dq->Nat×(ax Stream×aW×dq)
 |0,s=>(0,s)
 |k+1,s=>bif !(kC l m d s.2.1.2.2.1).2.2 then(0,s) else((il l m d k (tP l m d s)).1+1,(il l m d k (tP l m d s)).2)
structure Hp (n:Nat) (s:List Stream×aW×dq):Prop where
 st:dF n (.sl kY) s.1
 pl:s.2.2.2.2.2.length<=n
theorem XU (p:dq)(l:dm):(Dp p l).1.2.2.2.length<=p.2.2.2.length+l.length:=by grind[Dp,jE]
theorem H5 {s:ax Stream×aW×dq}{n:Nat}(h:Hp n s):Hp (n+322) (tP l m d s):=by
 refine⟨?_,?_⟩;unfold tP;cases aaS l m d (kV s.2.2 (kC l m d s.2.1.2.2.1).1.1) (kC l m d s.2.1.2.2.1).1.2.1 with|false=>exact h.st.mono|true=>exact KW h.st
 have:=XU s.2.2 [(kC l m d s.2.1.2.2.1).1.1];have h2:=h.pl;show(Dp s.2.2 [(kC l m d s.2.1.2.2.1).1.1]).1.2.2.2.length<=_;simp only[bu]at this;omega
theorem Lj (K:ax Stream->Int->aW->dq->aA R)(l:ax aE)(m:bK)(d:Int)(N:Nat)(hN:N<=1000)(B1:bK)(B2:aW)(B3:dq)(hl:l.length<=10^9)(hm:m.length<=10^9):∀(k i:Nat)(s:ax Stream×aW×dq)(f:Nat),i+k=N->k<f->Hp (500000000+322*i) s->
 aZ (nO K l d (N:Int) B1 B2 B3 m) f (s.1,(i:Int),s.2.1,s.2.2)=K (il l m d k s).2.1 ((i+(il l m d k s).1:Nat):Int) (il l m d k s).2.2.1 (il l m d k s).2.2.2
 |k,i,s,0,_,hf,_=>by omega
 |0,i,s,f+1,hi,hf,z=>by rw[aZ];simp only[nO];rw[ie,ae];rfl
 |k+1,i,s,f+1,hi,hf,z=>by have mI:dF 900000000 (.sl kY) s.1:=z.st.mono;have C1:s.2.2.2.2.2.length<=900000000:=bF z.pl (by omega);rw[aZ];simp only[nO];rw[kW];simp only[af,Yp l m d _ hl hm,ab,il];cases hnx:(kC l m d s.2.1.2.2.1).2.2 with|false=>rfl|true=>have key:=Lj K l m d N hN B1 B2 B3 hl hm k (i+1) (tP l m d s) f (by omega) (by omega) ((H5 z).st.mono|>λa=>⟨a,bF (H5 z).pl (by omega)⟩);rw[show i+1+(il l m d k (tP l m d s)).1=i+((il l m d k (tP l m d s)).1+1) by omega]at key;simp only[aj,ae];rw[<-key];unfold tP;generalize kC l m d s.2.1.2.2.1=c;have ha:=acP s.2.2 c.1.1;have hd:=Hw l m d (kV s.2.2 c.1.1) c.1.2.1;simp only[Lc _ _ (show s.2.2.2.2.2.length<=10^9 by omega),En l m d _ c.1.2.1 hl hm (show kV s.2.2 c.1.1<=9223372036854775807 by omega),ab,IV _ (bF hd (by omega)),V8 _ _ mI,Q5 s.2.2 [c.1.1] (show s.2.2.2.2.2.length+1<=10^9 by omega)];rw[ak (n:=(i:Int)+1) (by omega) (by omega),show((i+1:Nat):Int)=(i:Int)+1 by omega];grind[aaS]
theorem Me (K:ax Stream->Int->aW->dq->aA R)(l:ax aE)(m:bK)(d:Int)(N:Nat)(hN:N<=1000)(B1:bK)(B2:aW)(B3:dq)(hl:l.length<=10^9)(hm:m.length<=10^9):∀(k i:Nat)(s:ax Stream×aW×dq)(f:Nat),i+k=N->k<f->Hp (500000000+322*i) s->
 aZ (od K l d (N:Int) m B1 B2 B3) f (s.1,(i:Int),s.2.1,s.2.2)=K (il l m d k s).2.1 ((i+(il l m d k s).1:Nat):Int) (il l m d k s).2.2.1 (il l m d k s).2.2.2
 |k,i,s,0,_,hf,_=>by omega
 |0,i,s,f+1,hi,hf,z=>by rw[aZ];simp only[od];rw[ie,ae];rfl
 |k+1,i,s,f+1,hi,hf,z=>by have mI:dF 900000000 (.sl kY) s.1:=z.st.mono;have C1:s.2.2.2.2.2.length<=900000000:=bF z.pl (by omega);rw[aZ];simp only[od];rw[kW];simp only[af,aiW l m d _ hl hm,ab,il];cases hnx:(kC l m d s.2.1.2.2.1).2.2 with|false=>rfl|true=>have key:=Me K l m d N hN B1 B2 B3 hl hm k (i+1) (tP l m d s) f (by omega) (by omega) ((H5 z).st.mono|>λa=>⟨a,bF (H5 z).pl (by omega)⟩);rw[show i+1+(il l m d k (tP l m d s)).1=i+((il l m d k (tP l m d s)).1+1) by omega]at key;simp only[aj,ae];rw[<-key];unfold tP;generalize kC l m d s.2.1.2.2.1=c;have ha:=acP s.2.2 c.1.1;have hd:=Hw l m d (kV s.2.2 c.1.1) c.1.2.1;simp only[R1 _ _ (show s.2.2.2.2.2.length<=10^9 by omega),EE l m d _ c.1.2.1 hl hm (show kV s.2.2 c.1.1<=9223372036854775807 by omega),ab,I9 _ (bF hd (by omega)),L7 _ _ mI,R4 s.2.2 [c.1.1] (show s.2.2.2.2.2.length+1<=10^9 by omega)];rw[ak (n:=(i:Int)+1) (by omega) (by omega),show((i+1:Nat):Int)=(i:Int)+1 by omega];rcases ha with ha|ha;rw[ha,ajF];rfl;rw[az (show kV s.2.2 c.1.1>=0 by omega)];unfold aaS;cases (pq l m d (kV s.2.2 c.1.1) c.1.2.1).2<;>cases (vq (pq l m d (kV s.2.2 c.1.1) c.1.2.1).1).2==0<;>rfl
theorem LO {l:ax aE}{m:bK}{d:Int}:∀(k:Nat){s:ax Stream×aW×dq}{n:Nat},Hp n s->Hp (n+322*k) (il l m d k s).2
 |0,s,n,h=>h
 |k+1,s,n,h=>by rw[il];cases (kC l m d s.2.1.2.2.1).2.2 with|false=>exact⟨h.st.mono,bF h.pl (by omega)⟩|true=>have:=LO (l:=l) (m:=m) (d:=d) k (H5 (l:=l) (m:=m) (d:=d) h);grind
def gP (l:ax aE)(m:bK)(d:Int)(rx:aW)(pl:dq)(st:ax Stream)(n:Int):bK×aW×dq×ax Stream×Int:=
 bif !FP rx||(!dL pl|| !dV n 0 1000) then(m,rx,pl,st,0) else
 ((qu l m d (il l m d n.toNat (st,rx,pl)).2.2.1.1 (il l m d n.toNat (st,rx,pl)).2.2.2).1,
   ((qu l m d (il l m d n.toNat (st,rx,pl)).2.2.1.1 (il l m d n.toNat (st,rx,pl)).2.2.2).2.1,(il l m d n.toNat (st,rx,pl)).2.2.1.2),
   (qu l m d (il l m d n.toNat (st,rx,pl)).2.2.1.1 (il l m d n.toNat (st,rx,pl)).2.2.2).2.2.1,(il l m d n.toNat (st,rx,pl)).2.1,((il l m d n.toNat (st,rx,pl)).1:Int))
theorem ahO (l:ax aE)(m:bK)(d:Int)(rx:aW)(pl:dq)(st:ax Stream)(n:Int)(hl:l.length<=10^9)(hm:m.length<=10^9)(hp:pl.2.2.2.length<=500000000)(hs:dF 500000000 (.sl kY) st):xZ l m d rx pl st n=some (gP l m d rx pl st n):=by
 have zj:=dD;have W7:st.length<=500000000:=hs.1;unfold xZ gP;simp only[hU m (show m.length<=1073741824 by omega),xm pl (show pl.2.2.2.length<=10^9 by omega),BH st,Q8,Bf pl (show pl.2.2.2.length<=10^9 by omega),dI,ab];cases FP rx;rfl;cases dL pl;rfl;cases hn:dV n 0 1000;rfl;have h:=aS.1 hn;obtain⟨n,rfl⟩:=au h.1;simp only[aj,ae,ab,bN,aC];have z:Hp (500000000+322*0) (st,rx,pl):=⟨hs,hp⟩
 have hz:=LO (l:=l) (m:=m) (d:=d) n z;refine(Lj _ l m d n (by omega) _ _ _ hl hm n 0 (st,rx,pl) fuel (by omega) (by omega) z).trans ?_;rw[cJ];simp only[ahH l m d _ _ hl hm (show(il l m d n (st,rx,pl)).2.2.2.2.2.2.length<=10^9 from bF hz.pl (by omega)),ab]
theorem ai0 (l:ax aE)(m:bK)(d:Int)(rx:aW)(pl:dq)(st:ax Stream)(n:Int)(hl:l.length<=10^9)(hm:m.length<=10^9)(hp:pl.2.2.2.length<=500000000)(hs:dF 500000000 (.sl kY) st):pY l m d rx pl st n=some (gP l m d rx pl st n):=by
 have zj:=dD;have W7:st.length<=500000000:=hs.1;unfold pY gP;rw[gL (by omega)];simp only[bU,zL pl (show pl.2.2.2.length<=10^9 by omega),ju m (show m.length<=1073741824 by omega),WM,vT pl (show pl.2.2.2.length<=10^9 by omega),cR,ab];cases FP rx;rfl;cases dL pl;rfl;cases hn:dV n 0 1000;rfl;have h:=aS.1 hn;obtain⟨n,rfl⟩:=au h.1;simp only[aj,ae,ab,bN,aC];have z:Hp (500000000+322*0) (st,rx,pl):=⟨hs,hp⟩
 have hz:=LO (l:=l) (m:=m) (d:=d) n z;refine(Me _ l m d n (by omega) _ _ _ hl hm n 0 (st,rx,pl) fuel (by omega) (by omega) z).trans ?_;rw[cJ];simp only[ZD l m d _ _ hl hm (show(il l m d n (st,rx,pl)).2.2.2.2.2.2.length<=10^9 from bF hz.pl (by omega)),ab]
def mG (i:Nat):Int:=1280+(i:Int)*1792
theorem ajp {i:Nat}(h:i<=8):ar (1280+ar ((i:Int)*1792))=mG i:=by rw[ak (n:=(i:Int)*1792) (by omega) (by omega),ak (by omega) (by omega)];rfl
theorem Gs (a b n:Int)(h:n<=1000:=by omega):(mP a b n).1.2.2.2.length<=1000:=by grind[mP,upto]
def So:cz:=((0,16,0,0),(mP 256 128 8).1,([]:ax nq),0)
theorem age:wj=some So:=by rw[wj,OB];rfl
def tO (l:ax aE)(m:bK)(i:Nat):bK×mn×dq×Int:=
 qu l (jF l m 0 (mG i) (zA 128) false).1 0 (mG i,4,0,0) (mP (mG i+128) 384 4).1
def Ok (h:Host)(i:Nat):Host:=
 ((tO h.2.1 h.1 i).1,h.2.1,h.2.2.1,h.2.2.2.1.set i ((tO h.2.1 h.1 i).2.1,(mG i+64,4,0),(mG i+64,4,0),((0,0,0,0,0,0,0,0,0,0,0,0,0,0,0,([]:Bytes)),0,0),false,(match h.2.2.2.1[i]? with|some x=>x.2.2.2.2.2|none=>0)),h.2.2.2.2.1.set i (tO h.2.1 h.1 i).2.2.1,h.2.2.2.2.2)
theorem aiX (h:Host)(i:Nat)(hi:i<=8)(h1:i<h.2.2.2.1.length)(h2:i<h.2.2.2.2.1.length)(hl:h.2.1.length<=10^9)(hm:h.1.length<=10^9):qY h (i:Int)=some ((),Ok h i):=by have hb:mG i=1280+(i:Int)*1792:=rfl;have hz:jT 128 0=some (zA 128):=R5 128;have hf:=ZD h.2.1 (jF h.2.1 h.1 0 (mG i) (zA 128) false).1 0 (mG i,4,0,0) (mP (mG i+128) 384 4).1 hl (by rw[nT];exact hm) (bF (Gs (mG i+128) 384 4) (by omega));unfold qY;simp only[ajp hi];rw[ak (n:=mG i+128) (by omega) (by omega),ak (n:=mG i+64) (by omega) (by omega),OB,hz];simp only[bw h1,bw h2,ab,JM h.2.1 h.1 0 (mG i) (zA 128) hl hm (by omega),hf,aC,Ok,tO,ay h1]
def al5 (h:Host)(i:Nat)(n:Int):Int×Host:=
 match h.2.2.2.1[i]?,h.2.2.2.2.1[i]? with
 |some rx,some pl=>
  ((gP h.2.1 h.1 0 rx pl h.2.2.2.2.2.2.2.2.2.1 n).2.2.2.2,(gP h.2.1 h.1 0 rx pl h.2.2.2.2.2.2.2.2.2.1 n).1,h.2.1,h.2.2.1,h.2.2.2.1.set i (gP h.2.1 h.1 0 rx pl h.2.2.2.2.2.2.2.2.2.1 n).2.1,h.2.2.2.2.1.set i (gP h.2.1 h.1 0 rx pl h.2.2.2.2.2.2.2.2.2.1 n).2.2.1,h.2.2.2.2.2.1,h.2.2.2.2.2.2.1,h.2.2.2.2.2.2.2.1,h.2.2.2.2.2.2.2.2.1,(gP h.2.1 h.1 0 rx pl h.2.2.2.2.2.2.2.2.2.1 n).2.2.2.1,h.2.2.2.2.2.2.2.2.2.2)
 |_,_=>(0,h)
theorem FB {n:Nat}{t:CT}{l:ax t.D}{i:Nat}{x:t.D}(z:dF n (.sl t) l)(hx:dF n t x):dF n (.sl t) (l.set i x):=by refine⟨?_,λy hy=>?_⟩;show(l.set i x).length<=n;rw[aL];exact z.1;rcases List.mem_or_eq_of_mem_set hy with h|h;exact z.2 y h;rw[h];exact hx
theorem UI {n:Nat}(hn:128<=n)(h:Gv m):dF n (.sl .str) m:=⟨bF h.2 (by omega),λx hx=>bF (Nat.le_of_eq (h.1 x hx)) hn⟩
theorem aab {n:Nat}(hn:128<=n)(z:dF n (.sl .str) m)(a:Int)(s:Bytes):dF n (.sl .str) (oo m a s).1:=by grind[oo,iG,UI,CV,sn]
theorem Zb {n:Nat}(hn:128<=n):∀(q:ax (Int×Int)){m:bK}(s:Bytes),dF n (.sl .str) m->dF n (.sl .str) (Jl q m s)
 |[],m,s,z=>z
 |p::q,m,s,z=>Zb hn q _ (aab hn z _ _)
theorem LU {n:Nat}(hn:128<=n)(z:dF n (.sl .str) m)(l:ax aE)(d a:Int)(s:Bytes)(w:Bool):dF n (.sl .str) (jF l m d a s w).1:=by grind[jF,Zb]
theorem LV {n:Nat}(hn:128<=n)(z:dF n (.sl .str) m)(l:ax aE)(d:Int)(r:mn)(s:Bytes):dF n (.sl .str) (dr l m d r s).1:=by grind[dr,LU]
theorem TO {n:Nat}(hn:128<=n)(l:ax aE)(d:Int)(p:dq):∀(q:dm){m:bK}(r:mn),dF n (.sl .str) m->dF n (.sl .str) (lL l d p q m r).2.1
 |[],m,r,z=>z
 |b::q,m,r,z=>by rw[lL];cases (dr l m d r (gC p b)).2.2 with|false=>exact z|true=>exact TO hn l d p q _ (LV hn z ..)
theorem ad8 {n:Nat}(hn:128<=n)(z:dF n (.sl .str) m)(l:ax aE)(d:Int)(r:mn)(p:dq):dF n (.sl .str) (qu l m d r p).1:=by unfold qu;cases !dR r|| !dL p with|true=>exact z|false=>exact TO hn _ _ _ _ _ z
theorem acX (l:ax aE)(m:bK)(d:Int)(r:mn)(p:dq):(qu l m d r p).1.length=m.length:=by grind[qu,MU]
theorem Qw (l:ax aE)(m:bK)(d:Int)(r:mn)(p:dq):(qu l m d r p).2.2.1.2.2.2.length<=p.2.2.2.length:=by grind[qu]
theorem Y5 (l:ax aE)(m:bK)(d:Int):∀(k:Nat)(s:ax Stream×aW×dq),(il l m d k s).2.2.1.2.2.2=s.2.1.2.2.2/\(il l m d k s).1<=k
 |0,s=>⟨rfl,bc _⟩
 |k+1,s=>by rw[il];cases (kC l m d s.2.1.2.2.1).2.2 with|false=>grind|true=>have:=Y5 l m d k (tP l m d s);simp only[aj,ae];exact⟨this.1,by omega⟩
theorem afC {n:Nat}(hn:128<=n){rx:aW}{pl:dq}{st:ax Stream}(c:Int)(zm:dF n (.sl .str) m)(zr:dF n nB rx)(zp:dF n NQ pl)(zs:dF n (.sl kY) st): dF n (.sl .str) (gP l m d rx pl st c).1/\dF n nB (gP l m d rx pl st c).2.1/\dF (n+322000) NQ (gP l m d rx pl st c).2.2.1/\dF (n+322000) (.sl kY) (gP l m d rx pl st c).2.2.2.1/\0<=(gP l m d rx pl st c).2.2.2.2/\(gP l m d rx pl st c).2.2.2.2<=1000:=by
 unfold gP;cases hc: !FP rx||(!dL pl|| !dV c 0 1000)with
 |true=>exact⟨zm,zr,zp.mono,zs.mono,iH _,by show(0:Int)<=1000;omega⟩
 |false=>
  have hi:dV c 0 1000=true:=by cases h:dV c 0 1000 with|true=>rfl|false=>rw[h]at hc;simp at hc
  have h:=aS.1 hi;have z:=LO (l:=l) (m:=m) (d:=d) c.toNat (s:=(st,rx,pl)) (n:=n) ⟨zs,zp.2.2.2.1⟩;have hx:=Y5 l m d c.toNat (st,rx,pl);refine⟨ad8 hn zm ..,⟨?_,?_,?_,?_⟩,⟨dx,dx,dx,?_,λ_ _=>trivial⟩,z.st.mono,by show(0:Int)<=((il l m d c.toNat (st,rx,pl)).1:Int);omega,by show((il l m d c.toNat (st,rx,pl)).1:Int)<=1000;omega⟩;exact⟨dx,dx,dx,dx⟩;exact⟨dx,dx,dx⟩;exact⟨dx,dx,dx⟩;have e:=congrArg (λq=>dF n nB (rx.1,rx.2.1,rx.2.2.1,q)) hx.1;exact(e.mpr zr).2.2.2;have:=Qw l m d (il l m d c.toNat (st,rx,pl)).2.2.1.1 (il l m d c.toNat (st,rx,pl)).2.2.2;have h2:=z.pl;show(qu l m d (il l m d c.toNat (st,rx,pl)).2.2.1.1 (il l m d c.toNat (st,rx,pl)).2.2.2).2.2.1.2.2.2.length<=_;omega
theorem map_take {β:Type}(f:α->β)(l:ax α)(i:Nat)(hi:i<l.length):(l.take i).map f++[f l[i]]=(l.take (i+1)).map f:=by grind[bz]
def O2 (n:Nat):bK:=List.replicate n (zA 128)
theorem ae6 (n:Nat):O2 (n+1)=O2 n++[zA 128]:=List.replicate_succ'
theorem acd (n:Nat)(h:n<=64):ua (n:Int)=some (O2 n):=by have hz:jT 128 0=some (zA 128):=R5 128;unfold ua;refine dA (λi=>((i:Int),O2 i)) n (by omega) (λi nx hi=>?_) (λnx=>?_);simp only[ti];rw[az (show(i:Int)<n by omega),af,kW,ab,af,hz,ab,bf (by simp[O2];omega),ak (by omega) (by omega),ae6];rfl;simp only[ti];rw[aw (show¬(n:Int)<n by omega),ae,ab,ae]
def BJ (a b:Int):Vector×Bool:=bif fy (a,b,0,0,false,false) then((a,b,0,0,false,false),true) else((0,0,0,0,false,false),false)
theorem ace (a b:Int):yI a b=some (BJ a b):=by grind[yI,BJ,tV,ab]
def bM (i:Nat):ax aE:=(range i).map λ(p:Nat)=>(0,(p:Int),37-(p:Int), !dV (p:Int) 2 9)
theorem abA (i:Nat):bM (i+1)=bM i++[(0,(i:Int),37-(i:Int), !dV (i:Int) 2 9)]:=by simp[bM,List.range_succ]
theorem Ni (i:Nat):(bM i).length=i:=by simp[bM]
def Yb (f:Filter)(s:cX)(c:Bool)(i:Nat):Host:=(O2 38,bM i,So,([]:ax aW),([]:ax dq),([]:ax Vector),([]:ax Bool),f,s,([]:ax Stream),c,([]:bK),([]:dm),([]:dm),0,0,0,0,0)
def mB (m:bK)(i:Nat):UInt8:=(m.getD (37-i/128) []).getD (i%128) 0
theorem aj4:fW (bM 38)=true:=by decide+kernel
structure fA (m:List Bytes):Prop where
 pg:∀x∈m,x.length=128
 ln:m.length=38
theorem fA.ok (h:fA m):dk m=true:=sn.2 ⟨h.pg,by have:=h.ln;omega⟩
theorem fA.of (h:dk m=true)(hl:m.length=38):fA m:=⟨(sn.1 h).1,hl⟩
theorem afw:∀p:Fin 38,∀w:Bool,vn (bM 38) 0 ((p.val:Nat):Int) w=if w=true/\2<=p.val/\p.val<=9 then-1 else 37-(p.val:Int):=by decide+kernel
theorem akb {p:Nat}(hp:p<38){w:Bool}(hw:w=true->p<2\/9<p):vn (bM 38) 0 (p:Int) w=((37-p:Nat):Int):=by have:=afw ⟨p,hp⟩ w;grind
def tS (m:bK)(a n:Nat):Bytes:=(range n).map λj=>mB m (a+j)
theorem Zm (m:bK)(a n:Nat):(tS m a n).length=n:=by simp[tS]
theorem aiI (m:bK)(a n j:Nat)(h:j<n):(tS m a n).getD j 0=mB m (a+j):=by grind[tS]
theorem aiH (m:bK)(a c r:Nat):tS m a (c+r)=tS m a c++tS m (a+c) r:=by simp_all[tS,List.range_add,gn]
theorem abR (hm:fA m){c:Nat}(h1:a+c<=4864)(h2:a%128+c<=128)(h0:0<c):lp m (((37-a/128:Nat):Int)*128+((a%128:Nat):Int),(c:Int))=tS m a c:=by
 have hl:=hm.ln;have hp:37-a/128<m.length:=by omega
 unfold lp;rw[GX hm.ok (by omega) h0,kW,af];show Bs m ((((37-a/128:Nat):Int)*128+((a%128:Nat):Int)).toNat) ((c:Int)).toNat=_;rw[aC,<-Kt hm.ok hp h2 (by omega)];have hx:=hm.pg _ (bn hp);refine List.ext_getElem (by grind[Zm]) λj g1 g2=>?_;grind[tS,mB]
theorem aio (h:o+t.length<=x.length)(j:Nat):(B9 x o t).getD j 0=if o<=j/\j<o+t.length then t.getD (j-o) 0 else x.getD j 0:=by
 unfold B9;rw[cB,cB,cB];have hl:(x.take o).length=o:=by rw[bt];omega
 rcases ca j o with g|g;rw[bB (by omega),eG g,lH];rw[bJ (by omega),hl];rcases ca (j-o) t.length with g2|g2;rw[bB g2,zip];rw[bJ g2,cj,lH];congr 2;omega
theorem Y3 (hm:fA m)(h1:a+t.length<=4864)(h2:a%128+t.length<=128)(h0:0<t.length):fA (oo m (((37-a/128:Nat):Int)*128+((a%128:Nat):Int)) t).1/\∀i,i<4864->mB (oo m (((37-a/128:Nat):Int)*128+((a%128:Nat):Int)) t).1 i=if a<=i/\i<a+t.length then t.getD (i-a) 0 else mB m i:=by
 have hl:=hm.ln;have hp:37-a/128<m.length:=by omega
 have hx:=hm.pg _ (bn hp);have e:(oo m (((37-a/128:Nat):Int)*128+((a%128:Nat):Int)) t).1=m.set (37-a/128) (B9 m[37-a/128] (a%128) t):=by
  unfold oo;rw[GX hm.ok (by omega) h0,kW,af];have e1:(((37-a/128:Nat):Int)*128+((a%128:Nat):Int)).toNat=(37-a/128)*128+a%128:=by omega
  show za t.length m (((37-a/128:Nat):Int)*128+((a%128:Nat):Int)).toNat t=_;rw[e1];obtain⟨n,hn⟩:∃n,t.length=n+1:=⟨t.length-1,by omega⟩
  rw[hn,za,lH];have e2:((37-a/128)*128+a%128)/128=37-a/128:=by omega
  have e3:((37-a/128)*128+a%128)%128=a%128:=by omega
  rw[e2,e3,fD hp,bZ (by omega),cW (by omega)];cases n with|zero=>rfl|succ n=>rw[za];rfl
 rw[e];have hov:(B9 m[37-a/128] (a%128) t).length=128:=by rw[UG (by omega),hx]
 refine⟨⟨λx Dv=>?_,by rw[aL];exact hl⟩,λi hi=>?_⟩;rcases List.mem_or_eq_of_mem_set Dv with g|g;exact hm.pg x g;rw[g];exact hov;unfold mB;by_cases hq:i/128=a/128;have e5:(m.set (37-a/128) (B9 m[37-a/128] (a%128) t)).getD (37-a/128) []=B9 m[37-a/128] (a%128) t:=by rw[cB,bL hp];rfl
 rw[hq,e5,aio (by omega)];have hg:m.getD (37-a/128) []=m[37-a/128]:=fD hp _;rw[hg];by_cases hc:a<=i/\i<a+t.length;rw[aI hc,zip];congr 1;omega;rw[aK hc,lH];rw[lH];congr 1;rw[cB,cB,aM (by omega)]
theorem RB (hl:m.length=38){w:Bool}:∀(n a r:Nat),r<=n->a+r<=4864->(w=true->a+r<=256\/1280<=a)->∃q,mf (bM 38) m 0 w n a r=some q/\
 (∀m',fA m'->q.flatMap (lp m')=tS m' a r)/\
 ∀m' s,fA m'->s.length=r->fA (Jl q m' s)/\∀i,i<4864->mB (Jl q m' s) i=if a<=i/\i<a+r then s.getD (i-a) 0 else mB m' i
 |0,a,r,hr,_,_=>by
  have:r=0:=by omega
  subst this;exact⟨[],rfl,λm' _=>rfl,λm' s hm _=>⟨hm,λi _=>by rw[lH];rfl⟩⟩
 |n+1,a,r,hr,ha,hw=>by
  rw[mf];by_cases h0:r=0;rw[aI h0];subst h0;exact⟨[],rfl,λm' _=>rfl,λm' s hm _=>⟨hm,λi _=>by rw[lH];rfl⟩⟩;rw[aK h0];have hp:a/128<38:=by omega
  rw[akb hp (λe=>by have:=hw e;omega),zip];generalize hc:min (128-a%128) r=c;have W6:0<c:=by omega
  have hc1:a%128+c<=128:=by omega
  have hc2:c<=r:=by omega
  obtain⟨q,e,rd,wr⟩:=RB (w:=w) hl n (a+c) (r-c) (by omega) (by omega) (λe=>by have:=hw e;omega);refine⟨_,by rw[e];rfl,λm' hm=>?_,λm' s hm hs=>?_⟩;rw[List.flatMap_cons,rd m' hm,abR hm (by omega) hc1 W6,<-aiH,show c+(r-c)=r by omega];have ht:(s.take c).length=c:=by rw[bt];omega
  have p1:=Y3 hm (a:=a) (t:=s.take c) (by omega) (by omega) (by omega);rw[Jl];simp only[aC];have p2:=wr _ (s.drop c) p1.1 (by rw[bA];omega);refine⟨p2.1,λi hi=>?_⟩;rw[p2.2 i hi];by_cases g1:a+c<=i/\i<a+c+(r-c)
  rw[aI g1,zip,cB,cB,cj];congr 2;omega;rw[aK g1,p1.2 i hi,ht];by_cases g2:a<=i/\i<a+c;rw[aI g2,zip,cB,cB,eG (by omega)];rw[aK g2,lH]
theorem U1 (hm:fA m){w:Bool}{r:Nat}(hr:r<=4096)(ha:a+r<=4864)(hw:w=true->a+r<=256\/1280<=a):∃q,nW (bM 38) m 0 (a:Int) (r:Int) w=(q,true)/\ (∀m',fA m'->q.flatMap (lp m')=tS m' a r)/\ ∀m' s,fA m'->s.length=r->fA (Jl q m' s)/\∀i,i<4864->mB (Jl q m' s) i=if a<=i/\i<a+r then s.getD (i-a) 0 else mB m' i:=by unfold nW;rw[aj4,hm.ok,aS.2 ⟨by omega,by omega⟩];simp only[du,af];by_cases h0:r=0;subst h0;exact⟨[],rfl,λm' _=>rfl,λm' s hm _=>⟨hm,λi _=>by rw[lH];rfl⟩⟩;rw[show((r:Int)==0)=false from by rw[cq];omega,ae,ie,ae,aC,aC];obtain⟨q,e,rd,wr⟩:=RB (w:=w) hm.ln r a r (bc r) ha hw;rw[e];exact⟨q,rfl,rd,wr⟩
theorem Hx (hm:fA m){r:Nat}(hr:r<=4096:=by omega)(ha:a+r<=4864:=by omega):pq (bM 38) m 0 (a:Int) (r:Int)=(tS m a r,true):=by obtain⟨q,e,rd,_⟩:=U1 (w:=false) hm hr ha (by simp);grind[pq]
theorem DJ (hm:fA m){w:Bool}(hr:s.length<=4096)(ha:a+s.length<=4864)(hw:w=true->a+s.length<=256\/1280<=a):(jF (bM 38) m 0 (a:Int) s w).2=true/\fA (jF (bM 38) m 0 (a:Int) s w).1/\∀i,i<4864->mB (jF (bM 38) m 0 (a:Int) s w).1 i=if a<=i/\i<a+s.length then s.getD (i-a) 0 else mB m i:=by obtain⟨q,e,_,wr⟩:=U1 (w:=w) hm hr ha hw;grind[jF]
def bI (l:ax aE)(m:bK)(d:Int)(r:mn):Bytes×mn×Bool:=
 bif !dR r||(cw r==0) then([],r,false) else
 bif !(pq l m d (tU r r.2.2.1) 16).2 then([],r,false) else
 ((pq l m d (tU r r.2.2.1) 16).1,(r.1,r.2.1,tmod (r.2.2.1+1) (2*r.2.1),r.2.2.2),true)
theorem Mh (l:ax aE)(m:bK)(d:Int)(r:mn)(hl:l.length<=10^9)(hm:m.length<=10^9):vZ l m d r=some (bI l m d r):=by have hA:=FR r r.2.2.1;unfold vZ bI;simp only[Bu,DQ,ab,Vc,EE l m d _ 16 hl hm (show tU r r.2.2.1<=9223372036854775807 by omega)];cases hb:dR r;rfl;have h:=ng hb;grind[ab,ak]
theorem Lo (l:ax aE)(m:bK)(d:Int)(r:mn)(hl:l.length<=10^9)(hm:m.length<=10^9):vO l m d r=some (bI l m d r):=by have hA:=FR r r.2.2.1;unfold vO bI;simp only[Bg,Dw,ab,Ul,En l m d _ 16 hl hm (show tU r r.2.2.1<=9223372036854775807 by omega)];cases hb:dR r;rfl;have h:=ng hb;grind[ab,ak]
theorem Bb (l:ax aE)(m:bK)(d:Int)(r:mn):(bI l m d r).1.length<=100000000:=by grind[bI,Hw]
theorem DX (h:(bI l m d r).2.2=true): dR (bI l m d r).2.1=true/\cw (bI l m d r).2.1=cw r-1/\(bI l m d r).2.1.1=r.1/\(bI l m d r).2.1.2.1=r.2.1/\(bI l m d r).2.1.2.2.2=r.2.2.2:=by
 unfold bI at h⊢;cases hb:dR r with|false=>grind|true=>?_
 cases hu:cw r==0 with|true=>grind|false=>?_
 cases hd:(pq l m d (tU r r.2.2.1) 16).2 with|false=>grind|true=>?_
 grind[ng,dR,cw,aS]
theorem nV (h:dR r=true):0<=cw r/\cw r<=16:=by have hr:=ng h;grind[dR,cw]
def G5:Dd:=(0,0,0,0,0,0)
def F9 (s:Bytes):Dd:=((bV s 0:Int),(bV s 1:Int),cH s 2,fM s 4,cH s 8,cH s 10)
def dC (s:Bytes):Dd×Bool:=
 bif ((s.length:Int) !=16) then(G5,false) else bif !(gJ (F9 s)==s) then(G5,false) else(F9 s,true)
theorem ZA (s:Bytes)(h:s.length<=10^9):rC s=some (dC s):=by
 unfold rC dC;cases hn:(s.length:Int) !=16;case true=>rfl
 have hl:s.length=16:=by grind
 have b0:=lY (s[0]'(by omega));have b1:=lY (s[1]'(by omega));have i0:idx s 0=some (s[0]'(by omega)):=bw (i:=0) (by omega);have i1:idx s 1=some (s[1]'(by omega)):=bw (i:=1) (by omega);have e:(((s[0]'(by omega)).toNat:Int),((s[1]'(by omega)).toNat:Int),cH s 2,fM s 4,cH s 8,cH s 10)=F9 s:=by grind[F9,bV]
 simp only[ae,i0,i1,ab,uI s _ h,Da s _ h];rw[gZ (n:=(s[0]'(by omega)).toNat) (by omega),gZ (n:=(s[1]'(by omega)).toNat) (by omega),e,WG,ab];cases gJ (F9 s)==s<;>rfl
theorem Ym (s:Bytes)(h:s.length<=10^9):rj s=some (dC s):=by
 unfold rj dC;cases hn:(s.length:Int) !=16;case true=>rfl
 have hl:s.length=16:=by grind
 have b0:=lY (s[0]'(by omega));have b1:=lY (s[1]'(by omega));have i0:idx s 0=some (s[0]'(by omega)):=bw (i:=0) (by omega);have i1:idx s 1=some (s[1]'(by omega)):=bw (i:=1) (by omega);have e:(((s[0]'(by omega)).toNat:Int),((s[1]'(by omega)).toNat:Int),cH s 2,fM s 4,cH s 8,cH s 10)=F9 s:=by grind[F9,bV]
 simp only[ae,i0,i1,ab,zK s _ h,C3 s _ h];rw[gZ (n:=(s[0]'(by omega)).toNat) (by omega),gZ (n:=(s[1]'(by omega)).toNat) (by omega),e,V9,ab];cases gJ (F9 s)==s<;>rfl
theorem Qj (h:(dC s).2=true):mr (dC s).1=true:=by grind[dC,gJ]
def Cc (x:Dd):Bool:=bif x.1==1 then(ar (BitVec.toNat (gm x.2.1&&&gm 1))) !=0 else false
def ot (l:ax aE)(m:bK)(d:Int):Nat->ax Dd->mn->ax Dd×mn×Bool
 |0,acc,r=>(acc,r,true)
 |n+1,acc,r=>
  bif !(bI l m d r).2.2|| !(dC (bI l m d r).1).2 then([],(r.1,r.2.1,r.2.2.2,r.2.2.2),false) else
  bif Cc (dC (bI l m d r).1).1 then(acc++[(dC (bI l m d r).1).1],(bI l m d r).2.1,true) else
  ot l m d n (acc++[(dC (bI l m d r).1).1]) (bI l m d r).2.1
def eI (l:ax aE)(m:bK)(d:Int)(r:mn):ax Dd×mn×Bool:=
 bif !dR r||(cw r==0) then([],r,false) else ot l m d (cw r).toNat [] r
theorem JB (k0:ax Dd->mn->aA R)(k1:ax Dd->Bool->ax Dd->mn->mn->aA R)(K:ax Dd×mn×Bool->aA R)
 (h0:∀a r,k0 a r=K (a,r,true)) (l:ax aE) (m:bK) (d:Int) (B E:mn) (h1:∀a r,k1 [] false a r E=K ([],E,false)) (hl:l.length<=10^9) (hm:m.length<=10^9):∀(n:Nat)(acc:ax Dd)(r:mn)(f:Nat),
 n<f->dR r=true->(cw r).toNat=n->acc.length+n<=1000->E=(r.1,r.2.1,r.2.2.2,r.2.2.2)->aZ (nP k0 k1 l d ([]:ax Dd) false m B E) f (acc,r)=K (ot l m d n acc r)
 |n,acc,r,0,hf,_,_,_,_=>by omega
 |0,acc,r,f+1,hf,hb,hu,ha,hE=>by rw[aZ];simp only[nP,Dw,ab];rw[ie,ae,h0];rfl
 |n+1,acc,r,f+1,hf,hb,hu,ha,hE=>by
  have hlen:=Bb l m d r;have hk:=DX (l:=l) (m:=m) (d:=d) (r:=r);rw[aZ];simp only[nP,Dw,ab];rw[kW,af,Lo l m d r hl hm,ab,ot];generalize bI l m d r=t at hlen hk⊢;cases ht:t.2.2 with
  |false=>grind
  |true=>
   have hk:=hk ht;simp only[aj,ae,cM];rw[Ym _ (show t.1.length<=10^9 by omega),ab];generalize dC t.1=x;cases x.2 with
   |false=>grind
   |true=>
    simp only[aj,ae];rw[bf (by rw[bu];omega)];have e:(aa (cond (x.1.1==1) (some ((ar (BitVec.toNat (gm x.1.2.1&&&gm 1))) !=0)) (some false)):(Bool->aA R)->aA R)=λK=>K (Cc x.1):=by funext K;simp_all[Cc]
    rw[e];cases Cc x.1 with|true=>simp only[af,h0]|false=>simp only[ae];exact JB k0 k1 K h0 l m d B E h1 hl hm n _ _ f (by omega) hk.1 (by omega) (by simp;omega) (by grind)
theorem JJ (k0:ax Dd->mn->aA R)(k1:ax Dd->Bool->ax Dd->mn->mn->aA R)(K:ax Dd×mn×Bool->aA R)
 (h0:∀a r,k0 a r=K (a,r,true)) (l:ax aE) (m:bK) (d:Int) (B:mn) (h1:∀a r,k1 [] false a r r=K ([],r,false)) (hl:l.length<=10^9) (hm:m.length<=10^9):∀(n:Nat)(acc:ax Dd)(r:mn)(f:Nat),
 n<f->dR r=true->(cw r).toNat=n->acc.length+n<=1000->aZ (og k0 k1 l d ([]:ax Dd) false m B) f (acc,r)=K (ot l m d n acc r)
 |n,acc,r,0,hf,_,_,_=>by omega
 |0,acc,r,f+1,hf,hb,hu,ha=>by rw[aZ];simp only[og,DQ,ab];rw[ie,ae,h0];rfl
 |n+1,acc,r,f+1,hf,hb,hu,ha=>by
  have hlen:=Bb l m d r;have hk:=DX (l:=l) (m:=m) (d:=d) (r:=r);rw[aZ];simp only[og,DQ,ab];rw[kW,af,Mh l m d r hl hm,ab,ot];generalize bI l m d r=t at hlen hk⊢;rw[ZA _ (show t.1.length<=10^9 by omega),ab];generalize dC t.1=x;cases ht:t.2.2 with
  |false=>simp_all
  |true=>
   have hk:=hk ht;simp only[aj,ae,ab,cM];cases x.2 with
   |false=>grind
   |true=>
    simp only[aj,ae];rw[bf (by rw[bu];omega)];have e:(aa (cond (x.1.1==1) (some ((ar (BitVec.toNat (gm x.1.2.1&&&gm 1))) !=0)) (some false)):(Bool->aA R)->aA R)=λK=>K (Cc x.1):=by funext K;simp_all[Cc]
    rw[e];cases Cc x.1 with|true=>simp only[af,h0]|false=>simp only[ae];exact JJ k0 k1 K h0 l m d B h1 hl hm n _ _ f (by omega) hk.1 (by omega) (by simp;omega)
theorem S1 (l:ax aE)(m:bK)(d:Int)(r:mn)(hl:l.length<=10^9)(hm:m.length<=10^9):yd l m d r=some (eI l m d r):=by
 have zj:=dD;unfold yd eI;simp only[Bg,Dw,ab];cases hb:dR r;rfl;cases cw r==0;case true=>rfl
 have hu:=nV hb;simp only[aj,ae,ab,bN];exact JB _ _ (λx=>some x) (λ_ _=>rfl) l m d _ _ (λ_ _=>rfl) hl hm _ [] r fuel (by omega) hb rfl (by simp;omega) rfl
theorem Tj (l:ax aE)(m:bK)(d:Int)(r:mn)(hl:l.length<=10^9)(hm:m.length<=10^9):yM l m d r=some (eI l m d r):=by
 have zj:=dD;unfold yM eI;simp only[Bu,DQ,ab];cases hb:dR r;rfl;cases cw r==0;case true=>rfl
 have hu:=nV hb;simp only[aj,ae,ab,bN];exact JJ _ _ (λx=>some x) (λ_ _=>rfl) l m d _ (λ_ _=>rfl) hl hm _ [] r fuel (by omega) hb rfl (by simp;omega)
def KY (v:Vector):Bool:=bif decide (v.2.2.1>=1) then(bif decide (v.2.2.1>=v.1) then true else decide (v.2.2.2.1>=v.2.1)) else false
theorem ajN (v:Vector):FA v=some (KY v):=by unfold FA KY;cases decide (v.2.2.1>=1);all_goals simp_all
theorem adw (v:Vector):uc v=some (KY v):=by unfold uc KY;cases decide (v.2.2.1>=1);all_goals simp_all
def sA (v:Vector):Vector:=bif KY v&& !v.2.2.2.2.1 then(v.1,v.2.1,v.2.2.1,v.2.2.2.1,v.2.2.2.2.1,true) else v
theorem M4 (v:Vector):qH v=some (sA v):=by grind[qH,sA,ajN,ab]
theorem NF (v:Vector):oE v=some (sA v):=by grind[oE,sA,adw,ab]
def WY (n:Int):Int:=if 1000000<ar (n+1) then 1000000 else ar (n+1)
theorem adI (n:Int):(if ar (n+1)<1000000 then ar (n+1) else 1000000)=WY n:=by grind[WY]
def evV (v:Vector):Vector:=bif fy v then sA (v.1,v.2.1,WY v.2.2.1,v.2.2.2) else v
theorem aeu (v:Vector):Ag v=some (evV v):=by unfold Ag evV;rw[Dx,ab,M4,ab];cases fy v<;>rfl
theorem afY (v:Vector):AF v=some (evV v):=by grind[AF,evV,tV,ab,adI,NF]
def yX (v:Vector):Vector:=bif fy v then(bif decide (v.2.2.1>0) then sA (v.1,v.2.1,v.2.2.1,WY v.2.2.2.1,v.2.2.2.2) else sA v) else v
theorem aeO (v:Vector):wG v=some (yX v):=by unfold wG yX;simp only[Dx,ab,M4];cases fy v;rfl;cases decide (v.2.2.1>0)<;>rfl
theorem agc (v:Vector):wQ v=some (yX v):=by grind[wQ,yX,tV,ab,adI,NF]
def oJ (v:Vector):Vector×Bool:=bif fy v&&v.2.2.2.2.2 then((v.1,v.2.1,0,0,true,false),true) else(v,false)
theorem aeN (v:Vector):qG v=some (oJ v):=by grind[qG,oJ,Dx,ab]
theorem agb (v:Vector):qV v=some (oJ v):=by grind[qV,oJ,tV,ab]
def yZ (v:Vector):Vector:=bif fy v then sA (v.1,v.2.1,v.2.2.1,v.2.2.2.1,false,v.2.2.2.2.2) else v
theorem Ra (v:Vector):Bi v=some (yZ v):=by grind[Bi,yZ,Dx,ab,M4]
theorem Sa (v:Vector):Bv v=some (yZ v):=by grind[Bv,yZ,tV,ab,NF]
structure mE (k:Nat) (a b:Host):Prop where
 mem:b.1.length=a.1.length
 maps:b.2.1=a.2.1
 tx:b.2.2.1=a.2.2.1
 rx:b.2.2.2.1.length=a.2.2.2.1.length
 rxs:∀j,k<=j->b.2.2.2.1[j]?=a.2.2.2.1[j]?
 pl:b.2.2.2.2.1.length=a.2.2.2.2.1.length
 vec:b.2.2.2.2.2.1.length=a.2.2.2.2.2.1.length
 agt:∀j,k<=j->b.2.2.2.2.2.1[j]?=a.2.2.2.2.2.1[j]?
 pol:b.2.2.2.2.2.2.1.length=a.2.2.2.2.2.2.1.length
 Fj:b.2.2.2.2.2.2.2.1=a.2.2.2.2.2.2.2.1
 Jf:b.2.2.2.2.2.2.2.2.1=a.2.2.2.2.2.2.2.2.1
theorem mE.refl (k:Nat)(a:Host):mE k a a:=⟨rfl,rfl,rfl,rfl,λ_ _=>rfl,rfl,rfl,λ_ _=>rfl,rfl,rfl,rfl⟩
theorem mE.trans {a b c:Host}(h:mE k a b)(g:mE k b c):mE k a c:=⟨g.mem.trans h.mem,g.maps.trans h.maps,g.tx.trans h.tx,g.rx.trans h.rx,λj hj=>(g.rxs j hj).trans (h.rxs j hj),g.pl.trans h.pl,g.vec.trans h.vec,λj hj=>(g.agt j hj).trans (h.agt j hj),g.pol.trans h.pol,g.Fj.trans h.Fj,g.Jf.trans h.Jf⟩
theorem mE.up {m:Nat}{a b:Host}(h:mE k a b)(hk:k<=m):mE m a b:=⟨h.mem,h.maps,h.tx,h.rx,λj hj=>h.rxs j (by omega),h.pl,h.vec,λj hj=>h.agt j (by omega),h.pol,h.Fj,h.Jf⟩
def dX (g:Nat->Host->Host):Nat->Host->Host
 |0,h=>h
 |k+1,h=>g k (dX g k h)
theorem mD (hg:∀k h,mE (k+1) h (g k h))(h:Host):∀k,mE k h (dX g k h)
 |0=>mE.refl 0 h
 |k+1=>((mD hg h k).up (by omega)).trans (hg k _)
theorem DW {d n:Nat}(hn:1000<=n)(hg:∀k h m,1000<=m->dF m gY h->dF (m+d) gY (g k h))(z:dF n gY h):∀k,dF (n+d*k) gY (dX g k h)
 |0=>z
 |k+1=>(hg k _ _ (by omega) (DW hn hg z k)).mono (by rw[Nat.mul_add];omega)
def jB (i:Nat)(h:Host):Host:=
 match h.2.2.2.2.2.1[i]? with
 |some v=>(h.1,h.2.1,h.2.2.1,h.2.2.2.1,h.2.2.2.2.1,h.2.2.2.2.2.1.set i (yX v),h.2.2.2.2.2.2)
 |none=>h
theorem xi (i:Nat)(h:Host):mE (i+1) h (jB i h):=by unfold jB;cases h.2.2.2.2.2.1[i]? with|none=>exact mE.refl _ _|some v=>exact⟨rfl,rfl,rfl,rfl,λ_ _=>rfl,rfl,aL ..,λj hj=>aM (by omega),rfl,rfl,rfl⟩
theorem PI {n:Nat}{l:ax Vector}{i:Nat}{v:Vector}(z:dF n (.sl Iz) l):dF n (.sl Iz) (l.set i v):=FB z ⟨dx,dx,dx,dx,dx,dx⟩
theorem agr (i:Nat)(h:Host)(n:Nat)(hn:1000<=n)(z:dF n gY h):dF (n+0) gY (jB i h):=by unfold jB;cases h.2.2.2.2.2.1[i]? with|none=>exact z|some v=>exact⟨z.1,z.2.1,z.2.2.1,z.2.2.2.1,z.2.2.2.2.1,PI z.2.2.2.2.2.1,z.2.2.2.2.2.2⟩
def om (h:Host):Host:=bif eU h then dX jB h.2.2.2.2.2.1.length h else h
theorem aja {n:Nat}(hn:1000<=n)(z:dF n gY h):dF n gY (om h)/\(om h).2.2.1=h.2.2.1:=by unfold om;cases eU h with|false=>exact⟨z,rfl⟩|true=>exact⟨(DW hn agr z _).mono,(mD xi h _).tx⟩
theorem Yx (h:Host)(k:JU h)(z:dF 1000000000 gY h):vK h=some (om h):=by
 have zj:=dD;unfold vK om;rw[kG h z,ab,vG h k,ab];cases hb:eU h;rfl;have hv:h.2.2.2.2.2.1.length<=10^9:=z.2.2.2.2.2.1.1;simp only[aj,ae,af];refine dA (λi=>((i:Int),dX jB i h)) h.2.2.2.2.2.1.length (by omega) (λi nx hi=>?_) (λnx=>?_);have kk:=mD xi h i;have i1:i<(dX jB i h).2.2.2.2.2.1.length:=by rw[kk.vec];exact hi
 rw[show dX jB (i+1) h=jB i (dX jB i h) from rfl];generalize dX jB i h=s at i1⊢;simp only[uq,jB];rw[kW,af,ay i1];simp only[bw i1,ab,aeO,aC];rw[ak (by omega) (by omega)];rfl;simp only[uq];rw[ie,ae]
theorem ZM (h:Host)(k:JU h)(z:dF 1000000000 gY h):vY h=some (om h):=by
 have zj:=dD;unfold vY om;rw[kL h z,ab];have hv:h.2.2.2.2.2.1.length<=10^9:=z.2.2.2.2.2.1.1;cases hb:eU h with
 |false=>
  obtain⟨g,hg⟩:∃g,fuel=g+1:=⟨fuel-1,by omega⟩
  rw[hg,aZ,pX,ry h k,hb];cases decide ((0:Int)<(h.2.2.2.2.2.1.length:Int))<;>rfl
 |true=>
  simp only[af];refine dA (λi=>((i:Int),dX jB i h)) h.2.2.2.2.2.1.length (by omega) (λi nx hi=>?_) (λnx=>?_);have kk:=mD xi h i;have i1:i<(dX jB i h).2.2.2.2.2.1.length:=by rw[kk.vec];exact hi
  have e1:=kk.agt i (bc _);rw[ay i1,ay hi]at e1;have e2:=bQ e1;rw[show dX jB (i+1) h=jB i (dX jB i h) from rfl];generalize dX jB i h=s at i1 e2⊢;simp only[pX,jB,ry h k,hb];rw[kW,af,ay i1];simp only[bw i1,bw hi,ab,agc,aC,af,e2];rw[ak (by omega) (by omega)];rfl;simp only[pX];rw[ie,ae,ab,ae]
def vu (x:Ad):Bool:=dV x.1 0 65535&&(dV x.2.1 0 65535&&(dV x.2.2.1 0 65535&&(dV x.2.2.2.1 0 65535&&dV x.2.2.2.2 0 4294967295)))
theorem Uf (x:Ad):nL x=some (vu x):=by simp_all[nL,dI,di,vu]
theorem U7 (x:Ad):nY x=some (vu x):=by simp_all[nY,cR,di,vu]
def OS (x:Ad)(p:Int):Bytes:=bif vu x&&dV p 0 1 then((((aF x.1++aF x.2.1)++aF x.2.2.1)++aF x.2.2.2.1)++cn x.2.2.2.2)++cn p else []
theorem ahG (x:Ad)(p:Int):na x p=some (OS x p):=by have h1:=bR x.1;have h2:=bR x.2.1;have h3:=bR x.2.2.1;have h4:=bR x.2.2.2.1;have h5:=eR x.2.2.2.2;have h6:=eR p;unfold na OS;simp only[Uf,dI,ab,mJ,Dy];grind[ab,bf]
theorem aiS (x:Ad)(p:Int):ni x p=some (OS x p):=by have h1:=bR x.1;have h2:=bR x.2.1;have h3:=bR x.2.2.1;have h4:=bR x.2.2.2.1;have h5:=eR x.2.2.2.2;have h6:=eR p;unfold ni OS;simp only[U7,cR,ab,ja,mS];grind[ab,bf]
def rr (l:ax aE)(m:bK)(d:Int)(q:MF)(x:Ad):bK×MF×Bool:=
 bif !gG q|| !vu x then(m,q,false) else
 bif !(jF l m d (nm q) (OS x (DH q)) true).2 then(m,q,false) else
 ((jF l m d (nm q) (OS x (DH q)) true).1,(q.1,q.2.1,tmod (q.2.2+1) (2*q.2.1)),true)
theorem ahP (l:ax aE)(m:bK)(d:Int)(q:MF)(x:Ad)(hl:l.length<=10^9)(hm:m.length<=10^9):qC l m d q x=some (rr l m d q x):=by unfold qC rr;simp only[M7,Uf,ab,hU m (show m.length<=1073741824 by omega),Ui,ahG];cases hq:gG q;rfl;have h:=mQ hq;have hs:=PC hq;cases vu x;rfl;simp only[aj,ae,ab,bN,Um q hq,Gf l m d _ _ hl hm (show nm q<=9223372036854775807 by unfold nm;omega)];grind[UN,ak]
theorem ai1 (l:ax aE)(m:bK)(d:Int)(q:MF)(x:Ad)(hl:l.length<=10^9)(hm:m.length<=10^9):qQ l m d q x=some (rr l m d q x):=by
 unfold qQ rr;simp only[NI,U7,ab,ju m (show m.length<=1073741824 by omega),aiS];cases hq:gG q;rfl;have h:=mQ hq;have hs:=PC hq;cases vu x;rfl;have e:ar (q.1+ar (16*tmod q.2.2 q.2.1))=nm q:=by grind[ak,nm]
 simp only[aj,ae,ab,bN,Va q hq,e,Cw l m d _ _ hl hm (show nm q<=9223372036854775807 by unfold nm;omega)];grind[ak]
theorem afI {n:Nat}(hn:128<=n)(z:dF n (.sl .str) m)(l:ax aE)(d:Int)(q:MF)(x:Ad):dF n (.sl .str) (rr l m d q x).1/\(rr l m d q x).1.length=m.length:=by grind[rr,LU,nT]
theorem ake {q:MF}{x:Ad}(h:gG q=true):gG (rr l m d q x).2.1=true/\(rr l m d q x).2.1.1=q.1/\(rr l m d q x).2.1.2.1=q.2.1:=by have hq:=mQ h;grind[rr,gG,aS,C8]
def gM (l:ax aE)(m:bK)(d:Int)(q:aW)(k:Bytes)(s:Bytes):bK×MF×Bool:=
 bif !(dC s).2||(((dC s).1.1 !=3)||decide ((dC s).1.2.2.1<((dv q.2.2.2.1.1).1.length:Int))) then(m,q.2.1,false) else
 bif !(jF l m d (dC s).1.2.2.2.1 (dv q.2.2.2.1.1).1 true).2 then(m,q.2.1,false) else
 rr l (jF l m d (dC s).1.2.2.2.1 (dv q.2.2.2.1.1).1 true).1 d q.2.1 ((dC s).1.2.2.2.2.2,((dv q.2.2.2.1.1).1.length:Int),q.2.2.2.1.2.1,q.2.2.2.1.2.2,xn k (tD (dJ q.2.2.2.1.1)))
theorem af9 (l:ax aE)(m:bK)(d:Int)(q:aW)(k s:Bytes)(hl:l.length<=10^9)(hm:m.length<=10^9)(hs:s.length<=10^9):AZ l m d q s k=some (gM l m d q k s):=by
 unfold AZ gM;have lV:=Qj (s:=s);simp only[ZA s hs,I8,ab,ju m (show m.length<=1073741824 by omega)];generalize dC s=x at lV⊢;cases hx:x.2;rfl;have hd:=lV hx;simp only[mr,ah,aS]at hd;cases x.1.1 !=3;case true=>rfl
 cases decide (x.1.2.2.1<((dv q.2.2.2.1.1).1.length:Int));all_goals grind[ab,Cw,Mb,Mc,ai1,nT]
theorem aeL (l:ax aE)(m:bK)(d:Int)(q:aW)(k s:Bytes)(hl:l.length<=10^9)(hm:m.length<=10^9)(hs:s.length<=10^9)(hh:cC q.2.2.2.1.1=true):∃b,ym l m d q k s=some (b,gM l m d q k s)/\(b=false->gM l m d q k s=(m,q.2.1,false)):=by
 unfold ym gM;have lV:=Qj (s:=s);simp only[Ym s hs,IU,ab,zJ hh];generalize dC s=x at lV⊢;cases hx:x.2;exact⟨false,rfl,λ_=>rfl⟩;have hd:=lV hx;simp only[mr,ah,aS]at hd;cases x.1.1 !=3;case true=>simp_all
 cases decide (x.1.2.2.1<((dv q.2.2.2.1.1).1.length:Int));case true=>simp_all
 simp only[aj,ae,ab,bN,Gf l m d _ _ hl hm (show x.1.2.2.2.1<=9223372036854775807 by omega)];cases (jF l m d x.1.2.2.2.1 (dv q.2.2.2.1.1).1 true).2;exact⟨false,rfl,λ_=>rfl⟩;simp only[aj,ae,Q3,ab,Lg,ahP l _ d _ _ hl (show(jF l m d x.1.2.2.2.1 (dv q.2.2.2.1.1).1 true).1.length<=10^9 by rw[nT];exact hm)];grind
theorem Vh {n:Nat}(hn:128<=n){q:aW}{k:Bytes}(z:dF n (.sl .str) m)(hq:gG q.2.1=true): dF n (.sl .str) (gM l m d q k s).1/\(gM l m d q k s).1.length=m.length/\gG (gM l m d q k s).2.1=true/\(gM l m d q k s).2.1.1=q.2.1.1/\(gM l m d q k s).2.1.2.1=q.2.1.2.1:=by
 unfold gM;cases !(dC s).2||(((dC s).1.1 !=3)||decide ((dC s).1.2.2.1<((dv q.2.2.2.1.1).1.length:Int)));case true=>grind
 cases (jF l m d (dC s).1.2.2.2.1 (dv q.2.2.2.1.1).1 true).2;all_goals grind[LU,nT,afI,ake]
def gy (l:ax aE)(m:bK)(d:Int)(q:aW)(k:Bytes):bK×aW:=
 bif !FP q||(!q.2.2.2.2.1||((k.length:Int) !=16)) then(m,q) else
 bif (bI l m d q.1).2.2&&(gM l m d q k (bI l m d q.1).1).2.2 then
  ((gM l m d q k (bI l m d q.1).1).1,(bI l m d q.1).2.1,(gM l m d q k (bI l m d q.1).1).2.1,q.2.2.1,agn,false,q.2.2.2.2.2)
 else(m,(bI l m d q.1).2.1,q.2.1,q.2.2.1,agn,false,ar (q.2.2.2.2.2+q.2.2.2.1.2.2))
theorem ZT (h:(bI l m d r).2.2=false):(bI l m d r).2.1=r:=by grind[bI]
theorem Bt {q:aW}(h:FP q=true):gG q.2.1=true/\(q.2.2.2.2.1=true->cC q.2.2.2.1.1=true):=by grind[FP]
theorem NH (l:ax aE)(m:bK)(d:Int)(q:aW)(k:Bytes)(hl:l.length<=10^9)(hm:m.length<=10^9):pT l m d q k=some (gy l m d q k):=by
 have ht:=Bb l m d q.1;unfold pT gy;simp only[WM,ab,ju m (show m.length<=1073741824 by omega),Mh l m d q.1 hl hm,af9 l m d q k _ hl hm (show(bI l m d q.1).1.length<=10^9 by omega)];cases FP q;rfl;cases q.2.2.2.2.1;rfl;cases (k.length:Int) !=16;case true=>rfl
 simp only[aj,ae,ab,bN];cases (bI l m d q.1).2.2;rfl;cases (gM l m d q k (bI l m d q.1).1).2.2<;>rfl
theorem M5 (l:ax aE)(m:bK)(d:Int)(q:aW)(k:Bytes)(hl:l.length<=10^9)(hm:m.length<=10^9):pw l m d q k=some (gy l m d q k):=by
 have ht:=Bb l m d q.1;have KJ:=ZT (l:=l) (m:=m) (d:=d) (r:=q.1);unfold pw gy;simp only[Q8,ab,hU m (show m.length<=1073741824 by omega),Lo l m d q.1 hl hm];cases hr:FP q;rfl;cases hh:q.2.2.2.2.1;rfl;cases (k.length:Int) !=16;case true=>rfl
 obtain⟨b,hb,SB⟩:=aeL l m d q k (bI l m d q.1).1 hl hm (by omega) ((Bt hr).2 hh);simp only[aj,ae,ab,bN,hb];generalize gM l m d q k (bI l m d q.1).1=s at hb SB⊢;cases hk:(bI l m d q.1).2.2 with|false=>rw[KJ hk];rfl|true=>?_
 cases b with|true=>cases hs:s.2.2<;>rfl|false=>rw[SB rfl];rfl
theorem IM {n:Nat}(hn:128<=n){q:aW}{k:Bytes}(z:dF n (.sl .str) m)(zq:dF n nB q): dF n (.sl .str) (gy l m d q k).1/\(gy l m d q k).1.length=m.length/\dF n nB (gy l m d q k).2/\(FP q=true->gG (gy l m d q k).2.2.1=true/\(gy l m d q k).2.2.1.2.1=q.2.1.2.1):=by
 unfold gy;cases hc: !FP q||(!q.2.2.2.2.1||((k.length:Int) !=16));case true=>grind[Bt]
 simp only[de,eY]at hc;have hq:=(Bt hc.1).1;have hs:=Vh hn (l:=l) (d:=d) (k:=k) (s:=(bI l m d q.1).1) z hq;have e0:dF n nB ((bI l m d q.1).2.1,(gM l m d q k (bI l m d q.1).1).2.1,q.2.2.1,agn,false,q.2.2.2.2.2):=⟨⟨dx,dx,dx,dx⟩,⟨dx,dx,dx⟩,⟨dx,dx,dx⟩,⟨⟨dx,dx,dx,dx,dx,dx,dx,dx,dx,dx,dx,dx,dx,dx,dx,cU _⟩,dx,dx⟩,dx,dx⟩
 cases (bI l m d q.1).2.2&&(gM l m d q k (bI l m d q.1).1).2.2 with|true=>grind|false=>exact⟨z,rfl,⟨⟨dx,dx,dx,dx⟩,⟨dx,dx,dx⟩,⟨dx,dx,dx⟩,⟨⟨dx,dx,dx,dx,dx,dx,dx,dx,dx,dx,dx,dx,dx,dx,dx,cU _⟩,dx,dx⟩,dx,dx⟩,λ_=>⟨hq,rfl⟩⟩
theorem xg {m':bK}{n:Nat}(h:∀j,j<n->mB m' (a+j)=mB m (a+j)):tS m' a n=tS m a n:=List.map_congr_left λj hj=>h j (cP.1 hj)
theorem LX (h:∀j,j<s.length->mB m (a+j)=s.getD j 0):tS m a s.length=s:=by refine List.ext_getElem (Zm ..) λj g1 g2=>?_;have e:=aiI m a s.length j g2;grind
def fJ (b S hd n:Nat):mn:=((b:Int),(S:Int),((hd%(2*S):Nat):Int),(((hd+n)%(2*S):Nat):Int))
theorem pM {b S n:Nat}(hS:S=4\/S=16)(hb:b<=130944)(hn:n<=S):dR (fJ b S hd n)=true/\cw (fJ b S hd n)=(n:Int):=by
 have hs:jW (S:Int)=true:=iK.2 (by omega);have hu:cw (fJ b S hd n)=(n:Int):=by grind[cw,fJ]
 refine⟨?_,hu⟩;have e:dR (fJ b S hd n)=(dV (b:Int) 0 130944&&(jW (S:Int)&&(dV ((hd%(2*S):Nat):Int) 0 (2*(S:Int)-1)&&(dV (((hd+n)%(2*S):Nat):Int) 0 (2*(S:Int)-1)&&decide (cw (fJ b S hd n)<=(S:Int)))))):=rfl;grind[aS]
theorem ak5 {b S n c:Nat}(hS:S=4\/S=16)(hb:b<=130944)(hn:n<=S):tU (fJ b S hd n) ((c%(2*S):Nat):Int)=((b+16*(c%S):Nat):Int):=by unfold tU;rw[(pM hS hb hn).1,ie];show(b:Int)+tmod ((c%(2*S):Nat):Int) (S:Int)*16=_;grind
structure qp (m:List Bytes) (b S hd:Nat) (E:List Bytes):Prop where
 len:E.length<=S
 get:∀j,j<E.length->tS m (b+16*((hd+j)%S)) 16=E.getD j []
theorem qp.frame {m':bK}{b S:Nat}{E:bK}(r:qp m b S hd E)(hS:S=4\/S=16)(h:∀i,b<=i->i<b+16*S->mB m' i=mB m i):qp m' b S hd E:=⟨r.len,λj hj=>by rw[xg λi hi=>h _ (by omega) (by grind)];exact r.get j hj⟩
theorem Dc (hm:fA m){b S:Nat}{e:Bytes}{E:bK}(hS:S=4\/S=16)(hb:b+16*S<=4864)(r:qp m b S hd (e::E)):bI (bM 38) m 0 (fJ b S hd (E.length+1))=(e,fJ b S (hd+1) E.length,true)/\qp m b S (hd+1) E:=by
 have hl:E.length+1<=S:=r.len;have v:=pM (hd:=hd) hS (show b<=130944 by omega) hl;have sl:=ak5 (b:=b) (hd:=hd) (n:=E.length+1) (c:=hd) hS (by omega) hl;have g0:tS m (b+16*(hd%S)) 16=e:=r.get 0 (by simp);have d:=Hx hm (a:=b+16*(hd%S)) (r:=16) (by omega) (by rcases hS with rfl|rfl<;>omega);refine⟨?_,⟨by omega,λj hj=>?_⟩⟩;unfold bI;rw[v.1,v.2,show(((E.length+1:Nat):Int)==0)=false from by rw[cq];omega];show(bif false then _ else bif !(pq (bM 38) m 0 (tU (fJ b S hd (E.length+1)) ((hd%(2*S):Nat):Int)) 16).2 then _ else _)=_;rw[ae];show(bif !(pq (bM 38) m 0 (tU (fJ b S hd (E.length+1)) ((hd%(2*S):Nat):Int)) 16).2 then _ else((pq (bM 38) m 0 (tU (fJ b S hd (E.length+1)) ((hd%(2*S):Nat):Int)) 16).1,((b:Int),(S:Int),tmod (((hd%(2*S):Nat):Int)+1) (2*(S:Int)),(((hd+(E.length+1))%(2*S):Nat):Int)),true))=_;rw[sl,show((16:Int))=((16:Nat):Int) from rfl,d,g0];simp only[aj,ae];have e1:tmod (((hd%(2*S):Nat):Int)+1) (2*(S:Int))=(((hd+1)%(2*S):Nat):Int):=by rw[show((hd%(2*S):Nat):Int)+1=((hd%(2*S)+1:Nat):Int) by omega,show(2*(S:Int))=((2*S:Nat):Int) by omega,Mr];rcases hS with rfl|rfl<;>omega
 rw[e1,show hd+(E.length+1)=hd+1+E.length by omega];rfl;have:=r.get (j+1) (by simp;omega);rw[show hd+(j+1)=hd+1+j by omega]at this;exact this
theorem Vk {b S:Nat}(hS:S=4\/S=16)(hb:b<=130944:=by omega):bI (bM 38) m 0 (fJ b S hd 0)=([],fJ b S hd 0,false):=by grind[pM,bI]
theorem Zc (hm:fA m){b S:Nat}{E:bK}(hS:S=4\/S=16)(hb:b+16*S<=256\/1280<=b/\b+16*S<=4864)(r:qp m b S hd E)(hn:E.length<S)(hs:s.length=16): (dr (bM 38) m 0 (fJ b S hd E.length) s).2=(fJ b S hd (E.length+1),true)/\fA (dr (bM 38) m 0 (fJ b S hd E.length) s).1/\qp (dr (bM 38) m 0 (fJ b S hd E.length) s).1 b S hd (E++[s])/\∀i,i<4864->(i<b\/b+16*S<=i)->mB (dr (bM 38) m 0 (fJ b S hd E.length) s).1 i=mB m i:=by
 have hl:E.length<=S:=r.len;have iq:b<=130944:=by omega
 have v:=pM (hd:=hd) hS iq hl;have sl:=ak5 (b:=b) (hd:=hd) (n:=E.length) (c:=hd+E.length) hS iq hl;have p:=DJ hm (a:=b+16*((hd+E.length)%S)) (s:=s) (w:=true) (by omega) (by rcases hS with rfl|rfl<;>omega) (λ_=>by rcases hS with rfl|rfl<;>omega);have fr:oH (fJ b S hd E.length)=((S-E.length:Nat):Int):=by unfold oH;rw[v.1,v.2,af];show ar ((S:Int)-(E.length:Int))=_;rw[ak (by omega) (by omega)];omega
 have e:dr (bM 38) m 0 (fJ b S hd E.length) s=((jF (bM 38) m 0 ((b+16*((hd+E.length)%S):Nat):Int) s true).1,fJ b S hd (E.length+1),true):=by
  unfold dr;rw[fr,hs,show(((S-E.length:Nat):Int)==0)=false from by rw[cq];omega];show(bif !(jF (bM 38) m 0 (tU (fJ b S hd E.length) (((hd+E.length)%(2*S):Nat):Int)) s true).2 then _ else((jF (bM 38) m 0 (tU (fJ b S hd E.length) (((hd+E.length)%(2*S):Nat):Int)) s true).1,((b:Int),(S:Int),((hd%(2*S):Nat):Int),tmod ((((hd+E.length)%(2*S):Nat):Int)+1) (2*(S:Int))),true))=_;rw[sl,p.1];simp only[aj,ae];have e1:tmod ((((hd+E.length)%(2*S):Nat):Int)+1) (2*(S:Int))=(((hd+(E.length+1))%(2*S):Nat):Int):=by rw[show(((hd+E.length)%(2*S):Nat):Int)+1=(((hd+E.length)%(2*S)+1:Nat):Int) by omega,show(2*(S:Int))=((2*S:Nat):Int) by omega,Mr];rcases hS with rfl|rfl<;>omega
  rw[e1];rfl
 rw[e];have p3:=p.2.2;rw[hs]at p3;generalize (jF (bM 38) m 0 ((b+16*((hd+E.length)%S):Nat):Int) s true).1=m' at p p3⊢;refine⟨rfl,p.2.1,⟨by simp;omega,λj hj=>?_⟩,λi hi ho=>?_⟩;simp only[aq,bu]at hj;rcases ca j E.length with g|g;rw[cB,bB g,<-cB,<-r.get j g];refine xg λi hi=>?_;rw[p3 _ (by rcases hS with rfl|rfl<;>omega),aK (by rcases hS with rfl|rfl<;>omega)];have hj:j=E.length:=by omega
 subst hj;have e2:(E++[s]).getD E.length []=s:=by simp
 rw[e2];have:=LX (m:=m') (a:=b+16*((hd+E.length)%S)) (s:=s) λi hi=>by rw[p3 _ (by rcases hS with rfl|rfl<;>omega),zip,Nat.add_sub_cancel_left]
 rw[hs]at this;exact this;rw[p3 i hi,aK (by rcases hS with rfl|rfl<;>omega)]
def phN (x:Nat):Int:=if x%8<4 then 1 else 0
def zh (b x:Nat):MF:=((b:Int),4,((x%8:Nat):Int))
theorem VD {b x:Nat}(hb:b<=130944:=by omega):gG (zh b x)=true/\nm (zh b x)=((b+16*(x%4):Nat):Int)/\DH (zh b x)=phN x/\tmod ((zh b x).2.2+1) (2*(zh b x).2.1)=(((x+1)%8:Nat):Int):=by refine⟨?_,?_,?_,?_⟩;unfold gG zh;simp only[ah,aS];refine⟨by omega,by decide,?_⟩;rw[C8 (by decide)];omega;show(b:Int)+tmod ((x%8:Nat):Int) ((4:Nat):Int)*16=_;rw[Mr];omega;unfold phN;show(bif decide (((x%8:Nat):Int)<4) then(1:Int) else 0)=_;by_cases h:x%8<4;rw[aI h,kW];rfl;rw[aK h,ie];rfl;show tmod (((x%8:Nat):Int)+1) (2*4)=_;rw[show((x%8:Nat):Int)+1=((x%8+1:Nat):Int) by omega,show((2:Int)*4)=((8:Nat):Int) from rfl,Mr];omega
abbrev Ho:=Ad
variable {C:ax Ho}
structure PL (m:List Bytes) (b x:Nat) (C:List Ho):Prop where
 len:C.length<=4
 get:∀j,j<C.length->nE (tS m (b+16*((x+j)%4)) 16)=(C.getD j (0,0,0,0,0),phN (x+j),true)
 Ru:∀j,C.length<=j->j<4->(nE (tS m (b+16*((x+j)%4)) 16)).2.1≠phN (x+j)
theorem PL.frame {m':bK}{b x:Nat}(r:PL m b x C)(h:∀i,b<=i->i<b+64->mB m' i=mB m i):PL m' b x C:=by have e:∀j,tS m' (b+16*((x+j)%4)) 16=tS m (b+16*((x+j)%4)) 16:=λj=>xg λi hi=>h _ (by omega) (by omega);exact⟨r.len,λj hj=>by rw[e];exact r.get j hj,λj h1 h2=>by rw[e];exact r.Ru j h1 h2⟩
theorem al3 (x:Nat):phN x≠phN (x+4):=by grind[phN]
theorem No (hm:fA m){b x:Nat}{c:Ho}(hb:b+64<=4864)(r:PL m b x (c::C)):kC (bM 38) m 0 (zh b x)=(c,zh b (x+1),true)/\PL m b (x+1) C:=by have v:=VD (b:=b) (x:=x);have d:=Hx hm (a:=b+16*(x%4)) (r:=16);have g0:=r.get 0 (by simp);rw[eT]at g0;have hl:C.length+1<=4:=r.len;refine⟨?_,⟨by omega,λj hj=>?_,λj h1 h2=>?_⟩⟩;unfold kC IY;rw[v.1,v.2.1,show((16:Int))=((16:Nat):Int) from rfl,d,g0,v.2.2.1];simp only[bH,beq_self_eq_true,af];unfold aih;rw[v.2.2.2];rfl;have:=r.get (j+1) (by simp;omega);rw[show x+(j+1)=x+1+j by omega]at this;exact this;by_cases h3:j=3;subst h3;rw[show(x+1+3)%4=x%4 by omega,g0,show x+1+3=x+4 by omega];exact al3 x;have:=r.Ru (j+1) (by simp;omega) (by omega);rw[show x+(j+1)=x+1+j by omega]at this;exact this
theorem Np (hm:fA m){b x:Nat}(hb:b+64<=4864)(r:PL m b x []):kC (bM 38) m 0 (zh b x)=((0,0,0,0,0),zh b x,false):=by have v:=VD (b:=b) (x:=x);have d:=Hx hm (a:=b+16*(x%4)) (r:=16);have g0:=r.Ru 0 (by simp) (by omega);rw[eT]at g0;unfold kC IY;rw[v.1,v.2.1,show((16:Int))=((16:Nat):Int) from rfl,d,v.2.2.1,show((nE (tS m (b+16*(x%4)) 16)).2.1==phN x)=false from by rw[cq];exact g0];simp only[iv,ae]
theorem nu {d:Dd}(h:mr d=true):(gJ d).length=16/\dC (gJ d)=(d,true):=by
 have hb:=h;unfold mr at hb;simp only[ah,aS]at hb;obtain⟨o,f,l,a,s,c⟩:=d;simp only at hb;obtain⟨h1,h2,h3,h4,h5,h6⟩:=hb;obtain⟨o,rfl⟩:=au h1.1;obtain⟨f,rfl⟩:=au h2.1;obtain⟨l,rfl⟩:=au h3.1;obtain⟨s,rfl⟩:=au h4.1;obtain⟨c,rfl⟩:=au h5.1;obtain⟨a,rfl⟩:=au h6.1;obtain⟨l1,l2,el,el1,el2⟩:=xE (v:=l) (by omega);obtain⟨s1,s2,es,es1,es2⟩:=xE (v:=s) (by omega);obtain⟨c1,c2,ec,ec1,ec2⟩:=xE (v:=c) (by omega);obtain⟨a1,a2,a3,a4,ea,ea1,ea2,ea3,ea4⟩:=FY (v:=a);obtain⟨z1,z2,z3,z4,ez,_⟩:=FY (v:=0);have ez:cn 0=[z1,z2,z3,z4]:=ez;have e:gJ ((o:Int),(f:Int),(l:Int),(a:Int),(s:Int),(c:Int))=[UInt8.ofNat o,UInt8.ofNat f,l1,l2,a1,a2,a3,a4,s1,s2,c1,c2,z1,z2,z3,z4]:=by unfold gJ;rw[h,af];simp only[el,es,ec,ea,ez];rw[D4,D4,show(o:Int)%256=(o:Int) by omega,show(f:Int)%256=(f:Int) by omega];rfl
 have da:F9 (gJ ((o:Int),(f:Int),(l:Int),(a:Int),(s:Int),(c:Int)))=((o:Int),(f:Int),(l:Int),(a:Int),(s:Int),(c:Int)):=by rw[e];show(((UInt8.ofNat o).toNat:Int),((UInt8.ofNat f).toNat:Int),((l1.toNat*256+l2.toNat:Nat):Int),(((a1.toNat*256+a2.toNat)*65536+(a3.toNat*256+a4.toNat):Nat):Int),((s1.toNat*256+s2.toNat:Nat):Int),((c1.toNat*256+c2.toNat:Nat):Int))=_;simp_all;omega
 grind[dC,gJ]
theorem agU {x:Ho}(h:vu x=true){p:Nat}(hp:p<=1):(OS x (p:Int)).length=16/\nE (OS x (p:Int))=(x,(p:Int),true):=by
 have hb:=h;unfold vu at hb;simp only[ah,aS]at hb;obtain⟨c,l,s,n,k⟩:=x;simp only at hb;obtain⟨h1,h2,h3,h4,h5⟩:=hb;obtain⟨c,rfl⟩:=au h1.1;obtain⟨l,rfl⟩:=au h2.1;obtain⟨s,rfl⟩:=au h3.1;obtain⟨n,rfl⟩:=au h4.1;obtain⟨k,rfl⟩:=au h5.1;obtain⟨c1,c2,ec,ec1,ec2⟩:=xE (v:=c) (by omega);obtain⟨l1,l2,el,el1,el2⟩:=xE (v:=l) (by omega);obtain⟨s1,s2,es,es1,es2⟩:=xE (v:=s) (by omega);obtain⟨n1,n2,en,en1,en2⟩:=xE (v:=n) (by omega);obtain⟨k1,k2,k3,k4,ek,ek1,ek2,ek3,ek4⟩:=FY (v:=k);obtain⟨p1,p2,p3,p4,ep,ep1,ep2,ep3,ep4⟩:=FY (v:=p);have e:OS ((c:Int),(l:Int),(s:Int),(n:Int),(k:Int)) (p:Int)=[c1,c2,l1,l2,s1,s2,n1,n2,k1,k2,k3,k4,p1,p2,p3,p4]:=by grind[OS,aS]
 have g:∀q:Nat,q<=1->p1.toNat=0->p2.toNat=0->p3.toNat=0->p4.toNat=q->fM [c1,c2,l1,l2,s1,s2,n1,n2,k1,k2,k3,k4,p1,p2,p3,p4] 12=(q:Int):=by intro q _ g1 g2 g3 g4;show(((p1.toNat*256+p2.toNat)*65536+(p3.toNat*256+p4.toNat):Nat):Int)=_;omega
 have g12:=g p hp (by omega) (by omega) (by omega) (by omega);refine⟨by rw[e];rfl,?_⟩;unfold nE;rw[e,g12,ie];show(bif (((16:Nat):Int) !=16)||false then _ else((((c1.toNat*256+c2.toNat:Nat):Int),((l1.toNat*256+l2.toNat:Nat):Int),((s1.toNat*256+s2.toNat:Nat):Int),((n1.toNat*256+n2.toNat:Nat):Int),(((k1.toNat*256+k2.toNat)*65536+(k3.toNat*256+k4.toNat):Nat):Int)),(p:Int),true))=_;grind[Prod.mk.injEq]
theorem al2 (x:Nat):∃p:Nat,p<=1/\phN x=(p:Int):=by unfold phN;split;exact⟨1,by omega,rfl⟩;exact⟨0,by omega,rfl⟩
theorem UM (hm:fA m){b x:Nat}(hb:1280<=b/\b+64<=4864)(r:PL m b x C)(hn:C.length<4){c:Ho}(hc:vu c=true): (rr (bM 38) m 0 (zh b (x+C.length)) c).2=(zh b (x+C.length+1),true)/\fA (rr (bM 38) m 0 (zh b (x+C.length)) c).1/\PL (rr (bM 38) m 0 (zh b (x+C.length)) c).1 b x (C++[c])/\∀i,i<4864->(i<b\/b+64<=i)->mB (rr (bM 38) m 0 (zh b (x+C.length)) c).1 i=mB m i:=by
 have v:=VD (b:=b) (x:=x+C.length);obtain⟨p,hp,ep⟩:=al2 (x+C.length);have bk:=agU hc hp;rw[<-ep]at bk;generalize hs:OS c (phN (x+C.length))=s at bk;have q:=DJ hm (a:=b+16*((x+C.length)%4)) (s:=s) (w:=true) (by omega) (by omega) (λ_=>by omega);have e:rr (bM 38) m 0 (zh b (x+C.length)) c=((jF (bM 38) m 0 ((b+16*((x+C.length)%4):Nat):Int) s true).1,zh b (x+C.length+1),true):=by unfold rr;rw[v.1,hc,v.2.2.1,hs,v.2.1,q.1,v.2.2.2];rfl
 rw[e];have q3:=q.2.2;rw[bk.1]at q3;generalize (jF (bM 38) m 0 ((b+16*((x+C.length)%4):Nat):Int) s true).1=m' at q q3⊢;have row:tS m' (b+16*((x+C.length)%4)) 16=s:=by
  have:=LX (m:=m') (a:=b+16*((x+C.length)%4)) (s:=s) λi hi=>by rw[q3 _ (by omega),zip,Nat.add_sub_cancel_left]
  rw[bk.1]at this;exact this
 have apart:∀j,j<4->j≠C.length->tS m' (b+16*((x+j)%4)) 16=tS m (b+16*((x+j)%4)) 16:=λj hj Fa=>xg λi hi=>by rw[q3 _ (by omega),lH]
 refine⟨rfl,q.2.1,⟨by simp;omega,λj hj=>?_,λj h1 h2=>?_⟩,λi hi ho=>?_⟩;simp only[aq,bu]at hj;by_cases g:j=C.length;subst g;rw[row,bk.2];simp;rw[apart j (by omega) g,r.get j (by omega),cB,cB,bB (by omega)];simp only[aq,bu]at h1;rw[apart j h2 (by omega)];exact r.Ru j (by omega) h2;rw[q3 i hi,lH]
def iZ (p:dq)(n:Int):dq×dm×Bool:=bif dL p&&dV n 0 (p.2.2.2.length:Int) then((p.1,p.2.1,p.2.2.1,p.2.2.2.drop n.toNat),p.2.2.2.take n.toNat,true) else(p,[],false)
theorem aga (p:dq)(n:Int)(h:p.2.2.2.length<=10^9):uW p n=some (iZ p n):=by unfold uW iZ;rw[zL p h,ab,vT p h,ab,cR];grind[aS,ab,EL,bf,ZQ]
theorem aeM (p:dq)(n:Int)(h:p.2.2.2.length<=10^9):uB p n=some (iZ p n):=by unfold uB iZ;rw[xm p h,ab,Bf p h,ab,dI];cases dL p;rfl;cases hi:dV n 0 (p.2.2.2.length:Int);rfl;have hn:=aS.1 hi;obtain⟨n,rfl⟩:=au hn.1;simp only[aj,ae,ab,du,af,aC];grind[ab,qt,sub]
theorem Bd:∀l:ax nq,(∀x∈l,0<=x.2.1/\x.2.1<=16)->0<=dK l/\dK l<=16*(l.length:Int)
 |[],_=>by simp[dK]
 |y::l,h=>by have h1:=Bd l (λx hx=>h x (cc _ hx));grind[dK]
theorem Qi (l:ax nq)(i:Nat)(hi:i<l.length):dK (l.take (i+1))=dK (l.take i)+l[i].2.1:=by grind[bz,dK]
theorem af7 (t:cz)(h:t.2.2.1.length<=1000000)(hs:∀x∈t.2.2.1,0<=x.2.1/\x.2.1<=16):AY t=some (dK t.2.2.1):=by
 have zj:=dD;unfold AY;refine dA (λi=>(dK (t.2.2.1.take i),(i:Int))) t.2.2.1.length (by omega) (λi nx hi=>?_) (λnx=>?_);have hb:=Bd (t.2.2.1.take i) (λx hx=>hs x (List.mem_of_mem_take hx));have hc:=hs _ (bn hi);have hl:(t.2.2.1.take i).length<=1000000:=by rw[bt];omega
 rw[Qi _ _ hi];simp only[vf];rw[kW,af,bw hi,ab,ak (n:=(i:Int)+1) (by omega) (by omega),ak (by omega) (by omega)];rfl;simp only[vf];rw[ie,ae,cQ]
theorem aeI (t:cz)(h:t.2.2.1.length<=1000000)(hs:∀x∈t.2.2.1,0<=x.2.1/\x.2.1<=16):sT t=some (dK t.2.2.1):=by
 have zj:=dD;unfold sT;refine dA (λi=>(dK (t.2.2.1.take i),(i:Int))) t.2.2.1.length (by omega) (λi nx hi=>?_) (λnx=>?_);have hb:=Bd (t.2.2.1.take i) (λx hx=>hs x (List.mem_of_mem_take hx));have hc:=hs _ (bn hi);have hl:(t.2.2.1.take i).length<=1000000:=by rw[bt];omega
 rw[Qi _ _ hi];simp only[nQ];rw[kW,af,bw hi,ab,ak (n:=(i:Int)+1) (by omega) (by omega),ak (by omega) (by omega)];rfl;simp only[nQ];rw[ie,ae,cQ]
def sV (l:ax aE)(d:Int):bK->bK->mn->aA (bK×mn)
 |[],m,r=>some (m,r)
 |s::q,m,r=>bif (dr l m d r s).2.2 then sV l d q (dr l m d r s).1 (dr l m d r s).2.1 else none
def ain (m:bK)(r:mn):aA (bK×mn)->bK×mn×Bool
 |some x=>(x.1,x.2,true)
 |none=>(m,r,false)
def oU (l:ax aE)(m:bK)(d:Int)(r:mn)(q:bK):bK×mn×Bool:=ain m r (sV l d q m r)
theorem HR (l:ax aE)(d:Int)(M:bK)(A B2:mn)(B1:bK)(hl:l.length<=10^9)(hM:M.length<=10^9):∀(rest pre:bK)(m:bK)(r:mn)(f:Nat),rest.length<f->(pre++rest).length<=10^9->m.length<=10^9->
 aZ (mM (λ_ y6 y7=>some (y6,y7,true)) (λy8 _ zo CX _ _=>some (zo,CX,y8)) l d false (pre++rest) ((pre++rest).length:Int) M A B1 B2) f ((pre.length:Int),m,r)=some (ain M A (sV l d rest m r))
 |rest,pre,m,r,0,hf,_,_=>by omega
 |[],pre,m,r,f+1,_,_,_=>by rw[aZ];simp only[mM];rw[aw (by simp),ae];rfl
 |s::q,pre,m,r,f+1,hf,hn,hm=>by
  simp only[bp,aq]at hf hn;have hi:pre.length<(pre++s::q).length:=by simp
  have hb:(pre++s::q)[pre.length]=s:=by simp
  rw[aZ];simp only[mM];rw[az (by simp;omega),bw hi,hb];simp only[af,ab,Oe l m d r _ hl hm];rw[sV];cases hq:(dr l m d r s).2.2 with|false=>simp only[cA,af,ae,hU M,ab];rfl|true=>simp only[aj,ae,af];rw[ak (n:=(pre.length:Int)+1) (by omega) (by omega)];have key:=HR l d M A B2 B1 hl hM q (pre++[s]) (dr l m d r s).1 (dr l m d r s).2.1 f (by omega) (by simp;omega) (by rw[yv];exact hm);grind
theorem Ig (l:ax aE)(d:Int)(M:bK)(A B2:mn)(B1:bK)(hl:l.length<=10^9)(hM:M.length<=10^9):∀(rest pre:bK)(m:bK)(r:mn)(f:Nat),rest.length<f->(pre++rest).length<=10^9->m.length<=10^9->
 aZ (mT (λ_ y6 y7=>some (y6,y7,true)) (λy8 _ zo CX _ _=>some (zo,CX,y8)) l d (pre++rest) false M A B1 B2) f ((pre.length:Int),m,r)=some (ain M A (sV l d rest m r))
 |rest,pre,m,r,0,hf,_,_=>by omega
 |[],pre,m,r,f+1,_,_,_=>by rw[aZ];simp only[mT];rw[aw (by simp),ae];rfl
 |s::q,pre,m,r,f+1,hf,hn,hm=>by
  simp only[bp,aq]at hf hn;have hi:pre.length<(pre++s::q).length:=by simp
  have hb:(pre++s::q)[pre.length]=s:=by simp
  rw[aZ];simp only[mT];rw[az (by simp;omega),bw hi,hb];simp only[af,ab,OD l m d r _ hl hm];rw[sV];cases hq:(dr l m d r s).2.2 with|false=>simp only[cA,af,ae,ju M,ab];rfl|true=>simp only[aj,ae,af];rw[ak (n:=(pre.length:Int)+1) (by omega) (by omega)];have key:=Ig l d M A B2 B1 hl hM q (pre++[s]) (dr l m d r s).1 (dr l m d r s).2.1 f (by omega) (by simp;omega) (by rw[yv];exact hm);grind
theorem aba (l:ax aE)(m:bK)(d:Int)(r:mn)(q:bK)(hl:l.length<=10^9)(hm:m.length<=10^9)(hq:q.length<=10^9):lC l m d r q=some (oU l m d r q):=by have zj:=dD;unfold lC oU;rw[hU m,ab];exact HR l d m r _ _ hl hm q [] m r fuel (by omega) (by simpa using hq) hm
theorem acg (l:ax aE)(m:bK)(d:Int)(r:mn)(q:bK)(hl:l.length<=10^9)(hm:m.length<=10^9)(hq:q.length<=10^9):wL l m d r q=some (oU l m d r q):=by have zj:=dD;unfold wL oU;rw[ju m,ab];exact Ig l d m r _ _ hl hm q [] m r fuel (by omega) (by simpa using hq) hm
def Bp (x:Int×Int):Bool:=decide (x.1<0)|| !dV x.2 0 4096
def mh (l:ax (Int×Int)):Bool:= !l.any Bp&&decide ((l.length:Int)<=16)
theorem RF (l:ax (Int×Int)):(bif l.any Bp then some false else some (decide ((l.length:Int)<=16)))=some (mh l):=by grind[mh]
theorem Q6 (l:ax (Int×Int))(h:l.length<=10^9):As l=some (mh l):=by
 rw[<-RF];refine Hs Bp l (by omega) (λi hi nx=>?_) (λnx=>?_);simp only[ur];rw[kW,af,bw hi,ab,dI,ak (by omega) (by omega)];unfold Bp;cases decide (l[i].1<0)with|true=>rfl|false=>rfl
 simp only[ur];rw[ie,ae]
theorem R6 (l:ax (Int×Int))(h:l.length<=10^9):AP l=some (mh l):=by
 rw[<-RF];refine Hs Bp l (by omega) (λi hi nx=>?_) (λnx=>?_);simp only[uP];rw[kW,af,bw hi,ab,ab,cR,ak (by omega) (by omega)];unfold Bp;cases decide (l[i].1<0)with|true=>rfl|false=>rfl
 simp only[uP];rw[ie,ae]
theorem FH {l:ax (Int×Int)}(h:mh l=true):l.length<=16/\∀x∈l,0<=x.1/\0<=x.2/\x.2<=4096:=by grind[mh,Bp,aS]
def dsc (n:Nat)(c:Int)(i:Nat)(x:Int×Int):Dd:=(1,(if i+1=n then 1 else 0),x.2,x.1,0,c)
def jG (ps:ax (Int×Int))(c:Int):Nat->ax Dd
 |0=>[]
 |i+1=>jG ps c i++[dsc ps.length c i (ps.getD i (0,0))]
theorem CZ (ps:ax (Int×Int))(c:Int):∀i,(jG ps c i).length=i
 |0=>rfl
 |i+1=>by rw[jG,aq,CZ ps c i];rfl
theorem ID (ps:ax (Int×Int))(c:Int)(q:Dd->Bool):∀i,(jG ps c i).all q=(range i).all (λj=>q (dsc ps.length c j (ps.getD j (0,0))))
 |0=>rfl
 |i+1=>by rw[jG,List.all_append,ID ps c q i,List.range_succ,List.all_append];rfl
def gw (ps:ax (Int×Int))(z c:Int):ax Dd:=
 bif ((ps.length:Int)==0)||(!mh ps|| !dV z 1 128) then [] else
 bif ([(2,0,0,0,z,c)]++jG ps c ps.length).all mr then [(2,0,0,0,z,c)]++jG ps c ps.length else []
theorem Ge (ps:ax (Int×Int))(z c:Int)(h:ps.length<=10^9:=by omega):∃b,jU ps z c=some (b,gw ps z c)/\(b=false->gw ps z c=[]):=by
 unfold jU gw;rw[Q6 ps h,dI];cases ((ps.length:Int)==0);case true=>exact⟨false,rfl,λ_=>rfl⟩
 cases mh ps;exact⟨false,rfl,λ_=>rfl⟩;cases dV z 1 128;exact⟨false,rfl,λ_=>rfl⟩;refine⟨([(2,0,0,0,z,c)]++jG ps c ps.length).all mr,?_,λhb=>by rw[hb];rfl⟩;refine dA (λi=>(([(2,0,0,0,z,c)]++jG ps c i,(i:Int)))) ps.length (by omega) (λi nx hi=>?_) (λnx=>?_);have hl:=CZ ps c i;simp only[mc];rw[kW,af,bw hi,ab,ak (by omega) (by omega),ak (by omega) (by omega)];have e:[(2,0,0,0,z,c)]++jG ps c (i+1)=([(2,0,0,0,z,c)]++jG ps c i)++[dsc ps.length c i ps[i]]:=by rw[jG,fD hi,aG]
 rw[e];unfold dsc;by_cases hc:i+1=ps.length;rw[show((i:Int)==(ps.length)-1)=true from by rw[bD];omega,aI hc];rw[bf (by simp only[aq,bu];omega)];rfl;rw[show((i:Int)==(ps.length)-1)=false from by rw[cq];omega,aK hc];simp only[ae];rw[bf (by simp only[aq,bu];omega)];rfl;simp only[mc];rw[ie,ae];have hl:=CZ ps c ps.length;generalize hq:[(2,0,0,0,z,c)]++jG ps c ps.length=q;have hn:q.length<=1000000001:=by rw[<-hq];simp only[aq,bu];omega
 rw[rT (fin:=some (true,q)) mr q (by omega) (λi hi nx=>?_) (λnx=>?_)];cases q.all mr<;>rfl;simp only[lj];rw[kW,af,bw hi,ab,Yn,ab,ak (by omega) (by omega)];rfl;simp only[lj];rw[ie,ae]
theorem L9 (ps:ax (Int×Int))(z c:Int)(h:ps.length<=10^9):lR ps z c=some (gw ps z c):=by
 unfold lR gw;rw[R6 ps h,cR];cases ((ps.length:Int)==0);case true=>rfl
 cases mh ps;rfl;cases dV z 1 128;rfl;have i0:idx [((2,0,0,0,z,c):Dd)] 0=some (2,0,0,0,z,c):=rfl;simp only[aj,ae,ab,bN,i0,L8,List.all_append,cx,List.all_nil,jw];cases mr (2,0,0,0,z,c);rfl;rw[ID];refine(MK (fin:=some ([(2,0,0,0,z,c)]++jG ps c ps.length)) (hit:=some []) (λi=>(([(2,0,0,0,z,c)]++jG ps c i,(i:Int)))) (λj=>mr (dsc ps.length c j (ps.getD j (0,0)))) ps.length (by omega) (λi nx hi _=>?_) (λ_ nx=>?_)).trans ?_;have hl:=CZ ps c i;simp only[mj];rw[kW,af,bw hi,ab,ab,ak (by omega) (by omega),ak (by omega) (by omega)];have e:[(2,0,0,0,z,c)]++jG ps c (i+1)=([(2,0,0,0,z,c)]++jG ps c i)++[dsc ps.length c i ps[i]]:=by rw[jG,fD hi,aG]
 rw[e,fD hi];unfold dsc;by_cases hc:i+1=ps.length;rw[show((i:Int)==(ps.length)-1)=true from by rw[bD];omega,aI hc];simp only[af,L8,ab];rw[bf (by simp only[aq,bu];omega)];rfl;rw[show((i:Int)==(ps.length)-1)=false from by rw[cq];omega,aK hc];simp only[ae,L8,ab];rw[bf (by simp only[aq,bu];omega)];rfl;simp only[mj];rw[ie,ae];cases (range ps.length).all (λj=>mr (dsc ps.length c j (ps.getD j (0,0))))<;>rfl
def FQ (x y:Dd):Bool:=(x.1==y.1)&&((x.2.1==y.2.1)&&((x.2.2.1==y.2.2.1)&&((x.2.2.2.1==y.2.2.2.1)&&((x.2.2.2.2.1==y.2.2.2.2.1)&&((x.2.2.2.2.2==y.2.2.2.2.2)&&true)))))
def BL (a b:ax Dd):Bool:=((a.length:Int)==(b.length:Int))&&(range a.length).all λi=>FQ (a.getD i G5) (b.getD i G5)
theorem af4 (a b:ax Dd)(ha:a.length<=10^9):CM a b=some (BL a b):=by
 unfold CM BL;cases hl:((a.length:Int)==(b.length))with
 |false=>simp only[bne,hl,cA,af,iw]
 |true=>
  have hn:a.length=b.length:=by have:=bS hl;omega
  simp only[bne,hl,aj,ae,bH];rw[rU (λi=>FQ (a.getD i G5) (b.getD i G5)) a.length (by omega) (λi nx hi=>?_) (λnx=>?_)];cases (range a.length).all (λi=>FQ (a.getD i G5) (b.getD i G5))<;>rfl;have hi2:i<b.length:=by omega
  simp only[wV];rw[kW,af,bw hi,bw hi2,ab,ab,ak (by omega) (by omega),fD hi,fD hi2];rfl;simp only[wV];rw[ie,ae]
def gT (l:ax Dd):ax (Int×Int):=(l.drop 1).map λx=>(x.2.2.2.1,x.2.2.1)
def jV (l:ax Dd):ax (Int×Int)×Int×Int×Bool:=
 match l with
 |h::x::r=>bif BL (gw (gT l) h.2.2.2.2.1 h.2.2.2.2.2) l then(gT l,h.2.2.2.2.1,h.2.2.2.2.2,true) else([],0,0,false)
 |_=>([],0,0,false)
theorem TI (ps:ax (Int×Int))(z c:Int):(gw ps z c).length<=ps.length+1:=by
 unfold gw;cases ((ps.length:Int)==0)||(!mh ps|| !dV z 1 128);case true=>simp
 cases ([(2,0,0,0,z,c)]++jG ps c ps.length).all mr with|false=>simp|true=>simp only[ae,af,aq,bu,CZ];omega
theorem WK (l:ax Dd)(hl:l.length<=10^9):qP l=some (jV l):=by
 unfold qP;match l,hl with
 |[],_=>
  obtain⟨g,hg⟩:∃g,fuel=g+1:=⟨fuel-1,by have:=dD;omega⟩
  rw[hg,aZ];rfl
 |h::q,hl=>
  simp only[bp]at hl;refine dA (λi=>(((q.take i).map (λx=>(x.2.2.2.1,x.2.2.1)),((i+1:Nat):Int)))) q.length (by omega) (λi nx hi=>?_) (λnx=>?_);have hi2:i+1<(h::q).length:=by simp;omega
  have e2:(h::q)[i+1]=q[i]:=rfl;simp only[nj];rw[kW,af,bw hi2,ab,ab,bf (by simp only[bX,bt,bu];omega),ak (by omega) (by omega),e2,bz hi,cS];rfl;have i0:idx (h::q) 0=some h:=rfl;simp only[nj];rw[aw (by simp only[bp];omega),ae,cQ];have hp:q.map (λx=>(x.2.2.2.1,x.2.2.1))=gT (h::q):=rfl;have C1:(gT (h::q)).length=q.length:=by rw[<-hp,bX]
  rw[hp];have hdl:=TI (gT (h::q)) h.2.2.2.2.1 h.2.2.2.2.2;simp only[i0,ab,L9 (gT (h::q)) _ _ (show(gT (h::q)).length<=10^9 by omega),af4 _ (h::q) (show(gw (gT (h::q)) h.2.2.2.2.1 h.2.2.2.2.2).length<=10^9 by omega)];cases q with|nil=>rfl|cons x r=>simp only[ae,ab,jV];cases BL (gw (gT (h::x::r)) h.2.2.2.2.1 h.2.2.2.2.2) (h::x::r)<;>rfl
theorem Wc (l:ax Dd)(hl:l.length<=10^9):qB l=some (jV l):=by
 unfold qB;match l,hl with
 |[],_=>rfl
 |[h],_=>rfl
 |h::y::r,hl=>
  generalize hq:y::r=q;have hq1:1<=q.length:=by rw[<-hq];simp
  have hlen:q.length+1<=10^9:=by rw[<-hq];simpa using hl
  have i0:idx (h::q) 0=some h:=rfl;have s0:sub (h::q) 1 (((h::q).length))=some q:=vh 1 (by simp) rfl;rw[aw (by simp only[bp];omega),ae,s0,ab];refine dA (λi=>(((q.take i).map (λx=>(x.2.2.2.1,x.2.2.1)),(i:Int)))) q.length (by omega) (λi nx hi=>?_) (λnx=>?_);simp only[nb];rw[kW,af,bw hi,ab,bf (by simp only[bX,bt,bu];omega),ak (by omega) (by omega),bz hi,cS];rfl;simp only[nb];rw[ie,ae,cQ];have hp:q.map (λx=>(x.2.2.2.1,x.2.2.1))=gT (h::q):=rfl;have C1:(gT (h::q)).length=q.length:=by rw[<-hp,bX]
  rw[hp];have hdl:=TI (gT (h::q)) h.2.2.2.2.1 h.2.2.2.2.2;obtain⟨b,hd,hb⟩:=Ge (gT (h::q)) h.2.2.2.2.1 h.2.2.2.2.2;have hR:jV (h::q)=bif BL (gw (gT (h::q)) h.2.2.2.2.1 h.2.2.2.2.2) (h::q) then(gT (h::q),h.2.2.2.2.1,h.2.2.2.2.2,true) else([],0,0,false):=by rw[<-hq];rfl
  rw[hR];simp only[i0,ab,hd];have hlc:(((h::q).length):Int)=(q.length)+1:=by simp only[bp];omega
  generalize gw (gT (h::q)) h.2.2.2.2.1 h.2.2.2.2.2=w at hdl hb⊢
  have core:∀(K:aA (ax (Int×Int)×Int×Int×Bool))(w':ax Dd),w'=w->(bif ((w'.length):Int) !=(((h::q).length)) then some (([]),(0),(0),false) else
   aZ (iP (λzo=>some (gT (h::q),h.2.2.2.2.1,h.2.2.2.2.2,true)) (λCX Jn Jo F0 Jp=>some (CX,Jn,Jo,F0)) (h::q) (gT (h::q)) h.2.2.2.2.1 h.2.2.2.2.2 w' ((w'.length))) fuel 0)=some (bif BL w (h::q) then(gT (h::q),h.2.2.2.2.1,h.2.2.2.2.2,true) else([],0,0,false)):=by
   intro K w' e
   subst e
   unfold BL
   cases hl:((w'.length)==(((h::q).length):Int))with
   |false=>simp only[bne,hl,cA,af,iw,ae]
   |true=>
    simp only[bne,hl,aj,ae,bH]
    rw[rU (fin:=some (gT (h::q),h.2.2.2.2.1,h.2.2.2.2.2,true)) (λi=>FQ (w'.getD i G5) ((h::q).getD i G5)) w'.length (by omega) (λi nx hi=>?_) (λnx=>?_)]
    ·cases (range w'.length).all (λi=>FQ (w'.getD i G5) ((h::q).getD i G5))<;>rfl
    ·have hi2:i<(h::q).length:=by omega
     simp only[iP]
     rw[kW,af,bw hi,bw hi2,ab,ab,ak (by omega) (by omega),fD hi,fD hi2];rfl
    ·simp only[iP]
     rw[ie,ae]
  cases b with|true=>exact core none w rfl|false=>exact core none [] (hb rfl).symm
theorem Oq {l:ax Dd}(h:(jV l).2.2.2=true):mh (jV l).1=true/\∀p∈(jV l).1,p.1<=4294967295:=by match l,h with|hd::x::r,h=>unfold jV at h⊢;simp only at h⊢;cases hs:BL (gw (gT (hd::x::r)) hd.2.2.2.2.1 hd.2.2.2.2.2) (hd::x::r)with|false=>grind|true=>generalize hw:gT (hd::x::r)=ps at hs⊢;unfold BL at hs;simp only[ah]at hs;have hn:=bS hs.1;unfold gw at hn;cases hc:((ps.length)==0)||(!mh ps|| !dV hd.2.2.2.2.1 1 128)with|true=>grind|false=>cases ha:([(2,0,0,0,hd.2.2.2.2.1,hd.2.2.2.2.2)]++jG ps hd.2.2.2.2.2 ps.length).all mr with|false=>grind|true=>simp only[de,eY]at hc;refine⟨hc.2.1,λp hp=>?_⟩;rw[List.all_append,ID,ah]at ha;obtain⟨i,hi,rfl⟩:=fO hp;simp_all[mr,dsc,aS]
theorem Ff (l:ax aE)(m:bK)(d a n:Int):(pq l m d a n).1.length<=33554432:=by grind[I3,tR,pq]
def Cf (l:ax aE)(m:bK)(d:Int):ax (Int×Int)->Bytes->Bytes×Bool
 |[],acc=>(acc,true)
 |p::ps,acc=>bif (pq l m d p.1 p.2).2 then Cf l m d ps (acc++(pq l m d p.1 p.2).1) else([],false)
def wq (l:ax aE)(m:bK)(d:Int)(ps:ax (Int×Int)):Bytes×Bool:=bif mh ps then Cf l m d ps [] else([],false)
def Ei (l:ax aE)(m:bK)(d:Int)(p:Int×Int)(s:Bytes):Except (aA (Bytes×Bool)) Bytes:=
 if(pq l m d p.1 p.2).2=true then .ok (s++(pq l m d p.1 p.2).1) else .error (some ([],false))
theorem Kc (l:ax aE)(m:bK)(d:Int):∀(ps:ax (Int×Int))(s:Bytes),Zp (Ei l m d) (λs=>some (s,true)) ps s=some (Cf l m d ps s)
 |[],s=>rfl
 |p::ps,s=>by rw[Zp,Cf];unfold Ei;cases hd:(pq l m d p.1 p.2).2 with|false=>rfl|true=>exact Kc l m d ps _
theorem N2 (l:ax aE)(m:bK)(d:Int):∀(ps:ax (Int×Int))(s:Bytes),(Cf l m d ps s).1.length<=s.length+33554432*ps.length
 |[],s=>by simp[Cf]
 |p::ps,s=>by have h1:=Ff l m d p.1 p.2;rw[Cf];cases (pq l m d p.1 p.2).2 with|false=>simp|true=>have:=N2 l m d ps (s++(pq l m d p.1 p.2).1);grind
theorem N3 (l:ax aE)(m:bK)(d:Int)(ps:ax (Int×Int)):(wq l m d ps).1.length<=10^9:=by unfold wq;cases hp:mh ps with|false=>simp|true=>have:=(FH hp).1;have:=N2 l m d ps [];grind
theorem aa5 (l:ax aE)(m:bK)(d:Int)(ps:ax (Int×Int))(hl:l.length<=10^9)(hm:m.length<=10^9)(hn:ps.length<=10^9)(ha:∀p∈ps,p.1<=9223372036854775807):sK l m d ps=some (wq l m d ps):=by
 unfold sK wq;rw[Q6 ps hn,ab];cases hp:mh ps;rfl;have MD:=(FH hp).1;simp only[aj,ae,af];rw[<-Kc];refine FO ps (λs i=>(s,(i:Int))) (λi s=>s.length<=33554432*i) (Ei l m d) _ (by omega) (λi hi s nx hI=>?_) (λi hi s s' hI he=>?_) (λs nx hI=>?_) [] (by simp);have h1:=Ff l m d ps[i].1 ps[i].2;simp only[nM];rw[kW,af,bw hi,ab,En l m d _ _ hl hm (ha _ (bn hi)),ab];unfold Ei;cases hd:(pq l m d ps[i].1 ps[i].2).2 with|false=>rfl|true=>rw[aI rfl,bf (by omega),ak (by omega) (by omega)];rfl
 have h1:=Ff l m d ps[i].1 ps[i].2;unfold Ei at he;split at he;injection he with he;rw[<-he,aq];omega;cases he;simp only[nM];rw[ie,ae]
theorem ab9 (l:ax aE)(m:bK)(d:Int)(ps:ax (Int×Int))(hl:l.length<=10^9)(hm:m.length<=10^9)(hn:ps.length<=10^9)(ha:∀p∈ps,p.1<=9223372036854775807):ta l m d ps=some (wq l m d ps):=by
 unfold ta wq;rw[R6 ps hn,ab];cases hp:mh ps;rfl;have MD:=(FH hp).1;simp only[aj,ae,af];rw[<-Kc];refine FO ps (λs i=>(s,(i:Int))) (λi s=>s.length<=33554432*i) (Ei l m d) _ (by omega) (λi hi s nx hI=>?_) (λi hi s s' hI he=>?_) (λs nx hI=>?_) [] (by simp);have h1:=Ff l m d ps[i].1 ps[i].2;simp only[nZ];rw[kW,af,bw hi,ab,ab,EE l m d _ _ hl hm (ha _ (bn hi)),ab];unfold Ei;cases hd:(pq l m d ps[i].1 ps[i].2).2 with|false=>rfl|true=>rw[aI rfl,bf (by omega),ak (by omega) (by omega)];rfl
 have h1:=Ff l m d ps[i].1 ps[i].2;unfold Ei at he;split at he;injection he with he;rw[<-he,aq];omega;cases he;simp only[nZ];rw[ie,ae]
theorem J0 (l:ax aE)(m:bK)(d:Int):∀(n:Nat)(acc:ax Dd)(r:mn),(ot l m d n acc r).1.length<=acc.length+n
 |0,acc,r=>bc _
 |n+1,acc,r=>by
  rw[ot];cases !(bI l m d r).2.2|| !(dC (bI l m d r).1).2;case true=>exact cU _
  cases Cc (dC (bI l m d r).1).1 with|true=>grind|false=>have:=J0 l m d n (acc++[(dC (bI l m d r).1).1]) (bI l m d r).2.1;grind
theorem abY (h:dR r=true):dR (r.1,r.2.1,r.2.2.2,r.2.2.2)=true/\cw (r.1,r.2.1,r.2.2.2,r.2.2.2)=0:=by grind[dR,cw,Int.zero_emod,aS]
theorem NU (l:ax aE)(m:bK)(d:Int):∀(n:Nat)(acc:ax Dd)(r:mn),dR r=true->(cw r).toNat=n->
 dR (ot l m d n acc r).2.1=true/\cw (ot l m d n acc r).2.1<=cw r/\(0<cw r->cw (ot l m d n acc r).2.1<cw r)
 |0,acc,r,hb,hu=>⟨hb,iH _,λh=>by omega⟩
 |n+1,acc,r,hb,hu=>by have hk:=DX (l:=l) (m:=m) (d:=d) (r:=r);have he:=abY hb;rw[ot];cases hc: !(bI l m d r).2.2|| !(dC (bI l m d r).1).2 with|true=>grind|false=>simp only[de,eY]at hc;have hk:=hk hc.1;cases Cc (dC (bI l m d r).1).1 with|true=>grind|false=>have:=NU l m d n (acc++[(dC (bI l m d r).1).1]) (bI l m d r).2.1 hk.1 (by omega);grind
def gF (l:ax aE)(m:bK)(d:Int)(r:mn):mn×bK×Int:=
 bif !dR r||(cw r==0) then(r,[],0) else
 bif !(eI l m d r).2.2|| !(jV (eI l m d r).1).2.2.2 then((eI l m d r).2.1,[],2) else
 bif !(wq l m d (jV (eI l m d r).1).1).2||(!(Dk (wq l m d (jV (eI l m d r).1).1).1).2||((vq (Dk (wq l m d (jV (eI l m d r).1).1).1).1).2 !=0)) then((eI l m d r).2.1,[],2) else
 ((eI l m d r).2.1,EC (vq (Dk (wq l m d (jV (eI l m d r).1).1).1).1).1 (jV (eI l m d r).1).2.1,1)
theorem aa9 (l:ax aE)(m:bK)(d:Int)(r:mn)(hl:l.length<=10^9)(hm:m.length<=10^9):sQ l m d r=some (gF l m d r):=by
 unfold sQ gF;simp only[Bg,Dw,ab,S1 l m d r hl hm];cases hb:dR r;rfl;cases cw r==0;case true=>rfl
 have hu:=nV hb;have hcl:(eI l m d r).1.length<=16:=by unfold eI;cases !dR r||(cw r==0)with|true=>exact cU _|false=>have:=J0 l m d (cw r).toNat [] r;grind
 simp only[aj,ae,ab,bN];generalize eI l m d r=c at hcl⊢;cases c.2.2;rfl;simp only[aj,ae,ab,cM,Wc c.1 (show c.1.length<=10^9 by omega)];have hpo:=Oq (l:=c.1);grind[FH,N3,ab,aa5,TP,aez,IV,ahU]
theorem acf (l:ax aE)(m:bK)(d:Int)(r:mn)(hl:l.length<=10^9)(hm:m.length<=10^9):tn l m d r=some (gF l m d r):=by
 unfold tn gF;simp only[Bu,DQ,ab,Tj l m d r hl hm];cases hb:dR r;rfl;cases cw r==0;case true=>rfl
 have hu:=nV hb;have hcl:(eI l m d r).1.length<=16:=by unfold eI;cases !dR r||(cw r==0)with|true=>exact cU _|false=>have:=J0 l m d (cw r).toNat [] r;grind
 simp only[aj,ae,ab,bN];generalize eI l m d r=c at hcl⊢;simp only[WK c.1 (show c.1.length<=10^9 by omega),ab];cases c.2.2;rfl;simp only[aj,ae,ab,cM];have hpo:=Oq (l:=c.1);generalize jV c.1=p at hpo⊢;cases hp:p.2.2.2;rfl;have hpo:=hpo hp;have MD:=(FH hpo.1).1;have hg:=N3 l m d p.1;simp only[aj,ae,ab,cM,ab9 l m d p.1 hl hm (show p.1.length<=10^9 by omega) (λq hq=>Int.le_trans (hpo.2 q hq) (by omega))];grind[TP,af1,ab,I9,ZJ]
theorem Nn (l:ax aE)(m:bK)(d:Int)(r:mn): ((gF l m d r).2.2=0->(gF l m d r).1=r)/\((gF l m d r).2.2≠0->0<cw r/\dR r=true/\dR (gF l m d r).1=true/\cw (gF l m d r).1<cw r)/\(gF l m d r).2.1.length<=320/\(∀x∈(gF l m d r).2.1,x.length<=382)/\((gF l m d r).2.2=0\/(gF l m d r).2.2=1\/(gF l m d r).2.2=2):=by
 unfold gF;cases hc: !dR r||(cw r==0)with
 |true=>grind
 |false=>
  simp only[de,eY,cq]at hc;have hu:=nV hc.1;have hch:dR (eI l m d r).2.1=true/\cw (eI l m d r).2.1<cw r:=by have:=NU l m d (cw r).toNat [] r hc.1 rfl;grind[eI]
  grind[ND]
def kz (l:ax aE)(m:bK)(d:Int):Nat->bK->Nat->Nat->mn->mn×bK×Int×Int
 |0,fr,dn,bd,r=>(r,fr,(dn:Int),(bd:Int))
 |n+1,fr,dn,bd,r=>
  bif (gF l m d r).2.2==0 then(r,fr,(dn:Int),(bd:Int)) else
  bif (gF l m d r).2.2==1 then kz l m d n (fr++(gF l m d r).2.1) (dn+1) bd (gF l m d r).1 else
  kz l m d n (fr++(gF l m d r).2.1) dn (bd+1) (gF l m d r).1
def oF (l:ax aE)(m:bK)(d:Int)(r:mn):mn×bK×Int×Int:=kz l m d 17 [] 0 0 r
theorem Kk (l:ax aE)(m:bK)(d:Int)(hl:l.length<=10^9)(hm:m.length<=10^9):∀(n:Nat)(fr:bK)(dn bd:Nat)(r:mn)(f:Nat),n<f->(dR r=true->cw r<n)->0<n->fr.length+320*n<=10000->dn+bd+n<=1000->
 aZ (oR (λy2 y3 y4 _ _ _ _ y9=>some (y9,y2,y3,y4)) l d ([]:bK) 0 0 m (0,0,0,0)) f (fr,(dn:Int),(bd:Int),r)=some (kz l m d n fr dn bd r)
 |0,fr,dn,bd,r,f,_,_,h0,_,_=>by omega
 |n+1,fr,dn,bd,r,0,hf,_,_,_,_=>by omega
 |n+1,fr,dn,bd,r,f+1,hf,hr,_,km,hc=>by have ok:=Nn l m d r;rw[aZ,kz];simp only[oR,aa9 l m d r hl hm,ab];generalize gF l m d r=x at ok⊢;cases h0:x.2.2==0 with|true=>grind|false=>have hk:=ok.2.1 (by simpa using h0);have hu:=hr hk.2.1;have hu2:=(nV hk.2.2.1).1;simp only[ae];cases x.2.2==1 with|true=>simp only[af];rw[bf (by omega),ak (by omega) (by omega)];exact Kk l m d hl hm n _ (dn+1) bd _ f (by omega) (λ_=>by omega) (by omega) (by rw[aq];omega) (by omega)|false=>simp only[ae];rw[bf (by omega),ak (by omega) (by omega)];exact Kk l m d hl hm n _ dn (bd+1) _ f (by omega) (λ_=>by omega) (by omega) (by rw[aq];omega) (by omega)
theorem Kx (l:ax aE)(m:bK)(d:Int)(hl:l.length<=10^9)(hm:m.length<=10^9):∀(n:Nat)(fr:bK)(dn bd:Nat)(r:mn)(f:Nat),n<f->(dR r=true->cw r<n)->0<n->fr.length+320*n<=10000->dn+bd+n<=1000->
 aZ (oZ (λy2 y3 y4 _ _ _ _ y9=>some (y9,y2,y3,y4)) l d ([]:bK) 0 0 m (0,0,0,0)) f (fr,(dn:Int),(bd:Int),r)=some (kz l m d n fr dn bd r)
 |0,fr,dn,bd,r,f,_,_,h0,_,_=>by omega
 |n+1,fr,dn,bd,r,0,hf,_,_,_,_=>by omega
 |n+1,fr,dn,bd,r,f+1,hf,hr,_,km,hc=>by have ok:=Nn l m d r;rw[aZ,kz];simp only[oZ,acf l m d r hl hm,ab];generalize gF l m d r=x at ok⊢;cases h0:x.2.2==0 with|true=>rfl|false=>have hk:=ok.2.1 (by simpa using h0);have hu:=hr hk.2.1;have hu2:=(nV hk.2.2.1).1;simp only[ae];rw[bf (by omega)];cases x.2.2==1 with|true=>simp only[af];rw[ak (by omega) (by omega)];exact Kx l m d hl hm n _ (dn+1) bd _ f (by omega) (λ_=>by omega) (by omega) (by rw[aq];omega) (by omega)|false=>simp only[ae];rw[ak (by omega) (by omega)];exact Kx l m d hl hm n _ dn (bd+1) _ f (by omega) (λ_=>by omega) (by omega) (by rw[aq];omega) (by omega)
theorem aeP (l:ax aE)(m:bK)(d:Int)(r:mn)(hl:l.length<=10^9)(hm:m.length<=10^9):uC l m d r=some (oF l m d r):=by have zj:=dD;unfold uC;exact Kk l m d hl hm 17 [] 0 0 r fuel (by omega) (λh=>by have:=(nV h).2;omega) (by omega) (by simp) (by omega)
theorem agd (l:ax aE)(m:bK)(d:Int)(r:mn)(hl:l.length<=10^9)(hm:m.length<=10^9):uX l m d r=some (oF l m d r):=by have zj:=dD;unfold uX;exact Kx l m d hl hm 17 [] 0 0 r fuel (by omega) (λh=>by have:=(nV h).2;omega) (by omega) (by simp) (by omega)
theorem FX (l:ax aE)(m:bK)(d:Int):∀(n:Nat)(fr:bK)(dn bd:Nat)(r:mn),(∀x∈fr,x.length<=382)->
 (kz l m d n fr dn bd r).2.1.length<=fr.length+320*n/\(∀x∈(kz l m d n fr dn bd r).2.1,x.length<=382)/\0<=(kz l m d n fr dn bd r).2.2.1/\(kz l m d n fr dn bd r).2.2.1<=(dn+n:Nat)/\0<=(kz l m d n fr dn bd r).2.2.2/\(kz l m d n fr dn bd r).2.2.2<=(bd+n:Nat)
 |0,fr,dn,bd,r,h=>⟨bc _,h,by show(0:Int)<=(dn:Int);omega,by show(dn:Int)<=_;omega,by show(0:Int)<=(bd:Int);omega,by show(bd:Int)<=_;omega⟩
 |n+1,fr,dn,bd,r,h=>by
  have ok:=Nn l m d r;rw[kz];generalize gF l m d r=x at ok⊢;have h2:∀y∈fr++x.2.1,y.length<=382:=λy hy=>by grind
  cases x.2.2==0 with|true=>grind|false=>cases x.2.2==1 with|true=>have i:=FX l m d n (fr++x.2.1) (dn+1) bd x.1 h2;grind|false=>have i:=FX l m d n (fr++x.2.1) dn (bd+1) x.1 h2;grind
structure BW (n:Nat) (h:Host):Prop where
 z:dF n gY h
 t:h.2.2.1.2.1.2.2.2.length+(bC h.2.2.1.2.2.1).length<=n
theorem BW.mono {n m:Nat}(k:BW n h)(hn:n<=m:=by omega):BW m h:=⟨k.z.mono hn,bF k.t hn⟩
theorem BW.sz {n:Nat}(k:BW n h)(hn:n<=10^9):JU h:=by have z:dF 1000000000 gY h:=k.z.mono hn;exact⟨z.1.1,z.2.1.1,z.2.2.1.2.2.1.1,bF k.t hn,z.2.2.2.2.2.2.2.1.2.2.1,z.2.2.2.2.2.2.2.2.1.1.1,z.2.2.2.2.2.2.2.2.1.2.1.1,z.2.2.2.2.2.2.2.2.1.2.2.2.1,λp hp=>(z.2.2.2.2.1.2 p hp).2.2.2.1⟩
theorem BW.of (k:szC gY h<=1048576):BW 1048576 h:=by refine⟨PG k,?_⟩;have hb:=acS h.2.2.1.2.2.1;simp_all[szC];omega
def nI (p:dq):ax nq->dq
 |[]=>p
 |x::l=>nI (Dp p x.2.2).1 l
theorem IS:∀(l:ax nq)(p:dq),(nI p l).2.2.2.length<=p.2.2.2.length+(bC l).length
 |[],p=>by simp[nI]
 |x::l,p=>by have h1:=XU p x.2.2;have h2:=IS l (Dp p x.2.2).1;grind[nI,bC]
theorem MW:∀(l:ax nq)(p:dq)(x:nq),nI p (l++[x])=(Dp (nI p l) x.2.2).1
 |[],p,x=>rfl
 |y::l,p,x=>by rw[ig,nI,nI,MW l]
theorem Qb (a b:ax nq):(bC (a++b)).length=(bC a).length+(bC b).length:=by grind[bC]
theorem Qc (l:ax nq)(n:Nat):(bC (l.take n)).length+(bC (l.drop n)).length=(bC l).length:=by rw[<-Qb,cg]
def kt (t:cz)(n:Int):cz×dm:=
 bif Mv t&&dV n 0 (t.2.2.1.length:Int) then((t.1,nI t.2.1 (t.2.2.1.take n.toNat),t.2.2.1.drop n.toNat,t.2.2.2),(t.2.2.1.take n.toNat).map (·.1)) else(t,[])
theorem adp {l:ax nq}(h:(bC l).length<=10^9:=by omega):∀x∈l,x.2.2.length<=10^9:=by intro x hx;induction l with|nil=>cases hx|cons y l ih=>grind[bC]
theorem V7 (t:cz)(n:Int)(hw:t.2.2.1.length<=10^9)(hs:t.2.1.2.2.2.length+(bC t.2.2.1).length<=10^9):nK t n=some (kt t n):=by
 have hx:=adp (l:=t.2.2.1);unfold nK kt;rw[Ki t ⟨by omega,hw,hx⟩,ab,abd t hw hs];simp only[ab,dI];cases Mv t;rfl;cases hn:dV n 0 (t.2.2.1.length:Int);rfl;have h:=aS.1 hn;obtain⟨n,rfl⟩:=au h.1;have hl:n<=t.2.2.1.length:=by omega
 simp only[aj,ae,ab,du,af,aC];rw[EL (by omega) (by omega),ab,aC];have htl:(t.2.2.1.take n).length=n:=by rw[bt];omega
 rw[htl];refine dA (λi=>(((t.2.2.1.take i).map (·.1),(i:Int),t.1,nI t.2.1 (t.2.2.1.take i),t.2.2):dm×Int×cz)) n (by omega) (λi nx hi=>?_) (λnx=>?_);have hi2:i<(t.2.2.1.take n).length:=by omega
 have hi3:i<t.2.2.1.length:=by omega
 have e1:(t.2.2.1.take n)[i]=t.2.2.1[i]:=List.getElem_take ..;have g1:=IS (t.2.2.1.take i) t.2.1;have g2:=Qc t.2.2.1 (i+1);have g3:(bC (t.2.2.1.take (i+1))).length=(bC (t.2.2.1.take i)).length+t.2.2.1[i].2.2.length:=by rw[bz hi3,Qb];simp[bC]
 simp only[lh];rw[kW,af,bw hi2,e1,ab,Q5 _ _ (by omega),ab,bf (by simp only[bX,bt,bu];omega),ak (by omega) (by omega),bz hi3,MW,cS];rfl;simp only[lh];rw[ie,ae,vh (l:=t.2.2.1) n hl rfl,ab,Ld _ (by rw[bA];omega) (λx Dv=>hx x (List.mem_of_mem_drop Dv)),ab]
theorem WE (t:cz)(n:Int)(hw:t.2.2.1.length<=10^9)(hs:t.2.1.2.2.2.length+(bC t.2.2.1).length<=10^9):nX t n=some (kt t n):=by
 have hx:=adp (l:=t.2.2.1);unfold nX kt;rw[DP t ⟨by omega,hw,hx⟩,ab,acj t hw hs];simp only[ab,cR];cases Mv t;rfl;cases hn:dV n 0 (t.2.2.1.length:Int);rfl;have h:=aS.1 hn;obtain⟨n,rfl⟩:=au h.1;have hl:n<=t.2.2.1.length:=by omega
 simp only[aj,ae,ab,du,af,aC];refine dA (λi=>(((t.2.2.1.take i).map (·.1),(i:Int),t.1,nI t.2.1 (t.2.2.1.take i),t.2.2):dm×Int×cz)) n (by omega) (λi nx hi=>?_) (λnx=>?_);have hi3:i<t.2.2.1.length:=by omega
 have g1:=IS (t.2.2.1.take i) t.2.1;have g2:=Qc t.2.2.1 (i+1);have g3:(bC (t.2.2.1.take (i+1))).length=(bC (t.2.2.1.take i)).length+t.2.2.1[i].2.2.length:=by rw[bz hi3,Qb];simp[bC]
 simp only[lr];rw[kW,af,bw hi3,ab,bf (by simp only[bX,bt,bu];omega),ab,R4 _ _ (by omega),ab,ak (by omega) (by omega),bz hi3,MW,cS];rfl;simp only[lr];rw[ie,ae,vh (l:=t.2.2.1) n hl rfl,ab]
theorem TH (n:Int):∀l:ax nq,l.all (kh n)=true->(l.length:Int)<=dK l
 |[],_=>by simp[dK]
 |x::l,h=>by simp only[cx,ah]at h;have:=TH n l h.2;grind[kh,aS,dK]
theorem KC {t:cz}(h:Mv t=true):t.2.2.1.length<=16:=by unfold Mv at h;simp only[ah,bE]at h;have h1:=TH _ _ h.2.2.2.1;have h2:=(ng h.1).2.2.1;omega
theorem F7 {t:cz}(n:Int)(z:dF k Fb t)(hs:t.2.1.2.2.2.length+(bC t.2.2.1).length<=k): dF k Fb (kt t n).1/\(kt t n).1.2.1.2.2.2.length+(bC (kt t n).1.2.2.1).length<=k/\(kt t n).2.length<=16:=by unfold kt;cases h:Mv t&&dV n 0 (t.2.2.1.length:Int)with|false=>exact⟨z,hs,cU _⟩|true=>simp only[ah]at h;have MD:=KC h.1;have g1:=IS (t.2.2.1.take n.toNat) t.2.1;have g2:=Qc t.2.2.1 n.toNat;have hw:t.2.2.1.length<=k:=z.2.2.1.1;refine⟨⟨z.1,⟨dx,dx,dx,?_,λ_ _=>trivial⟩,⟨?_,λx hx=>z.2.2.1.2 x (List.mem_of_mem_drop hx)⟩,z.2.2.2⟩,?_,?_⟩;show(nI t.2.1 (t.2.2.1.take n.toNat)).2.2.2.length<=k;omega;show(t.2.2.1.drop n.toNat).length<=k;rw[bA];omega;show(nI t.2.1 (t.2.2.1.take n.toNat)).2.2.2.length+(bC (t.2.2.1.drop n.toNat)).length<=k;omega;show((t.2.2.1.take n.toNat).map (·.1)).length<=16;rw[bX,bt];omega
theorem Nf {n:Nat}{t:CT}{l q:ax t.D}(z:dF n (.sl t) l)(hq:∀y∈q,dF n t y)(hk:q.length<=k):dF (n+k) (.sl t) (l++q):=by refine⟨?_,λy hy=>?_⟩;show(l++q).length<=n+k;have:=z.1;rw[aq];omega;rcases aB.1 hy with h|h;exact(z.2 y h).mono;exact(hq y h).mono
def dj (h:Host):Host:=bif eU h then
    (h.1,h.2.1,(kt ((oF h.2.1 h.1 0 h.2.2.1.1).1,h.2.2.1.2) (if(h.2.2.1.2.2.1.length:Int)<ar ((oF h.2.1 h.1 0 h.2.2.1.1).2.2.1+(oF h.2.1 h.1 0 h.2.2.1.1).2.2.2) then(h.2.2.1.2.2.1.length:Int) else ar ((oF h.2.1 h.1 0 h.2.2.1.1).2.2.1+(oF h.2.1 h.1 0 h.2.2.1.1).2.2.2))).1,
      h.2.2.2.1,h.2.2.2.2.1,h.2.2.2.2.2.1,h.2.2.2.2.2.2.1,h.2.2.2.2.2.2.2.1,h.2.2.2.2.2.2.2.2.1,h.2.2.2.2.2.2.2.2.2.1,h.2.2.2.2.2.2.2.2.2.2.1,h.2.2.2.2.2.2.2.2.2.2.2.1++(oF h.2.1 h.1 0 h.2.2.1.1).2.1,
      h.2.2.2.2.2.2.2.2.2.2.2.2.1++(kt ((oF h.2.1 h.1 0 h.2.2.1.1).1,h.2.2.1.2) (if(h.2.2.1.2.2.1.length:Int)<ar ((oF h.2.1 h.1 0 h.2.2.1.1).2.2.1+(oF h.2.1 h.1 0 h.2.2.1.1).2.2.2) then(h.2.2.1.2.2.1.length:Int) else ar ((oF h.2.1 h.1 0 h.2.2.1.1).2.2.1+(oF h.2.1 h.1 0 h.2.2.1.1).2.2.2))).2,h.2.2.2.2.2.2.2.2.2.2.2.2.2) else h
theorem Lp (h:Host)(k:BW 900000000 h):nN h=some (dj h):=by have z:dF 1000000000 gY h:=k.z.mono;have hz:=k.sz (by omega);have hm:h.1.length<=900000000:=k.z.1.1;have hl:h.2.1.length<=900000000:=k.z.2.1.1;have hw:h.2.2.1.2.2.1.length<=900000000:=k.z.2.2.1.2.2.1.1;have hwi:h.2.2.2.2.2.2.2.2.2.2.2.1.length<=900000000:=k.z.2.2.2.2.2.2.2.2.2.2.2.1.1;have hco:h.2.2.2.2.2.2.2.2.2.2.2.2.1.length<=900000000:=k.z.2.2.2.2.2.2.2.2.2.2.2.2.1.1;have hA:=FX h.2.1 h.1 0 17 [] 0 0 h.2.2.1.1 (λx hx=>by cases hx);unfold nN dj;rw[kG h z,ab,vG h hz,ab];cases eU h;rfl;simp only[aj,ae,af,aeP h.2.1 h.1 0 _ (show h.2.1.length<=10^9 by omega) (show h.1.length<=10^9 by omega),ab];rw[show kz h.2.1 h.1 0 17 [] 0 0 h.2.2.1.1=oF h.2.1 h.1 0 h.2.2.1.1 from rfl]at hA;generalize oF h.2.1 h.1 0 h.2.2.1.1=x at hA⊢;simp only[eO]at hA;have hC:=F7 (k:=900000000) (t:=(x.1,h.2.2.1.2)) (if(h.2.2.1.2.2.1.length:Int)<ar (x.2.2.1+x.2.2.2) then(h.2.2.1.2.2.1.length:Int) else ar (x.2.2.1+x.2.2.2)) ⟨⟨dx,dx,dx,dx⟩,k.z.2.2.1.2⟩ k.t;rw[bf (by omega),V7 (x.1,h.2.2.1.2) _ (by grind) (bF k.t (by omega)),ab,bf (by omega)]
theorem Mi (h:Host)(k:BW 900000000 h):oc h=some (dj h):=by have z:dF 1000000000 gY h:=k.z.mono;have hz:=k.sz (by omega);have hm:h.1.length<=900000000:=k.z.1.1;have hl:h.2.1.length<=900000000:=k.z.2.1.1;have hw:h.2.2.1.2.2.1.length<=900000000:=k.z.2.2.1.2.2.1.1;have hwi:h.2.2.2.2.2.2.2.2.2.2.2.1.length<=900000000:=k.z.2.2.2.2.2.2.2.2.2.2.2.1.1;have hco:h.2.2.2.2.2.2.2.2.2.2.2.2.1.length<=900000000:=k.z.2.2.2.2.2.2.2.2.2.2.2.2.1.1;have hA:=FX h.2.1 h.1 0 17 [] 0 0 h.2.2.1.1 (λx hx=>by cases hx);unfold oc dj;rw[kL h z,ab,ry h hz,ab];cases eU h;rfl;simp only[aj,ae,af,agd h.2.1 h.1 0 _ (show h.2.1.length<=10^9 by omega) (show h.1.length<=10^9 by omega),ab];rw[show kz h.2.1 h.1 0 17 [] 0 0 h.2.2.1.1=oF h.2.1 h.1 0 h.2.2.1.1 from rfl]at hA;generalize oF h.2.1 h.1 0 h.2.2.1.1=x at hA⊢;simp only[eO]at hA;have hC:=F7 (k:=900000000) (t:=(x.1,h.2.2.1.2)) (if(h.2.2.1.2.2.1.length:Int)<ar (x.2.2.1+x.2.2.2) then(h.2.2.1.2.2.1.length:Int) else ar (x.2.2.1+x.2.2.2)) ⟨⟨dx,dx,dx,dx⟩,k.z.2.2.1.2⟩ k.t;rw[bf (by omega),WE (x.1,h.2.2.1.2) _ (by grind) (bF k.t (by omega)),ab,bf (by omega)]
theorem CQ {n:Nat}(hn:400<=n)(k:BW n h):BW (n+5440) (dj h):=by have k':BW (n+5440) h:=k.mono;have hA:=FX h.2.1 h.1 0 17 [] 0 0 h.2.2.1.1 (λx hx=>by cases hx);unfold dj;cases eU h;exact k';rw[show kz h.2.1 h.1 0 17 [] 0 0 h.2.2.1.1=oF h.2.1 h.1 0 h.2.2.1.1 from rfl]at hA;generalize oF h.2.1 h.1 0 h.2.2.1.1=x at hA⊢;simp only[eO]at hA;generalize (if(h.2.2.1.2.2.1.length:Int)<ar (x.2.2.1+x.2.2.2) then(h.2.2.1.2.2.1.length:Int) else ar (x.2.2.1+x.2.2.2))=q;have hC:=F7 (k:=n) (t:=(x.1,h.2.2.1.2)) q ⟨⟨dx,dx,dx,dx⟩,k.z.2.2.1.2⟩ k.t;have z:=k'.z;refine⟨⟨z.1,z.2.1,hC.1.mono,z.2.2.2.1,z.2.2.2.2.1,z.2.2.2.2.2.1,z.2.2.2.2.2.2.1,z.2.2.2.2.2.2.2.1,z.2.2.2.2.2.2.2.2.1,z.2.2.2.2.2.2.2.2.2.1,dx,?_,?_,z.2.2.2.2.2.2.2.2.2.2.2.2.2⟩,bF hC.2.1 (by omega)⟩;exact Nf (t:=.str) (n:=n) (k:=5440) k.z.2.2.2.2.2.2.2.2.2.2.2.1 (λy hy=>by show y.length<=_;grind) (by omega);exact(Nf (t:=.int .i64) (n:=n) (k:=16) k.z.2.2.2.2.2.2.2.2.2.2.2.2.1 (λ_ _=>trivial) hC.2.2).mono
def rh (l:ax aE)(d:Int)(p:dq)(z:Nat):dm->Bytes->bK->ax fe->aA (ax fe×bK)
 |[],_,m,a=>some (a,m)
 |b::q,s,m,a=>bif (jF l m d (kV p b) (s.take z) false).2 then rh l d p z q (s.drop z) (jF l m d (kV p b) (s.take z) false).1 (a++[(kV p b,((s.take z).length:Int))]) else none
theorem Fi (l:ax aE)(d:Int)(p:dq)(z:Nat):∀(q:dm)(s:Bytes)(m:bK)(a:ax fe){x},rh l d p z q s m a=some x->
 x.2.length=m.length/\x.1.length=a.length+q.length/\∀y∈x.1,y∈a\/((∃b∈q,y.1=kV p b)/\0<=y.2/\y.2<=(z:Int))
 |[],s,m,a,x,h=>by cases h;exact⟨rfl,rfl,λy hy=>Or.inl hy⟩
 |b::q,s,m,a,x,h=>by rw[rh]at h;cases hq:(jF l m d (kV p b) (s.take z) false).2 with|false=>rw[hq]at h;cases h|true=>rw[hq]at h;obtain⟨h1,h2,h3⟩:=Fi l d p z q _ _ _ h;rw[nT]at h1;rw[aq,bu]at h2;refine⟨h1,by rw[bp];omega,λy hy=>?_⟩;rcases h3 y hy with g|⟨⟨b',iq,g⟩,g2⟩;rcases aB.1 g with g|g;exact Or.inl g;rw[bq.1 g];refine Or.inr ⟨⟨b,List.mem_cons_self ..,rfl⟩,?_,?_⟩;show(0:Int)<=((s.take z).length:Int);omega;show((s.take z).length:Int)<=(z:Int);rw[bt];omega;exact Or.inr ⟨⟨b',cc _ iq,g⟩,g2⟩
theorem Pk (p:dq)(i:Int): -1<=kV p i/\kV p i<=139136:=by unfold kV;cases hb: !dL p|| !dV i 0 (p.2.2.1-1)with|true=>grind|false=>simp only[de,eY]at hb;have h:=Gx hb.1;have h2:=aS.1 hb.2;have h3:0<=i*p.2.1:=Int.mul_nonneg h2.1 (by omega);have h4:i*p.2.1<=16*512:=Int.mul_le_mul (by omega) (by omega) (by omega) (by omega);simp only[ae];omega
theorem agR (hp:dL p=true){b:Int}(hb:b∈p.2.2.2):0<=kV p b:=by obtain⟨i,hi,rfl⟩:=fO hb;have hq:=hp;simp only[dL,ah]at hq;have:=aO.1 hq.2.2.2 i (cP.2 hi);simp only[Dm,ah,fD hi]at this;have hn:=this.1;have h:=Gx hp;have h2:=aS.1 hn;have h3:0<=p.2.2.2[i]*p.2.1:=Int.mul_nonneg h2.1 (by omega);grind[kV]
theorem ZW (s:Bytes)(z:Nat):sub s 0 (if(s.length:Int)<(z:Int) then(s.length:Int) else(z:Int))=some (s.take z):=by grind[EL,bZ]
theorem XA (s:Bytes)(z:Nat):sub s ((s.take z).length:Int) (s.length:Int)=some (s.drop z):=by grind[ZQ,List.drop_eq_nil_of_le]
def agA:aA (ax fe×bK)->aA (Bool×bK×ax fe×Bool)->Prop
 |some x,r=>r=some (true,x.2,x.1,true)
 |none,r=>∃c m,r=some (c,m,[],false)
theorem JC (l:ax aE)(d:Int)(p:dq)(z:Nat)(B:bK)(hp:p.2.2.2.length<=10^9)(hl:l.length<=10^9):∀(rest pre:dm)(s:Bytes)(m:bK)(a:ax fe)(f:Nat),rest.length<f->(pre++rest).length<=1000000->a.length+rest.length<=1000000->m.length<=10^9->
 agA (rh l d p z rest s m a) (aZ (lP (λ_ F0 _ MB=>some (true,MB,F0,true)) (λ_ Sy y19 _ _ _ y23=>some (true,y23,Sy,y19)) l d (z:Int) ([]:ax fe) false (pre++rest) ((pre++rest).length:Int) p B) f (s,a,(pre.length:Int),m))
 |rest,pre,s,m,a,0,hf,_,_,_=>by omega
 |[],pre,s,m,a,f+1,_,_,_,_=>by rw[aZ];simp only[lP];rw[aw (by simp),ae];rfl
 |b::q,pre,s,m,a,f+1,hf,hn,ha,hm=>by
  simp only[bp,aq]at hf hn ha;have hi:pre.length<(pre++b::q).length:=by simp
  have hb:(pre++b::q)[pre.length]=b:=by simp
  have hA:=Pk p b;rw[aZ];simp only[lP];rw[az (by simp;omega),bw hi,hb];simp only[af,ab,ZW,XA,Lc p b hp,JD l m d (kV p b) (s.take z) hl hm];rw[rh];cases hq:(jF l m d (kV p b) (s.take z) false).2 with|false=>exact⟨_,_,rfl⟩|true=>simp only[aj,ae,af];rw[ak (n:=(pre.length:Int)+1) (by omega) (by omega),bf (by grind)];have key:=JC l d p z B hp hl q (pre++[b]) (s.drop z) (jF l m d (kV p b) (s.take z) false).1 (a++[(kV p b,((s.take z).length:Int))]) f (by omega) (by simp;omega) (by simp;omega) (by rw[nT];exact hm);grind
theorem aey (l:ax aE)(m:bK)(d:Int)(p:dq)(q:dm)(s:Bytes)(z:Nat)(hp:p.2.2.2.length<=10^9)(hl:l.length<=10^9)(hm:m.length<=10^9)(hq:q.length<=1000)(h0:0<q.length): agA (rh l d p z q s m []) (pC l m d p q s (z:Int)):=by have zj:=dD;cases q with|nil=>cases h0|cons b q=>simp only[bp]at hq;have hA:=Pk p b;have hi:idx (b::q) 0=some b:=rfl;unfold pC;rw[az (by simp),af,hi];simp only[ab,ZW,XA,Lc p b hp,JD l m d (kV p b) (s.take z) hl hm];rw[rh];cases Pw:(jF l m d (kV p b) (s.take z) false).2 with|false=>exact⟨_,_,rfl⟩|true=>simp only[aj,ae,af];rw[bf (by simp),show ar (0+1)=1 from rfl];exact JC l d p z _ hp hl q [b] (s.drop z) (jF l m d (kV p b) (s.take z) false).1 [(kV p b,((s.take z).length:Int))] fuel (by omega) (by simp;omega) (by simp;omega) (by rw[nT];exact hm)
theorem JL (K:ax fe->Int->bK->aA (bK×cz×Bool))(l:ax aE)(d c N:Int)(z:Nat)(t:Bytes)(M:bK)(A B2:cz)(B1:bK)(B3:dq)(hp:A.2.1.2.2.2.length<=10^9)(hl:l.length<=10^9)(hM:M.length<=10^9)(hA:aae A)(ht:t.length<=1000)(hz:z<=1000):∀(rest pre:dm)(m:bK)(a:ax fe)(f:Nat),rest.length<f->(pre++rest).length<=1000->a.length+rest.length<=1000000->m.length<=10^9->(∀i<(pre++rest).length,i*z<=t.length)->N=((pre++rest).length:Int)->
 aZ (lS K (λy34 _ _ y37 y38 _=>some (y37,y38,y34)) l d c (z:Int) false t N (pre++rest) M A B1 B2 B3) f (a,(pre.length:Int),m)=
  (match rh l d A.2.1 z rest (t.drop (pre.length*z)) m a with|some x=>K x.1 N x.2|none=>some (M,A,false))
 |rest,pre,m,a,0,hf,_,_,_,_,_=>by omega
 |[],pre,m,a,f+1,_,_,_,_,_,hN=>by rw[aZ];simp only[lS];rw[aw (by rw[hN];simp),ae,hN,bg];rfl
 |b::q,pre,m,a,f+1,hf,hn,ha,hm,hiz,hN=>by
  simp only[bp]at hf ha;have hi:pre.length<(pre++b::q).length:=by simp
  have hb:(pre++b::q)[pre.length]=b:=by simp
  have hB:=Pk A.2.1 b;have h1:=hiz pre.length hi;have h2:(pre.length+1)*z=pre.length*z+z:=Nat.succ_mul ..;have hs:sub t (ar ((pre.length:Int)*(z:Int))) (if ar (ar ((pre.length:Int)+1)*(z:Int))<(t.length:Int) then ar (ar ((pre.length:Int)+1)*(z:Int)) else(t.length:Int))=some ((t.drop (pre.length*z)).take z):=by rw[ak (n:=(pre.length:Int)+1) (by omega) (by omega),show(pre.length:Int)*(z:Int)=((pre.length*z:Nat):Int) by simp,show((pre.length:Int)+1)*(z:Int)=((pre.length*z+z:Nat):Int) by rw[<-h2];simp];generalize pre.length*z=g at h1⊢;rw[ak (n:=(g:Int)) (by omega) (by omega),ak (n:=((g+z:Nat):Int)) (by omega) (by omega)];by_cases iA:((g+z:Nat):Int)<(t.length:Int);rw[aI iA];unfold sub;rw[zip];simp only[aC,br];rw[List.drop_take,Nat.add_sub_cancel_left];rw[aK iA];unfold sub;rw[zip];simp only[aC,br];rw[bZ (bc _),bZ (by rw[bA];omega)]
  rw[aZ];simp only[lS];rw[kW,af,hs,bw hi,hb];simp only[ab,R1 A.2.1 b hp,JM l m d (kV A.2.1 b) _ hl hm (show kV A.2.1 b<=9223372036854775807 by omega)];rw[rh];cases hq:(jF l m d (kV A.2.1 b) ((t.drop (pre.length*z)).take z) false).2 with
  |false=>simp only[cA,af,ae,ju M,DP A hA,ab]
  |true=>
   simp only[aj,ae,af];rw[ak (n:=(pre.length:Int)+1) (by omega) (by omega),bf (by simp only[bu];omega)];have key:=JL K l d c N z t M A B2 B1 B3 hp hl hM hA ht hz q (pre++[b]) (jF l m d (kV A.2.1 b) ((t.drop (pre.length*z)).take z) false).1 (a++[(kV A.2.1 b,(((t.drop (pre.length*z)).take z).length:Int))]) f (by omega) (by simpa using hn) (by simp;omega) (by rw[nT];exact hm) (by simpa using hiz) (by simpa using hN);have el:((pre++[b]).length:Int)=(pre.length:Int)+1:=by simp
   have el2:(pre++[b]).length=pre.length+1:=by simp
   rw[aG,List.singleton_append,el,el2,h2,<-fa]at key;exact key
theorem Qn {ps:ax fe}{z:Int}(h0:0<ps.length)(MD:ps.length<=16)(hp:∀x∈ps,0<=x.1/\x.1<=200000/\0<=x.2/\x.2<=4096)(hz:dV z 1 128=true)(hc:dV c 0 65535=true):(gw ps z c).length=ps.length+1:=by
 have hz2:=aS.1 hz;have hc2:=aS.1 hc;have e1:mh ps=true:=by unfold mh;rw[ah,aP,bE];refine⟨List.any_eq_false.2 λx hx=>?_,by omega⟩;have:=hp x hx;unfold Bp;rw[ie,cM,aP,Bool.eq_false_iff];intro h;exact h (aS.2 (by omega))
 have e2:([((2:Int),(0:Int),(0:Int),(0:Int),z,c)]++jG ps c ps.length).all mr=true:=by rw[List.all_append,ah];constructor;simp only[cx,List.all_nil,jw,mr,ah,aS];omega;rw[ID];refine aO.2 λj hj=>?_;have hj:=cP.1 hj;have:=hp _ (bn hj);simp only[dsc,fD hj,mr,ah,aS];refine⟨by omega,?_,by omega,by omega,by omega,by omega⟩;by_cases hq:j+1=ps.length;rw[aI hq];omega;rw[aK hq];omega
 unfold gw;rw[e1,hz,e2,show((ps.length:Int)==0)=false from by rw[cq];omega];simp only[aj,bN,ae,af,aq,bu,CZ];omega
theorem Yo (K:bK->Int->aA R)(l:ax aE)(d:Int)(q:dm)(ds ds2:ax jJ)(t1 t2 t3 t4:cz)(m1 m2 m3:bK)(h:ds.length<=1000): aZ (ik K l d q ds2 ds (ds.length:Int) t1 m1 t2 m2 t3 t4 m3) fuel (([]:bK),0)=K (ds.map gJ) (ds.length:Int):=by
 have zj:=dD;refine dA (λi=>((ds.take i).map gJ,(i:Int))) ds.length (by omega) (λi nx hi=>?_) (λnx=>?_);have e:((ds.take i).map gJ).length<=1000:=by simp;omega
 rw[bz hi,cS];simp only[ik];rw[kW,af,bw hi,ab,V9,ab,bf (by simp only[bu];omega),ak (by omega) (by omega)];rfl;simp only[ik];rw[ie,ae,cQ]
theorem ZC (K:bK->Int->aA R)(l:ax aE)(d n:Int)(q:dm)(ds:ax jJ)(t1 t2:cz)(p:dq)(m1 m2 m3:bK)(h:ds.length<=1000): aZ (lT K l d n q ds m1 t1 m2 t2 p m3) fuel (([]:bK),0)=K (ds.map gJ) (ds.length:Int):=by
 have zj:=dD;refine dA (λi=>((ds.take i).map gJ,(i:Int))) ds.length (by omega) (λi nx hi=>?_) (λnx=>?_);have e:((ds.take i).map gJ).length<=1000:=by simp;omega
 rw[bz hi,cS];simp only[lT];rw[kW,af,bw hi,ab,WG,ab,bf (by simp only[bu];omega),ak (by omega) (by omega)];rfl;simp only[lT];rw[ie,ae,cQ]
def nr (p:aH)(z:Nat):Nat:=((gQ p).1.length+z-1)/z
def L2 (l:ax aE)(m:bK)(d:Int)(t:cz)(c:Int)(n:Nat)(x:ax fe×bK):bK×cz×Bool:=
 bif (oU l x.2 d t.1 ((gw x.1 c t.2.2.2).map gJ)).2.2 then
  ((oU l x.2 d t.1 ((gw x.1 c t.2.2.2).map gJ)).1,((oU l x.2 d t.1 ((gw x.1 c t.2.2.2).map gJ)).2.1,(iZ t.2.1 (n:Int)).1,t.2.2.1++[(t.2.2.2,(n:Int)+1,(iZ t.2.1 (n:Int)).2.1)],tmod (t.2.2.2+1) 65536),true)
 else(m,t,false)
def G7 (t:cz)(n:Nat):Bool:=(iZ t.2.1 (n:Int)).2.2&&(!decide ((n:Int)>16)&&(!decide ((n:Int)+1>oH t.1)&& !decide (dK t.2.2.1+(n:Int)+1>t.1.2.1)))
def mR (l:ax aE)(m:bK)(d:Int)(t:cz)(p:aH)(c z:Int):bK×cz×Bool:=
 bif Mv t&&(cC p&&(dV z 1 t.2.1.2.1&&dV c 1 128)) then
  bif G7 t (nr p z.toNat) then
   match rh l d t.2.1 z.toNat (iZ t.2.1 (nr p z.toNat:Int)).2.1 (gQ p).1 m []with
   |some x=>L2 l m d t c (nr p z.toNat) x
   |none=>(m,t,false)
  else(m,t,false)
 else(m,t,false)
theorem GU {p:aH}(h:cC p=true):0<(gQ p).1.length/\(gQ p).1.length<=378:=by grind[nv,Oc,gQ,EB]
theorem agS (len z:Nat)(h:len<=1000:=by omega)(hz:z<=1000:=by omega)(h0:0<z:=by omega):ar (tdiv (ar (ar ((len:Int)+(z:Int))-1)) (z:Int))=(((len+z-1)/z:Nat):Int):=by have hd:(len+z-1)/z<=len+z-1:=Nat.div_le_self ..;grind[ak]
theorem Sg {n:Nat}(h:(iZ p (n:Int)).2.2=true):dL p=true/\n<=p.2.2.2.length/\(iZ p (n:Int)).2.1=p.2.2.2.take n:=by grind[iZ,aS]
theorem TU {t:cz}{z n:Nat}{x:ax fe×bK}(ht:Mv t=true)(hz:z<=512)(hc:dV c 1 128=true)(h0:0<n)(MD:n<=16)(hk:(iZ t.2.1 (n:Int)).2.2=true)(hx:rh l d t.2.1 z (iZ t.2.1 (n:Int)).2.1 s m []=some x):x.2.length=m.length/\(gw x.1 c t.2.2.2).length=n+1:=by
 obtain⟨hp,hn,hb⟩:=Sg hk;rw[hb]at hx;obtain⟨h1,h2,h3⟩:=Fi l d t.2.1 z _ _ _ _ hx;simp only[eO,bt,cJ]at h2;have e:x.1.length=n:=by omega
 refine⟨h1,?_⟩;rw[Qn (by omega) (by omega) (λy hy=>?_) hc (by simp only[Mv,ah]at ht;exact ht.2.2.1),e];rcases h3 y hy with g|⟨⟨b,iq,g⟩,g2⟩;cases g;have q1:=agR hp (List.mem_of_mem_take iq);have q2:=Pk t.2.1 b;rw[g];omega
theorem af6 (l:ax aE)(m:bK)(d:Int)(t:cz)(p:aH)(c z:Int)(hl:l.length<=10^9)(hm:m.length<=10^9)(ht:aae t)(h1:t.2.2.1.length<=10^9)(h2:t.2.1.2.2.2.length+(bC t.2.2.1).length<=10^9):wO l m d t p c z=some (mR l m d t p c z):=by
 have zj:=dD;unfold wO mR;rw[Ve,ab,acj t h1 h2,ab,cR,cR];have e0:(gQ p).2=cC p:=by grind[gQ]
 rw[e0];simp only[ju m,DP t ht,ab];cases hb:Mv t;rfl;cases hp:cC p;rfl;cases hz:dV z 1 t.2.1.2.1;rfl;cases hc:dV c 1 128;rfl;have hT:=GU hp;have hz2:=aS.1 hz;have hq:=hb;simp only[Mv,ah]at hq;have C1:=Gx hq.2.1;have MD:=KC hb;have Yd:=ng hq.1;have hnx:=aS.1 hq.2.2.1;obtain⟨z,rfl⟩:=au (by omega:0<=z);have hzn:(z:Int)≠0:=by omega
 have hS:∀x∈t.2.2.1,0<=x.2.1/\x.2.1<=16:=λx hx=>by grind[kh,aS]
 have hcb:=Bd _ hS;have hN:nr p z<=1000:=by have:nr p z<=(gQ p).1.length+z-1:=Nat.div_le_self ..;omega
 have hN0:0<nr p z:=Nat.div_pos (by omega) (by omega);have hce:=agS (gQ p).1.length z;rw[show((gQ p).1.length+z-1)/z=nr p z from rfl]at hce;have hfi: -1<=oH t.1:=by have:=XQ t.1;omega
 simp only[aj,ae,ab,du,af,aC,aK hzn,hce,aga _ _ (show t.2.1.2.2.2.length<=10^9 by omega),I7,af7 t (by omega) hS,G7];rw[ak (n:=(nr p z:Int)+1) (by omega) (by omega),ak (n:=dK t.2.2.1+(nr p z:Int)) (by omega) (by omega),ak (n:=dK t.2.2.1+(nr p z:Int)+1) (by omega) (by omega)];cases hk:(iZ t.2.1 (nr p z:Int)).2.2;rfl;by_cases g1:(nr p z:Int)>16;rw[az g1];rfl;rw[aw g1];simp only[aj,cA,ae,bH];cases decide ((nr p z:Int)+1>oH t.1);case true=>rfl
 simp only[aj,cA,ae,bH,ab];cases decide (dK t.2.2.1+(nr p z:Int)+1>t.1.2.1);case true=>rfl
 simp only[aj,cA,ae,af,ab];obtain⟨_,hkn,X5⟩:=Sg hk;have hkl:(iZ t.2.1 (nr p z:Int)).2.1.length=nr p z:=by rw[X5,bt];omega
 have hiz:∀i<nr p z,i*z<=(gQ p).1.length:=λi hi=>by have:=(Nat.le_div_iff_mul_le (by omega:0<z)).1 (show i+1<=((gQ p).1.length+z-1)/z from hi);grind
 refine(JL _ l d c _ z (gQ p).1 m t _ _ _ (by omega) hl hm ht (by omega) (by omega) (iZ t.2.1 (nr p z:Int)).2.1 [] m [] fuel (by omega) (by rw[bU];omega) (by rw[eO];omega) hm (λi hi=>hiz i (by grind)) (by rw[bU,hkl])).trans ?_;simp only[eO,Nat.zero_mul,fR];cases hx:rh l d t.2.1 z (iZ t.2.1 (nr p z:Int)).2.1 (gQ p).1 m []with|none=>rfl|some x=>obtain⟨x1,x2⟩:=TU hb (by omega) hc hN0 (by omega) hk hx;obtain⟨_,x3,_⟩:=Fi l d t.2.1 z _ _ _ _ hx;simp only[eO]at x3;simp only[L9 x.1 c t.2.2.2 (by omega),ab,L2];rw[ZC _ _ _ _ _ _ _ _ _ _ _ _ (by omega)];simp only[acg l x.2 d t.1 _ hl (by omega) (show((gw x.1 c t.2.2.2).map gJ).length<=10^9 by rw[bX];omega),ab,ju m (show m.length<=1073741824 by omega),DP t ht];cases (oU l x.2 d t.1 ((gw x.1 c t.2.2.2).map gJ)).2.2 with|false=>rfl|true=>rw[show(((gw x.1 c t.2.2.2).length:Int)==0)=false from by rw[cq];omega];grind[ab,bf,ak]
theorem aeH (l:ax aE)(m:bK)(d:Int)(t:cz)(p:aH)(c z:Int)(hl:l.length<=10^9)(hm:m.length<=10^9)(ht:aae t)(h1:t.2.2.1.length<=10^9)(h2:t.2.1.2.2.2.length+(bC t.2.2.1).length<=10^9):wE l m d t p c z=some (mR l m d t p c z):=by
 have zj:=dD;unfold wE mR;rw[hU m,ab,Ki t ht,ab,abd t h1 h2,ab,rZ,dI,dI];simp only[ab];cases hb:Mv t;rfl;cases hp:cC p;rfl;cases hz:dV z 1 t.2.1.2.1;rfl;cases hc:dV c 1 128;rfl;have hT:=GU hp;have hz2:=aS.1 hz;have hq:=hb;simp only[Mv,ah]at hq;have C1:=Gx hq.2.1;have MD:=KC hb;have Yd:=ng hq.1;have hnx:=aS.1 hq.2.2.1;obtain⟨z,rfl⟩:=au (by omega:0<=z);have hzn:¬(z:Int)=0:=by omega
 have hS:∀x∈t.2.2.1,0<=x.2.1/\x.2.1<=16:=λx hx=>by grind[kh,aS]
 have hcb:=Bd _ hS;have hN:nr p z<=1000:=by have:nr p z<=(gQ p).1.length+z-1:=Nat.div_le_self ..;omega
 have hN0:0<nr p z:=Nat.div_pos (by omega) (by omega);have hce:=agS (gQ p).1.length z;rw[show((gQ p).1.length+z-1)/z=nr p z from rfl]at hce;simp only[aj,ae,ab,du,af,aC,Uo,aK hzn,hce,aeM _ _ (show t.2.1.2.2.2.length<=10^9 by omega),Uh,aeI t (by omega) hS,G7];rw[ak (n:=(nr p z:Int)+1) (by omega) (by omega),ak (n:=dK t.2.2.1+(nr p z:Int)) (by omega) (by omega),ak (n:=dK t.2.2.1+(nr p z:Int)+1) (by omega) (by omega)];by_cases g1:(nr p z:Int)>16;simp_all;rw[aw g1];simp only[cA,ae,bH];cases decide ((nr p z:Int)+1>oH t.1)with|true=>simp_all|false=> ?_
 simp only[cA,ae,bH,ab];cases decide (dK t.2.2.1+(nr p z:Int)+1>t.1.2.1)with|true=>grind|false=> ?_
 simp only[cA,ae,jw,ab];cases hk:(iZ t.2.1 (nr p z:Int)).2.2;rfl;simp only[aj,ae,af,hU m (show m.length<=1073741824 by omega),ab];obtain⟨_,hkn,X5⟩:=Sg hk;have hkl:(iZ t.2.1 (nr p z:Int)).2.1.length=nr p z:=by rw[X5,bt];omega
 have key:=aey l m d t.2.1 (iZ t.2.1 (nr p z:Int)).2.1 (gQ p).1 z (by omega) hl hm (by omega) (by omega);cases hx:rh l d t.2.1 z (iZ t.2.1 (nr p z:Int)).2.1 (gQ p).1 m []with
 |none=>rw[hx]at key;obtain⟨a,b,e⟩:=key;obtain⟨f,g,_⟩:=Ge [] c t.2.2.2 (by simp);simp_all
 |some x=>
  rw[hx]at key;have key:pC _ _ _ _ _ _ _=_:=key;obtain⟨x1,x2⟩:=TU hb (by omega) hc hN0 (by omega) hk hx;obtain⟨_,x3,_⟩:=Fi l d t.2.1 z _ _ _ _ hx;simp only[eO]at x3;obtain⟨f,g,hf⟩:=Ge x.1 c t.2.2.2;have hft:f=true:=by grind
  subst hft;simp only[key,g,ab,af,aj,ae,aK (show¬(gw x.1 c t.2.2.2).length=0 by omega),L2];grind[Yo,aba,ab,bf,ak]
def acq (g:Nat->Host->Host):Nat->Host->Host
 |0,h=>h
 |k+1,h=>g k (acq g k h)
structure Tw (a b:Host):Prop where
 maps:b.2.1=a.2.1
 tx:b.2.2.1=a.2.2.1
 rx:b.2.2.2.1.length=a.2.2.2.1.length
 pl:b.2.2.2.2.1.length=a.2.2.2.2.1.length
 vec:b.2.2.2.2.2.1=a.2.2.2.2.2.1
 pol:b.2.2.2.2.2.2.1=a.2.2.2.2.2.2.1
 ret:b.2.2.2.2.2.2.2.2.2.2.2.2.2.1=a.2.2.2.2.2.2.2.2.2.2.2.2.2.1
theorem Tw.refl (a:Host):Tw a a:=⟨rfl,rfl,rfl,rfl,rfl,rfl,rfl⟩
theorem Tw.trans {a b c:Host}(h:Tw a b)(k:Tw b c):Tw a c:=⟨k.1.trans h.1,k.2.trans h.2,k.3.trans h.3,k.4.trans h.4,k.5.trans h.5,k.6.trans h.6,k.7.trans h.7⟩
def akc (h:Host)(k:Nat):Host:=acq (λi s=>(al5 s i 1000).2) k h
def anh (h:Host)(l:dm):Host:=(h.1,h.2.1,h.2.2.1,h.2.2.2.1,h.2.2.2.2.1,h.2.2.2.2.2.1,h.2.2.2.2.2.2.1,h.2.2.2.2.2.2.2.1,h.2.2.2.2.2.2.2.2.1,h.2.2.2.2.2.2.2.2.2.1,h.2.2.2.2.2.2.2.2.2.2.1,h.2.2.2.2.2.2.2.2.2.2.2.1,h.2.2.2.2.2.2.2.2.2.2.2.2.1,h.2.2.2.2.2.2.2.2.2.2.2.2.2.1++l,h.2.2.2.2.2.2.2.2.2.2.2.2.2.2)
theorem afo (l:ax aE)(m:bK)(i:Nat):(tO l m i).1.length=m.length:=by grind[tO,acX,nT]
def ata (W:ax nq)(i:Nat)(s:Host):Host:=match W[i]? with|some x=>anh s [x.1]|none=>s
def polled (h:Host):Host:=akc h h.2.2.2.1.length
def returned (h:Host)(k:Nat):Host:=acq (ata h.2.2.1.2.2.1) k (polled h)
end
end Go.Pu
