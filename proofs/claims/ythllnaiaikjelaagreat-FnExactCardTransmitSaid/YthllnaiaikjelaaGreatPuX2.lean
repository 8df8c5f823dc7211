import Derived.Test.YthllnaiaikjelaaGreatPuX1
namespace Go.Pu
open Go.Dn
open List (range)
open BitVec (toNat)
open Int (tmod)
set_option linter.unusedSimpArgs false
set_option linter.unusedVariables false
noncomputable section
variable {s t x:Bytes} {e:CT} {c:dH} {h:Host} {a d:Int} {f:Int->ar Bytes} {k:Nat} {p:aM} {R α:Type} {l:aq aL} {ps:aq Port} {m:cy} {r:xB}
/- Reading frames: the program's and the reference's results are one. -/
theorem Dp (h0:0<=a:=by omega)(h:a+2<=(s.length:Int):=by omega):0<=cB s a/\cB s a<=65535:=by grind[eI,cB,fu]
theorem Dq (h0:0<=a:=by omega)(h:a+4<=(s.length:Int):=by omega):0<=dB s a/\dB s a<=4294967295:=by grind[eI,dB,fu]
theorem ad3 {x y:Int}(hx:0<=x/\x<=65535)(hy:0<=y/\y<=4294967295):ak (toNat (iD (ak (x*2^(qS 32)))|||iD y))=x*4294967296+y:=by have e:(2:Int)^(qS 32)=4294967296:=rfl;obtain⟨x,rfl⟩:=aF hx.1;obtain⟨y,rfl⟩:=aF hy.1;rw[e,ai (n:=(x:Int)*4294967296) (by omega) (by omega),show(x:Int)*4294967296=((2^32*x:Nat):Int) by omega,I2 x 32 y];omega
theorem ZH {x y:Int}(hx:0<=x/\x<=65535)(hy:0<=y/\y<=4294967295):ak (ak (x*2^(qS 32))+y)=x*4294967296+y:=by grind[IntKind.bits,ai]
theorem HG {l:aq α}{n:Int}(h0:0<=n)(h1:n<=(l.length:Int)):sub l 0 n=some (l.take n.toNat):=by grind[sub]
theorem wY {l:aq α}(k:Nat)(h:k<=l.length)(ha:a=(k:Int)):sub l a (l.length:Int)=some (l.drop k):=by simp_all[sub]
theorem KG {l:aq α}(k:Nat){n:Int}(ha:a=(k:Int))(h0:a<=n)(h1:n<=(l.length:Int)):sub l a n=some ((l.take n.toNat).drop k):=by grind[sub]
def D9 (s:Bytes):Bytes×Bool:=bif decide ((s.length:Int)<4) then([],false) else bif Fh (s.take ((s.length:Int)-4).toNat)==s then(s.take ((s.length:Int)-4).toNat,true) else([],false)
theorem Yz (s:Bytes)(h:s.length<=10^9):yl s=some (D9 s):=by unfold yl D9;rw[ai (n:=(s.length:Int)-4) (by omega) (by omega)];by_cases h4:(s.length:Int)<4;rw[aw h4];rfl;rw[al h4,HG (by omega) (by omega)];simp only[ae,ab,Z2 _ (show(s.take ((s.length:Int)-4).toNat).length<=10^9 by rw[bm];omega)];cases Fh (s.take ((s.length:Int)-4).toNat)==s<;>rfl
theorem XI (s:Bytes)(h:s.length<=10^9):xJ s=some (D9 s):=by unfold xJ D9;rw[ai (n:=(s.length:Int)-4) (by omega) (by omega)];by_cases h4:(s.length:Int)<4;rw[aw (show(s.length:Int)-4<0 by omega),aw h4];rfl;rw[al (show¬(s.length:Int)-4<0 by omega),al h4,HG (by omega) (by omega)];simp only[ae,ab,Zz _ (show(s.take ((s.length:Int)-4).toNat).length<=10^9 by rw[bm];omega)];cases Fh (s.take ((s.length:Int)-4).toNat)==s<;>rfl
def afv:PG:=(0,0,0,0,([]:Bytes))
def Ie (s:Bytes)(a:Int):Int:=cB s a*4294967296+dB s (a+2)
def NH (s:Bytes):PG:=(Ie s 0,Ie s 6,cB s 14,cB s 16,s.drop 18)
def Di (s:Bytes):PG:=(Ie s 0,Ie s 6, -1,cB s 12,s.drop 14)
def fD (s:Bytes):PG×Bool:=bif decide ((s.length:Int)<18) then(afv,false) else
 bif cB s 12==33024 then(bif Bj (NH s) then(NH s,true) else(afv,false)) else bif Bj (Di s) then(Di s,true) else(afv,false)
theorem To (s:Bytes)(h:s.length<=10^9):yt s=some (fD s):=by unfold yt fD;by_cases h8:(s.length:Int)<18;rw[aw h8];rfl;rw[al h8];simp only[ae,uN s _ h,Bb s _ h,ab];rw[mL,mL,wY (l:=s) 14 (by omega) (show(14:Int)=((14:Nat):Int) from rfl),ab,wY (l:=s) 18 (by omega) (show(18:Int)=((18:Nat):Int) from rfl)];rw[ZH (Dp (s:=s) (a:=0)) (Dq (s:=s) (a:=2)),ZH (Dp (s:=s) (a:=6)) (Dq (s:=s) (a:=8))];simp only[ab,LF];rw[show((cB s 0*4294967296+dB s 2,cB s 6*4294967296+dB s 8,cB s 14,cB s 16,s.drop 18):PG)=NH s from rfl,show((cB s 0*4294967296+dB s 2,cB s 6*4294967296+dB s 8, -1,cB s 12,s.drop 14):PG)=Di s from rfl];cases cB s 12==33024<;>cases Bj (NH s)<;>cases Bj (Di s)<;>rfl
theorem JW (s:Bytes)(h:s.length<=10^9):sN s=some (fD s):=by
 unfold sN fD;by_cases h4:(s.length:Int)<14;rw[aw h4,aw (show(s.length:Int)<18 by omega)];rfl;rw[al h4];simp only[ae,AZ s _ h,A8 s _ h,ab];rw[mL,mL,wY (l:=s) 14 (by omega) (show(14:Int)=((14:Nat):Int) from rfl),ab];rw[ad3 (Dp (s:=s) (a:=0)) (Dq (s:=s) (a:=2)),ad3 (Dp (s:=s) (a:=6)) (Dq (s:=s) (a:=8))];simp only[ab,Q1];rw[show((cB s 0*4294967296+dB s 2,cB s 6*4294967296+dB s 8, -1,cB s 12,s.drop 14):PG)=Di s from rfl];by_cases h8:(s.length:Int)<18;have hB:Bj (Di s)=false:=by
  unfold Bj Di;have:dz ((s.drop 14).length:Int) 46 400=false:=by rw[Bool.eq_false_iff,ne_eq,bW,bl];omega
  simp only[this,jk]
 rw[aw h8,al (show¬(s.length:Int)>=18 by omega),hB];cases cB s 12==33024<;>rfl;rw[al h8,aw (show(s.length:Int)>=18 by omega),wY (l:=s) 18 (by omega) (show(18:Int)=((18:Nat):Int) from rfl)];simp only[ab];rw[show((cB s 0*4294967296+dB s 2,cB s 6*4294967296+dB s 8,cB s 14,cB s 16,s.drop 18):PG)=NH s from rfl];cases cB s 12==33024<;>cases Bj (NH s)<;>cases Bj (Di s)<;>rfl
def ip0:Ip:=(0,0,0,0,0,0,([]:Bytes))
def IY (s:Bytes):Ip:=((bA s 1:Int),cB s 4,(bA s 8:Int),(bA s 9:Int),dB s 12,dB s 16,(s.take (cB s 2).toNat).drop 20)
def lG (s:Bytes):Ip×Bool:=bif decide ((s.length:Int)<20)||(decide (cB s 2<20)||decide (cB s 2>(s.length:Int))) then(ip0,false) else
 bif (ZE (IY s)).2&&((ZE (IY s)).1==s.take (cB s 2).toNat) then(IY s,true) else(ip0,false)
theorem V0 (s:Bytes)(h:s.length<=10^9):AF s=some (lG s):=by
 unfold AF lG;simp only[uN s _ h,Bb s _ h,ab];by_cases h1:(s.length:Int)<20;rw[aw h1];rfl;by_cases h2:cB s 2<20;rw[al h1,aw h2];rfl;by_cases h3:cB s 2>(s.length:Int);rw[al h1,al h2,aw h3];rfl;rw[al h1,al h2,al h3];have b1:=jT (s[1]'(by omega));have b8:=jT (s[8]'(by omega));have b9:=jT (s[9]'(by omega));have i1:idx s 1=some (s[1]'(by omega)):=aY (i:=1) (by omega);have i8:idx s 8=some (s[8]'(by omega)):=aY (i:=8) (by omega);have i9:idx s 9=some (s[9]'(by omega)):=aY (i:=9) (by omega);simp only[ae,ab,cD,i1,i8,i9];rw[KG (l:=s) 20 (show(20:Int)=((20:Nat):Int) from rfl) (by omega) (by omega),HG (by omega) (by omega),fE (n:=(s[1]'(by omega)).toNat) (by omega),fE (n:=(s[8]'(by omega)).toNat) (by omega),fE (n:=(s[9]'(by omega)).toNat) (by omega)];have e:(((s[1]'(by omega)).toNat:Int),cB s 4,((s[8]'(by omega)).toNat:Int),((s[9]'(by omega)).toNat:Int),dB s 12,dB s 16,(s.take (cB s 2).toNat).drop 20)=IY s:=by grind[IY,bA]
 simp only[ab,e,aeK];cases (ZE (IY s)).2<;>cases (ZE (IY s)).1==s.take (cB s 2).toNat<;>rfl
theorem U5 (s:Bytes)(h:s.length<=10^9):Aj s=some (lG s):=by
 unfold Aj lG;simp only[AZ s _ h,A8 s _ h,ab];by_cases h1:(s.length:Int)<20;rw[aw h1];rfl;by_cases h2:cB s 2<20;rw[al h1,aw h2];rfl;by_cases h3:cB s 2>(s.length:Int);rw[al h1,al h2,aw h3];rfl;rw[al h1,al h2,al h3];have b1:=jT (s[1]'(by omega));have b8:=jT (s[8]'(by omega));have b9:=jT (s[9]'(by omega));have i1:idx s 1=some (s[1]'(by omega)):=aY (i:=1) (by omega);have i8:idx s 8=some (s[8]'(by omega)):=aY (i:=8) (by omega);have i9:idx s 9=some (s[9]'(by omega)):=aY (i:=9) (by omega);simp only[ae,ab,cD,i1,i8,i9];rw[KG (l:=s) 20 (show(20:Int)=((20:Nat):Int) from rfl) (by omega) (by omega),HG (by omega) (by omega),fE (n:=(s[1]'(by omega)).toNat) (by omega),fE (n:=(s[8]'(by omega)).toNat) (by omega),fE (n:=(s[9]'(by omega)).toNat) (by omega)];have e:(((s[1]'(by omega)).toNat:Int),cB s 4,((s[8]'(by omega)).toNat:Int),((s[9]'(by omega)).toNat:Int),dB s 12,dB s 16,(s.take (cB s 2).toNat).drop 20)=IY s:=by grind[IY,bA]
 simp only[ab,e,adH];cases (ZE (IY s)).2<;>cases (ZE (IY s)).1==s.take (cB s 2).toNat<;>rfl
def ahN:dA:=(0,0,0,0,0,0,0,([]:Bytes))
def O3 (k:Int)(s:Bytes):dA:=(k,cB s 0,cB s 2,dB s 4,dB s 8,(bA s 13:Int),cB s 14,s.drop 20)
def Th (k:Int)(s:Bytes):dA:=(k,cB s 0,cB s 2,0,0,0,0,s.drop 8)
def ti (a b k:Int)(s:Bytes):dA×Bool:=
 bif (k==6)&&decide ((s.length:Int)>=20) then(bif (C2 a b (O3 k s)).2&&((C2 a b (O3 k s)).1==s) then(O3 k s,true) else(ahN,false)) else
 bif (k==17)&&decide ((s.length:Int)>=8) then(bif (C2 a b (Th k s)).2&&((C2 a b (Th k s)).1==s) then(Th k s,true) else(ahN,false)) else(ahN,false)
theorem Tp (a b k:Int)(s:Bytes)(h:s.length<=10^9):pP a b k s=some (ti a b k s):=by
 unfold pP ti;simp only[uN s _ h,Bb s _ h,ab];rw[show(aa (cond (k==6) (some (decide ((s.length:Int)>=20))) (some false)):(Bool->ar (dA×Bool))->ar (dA×Bool))=λK=>K ((k==6)&&decide ((s.length:Int)>=20)) from by funext K;cases k==6<;>rfl];rw[show(aa (cond (k==17) (some (decide ((s.length:Int)>=8))) (some false)):(Bool->ar (dA×Bool))->ar (dA×Bool))=λK=>K ((k==17)&&decide ((s.length:Int)>=8)) from by funext K;simp_all];simp only;cases h1:(k==6)&&decide ((s.length:Int)>=20)with
 |true=>
  simp only[ah,bE]at h1;have bb:=jT (s[13]'(by omega));have i:idx s 13=some (s[13]'(by omega)):=aY (i:=13) (by omega);have e:(k,cB s 0,cB s 2,dB s 4,dB s 8,((s[13]'(by omega)).toNat:Int),cB s 14,s.drop 20)=O3 k s:=by grind[O3,bA]
  simp only[af,i,ab];rw[wY (l:=s) 20 (by omega) (show(20:Int)=((20:Nat):Int) from rfl),fE (n:=(s[13]'(by omega)).toNat) (by omega)];simp only[ab,e,GN];cases (C2 a b (O3 k s)).2<;>cases (C2 a b (O3 k s)).1==s<;>rfl
 |false=>simp only[ae];cases h2:(k==17)&&decide ((s.length:Int)>=8)with|false=>rfl|true=>simp only[ah,bE]at h2;rw[wY (l:=s) 8 (by omega) (show(8:Int)=((8:Nat):Int) from rfl)];simp only[af,ab,show((k,cB s 0,cB s 2,0,0,0,0,s.drop 8):dA)=Th k s from rfl,GN];cases (C2 a b (Th k s)).2<;>cases (C2 a b (Th k s)).1==s<;>rfl
theorem SO (a b k:Int)(s:Bytes)(h:s.length<=10^9):px a b k s=some (ti a b k s):=by
 unfold px ti;simp only[AZ s _ h,A8 s _ h,ab];rw[show(aa (cond (k==6) (some (decide ((s.length:Int)>=20))) (some false)):(Bool->ar (dA×Bool))->ar (dA×Bool))=λK=>K ((k==6)&&decide ((s.length:Int)>=20)) from by funext K;cases k==6<;>rfl];rw[show(aa (cond (k==17) (some (decide ((s.length:Int)>=8))) (some false)):(Bool->ar (dA×Bool))->ar (dA×Bool))=λK=>K ((k==17)&&decide ((s.length:Int)>=8)) from by funext K;simp_all];simp only;cases h1:(k==6)&&decide ((s.length:Int)>=20)with
 |true=>
  simp only[ah,bE]at h1;have bb:=jT (s[13]'(by omega));have i:idx s 13=some (s[13]'(by omega)):=aY (i:=13) (by omega);have e:(k,cB s 0,cB s 2,dB s 4,dB s 8,((s[13]'(by omega)).toNat:Int),cB s 14,s.drop 20)=O3 k s:=by grind[O3,bA]
  simp only[af,i,ab];rw[wY (l:=s) 20 (by omega) (show(20:Int)=((20:Nat):Int) from rfl),fE (n:=(s[13]'(by omega)).toNat) (by omega)];simp only[ab,e,Gt];cases (C2 a b (O3 k s)).2<;>cases (C2 a b (O3 k s)).1==s<;>rfl
 |false=>simp only[ae];cases h2:(k==17)&&decide ((s.length:Int)>=8)with|false=>rfl|true=>simp only[ah,bE]at h2;rw[wY (l:=s) 8 (by omega) (show(8:Int)=((8:Nat):Int) from rfl)];simp only[af,ab,show((k,cB s 0,cB s 2,0,0,0,0,s.drop 8):dA)=Th k s from rfl,Gt];cases (C2 a b (Th k s)).2<;>cases (C2 a b (Th k s)).1==s<;>rfl
def pk0:aM:=(0,0,0,0,0,0,0,0,0,0,0,0,0,0,0,([]:Bytes))
def ze (s:Bytes):aM×Int:=
 let e:=fD s
 bif !e.2||(e.1.2.2.2.1 !=2048) then(pk0,2) else
 let i:=lG e.1.2.2.2.2
 bif !i.2 then(pk0,3) else
 let g:=ti i.1.2.2.2.2.1 i.1.2.2.2.2.2.1 i.1.2.2.2.1 i.1.2.2.2.2.2.2
 bif !g.2 then(pk0,4) else
 bif !ej (e.1.1,e.1.2.1,e.1.2.2.1,i.1.1,i.1.2.1,i.1.2.2.1,i.1.2.2.2.2.1,i.1.2.2.2.2.2.1,g.1) then(pk0,5) else
 ((e.1.1,e.1.2.1,e.1.2.2.1,i.1.1,i.1.2.1,i.1.2.2.1,i.1.2.2.2.2.1,i.1.2.2.2.2.2.1,g.1),0)
theorem ET (s:Bytes):(fD s).1.2.2.2.2.length<=s.length:=by grind[fD,afv,NH,Di]
theorem Md (s:Bytes):(lG s).1.2.2.2.2.2.2.length<=s.length:=by grind[lG,ip0,IY]
theorem LG (s:Bytes)(h:s.length<=10^9):jg s=some (ze s):=by
 have h1:=ET s;unfold jg ze;rw[To s h,ab];generalize fD s=e at h1⊢;have h2:=Md e.1.2.2.2.2;simp only;cases e.2;rfl;cases e.1.2.2.2.1 !=2048;case true=>rfl
 simp only[aj,ae,ab,cD,V0 _ (show e.1.2.2.2.2.length<=10^9 by omega)];generalize lG e.1.2.2.2.2=i at h2⊢;cases i.2;rfl;simp only[aj,ae,ab,Tp _ _ _ _ (show i.1.2.2.2.2.2.2.length<=10^9 by omega)];generalize ti i.1.2.2.2.2.1 i.1.2.2.2.2.2.1 i.1.2.2.2.1 i.1.2.2.2.2.2.2=g;cases g.2;rfl;simp only[aj,ae,ab,oU];cases ej (e.1.1,e.1.2.1,e.1.2.2.1,i.1.1,i.1.2.1,i.1.2.2.1,i.1.2.2.2.2.1,i.1.2.2.2.2.2.1,g.1)<;>rfl
theorem K9 (s:Bytes)(h:s.length<=10^9):jc s=some (ze s):=by
 have h1:=ET s;unfold jc ze;rw[JW s h,ab];generalize fD s=e at h1⊢;have h2:=Md e.1.2.2.2.2;simp only;cases e.2;rfl;cases e.1.2.2.2.1 !=2048;case true=>rfl
 simp only[aj,ae,ab,cD,U5 _ (show e.1.2.2.2.2.length<=10^9 by omega)];generalize lG e.1.2.2.2.2=i at h2⊢;cases i.2;rfl;simp only[aj,ae,ab,SO _ _ _ _ (show i.1.2.2.2.2.2.2.length<=10^9 by omega)];generalize ti i.1.2.2.2.2.1 i.1.2.2.2.2.2.1 i.1.2.2.2.1 i.1.2.2.2.2.2.2=g;cases g.2;rfl;simp only[aj,ae,ab,oL];cases ej (e.1.1,e.1.2.1,e.1.2.2.1,i.1.1,i.1.2.1,i.1.2.2.1,i.1.2.2.2.2.1,i.1.2.2.2.2.2.1,g.1)<;>rfl
def mn (s:Bytes):aM×Int:=
 let c:=D9 s
 bif !c.2 then(pk0,1) else
 let r:=ze c.1
 bif r.2 !=0 then(pk0,r.2) else
 bif !fN r.1 then(pk0,5) else(r.1,0)
theorem NA (s:Bytes):(D9 s).1.length<=s.length:=by grind[D9]
theorem RJ (s:Bytes)(h:s.length<=10^9):qN s=some (mn s):=by
 have h1:=NA s;unfold qN mn;rw[Yz s h,ab];generalize D9 s=c at h1⊢;simp only;cases c.2;rfl;simp only[aj,ae,ab,LG _ (show c.1.length<=10^9 by omega)];generalize ze c.1=r;cases r.2 !=0;case true=>rfl
 simp only[ae,ab,xv];cases fN r.1<;>rfl
theorem Q5 (s:Bytes)(h:s.length<=10^9):qj s=some (mn s):=by
 have h1:=NA s;unfold qj mn;rw[XI s h,ab];generalize D9 s=c at h1⊢;simp only;cases c.2;rfl;simp only[aj,ae,ab,K9 _ (show c.1.length<=10^9 by omega)];generalize ze c.1=r;cases r.2 !=0;case true=>rfl
 simp only[ae,ab,xo];cases fN r.1<;>rfl
def WA (a b:α):Bool:= @decide (a=b) (Classical.propDecidable _)
theorem Jz {a b:α}:WA a b=true↔a=b:=by grind[WA]
theorem Xf {a b:α}{x:Bool}(h:x=true↔a=b):x=WA a b:=by grind[Jz]
theorem apf [BEq α][LawfulBEq α](a b:α):(a==b)=WA a b:=Xf bk
theorem acL {a b:α}(h:a=b):WA a b=true:=Jz.2 h
theorem aar {a b:α}(h:¬a=b):WA a b=false:=by grind[Jz]
theorem acV {T:(Int->ar R)->Int->ar R}{fin hit:ar R}(p:α->α->Bool)(hp:∀x y,p x y=true↔x=y)(a b:aq α)(hl:a.length=b.length)(h:a.length<=10^9)(hs:∀i (hi:i<a.length) nx,T nx (i:Int)=cond (!(p a[i] (b[i]'(hl▸hi)))) hit (nx ((i+1:Nat):Int)))(hf:∀nx,T nx (a.length:Int)=fin): aJ T fuel 0=cond (WA a b) fin hit:=by
 have hq:∀i,i<a.length->i<b.length:=λi hi=>hl▸hi;rw[fQ (fin:=fin) (hit:=hit) (λi=>WA a[i]? b[i]?) a.length (by omega) ?hs hf]
 case hs=>
  intro i nx hi
  rw[hs i hi,ax hi,ax (hq i hi)]
  have:p a[i] (b[i]'(hq i hi))=WA (some a[i]) (some (b[i]'(hq i hi))):=Xf (by rw[hp,aZ])
  rw[this]
 congr 1;apply Xf;rw[ba];constructor;intro k;apply cA;intro i;by_cases hi:i<a.length;exact Jz.1 (k i (dm.2 hi));rw[br (by omega),br (by omega)];rintro rfl i _;exact acL rfl
theorem afu {T:(Int->ar Bool)->Int->ar Bool}(p:α->α->Bool)(hp:∀x y,p x y=true↔x=y)(a b:aq α)(h:a.length<=10^9)(hs:a.length=b.length->∀i (hi:i<a.length)(pV:i<b.length) nx,T nx (i:Int)=cond (!(p a[i] b[i])) (some false) (nx ((i+1:Nat):Int)))(hf:∀nx,T nx (a.length:Int)=some true): cond ((a.length:Int) !=(b.length:Int)) (some false) (aJ T fuel 0)=some (WA a b):=by by_cases hl:a.length=b.length;rw[acV p hp a b hl h (λi hi nx=>hs hl i hi (hl▸hi) nx) hf];rw[show((a.length:Int) !=(b.length:Int))=false by simp[hl]];cases WA a b<;>rfl;rw[aar (λe=>hl (by rw[e]))];rw[show((a.length:Int) !=(b.length:Int))=true by simp;omega];rfl
theorem adG (a b:cG)(h:a.length<=10^9):rO a b=some (WA a b):=by unfold rO;refine afu (λx y=>x==y) (λx y=>bk) a b h (λhl i hi pV nx=>?_) (λnx=>?_);simp only[mF];rw[jh,aY hi,aY pV,ai (by omega) (by omega)];rfl;simp only[mF];rw[gZ];rfl
theorem JT (a b:Filter)(h:a.2.2.length<=10^9):tM a b=some (WA a b):=by grind[tM,adG,ab,apf]
theorem tD (l:cy)(h:l.length<=10^9):gk l=some l:=by grind[gk,fy]
theorem Gr (f:Filter)(h:f.2.2.length<=10^9):ow f=some f:=by grind[ow,pZ,ab]
theorem GL (f:Filter)(h:f.2.2.length<=10^9):wT f=some f:=by simp only[wT,fy h,cp]
theorem MD (l:aq Stream)(h:l.length<=10^9):rD l=some l:=by grind[rD,fy]
theorem P5 (t:aq Slot)(h:t.length<=10^9):vx t=some t:=by grind[vx,fy]
theorem Of (s:iv)(h:s.2.length<=10^9):tL s=some s:=by grind[tL,pZ,ab]
theorem P4 (s:eQ)(h1:s.1.length<=10^9)(h2:s.2.1.length<=10^9)(h3:s.2.2.2.length<=10^9):pC s=some s:=by simp only[pC,fy h1,P5 _ h2,Of _ h3,ab,cp]
theorem Qk (t:aq Slot)(h:t.length<=10^9):AI t=some t:=by grind[AI,fy]
theorem Qj (s:eQ)(h1:s.1.length<=10^9)(h2:s.2.1.length<=10^9)(h3:s.2.2.2.length<=10^9):AK s=some s:=by simp only[AK,fy h1,Qk _ h2,fy h3,ab,cp]
theorem Ry (l:aq hH)(i:Nat)(hi:i<l.length):l.take i++[(l[i].1,l[i].2.1,l[i].2.2)]=l.take (i+1):=(aU hi).symm
theorem JR (l:aq hH)(h:l.length<=10^9)(hx:∀x∈l,x.2.2.length<=10^9):sQ l=some l:=by unfold sQ;refine(dc (λi=>(l.take i,(i:Int))) l.length (by omega) (λi nx hi=>?_) (λnx=>?_));simp only[rC];rw[jh,aY hi,ai (by omega) (by omega)];simp only[af,ab,pZ _ (hx _ (aN hi))];rw[aP (by simp;omega),Ry l i hi];rfl;simp only[rC];rw[gZ,ch];rfl
structure agS (t:dk):Prop where
 p:t.2.1.2.2.2.length<=10^9
 w:t.2.2.1.length<=10^9
 x:∀x∈t.2.2.1,x.2.2.length<=10^9
theorem Og (t:dk)(z:agS t):yK t=some t:=by simp only[yK,F4 _ z.p,JR _ z.w z.x,ab]
theorem O8 (t:dk)(z:agS t):wR t=some t:=by have h:=z.w;unfold wR;simp only[IZ _ z.p,ab];refine(dc (λi=>((i:Int),t.1,t.2.1,t.2.2.1.take i,t.2.2.2)) t.2.2.1.length (by omega) (λi nx hi=>?_) (λnx=>?_));simp only[ud];rw[jh,aY hi,ai (by omega) (by omega)];simp only[af,ab,fy (z.x _ (aN hi)),cp];rw[aP (by simp;omega),Ry _ i hi];rfl;simp only[ud];rw[gZ,ch];rfl
theorem agK (z:cr 1000000000 fF h):agS h.2.2.1:=⟨z.2.2.1.2.1.2.2.2.1,z.2.2.1.2.2.1.1,λx hx=>(z.2.2.1.2.2.1.2 x hx).2.2.1⟩
theorem Em (h:Host)(z:cr 1000000000 fF h):oO h=some h:=by have hp:h.2.2.2.2.1.length<=10^9:=z.2.2.2.2.1.1;have hm:h.1.length<=10^9:=z.1.1;unfold oO;simp only[oK _ (show h.1.length<=1073741824 by omega),vw,fy z.2.1.1,Og _ (agK z),fy z.2.2.2.1.1,ab,cp];refine(dc (λi=>((i:Int),h.1,h.2.1,h.2.2.1,h.2.2.2.1,h.2.2.2.2.1.take i,h.2.2.2.2.2)) h.2.2.2.2.1.length (by omega) (λi nx hi=>?_) (λnx=>?_));simp only[ry];rw[jh,aY hi,ai (by omega) (by omega)];simp only[af,ab,F4 _ (z.2.2.2.2.1.2 _ (aN hi)).2.2.2.1];rw[aP (by simp;omega),<-aU hi];rfl;simp only[ry];rw[gZ,ch];simp only[ae,fy z.2.2.2.2.2.1.1,fy z.2.2.2.2.2.2.1.1,Gr _ z.2.2.2.2.2.2.2.1.2.2.1,P4 _ z.2.2.2.2.2.2.2.2.1.1.1 z.2.2.2.2.2.2.2.2.1.2.1.1 z.2.2.2.2.2.2.2.2.1.2.2.2.1,MD _ z.2.2.2.2.2.2.2.2.2.1.1,tD _ z.2.2.2.2.2.2.2.2.2.2.2.1.1,pZ _ z.2.2.2.2.2.2.2.2.2.2.2.2.1.1,pZ _ z.2.2.2.2.2.2.2.2.2.2.2.2.2.1.1,ab,cp]
theorem E1 (h:Host)(z:cr 1000000000 fF h):sn h=some h:=by have hp:h.2.2.2.2.1.length<=10^9:=z.2.2.2.2.1.1;have hm:h.1.length<=10^9:=z.1.1;unfold sn;simp only[uq _ (show h.1.length<=1073741824 by omega),fy z.2.1.1,O8 _ (agK z),fy z.2.2.2.1.1,ab,cp];refine(dc (λi=>((i:Int),h.1,h.2.1,h.2.2.1,h.2.2.2.1,h.2.2.2.2.1.take i,h.2.2.2.2.2)) h.2.2.2.2.1.length (by omega) (λi nx hi=>?_) (λnx=>?_));simp only[ue];rw[jh,aY hi,ai (by omega) (by omega)];simp only[af,ab,IZ _ (z.2.2.2.2.1.2 _ (aN hi)).2.2.2.1];rw[aP (by simp;omega),<-aU hi];rfl;simp only[ue];rw[gZ,ch];simp only[ae,fy z.2.2.2.2.2.1.1,fy z.2.2.2.2.2.2.1.1,GL _ z.2.2.2.2.2.2.2.1.2.2.1,Qj _ z.2.2.2.2.2.2.2.2.1.1.1 z.2.2.2.2.2.2.2.2.1.2.1.1 z.2.2.2.2.2.2.2.2.1.2.2.2.1,fy z.2.2.2.2.2.2.2.2.2.1.1,fy z.2.2.2.2.2.2.2.2.2.2.2.1.1,fy z.2.2.2.2.2.2.2.2.2.2.2.2.1.1,fy z.2.2.2.2.2.2.2.2.2.2.2.2.2.1.1,ab,cp]
theorem Zc:∀l:aq hH,(cK l).length<=kK (.sl mj) l
 |[]=>by simp[cK]
 |x::l=>by have:=Zc l;grind[cK,kK]
def body (p:aM):Bytes:=p.2.2.2.2.2.2.2.2.2.2.2.2.2.2.2
theorem ahC (x:Int):ak (toNat (iD x&&&iD 4294967295))=x%4294967296:=by have:=De x 32;grind[ai]
theorem ac2 (p:ga)(l:cG):(Ss p l).1.2.2.2.length<=p.2.2.2.length+l.length:=by grind[Ss,S6]
theorem Ow {n:Nat}{t:CT}{l:aq t.D}{i:Nat}{x:t.D}(z:cr n (.sl t) l)(hx:cr n t x):cr n (.sl t) (l.set i x):=by refine⟨?_,λy hy=>?_⟩;show(l.set i x).length<=n;rw[bg];exact z.1;rcases List.mem_or_eq_of_mem_set hy with h|h;exact z.2 y h;rw[h];exact hx
theorem abE {n:Nat}(hn:128<=n)(h:ES m):cr n (.sl .str) m:=⟨bf h.2 (by omega),λx hx=>bf (Nat.le_of_eq (h.1 x hx)) hn⟩
theorem Wy {n:Nat}(hn:128<=n)(z:cr n (.sl .str) m)(a:Int)(s:Bytes):cr n (.sl .str) (xc m a s).1:=by grind[xc,gr,abE,Fi,Hs]
theorem VE {n:Nat}(hn:128<=n):∀(q:aq (Int×Int)){m:cy}(s:Bytes),cr n (.sl .str) m->cr n (.sl .str) (S8 q m s)
 |[],m,s,z=>z
 |p::q,m,s,z=>VE hn q _ (Wy hn z _ _)
theorem VF {n:Nat}(hn:128<=n)(z:cr n (.sl .str) m)(l:aq aL)(d a:Int)(s:Bytes)(w:Bool):cr n (.sl .str) (B8 l m d a s w).1:=by grind[B8,VE]
def bD (l:aq aL)(m:cy)(d:Int)(r:xB):Bytes×xB×Bool:=
 bif !gx r||(dh r==0) then([],r,false) else
 bif !(Dg l m d (FQ r r.2.2.1) 16).2 then([],r,false) else
 ((Dg l m d (FQ r r.2.2.1) 16).1,(r.1,r.2.1,tmod (r.2.2.1+1) (2*r.2.1),r.2.2.2),true)
theorem KB (l:aq aL)(m:cy)(d:Int)(r:xB)(hl:l.length<=10^9)(hm:m.length<=10^9):tr l m d r=some (bD l m d r):=by have hA:=Ko r r.2.2.1;unfold tr bD;simp only[DV,DW,ab,ab2,Mj l m d _ 16 hl hm (show FQ r r.2.2.1<=9223372036854775807 by omega)];cases hb:gx r;rfl;have h:=CK hb;grind[ab,ai]
theorem J2 (l:aq aL)(m:cy)(d:Int)(r:xB)(hl:l.length<=10^9)(hm:m.length<=10^9):sO l m d r=some (bD l m d r):=by have hA:=Ko r r.2.2.1;unfold sO bD;simp only[Dw,Dx,ab,aa0,L6 l m d _ 16 hl hm (show FQ r r.2.2.1<=9223372036854775807 by omega)];cases hb:gx r;rfl;have h:=CK hb;grind[ab,ai]
theorem yC (l:aq aL)(m:cy)(d:Int)(r:xB):(bD l m d r).1.length<=100000000:=by grind[bD,acE]
theorem B2 (h:(bD l m d r).2.2=true): gx (bD l m d r).2.1=true/\dh (bD l m d r).2.1=dh r-1/\(bD l m d r).2.1.1=r.1/\(bD l m d r).2.1.2.1=r.2.1/\(bD l m d r).2.1.2.2.2=r.2.2.2:=by
 unfold bD at h⊢;cases hb:gx r with|false=>grind|true=>?_
 cases hu:dh r==0 with|true=>grind|false=>?_
 cases hd:(Dg l m d (FQ r r.2.2.1) 16).2 with|false=>grind|true=>?_
 grind[CK,gx,dh,bW]
theorem lH (h:gx r=true):0<=dh r/\dh r<=16:=by have hr:=CK h;grind[gx,dh]
def Fo:Da:=(0,0,0,0,0,0)
def F6 (s:Bytes):Da:=((bA s 0:Int),(bA s 1:Int),cB s 2,dB s 4,cB s 8,cB s 10)
def ee (s:Bytes):Da×Bool:=
 bif ((s.length:Int) !=16) then(Fo,false) else bif !(Uf (F6 s)==s) then(Fo,false) else(F6 s,true)
theorem VV (s:Bytes)(h:s.length<=10^9):oB s=some (ee s):=by
 unfold oB ee;cases hn:(s.length:Int) !=16;case true=>rfl
 have hl:s.length=16:=by grind
 have b0:=jT (s[0]'(by omega));have b1:=jT (s[1]'(by omega));have i0:idx s 0=some (s[0]'(by omega)):=aY (i:=0) (by omega);have i1:idx s 1=some (s[1]'(by omega)):=aY (i:=1) (by omega);have e:(((s[0]'(by omega)).toNat:Int),((s[1]'(by omega)).toNat:Int),cB s 2,dB s 4,cB s 8,cB s 10)=F6 s:=by grind[F6,bA]
 simp only[ae,i0,i1,ab,uN s _ h,Bb s _ h];rw[fE (n:=(s[0]'(by omega)).toNat) (by omega),fE (n:=(s[1]'(by omega)).toNat) (by omega),e,af4,ab];cases Uf (F6 s)==s<;>rfl
theorem U0 (s:Bytes)(h:s.length<=10^9):oo s=some (ee s):=by
 unfold oo ee;cases hn:(s.length:Int) !=16;case true=>rfl
 have hl:s.length=16:=by grind
 have b0:=jT (s[0]'(by omega));have b1:=jT (s[1]'(by omega));have i0:idx s 0=some (s[0]'(by omega)):=aY (i:=0) (by omega);have i1:idx s 1=some (s[1]'(by omega)):=aY (i:=1) (by omega);have e:(((s[0]'(by omega)).toNat:Int),((s[1]'(by omega)).toNat:Int),cB s 2,dB s 4,cB s 8,cB s 10)=F6 s:=by grind[F6,bA]
 simp only[ae,i0,i1,ab,AZ s _ h,A8 s _ h];rw[fE (n:=(s[0]'(by omega)).toNat) (by omega),fE (n:=(s[1]'(by omega)).toNat) (by omega),e,afJ,ab];cases Uf (F6 s)==s<;>rfl
theorem NB (h:(ee s).2=true):uy (ee s).1=true:=by grind[ee,Uf]
def Sk (x:Da):Bool:=bif x.1==1 then(ak (toNat (iD x.2.1&&&iD 1))) !=0 else false
def zw (l:aq aL)(m:cy)(d:Int):Nat->aq Da->xB->aq Da×xB×Bool
 |0,acc,r=>(acc,r,true)
 |n+1,acc,r=>
  bif !(bD l m d r).2.2|| !(ee (bD l m d r).1).2 then([],(r.1,r.2.1,r.2.2.2,r.2.2.2),false) else
  bif Sk (ee (bD l m d r).1).1 then(acc++[(ee (bD l m d r).1).1],(bD l m d r).2.1,true) else
  zw l m d n (acc++[(ee (bD l m d r).1).1]) (bD l m d r).2.1
def eD (l:aq aL)(m:cy)(d:Int)(r:xB):aq Da×xB×Bool:=
 bif !gx r||(dh r==0) then([],r,false) else zw l m d (dh r).toNat [] r
theorem H9 (k0:aq Da->xB->ar R)(k1:aq Da->Bool->aq Da->xB->xB->ar R)(K:aq Da×xB×Bool->ar R)
 (h0:∀a r,k0 a r=K (a,r,true)) (l:aq aL) (m:cy) (d:Int) (B E:xB) (h1:∀a r,k1 [] false a r E=K ([],E,false)) (hl:l.length<=10^9) (hm:m.length<=10^9):∀(n:Nat)(acc:aq Da)(r:xB)(f:Nat),
 n<f->gx r=true->(dh r).toNat=n->acc.length+n<=1000->E=(r.1,r.2.1,r.2.2.2,r.2.2.2)->aJ (ly k0 k1 l d ([]:aq Da) false m B E) f (acc,r)=K (zw l m d n acc r)
 |n,acc,r,0,hf,_,_,_,_=>by omega
 |0,acc,r,f+1,hf,hb,hu,ha,hE=>by rw[aJ];simp only[ly,Dx,ab];rw[gZ,ae,h0];rfl
 |n+1,acc,r,f+1,hf,hb,hu,ha,hE=>by
  have hlen:=yC l m d r;have hk:=B2 (l:=l) (m:=m) (d:=d) (r:=r);rw[aJ];simp only[ly,Dx,ab];rw[jh,af,J2 l m d r hl hm,ab,zw];generalize bD l m d r=t at hlen hk⊢;cases ht:t.2.2 with
  |false=>grind
  |true=>
   have hk:=hk ht;simp only[aj,ae,cR];rw[U0 _ (show t.1.length<=10^9 by omega),ab];generalize ee t.1=x;cases x.2 with
   |false=>grind
   |true=>
    simp only[aj,ae];rw[aP (by rw[bw];omega)];have e:(aa (cond (x.1.1==1) (some ((ak (toNat (iD x.1.2.1&&&iD 1))) !=0)) (some false)):(Bool->ar R)->ar R)=λK=>K (Sk x.1):=by funext K;simp_all[Sk]
    rw[e];cases Sk x.1 with|true=>simp only[af,h0]|false=>simp only[ae];exact H9 k0 k1 K h0 l m d B E h1 hl hm n _ _ f (by omega) hk.1 (by omega) (by simp;omega) (by grind)
theorem Io (k0:aq Da->xB->ar R)(k1:aq Da->Bool->aq Da->xB->xB->ar R)(K:aq Da×xB×Bool->ar R)
 (h0:∀a r,k0 a r=K (a,r,true)) (l:aq aL) (m:cy) (d:Int) (B:xB) (h1:∀a r,k1 [] false a r r=K ([],r,false)) (hl:l.length<=10^9) (hm:m.length<=10^9):∀(n:Nat)(acc:aq Da)(r:xB)(f:Nat),
 n<f->gx r=true->(dh r).toNat=n->acc.length+n<=1000->aJ (lT k0 k1 l d ([]:aq Da) false m B) f (acc,r)=K (zw l m d n acc r)
 |n,acc,r,0,hf,_,_,_=>by omega
 |0,acc,r,f+1,hf,hb,hu,ha=>by rw[aJ];simp only[lT,DW,ab];rw[gZ,ae,h0];rfl
 |n+1,acc,r,f+1,hf,hb,hu,ha=>by
  have hlen:=yC l m d r;have hk:=B2 (l:=l) (m:=m) (d:=d) (r:=r);rw[aJ];simp only[lT,DW,ab];rw[jh,af,KB l m d r hl hm,ab,zw];generalize bD l m d r=t at hlen hk⊢;rw[VV _ (show t.1.length<=10^9 by omega),ab];generalize ee t.1=x;cases ht:t.2.2 with
  |false=>simp_all
  |true=>
   have hk:=hk ht;simp only[aj,ae,ab,cR];cases x.2 with
   |false=>grind
   |true=>
    simp only[aj,ae];rw[aP (by rw[bw];omega)];have e:(aa (cond (x.1.1==1) (some ((ak (toNat (iD x.1.2.1&&&iD 1))) !=0)) (some false)):(Bool->ar R)->ar R)=λK=>K (Sk x.1):=by funext K;simp_all[Sk]
    rw[e];cases Sk x.1 with|true=>simp only[af,h0]|false=>simp only[ae];exact Io k0 k1 K h0 l m d B h1 hl hm n _ _ f (by omega) hk.1 (by omega) (by simp;omega)
theorem P6 (l:aq aL)(m:cy)(d:Int)(r:xB)(hl:l.length<=10^9)(hm:m.length<=10^9):vp l m d r=some (eD l m d r):=by
 have Fq:=dX;unfold vp eD;simp only[Dw,Dx,ab];cases hb:gx r;rfl;cases dh r==0;case true=>rfl
 have hu:=lH hb;simp only[aj,ae,ab,cD];exact H9 _ _ (λx=>some x) (λ_ _=>rfl) l m d _ _ (λ_ _=>rfl) hl hm _ [] r fuel (by omega) hb rfl (by simp;omega) rfl
theorem Ql (l:aq aL)(m:cy)(d:Int)(r:xB)(hl:l.length<=10^9)(hm:m.length<=10^9):wO l m d r=some (eD l m d r):=by
 have Fq:=dX;unfold wO eD;simp only[DV,DW,ab];cases hb:gx r;rfl;cases dh r==0;case true=>rfl
 have hu:=lH hb;simp only[aj,ae,ab,cD];exact Io _ _ (λx=>some x) (λ_ _=>rfl) l m d _ (λ_ _=>rfl) hl hm _ [] r fuel (by omega) hb rfl (by simp;omega)
def acF (v:Vector):Bool:=bif decide (v.2.2.1>=1) then(bif decide (v.2.2.1>=v.1) then true else decide (v.2.2.2.1>=v.2.1)) else false
theorem afI (v:Vector):DC v=some (acF v):=by unfold DC acF;cases decide (v.2.2.1>=1);all_goals simp_all
theorem af3 (v:Vector):qP v=some (acF v):=by unfold qP acF;cases decide (v.2.2.1>=1);all_goals simp_all
def Nz (v:Vector):Vector:=bif acF v&& !v.2.2.2.2.1 then(v.1,v.2.1,v.2.2.1,v.2.2.2.1,v.2.2.2.2.1,true) else v
theorem aaN (v:Vector):Al v=some (Nz v):=by grind[Al,Nz,afI,ab]
theorem abT (v:Vector):yB v=some (Nz v):=by grind[yB,Nz,af3,ab]
def upM (n:Int):Int:=if 1000000<ak (n+1) then 1000000 else ak (n+1)
theorem agp (n:Int):(if ak (n+1)<1000000 then ak (n+1) else 1000000)=upM n:=by grind[upM]
def evV (v:Vector):Vector:=bif AQ v then Nz (v.1,v.2.1,upM v.2.2.1,v.2.2.2) else v
theorem aaM (v:Vector):xF v=some (evV v):=by unfold xF evV;rw[Om,ab,aaN,ab];cases AQ v<;>rfl
theorem abS (v:Vector):yi v=some (evV v):=by grind[yi,evV,Jb,ab,agp,abT]
structure Bf (k:Nat) (a b:Host):Prop where
 mem:b.1.length=a.1.length
 maps:b.2.1=a.2.1
 tx:b.2.2.1=a.2.2.1
 rx:b.2.2.2.1.length=a.2.2.2.1.length
 rxs:∀j,k<=j->b.2.2.2.1[j]?=a.2.2.2.1[j]?
 pl:b.2.2.2.2.1.length=a.2.2.2.2.1.length
 vec:b.2.2.2.2.2.1.length=a.2.2.2.2.2.1.length
 ahT:∀j,k<=j->b.2.2.2.2.2.1[j]?=a.2.2.2.2.2.1[j]?
 pol:b.2.2.2.2.2.2.1.length=a.2.2.2.2.2.2.1.length
 flt:b.2.2.2.2.2.2.2.1=a.2.2.2.2.2.2.2.1
 ste:b.2.2.2.2.2.2.2.2.1=a.2.2.2.2.2.2.2.2.1
theorem Bf.refl (k:Nat)(a:Host):Bf k a a:=⟨rfl,rfl,rfl,rfl,λ_ _=>rfl,rfl,rfl,λ_ _=>rfl,rfl,rfl,rfl⟩
theorem Bf.trans {a b c:Host}(h:Bf k a b)(g:Bf k b c):Bf k a c:=⟨g.mem.trans h.mem,g.maps.trans h.maps,g.tx.trans h.tx,g.rx.trans h.rx,λj hj=>(g.rxs j hj).trans (h.rxs j hj),g.pl.trans h.pl,g.vec.trans h.vec,λj hj=>(g.ahT j hj).trans (h.ahT j hj),g.pol.trans h.pol,g.flt.trans h.flt,g.ste.trans h.ste⟩
theorem Bf.up {m:Nat}{a b:Host}(h:Bf k a b)(hk:k<=m):Bf m a b:=⟨h.mem,h.maps,h.tx,h.rx,λj hj=>h.rxs j (by omega),h.pl,h.vec,λj hj=>h.ahT j (by omega),h.pol,h.flt,h.ste⟩
theorem agq {n:Nat}{l:aq Vector}{i:Nat}{v:Vector}(z:cr n (.sl gz) l):cr n (.sl gz) (l.set i v):=Ow z ⟨bX,bX,bX,bX,bX,bX⟩
def Ea (x:HV):Bool:=dz x.1 0 65535&&(dz x.2.1 0 65535&&(dz x.2.2.1 0 65535&&(dz x.2.2.2.1 0 65535&&dz x.2.2.2.2 0 4294967295)))
theorem Q0 (x:HV):ln x=some (Ea x):=by simp_all[ln,cQ,bM,Ea]
theorem RD (x:HV):lK x=some (Ea x):=by simp_all[lK,cx,bM,Ea]
def Xe (x:HV)(p:Int):Bytes:=bif Ea x&&dz p 0 1 then((((bQ x.1++bQ x.2.1)++bQ x.2.2.1)++bQ x.2.2.2.1)++fP x.2.2.2.2)++fP p else []
theorem adD (x:HV)(p:Int):kC x p=some (Xe x p):=by have h1:=bz x.1;have h2:=bz x.2.1;have h3:=bz x.2.2.1;have h4:=bz x.2.2.2.1;have h5:=de x.2.2.2.2;have h6:=de p;unfold kC Xe;simp only[Q0,cQ,ab,lV,uo];grind[ab,aP]
theorem aeH (x:HV)(p:Int):kG x p=some (Xe x p):=by have h1:=bz x.1;have h2:=bz x.2.1;have h3:=bz x.2.2.1;have h4:=bz x.2.2.2.1;have h5:=de x.2.2.2.2;have h6:=de p;unfold kG Xe;simp only[RD,cx,ab,il,jF];grind[ab,aP]
def DL (l:aq aL)(m:cy)(d:Int)(q:Mw)(x:HV):cy×Mw×Bool:=
 bif !iw q|| !Ea x then(m,q,false) else
 bif !(B8 l m d (GK q) (Xe x (I4 q)) true).2 then(m,q,false) else
 ((B8 l m d (GK q) (Xe x (I4 q)) true).1,(q.1,q.2.1,tmod (q.2.2+1) (2*q.2.1)),true)
theorem adN (l:aq aL)(m:cy)(d:Int)(q:Mw)(x:HV)(hl:l.length<=10^9)(hm:m.length<=10^9):nP l m d q x=some (DL l m d q x):=by unfold nP DL;simp only[Q4,Q0,ab,oK m (show m.length<=1073741824 by omega),aaX,adD];cases hq:iw q;rfl;have h:=tj hq;have hs:=ZY hq;cases Ea x;rfl;simp only[aj,ae,ab,cD,aa1 q hq,JS l m d _ _ hl hm (show GK q<=9223372036854775807 by unfold GK;omega)];grind[abL,ai]
theorem aeR (l:aq aL)(m:cy)(d:Int)(q:Mw)(x:HV)(hl:l.length<=10^9)(hm:m.length<=10^9):nY l m d q x=some (DL l m d q x):=by
 unfold nY DL;simp only[RI,RD,ab,uq m (show m.length<=1073741824 by omega),aeH];cases hq:iw q;rfl;have h:=tj hq;have hs:=ZY hq;cases Ea x;rfl;have e:ak (q.1+ak (16*tmod q.2.2 q.2.1))=GK q:=by grind[ai,GK]
 simp only[aj,ae,ab,cD,abZ q hq,e,Ku l m d _ _ hl hm (show GK q<=9223372036854775807 by unfold GK;omega)];grind[ai]
theorem abK {n:Nat}(hn:128<=n)(z:cr n (.sl .str) m)(l:aq aL)(d:Int)(q:Mw)(x:HV):cr n (.sl .str) (DL l m d q x).1/\(DL l m d q x).1.length=m.length:=by grind[DL,VF,DM]
theorem afY {q:Mw}{x:HV}(h:iw q=true):iw (DL l m d q x).2.1=true/\(DL l m d q x).2.1.1=q.1/\(DL l m d q x).2.1.2.1=q.2.1:=by have hq:=tj h;grind[DL,iw,bW,Hx]
def nD (l:aq aL)(m:cy)(d:Int)(q:bJ)(k:Bytes)(s:Bytes):cy×Mw×Bool:=
 bif !(ee s).2||(((ee s).1.1 !=3)||decide ((ee s).1.2.2.1<((ec q.2.2.2.1.1).1.length:Int))) then(m,q.2.1,false) else
 bif !(B8 l m d (ee s).1.2.2.2.1 (ec q.2.2.2.1.1).1 true).2 then(m,q.2.1,false) else
 DL l (B8 l m d (ee s).1.2.2.2.1 (ec q.2.2.2.1.1).1 true).1 d q.2.1 ((ee s).1.2.2.2.2.2,((ec q.2.2.2.1.1).1.length:Int),q.2.2.2.1.2.1,q.2.2.2.1.2.2,Cj k (zA (zy q.2.2.2.1.1)))
theorem ab6 (l:aq aL)(m:cy)(d:Int)(q:bJ)(k s:Bytes)(hl:l.length<=10^9)(hm:m.length<=10^9)(hs:s.length<=10^9):yA l m d q s k=some (nD l m d q k s):=by
 unfold yA nD;have jQ:=NB (s:=s);simp only[VV s hs,DU,ab,uq m (show m.length<=1073741824 by omega)];generalize ee s=x at jQ⊢;cases hx:x.2;rfl;have hd:=jQ hx;simp only[uy,ah,bW]at hd;cases x.1.1 !=3;case true=>rfl
 cases decide (x.1.2.2.1<((ec q.2.2.2.1.1).1.length:Int));all_goals grind[ab,Ku,VX,Kv,aeR,DM]
theorem aa5 (l:aq aL)(m:cy)(d:Int)(q:bJ)(k s:Bytes)(hl:l.length<=10^9)(hm:m.length<=10^9)(hs:s.length<=10^9)(hh:ej q.2.2.2.1.1=true):∃b,vD l m d q k s=some (b,nD l m d q k s)/\(b=false->nD l m d q k s=(m,q.2.1,false)):=by
 unfold vD nD;have jQ:=NB (s:=s);simp only[U0 s hs,Dv,ab,Du hh];generalize ee s=x at jQ⊢;cases hx:x.2;exact⟨false,rfl,λ_=>rfl⟩;have hd:=jQ hx;simp only[uy,ah,bW]at hd;cases x.1.1 !=3;case true=>simp_all
 cases decide (x.1.2.2.1<((ec q.2.2.2.1.1).1.length:Int));case true=>simp_all
 simp only[aj,ae,ab,cD,JS l m d _ _ hl hm (show x.1.2.2.2.1<=9223372036854775807 by omega)];cases (B8 l m d x.1.2.2.2.1 (ec q.2.2.2.1.1).1 true).2;exact⟨false,rfl,λ_=>rfl⟩;simp only[aj,ae,U2,ab,JU,adN l _ d _ _ hl (show(B8 l m d x.1.2.2.2.1 (ec q.2.2.2.1.1).1 true).1.length<=10^9 by rw[DM];exact hm)];grind
theorem aca {n:Nat}(hn:128<=n){q:bJ}{k:Bytes}(z:cr n (.sl .str) m)(hq:iw q.2.1=true): cr n (.sl .str) (nD l m d q k s).1/\(nD l m d q k s).1.length=m.length/\iw (nD l m d q k s).2.1=true/\(nD l m d q k s).2.1.1=q.2.1.1/\(nD l m d q k s).2.1.2.1=q.2.1.2.1:=by
 unfold nD;cases !(ee s).2||(((ee s).1.1 !=3)||decide ((ee s).1.2.2.1<((ec q.2.2.2.1.1).1.length:Int)));case true=>grind
 cases (B8 l m d (ee s).1.2.2.2.1 (ec q.2.2.2.1.1).1 true).2;all_goals grind[VF,DM,abK,afY]
def kN (l:aq aL)(m:cy)(d:Int)(q:bJ)(k:Bytes):cy×bJ:=
 bif !Tg q||(!q.2.2.2.2.1||((k.length:Int) !=16)) then(m,q) else
 bif (bD l m d q.1).2.2&&(nD l m d q k (bD l m d q.1).1).2.2 then
  ((nD l m d q k (bD l m d q.1).1).1,(bD l m d q.1).2.1,(nD l m d q k (bD l m d q.1).1).2.1,q.2.2.1,ahQ,false,q.2.2.2.2.2)
 else(m,(bD l m d q.1).2.1,q.2.1,q.2.2.1,ahQ,false,ak (q.2.2.2.2.2+q.2.2.2.1.2.2))
theorem We (h:(bD l m d r).2.2=false):(bD l m d r).2.1=r:=by grind[bD]
theorem DT {q:bJ}(h:Tg q=true):iw q.2.1=true/\(q.2.2.2.2.1=true->ej q.2.2.2.1.1=true):=by grind[Tg]
theorem RF (l:aq aL)(m:cy)(d:Int)(q:bJ)(k:Bytes)(hl:l.length<=10^9)(hm:m.length<=10^9):qL l m d q k=some (kN l m d q k):=by
 have ht:=yC l m d q.1;unfold qL kN;simp only[YF,ab,uq m (show m.length<=1073741824 by omega),KB l m d q.1 hl hm,ab6 l m d q k _ hl hm (show(bD l m d q.1).1.length<=10^9 by omega)];cases Tg q;rfl;cases q.2.2.2.2.1;rfl;cases (k.length:Int) !=16;case true=>rfl
 simp only[aj,ae,ab,cD];cases (bD l m d q.1).2.2;rfl;cases (nD l m d q k (bD l m d q.1).1).2.2<;>rfl
theorem Q2 (l:aq aL)(m:cy)(d:Int)(q:bJ)(k:Bytes)(hl:l.length<=10^9)(hm:m.length<=10^9):qh l m d q k=some (kN l m d q k):=by
 have ht:=yC l m d q.1;have Hj:=We (l:=l) (m:=m) (d:=d) (r:=q.1);unfold qh kN;simp only[XP,ab,oK m (show m.length<=1073741824 by omega),J2 l m d q.1 hl hm];cases hr:Tg q;rfl;cases hh:q.2.2.2.2.1;rfl;cases (k.length:Int) !=16;case true=>rfl
 obtain⟨b,hb,Gg⟩:=aa5 l m d q k (bD l m d q.1).1 hl hm (by omega) ((DT hr).2 hh);simp only[aj,ae,ab,cD,hb];generalize nD l m d q k (bD l m d q.1).1=s at hb Gg⊢;cases hk:(bD l m d q.1).2.2 with|false=>rw[Hj hk];rfl|true=>?_
 cases b with|true=>cases hs:s.2.2<;>rfl|false=>rw[Gg rfl];rfl
theorem aaB {n:Nat}(hn:128<=n){q:bJ}{k:Bytes}(z:cr n (.sl .str) m)(zq:cr n dQ q): cr n (.sl .str) (kN l m d q k).1/\(kN l m d q k).1.length=m.length/\cr n dQ (kN l m d q k).2/\(Tg q=true->iw (kN l m d q k).2.2.1=true/\(kN l m d q k).2.2.1.2.1=q.2.1.2.1):=by
 unfold kN;cases hc: !Tg q||(!q.2.2.2.2.1||((k.length:Int) !=16));case true=>grind[DT]
 simp only[dR,eY]at hc;have hq:=(DT hc.1).1;have hs:=aca hn (l:=l) (d:=d) (k:=k) (s:=(bD l m d q.1).1) z hq;have e0:cr n dQ ((bD l m d q.1).2.1,(nD l m d q k (bD l m d q.1).1).2.1,q.2.2.1,ahQ,false,q.2.2.2.2.2):=⟨⟨bX,bX,bX,bX⟩,⟨bX,bX,bX⟩,⟨bX,bX,bX⟩,⟨⟨bX,bX,bX,bX,bX,bX,bX,bX,bX,bX,bX,bX,bX,bX,bX,fB _⟩,bX,bX⟩,bX,bX⟩
 cases (bD l m d q.1).2.2&&(nD l m d q k (bD l m d q.1).1).2.2 with|true=>grind|false=>exact⟨z,rfl,⟨⟨bX,bX,bX,bX⟩,⟨bX,bX,bX⟩,⟨bX,bX,bX⟩,⟨⟨bX,bX,bX,bX,bX,bX,bX,bX,bX,bX,bX,bX,bX,bX,bX,fB _⟩,bX,bX⟩,bX,bX⟩,λ_=>⟨hq,rfl⟩⟩
def BT (x:Int×Int):Bool:=decide (x.1<0)|| !dz x.2 0 4096
def mE (l:aq (Int×Int)):Bool:= !l.any BT&&decide ((l.length:Int)<=16)
theorem OP (l:aq (Int×Int)):(bif l.any BT then some false else some (decide ((l.length:Int)<=16)))=some (mE l):=by grind[mE]
theorem Oj (l:aq (Int×Int))(h:l.length<=10^9):xQ l=some (mE l):=by
 rw[<-OP];refine F1 BT l (by omega) (λi hi nx=>?_) (λnx=>?_);simp only[rb];rw[jh,af,aY hi,ab,cQ,ai (by omega) (by omega)];unfold BT;cases decide (l[i].1<0)with|true=>rfl|false=>rfl
 simp only[rb];rw[gZ,ae]
theorem Pa (l:aq (Int×Int))(h:l.length<=10^9):yu l=some (mE l):=by
 rw[<-OP];refine F1 BT l (by omega) (λi hi nx=>?_) (λnx=>?_);simp only[rU];rw[jh,af,aY hi,ab,ab,cx,ai (by omega) (by omega)];unfold BT;cases decide (l[i].1<0)with|true=>rfl|false=>rfl
 simp only[rU];rw[gZ,ae]
theorem DK {l:aq (Int×Int)}(h:mE l=true):l.length<=16/\∀x∈l,0<=x.1/\0<=x.2/\x.2<=4096:=by grind[mE,BT,bW]
def dsc (n:Nat)(c:Int)(i:Nat)(x:Int×Int):Da:=(1,(if i+1=n then 1 else 0),x.2,x.1,0,c)
def uz (ps:aq (Int×Int))(c:Int):Nat->aq Da
 |0=>[]
 |i+1=>uz ps c i++[dsc ps.length c i (ps.getD i (0,0))]
theorem Df (ps:aq (Int×Int))(c:Int):∀i,(uz ps c i).length=i
 |0=>rfl
 |i+1=>by rw[uz,au,Df ps c i];rfl
theorem KZ (ps:aq (Int×Int))(c:Int)(q:Da->Bool):∀i,(uz ps c i).all q=(range i).all (λj=>q (dsc ps.length c j (ps.getD j (0,0))))
 |0=>rfl
 |i+1=>by rw[uz,List.all_append,KZ ps c q i,List.range_succ,List.all_append];rfl
def Ce (ps:aq (Int×Int))(z c:Int):aq Da:=
 bif ((ps.length:Int)==0)||(!mE ps|| !dz z 1 128) then [] else
 bif ([(2,0,0,0,z,c)]++uz ps c ps.length).all uy then [(2,0,0,0,z,c)]++uz ps c ps.length else []
theorem SM (ps:aq (Int×Int))(z c:Int)(h:ps.length<=10^9):∃b,mx ps z c=some (b,Ce ps z c)/\(b=false->Ce ps z c=[]):=by
 unfold mx Ce;rw[Oj ps h,cQ];cases ((ps.length:Int)==0);case true=>exact⟨false,rfl,λ_=>rfl⟩
 cases mE ps;exact⟨false,rfl,λ_=>rfl⟩;cases dz z 1 128;exact⟨false,rfl,λ_=>rfl⟩;refine⟨([(2,0,0,0,z,c)]++uz ps c ps.length).all uy,?_,λhb=>by rw[hb];rfl⟩;refine dc (λi=>(([(2,0,0,0,z,c)]++uz ps c i,(i:Int)))) ps.length (by omega) (λi nx hi=>?_) (λnx=>?_);have hl:=Df ps c i;simp only[jV];rw[jh,af,aY hi,ab,ai (by omega) (by omega),ai (by omega) (by omega)];have e:[(2,0,0,0,z,c)]++uz ps c (i+1)=([(2,0,0,0,z,c)]++uz ps c i)++[dsc ps.length c i ps[i]]:=by rw[uz,eu hi,aO]
 rw[e];unfold dsc;by_cases hc:i+1=ps.length;rw[show((i:Int)==(ps.length)-1)=true from by rw[bk];omega,aH hc];rw[aP (by simp only[au,bw];omega)];rfl;rw[show((i:Int)==(ps.length)-1)=false from by rw[cM];omega,aG hc];simp only[ae];rw[aP (by simp only[au,bw];omega)];rfl;simp only[jV];rw[gZ,ae];have hl:=Df ps c ps.length;generalize hq:[(2,0,0,0,z,c)]++uz ps c ps.length=q;have hn:q.length<=1000000001:=by rw[<-hq];simp only[au,bw];omega
 rw[qU (fin:=some (true,q)) uy q (by omega) (λi hi nx=>?_) (λnx=>?_)];cases q.all uy<;>rfl;simp only[jo];rw[jh,af,aY hi,ab,U1,ab,ai (by omega) (by omega)];rfl;simp only[jo];rw[gZ,ae]
theorem Tl (ps:aq (Int×Int))(z c:Int)(h:ps.length<=10^9):mG ps z c=some (Ce ps z c):=by
 unfold mG Ce;rw[Pa ps h,cx];cases ((ps.length:Int)==0);case true=>rfl
 cases mE ps;rfl;cases dz z 1 128;rfl;have i0:idx [((2,0,0,0,z,c):Da)] 0=some (2,0,0,0,z,c):=rfl;simp only[aj,ae,ab,cD,i0,Kt,List.all_append,bC,List.all_nil,gP];cases uy (2,0,0,0,z,c);rfl;rw[KZ];refine(G4 (fin:=some ([(2,0,0,0,z,c)]++uz ps c ps.length)) (hit:=some []) (λi=>(([(2,0,0,0,z,c)]++uz ps c i,(i:Int)))) (λj=>uy (dsc ps.length c j (ps.getD j (0,0)))) ps.length (by omega) (λi nx hi _=>?_) (λ_ nx=>?_)).trans ?_;have hl:=Df ps c i;simp only[jZ];rw[jh,af,aY hi,ab,ab,ai (by omega) (by omega),ai (by omega) (by omega)];have e:[(2,0,0,0,z,c)]++uz ps c (i+1)=([(2,0,0,0,z,c)]++uz ps c i)++[dsc ps.length c i ps[i]]:=by rw[uz,eu hi,aO]
 rw[e,eu hi];unfold dsc;by_cases hc:i+1=ps.length;rw[show((i:Int)==(ps.length)-1)=true from by rw[bk];omega,aH hc];simp only[af,Kt,ab];rw[aP (by simp only[au,bw];omega)];rfl;rw[show((i:Int)==(ps.length)-1)=false from by rw[cM];omega,aG hc];simp only[ae,Kt,ab];rw[aP (by simp only[au,bw];omega)];rfl;simp only[jZ];rw[gZ,ae];cases (range ps.length).all (λj=>uy (dsc ps.length c j (ps.getD j (0,0))))<;>rfl
def GI (x y:Da):Bool:=(x.1==y.1)&&((x.2.1==y.2.1)&&((x.2.2.1==y.2.2.1)&&((x.2.2.2.1==y.2.2.2.1)&&((x.2.2.2.2.1==y.2.2.2.2.1)&&((x.2.2.2.2.2==y.2.2.2.2.2)&&true)))))
def EZ (a b:aq Da):Bool:=((a.length:Int)==(b.length:Int))&&(range a.length).all λi=>GI (a.getD i Fo) (b.getD i Fo)
theorem ab0 (a b:aq Da)(ha:a.length<=10^9):AM a b=some (EZ a b):=by
 unfold AM EZ;cases hl:((a.length:Int)==(b.length))with
 |false=>simp only[bne,hl,cL,af,fM]
 |true=>
  have hn:a.length=b.length:=by have:=gR hl;omega
  simp only[bne,hl,aj,ae,bp];rw[fQ (λi=>GI (a.getD i Fo) (b.getD i Fo)) a.length (by omega) (λi nx hi=>?_) (λnx=>?_)];cases (range a.length).all (λi=>GI (a.getD i Fo) (b.getD i Fo))<;>rfl;have QT:i<b.length:=by omega
  simp only[uc];rw[jh,af,aY hi,aY QT,ab,ab,ai (by omega) (by omega),eu hi,eu QT];rfl;simp only[uc];rw[gZ,ae]
def gw (l:aq Da):aq (Int×Int):=(l.drop 1).map λx=>(x.2.2.2.1,x.2.2.1)
def iK (l:aq Da):aq (Int×Int)×Int×Int×Bool:=
 match l with
 |h::x::r=>bif EZ (Ce (gw l) h.2.2.2.2.1 h.2.2.2.2.2) l then(gw l,h.2.2.2.2.1,h.2.2.2.2.2,true) else([],0,0,false)
 |_=>([],0,0,false)
theorem QE (ps:aq (Int×Int))(z c:Int):(Ce ps z c).length<=ps.length+1:=by
 unfold Ce;cases ((ps.length:Int)==0)||(!mE ps|| !dz z 1 128);case true=>simp
 cases ([(2,0,0,0,z,c)]++uz ps c ps.length).all uy with|false=>simp|true=>simp only[ae,af,au,bw,Df];omega
theorem Tq (l:aq Da)(hl:l.length<=10^9):nX l=some (iK l):=by
 unfold nX;match l,hl with
 |[],_=>
  obtain⟨g,hg⟩:∃g,fuel=g+1:=⟨fuel-1,by have:=dX;omega⟩
  rw[hg,aJ];rfl
 |h::q,hl=>
  simp only[cf]at hl;refine dc (λi=>(((q.take i).map (λx=>(x.2.2.2.1,x.2.2.1)),((i+1:Nat):Int)))) q.length (by omega) (λi nx hi=>?_) (λnx=>?_);have QT:i+1<(h::q).length:=by simp;omega
  have e2:(h::q)[i+1]=q[i]:=rfl;simp only[kH];rw[jh,af,aY QT,ab,ab,aP (by simp only[cn,bm,bw];omega),ai (by omega) (by omega),e2,aU hi,List.map_append];rfl;have i0:idx (h::q) 0=some h:=rfl;simp only[kH];rw[al (by simp only[cf];omega),ae,ch];have hp:q.map (λx=>(x.2.2.2.1,x.2.2.1))=gw (h::q):=rfl;have Hk:(gw (h::q)).length=q.length:=by rw[<-hp,cn]
  rw[hp];have hdl:=QE (gw (h::q)) h.2.2.2.2.1 h.2.2.2.2.2;simp only[i0,ab,Tl (gw (h::q)) _ _ (show(gw (h::q)).length<=10^9 by omega),ab0 _ (h::q) (show(Ce (gw (h::q)) h.2.2.2.2.1 h.2.2.2.2.2).length<=10^9 by omega)];cases q with|nil=>rfl|cons x r=>simp only[ae,ab,iK];cases EZ (Ce (gw (h::x::r)) h.2.2.2.2.1 h.2.2.2.2.2) (h::x::r)<;>rfl
theorem SP (l:aq Da)(hl:l.length<=10^9):nO l=some (iK l):=by
 unfold nO;match l,hl with
 |[],_=>rfl
 |[h],_=>rfl
 |h::y::r,hl=>
  generalize hq:y::r=q;have XD:1<=q.length:=by rw[<-hq];simp
  have hlen:q.length+1<=10^9:=by rw[<-hq];simpa using hl
  have i0:idx (h::q) 0=some h:=rfl;have s0:sub (h::q) 1 (((h::q).length))=some q:=wY 1 (by simp) rfl;rw[al (by simp only[cf];omega),ae,s0,ab];refine dc (λi=>(((q.take i).map (λx=>(x.2.2.2.1,x.2.2.1)),(i:Int)))) q.length (by omega) (λi nx hi=>?_) (λnx=>?_);simp only[kD];rw[jh,af,aY hi,ab,aP (by simp only[cn,bm,bw];omega),ai (by omega) (by omega),aU hi,List.map_append];rfl;simp only[kD];rw[gZ,ae,ch];have hp:q.map (λx=>(x.2.2.2.1,x.2.2.1))=gw (h::q):=rfl;have Hk:(gw (h::q)).length=q.length:=by rw[<-hp,cn]
  rw[hp];have hdl:=QE (gw (h::q)) h.2.2.2.2.1 h.2.2.2.2.2;obtain⟨b,hd,hb⟩:=SM (gw (h::q)) h.2.2.2.2.1 h.2.2.2.2.2 (by omega);have hR:iK (h::q)=bif EZ (Ce (gw (h::q)) h.2.2.2.2.1 h.2.2.2.2.2) (h::q) then(gw (h::q),h.2.2.2.2.1,h.2.2.2.2.2,true) else([],0,0,false):=by rw[<-hq];rfl
  rw[hR];simp only[i0,ab,hd];have hlc:(((h::q).length):Int)=(q.length)+1:=by simp only[cf];omega
  generalize Ce (gw (h::q)) h.2.2.2.2.1 h.2.2.2.2.2=w at hdl hb⊢
  have core:∀(K:ar (aq (Int×Int)×Int×Int×Bool))(w':aq Da),w'=w->(bif ((w'.length):Int) !=(((h::q).length)) then some (([]),(0),(0),false) else
   aJ (gi (λxe=>some (gw (h::q),h.2.2.2.2.1,h.2.2.2.2.2,true)) (λB7 CO D3 AU D4=>some (B7,CO,D3,AU)) (h::q) (gw (h::q)) h.2.2.2.2.1 h.2.2.2.2.2 w' ((w'.length))) fuel 0)=some (bif EZ w (h::q) then(gw (h::q),h.2.2.2.2.1,h.2.2.2.2.2,true) else([],0,0,false)):=by
   intro K w' e
   subst e
   unfold EZ
   cases hl:((w'.length)==(((h::q).length):Int))with
   |false=>simp only[bne,hl,cL,af,fM,ae]
   |true=>
    simp only[bne,hl,aj,ae,bp]
    rw[fQ (fin:=some (gw (h::q),h.2.2.2.2.1,h.2.2.2.2.2,true)) (λi=>GI (w'.getD i Fo) ((h::q).getD i Fo)) w'.length (by omega) (λi nx hi=>?_) (λnx=>?_)]
    ·cases (range w'.length).all (λi=>GI (w'.getD i Fo) ((h::q).getD i Fo))<;>rfl
    ·have QT:i<(h::q).length:=by omega
     simp only[gi]
     rw[jh,af,aY hi,aY QT,ab,ab,ai (by omega) (by omega),eu hi,eu QT];rfl
    ·simp only[gi]
     rw[gZ,ae]
  cases b with|true=>exact core none w rfl|false=>exact core none [] (hb rfl).symm
theorem Me {l:aq Da}(h:(iK l).2.2.2=true):mE (iK l).1=true/\∀p∈(iK l).1,p.1<=4294967295:=by match l,h with|hd::x::r,h=>unfold iK at h⊢;simp only at h⊢;cases hs:EZ (Ce (gw (hd::x::r)) hd.2.2.2.2.1 hd.2.2.2.2.2) (hd::x::r)with|false=>grind|true=>generalize hw:gw (hd::x::r)=ps at hs⊢;unfold EZ at hs;simp only[ah]at hs;have hn:=gR hs.1;unfold Ce at hn;cases hc:((ps.length)==0)||(!mE ps|| !dz hd.2.2.2.2.1 1 128)with|true=>grind|false=>cases ha:([(2,0,0,0,hd.2.2.2.2.1,hd.2.2.2.2.2)]++uz ps hd.2.2.2.2.2 ps.length).all uy with|false=>grind|true=>simp only[dR,eY]at hc;refine⟨hc.2.1,λp hp=>?_⟩;rw[List.all_append,KZ,ah]at ha;obtain⟨i,hi,rfl⟩:=List.getElem_of_mem hp;simp_all[uy,dsc,bW]
theorem Dh (l:aq aL)(m:cy)(d a n:Int):(Dg l m d a n).1.length<=33554432:=by grind[Hv,qI,Dg]
def Eh (l:aq aL)(m:cy)(d:Int):aq (Int×Int)->Bytes->Bytes×Bool
 |[],acc=>(acc,true)
 |p::ps,acc=>bif (Dg l m d p.1 p.2).2 then Eh l m d ps (acc++(Dg l m d p.1 p.2).1) else([],false)
def xE (l:aq aL)(m:cy)(d:Int)(ps:aq (Int×Int)):Bytes×Bool:=bif mE ps then Eh l m d ps [] else([],false)
def Ci (l:aq aL)(m:cy)(d:Int)(p:Int×Int)(s:Bytes):Except (ar (Bytes×Bool)) Bytes:=
 if(Dg l m d p.1 p.2).2=true then .ok (s++(Dg l m d p.1 p.2).1) else .error (some ([],false))
theorem IL (l:aq aL)(m:cy)(d:Int):∀(ps:aq (Int×Int))(s:Bytes),MK (Ci l m d) (λs=>some (s,true)) ps s=some (Eh l m d ps s)
 |[],s=>rfl
 |p::ps,s=>by rw[MK,Eh];unfold Ci;cases hd:(Dg l m d p.1 p.2).2 with|false=>rfl|true=>exact IL l m d ps _
theorem LX (l:aq aL)(m:cy)(d:Int):∀(ps:aq (Int×Int))(s:Bytes),(Eh l m d ps s).1.length<=s.length+33554432*ps.length
 |[],s=>by simp[Eh]
 |p::ps,s=>by have h1:=Dh l m d p.1 p.2;rw[Eh];cases (Dg l m d p.1 p.2).2 with|false=>simp|true=>have:=LX l m d ps (s++(Dg l m d p.1 p.2).1);grind
theorem LY (l:aq aL)(m:cy)(d:Int)(ps:aq (Int×Int)):(xE l m d ps).1.length<=10^9:=by unfold xE;cases hp:mE ps with|false=>simp|true=>have:=(DK hp).1;have:=LX l m d ps [];grind
theorem XK (l:aq aL)(m:cy)(d:Int)(ps:aq (Int×Int))(hl:l.length<=10^9)(hm:m.length<=10^9)(hn:ps.length<=10^9)(ha:∀p∈ps,p.1<=9223372036854775807):po l m d ps=some (xE l m d ps):=by
 unfold po xE;rw[Oj ps hn,ab];cases hp:mE ps;rfl;have h16:=(DK hp).1;simp only[aj,ae,af];rw[<-IL];refine qJ ps (λs i=>(s,(i:Int))) (λi s=>s.length<=33554432*i) (Ci l m d) _ (by omega) (λi hi s nx hI=>?_) (λi hi s s' hI he=>?_) (λs nx hI=>?_) [] (by simp);have h1:=Dh l m d ps[i].1 ps[i].2;simp only[lp];rw[jh,af,aY hi,ab,L6 l m d _ _ hl hm (ha _ (aN hi)),ab];unfold Ci;cases hd:(Dg l m d ps[i].1 ps[i].2).2 with|false=>rfl|true=>rw[aH rfl,aP (by omega),ai (by omega) (by omega)];rfl
 have h1:=Dh l m d ps[i].1 ps[i].2;unfold Ci at he;split at he;injection he with he;rw[<-he,au];omega;cases he;simp only[lp];rw[gZ,ae]
theorem YB (l:aq aL)(m:cy)(d:Int)(ps:aq (Int×Int))(hl:l.length<=10^9)(hm:m.length<=10^9)(hn:ps.length<=10^9)(ha:∀p∈ps,p.1<=9223372036854775807):pL l m d ps=some (xE l m d ps):=by
 unfold pL xE;rw[Pa ps hn,ab];cases hp:mE ps;rfl;have h16:=(DK hp).1;simp only[aj,ae,af];rw[<-IL];refine qJ ps (λs i=>(s,(i:Int))) (λi s=>s.length<=33554432*i) (Ci l m d) _ (by omega) (λi hi s nx hI=>?_) (λi hi s s' hI he=>?_) (λs nx hI=>?_) [] (by simp);have h1:=Dh l m d ps[i].1 ps[i].2;simp only[lM];rw[jh,af,aY hi,ab,ab,Mj l m d _ _ hl hm (ha _ (aN hi)),ab];unfold Ci;cases hd:(Dg l m d ps[i].1 ps[i].2).2 with|false=>rfl|true=>rw[aH rfl,aP (by omega),ai (by omega) (by omega)];rfl
 have h1:=Dh l m d ps[i].1 ps[i].2;unfold Ci at he;split at he;injection he with he;rw[<-he,au];omega;cases he;simp only[lM];rw[gZ,ae]
theorem iW {y:Bytes}{i:Nat}(h:i<x.length):bA (x++y) i=bA x i:=by grind[bA]
theorem ux {y:Bytes}{i:Nat}(h:x.length<=i):bA (x++y) i=bA y (i-x.length):=by grind[bA]
theorem T4 {i n:Nat}(h:i<n):bA (x.take n) i=bA x i:=by grind[bA]
theorem nI {i n:Nat}:bA (x.drop n) i=bA x (n+i):=by grind[bA]
theorem ZR {p:Bytes}{a i:Nat}(h:i<a\/a+p.length<=i):bA (wz s (a:Int) p) i=bA s i:=by
 unfold wz fu;by_cases hw:(0:Int)<=a/\(a:Int)+(p.length:Int)<=(s.length:Int)
 rw[aw hw,af,aA];have ht:(s.take a).length=a:=by rw[bm];omega
 rcases h with h|h;rw[iW (by rw[au];omega),iW (by omega),T4 h];rw[ux (by rw[au];omega),nI,au,ht];congr 1;omega;rw[al hw];rfl
theorem ZQ {p:Bytes}{a j:Nat}(hw:a+p.length<=s.length)(hj:j<p.length):bA (wz s (a:Int) p) (a+j)=bA p j:=by unfold wz fu;rw[aw ⟨by omega,by omega⟩,af,aA];grind[iW,ux]
theorem xm {a:Nat}:cB s (a:Int)=bif decide (a+2<=s.length) then((bA s a*256+bA s (a+1):Nat):Int) else-1:=by grind[cB,fu]
theorem Ge {a:Nat}(hl:s.length=t.length)(h0:bA s a=bA t a)(h1:bA s (a+1)=bA t (a+1)):cB s (a:Int)=cB t (a:Int):=by grind[xm]
theorem NW {a:Nat}:cB (s.drop k) (a:Int)=cB s ((k+a:Nat):Int):=by rw[xm,xm,nI,nI,bl,show k+(a+1)=k+a+1 by omega,show decide (a+2<=s.length-k)=decide (k+a+2<=s.length) from decide_eq_decide.2 (by omega)]
theorem Hh {a:Nat}:dB s (a:Int)=bif decide (a+4<=s.length) then(((bA s a*256+bA s (a+1))*65536+(bA s (a+2)*256+bA s (a+3)):Nat):Int) else-1:=by grind[dB,fu]
theorem NX {a:Nat}:dB (s.drop k) (a:Int)=dB s ((k+a:Nat):Int):=by rw[Hh,Hh,nI,nI,nI,nI,bl,show k+(a+1)=k+a+1 by omega,show k+(a+2)=k+a+2 by omega,show k+(a+3)=k+a+3 by omega,show decide (a+4<=s.length-k)=decide (k+a+4<=s.length) from decide_eq_decide.2 (by omega)]
theorem Uz {a:Nat}(hl:s.length=t.length)(h:∀j,j<4->bA s (a+j)=bA t (a+j)):dB s (a:Int)=dB t (a:Int):=by rw[Hh,Hh,hl,show bA s a=bA t a from h 0 (by omega),h 1 (by omega),h 2 (by omega),h 3 (by omega)]
def bR (s:Bytes):Nat:=bif cB s 12==33024 then 18 else 14
def iq (s:Bytes):Nat:=bA s (bR s+9)
def MO (k:Nat):Nat:=bif (k:Int)==6 then 16 else 6
def wZ (s:Bytes):Nat:=bR s+10
def qQ (s:Bytes):Nat:=bR s+20+MO (iq s)
theorem HD (k:Nat):MO k=16/\k=6\/MO k=6/\k≠6:=by grind[MO]
theorem Jq (s:Bytes):bR s=18/\(cB s 12==33024)=true\/bR s=14/\(cB s 12==33024)=false:=by grind[bR]
theorem La (k:Nat)(h:k<256):eU (k:Int)=some (MO k:Int):=by grind[eU,MO]
theorem J1 (s:Bytes)(h:s.length<=10^9):qo s=some ((wZ s:Int),(qQ s:Int)):=by
 unfold qo;rw[AZ s 12 h,ab];have hk:=eI s (bR s+9)
 have core:∀o:Nat,bR s=o->(o=18\/o=14)->(bif decide (ak ((o:Int)+9)<(s.length:Int)) then
  aa (idx s (ak ((o:Int)+9))) λx2=>aa (eU (ak ((UInt8.toNat x2:Int)))) λr3=>some (ak ((o:Int)+10),ak ((ak ((o:Int)+20))+r3))
  else aa (eU 0) λr4=>some (ak ((o:Int)+10),ak ((ak ((o:Int)+20))+r4)))=some ((wZ s:Int),(qQ s:Int)):=by
  intro o ho h2
  have hs:=HD (iq s)
  rw[ai (n:=(o:Int)+9) (by omega) (by omega),ai (n:=(o:Int)+10) (by omega) (by omega),ai (n:=(o:Int)+20) (by omega) (by omega)]
  unfold wZ qQ
  rw[ho]
  by_cases hl:o+9<s.length
  ·obtain⟨x,hx,ex⟩:=jM hl
   rw[jh,af,show(o:Int)+9=((o+9:Nat):Int) by omega,hx,ab,ex,fE (by rw[<-ho];omega),La _ (by rw[<-ho];exact hk),ab,show bA s (o+9)=iq s by unfold iq;rw[ho],ai (by omega) (by omega)]
   congr 1
  ·have hz:iq s=0:=by unfold iq;rw[ho];exact IC
   have h0:eU 0=some (MO 0:Int):=La 0 (by omega)
   rw[gZ,ae,h0,ab,<-hz,ai (by omega) (by omega)]
   congr 1
 rcases Jq s with⟨h1,h2⟩|⟨h1,h2⟩;rw[h2,af];exact core 18 h1 (.inl rfl);rw[h2,ae];exact core 14 h1 (.inr rfl)
theorem Pb (s:Bytes)(h:s.length<=10^9):wS s=some (bif decide (s.length<bR s+46) then(-1, -1) else((wZ s:Int),(qQ s:Int))):=by
 unfold wS;rw[uN s 12 h,ab];have hk:=eI s (bR s+9)
 have core:∀o:Nat,bR s=o->(o=18\/o=14)->(bif decide ((s.length:Int)<ak ((o:Int)+46)) then some ((-1),(-1)) else
  aa (idx s (ak ((o:Int)+9))) λx2=>bif (ak ((UInt8.toNat x2:Int)))==6 then some (ak ((o:Int)+10),ak ((o:Int)+36)) else some (ak ((o:Int)+10),ak ((o:Int)+26)))=some (bif decide (s.length<bR s+46) then(-1, -1) else((wZ s:Int),(qQ s:Int))):=by
  intro o ho h2
  rw[ai (n:=(o:Int)+9) (by omega) (by omega),ai (n:=(o:Int)+10) (by omega) (by omega),ai (n:=(o:Int)+46) (by omega) (by omega),ai (n:=(o:Int)+36) (by omega) (by omega),ai (n:=(o:Int)+26) (by omega) (by omega),ho]
  by_cases hl:s.length<o+46
  ·rw[aw (show(s.length:Int)<(o:Int)+46 by omega),aw hl];rfl
  ·obtain⟨x,hx,ex⟩:=jM (s:=s) (i:=o+9)
   rw[al (show¬(s.length:Int)<(o:Int)+46 by omega),al hl,ae,ae,show(o:Int)+9=((o+9:Nat):Int) by omega,hx,ab,ex,fE (by rw[<-ho];omega),show bA s (o+9)=iq s by unfold iq;rw[ho]]
   unfold wZ qQ MO
   rw[ho]
   cases (iq s:Int)==6 with
   |true=>simp only[af];congr 2
   |false=>simp only[ae];congr 2
 rcases Jq s with⟨h1,h2⟩|⟨h1,h2⟩;rw[h2,af];exact core 18 h1 (.inl rfl);rw[h2,ae];exact core 14 h1 (.inr rfl)
theorem ZI (h:dz a 0 281474976710655=true):(WL a).length=6:=by
 have ha:=bW.1 h;have e:WL a=bQ (Int.fdiv a (2^(qS 32)))++fP (ak (toNat (iD a&&&iD 4294967295))):=by grind[WL,ir,il,jF,ab,bz,de,aP]
 grind[IntKind.bits,Jk,PC,ahC,bW]
theorem UU (h:ej p=true):bR (ec p).1+46<=(ec p).1.length:=by
 have hh:JH p=true:=by simp only[ej,ah]at h;exact h.1
 have hp:=S4 (ipP p).1;have hi:=Du h;unfold ec afw Ul at hi⊢;rw[h,af]at hi⊢;cases he:Bj (p.1,p.2.1,p.2.2.1,2048,pad (ipP p).1)with|false=>rw[he]at hi;cases hi|true=>?_
 simp only[af];simp only[JH,ah]at hh;have m1:=ZI hh.1;have m2:=ZI hh.2.1;have hv:=bW.1 hh.2.2.1;have w1:(bQ 33024).length=2:=rfl;have w3:(bQ 2048).length=2:=rfl;generalize pad (ipP p).1=bd at hp⊢;unfold QK;simp only;generalize WL p.1=M1 at m1⊢;generalize WL p.2.1=M2 at m2⊢;by_cases hc:p.2.2.1>=0;have w2:(bQ p.2.2.1).length=2:=by rw[Jk,bW.2 (by omega)];rfl
 rw[aw hc,af];have hb:bR (((((M1++M2)++bQ 33024)++bQ p.2.2.1)++bQ 2048)++bd)=18:=by
  unfold bR;have e12:cB (((((M1++M2)++bQ 33024)++bQ p.2.2.1)++bQ 2048)++bd) ((12:Nat):Int)=33024:=by rw[xm,aw (by simp only[au];omega),af];rw[iW (by simp only[au];omega),iW (by simp only[au];omega),iW (by simp only[au];omega),ux (by simp only[au];omega)];rw[iW (by simp only[au];omega),iW (by simp only[au];omega),iW (by simp only[au];omega),ux (by simp only[au];omega)];rw[au,m1,m2];rfl
  rw[show(12:Int)=((12:Nat):Int) from rfl,e12];rfl
 rw[hb];simp only[au];omega;rw[al hc,ae];have hb:bR (((M1++M2)++bQ 2048)++bd)=14:=by
  unfold bR;have e12:cB (((M1++M2)++bQ 2048)++bd) ((12:Nat):Int)=2048:=by rw[xm,aw (by simp only[au];omega),af];rw[iW (by simp only[au];omega),ux (by simp only[au];omega)];rw[iW (by simp only[au];omega),ux (by simp only[au];omega)];rw[au,m1,m2];rfl
  rw[show(12:Int)=((12:Nat):Int) from rfl,e12];rfl
 rw[hb];simp only[au];omega
def pH (t:Bytes)(x y:Bytes):Bytes:=wz (wz t (wZ t:Int) x) (qQ t:Int) y
theorem GG (t x y:Bytes):(pH t x y).length=t.length:=by grind[pH,zd]
def GX (p:aM):Bytes×Bool:=bif ej p then(pH (ec p).1 (bQ 0) (bQ 0),true) else([],false)
theorem UT (h:ej p=false):ec p=([],false):=by grind[ec]
theorem aa6 (p:aM):oN p=some (GX p):=by have hl:=AY p;have w0:=bz 0;unfold oN GX pH;rw[Dv,ab];cases h:ej p with|false=>rw[UT h];rfl|true=>rw[Du h];simp only[aj,ae,af,J1 _ (show(ec p).1.length<=10^9 by omega),ab,lV,Eo _ _ _ (show(ec p).1.length<=10^9 by omega) (show(bQ 0).length<=10^9 by omega),Eo _ _ _ (show(wz (ec p).1 (wZ (ec p).1:Int) (bQ 0)).length<=10^9 by rw[zd];omega) (show(bQ 0).length<=10^9 by omega)]
theorem ab7 (p:aM):oX p=some (GX p):=by have hl:=AY p;unfold oX GX pH;rw[DU,ab];cases h:ej p with|false=>rw[UT h];rfl|true=>grind[UU,Du,Pb,ab,il,E5,bQ,zd]
def Fj (s t:Bytes):Prop:=s.length=t.length/\∀i,i<wZ t\/(wZ t+2<=i/\i<qQ t)\/qQ t+2<=i->bA s i=bA t i
theorem zb (t:Bytes):(bR t=14\/bR t=18)/\wZ t=bR t+10/\bR t+26<=qQ t/\qQ t<=bR t+36/\(qQ t=bR t+36/\iq t=6\/qQ t=bR t+26/\iq t≠6):=by grind[Jq,HD,wZ,qQ]
theorem Il (t:Bytes){y:Bytes}(hx:x.length<=2)(hy:y.length<=2):Fj (pH t x y) t:=by have:=zb t;refine⟨GG t x y,λi hi=>?_⟩;grind[pH,ZR]
theorem Fj.body (h:Fj s t):bR s=bR t:=by have:=zb t;unfold bR;have e:cB s ((12:Nat):Int)=cB t ((12:Nat):Int):=Ge h.1 (h.2 _ (by omega)) (h.2 _ (by omega));grind
theorem Fj.kind (h:Fj s t):iq s=iq t:=by have:=zb t;unfold iq;rw[h.body,h.2 _ (by omega)]
theorem Fj.ahJ (h:Fj s t):wZ s=wZ t/\qQ s=qQ t:=by unfold wZ qQ;rw[h.body,h.kind];exact⟨rfl,rfl⟩
theorem Fj.aiE (h:Fj s t):cB s ((bR t+2:Nat):Int)=cB t ((bR t+2:Nat):Int):=by have:=zb t;exact Ge h.1 (h.2 _ (by omega)) (h.2 _ (by omega))
structure TOk (t:Bytes):Prop where
 eth:(fD t).2=true
 bd:(fD t).1.2.2.2.2=t.drop (bR t)
 l1:bR t+46<=t.length
 n1:20+MO (iq t)+2<=cB t ((bR t+2:Nat):Int)
 n2:cB t ((bR t+2:Nat):Int)<=(t.length:Int)-(bR t:Int)
theorem Lv (h:(fD s).2=true):(fD s).1.2.2.2.2=s.drop (bR s)/\18<=s.length/\46<=s.length-bR s/\s.length-bR s<=400:=by
 unfold fD at h⊢;by_cases h8:(s.length:Int)<18;rw[aw h8]at h;cases h;rw[al h8]at h⊢;simp only[ae]at h⊢;rcases Jq s with⟨h1,h2⟩|⟨h1,h2⟩;rw[h2]at h⊢;simp only[af]at h⊢;cases he:Bj (NH s)with|false=>rw[he]at h;cases h|true=>rw[h1];simp only[Bj,ah,bW,NH,bl]at he;simp only[af,NH];refine⟨bX,by omega,by omega,by omega⟩
 rw[h2]at h⊢;simp only[ae]at h⊢;cases he:Bj (Di s)with|false=>rw[he]at h;cases h|true=>rw[h1];simp only[Bj,ah,bW,Di,bl]at he;simp only[af,Di];refine⟨bX,by omega,by omega,by omega⟩
theorem aev (h:(ze s).2=0):(fD s).2=true/\(lG (fD s).1.2.2.2.2).2=true/\ej (ze s).1=true/\ (ti (lG (fD s).1.2.2.2.2).1.2.2.2.2.1 (lG (fD s).1.2.2.2.2).1.2.2.2.2.2.1 (lG (fD s).1.2.2.2.2).1.2.2.2.1 (lG (fD s).1.2.2.2.2).1.2.2.2.2.2.2).2=true:=by grind[ze]
theorem aep {b:Bytes}(h:(lG b).2=true):20<=cB b 2/\cB b 2<=(b.length:Int)/\(lG b).1=IY b:=by grind[lG]
theorem abF {b k:Int}(h:(ti a b k s).2=true):k=6/\20<=s.length\/k=17/\8<=s.length:=by grind[ti]
theorem aay (hl:s.length=t.length)(h:∀i,i<18->bA s i=bA t i)(hs:(fD s).2=true):(fD t).2=true:=by
 have g16:∀a,a+2<=18->cB s ((a:Nat):Int)=cB t ((a:Nat):Int):=λa ha=>Ge hl (h _ (by omega)) (h _ (by omega));have g32:∀a,a+4<=18->dB s ((a:Nat):Int)=dB t ((a:Nat):Int):=λa ha=>Uz hl (λj hj=>h _ (by omega));have e0:Ie s 0=Ie t 0:=by unfold Ie;rw[show(0:Int)=((0:Nat):Int) from rfl,g16 0 (by omega),show((0:Nat):Int)+2=((2:Nat):Int) from rfl,g32 2 (by omega)]
 have e6:Ie s 6=Ie t 6:=by unfold Ie;rw[show(6:Int)=((6:Nat):Int) from rfl,g16 6 (by omega),show((6:Nat):Int)+2=((8:Nat):Int) from rfl,g32 8 (by omega)]
 grind[cB,Bj,NH,Di,fD]
theorem ahR (ha:Fj s t)(h:(ze s).2=0):TOk t:=by
 have hp:=zb t;obtain⟨h1,h2,_,h4⟩:=aev h;have he:=Lv h1;rw[he.1]at h2 h4;have hi:=aep h2;have hs:=abF h4;rw[hi.2.2]at hs;have e1:(fD t).2=true:=aay ha.1 (λi hi=>ha.2 i (by omega)) h1;have e2:=Lv e1;have en:cB (s.drop (bR s)) 2=cB t ((bR t+2:Nat):Int):=by have:cB (s.drop (bR s)) ((2:Nat):Int)=cB s ((bR s+2:Nat):Int):=NW;rw[show(2:Int)=((2:Nat):Int) from rfl,this,ha.body,ha.aiE]
 have ek:(IY (s.drop (bR s))).2.2.2.1=(iq t:Int):=by show(bA (s.drop (bR s)) 9:Int)=_;rw[nI,<-ha.kind];rfl
 have eg:(IY (s.drop (bR s))).2.2.2.2.2.2.length=(cB t ((bR t+2:Nat):Int)).toNat-20:=by show(((s.drop (bR s)).take (cB (s.drop (bR s)) 2).toNat).drop 20).length=_;grind
 rw[ek,eg]at hs;rw[en]at hi;have hn:=hi.2.1;rw[bl,ha.1,ha.body]at hn;have hk:=HD (iq t);exact⟨e1,e2.1,by omega,by omega,by omega⟩
theorem acd (h:(GX p).1=t)(hs:ej p=true)(ht:TOk t):cB t (wZ t:Int)=0/\cB t (qQ t:Int)=0:=by
 unfold GX at h;rw[hs]at h;simp only[af]at h;have w0:(bQ 0).length=2:=rfl;have ha:Fj (pH (ec p).1 (bQ 0) (bQ 0)) (ec p).1:=Il _ (by omega) (by omega);rw[h]at ha;have hp:=zb t;have Hk:=ha.ahJ;have hl:=ht.l1;have zT:=ha.1;have D1:=ht.n1;have B6:=ht.n2;have hk:=HD (iq t);have hB:qQ t+2<=t.length:=by omega
 have b0:bA (bQ 0) 0=0:=rfl;have b1:bA (bQ 0) 1=0:=rfl;rw[xm,xm,jh,aw hB,af,af];have eB:∀j,j<2->bA t (qQ t+j)=bA (bQ 0) j:=by intro j hj;rw[<-h];unfold pH;rw[show qQ (wz (wz (ec p).1 (wZ (ec p).1:Int) (bQ 0)) (qQ (ec p).1:Int) (bQ 0))=qQ (ec p).1 from by have:=Hk.2;rw[<-h]at this;exact this];simp_all[ZQ,zd]
 have eA:∀j,j<2->bA t (wZ t+j)=bA (bQ 0) j:=by intro j hj;rw[<-h];unfold pH;rw[show wZ (wz (wz (ec p).1 (wZ (ec p).1:Int) (bQ 0)) (qQ (ec p).1:Int) (bQ 0))=wZ (ec p).1 from by have:=Hk.1;rw[<-h]at this;exact this];simp(disch:=omega)[ZR,ZQ]
 grind
def td (t:Bytes):Int:=cB t ((bR t+2:Nat):Int)
def MQ (t:Bytes):Int:=Sd ((t.take (bR t+20)).drop (bR t))
def Qh (t:Bytes):Bytes:=(t.take (bR t+(td t).toNat)).drop (bR t+20)
def afz (t:Bytes):Bytes:=xr (dB t ((bR t+12:Nat):Int)) (dB t ((bR t+16:Nat):Int)) (iq t:Int) (td t-20)
def KH (t:Bytes):Int:=bif ((iq t:Int)==17)&&(Sd (afz t++Qh t)==0) then 65535 else Sd (afz t++Qh t)
def Up (t s:Bytes):Bytes×Bool:=bif ((ze s).2==0)&&((GX (ze s).1).1==t) then ec (ze s).1 else([],false)
def Dl (t:Bytes):Bytes×Bool:=Up t (pH t (bQ (MQ t)) (bQ (KH t)))
theorem Ab (h:¬(TOk t/\cB t (wZ t:Int)=0/\cB t (qQ t:Int)=0)):Dl t=([],false):=by have ha:Fj (pH t (bQ (MQ t)) (bQ (KH t))) t:=Il t (bz _) (bz _);grind[Dl,Up,ze,ahR,acd]
theorem TB (t:Bytes)(o n:Nat):(t.drop o).take n=(t.take (o+n)).drop o:=by grind[List.drop_take]
theorem Mf (h1:bR t+20<=t.length)(h2:20<=td t)(h3:td t<=(t.length:Int))(h4:t.length<=10^9):Ax (dB t ((bR t+12:Nat):Int)) (dB t ((bR t+16:Nat):Int)) (iq t:Int) (td t-20)=true:=by have a1:=Dq (s:=t) (a:=((bR t+12:Nat):Int));have a2:=Dq (s:=t) (a:=((bR t+16:Nat):Int));have a3:=eI t (bR t+9);have a4:=Dp (s:=t) (a:=((bR t+2:Nat):Int));grind[Ax,bW,iq,td]
theorem abV (t:Bytes)(hl:t.length<=10^9):ym t=some (Dl t):=by
 have hp:=zb t
 have hk:=HD (iq t)
 have WE:iq t<256:=eI t (bR t+9)
 unfold ym
 rw[Pb t hl,ab]
 by_cases h1:t.length<bR t+46
 ·rw[aw h1,Ab λh=>by have:=h.1.l1;omega];rfl
 rw[al h1]
 simp only[ae]
 rw[al (show¬(wZ t:Int)<0 by omega)]
 simp only[ae,uN t _ hl,ab]
 cases h2:cB t (wZ t:Int) !=0 with
 |true=>simp_all[Ab]
 |false=>
 simp only[ae,ab]
 cases h3:cB t (qQ t:Int) !=0 with
 |true=>grind[Ab]
 |false=>
 have w1:ak ((wZ t:Int)-10)=(bR t:Int):=by grind[ai]
 have w2:ak ((bR t:Int)+2)=((bR t+2:Nat):Int):=by grind[ai]
 have w9:ak ((bR t:Int)+9)=((bR t+9:Nat):Int):=by grind[ai]
 have w12:ak ((bR t:Int)+12)=((bR t+12:Nat):Int):=by grind[ai]
 have w16:ak ((bR t:Int)+16)=((bR t+16:Nat):Int):=by grind[ai]
 have w20:ak ((bR t:Int)+20)=((bR t+20:Nat):Int):=by grind[ai]
 have wb:ak ((qQ t:Int)+2)=(qQ t:Int)+2:=by grind[ai]
 have wc:ak ((qQ t:Int)+2-(bR t:Int))=(qQ t:Int)+2-(bR t:Int):=by grind[ai]
 have wl:ak ((t.length:Int)-(bR t:Int))=(t.length:Int)-(bR t:Int):=by grind[ai]
 obtain⟨x,hx,ex⟩:=jM (s:=t) (i:=bR t+9)
 have a4:=Dp (s:=t) (a:=((bR t+2:Nat):Int))
 simp only[ae,ab,w1,w2,w9,hx,wb,wc,wl]
 rw[show cB t ((bR t+2:Nat):Int)=td t from rfl]at a4⊢
 by_cases h4:td t<(qQ t:Int)+2-(bR t:Int)
 ·rw[aw h4,Ab λh=>by have:=h.1.n1;grind[td]];rfl
 rw[al h4]
 simp only[ae,ab]
 by_cases h5:td t>(t.length:Int)-(bR t:Int)
 ·rw[aw h5,Ab λh=>by have:=h.1.n2;grind[td]];rfl
 rw[al h5]
 obtain⟨n,hn⟩:=aF a4.1
 have wn:ak ((bR t:Int)+td t)=((bR t+n:Nat):Int):=by grind[ai]
 have wm:ak (td t-20)=td t-20:=by grind[ai]
 have s1:sub t (bR t:Int) ((bR t+20:Nat):Int)=some ((t.take (bR t+20)).drop (bR t)):=by grind[KG,aA]
 have s2:sub t ((bR t+20:Nat):Int) ((bR t+n:Nat):Int)=some (Qh t):=by grind[KG,aA,Qh]
 have hps:=Hu (dB t ((bR t+12:Nat):Int)) (dB t ((bR t+16:Nat):Int)) (iq t:Int) (td t-20)
 have Gp:(Qh t).length<=65535:=by unfold Qh;grind
 have hk2:ak ((UInt8.toNat x:Int))=(iq t:Int):=by grind[fE,iq]
 simp only[ae,ab,w12,w16,w20,wn,wm,s1,s2,Bb t _ hl,hk2,E4,Mf (show bR t+20<=t.length by omega) (show 20<=td t by omega) (show td t<=(t.length:Int) by omega) hl,af]
 rw[show xr (dB t ((bR t+12:Nat):Int)) (dB t ((bR t+16:Nat):Int)) (iq t:Int) (td t-20)=afz t from rfl]at hps⊢
 rw[Kr _ (by grind),ab,aP (by omega),Kr _ (by rw[au];omega),ab]
 rw[show Sd ((t.take (bR t+20)).drop (bR t))=MQ t from rfl]
 have kJ:∀y:Int,KH t=y->(aa (bN (MQ t)) λOV=>aa (ei t (wZ t:Int) OV) λWM=>aa (bN y) λr18=>aa (ei WM (qQ t:Int) r18) λr19=>aa (jg r19) λr20=>
  bif r20.2 !=0 then some (([]:Bytes),false) else aa (oX r20.1) λr21=>bif !(r21.1==t) then some (([]:Bytes),false) else aa (fX r20.1) λr22=>some r22)=some (Dl t):=by
  intro y hy
  subst hy
  rw[il,ab,E5 t _ _ hl,ab,il,ab,E5 _ _ _ (by rw[zd];exact hl),ab]
  have hlen:=GG t (bQ (MQ t)) (bQ (KH t))
  unfold Dl
  rw[show wz (wz t (wZ t:Int) (bQ (MQ t))) (qQ t:Int) (bQ (KH t))=pH t (bQ (MQ t)) (bQ (KH t)) from rfl]
  grind[LG,ab,ab7,DU,Up]
 grind[KH,ab]
theorem aaR (t:Bytes)(hl:t.length<=10^9):xK t=some (Dl t):=by
 have hp:=zb t
 have hk:=HD (iq t)
 have WE:iq t<256:=eI t (bR t+9)
 have Gi:=ET t
 unfold xK
 rw[JW t hl,ab,AZ _ _ (by omega),ab]
 cases h1:(fD t).2 with
 |false=>rw[Ab λh=>by have:=h.1.eth;grind];rfl
 |true=>
 have he:=Lv h1
 rw[he.1]
 simp only[aj,ae,ab]
 have en:cB (t.drop (bR t)) 2=td t:=NW (a:=2)
 rw[en]
 by_cases h4:td t<20
 ·rw[aw h4,Ab λh=>by have:=h.1.n1;grind[td]];rfl
 rw[al h4]
 simp only[ae,ab]
 by_cases h5:td t>((t.drop (bR t)).length:Int)
 ·rw[aw h5,Ab λh=>by have:=h.1.n2;grind[td]];rfl
 rw[al h5]
 rw[bl]at h5
 have hdl:(t.drop (bR t)).length=t.length-bR t:=bl ..
 obtain⟨n,hn⟩:=aF (show 0<=td t by omega)
 obtain⟨x,hx,ex⟩:=jM (s:=t.drop (bR t)) (i:=9)
 have hx9:idx (t.drop (bR t)) 9=some x:=hx
 have s1:sub (t.drop (bR t)) 0 20=some ((t.take (bR t+20)).drop (bR t)):=by grind[HG]
 have s2:sub (t.drop (bR t)) 20 (td t)=some (Qh t):=by rw[KG (l:=t.drop (bR t)) 20 (a:=20) rfl (by omega) (by omega),hn,aA,TB,eo];grind[Qh]
 have hps:=Hu (dB t ((bR t+12:Nat):Int)) (dB t ((bR t+16:Nat):Int)) (iq t:Int) (td t-20)
 have Gp:((Qh t).length:Int)=td t-20:=by grind[Qh]
 have hk2:ak ((UInt8.toNat x:Int))=(iq t:Int):=by grind[fE,bA,iq]
 have g12:dB (t.drop (bR t)) 12=dB t ((bR t+12:Nat):Int):=NX (a:=12)
 have g16:dB (t.drop (bR t)) 16=dB t ((bR t+16:Nat):Int):=NX (a:=16)
 have hw:ak ((MO (iq t):Int)+2)=(MO (iq t):Int)+2:=by grind[ai]
 simp only[ae,ab,J1 t hl,s1,s2,hx9,A8 _ _ (show(t.drop (bR t)).length<=10^9 by omega),hk2,Ok,Gp,g12,g16,Mf (show bR t+20<=t.length by omega) (show 20<=td t by omega) (show td t<=(t.length:Int) by omega) hl,af,aj,La _ WE,hw]
 rw[show xr (dB t ((bR t+12:Nat):Int)) (dB t ((bR t+16:Nat):Int)) (iq t:Int) (td t-20)=afz t from rfl]at hps⊢
 by_cases h6:(MO (iq t):Int)+2>td t-20
 ·rw[aw h6,Ab λh=>by have:=h.1.n1;grind[td]];rfl
 rw[al h6]
 simp only[ae]
 have hck:((t.take (bR t+20)).drop (bR t)).length<=10^9:=by grind
 rw[aP (by omega),M3 _ (by rw[au];omega),ab]
 have kJ:∀y:Int,KH t=y->(aa (iR ((t.take (bR t+20)).drop (bR t))) λr25=>aa (cd r25) λr26=>aa (ft t (wZ t:Int) r26) λr27=>aa (cd y) λr28=>aa (ft r27 (qQ t:Int) r28) λr29=>aa (jc r29) λr30=>aa (oN r30.1) λr31=>
  aa (bif r30.2 !=0 then some true else bif !r31.2 then some true else some (!(r31.1==t))) λq32=>bif q32 then some (([]:Bytes),false) else aa (fW r30.1) λr33=>some r33)=some (Dl t):=by
  intro y hy
  subst hy
  have b1:=bz (MQ t)
  have b2:=bz (KH t)
  rw[M3 _ hck,ab,show Sd ((t.take (bR t+20)).drop (bR t))=MQ t from rfl]
  rw[lV,ab,Eo t _ _ hl,ab,lV,ab,Eo _ _ _ (by rw[zd];exact hl),ab]
  have hlen:=GG t (bQ (MQ t)) (bQ (KH t))
  unfold Dl
  rw[show wz (wz t (wZ t:Int) (bQ (MQ t))) (qQ t:Int) (bQ (KH t))=pH t (bQ (MQ t)) (bQ (KH t)) from rfl]
  grind[K9,ab,aa6,Dv,Up,GX]
 cases h8:(iq t:Int)==17 with
 |false=>simp_all[KH]
 |true=>
  grind[ab,KH]
theorem QL (t:Bytes):(Dl t).1.length<=378:=by grind[Dl,Up,AY]
theorem ID (l:aq aL)(m:cy)(d:Int):∀(n:Nat)(acc:aq Da)(r:xB),(zw l m d n acc r).1.length<=acc.length+n
 |0,acc,r=>bc _
 |n+1,acc,r=>by
  rw[zw];cases !(bD l m d r).2.2|| !(ee (bD l m d r).1).2;case true=>exact fB _
  cases Sk (ee (bD l m d r).1).1 with|true=>grind|false=>have:=ID l m d n (acc++[(ee (bD l m d r).1).1]) (bD l m d r).2.1;grind
theorem Ys (h:gx r=true):gx (r.1,r.2.1,r.2.2.2,r.2.2.2)=true/\dh (r.1,r.2.1,r.2.2.2,r.2.2.2)=0:=by grind[gx,dh,Int.zero_emod,bW]
theorem LP (l:aq aL)(m:cy)(d:Int):∀(n:Nat)(acc:aq Da)(r:xB),gx r=true->(dh r).toNat=n->
 gx (zw l m d n acc r).2.1=true/\dh (zw l m d n acc r).2.1<=dh r/\(0<dh r->dh (zw l m d n acc r).2.1<dh r)
 |0,acc,r,hb,hu=>⟨hb,Int.le_refl _,λh=>by omega⟩
 |n+1,acc,r,hb,hu=>by have hk:=B2 (l:=l) (m:=m) (d:=d) (r:=r);have he:=Ys hb;rw[zw];cases hc: !(bD l m d r).2.2|| !(ee (bD l m d r).1).2 with|true=>grind|false=>simp only[dR,eY]at hc;have hk:=hk hc.1;cases Sk (ee (bD l m d r).1).1 with|true=>grind|false=>have:=LP l m d n (acc++[(ee (bD l m d r).1).1]) (bD l m d r).2.1 hk.1 (by omega);grind
def jX (l:aq aL)(m:cy)(d:Int)(r:xB):xB×cy×Int:=
 bif !gx r||(dh r==0) then(r,[],0) else
 bif !(eD l m d r).2.2|| !(iK (eD l m d r).1).2.2.2 then((eD l m d r).2.1,[],2) else
 bif !(xE l m d (iK (eD l m d r).1).1).2||(!(Dl (xE l m d (iK (eD l m d r).1).1).1).2||((ze (Dl (xE l m d (iK (eD l m d r).1).1).1).1).2 !=0)) then((eD l m d r).2.1,[],2) else
 ((eD l m d r).2.1,Rx (ze (Dl (xE l m d (iK (eD l m d r).1).1).1).1).1 (iK (eD l m d r).1).2.1,1)
theorem XN (l:aq aL)(m:cy)(d:Int)(r:xB)(hl:l.length<=10^9)(hm:m.length<=10^9):pz l m d r=some (jX l m d r):=by
 unfold pz jX;simp only[Dw,Dx,ab,P6 l m d r hl hm];cases hb:gx r;rfl;cases dh r==0;case true=>rfl
 have hu:=lH hb;have hcl:(eD l m d r).1.length<=16:=by unfold eD;cases !gx r||(dh r==0)with|true=>exact fB _|false=>have:=ID l m d (dh r).toNat [] r;grind
 simp only[aj,ae,ab,cD];generalize eD l m d r=c at hcl⊢;cases c.2.2;rfl;simp only[aj,ae,ab,cR,SP c.1 (show c.1.length<=10^9 by omega)];have hpo:=Me (l:=c.1);grind[DK,LY,ab,XK,QL,aaR,K9,adR]
theorem YE (l:aq aL)(m:cy)(d:Int)(r:xB)(hl:l.length<=10^9)(hm:m.length<=10^9):pQ l m d r=some (jX l m d r):=by
 unfold pQ jX;simp only[DV,DW,ab,Ql l m d r hl hm];cases hb:gx r;rfl;cases dh r==0;case true=>rfl
 have hu:=lH hb;have hcl:(eD l m d r).1.length<=16:=by unfold eD;cases !gx r||(dh r==0)with|true=>exact fB _|false=>have:=ID l m d (dh r).toNat [] r;grind
 simp only[aj,ae,ab,cD];generalize eD l m d r=c at hcl⊢;simp only[Tq c.1 (show c.1.length<=10^9 by omega),ab];cases c.2.2;rfl;simp only[aj,ae,ab,cR];have hpo:=Me (l:=c.1);generalize iK c.1=p at hpo⊢;cases hp:p.2.2.2;rfl;have hpo:=hpo hp;have h16:=(DK hpo.1).1;have hg:=LY l m d p.1;simp only[aj,ae,ab,cR,YB l m d p.1 hl hm (show p.1.length<=10^9 by omega) (λq hq=>Int.le_trans (hpo.2 q hq) (by omega))];grind[QL,abV,ab,LG,aeT]
theorem Lq (l:aq aL)(m:cy)(d:Int)(r:xB): ((jX l m d r).2.2=0->(jX l m d r).1=r)/\((jX l m d r).2.2≠0->0<dh r/\gx r=true/\gx (jX l m d r).1=true/\dh (jX l m d r).1<dh r)/\(jX l m d r).2.1.length<=320/\(∀x∈(jX l m d r).2.1,x.length<=382)/\((jX l m d r).2.2=0\/(jX l m d r).2.2=1\/(jX l m d r).2.2=2):=by
 unfold jX;cases hc: !gx r||(dh r==0)with
 |true=>grind
 |false=>
  simp only[dR,eY,cM]at hc;have hu:=lH hc.1;have hch:gx (eD l m d r).2.1=true/\dh (eD l m d r).2.1<dh r:=by have:=LP l m d (dh r).toNat [] r hc.1 rfl;grind[eD]
  grind[abQ]
def pg (l:aq aL)(m:cy)(d:Int):Nat->cy->Nat->Nat->xB->xB×cy×Int×Int
 |0,fr,dn,bd,r=>(r,fr,(dn:Int),(bd:Int))
 |n+1,fr,dn,bd,r=>
  bif (jX l m d r).2.2==0 then(r,fr,(dn:Int),(bd:Int)) else
  bif (jX l m d r).2.2==1 then pg l m d n (fr++(jX l m d r).2.1) (dn+1) bd (jX l m d r).1 else
  pg l m d n (fr++(jX l m d r).2.1) dn (bd+1) (jX l m d r).1
def nE (l:aq aL)(m:cy)(d:Int)(r:xB):xB×cy×Int×Int:=pg l m d 17 [] 0 0 r
theorem IW (l:aq aL)(m:cy)(d:Int)(hl:l.length<=10^9)(hm:m.length<=10^9):∀(n:Nat)(fr:cy)(dn bd:Nat)(r:xB)(f:Nat),n<f->(gx r=true->dh r<n)->0<n->fr.length+320*n<=10000->dn+bd+n<=1000->
 aJ (mB (λy2 y3 y4 _ _ _ _ y9=>some (y9,y2,y3,y4)) l d ([]:cy) 0 0 m (0,0,0,0)) f (fr,(dn:Int),(bd:Int),r)=some (pg l m d n fr dn bd r)
 |0,fr,dn,bd,r,f,_,_,h0,_,_=>by omega
 |n+1,fr,dn,bd,r,0,hf,_,_,_,_=>by omega
 |n+1,fr,dn,bd,r,f+1,hf,hr,_,gu,hc=>by have ok:=Lq l m d r;rw[aJ,pg];simp only[mB,XN l m d r hl hm,ab];generalize jX l m d r=x at ok⊢;cases h0:x.2.2==0 with|true=>grind|false=>have hk:=ok.2.1 (by simpa using h0);have hu:=hr hk.2.1;have hu2:=(lH hk.2.2.1).1;simp only[ae];cases x.2.2==1 with|true=>simp only[af];rw[aP (by omega),ai (by omega) (by omega)];exact IW l m d hl hm n _ (dn+1) bd _ f (by omega) (λ_=>by omega) (by omega) (by rw[au];omega) (by omega)|false=>simp only[ae];rw[aP (by omega),ai (by omega) (by omega)];exact IW l m d hl hm n _ dn (bd+1) _ f (by omega) (λ_=>by omega) (by omega) (by rw[au];omega) (by omega)
theorem Ja (l:aq aL)(m:cy)(d:Int)(hl:l.length<=10^9)(hm:m.length<=10^9):∀(n:Nat)(fr:cy)(dn bd:Nat)(r:xB)(f:Nat),n<f->(gx r=true->dh r<n)->0<n->fr.length+320*n<=10000->dn+bd+n<=1000->
 aJ (mJ (λy2 y3 y4 _ _ _ _ y9=>some (y9,y2,y3,y4)) l d ([]:cy) 0 0 m (0,0,0,0)) f (fr,(dn:Int),(bd:Int),r)=some (pg l m d n fr dn bd r)
 |0,fr,dn,bd,r,f,_,_,h0,_,_=>by omega
 |n+1,fr,dn,bd,r,0,hf,_,_,_,_=>by omega
 |n+1,fr,dn,bd,r,f+1,hf,hr,_,gu,hc=>by have ok:=Lq l m d r;rw[aJ,pg];simp only[mJ,YE l m d r hl hm,ab];generalize jX l m d r=x at ok⊢;cases h0:x.2.2==0 with|true=>rfl|false=>have hk:=ok.2.1 (by simpa using h0);have hu:=hr hk.2.1;have hu2:=(lH hk.2.2.1).1;simp only[ae];rw[aP (by omega)];cases x.2.2==1 with|true=>simp only[af];rw[ai (by omega) (by omega)];exact Ja l m d hl hm n _ (dn+1) bd _ f (by omega) (λ_=>by omega) (by omega) (by rw[au];omega) (by omega)|false=>simp only[ae];rw[ai (by omega) (by omega)];exact Ja l m d hl hm n _ dn (bd+1) _ f (by omega) (λ_=>by omega) (by omega) (by rw[au];omega) (by omega)
theorem aa7 (l:aq aL)(m:cy)(d:Int)(r:xB)(hl:l.length<=10^9)(hm:m.length<=10^9):rp l m d r=some (nE l m d r):=by have Fq:=dX;unfold rp;exact IW l m d hl hm 17 [] 0 0 r fuel (by omega) (λh=>by have:=(lH h).2;omega) (by omega) (by simp) (by omega)
theorem ab8 (l:aq aL)(m:cy)(d:Int)(r:xB)(hl:l.length<=10^9)(hm:m.length<=10^9):sj l m d r=some (nE l m d r):=by have Fq:=dX;unfold sj;exact Ja l m d hl hm 17 [] 0 0 r fuel (by omega) (λh=>by have:=(lH h).2;omega) (by omega) (by simp) (by omega)
theorem Bd (l:aq aL)(m:cy)(d:Int):∀(n:Nat)(fr:cy)(dn bd:Nat)(r:xB),(∀x∈fr,x.length<=382)->
 (pg l m d n fr dn bd r).2.1.length<=fr.length+320*n/\(∀x∈(pg l m d n fr dn bd r).2.1,x.length<=382)/\0<=(pg l m d n fr dn bd r).2.2.1/\(pg l m d n fr dn bd r).2.2.1<=(dn+n:Nat)/\0<=(pg l m d n fr dn bd r).2.2.2/\(pg l m d n fr dn bd r).2.2.2<=(bd+n:Nat)
 |0,fr,dn,bd,r,h=>⟨bc _,h,by show(0:Int)<=(dn:Int);omega,by show(dn:Int)<=_;omega,by show(0:Int)<=(bd:Int);omega,by show(bd:Int)<=_;omega⟩
 |n+1,fr,dn,bd,r,h=>by
  have ok:=Lq l m d r;rw[pg];generalize jX l m d r=x at ok⊢;have h2:∀y∈fr++x.2.1,y.length<=382:=λy hy=>by grind
  cases x.2.2==0 with|true=>grind|false=>cases x.2.2==1 with|true=>have i:=Bd l m d n (fr++x.2.1) (dn+1) bd x.1 h2;grind|false=>have i:=Bd l m d n (fr++x.2.1) dn (bd+1) x.1 h2;grind
structure Qu (n:Nat) (h:Host):Prop where
 z:cr n fF h
 t:h.2.2.1.2.1.2.2.2.length+(cK h.2.2.1.2.2.1).length<=n
theorem Qu.mono {n m:Nat}(k:Qu n h)(hn:n<=m:=by omega):Qu m h:=⟨k.z.mono hn,bf k.t hn⟩
theorem Qu.sz {n:Nat}(k:Qu n h)(hn:n<=10^9:=by omega):R3 h:=by have z:cr 1000000000 fF h:=k.z.mono hn;exact⟨z.1.1,z.2.1.1,z.2.2.1.2.2.1.1,bf k.t hn,z.2.2.2.2.2.2.2.1.2.2.1,z.2.2.2.2.2.2.2.2.1.1.1,z.2.2.2.2.2.2.2.2.1.2.1.1,z.2.2.2.2.2.2.2.2.1.2.2.2.1,λp hp=>(z.2.2.2.2.1.2 p hp).2.2.2.1⟩
theorem Qu.of (k:kK fF h<=1048576):Qu 1048576 h:=by refine⟨HH k,?_⟩;have hb:=Zc h.2.2.1.2.2.1;simp_all[kK];omega
def uB (p:ga):aq hH->ga
 |[]=>p
 |x::l=>uB (Ss p x.2.2).1 l
theorem Hi:∀(l:aq hH)(p:ga),(uB p l).2.2.2.length<=p.2.2.2.length+(cK l).length
 |[],p=>by simp[uB]
 |x::l,p=>by have h1:=ac2 p x.2.2;have h2:=Hi l (Ss p x.2.2).1;grind[uB,cK]
theorem K6:∀(l:aq hH)(p:ga)(x:hH),uB p (l++[x])=(Ss (uB p l) x.2.2).1
 |[],p,x=>rfl
 |y::l,p,x=>by rw[List.cons_append,uB,uB,K6 l]
theorem Nt (a b:aq hH):(cK (a++b)).length=(cK a).length+(cK b).length:=by grind[cK]
theorem Nu (l:aq hH)(n:Nat):(cK (l.take n)).length+(cK (l.drop n)).length=(cK l).length:=by rw[<-Nt,cg]
def mQ (t:dk)(n:Int):dk×cG:=
 bif txB t&&dz n 0 (t.2.2.1.length:Int) then((t.1,uB t.2.1 (t.2.2.1.take n.toNat),t.2.2.1.drop n.toNat,t.2.2.2),(t.2.2.1.take n.toNat).map (·.1)) else(t,[])
theorem ZW {l:aq hH}(h:(cK l).length<=10^9:=by omega):∀x∈l,x.2.2.length<=10^9:=by intro x hx;induction l with|nil=>cases hx|cons y l ih=>grind[cK]
theorem SL (t:dk)(n:Int)(hw:t.2.2.1.length<=10^9)(hs:t.2.1.2.2.2.length+(cK t.2.2.1).length<=10^9):ll t n=some (mQ t n):=by
 have hx:=ZW (l:=t.2.2.1);unfold ll mQ;rw[Og t ⟨by omega,hw,hx⟩,ab,adS t hw hs];simp only[ab,cQ];cases txB t;rfl;cases hn:dz n 0 (t.2.2.1.length:Int);rfl;have h:=bW.1 hn;obtain⟨n,rfl⟩:=aF h.1;have hl:n<=t.2.2.1.length:=by omega
 simp only[aj,ae,ab,cW,af,aA];rw[HG (by omega) (by omega),ab,aA];have htl:(t.2.2.1.take n).length=n:=by rw[bm];omega
 rw[htl];refine dc (λi=>(((t.2.2.1.take i).map (·.1),(i:Int),t.1,uB t.2.1 (t.2.2.1.take i),t.2.2):cG×Int×dk)) n (by omega) (λi nx hi=>?_) (λnx=>?_);have QT:i<(t.2.2.1.take n).length:=by omega
 have hi3:i<t.2.2.1.length:=by omega
 have e1:(t.2.2.1.take n)[i]=t.2.2.1[i]:=List.getElem_take ..;have g1:=Hi (t.2.2.1.take i) t.2.1;have g2:=Nu t.2.2.1 (i+1);have g3:(cK (t.2.2.1.take (i+1))).length=(cK (t.2.2.1.take i)).length+t.2.2.1[i].2.2.length:=by rw[aU hi3,Nt];simp[cK]
 simp only[jn];rw[jh,af,aY QT,e1,ab,U3 _ _ (by omega),ab,aP (by simp only[cn,bm,bw];omega),ai (by omega) (by omega),aU hi3,K6,List.map_append];rfl;simp only[jn];rw[gZ,ae,wY (l:=t.2.2.1) n hl rfl,ab,JR _ (by rw[bl];omega) (λx zU=>hx x (List.mem_of_mem_drop zU)),ab]
theorem Tk (t:dk)(n:Int)(hw:t.2.2.1.length<=10^9)(hs:t.2.1.2.2.2.length+(cK t.2.2.1).length<=10^9):lJ t n=some (mQ t n):=by
 have hx:=ZW (l:=t.2.2.1);unfold lJ mQ;rw[O8 t ⟨by omega,hw,hx⟩,ab,aeU t hw hs];simp only[ab,cx];cases txB t;rfl;cases hn:dz n 0 (t.2.2.1.length:Int);rfl;have h:=bW.1 hn;obtain⟨n,rfl⟩:=aF h.1;have hl:n<=t.2.2.1.length:=by omega
 simp only[aj,ae,ab,cW,af,aA];refine dc (λi=>(((t.2.2.1.take i).map (·.1),(i:Int),t.1,uB t.2.1 (t.2.2.1.take i),t.2.2):cG×Int×dk)) n (by omega) (λi nx hi=>?_) (λnx=>?_);have hi3:i<t.2.2.1.length:=by omega
 have g1:=Hi (t.2.2.1.take i) t.2.1;have g2:=Nu t.2.2.1 (i+1);have g3:(cK (t.2.2.1.take (i+1))).length=(cK (t.2.2.1.take i)).length+t.2.2.1[i].2.2.length:=by rw[aU hi3,Nt];simp[cK]
 simp only[js];rw[jh,af,aY hi3,ab,aP (by simp only[cn,bm,bw];omega),ab,VY _ _ (by omega),ab,ai (by omega) (by omega),aU hi3,K6,List.map_append];rfl;simp only[js];rw[gZ,ae,wY (l:=t.2.2.1) n hl rfl,ab]
theorem QC (n:Int):∀l:aq hH,l.all (lI n)=true->(l.length:Int)<=jl l
 |[],_=>by simp[jl]
 |x::l,h=>by simp only[bC,ah]at h;have:=QC n l h.2;grind[lI,bW,jl]
theorem YZ {t:dk}(h:txB t=true):t.2.2.1.length<=16:=by unfold txB at h;simp only[ah,bE]at h;have h1:=QC _ _ h.2.2.2.1;have h2:=(CK h.1).2.2.1;omega
theorem Eb {t:dk}(n:Int)(z:cr k uV t)(hs:t.2.1.2.2.2.length+(cK t.2.2.1).length<=k): cr k uV (mQ t n).1/\(mQ t n).1.2.1.2.2.2.length+(cK (mQ t n).1.2.2.1).length<=k/\(mQ t n).2.length<=16:=by unfold mQ;cases h:txB t&&dz n 0 (t.2.2.1.length:Int)with|false=>exact⟨z,hs,fB _⟩|true=>simp only[ah]at h;have h16:=YZ h.1;have g1:=Hi (t.2.2.1.take n.toNat) t.2.1;have g2:=Nu t.2.2.1 n.toNat;have hw:t.2.2.1.length<=k:=z.2.2.1.1;refine⟨⟨z.1,⟨bX,bX,bX,?_,λ_ _=>trivial⟩,⟨?_,λx hx=>z.2.2.1.2 x (List.mem_of_mem_drop hx)⟩,z.2.2.2⟩,?_,?_⟩;show(uB t.2.1 (t.2.2.1.take n.toNat)).2.2.2.length<=k;omega;show(t.2.2.1.drop n.toNat).length<=k;rw[bl];omega;show(uB t.2.1 (t.2.2.1.take n.toNat)).2.2.2.length+(cK (t.2.2.1.drop n.toNat)).length<=k;omega;show((t.2.2.1.take n.toNat).map (·.1)).length<=16;rw[cn,bm];omega
theorem Lh {n:Nat}{t:CT}{l q:aq t.D}(z:cr n (.sl t) l)(hq:∀y∈q,cr n t y)(hk:q.length<=k):cr (n+k) (.sl t) (l++q):=by refine⟨?_,λy hy=>?_⟩;show(l++q).length<=n+k;have:=z.1;rw[au];omega;rcases ay.1 hy with h|h;exact(z.2 y h).mono;exact(hq y h).mono
def gW (h:Host):Host:=bif vd h then
    (h.1,h.2.1,(mQ ((nE h.2.1 h.1 0 h.2.2.1.1).1,h.2.2.1.2) (if(h.2.2.1.2.2.1.length:Int)<ak ((nE h.2.1 h.1 0 h.2.2.1.1).2.2.1+(nE h.2.1 h.1 0 h.2.2.1.1).2.2.2) then(h.2.2.1.2.2.1.length:Int) else ak ((nE h.2.1 h.1 0 h.2.2.1.1).2.2.1+(nE h.2.1 h.1 0 h.2.2.1.1).2.2.2))).1,
      h.2.2.2.1,h.2.2.2.2.1,h.2.2.2.2.2.1,h.2.2.2.2.2.2.1,h.2.2.2.2.2.2.2.1,h.2.2.2.2.2.2.2.2.1,h.2.2.2.2.2.2.2.2.2.1,h.2.2.2.2.2.2.2.2.2.2.1,h.2.2.2.2.2.2.2.2.2.2.2.1++(nE h.2.1 h.1 0 h.2.2.1.1).2.1,
      h.2.2.2.2.2.2.2.2.2.2.2.2.1++(mQ ((nE h.2.1 h.1 0 h.2.2.1.1).1,h.2.2.1.2) (if(h.2.2.1.2.2.1.length:Int)<ak ((nE h.2.1 h.1 0 h.2.2.1.1).2.2.1+(nE h.2.1 h.1 0 h.2.2.1.1).2.2.2) then(h.2.2.1.2.2.1.length:Int) else ak ((nE h.2.1 h.1 0 h.2.2.1.1).2.2.1+(nE h.2.1 h.1 0 h.2.2.1.1).2.2.2))).2,h.2.2.2.2.2.2.2.2.2.2.2.2.2) else h
theorem SR (h:Host)(k:Qu 900000000 h):pt h=some (gW h):=by have z:cr 1000000000 fF h:=k.z.mono;have hz:=k.sz;have hm:h.1.length<=900000000:=k.z.1.1;have hl:h.2.1.length<=900000000:=k.z.2.1.1;have hw:h.2.2.1.2.2.1.length<=900000000:=k.z.2.2.1.2.2.1.1;have hwi:h.2.2.2.2.2.2.2.2.2.2.2.1.length<=900000000:=k.z.2.2.2.2.2.2.2.2.2.2.2.1.1;have hco:h.2.2.2.2.2.2.2.2.2.2.2.2.1.length<=900000000:=k.z.2.2.2.2.2.2.2.2.2.2.2.2.1.1;have hA:=Bd h.2.1 h.1 0 17 [] 0 0 h.2.2.1.1 (λx hx=>by cases hx);unfold pt gW;rw[Em h z,ab,Oh h hz,ab];cases vd h;rfl;simp only[aj,ae,af,aa7 h.2.1 h.1 0 _ (show h.2.1.length<=10^9 by omega) (show h.1.length<=10^9 by omega),ab];rw[show pg h.2.1 h.1 0 17 [] 0 0 h.2.2.1.1=nE h.2.1 h.1 0 h.2.2.1.1 from rfl]at hA;generalize nE h.2.1 h.1 0 h.2.2.1.1=x at hA⊢;simp only[List.length_nil]at hA;have hC:=Eb (k:=900000000) (t:=(x.1,h.2.2.1.2)) (if(h.2.2.1.2.2.1.length:Int)<ak (x.2.2.1+x.2.2.2) then(h.2.2.1.2.2.1.length:Int) else ak (x.2.2.1+x.2.2.2)) ⟨⟨bX,bX,bX,bX⟩,k.z.2.2.1.2⟩ k.t;rw[aP (by omega),SL (x.1,h.2.2.1.2) _ (by grind) (bf k.t (by omega)),ab,aP (by omega)]
theorem Ts (h:Host)(k:Qu 900000000 h):pN h=some (gW h):=by have z:cr 1000000000 fF h:=k.z.mono;have hz:=k.sz;have hm:h.1.length<=900000000:=k.z.1.1;have hl:h.2.1.length<=900000000:=k.z.2.1.1;have hw:h.2.2.1.2.2.1.length<=900000000:=k.z.2.2.1.2.2.1.1;have hwi:h.2.2.2.2.2.2.2.2.2.2.2.1.length<=900000000:=k.z.2.2.2.2.2.2.2.2.2.2.2.1.1;have hco:h.2.2.2.2.2.2.2.2.2.2.2.2.1.length<=900000000:=k.z.2.2.2.2.2.2.2.2.2.2.2.2.1.1;have hA:=Bd h.2.1 h.1 0 17 [] 0 0 h.2.2.1.1 (λx hx=>by cases hx);unfold pN gW;rw[E1 h z,ab,O9 h hz,ab];cases vd h;rfl;simp only[aj,ae,af,ab8 h.2.1 h.1 0 _ (show h.2.1.length<=10^9 by omega) (show h.1.length<=10^9 by omega),ab];rw[show pg h.2.1 h.1 0 17 [] 0 0 h.2.2.1.1=nE h.2.1 h.1 0 h.2.2.1.1 from rfl]at hA;generalize nE h.2.1 h.1 0 h.2.2.1.1=x at hA⊢;simp only[List.length_nil]at hA;have hC:=Eb (k:=900000000) (t:=(x.1,h.2.2.1.2)) (if(h.2.2.1.2.2.1.length:Int)<ak (x.2.2.1+x.2.2.2) then(h.2.2.1.2.2.1.length:Int) else ak (x.2.2.1+x.2.2.2)) ⟨⟨bX,bX,bX,bX⟩,k.z.2.2.1.2⟩ k.t;rw[aP (by omega),Tk (x.1,h.2.2.1.2) _ (by grind) (bf k.t (by omega)),ab,aP (by omega)]
theorem Ff {n:Nat}(hn:400<=n)(k:Qu n h):Qu (n+5440) (gW h):=by have k':Qu (n+5440) h:=k.mono;have hA:=Bd h.2.1 h.1 0 17 [] 0 0 h.2.2.1.1 (λx hx=>by cases hx);unfold gW;cases vd h;exact k';rw[show pg h.2.1 h.1 0 17 [] 0 0 h.2.2.1.1=nE h.2.1 h.1 0 h.2.2.1.1 from rfl]at hA;generalize nE h.2.1 h.1 0 h.2.2.1.1=x at hA⊢;simp only[List.length_nil]at hA;generalize (if(h.2.2.1.2.2.1.length:Int)<ak (x.2.2.1+x.2.2.2) then(h.2.2.1.2.2.1.length:Int) else ak (x.2.2.1+x.2.2.2))=q;have hC:=Eb (k:=n) (t:=(x.1,h.2.2.1.2)) q ⟨⟨bX,bX,bX,bX⟩,k.z.2.2.1.2⟩ k.t;have z:=k'.z;refine⟨⟨z.1,z.2.1,hC.1.mono,z.2.2.2.1,z.2.2.2.2.1,z.2.2.2.2.2.1,z.2.2.2.2.2.2.1,z.2.2.2.2.2.2.2.1,z.2.2.2.2.2.2.2.2.1,z.2.2.2.2.2.2.2.2.2.1,bX,?_,?_,z.2.2.2.2.2.2.2.2.2.2.2.2.2⟩,bf hC.2.1 (by omega)⟩;exact Lh (t:=.str) (n:=n) (k:=5440) k.z.2.2.2.2.2.2.2.2.2.2.2.1 (λy hy=>by show y.length<=_;grind) (by omega);exact(Lh (t:=.int .i64) (n:=n) (k:=16) k.z.2.2.2.2.2.2.2.2.2.2.2.2.1 (λ_ _=>trivial) hC.2.2).mono
def evS (k:Nat)(h:Host):Host:=
 match h.2.2.2.2.2.1[k]? with
 |some v=>(h.1,h.2.1,h.2.2.1,h.2.2.2.1,h.2.2.2.2.1,h.2.2.2.2.2.1.set k (evV v),h.2.2.2.2.2.2)
 |none=>h
def TK (k:Nat):Nat->Host->Host
 |0,h=>h
 |i+1,h=>evS k (TK k i h)
theorem acX (k:Nat)(h:Host):Bf (k+1) h (evS k h):=by unfold evS;cases h.2.2.2.2.2.1[k]? with|none=>exact Bf.refl _ _|some v=>exact⟨rfl,rfl,rfl,rfl,λ_ _=>rfl,rfl,bg ..,λj hj=>aS (by omega),rfl,rfl,rfl⟩
theorem JA (k:Nat)(h:Host):∀i,Bf (k+1) h (TK k i h)
 |0=>Bf.refl _ _
 |i+1=>(JA k h i).trans (acX k _)
theorem afx {n:Nat}(k:Nat)(z:cr n fF h):cr n fF (evS k h):=by unfold evS;cases h.2.2.2.2.2.1[k]? with|none=>exact z|some v=>exact⟨z.1,z.2.1,z.2.2.1,z.2.2.2.1,z.2.2.2.2.1,agq z.2.2.2.2.2.1,z.2.2.2.2.2.2⟩
theorem Zj {n:Nat}(k:Nat)(z:cr n fF h):∀i,cr n fF (TK k i h)
 |0=>z
 |i+1=>afx k (Zj k z i)
theorem XF (h:Host)(k:Nat)(b:Int)(h1:k<h.2.2.2.1.length)(h2:k<h.2.2.2.2.2.1.length)(hq:iw h.2.2.2.1[k].2.1=true)(hb:0<=b/\b<=31):mW h (k:Int) b=some ((),TK k ((h.2.2.2.1[k].2.1.2.2-b)%(2*h.2.2.2.1[k].2.1.2.1)).toNat h):=by
 have Fq:=dX;have q:=tj hq;unfold mW;rw[aY h1,ab];generalize h.2.2.2.1[k]=x at q⊢;rw[ai (n:=x.2.1.2.2-b) (by omega) (by omega),ai (n:=2*x.2.1.2.1) (by omega) (by omega),Rj _ _,ab];have hm:0<=(x.2.1.2.2-b)%(2*x.2.1.2.1)/\(x.2.1.2.2-b)%(2*x.2.1.2.1)<32:=by have g1:=Int.emod_nonneg (x.2.1.2.2-b) (show 2*x.2.1.2.1≠0 by omega);have g2:=fI (x.2.1.2.2-b) (show 0<2*x.2.1.2.1 by omega);omega
 generalize (x.2.1.2.2-b)%(2*x.2.1.2.1)=c at hm⊢;obtain⟨c,rfl⟩:=aF hm.1;rw[aA];have e0:((c:Int),h)=(((c:Int)-((0:Nat):Int)),TK k 0 h):=by simp[TK]
 rw[e0];refine dc (λi=>((c:Int)-(i:Int),TK k i h)) c (by omega) (λi nx hi=>?_) (λnx=>?_);have kk:=JA k h i;have i1:k<(TK k i h).2.2.2.2.2.1.length:=by rw[kk.vec];exact h2
 rw[show TK k (i+1) h=evS k (TK k i h) from rfl];generalize TK k i h=s at i1⊢;simp only[pA,evS];rw[jh,af,ax i1];simp only[aY i1,ab,aaM,aA];rw[ai (by omega) (by omega),show(c:Int)-(i:Int)-1=(c:Int)-((i+1:Nat):Int) by omega];simp only[pA];rw[gZ,ae]
theorem Yw (h:Host)(k:Nat)(b:Int)(h1:k<h.2.2.2.1.length)(h2:k<h.2.2.2.2.2.1.length)(hq:iw h.2.2.2.1[k].2.1=true)(hb:0<=b/\b<=31):nB h (k:Int) b=some ((),TK k ((h.2.2.2.1[k].2.1.2.2-b)%(2*h.2.2.2.1[k].2.1.2.1)).toNat h):=by
 have Fq:=dX;have q:=tj hq;unfold nB;rw[aY h1,ab,ab];generalize h.2.2.2.1[k]=x at q⊢;have em:ak (toNat (iD (x.2.1.2.2-b)&&&iD (2*x.2.1.2.1-1)))=(x.2.1.2.2-b)%(2*x.2.1.2.1):=by
  have key:∀j:Nat,j<63->2*x.2.1.2.1=2^j->ak (toNat (iD (x.2.1.2.2-b)&&&iD (2*x.2.1.2.1-1)))=(x.2.1.2.2-b)%(2*x.2.1.2.1):=by intro j hj e;have:=De (x.2.1.2.2-b) j hj;rw[<-e]at this;rw[this];have g1:=Int.emod_nonneg (x.2.1.2.2-b) (show 2*x.2.1.2.1≠0 by omega);have g2:=fI (x.2.1.2.2-b) (show 0<2*x.2.1.2.1 by omega);exact ai (by omega) (by omega)
  rcases q.2.2.1 with e|e|e|e;exact key 2 (by omega) (by rw[e];rfl);exact key 3 (by omega) (by rw[e];rfl);exact key 4 (by omega) (by rw[e];rfl);exact key 5 (by omega) (by rw[e];rfl)
 rw[ai (n:=x.2.1.2.2-b) (by omega) (by omega),ai (n:=2*x.2.1.2.1) (by omega) (by omega),ai (n:=2*x.2.1.2.1-1) (by omega) (by omega),em];have hm:0<=(x.2.1.2.2-b)%(2*x.2.1.2.1)/\(x.2.1.2.2-b)%(2*x.2.1.2.1)<32:=by have g1:=Int.emod_nonneg (x.2.1.2.2-b) (show 2*x.2.1.2.1≠0 by omega);have g2:=fI (x.2.1.2.2-b) (show 0<2*x.2.1.2.1 by omega);omega
 generalize (x.2.1.2.2-b)%(2*x.2.1.2.1)=c at hm⊢;obtain⟨c,rfl⟩:=aF hm.1;rw[aA];refine dc (λi=>((i:Int),TK k i h)) c (by omega) (λi nx hi=>?_) (λnx=>?_);have kk:=JA k h i;have i1:k<(TK k i h).2.2.2.2.2.1.length:=by rw[kk.vec];exact h2
 rw[show TK k (i+1) h=evS k (TK k i h) from rfl];generalize TK k i h=s at i1⊢;simp only[pR,evS];rw[jh,af,ax i1];simp only[aY i1,ab,abS,aA];rw[ai (by omega) (by omega)];rfl;simp only[pR];rw[gZ,ae]
def Ik (h:Host)(k:Nat)(f:cy×bJ):Host:=(f.1,h.2.1,h.2.2.1,h.2.2.2.1.set k f.2,h.2.2.2.2)
def PB (h:Host)(k:Nat)(b:Int)(f:cy×bJ):Host:=TK k ((f.2.2.1.2.2-b)%(2*f.2.2.1.2.1)).toNat (Ik h k f)
theorem Wv {b:Int}{f:cy×bJ}(hf:f.1.length=h.1.length):Bf (k+1) h (PB h k b f):=by
 have a:Bf (k+1) h (Ik h k f):=⟨hf,rfl,rfl,bg ..,λj hj=>aS (by omega),rfl,rfl,λ_ _=>rfl,rfl,rfl,rfl⟩
 exact a.trans (JA k (Ik h k f) _)
theorem Y3 {n:Nat}{b:Int}{f:cy×bJ}(z:cr n fF h)(h1:cr n (.sl .str) f.1)(h2:cr n dQ f.2):cr n fF (PB h k b f):=by
 have a:cr n fF (Ik h k f):=⟨h1,z.2.1,z.2.2.1,Ow z.2.2.2.1 h2,z.2.2.2.2⟩
 exact Zj k a _
theorem Uw {q:bJ}{k:Bytes}:(kN l m d q k).1.length=m.length:=by
 have hs:(nD l m d q k (bD l m d q.1).1).1.length=m.length:=by
  unfold nD;cases !(ee (bD l m d q.1).1).2||(((ee (bD l m d q.1).1).1.1 !=3)||decide ((ee (bD l m d q.1).1).1.2.2.1<((ec q.2.2.2.1.1).1.length:Int)));case true=>rfl
  cases (B8 l m d (ee (bD l m d q.1).1).1.2.2.2.1 (ec q.2.2.2.1.1).1 true).2;rfl;have h2:=DM l m d (ee (bD l m d q.1).1).1.2.2.2.1 (ec q.2.2.2.1.1).1 true;simp only[ae,aj];unfold DL;cases !iw q.2.1|| !Ea ((ee (bD l m d q.1).1).1.2.2.2.2.2,((ec q.2.2.2.1.1).1.length:Int),q.2.2.2.1.2.1,q.2.2.2.1.2.2,Cj k (zA (zy q.2.2.2.1.1)));case true=>exact h2
  cases (B8 l (B8 l m d (ee (bD l m d q.1).1).1.2.2.2.1 (ec q.2.2.2.1.1).1 true).1 d (GK q.2.1) (Xe ((ee (bD l m d q.1).1).1.2.2.2.2.2,((ec q.2.2.2.1.1).1.length:Int),q.2.2.2.1.2.1,q.2.2.2.1.2.2,Cj k (zA (zy q.2.2.2.1.1))) (I4 q.2.1)) true).2 with|false=>exact h2|true=>exact(DM ..).trans h2
 unfold kN;grind
theorem IS (hb:vd h=true):∀i (hi:i<h.2.2.2.1.length),Tg h.2.2.2.1[i]=true:=by grind[vd,VK]
theorem Wu {b:Int}{f:cy×bJ}(h1:k<h.2.2.2.1.length)(h2:k<h.2.2.2.2.2.1.length)(hq:iw f.2.2.1=true)(hb:0<=b/\b<=31): mW (f.1,h.2.1,h.2.2.1,h.2.2.2.1.set k f.2,h.2.2.2.2) (k:Int) b=some ((),PB h k b f):=by
 have h3:k<(Ik h k f).2.2.2.1.length:=by show k<(h.2.2.2.1.set k f.2).length;rw[bg];exact h1
 have e:(Ik h k f).2.2.2.1[k]=f.2:=List.getElem_set_self _;have a:=XF (Ik h k f) k b h3 h2 (by rw[e];exact hq) hb;rw[e]at a;exact a
theorem Ww {b:Int}{f:cy×bJ}(h1:k<h.2.2.2.1.length)(h2:k<h.2.2.2.2.2.1.length)(hq:iw f.2.2.1=true)(hb:0<=b/\b<=31): nB (f.1,h.2.1,h.2.2.1,h.2.2.2.1.set k f.2,h.2.2.2.2) (k:Int) b=some ((),PB h k b f):=by
 have h3:k<(Ik h k f).2.2.2.1.length:=by show k<(h.2.2.2.1.set k f.2).length;rw[bg];exact h1
 have e:(Ik h k f).2.2.2.1[k]=f.2:=List.getElem_set_self _;have c:=Yw (Ik h k f) k b h3 h2 (by rw[e];exact hq) hb;rw[e]at c;exact c
def ON (a b:aM):Bool:=(a.1==b.1)&&((a.2.1==b.2.1)&&((a.2.2.1==b.2.2.1)&&((a.2.2.2.1==b.2.2.2.1)&&((a.2.2.2.2.2.1==b.2.2.2.2.2.1)&&((a.2.2.2.2.2.2.1==b.2.2.2.2.2.2.1)&&((a.2.2.2.2.2.2.2.1==b.2.2.2.2.2.2.2.1)&&((a.2.2.2.2.2.2.2.2.1==b.2.2.2.2.2.2.2.2.1)&&((a.2.2.2.2.2.2.2.2.2.1==b.2.2.2.2.2.2.2.2.2.1)&&((a.2.2.2.2.2.2.2.2.2.2.1==b.2.2.2.2.2.2.2.2.2.2.1)&&((a.2.2.2.2.2.2.2.2.2.2.2.2.1==b.2.2.2.2.2.2.2.2.2.2.2.2.1)&&((a.2.2.2.2.2.2.2.2.2.2.2.2.2.2.1==b.2.2.2.2.2.2.2.2.2.2.2.2.2.2.1))))))))))))
theorem aeQ (a b:aM):yv a b=some (ON a b):=by simp_all[yv,ON]
theorem adM (a b:aM):xR a b=some (ON a b):=by simp_all[xR,ON]
def ahO (s:jI)(p:aM):Bool:=(p.2.2.2.2.2.2.2.2.2.2.2.1==tmod (ak (s.1.2.2.2.2.2.2.2.2.2.2.2.1+(s.1.2.2.2.2.2.2.2.2.2.2.2.2.2.2.2.length:Int))) 4294967296)&&(p.2.2.2.2.1==tmod (ak (s.1.2.2.2.2.1+s.2.2)) 65536)
def Rz (s:jI)(p:aM):Bool:=decide (1<=s.2.1)&&(dz s.2.2 1 320&&(decide ((s.1.2.2.2.2.2.2.2.2.2.2.2.2.2.2.2.length:Int)=s.2.1*s.2.2)&&(dz (p.2.2.2.2.2.2.2.2.2.2.2.2.2.2.2.length:Int) 1 s.2.1&&decide ((s.1.2.2.2.2.2.2.2.2.2.2.2.2.2.2.2.length:Int)+(p.2.2.2.2.2.2.2.2.2.2.2.2.2.2.2.length:Int)<=320))))
def adg (s:jI)(p:aM):Bool:=ej s.1&&(fN p&&(ON s.1 p&&((p.2.2.2.2.2.2.2.2.1==6)&&((s.1.2.2.2.2.2.2.2.2.2.2.2.2.2.1==16)&&Gb p.2.2.2.2.2.2.2.2.2.2.2.2.2.1))))
def KX (s:jI)(p:aM):Bool:=adg s p&&(Rz s p&&ahO s p)
theorem Kg (h:fN p=true)(h6:(p.2.2.2.2.2.2.2.2.1==6)=true):dz p.2.2.2.2.2.2.2.2.2.2.2.2.2.1 0 31=true:=by grind[fN,ej,LC,N4]
theorem I3 (h:fN p=true):p.2.2.2.2.2.2.2.2.2.2.2.2.2.2.2.length<=128:=by grind[fN]
theorem Z0 (s:jI)(p:aM):wC s p=some (KX s p):=by
 unfold wC KX adg;rw[oU,ab,xv,ab,aeQ,ab];cases hs:ej s.1;rfl;cases hp:fN p;rfl;cases ON s.1 p;rfl;cases h6:p.2.2.2.2.2.2.2.2.1==6 with|false=>simp only[bne,h6];rfl|true=>?_
 cases h16:s.1.2.2.2.2.2.2.2.2.2.2.2.2.2.1==16 with|false=>simp only[bne,h6,h16];rfl|true=>?_
 have hf:=Kg hp h6;have hsl:=B0 hs;have Hk:=I3 hp;simp only[bne,h6,h16,aj,ae,ab,NR _ hf,bp];cases Gb p.2.2.2.2.2.2.2.2.2.2.2.2.2.1;rfl;simp only[aj,ae,cx,ab,bp,bM];have sD:(bif !dz s.2.1 1 320 then some true else bif !dz s.2.2 1 320 then some true else bif !((s.1.2.2.2.2.2.2.2.2.2.2.2.2.2.2.2.length:Int)==ak (s.2.1*s.2.2)) then some true else bif !dz (p.2.2.2.2.2.2.2.2.2.2.2.2.2.2.2.length:Int) 1 s.2.1 then some true else some (decide (ak ((s.1.2.2.2.2.2.2.2.2.2.2.2.2.2.2.2.length:Int)+(p.2.2.2.2.2.2.2.2.2.2.2.2.2.2.2.length:Int))>320)))=some (!Rz s p):=by
  unfold Rz;generalize s.1.2.2.2.2.2.2.2.2.2.2.2.2.2.2.2.length=n at hsl⊢;generalize p.2.2.2.2.2.2.2.2.2.2.2.2.2.2.2.length=m at Hk⊢;rw[ai (n:=(n:Int)+(m:Int)) (by omega) (by omega)];cases h2:dz s.2.2 1 320 with
  |false=>cases dz s.2.1 1 320<;>cases decide (1<=s.2.1)<;>rfl
  |true=>
   have TL:=bW.1 h2;by_cases h1:1<=s.2.1;rw[aw h1];by_cases h3:s.2.1<=320;have hb:s.2.1*s.2.2<=320*320:=Int.mul_le_mul h3 TL.2 (by omega) (by omega);have TM:0<=s.2.1*s.2.2:=Int.mul_nonneg (by omega) (by omega);rw[bW.2 ⟨h1,h3⟩,ai (n:=s.2.1*s.2.2) (by omega) (by omega)];by_cases h4:(n:Int)=s.2.1*s.2.2;rw[show((n:Int)==s.2.1*s.2.2)=true from by rw[bk];exact h4,aw h4];cases dz (m:Int) 1 s.2.1 with|false=>rfl|true=>by_cases h5:(n:Int)+(m:Int)<=320;rw[aw h5,al (show¬(n:Int)+(m:Int)>320 by omega)];rfl;rw[al h5,aw (show(n:Int)+(m:Int)>320 by omega)];rfl
   rw[show((n:Int)==s.2.1*s.2.2)=false from by rw[cM];exact h4,al h4];rfl;have hb:321*1<=s.2.1*s.2.2:=Int.mul_le_mul (by omega) (by omega) (by omega) (by omega);rw[show dz s.2.1 1 320=false from by rw[Bool.eq_false_iff];intro hc;have:=bW.1 hc;omega,al (show¬(n:Int)=s.2.1*s.2.2 by omega)];rfl;rw[al h1,show dz s.2.1 1 320=false from by rw[Bool.eq_false_iff];intro hc;have:=bW.1 hc;omega];rfl
 simp only[bne,bM]at sD⊢;rw[di sD];cases Rz s p;rfl;rw[mL,mL];simp only[aj,ae,bM,ab,cF,bp];rfl
theorem Zx (s:jI)(p:aM):vf s p=some (KX s p):=by
 unfold vf KX adg;rw[oL,ab,xo,ab,adM,ab];cases hs:ej s.1;rfl;cases hp:fN p;rfl;cases ON s.1 p;rfl;cases h6:p.2.2.2.2.2.2.2.2.1==6 with|false=>simp only[bne,h6];rfl|true=>?_
 cases h16:s.1.2.2.2.2.2.2.2.2.2.2.2.2.2.1==16 with|false=>simp only[bne,h6,h16];rfl|true=>?_
 have hf:=Kg hp h6;have hsl:=B0 hs;have Hk:=I3 hp;simp only[bne,h6,h16,aj,ae,ab,NQ _ hf,bp];cases Gb p.2.2.2.2.2.2.2.2.2.2.2.2.2.1;rfl;simp only[aj,ae,cQ,ab,bp];rw[aG (show¬(4294967296:Nat)=0 by omega),aG (show¬(65536:Nat)=0 by omega)];simp only[bM,cF];rw[show((p.2.2.2.2.2.2.2.2.2.2.2.1==tmod (ak (s.1.2.2.2.2.2.2.2.2.2.2.2.1+(s.1.2.2.2.2.2.2.2.2.2.2.2.2.2.2.2.length:Int))) 4294967296)&&(p.2.2.2.2.1==tmod (ak (s.1.2.2.2.2.1+s.2.2)) 65536))=ahO s p from rfl];unfold Rz;generalize ahO s p=q;generalize s.1.2.2.2.2.2.2.2.2.2.2.2.2.2.2.2.length=n at hsl⊢;generalize p.2.2.2.2.2.2.2.2.2.2.2.2.2.2.2.length=m at Hk⊢;rw[ai (n:=(n:Int)+(m:Int)) (by omega) (by omega)];by_cases h1:s.2.1<1;rw[aw h1,al (show¬1<=s.2.1 by omega)];rfl;rw[al h1,aw (show 1<=s.2.1 by omega)];cases h2:dz s.2.2 1 320;rfl;have TL:=bW.1 h2;simp only[aj,ae,ab,bp];rw[mL,mL];have e1:tmod (n:Int) s.2.2=(n:Int)%s.2.2:=fw (by omega);have e2:Int.tdiv (n:Int) s.2.2=(n:Int)/s.2.2:=Int.tdiv_eq_ediv_of_nonneg (by omega);have hdm:=Int.emod_add_mul_ediv (n:Int) s.2.2;have hq0:0<=(n:Int)/s.2.2:=Int.ediv_nonneg (by omega) (by omega);have XD:(n:Int)/s.2.2<=(n:Int):=Int.ediv_le_self _ (by omega);rw[e1,e2,ai (n:=(n:Int)/s.2.2) (by omega) (by omega)];by_cases h3:(n:Int)=s.2.1*s.2.2;have h4:(n:Int)%s.2.2=0:=by rw[h3];exact Int.mul_emod_left ..
 have h5:(n:Int)/s.2.2=s.2.1:=by rw[h3];exact Int.mul_ediv_cancel _ (by omega)
 rw[h4,h5,aw h3];simp only[fG,aj,ae,ab,bp];cases dz (m:Int) 1 s.2.1;rfl;cases decide ((n:Int)+(m:Int)<=320)<;>rfl;rw[al h3];cases h4:(n:Int)%s.2.2==0 with
 |false=>rfl
 |true=>
  have h4':(n:Int)%s.2.2=0:=by simpa using h4
  have h5:((n:Int)/s.2.2==s.2.1)=false:=by rw[cM];intro h5;rw[h4',h5]at hdm;exact h3 (by rw[Int.mul_comm];omega)
  simp only[aj,ae,h5,cL,ab,af];rfl
def Ra (s:jI)(p:aM):jI:=bif KX s p then((s.1.1,s.1.2.1,s.1.2.2.1,s.1.2.2.2.1,s.1.2.2.2.2.1,s.1.2.2.2.2.2.1,s.1.2.2.2.2.2.2.1,s.1.2.2.2.2.2.2.2.1,s.1.2.2.2.2.2.2.2.2.1,s.1.2.2.2.2.2.2.2.2.2.1,s.1.2.2.2.2.2.2.2.2.2.2.1,s.1.2.2.2.2.2.2.2.2.2.2.2.1,s.1.2.2.2.2.2.2.2.2.2.2.2.2.1,p.2.2.2.2.2.2.2.2.2.2.2.2.2.1,s.1.2.2.2.2.2.2.2.2.2.2.2.2.2.2.1,s.1.2.2.2.2.2.2.2.2.2.2.2.2.2.2.2++p.2.2.2.2.2.2.2.2.2.2.2.2.2.2.2),s.2.1,ak (s.2.2+1)) else s
theorem Sc {s:jI}(h:KX s p=true):s.1.2.2.2.2.2.2.2.2.2.2.2.2.2.2.2.length+p.2.2.2.2.2.2.2.2.2.2.2.2.2.2.2.length<=320:=by grind[KX,Rz]
theorem aeL (s:jI)(p:aM):HC s p=some (Ra s p):=by unfold HC Ra;rw[Z0,ab];cases h:KX s p;rfl;have:=Sc h;grind[aP]
theorem adJ (s:jI)(p:aM):Hn s p=some (Ra s p):=by unfold Hn Ra;rw[Zx,ab];cases h:KX s p;rfl;have:=Sc h;grind[aP]
def singleR (p:aM):jI:=(p,(p.2.2.2.2.2.2.2.2.2.2.2.2.2.2.2.length:Int),1)
theorem XQ (p:aM):Gw p=some (singleR p):=rfl
theorem YG (p:aM):GQ p=some (singleR p):=rfl
def QR (q:bJ)(s:jI):bJ:=(q.1,q.2.1,q.2.2.1,s,true,q.2.2.2.2.2)
def kW (l:aq aL)(m:cy)(d:Int)(q:bJ)(k:Bytes)(p:aM)(c:Bool):cy×bJ:=
 bif !Tg q||(!fN p||((k.length:Int) !=16)) then(m,q) else
 bif c&&(q.2.2.2.2.1&&KX q.2.2.2.1 p) then(m,q.1,q.2.1,q.2.2.1,Ra q.2.2.2.1 p,q.2.2.2.2) else
 bif c then((kN l m d q k).1,QR (kN l m d q k).2 (singleR p)) else kN l (kN l m d q k).1 d (QR (kN l m d q k).2 (singleR p)) k
theorem XG (l:aq aL)(m:cy)(d:Int)(q:bJ)(k:Bytes)(p:aM)(c:Bool)(hl:l.length<=10^9)(hm:m.length<=10^9):nQ l m d q k p c=some (kW l m d q k p c):=by
 unfold nQ kW QR;simp only[XP,xo,ab,oK m (show m.length<=1073741824 by omega),Zx,adJ,Q2 l m d q k hl hm,XQ,Q2 l (kN l m d q k).1 d _ k hl (show(kN l m d q k).1.length<=10^9 by rw[Uw];exact hm)];cases Tg q;rfl;cases fN p;rfl;cases (k.length:Int) !=16;case true=>rfl
 cases c;rfl;cases q.2.2.2.2.1;rfl;cases KX q.2.2.2.1 p<;>rfl
theorem Yx (l:aq aL)(m:cy)(d:Int)(q:bJ)(k:Bytes)(p:aM)(c:Bool)(hl:l.length<=10^9)(hm:m.length<=10^9):oa l m d q k p c=some (kW l m d q k p c):=by
 unfold oa kW QR;simp only[YF,xv,ab,uq m (show m.length<=1073741824 by omega),Z0,aeL,RF l m d q k hl hm,YG,RF l (kN l m d q k).1 d _ k hl (show(kN l m d q k).1.length<=10^9 by rw[Uw];exact hm)];cases Tg q;rfl;cases fN p;rfl;cases (k.length:Int) !=16;case true=>rfl
 cases c;rfl;cases q.2.2.2.2.1;rfl;cases KX q.2.2.2.1 p<;>rfl
theorem aaF {n:Nat}{q:bJ}{s:jI}(h:s.1.2.2.2.2.2.2.2.2.2.2.2.2.2.2.2.length<=n):cr n dQ (QR q s):=⟨⟨bX,bX,bX,bX⟩,⟨bX,bX,bX⟩,⟨bX,bX,bX⟩,⟨⟨bX,bX,bX,bX,bX,bX,bX,bX,bX,bX,bX,bX,bX,bX,bX,h⟩,bX,bX⟩,bX,bX⟩
theorem IA {n:Nat}(hn:1000<=n){q:bJ}{k:Bytes}{c:Bool}(z:cr n (.sl .str) m)(zq:cr n dQ q)(hq:iw q.2.1=true): cr n (.sl .str) (kW l m d q k p c).1/\(kW l m d q k p c).1.length=m.length/\cr n dQ (kW l m d q k p c).2/\iw (kW l m d q k p c).2.2.1=true:=by
 unfold kW;cases hc: !Tg q||(!fN p||((k.length:Int) !=16));case true=>grind
 simp only[dR,eY]at hc;have hp:=I3 hc.2.1;cases hj:c&&(q.2.2.2.2.1&&KX q.2.2.2.1 p)with|true=>simp only[ah]at hj;have:=Sc hj.2.2;refine⟨z,rfl,⟨⟨bX,bX,bX,bX⟩,⟨bX,bX,bX⟩,⟨bX,bX,bX⟩,⟨?_,bX,bX⟩,bX,bX⟩,hq⟩;refine⟨bX,bX,bX,bX,bX,bX,bX,bX,bX,bX,bX,bX,bX,bX,bX,?_⟩;unfold Ra;rw[hj.2.2];show List.length (q.2.2.2.1.1.2.2.2.2.2.2.2.2.2.2.2.2.2.2.2++p.2.2.2.2.2.2.2.2.2.2.2.2.2.2.2)<=n;rw[au];omega|false=>grind[aaB,QR,kN,singleR,aaF]
theorem VM {r:fH}(h:DQ r=true):0<=r.2.2.2.2.2.2.2.2:=by
 by_cases h0:0<=r.2.2.2.2.2.2.2.2;exact h0;exfalso;have e:∀b:Int,dz r.2.2.2.2.2.2.2.2 0 b=false:=λb=>by rw[Bool.eq_false_iff];intro hc;have:=bW.1 hc;omega
 have e1:(r.2.2.2.2.2.2.2.2==0)=false:=by rw[cM];omega
 revert h;unfold DQ;have z:∀c:Bool,(bif c then false else false)=false:=by intro c;cases c<;>rfl
 simp only[lQ,cx,ab,bM,e,e1,fb,z,ae];intro h;cases h
theorem RO {s:eQ}{q:Int}:xx s q p= -1\/∃n:Nat,xx s q p=(n:Int)/\(n:Int)<q:=by
 unfold xx;cases hb: !im s q|| !ej p;case true=>exact .inl rfl
 simp only[dR,eY]at hb;have hs:=hb.1;simp only[im,ah]at hs;simp only[ae];cases hd:decide (F9 s.1 p>=0)with
 |true=>obtain⟨n,hn,hl⟩:=NP s.1 p (gR hd);simp only[af,hn,aA,eu hl];cases s.1[n].2.2.2.2.2.2.2.1==1 with|true=>exact .inl rfl|false=>have h1:=ba.1 hs.1.2 _ (aN hl);have h2:=hs.1.1.1.1;simp only[BV,ah]at h2;have h3:=VM (ba.1 h2.1 _ (aN hl));simp only[aQ,fi]at h1;exact .inr ⟨s.1[n].2.2.2.2.2.2.2.2.toNat,by grind,by omega⟩
 |false=>
  simp only[ae];cases WD:decide (findF s.2.1 (zy p)>=0)with
  |true=>obtain⟨n,hn,hl⟩:=NO s.2.1 (zy p) (gR WD);simp only[af,hn,aA,eu hl];have h1:=ba.1 hs.2 _ (aN hl);have h2:=hs.1.1.1.2;simp only[xb,ah,bk]at h2;have h3:=ba.1 h2.2 n (dm.2 (by omega));unfold ns RA at h3;rw[xu hl]at h3;simp only[ah,bW]at h3;simp only[aQ,fi]at h1;exact .inr ⟨s.2.1[n].2.2.toNat,by omega,by omega⟩
  |false=>
   simp only[ae];unfold HE;cases hc: !AO s.2.2 q||decide (CR s.2.2 (zy p)<0);case true=>exact .inl rfl
   simp only[dR,eY,fi]at hc;obtain⟨n,hn,hl⟩:=K1 s.2.2 (zy p) hc.2;have h1:=hc.1;simp only[AO,ah]at h1;have h2:=bW.1 (ba.1 h1.2 _ (aN hl));simp only[ae,hn,aA,eu hl];exact .inr ⟨s.2.2.2[n].toNat,by omega,by omega⟩
def F5 (h:Host)(a b c d:Int):Host:=(h.1,h.2.1,h.2.2.1,h.2.2.2.1,h.2.2.2.2.1,h.2.2.2.2.2.1,h.2.2.2.2.2.2.1,h.2.2.2.2.2.2.2.1,h.2.2.2.2.2.2.2.2.1,h.2.2.2.2.2.2.2.2.2.1,h.2.2.2.2.2.2.2.2.2.2.1,h.2.2.2.2.2.2.2.2.2.2.2.1,h.2.2.2.2.2.2.2.2.2.2.2.2.1,h.2.2.2.2.2.2.2.2.2.2.2.2.2.1,ak (h.2.2.2.2.2.2.2.2.2.2.2.2.2.2.1+1),a,b,c,d)
def wA (h:Host)(x:Bytes):Host:=
 bif !vd h then h else
 bif (mn x).2 !=0 then F5 h (ak (h.2.2.2.2.2.2.2.2.2.2.2.2.2.2.2.1+1)) h.2.2.2.2.2.2.2.2.2.2.2.2.2.2.2.2.1 h.2.2.2.2.2.2.2.2.2.2.2.2.2.2.2.2.2.1 h.2.2.2.2.2.2.2.2.2.2.2.2.2.2.2.2.2.2 else
 bif !yF h.2.2.2.2.2.2.2.1 (mn x).1 then F5 h h.2.2.2.2.2.2.2.2.2.2.2.2.2.2.2.1 (ak (h.2.2.2.2.2.2.2.2.2.2.2.2.2.2.2.2.1+1)) h.2.2.2.2.2.2.2.2.2.2.2.2.2.2.2.2.2.1 h.2.2.2.2.2.2.2.2.2.2.2.2.2.2.2.2.2.2 else
 bif xx h.2.2.2.2.2.2.2.2.1 (h.2.2.2.1.length:Int) (mn x).1== -1 then F5 h h.2.2.2.2.2.2.2.2.2.2.2.2.2.2.2.1 h.2.2.2.2.2.2.2.2.2.2.2.2.2.2.2.2.1 (ak (h.2.2.2.2.2.2.2.2.2.2.2.2.2.2.2.2.2.1+1)) h.2.2.2.2.2.2.2.2.2.2.2.2.2.2.2.2.2.2 else
 match h.2.2.2.1[(xx h.2.2.2.2.2.2.2.2.1 (h.2.2.2.1.length:Int) (mn x).1).toNat]? with
 |some q=>PB (F5 h h.2.2.2.2.2.2.2.2.2.2.2.2.2.2.2.1 h.2.2.2.2.2.2.2.2.2.2.2.2.2.2.2.2.1 h.2.2.2.2.2.2.2.2.2.2.2.2.2.2.2.2.2.1 (ak (h.2.2.2.2.2.2.2.2.2.2.2.2.2.2.2.2.2.2+1))) (xx h.2.2.2.2.2.2.2.2.1 (h.2.2.2.1.length:Int) (mn x).1).toNat q.2.1.2.2 (kW h.2.1 h.1 0 q h.2.2.2.2.2.2.2.2.1.2.2.1 (mn x).1 h.2.2.2.2.2.2.2.2.2.2.1)
 |none=>h
theorem SQ (h:Host)(x:Bytes)(k:Qu 900000000 h)(hx:x.length<=10^9):qZ h x=some (wA h x):=by
 have z:=k.z;have z1:h.1.length<=900000000:=z.1.1;have z2:h.2.1.length<=900000000:=z.2.1.1;have zf:h.2.2.2.2.2.2.2.1.2.2.length<=900000000:=z.2.2.2.2.2.2.2.1.2.2.1;have s1:h.2.2.2.2.2.2.2.2.1.1.length<=900000000:=z.2.2.2.2.2.2.2.2.1.1.1;have s2:h.2.2.2.2.2.2.2.2.1.2.1.length<=900000000:=z.2.2.2.2.2.2.2.2.1.2.1.1;have s3:h.2.2.2.2.2.2.2.2.1.2.2.2.length<=900000000:=z.2.2.2.2.2.2.2.2.1.2.2.2.1;unfold qZ wA;rw[Em h (z.mono),ab,Oh h (k.sz),ab];cases hb:vd h;rfl;have hl:=ER (by grind[vd]:FN h=true);have hr:=IS hb;simp only[aj,ae,Q5 x hx,ab,UW h.2.2.2.2.2.2.2.1 _ (show h.2.2.2.2.2.2.2.1.2.2.length<=10^9 by omega),aa4 h.2.2.2.2.2.2.2.2.1 _ _ (show h.2.2.2.2.2.2.2.2.1.1.length<=10^9 by omega) (show h.2.2.2.2.2.2.2.2.1.2.1.length<=10^9 by omega) (show h.2.2.2.2.2.2.2.2.1.2.2.2.length<=10^9 by omega)];generalize mn x=f;cases f.2 !=0;case true=>rfl
 cases yF h.2.2.2.2.2.2.2.1 f.1;rfl;simp only[aj,ae];have lh:=RO (s:=h.2.2.2.2.2.2.2.2.1) (q:=(h.2.2.2.1.length:Int)) (p:=f.1);generalize xx h.2.2.2.2.2.2.2.2.1 (h.2.2.2.1.length:Int) f.1=r at lh⊢;rcases lh with rfl|⟨n,rfl,hn⟩;rfl;have i1:n<h.2.2.2.1.length:=by omega
 have i2:n<h.2.2.2.2.2.1.length:=by omega
 have hq:=(DT (hr n i1)).1;have hqi:=tj hq;have ha:=IA (show 1000<=900000000 by omega) (l:=h.2.1) (d:=0) (k:=h.2.2.2.2.2.2.2.2.1.2.2.1) (p:=f.1) (c:=h.2.2.2.2.2.2.2.2.2.2.1) z.1 (z.2.2.2.1.2 _ (aN i1)) hq;have ev:=Wu (h:=F5 h h.2.2.2.2.2.2.2.2.2.2.2.2.2.2.2.1 h.2.2.2.2.2.2.2.2.2.2.2.2.2.2.2.2.1 h.2.2.2.2.2.2.2.2.2.2.2.2.2.2.2.2.2.1 (ak (h.2.2.2.2.2.2.2.2.2.2.2.2.2.2.2.2.2.2+1))) (k:=n) (b:=h.2.2.2.1[n].2.1.2.2) (f:=kW h.2.1 h.1 0 h.2.2.2.1[n] h.2.2.2.2.2.2.2.2.1.2.2.1 f.1 h.2.2.2.2.2.2.2.2.2.2.1) i1 i2 ha.2.2.2 (by omega);rw[show((n:Int)== -1)=false from by rw[cM];omega,aA,ax i1];simp only[ae,aY i1,ab,XG h.2.1 h.1 0 _ _ _ _ (show h.2.1.length<=10^9 by omega) (show h.1.length<=10^9 by omega)];rw[show(mW ((kW h.2.1 h.1 0 h.2.2.2.1[n] h.2.2.2.2.2.2.2.2.1.2.2.1 f.1 h.2.2.2.2.2.2.2.2.2.2.1).1,h.2.1,h.2.2.1,h.2.2.2.1.set n (kW h.2.1 h.1 0 h.2.2.2.1[n] h.2.2.2.2.2.2.2.2.1.2.2.1 f.1 h.2.2.2.2.2.2.2.2.2.2.1).2,h.2.2.2.2.1,h.2.2.2.2.2.1,h.2.2.2.2.2.2.1,h.2.2.2.2.2.2.2.1,h.2.2.2.2.2.2.2.2.1,h.2.2.2.2.2.2.2.2.2.1,h.2.2.2.2.2.2.2.2.2.2.1,h.2.2.2.2.2.2.2.2.2.2.2.1,h.2.2.2.2.2.2.2.2.2.2.2.2.1,h.2.2.2.2.2.2.2.2.2.2.2.2.2.1,ak (h.2.2.2.2.2.2.2.2.2.2.2.2.2.2.1+1),h.2.2.2.2.2.2.2.2.2.2.2.2.2.2.2.1,h.2.2.2.2.2.2.2.2.2.2.2.2.2.2.2.2.1,h.2.2.2.2.2.2.2.2.2.2.2.2.2.2.2.2.2.1,ak (h.2.2.2.2.2.2.2.2.2.2.2.2.2.2.2.2.2.2+1)) (n:Int) h.2.2.2.1[n].2.1.2.2)=_ from ev,ab]
theorem Tr (h:Host)(x:Bytes)(k:Qu 900000000 h)(hx:x.length<=10^9):rQ h x=some (wA h x):=by
 have z:=k.z;have z1:h.1.length<=900000000:=z.1.1;have z2:h.2.1.length<=900000000:=z.2.1.1;have zf:h.2.2.2.2.2.2.2.1.2.2.length<=900000000:=z.2.2.2.2.2.2.2.1.2.2.1;have s1:h.2.2.2.2.2.2.2.2.1.1.length<=900000000:=z.2.2.2.2.2.2.2.2.1.1.1;have s2:h.2.2.2.2.2.2.2.2.1.2.1.length<=900000000:=z.2.2.2.2.2.2.2.2.1.2.1.1;have s3:h.2.2.2.2.2.2.2.2.1.2.2.2.length<=900000000:=z.2.2.2.2.2.2.2.2.1.2.2.2.1;unfold rQ wA;rw[E1 h (z.mono),ab,O9 h (k.sz),ab];cases hb:vd h;rfl;have hl:=ER (by grind[vd]:FN h=true);have hr:=IS hb;simp only[aj,ae,RJ x hx,ab,VS h.2.2.2.2.2.2.2.1 _ (show h.2.2.2.2.2.2.2.1.2.2.length<=10^9 by omega),ab5 h.2.2.2.2.2.2.2.2.1 _ _ (show h.2.2.2.2.2.2.2.2.1.1.length<=10^9 by omega) (show h.2.2.2.2.2.2.2.2.1.2.1.length<=10^9 by omega) (show h.2.2.2.2.2.2.2.2.1.2.2.2.length<=10^9 by omega)];generalize mn x=f;cases f.2 !=0;case true=>rfl
 cases yF h.2.2.2.2.2.2.2.1 f.1;rfl;simp only[aj,ae];have lh:=RO (s:=h.2.2.2.2.2.2.2.2.1) (q:=(h.2.2.2.1.length:Int)) (p:=f.1);generalize xx h.2.2.2.2.2.2.2.2.1 (h.2.2.2.1.length:Int) f.1=r at lh⊢;rcases lh with rfl|⟨n,rfl,hn⟩;rfl;have i1:n<h.2.2.2.1.length:=by omega
 have i2:n<h.2.2.2.2.2.1.length:=by omega
 have hq:=(DT (hr n i1)).1;have hqi:=tj hq;have ha:=IA (show 1000<=900000000 by omega) (l:=h.2.1) (d:=0) (k:=h.2.2.2.2.2.2.2.2.1.2.2.1) (p:=f.1) (c:=h.2.2.2.2.2.2.2.2.2.2.1) z.1 (z.2.2.2.1.2 _ (aN i1)) hq;have ev:=Ww (h:=F5 h h.2.2.2.2.2.2.2.2.2.2.2.2.2.2.2.1 h.2.2.2.2.2.2.2.2.2.2.2.2.2.2.2.2.1 h.2.2.2.2.2.2.2.2.2.2.2.2.2.2.2.2.2.1 (ak (h.2.2.2.2.2.2.2.2.2.2.2.2.2.2.2.2.2.2+1))) (k:=n) (b:=h.2.2.2.1[n].2.1.2.2) (f:=kW h.2.1 h.1 0 h.2.2.2.1[n] h.2.2.2.2.2.2.2.2.1.2.2.1 f.1 h.2.2.2.2.2.2.2.2.2.2.1) i1 i2 ha.2.2.2 (by omega);rw[show((n:Int)== -1)=false from by rw[cM];omega,al (show¬(n:Int)<0 by omega),aA,ax i1];simp only[ae,aY i1,ab,Yx h.2.1 h.1 0 _ _ _ _ (show h.2.1.length<=10^9 by omega) (show h.1.length<=10^9 by omega)];rw[show(nB ((kW h.2.1 h.1 0 h.2.2.2.1[n] h.2.2.2.2.2.2.2.2.1.2.2.1 f.1 h.2.2.2.2.2.2.2.2.2.2.1).1,h.2.1,h.2.2.1,h.2.2.2.1.set n (kW h.2.1 h.1 0 h.2.2.2.1[n] h.2.2.2.2.2.2.2.2.1.2.2.1 f.1 h.2.2.2.2.2.2.2.2.2.2.1).2,h.2.2.2.2.1,h.2.2.2.2.2.1,h.2.2.2.2.2.2.1,h.2.2.2.2.2.2.2.1,h.2.2.2.2.2.2.2.2.1,h.2.2.2.2.2.2.2.2.2.1,h.2.2.2.2.2.2.2.2.2.2.1,h.2.2.2.2.2.2.2.2.2.2.2.1,h.2.2.2.2.2.2.2.2.2.2.2.2.1,h.2.2.2.2.2.2.2.2.2.2.2.2.2.1,ak (h.2.2.2.2.2.2.2.2.2.2.2.2.2.2.1+1),h.2.2.2.2.2.2.2.2.2.2.2.2.2.2.2.1,h.2.2.2.2.2.2.2.2.2.2.2.2.2.2.2.2.1,h.2.2.2.2.2.2.2.2.2.2.2.2.2.2.2.2.2.1,ak (h.2.2.2.2.2.2.2.2.2.2.2.2.2.2.2.2.2.2+1)) (n:Int) h.2.2.2.1[n].2.1.2.2)=_ from ev,ab]
theorem VJ {n:Nat}(hn:1000<=n)(x:Bytes)(k:Qu n h):Qu n (wA h x)/\(wA h x).2.2.1=h.2.2.1/\(wA h x).2.2.2.2.1.length=h.2.2.2.2.1.length:=by
 have z:=k.z;have zc:∀a b c d,Qu n (F5 h a b c d):=λa b c d=>⟨⟨z.1,z.2.1,z.2.2.1,z.2.2.2.1,z.2.2.2.2.1,z.2.2.2.2.2.1,z.2.2.2.2.2.2.1,z.2.2.2.2.2.2.2.1,z.2.2.2.2.2.2.2.2.1,z.2.2.2.2.2.2.2.2.2.1,z.2.2.2.2.2.2.2.2.2.2.1,z.2.2.2.2.2.2.2.2.2.2.2.1,z.2.2.2.2.2.2.2.2.2.2.2.2.1,z.2.2.2.2.2.2.2.2.2.2.2.2.2.1,bX,bX,bX,bX,bX⟩,k.t⟩
 unfold wA;cases hb:vd h;exact⟨k,rfl,rfl⟩;have hr:=IS hb;generalize mn x=f;cases f.2 !=0;case true=>exact⟨zc ..,rfl,rfl⟩
 cases yF h.2.2.2.2.2.2.2.1 f.1;exact⟨zc ..,rfl,rfl⟩;simp only[aj,ae];generalize xx h.2.2.2.2.2.2.2.2.1 (h.2.2.2.1.length:Int) f.1=r;cases r== -1;case true=>exact⟨zc ..,rfl,rfl⟩
 simp only[ae];rcases hq:h.2.2.2.1[r.toNat]? with _|q;exact⟨k,rfl,rfl⟩;obtain⟨hi,hqe⟩:=aD.1 hq;have hqd:=(DT (hr _ hi)).1;rw[hqe]at hqd;have ha:=IA hn (l:=h.2.1) (d:=0) (k:=h.2.2.2.2.2.2.2.2.1.2.2.1) (p:=f.1) (c:=h.2.2.2.2.2.2.2.2.2.2.1) z.1 (z.2.2.2.1.2 _ (dw hq)) hqd;have zc':=zc h.2.2.2.2.2.2.2.2.2.2.2.2.2.2.2.1 h.2.2.2.2.2.2.2.2.2.2.2.2.2.2.2.2.1 h.2.2.2.2.2.2.2.2.2.2.2.2.2.2.2.2.2.1 (ak (h.2.2.2.2.2.2.2.2.2.2.2.2.2.2.2.2.2.2+1));have kk:=Wv (h:=F5 h h.2.2.2.2.2.2.2.2.2.2.2.2.2.2.2.1 h.2.2.2.2.2.2.2.2.2.2.2.2.2.2.2.2.1 h.2.2.2.2.2.2.2.2.2.2.2.2.2.2.2.2.2.1 (ak (h.2.2.2.2.2.2.2.2.2.2.2.2.2.2.2.2.2.2+1))) (k:=r.toNat) (b:=q.2.1.2.2) (f:=kW h.2.1 h.1 0 q h.2.2.2.2.2.2.2.2.1.2.2.1 f.1 h.2.2.2.2.2.2.2.2.2.2.1) ha.2.1;exact⟨⟨Y3 zc'.z ha.1 ha.2.2.1,by rw[kk.tx];exact k.t⟩,kk.tx,kk.pl⟩
def fnZ:aC:=(0,0,(0,0,0),false,0,0)
def Jt (b:Mw):Bool:=dz b.1 0 10000&&(dz b.2.1 0 100000&&dz b.2.2 0 b.2.1)
def ac0 (n:Int)(f:aC):Bool:=dz f.1 0 7&&(dz f.2.1 1 (ak (n-1))&&(Jt f.2.2.1&&(dz f.2.2.2.2.1 0 1000000000000&&dz f.2.2.2.2.2 0 1000000000000)))
def ag6 (f g:aC):Bool:=(g.1==f.1)||(g.2.1==f.2.1)
def fnB (l:aq aC)(n:Int)(i:Nat):Bool:=ac0 n (l.getD i fnZ)&&(range i).all (λj=> !(ag6 (l.getD i fnZ) (l.getD j fnZ)))
def jy (l:aq aC)(ps:aq Port):Bool:=jD ps&&(range l.length).all (fnB l (ps.length:Int))
theorem I7 (b:Mw):tk b=some (Jt b):=by grind[tk,cx,ab,Jt]
theorem Od (b:Mw):xH b=some (Jt b):=I7 b
theorem Iq (l:aq aC)(ps:aq Port)(h:l.length<=10^9)(h1:ps.length<=10^9)(h2:∀p∈ps,p.2.1.length<=10^9):ny l ps=some (jy l ps):=by
 unfold ny jy;rw[fQ (hit:=some false) (fin:=some true) (fnB l (ps.length:Int)) l.length (by omega) (λi nx hi=>?hs) (λnx=>?hf)]
 case hs=>
  simp only[mH]
  rw[jh,aY hi,ai (n:=(i:Int)+1) (by omega) (by omega)]
  simp only[af,ab,cx,I7,bM,cT]
  rw[fQ (hit:=some false) (fin:=nx ((i:Int)+1)) (λj=> !(ag6 l[i] (l.getD j fnZ))) i (by omega) (λj nx' hj=>?hs2) (λnx'=>?D0)]
  case hs2=>
   have hjl:j<l.length:=by omega
   simp only[lL]
   rw[jh,aY hjl,ai (n:=(j:Int)+1) (by omega) (by omega)]
   simp only[af,ab,bM,cT,eu hjl,jv];rfl
  all_goals grind[lL,fnB,ac0]
 case hf=>
  grind[mH]
 simp only[Hz ps h1 h2,ab];grind
theorem Ia (l:aq aC)(ps:aq Port)(h:l.length<=10^9)(h1:ps.length<=10^9)(h2:∀p∈ps,p.2.1.length<=10^9):mT l ps=some (jy l ps):=by
 unfold mT jy;rw[fQ (hit:=some false) (fin:=some true) (fnB l (ps.length:Int)) l.length (by omega) (λi nx hi=>?hs) (λnx=>?hf)]
 case hs=>
  simp only[my]
  rw[jh,aY hi,ai (n:=(i:Int)+1) (by omega) (by omega),V8 l i (by omega)]
  simp only[af,ab,cQ,Od,bM,cT]
  have hti:(l.take i).length=i:=by simp;omega
  rw[hti,fQ (hit:=some false) (fin:=nx ((i:Int)+1)) (λj=> !(ag6 l[i] (l.getD j fnZ))) i (by omega) (λj nx' hj=>?hs2) (λnx'=>?D0)]
  case hs2=>
   have hjl:j<l.length:=by omega
   have hjt:j<(l.take i).length:=by omega
   simp only[mz]
   rw[jh,aY hjt,ai (n:=(j:Int)+1) (by omega) (by omega),List.getElem_take]
   simp only[af,ab,bM,cT,eu hjl,jv];rfl
  all_goals grind[mz,fnB,ac0]
 case hf=>
  grind[my]
 simp only[Hm ps h1 h2,ab];grind
def I5 (l:aq aC)(i:Nat):Bool:=((l.getD i fnZ).1==(i:Int))&&((l.getD i fnZ).2.1==(i:Int)+1)
theorem XO (l:aq aC)(h:l.length<=10^9):vz l=some ((range l.length).all (I5 l)):=by unfold vz;rw[fQ (hit:=some false) (fin:=some true) (I5 l) l.length (by omega) (λi nx hi=>?hs) (λnx=>?hf)];all_goals grind[vA,aY,ai,ab,I5]
theorem Tm (a b:Filter)(h:a.2.2.length<=10^9):uv a b=some (WA a b):=JT a b h
theorem NV:∀(ms:aq bO)(i:Nat)(s:cG×aq Port),TS i s->ms.all yX=true->TS (i+ms.length) (ms.foldl It s)
 |[],i,s,h,_=>h
 |m::ms,i,s,h,hm=>by rw[bC,ah]at hm;have hu:=DZ m.1.2.2 s.1;have hl:=DF hm.1;have:=NV ms (i+1) (It s m) (h.port hm.1 _) hm.2;grind
theorem VB {ms:aq bO}(h:(hG ms).2=true):ms.length<=3:=by grind[hG,bW]
theorem Ht (ms:aq bO):(hG ms).1.length<=10^9/\∀p∈(hG ms).1,p.2.1.length<=10^9:=by unfold hG;cases hc:dz (ms.length:Int) 1 3&&(ms.all yX&&jD (EU ms))with|false=>grind|true=>simp only[ah,bW]at hc;have:=NV ms 0 ([0],[]) ⟨by simp,rfl,by simp⟩ hc.2.1;rw[cj]at this;exact GF this (by omega)
def afG (v:Int)(b:Bytes):Bytes:=((fP v++fP (b.length:Int))++b)++fP (QD ((fP v++fP (b.length:Int))++b))
def nn (v:Int)(b:Bytes):Bytes×Bool:=bif dz v 0 1000000&&decide (b.length<=84) then(afG v b,true) else([],false)
theorem aeO (v:Int)(b:Bytes)(h:b.length<=10^9):wK v b=some (nn v b):=by have l1:=de v;have l2:=de (b.length:Int);unfold wK nn;rw[ai (by omega) (by omega)];simp only[cx,ab];cases dz v 0 1000000 with|false=>rfl|true=>by_cases hb:b.length<=84;have l3:=de (QD ((fP v++fP (b.length:Int))++b));rw[al (show¬((b.length:Int)+12>96) by omega),aw hb];simp only[aj,ae,ab,cW,af,jF];rw[aP (by omega),aP (by simp only[au];omega),Z1 _ (by simp only[au];omega)];simp only[ab,jF];rw[aP (by simp only[au];omega)];rfl;rw[aw (show((b.length:Int)+12>96) by omega),al hb];rfl
theorem adL (v:Int)(b:Bytes)(h:b.length<=10^9):vn v b=some (nn v b):=by have l1:=de v;have l2:=de (b.length:Int);unfold vn nn;rw[ai (by omega) (by omega)];simp only[cQ,ab];cases dz v 0 1000000 with|false=>rfl|true=>by_cases hb:b.length<=84;have l3:=de (QD ((fP v++fP (b.length:Int))++b));rw[al (show¬(12+(b.length:Int)>96) by omega),aw hb];simp only[aj,ae,ab,cW,af,uo];rw[aP (by omega),aP (by simp only[au];omega),Zy _ (by simp only[au];omega)];simp only[ab,uo];rw[aP (by simp only[au];omega)];rfl;rw[aw (show(12+(b.length:Int)>96) by omega),al hb];rfl
def afb (s:Bytes)(n:Nat):Int:=bif (nn (dB s 0) ((s.take (8+n)).drop 8)).2&&((nn (dB s 0) ((s.take (8+n)).drop 8)).1==s.take (12+n)) then dB s 0 else-1
def xh (s:Bytes):Int:=if 0<=dB s 4/\dB s 4<=(s.length:Int)-12 then afb s (dB s 4).toNat else-1
theorem UA (s:Bytes)(a:Int): -1<=dB s a/\dB s a<=4294967295:=by grind[dB,eI]
theorem ack {n:Nat}(h:¬n<=84)(hs:n+12<=s.length):afb s n= -1:=by grind[nn,afb]
theorem af8 (s:Bytes)(h:s.length<=10^9):lN s=some (xh s):=by
 unfold lN xh;have hg:=UA s 4;simp only[Bb s _ h,cx,ab];rw[ai (n:=dB s 4+12) (by omega) (by omega),ai (n:=8+dB s 4) (by omega) (by omega)];generalize dB s 4=n at hg;by_cases hc:0<=n/\n<=(s.length:Int)-12;rw[aH hc];obtain⟨m,rfl⟩:=aF hc.1;by_cases h84:m<=84;have e1:dz (m:Int) 0 84=true:=bW.2 (by omega);have e2:sub s 8 (8+(m:Int))=some ((s.take (8+m)).drop 8):=by unfold sub;rw[zip];rfl
 have e3:sub s 0 ((m:Int)+12)=some (s.take (12+m)):=by unfold sub;rw[zip,show((m:Int)+12).toNat=12+m by omega];rfl
 rw[e1,al (show¬((m:Int)+12>(s.length:Int)) by omega),e2,e3];simp only[aj,ae,ab,aA];rw[aeO _ _ (by simp only[bl,bm];omega)];unfold afb;simp only[ab];cases (nn (dB s 0) ((s.take (8+m)).drop 8)).2<;>cases ((nn (dB s 0) ((s.take (8+m)).drop 8)).1==s.take (12+m))<;>rfl;have e1:dz (m:Int) 0 84=false:=by rw[Bool.eq_false_iff,ne_eq,bW];omega
 rw[e1,aA,ack h84 (by omega)];rfl;rw[aG hc];by_cases hb:dz n 0 84=true;have:=bW.1 hb;rw[hb,aw (show n+12>(s.length:Int) by omega)];rfl;have gA:dz n 0 84=false:=by simpa using hb
 rw[gA];rfl
theorem ZB (s:Bytes)(h:s.length<=10^9:=by omega):lq s=some (xh s):=by
 unfold lq xh;have hg:=UA s 4;simp only[A8 s _ h,ab];rw[ai (n:=12+dB s 4) (by omega) (by omega),ai (n:=8+dB s 4) (by omega) (by omega),ai (n:=(s.length:Int)-12) (by omega) (by omega)];generalize dB s 4=n at hg;by_cases hc:0<=n/\n<=(s.length:Int)-12;rw[aH hc];obtain⟨m,rfl⟩:=aF hc.1;have e2:sub s 8 (8+(m:Int))=some ((s.take (8+m)).drop 8):=by unfold sub;rw[zip];rfl
 have e3:sub s 0 (12+(m:Int))=some (s.take (12+m)):=by unfold sub;rw[zip,show(12+(m:Int)).toNat=12+m by omega];rfl
 rw[al (show¬((m:Int)<0) by omega),al (show¬((m:Int)>(s.length:Int)-12) by omega),e2,e3];simp only[ae,ab,aA];rw[adL _ _ (by simp only[bl,bm];omega)];unfold afb;simp only[ab];cases (nn (dB s 0) ((s.take (8+m)).drop 8)).2<;>cases ((nn (dB s 0) ((s.take (8+m)).drop 8)).1==s.take (12+m))<;>rfl;rw[aG hc];by_cases h0:n<0;rw[aw h0];rfl;rw[al h0,aw (show n>(s.length:Int)-12 by omega)];rfl
def Gc (f:cy):Bool:=((f.length:Int)==2)&&((((f.getD 0 []).length:Int)==96)&&(((f.getD 1 []).length:Int)==96))
theorem QO {f:cy}(h:Gc f=true):f=[f.getD 0 [],f.getD 1 []]/\(f.getD 0 []).length=96/\(f.getD 1 []).length=96:=by simp only[Gc,ah,bk]at h;match f,h with|[a,b],h=>grind
theorem RE (f:cy):AD f=some (Gc f):=by unfold AD Gc;match f with|[]=>rfl|[a]=>rfl|[a,b]=>simp_all[idx]|a::b::c::r=>rfl
theorem aaT (f:cy):Er f=some (Gc f):=RE f
def Bg (f:cy):Int:=bif Gc f then(if xh (f.getD 0 [])<0/\xh (f.getD 1 [])<0 then-1 else if xh (f.getD 1 [])>xh (f.getD 0 []) then 1 else 0) else-1
theorem aeG (f:cy):yj f=some (Bg f):=by unfold yj Bg;rw[RE,ab];cases hf:Gc f with|false=>rfl|true=>obtain⟨e,l0,l1⟩:=QO hf;generalize f.getD 0 []=a at*;generalize f.getD 1 []=b at*;subst e;have i0:idx [a,b] 0=some a:=rfl;have i1:idx [a,b] 1=some b:=rfl;grind[ab,af8]
theorem adC (f:cy):xG f=some (Bg f):=by
 unfold xG Bg;rw[aaT,ab];cases hf:Gc f with
 |false=>rfl
 |true=>
  obtain⟨e,l0,l1⟩:=QO hf;generalize f.getD 0 []=a at*;generalize f.getD 1 []=b at*;subst e;have i0:idx [a,b] 0=some a:=rfl;have i1:idx [a,b] 1=some b:=rfl;simp only[aj,ae,af,i0,i1,ab,ZB a,ZB b];by_cases r:xh b>xh a;have r':¬xh a>=xh b:=by omega
  by_cases p:xh a<0<;>by_cases q:xh b<0<;>simp[p,q,r,r'];have r':xh a>=xh b:=by omega
  by_cases p:xh a<0<;>by_cases q:xh b<0<;>simp[p,q,r,r']
def F3 (c:xB):Bool:=dz c.1 0 1125899906842624&&(dz c.2.1 0 1048575&&(dz c.2.2.1 0 67108864&&dz c.2.2.2 0 1099511627776))
theorem RB (c:xB):AA c=some (F3 c):=by grind[AA,cx,ab,F3]
theorem aaP (c:xB):Ep c=some (F3 c):=RB c
def Ju (c:dH)(i:Nat):Bool:=(c.1[i]?.all vd)&&WA (c.1[i]?.map (·.2.2.2.2.2.2.2.1)) (c.2.2.1[i]?.map (·.1))
def Ka (c:dH):Bool:=((c.1.length:Int)==(c.2.2.1.length:Int))&&((c.2.1.length:Int)==(c.2.2.1.length:Int))
def yG (c:dH):Bool:=(hG c.2.2.1).2&&(Ka c&&(jy c.2.1 (hG c.2.2.1).1&&((!decide (Bg c.2.2.2.1<0)&&F3 c.2.2.2.2.1)&&((range c.1.length).all (Ju c)&&(range c.1.length).all (I5 c.2.1)))))
structure WN (c:dH):Prop where
 h0:c.1.length<=10^9
 f0:c.2.1.length<=10^9
 m:∀m∈c.2.2.1,m.1.2.2.length<=10^9
 h1:∀h∈c.1,R3 h
theorem Hp (h:Ka c=true):c.1.length=c.2.2.1.length/\c.2.1.length=c.2.2.1.length:=by grind[Ka]
theorem Nx (i:Nat)(hi:i<c.1.length)(hj:i<c.2.2.1.length):Ju c i=(vd c.1[i]&&WA c.1[i].2.2.2.2.2.2.2.1 c.2.2.1[i].1):=by grind[Ju,Jz]
theorem VU (c:dH)(z:WN c):zi c=some (yG c):=by
 have hp:=Ht c.2.2.1;unfold zi yG;simp only[GM _ z.m,Iq _ _ z.f0 hp.1 hp.2,aeG,RB,ab,bM,cT,bne];rw[show((!((c.1.length:Int)==(c.2.2.1.length:Int)))||((!((c.2.1.length:Int)==(c.2.2.1.length:Int)))||((!jy c.2.1 (hG c.2.2.1).1)||(decide (Bg c.2.2.2.1<0)|| !F3 c.2.2.2.2.1))))= !(Ka c&&(jy c.2.1 (hG c.2.2.1).1&&(!decide (Bg c.2.2.2.1<0)&&F3 c.2.2.2.2.1))) by grind[Ka]];cases (hG c.2.2.1).2;rfl;cases hl:Ka c;rfl;cases jy c.2.1 (hG c.2.2.1).1;rfl;cases (!decide (Bg c.2.2.2.1<0)&&F3 c.2.2.2.2.1);rfl;have hL:=Hp hl;have h0:=z.h0;simp only[aj,cR,gP,ae,bp];rw[fQ (hit:=some false) (fin:=some true) (λi=>Ju c i&&I5 c.2.1 i) c.2.2.1.length (by omega) (λi nx hi=>?hs) (λnx=>?hf)]
 case hs=>
  have q1:i<c.1.length:=by omega
  have q2:i<c.2.1.length:=by omega
  have hm:=aN q1
  rw[Nx i q1 hi]
  simp only[wD]
  rw[jh,aY q1,aY hi,aY q2,ai (n:=(i:Int)+1) (by omega) (by omega)]
  simp only[af,ab,O9 _ (z.h1 _ hm),Tm _ _ (z.h1 _ hm).f1,bM,cT,bne,I5,eu q2]
  grind
 case hf=>
  grind[wD]
 grind
theorem UZ (c:dH)(z:WN c):yH c=some (yG c):=by
 have hp:=Ht c.2.2.1;unfold yH yG;simp only[Gs _ z.m,Ia _ _ z.f0 hp.1 hp.2,XO _ z.f0,adC,aaP,ab,bM,cT,cF,bne];rw[show((!((c.1.length:Int)==(c.2.2.1.length:Int)))|| !((c.2.1.length:Int)==(c.2.2.1.length:Int)))= !(Ka c) by grind[Ka]];cases (hG c.2.2.1).2;rfl;cases hl:Ka c;rfl;have hL:=Hp hl;have h0:=z.h0;simp only[aj,cR,ae,bp];have hd:decide (Bg c.2.2.2.1>=0)= !decide (Bg c.2.2.2.1<0):=by grind
 rw[hd,fQ (hit:=some false) (fin:=some (jy c.2.1 (hG c.2.2.1).1&&((range c.2.1.length).all (I5 c.2.1)&&(!decide (Bg c.2.2.2.1<0)&&F3 c.2.2.2.2.1)))) (Ju c) c.1.length (by omega) (λi nx hi=>?hs) (λnx=>?hf)]
 case hs=>
  have q1:i<c.2.2.1.length:=by omega
  have hm:=aN hi
  rw[Nx i hi q1]
  simp only[vg]
  rw[jh,aY hi,aY q1,ai (n:=(i:Int)+1) (by omega) (by omega)]
  simp only[af,ab,Oh _ (z.h1 _ hm),JT _ _ (z.h1 _ hm).f1,bM,cT]
  grind
 all_goals grind[vg]
theorem map_take {β:Type}(f:α->β)(l:aq α)(i:Nat)(hi:i<l.length):(l.take i).map f++[f l[i]]=(l.take (i+1)).map f:=by grind[aU]
theorem MC (m:bO)(h:m.1.2.2.length<=10^9):rA m=some m:=by grind[rA,Gr,ab]
theorem MN (m:bO)(h:m.1.2.2.length<=10^9):AN m=some m:=by grind[AN,GL,ab]
theorem P3 (l:aq bO)(h:l.length<=10^9)(hx:∀m∈l,m.1.2.2.length<=10^9):vu l=some l:=by unfold vu;refine(dc (λi=>(l.take i,(i:Int))) l.length (by omega) (λi nx hi=>?_) (λnx=>?_));simp only[pB];rw[jh,aY hi,ai (by omega) (by omega)];simp only[af,ab,MC _ (hx _ (aN hi))];rw[aP (by simp;omega),<-aU hi];rfl;simp only[pB];rw[gZ,ch];rfl
theorem Cl (l:aq aC)(h:l.length<=10^9):kx l=some l:=by grind[kx,fy]
structure pj (ps:List Port):Prop where
 n:ps.length<=10^9
 v:∀p∈ps,p.2.1.length<=10^9
def UB (ps:aq Port)(e:Int)(p:aM):Bool:=jD ps&&(ej p&&dz e 0 ((ps.length:Int)-1))
def TH (x:Port)(p:aM):Int:=bif p.2.2.1== -1 then x.2.2.1 else p.2.2.1
def jx (ps:aq Port)(e:Int)(p:aM):Int:=
 bif !UB ps e p then-1 else
 bif !hasB (ps.getD e.toNat mm).2.1 (TH (ps.getD e.toNat mm) p)||((e !=0)&&((ps.getD e.toNat mm).2.2.2&&((ps.getD e.toNat mm).1 !=p.2.1))) then-1 else TH (ps.getD e.toNat mm) p
theorem YO (h:ej p=true):(decide (p.2.2.1<0))=(p.2.2.1== -1):=by grind[ej,JH,bW]
theorem IU (ps:aq Port)(e:Int)(p:aM)(z:pj ps):mR ps e p=some (jx ps e p):=by
 have hn:=z.n;unfold mR jx UB;rw[Hm ps hn z.v,ab];cases hp:jD ps;rfl;rw[oL,ab];cases hs:ej p;rfl;rw[ai (n:=(ps.length:Int)-1) (by omega) (by omega),cQ];cases he:dz e 0 ((ps.length:Int)-1);rfl;have h1:=bW.1 he;obtain⟨e,rfl⟩:=aF h1.1;have hl:e<ps.length:=by omega
 have hv:=z.v _ (aN hl);simp only[aj,ae,ab,cW,aY hl,aA,eu hl,Hl _ _ hv,TH];cases p.2.2.1== -1<;>simp only[af,ae]<;>cases hasB ps[e].2.1 p.2.2.1<;>cases hasB ps[e].2.1 ps[e].2.2.1<;>cases (e:Int) !=0<;>cases ps[e].2.2.2<;>cases ps[e].1 !=p.2.1<;>rfl
theorem I8 (ps:aq Port)(e:Int)(p:aM)(z:pj ps):nu ps e p=some (jx ps e p):=by
 have hn:=z.n;unfold nu jx UB;rw[Hz ps hn z.v,ab];cases hp:jD ps;rfl;rw[oU,ab];cases hs:ej p;rfl;rw[ai (n:=(ps.length:Int)-1) (by omega) (by omega),cx];cases he:dz e 0 ((ps.length:Int)-1);rfl;have h1:=bW.1 he;obtain⟨e,rfl⟩:=aF h1.1;have hl:e<ps.length:=by omega
 have hv:=z.v _ (aN hl);rw[YO hs];simp only[aj,ae,ab,cW,aY hl,aA,eu hl,Hy _ _ hv,TH];cases p.2.2.1== -1<;>simp only[af,ae]<;>cases hasB ps[e].2.1 p.2.2.1<;>cases hasB ps[e].2.1 ps[e].2.2.1<;>cases (e:Int) !=0<;>cases ps[e].2.2.2<;>cases ps[e].1 !=p.2.1<;>rfl
def CY (ps:aq Port)(o v:Int)(p:aM):aM:=
 bif jD ps&&(dz o 0 ((ps.length:Int)-1)&&(hasB (ps.getD o.toNat mm).2.1 v&&ej p)) then
  (bif v==(ps.getD o.toNat mm).2.2.1 then(p.1,p.2.1, -1,p.2.2.2) else(p.1,p.2.1,v,p.2.2.2)) else pk0
theorem abX (ps:aq Port)(o v:Int)(p:aM)(z:pj ps):rR ps o v p=some (CY ps o v p):=by
 have hn:=z.n;unfold rR CY;rw[Hz ps hn z.v,ab];cases hp:jD ps;rfl;rw[ai (n:=(ps.length:Int)-1) (by omega) (by omega),cx];cases he:dz o 0 ((ps.length:Int)-1);rfl;have h1:=bW.1 he;obtain⟨o,rfl⟩:=aF h1.1;have hl:o<ps.length:=by omega
 have hv:=z.v _ (aN hl);simp only[aj,ae,ab,bp,aY hl,aA,eu hl,Hy _ _ hv,oU];cases hasB ps[o].2.1 v<;>cases ej p<;>cases v==ps[o].2.2.1<;>rfl
theorem aaV (ps:aq Port)(o v:Int)(p:aM)(z:pj ps):ra ps o v p=some (CY ps o v p):=by
 have hn:=z.n;unfold ra CY;rw[Hm ps hn z.v,ab];cases hp:jD ps;rfl;rw[ai (n:=(ps.length:Int)-1) (by omega) (by omega),cQ];cases he:dz o 0 ((ps.length:Int)-1);rfl;have h1:=bW.1 he;obtain⟨o,rfl⟩:=aF h1.1;have hl:o<ps.length:=by omega
 have hv:=z.v _ (aN hl);simp only[aj,ae,ab,bp,aY hl,aA,eu hl,Hl _ _ hv,oL];cases hasB ps[o].2.1 v<;>cases ej p<;>cases v==ps[o].2.2.1<;>rfl
def Ic (ps:aq Port)(e v:Int)(j:Nat):Bool:=((j:Int) !=e)&&hasB (ps.getD j mm).2.1 v
def iP (l:dy):cG:=l.map Int.ofNat
def bcB (p:aM):Bool:=p.1==281474976710655
theorem LR {q:Nat->Bool}(l:dy)(i:Nat)(hi:i<l.length):(l.take (i+1)).filter q=bif q l[i] then(l.take i).filter q++[l[i]] else(l.take i).filter q:=by grind[aU]
theorem NN {q:Nat->Bool}(l:dy)(i:Nat):((l.take i).filter q).length<=l.length:=bf (List.length_filter_le _ _) (by simp;omega)
theorem Oi (ps:aq Port)(e v:Int)(l:dy)(hl:l.length<=10^9)(hb:∀j∈l,j<ps.length)(z:pj ps): aJ (fK (λ(y7:cG) (y8:Int)=>some y7) ps e v (iP l) ((iP l).length:Int)) fuel (([]:cG),0)=some (iP (l.filter (Ic ps e v))):=by
 refine dc (λi=>(iP ((l.take i).filter (Ic ps e v)),(i:Int))) l.length (by omega) (λi nx hi=>?_) (λnx=>?_);have hj:=hb _ (aN hi);have hv:=z.v _ (aN hj);have QT:i<(iP l).length:=by simpa[iP]using hi
 have e1:(iP l)[i]'QT=(l[i]:Int):=by simp[iP]
 have hf:=NN (q:=Ic ps e v) l i;simp only[fK];rw[aw (by simpa[iP]using hi),aY QT,e1,ai (by omega) (by omega)];simp only[af,ab,aY hj,Hl _ _ hv];rw[LR l i hi,Ic,eu hj];have hr:∀k:ar cG,room (List.length (iP ((l.take i).filter (Ic ps e v)))+List.length ([(l[i]:Int)])) k=k:=λk=>aP (by simp only[iP,cn,bw];omega);cases (l[i]:Int) !=e with|false=>rfl|true=>cases hasB ps[l[i]].2.1 v with|false=>rfl|true=>simp only[af,ab,cW];rw[hr];simp[iP]
 simp only[fK];rw[al (by simp[iP]),ch];rfl
def Bs (ps:aq Port)(p:aM):Nat->Nat
 |0=>0
 |i+1=>bif (ps.getD (i+1) mm).1==p.1 then i+1 else Bs ps p i
def xa (ps:aq Port)(e:Int)(p:aM):dy:=
 (range ps.length).filter λj=>Ic ps e (jx ps e p) j&&((j==Bs ps p (ps.length-1))||bcB p)
def E9 (ps:aq Port)(e:Int)(p:aM):cG:=bif decide (jx ps e p<0) then [] else iP (xa ps e p)
theorem Ml (ps:aq Port)(e:Int)(p:aM)(z:pj ps):lR ps e p=some (E9 ps e p):=by
 have hn:=z.n;unfold lR E9;rw[I8 ps e p z,ab];cases hd:decide (jx ps e p<0);case true=>rfl
 have hp:jD ps=true:=by cases hp:jD ps with|true=>rfl|false=>unfold jx UB at hd;rw[hp]at hd;simp at hd
 have h1:1<=ps.length:=by simp only[jD,ah,bW]at hp;omega
 simp only[ae];refine dc (λi=>((Bs ps p i:Int),((i+1:Nat):Int))) (ps.length-1) (by omega) (λi nx hi=>?_) (λnx=>?_);have hj:i+1<ps.length:=by omega
 simp only[lS];rw[jh,aY hj,ai (by omega) (by omega),Bs,eu hj];simp only[af,ab];cases ps[i+1].1==p.1<;>rfl
 ·simp only[lS];rw[gZ,ae];generalize hv:jx ps e p=v;have hsw:xa ps e p=(range ps.length).filter λj=>Ic ps e v j&&((j==Bs ps p (ps.length-1))||bcB p):=by rw[xa,hv]
  rw[hsw];generalize hq:(λj=>Ic ps e v j&&((j==Bs ps p (ps.length-1))||bcB p))=q;refine dc (λi=>(iP (((range ps.length).take i).filter q),(i:Int))) ps.length (by omega) (λi nx hi=>?_) (λnx=>?_)
  ·have WI:=z.v _ (aN hi);have QT:i<(range ps.length).length:=by simpa using hi
   have hf:=NN (q:=q) (range ps.length) i;simp only[kI];rw[jh,aY hi,ai (by omega) (by omega)];simp only[af,ab,Hy _ _ WI];rw[LR (range ps.length) i QT,List.getElem_range];have eq:q i=(((i:Int) !=e)&&hasB ps[i].2.1 v&&(((i:Int)==(Bs ps p (ps.length-1):Int))||(p.1==281474976710655))):=by rw[<-hq];simp only[Ic,eu hi,bcB];congr 2;rw[ez,bk,bk];omega
   have hr:∀k:ar cG,room (List.length (iP (((range ps.length).take i).filter q))+List.length ([(i:Int)])) k=k:=λk=>aP (by simp only[iP,cn,bw];rw[List.length_range]at hf;omega);rw[eq];cases (i:Int) !=e;rfl;cases hasB ps[i].2.1 v;rfl;simp only[af,ab,bp];cases ((i:Int)==(Bs ps p (ps.length-1):Int))<;>cases p.1==281474976710655<;>simp only[af,ae,ab,cD,Bool.or_true,Bool.true_or]<;>first|rfl|(rw[hr];simp[iP])
  simp only[kI];rw[gZ,bI (by simp)];rfl
theorem QN (q:Nat->Bool):∀l:dy,(Eg q l= -1/\∀j∈l,q j=false)\/∃j∈l,q j=true/\Eg q l=(j:Int)
 |[]=> .inl ⟨rfl,by simp⟩
 |j::l=>by rw[Eg];cases hj:q j with|true=>grind|false=>simp only[ae];rcases QN q l with⟨h1,h2⟩|⟨k,h1,h2,h3⟩;all_goals grind
theorem N8:∀i,(∀j,1<=j->j<=i->((ps.getD j mm).1==p.1)=false)->Bs ps p i=0
 |0,_=>rfl
 |i+1,h=>by rw[Bs,h (i+1) (by omega) (by omega)];exact N8 i λj h1 h2=>h j h1 (by omega)
theorem QV (hk:1<=k)(h:((ps.getD k mm).1==p.1)=true):∀i,k<=i->(∀j,1<=j->j<=i->((ps.getD j mm).1==p.1)=true->j=k)->Bs ps p i=k
 |0,hi,_=>by omega
 |i+1,hi,hu=>by rw[Bs];by_cases he:k=i+1;rw[<-he,h];rfl;cases hq:(ps.getD (i+1) mm).1==p.1 with|true=>grind|false=>exact QV hk h i (by omega) λj h1 h2=>hu j h1 (by omega)
theorem ZJ (hp:jD ps=true){i j:Nat}(h1:1<=i)(hij:i<j)(hj:j<ps.length):((ps.getD i mm).1==(ps.getD j mm).1)=false:=by simp only[jD,ah,ba,dm,OR,aQ]at hp;grind
theorem filter_one {q:Nat->Bool}{n:Nat}(hk:k<n):(range n).filter (λj=>q j&&(j==k))=[k].filter q:=by
 have h1:(range n).filter (λj=>j==k)=[k]:=by
  induction n with
  |zero=>omega
  |succ n ih=>
   rw[List.range_succ,List.filter_append];by_cases he:k=n;subst he;have:(range k).filter (λj=>j==k)=[]:=by rw[List.filter_eq_nil_iff];intro j hj;have:=dm.1 hj;simp;omega
   rw[this];simp;rw[ih (by omega)];have:([n]:dy).filter (λj=>j==k)=[]:=by simp;omega
   rw[this];rfl
 have h2:(λj=>q j&&(j==k))=λj=>q j&&(λj=>j==k) j:=rfl;rw[h2,<-List.filter_filter,h1]
theorem Gu (ps:aq Port)(e:Int)(p:aM)(z:pj ps):lv ps e p=some (E9 ps e p):=by
 have hn:=z.n;unfold lv E9;rw[IU ps e p z,ab];cases hd:decide (jx ps e p<0);case true=>rfl
 have hp:jD ps=true:=by cases hp:jD ps with|true=>rfl|false=>unfold jx UB at hd;rw[hp]at hd;simp at hd
 have h1:1<=ps.length/\ps.length<=8:=by simp only[jD,ah,bW]at hp;omega
 have apE:∀j,j<ps.length->(ps.getD j mm).1<=281474976710654:=by intro j hj;simp only[jD,ah,ba,dm,OR,M6,tA,bW]at hp;exact(hp.2 j hj).1.1.2.1.2
 simp only[ae,U9 ps p.1 hn,ab];generalize hv:jx ps e p=v;have hsw:xa ps e p=(range ps.length).filter λj=>Ic ps e v j&&((j==Bs ps p (ps.length-1))||bcB p):=by rw[xa,hv]
 rw[hsw];have ag8:bcB p=true->∀j,j<ps.length->((ps.getD j mm).1==p.1)=false:=by
  intro hb j hj;have:=apE j hj;have hb:p.1=281474976710655:=by simpa[bcB]using hb
  rw[hb,cM];omega
 rcases QN (λj=>(j !=0)&&((ps.getD j mm).1==p.1)) (List.range' 0 ps.length)with⟨hf,Hj⟩|⟨k,hk,hq,hf⟩;have Hj:∀j,1<=j->j<ps.length->((ps.getD j mm).1==p.1)=false:=by intro j h2 h3;have:=Hj j (by simp;omega);simp only[Bool.and_eq_false_iff,bne_eq_false_iff_eq]at this;rcases this with h|h;omega;exact h
 have hh:Bs ps p (ps.length-1)=0:=N8 _ λj h2 h3=>Hj j h2 (by omega);rw[hf,show decide ((-1:Int)>=0)=false from rfl,ae,hh];rw[show(p.1==281474976710655)=bcB p from rfl];cases hb:bcB p with|true=>simp only[af,Bool.or_true,gP];refine dc (λi=>(iP (range i),(i:Int))) ps.length (by omega) (λi nx hi=>?_) (λnx=>?_);simp only[kE];rw[jh,aP (by simp only[iP,cn,List.length_range,bw];omega),ai (by omega) (by omega),List.range_succ];simp only[af,iP,List.map_append];rfl;simp only[kE];rw[gZ,ae];exact Oi ps e v (range ps.length) (by simp;omega) (λj hj=>dm.1 hj) z|false=>simp only[ae,Bool.or_false];rw[filter_one (by omega)];exact Oi ps e v [0] (by simp) (by simp;omega) z
 have hkl:k<ps.length:=by simp at hk;omega
 simp only[ah,bne_iff_ne]at hq;have hb:bcB p=false:=by cases hb:bcB p with|false=>rfl|true=>rw[ag8 hb k hkl]at hq;cases hq.2
 have hh:Bs ps p (ps.length-1)=k:=QV (by omega) hq.2 _ (by omega) λj h2 h3 h4=>by rcases Nat.lt_trichotomy j k with g|g|g;have:=ZJ hp h2 g hkl;have a:=bk.1 h4;have b:=bk.1 hq.2;rw[a,b]at this;simp at this;exact g;have:=ZJ hp (show 1<=k by omega) g (show j<ps.length by omega);have a:=bk.1 h4;have b:=bk.1 hq.2;rw[a,b]at this;simp at this
 rw[hf,jh,af,hh,hb];simp only[Bool.or_false];rw[filter_one hkl];exact Oi ps e v [k] (by simp) (by simp;omega) z
theorem Mo {e:Int}:∀j∈xa ps e p,j<ps.length:=λj hj=>dm.1 (List.mem_filter.1 hj).1
theorem GU (ps:aq Port)(e:Int)(p:aM):(xa ps e p).length<=ps.length:=bf (List.length_filter_le _ _) (by simp)
theorem M7 (ms:aq bO):pj (hG ms).1:=⟨(Ht ms).1,(Ht ms).2⟩
theorem M0 {l:aq α}(h:k<l.length)(x:α):idx (l.set k x) (k:Int)=some x:=by rw[SK,List.getElem?_set_self h]
theorem JQ (c:dH)(z:cr 1000000000 iB c):sP c=some c:=by have h0:=z.1.1;unfold sP;simp only[Cl _ z.2.1.1,P3 _ z.2.2.1.1 (λm hm=>(z.2.2.1.2 m hm).1.2.2.1),Bv,tD _ z.2.2.2.1.1,pZ _ z.2.2.2.2.2.1.1,tD _ z.2.2.2.2.2.2.1,ab];refine(dc (λi=>((i:Int),c.1.take i,c.2)) c.1.length (by omega) (λi nx hi=>?_) (λnx=>?_));simp only[ru];rw[jh,aY hi,ai (by omega) (by omega)];simp only[af,ab,Em _ (z.1.2 _ (aN hi))];rw[aP (by simp;omega),<-aU hi];rfl;simp only[ru];rw[gZ,ch];rfl
theorem Ks (c:dH)(z:cr 1000000000 iB c):wV c=some c:=by have h0:=z.1.1;have h1:=z.2.2.1.1;unfold wV;simp only[fy z.2.1.1,fy z.2.2.2.1.1,fy z.2.2.2.2.2.1.1,fy z.2.2.2.2.2.2.1,cp];refine(dc (λi=>((i:Int),c.1.take i,c.2.1,([]),c.2.2.2)) c.1.length (by omega) (λi nx hi=>?_) (λnx=>?_));simp only[ug];rw[jh,aY hi,ai (by omega) (by omega)];simp only[af,ab,E1 _ (z.1.2 _ (aN hi))];rw[aP (by simp;omega),<-aU hi];rfl;simp only[ug];rw[gZ,ch];refine(dc (λi=>((i:Int),c.1,c.2.1,c.2.2.1.take i,c.2.2.2)) c.2.2.1.length (by omega) (λi nx hi=>?_) (λnx=>?_));simp only[uh];rw[jh,aY hi,ai (by omega) (by omega)];simp only[af,ab,MN _ (z.2.2.1.2 _ (aN hi)).1.2.2.1];rw[aP (by simp;omega),<-aU hi];rfl;simp only[uh];rw[gZ,ch];rfl
structure Db (n:Nat) (c:dH):Prop where
 z:cr n iB c
 h:∀x∈c.1,Qu n x
theorem Db.mono {n m:Nat}(k:Db n c)(hn:n<=m:=by omega):Db m c:=⟨k.z.mono hn,λx hx=>(k.h x hx).mono hn⟩
theorem Db.sz {n:Nat}(k:Db n c)(hn:n<=10^9:=by omega):WN c:=by have z:cr 1000000000 iB c:=k.z.mono hn;exact⟨z.1.1,z.2.1.1,λm hm=>(z.2.2.1.2 m hm).1.2.2.1,λx hx=>(k.h x hx).sz hn⟩
theorem Db.of (k:kK iB c<=1048576):Db 1048576 c:=by refine⟨HH k,λh hh=>Qu.of ?_⟩;grind[I1,kK]
theorem D8 (h:yG c=true):(hG c.2.2.1).1.length=c.1.length+1/\(hG c.2.2.1).1.length<=8/\c.1.length<=3:=by unfold yG at h;simp only[ah]at h;have hl:=(Hp h.2.1).1;have h2:=h.1;have h3:=VB h2;unfold hG at h2⊢;cases hc:dz (c.2.2.1.length:Int) 1 3&&(c.2.2.1.all yX&&jD (EU c.2.2.1))with|false=>grind|true=>simp only[ah]at hc;have:=(NV c.2.2.1 0 ([0],[]) ⟨by simp,rfl,by simp⟩ hc.2.1).2.1;grind[EU]
def agO (c:dH)(f:Bytes):dH:=(c.1,c.2.1,c.2.2.1,c.2.2.2.1,c.2.2.2.2.1,c.2.2.2.2.2.1,c.2.2.2.2.2.2++[f])
def Yt (c:dH)(k:Nat)(h:Host):dH:=(c.1.set k h,c.2)
def cO (ps:aq Port)(v:Int)(p:aM)(c:dH)(j:Nat):dH:=
 bif j==0 then agO c (Bm (CY ps (j:Int) v p)).1 else
 match c.1[j-1]? with
 |some h=>Yt c (j-1) (wA h (Bm (CY ps (j:Int) v p)).1)
 |none=>c
theorem Na {n:Nat}(z:Db n c)(zh:Qu n h):Db n (Yt c k h):=by refine⟨⟨Ow z.z.1 zh.z,z.z.2⟩,λx hx=>?_⟩;rcases List.mem_or_eq_of_mem_set hx with g|g;exact z.h x g;rw[g];exact zh
theorem afd {n:Nat}{f:Bytes}(z:Db n c)(hf:f.length<=n):Db (n+1) (agO c f):=by have z':=z.mono (show n<=n+1 by omega);refine⟨⟨z'.z.1,z'.z.2.1,z'.z.2.2.1,z'.z.2.2.2.1,z'.z.2.2.2.2.1,z'.z.2.2.2.2.2.1,?_⟩,z'.h⟩;exact Lh (t:=.str) (k:=1) z.z.2.2.2.2.2.2 (λy hy=>by rw[eE.1 hy];exact hf) (by simp)
theorem aeV {n:Nat}(hn:1000<=n){v:Int}{j:Nat}(z:Db n c):Db (n+1) (cO ps v p c j)/\(cO ps v p c j).1.length=c.1.length:=by have hf:=Hf (CY ps (j:Int) v p);unfold cO;cases j==0 with|true=>exact⟨afd z (by omega),rfl⟩|false=>simp only[ae];cases hx:c.1[j-1]? with|none=>exact⟨z.mono,rfl⟩|some h=>have hr:=VJ hn (Bm (CY ps (j:Int) v p)).1 (z.h h (dw hx));exact⟨(Na z hr.1).mono,bg ..⟩
def MJ (ps:aq Port)(v:Int)(p:aM)(c:dH)(l:dy):dH:=l.foldl (cO ps v p) c
theorem M9 {ps:aq Port}{v:Int}{p:aM}:∀(l:dy){c:dH}{n:Nat},1000<=n->Db n c->Db (n+l.length) (MJ ps v p c l)/\(MJ ps v p c l).1.length=c.1.length
 |[],c,n,_,z=>⟨z,rfl⟩
 |j::l,c,n,hn,z=>by have h1:=aeV (ps:=ps) (v:=v) (p:=p) (j:=j) hn z;have:=M9 (ps:=ps) (v:=v) (p:=p) l (show 1000<=n+1 by omega) h1.1;exact⟨this.1.mono (by grind),this.2.trans h1.2⟩
theorem Rt (ps:aq Port)(v:Int)(p:aM)(c:dH)(l:dy)(i:Nat)(hi:i<l.length):MJ ps v p c (l.take (i+1))=cO ps v p (MJ ps v p c (l.take i)) l[i]:=by rw[aU hi,MJ,List.foldl_append];rfl
theorem L5 (K:dH->ar R)(ps:aq Port)(v:Int)(p:aM)(c B:dH)(l:dy)(hl:l.length<=8)(hj:∀j∈l,j<=c.1.length)(z:Db 800000000 c)(zp:pj ps): aJ (kt (λ(_:Int) (MR:dH)=>K MR) ps v (iP l) ((iP l).length:Int) p B) fuel (0,c)=K (MJ ps v p c l):=by
 refine dc (λi=>((i:Int),MJ ps v p c (l.take i))) l.length (by omega) (λi nx hi=>?_) (λnx=>?_);have QT:i<(iP l).length:=by simpa[iP]using hi
 have e1:(iP l)[i]'QT=(l[i]:Int):=by simp[iP]
 have hz:=M9 (ps:=ps) (v:=v) (p:=p) (l.take i) (by omega) z;have hzz:=hz.1.mono (show 800000000+(l.take i).length<=900000000 by rw[bm];omega);have hji:=hj _ (aN hi);have gu:=Hf (CY ps (l[i]:Int) v p);rw[Rt ps v p c l i hi];have hn:=hz.2;generalize MJ ps v p c (l.take i)=W at hn hzz⊢;have hw:W.2.2.2.2.2.2.length<=900000000:=hzz.z.2.2.2.2.2.2.1;simp only[kt];rw[aw (by simpa[iP]using hi),aY QT,e1,ai (n:=(i:Int)+1) (by omega) (by omega)];simp only[af,ab,aaV ps _ v p zp,Q3,cO];have hcl:c.1.length<=800000000:=z.z.1.1;by_cases h0:l[i]=0;rw[show((l[i]:Int)==0)=true from by simp[h0],show(l[i]==0)=true from by simp[h0]];simp only[af];rw[aP (by simp only[bw];omega)];rfl;rw[show((l[i]:Int)==0)=false from by simp[h0],show(l[i]==0)=false from by simp[h0]];have hk:l[i]-1<W.1.length:=by omega
 rw[ai (n:=(l[i]:Int)-1) (by omega) (by omega),show(l[i]:Int)-1=((l[i]-1:Nat):Int) by omega];simp only[ae,aY hk,ab,SQ _ _ (hzz.h _ (aN hk)) (bf gu (by omega)),aA,ax hk];rfl;simp only[kt];rw[al (by simp[iP]),ae,ch]
theorem Mi (K:dH->ar R)(ps:aq Port)(v:Int)(p:aM)(c:dH)(l:dy)(hl:l.length<=8)(hj:∀j∈l,j<=c.1.length)(z:Db 800000000 c)(zp:pj ps): aJ (lU (λ(_:Int) (D4:dH)=>K D4) ps (iP l) v p) fuel (0,c)=K (MJ ps v p c l):=by
 refine dc (λi=>((i:Int),MJ ps v p c (l.take i))) l.length (by omega) (λi nx hi=>?_) (λnx=>?_);have QT:i<(iP l).length:=by simpa[iP]using hi
 have e1:(iP l)[i]'QT=(l[i]:Int):=by simp[iP]
 have hz:=M9 (ps:=ps) (v:=v) (p:=p) (l.take i) (by omega) z;have hzz:=hz.1.mono (show 800000000+(l.take i).length<=900000000 by rw[bm];omega);have hji:=hj _ (aN hi);have gu:=Hf (CY ps (l[i]:Int) v p);rw[Rt ps v p c l i hi];have hn:=hz.2;generalize MJ ps v p c (l.take i)=W at hn hzz⊢;have hw:W.2.2.2.2.2.2.length<=900000000:=hzz.z.2.2.2.2.2.2.1;simp only[lU];rw[aw (by simpa[iP]using hi),aY QT,e1,ai (n:=(i:Int)+1) (by omega) (by omega)];simp only[af,ab,abX ps _ v p zp,RG,cO];have hcl:c.1.length<=800000000:=z.z.1.1;by_cases h0:l[i]=0;rw[show((l[i]:Int)==0)=true from by simp[h0],show(l[i]==0)=true from by simp[h0]];simp only[af];rw[aP (by simp only[bw];omega)];rfl;rw[show((l[i]:Int)==0)=false from by simp[h0],show(l[i]==0)=false from by simp[h0]];have hk:l[i]-1<W.1.length:=by omega
 rw[ai (n:=(l[i]:Int)-1) (by omega) (by omega),show(l[i]:Int)-1=((l[i]-1:Nat):Int) by omega];simp only[ae,aY hk,ab,Tr _ _ (hzz.h _ (aN hk)) (bf gu (by omega)),aA,ax hk];rfl;simp only[lU];rw[al (by simp[iP]),ae,ch]
def B1 (c:dH)(e:Int)(p:aM):dH:=
 bif decide (jx (hG c.2.2.1).1 e p<0) then c else MJ (hG c.2.2.1).1 (jx (hG c.2.2.1).1 e p) p c (xa (hG c.2.2.1).1 e p)
def CN (c:dH)(e:Int)(p:aM):dH:=bif yG c&&fN p then B1 c e p else c
theorem V2 (c:dH)(e:Int)(p:aM)(k:Db 800000000 c)(h:yG c=true):wW c e p=some ((),B1 c e p):=by have z9:cr 1000000000 iB c:=k.z.mono;have hn:=D8 h;have zp:=M7 c.2.2.1;unfold wW B1;simp only[GM _ (λm hm=>(z9.2.2.1.2 m hm).1.2.2.1),ab,I8 _ e p zp,Ml _ e p zp];generalize (hG c.2.2.1).1=ps at hn zp⊢;unfold E9;cases decide (jx ps e p<0)with|true=>exact Mi (λc=>some ((),c)) ps (jx ps e p) p c [] (by simp) (by simp) k zp|false=>exact Mi (λc=>some ((),c)) ps (jx ps e p) p c (xa ps e p) (by grind[GU]) (λj hj=>by have:=Mo j hj;omega) k zp
theorem O7 (c:dH)(e:Int)(p:aM)(k:Db 800000000 c):tQ c e p=some (CN c e p):=by unfold tQ CN;simp only[Ks c (k.z.mono),VU c (k.sz),xv,ab];grind[ab,V2]
theorem Oe (c:dH)(e:Int)(p:aM)(k:Db 800000000 c):tE c e p=some (CN c e p):=by have z9:cr 1000000000 iB c:=k.z.mono;unfold tE CN;simp only[JQ c z9,UZ c (k.sz),xo,ab];cases h:yG c;rfl;cases fN p;rfl;have hn:=D8 h;have zp:=M7 c.2.2.1;unfold B1;simp only[aj,ae,ab,cW,af,Gs _ (λm hm=>(z9.2.2.1.2 m hm).1.2.2.1),IU _ e p zp,Gu _ e p zp];generalize (hG c.2.2.1).1=ps at hn zp⊢;unfold E9;cases decide (jx ps e p<0)with|true=>exact L5 (λc=>some c) ps (jx ps e p) p c _ [] (by simp) (by simp) k zp|false=>exact L5 (λc=>some c) ps (jx ps e p) p c _ (xa ps e p) (by grind[GU]) (λj hj=>by have:=Mo j hj;omega) k zp
theorem V9 {n:Nat}(hn:1000<=n){e:Int}(z:Db n c)(h:yG c=true):Db (n+8) (B1 c e p)/\(B1 c e p).1.length=c.1.length:=by have h3:=D8 h;unfold B1;generalize (hG c.2.2.1).1=ps at h3⊢;cases decide (jx ps e p<0)with|true=>exact⟨z.mono,rfl⟩|false=>have h8:=GU ps e p;have:=M9 (ps:=ps) (v:=jx ps e p) (p:=p) (xa ps e p) hn z;exact⟨this.1.mono,this.2⟩
theorem YP {n:Nat}(hn:1000<=n)(e:Int)(p:aM)(z:Db n c):Db (n+8) (CN c e p)/\(CN c e p).1.length=c.1.length:=by unfold CN;cases h:yG c;exact⟨z.mono,rfl⟩;cases fN p with|false=>exact⟨z.mono,rfl⟩|true=>exact V9 hn z h
def GR (b:Mw)(n:Int):Mw×Bool:=bif Jt b&&dz n 0 b.2.2 then((b.1,b.2.1,ak (b.2.2-n)),true) else(b,false)
theorem ab3 (b:Mw)(n:Int):sa b n=some (GR b n):=by grind[sa,GR,I7,ab,cx]
theorem aa2 (b:Mw)(n:Int):rj b n=some (GR b n):=by grind[rj,GR,Od,ab,cQ]
def NG (f:aC):aC:=(f.1,f.2.1,f.2.2.1,f.2.2.2.1,f.2.2.2.2.1,ak (f.2.2.2.2.2+1))
def agL (f:aC)(b:Mw):aC:=(f.1,f.2.1,b,f.2.2.2.1,ak (f.2.2.2.2.1+1),f.2.2.2.2.2)
def ahD (ps:aq Port)(f:aC)(p:aM):Bool:=f.2.2.2.1&&(!decide (jx ps f.2.1 p<0)&&(GR f.2.2.1 ((ec p).1.length:Int)).2)
def zg (l:aq aC)(ps:aq Port)(a:Int)(p:aM):aq aC×cG×Bool:=
 bif jy l ps&&(fN p&&(!decide (a<0)&& !decide (a>=(l.length:Int)))) then
  match l[a.toNat]? with
  |some f=>bif ahD ps f p then(l.set a.toNat (agL f (GR f.2.2.1 ((ec p).1.length:Int)).1),E9 ps f.2.1 p,true) else(l.set a.toNat (NG f),[],false)
  |none=>(l,[],false)
 else(l,[],false)
theorem ab1 (l:aq aC)(ps:aq Port)(a:Int)(p:aM)(h:l.length<=10^9)(z:pj ps):yw l ps a p=some (zg l ps a p):=by
 unfold yw zg;rw[aP (by grind)];simp only[cp,Iq l ps h z.1 z.2,xv,ab];cases jy l ps;rfl;cases fN p;rfl;by_cases h0:a<0;rw[aw h0];rfl;by_cases h1:a>=(l.length:Int)
 simp_all;obtain⟨a,rfl⟩:=aF (by omega:0<=a);have ha:a<l.length:=by omega
 rw[al h0,al h1];simp only[aA,ax ha,aY ha,ab,aj,cL,ae,af,cW,DU,ab3,I8 _ _ p z,Ml _ _ p z,ahD];generalize l[a]=f;cases h3:f.2.2.2.1 with|false=>grind[ab,NG]|true=>simp only[aj,ae,bp,M0 ha,ab,List.set_set];cases decide (jx ps f.2.1 p<0)with|true=>grind[ab,NG]|false=>simp only[cL,ae,bp,ab];cases (GR f.2.2.1 ((ec p).1.length:Int)).2 with|false=>grind[NG]|true=>rfl
theorem aaZ (l:aq aC)(ps:aq Port)(a:Int)(p:aM)(h:l.length<=10^9)(z:pj ps):xS l ps a p=some (zg l ps a p):=by
 unfold xS zg;rw[Cl l h,ab,ai (n:=(l.length:Int)-1) (by omega) (by omega)];simp only[Ia l ps h z.1 z.2,xo,ab,cQ];cases jy l ps;rfl;cases fN p;rfl;rw[show dz a 0 ((l.length:Int)-1)=(!decide (a<0)&& !decide (a>=(l.length:Int))) from by grind[bW]];by_cases h0:a<0;rw[aw h0];rfl;by_cases h1:a>=(l.length:Int)
 simp_all;obtain⟨a,rfl⟩:=aF (by omega:0<=a);have ha:a<l.length:=by omega
 rw[al h0,al h1];simp only[aA,ax ha,aY ha,ab,aj,cL,ae,af,cW,Dv,aa2,IU _ _ p z,Gu _ _ p z,ahD];generalize l[a]=f;cases h3:f.2.2.2.1 with|false=>grind[ab,NG]|true=>simp only[aj,ae,bp,M0 ha,ab,List.set_set];cases decide (jx ps f.2.1 p<0)with|true=>grind[ab,NG]|false=>simp only[cL,ae,bp,ab,Gu _ _ p z];cases (GR f.2.2.1 ((ec p).1.length:Int)).2 with|false=>grind[NG]|true=>grind[agL]
theorem LD (l:aq aC)(ps:aq Port)(a:Int)(p:aM):(zg l ps a p).1.length=l.length:=by unfold zg;grind
theorem aeE {l:aq aC}(h:fN p=false):zg l ps a p=(l,[],false):=by grind[zg]
theorem ahI:fN pk0=false:=by decide
theorem aeu (h:((mn x).2==0)=false):fN (mn x).1=false:=by grind[mn,ahI]
theorem Ig (K:Int->Bytes->ar R):∀(n:Nat)(v:Int)(s:Bytes)(m:Nat),0<=v->v<=1000000000000000->v<10^n->s.length+n<=1000->n<m->∃s':Bytes,s'.length<=1000/\∃v',aJ (rK K) m (v,s)=K v' s'
 |0,v,s,m,h0,_,h1,hs,hm=>by
  have hv:v=0:=by simp at h1;omega
  subst hv;cases m with|zero=>omega|succ m=>exact⟨s,by omega,0,by rw[aJ];rfl⟩
 |n+1,v,s,m,h0,hb,h1,hs,hm=>by cases m with|zero=>omega|succ m=>rw[aJ];simp only[rK];by_cases hv:v>0;have hq:Int.tdiv v 10=v/10:=Int.tdiv_eq_ediv_of_nonneg h0;rw[aw hv];simp only[af];rw[mL,aP (by simp[aK];omega),mL,hq,ai (n:=v/10) (by omega) (by omega)];exact Ig K n (v/10) _ m (by omega) (by omega) (by rw[Int.pow_succ]at h1;omega) (by simp[aK];omega) (by omega);rw[al hv];exact⟨s,by omega,v,rfl⟩
theorem P8 (k:Int)(h1:1<=k)(h2:k<=1000000000000000):∃s,bL k=some s:=by have Fq:=dX;unfold bL;rw[gZ];simp only[ae];obtain⟨s,hs,v,h⟩:=Ig (λ(_:Int) (y2:Bytes)=>room (List.length ([109]:Bytes)+List.length y2) (some (([109]:Bytes)++y2))) 16 k [] fuel (by omega) h2 (by omega) (by simp) (by omega);rw[h,aP (by simp;omega)];exact⟨_,rfl⟩
def txt (k:Int):Bytes:=(bL k).getD []
theorem ix (k:Int)(h1:1<=k)(h2:k<=1000000000000000):bL k=some (txt k):=by obtain⟨s,hs⟩:=P8 k h1 h2;rw[txt,hs];rfl
def pY:(t:CT)->t.D->Nat
 | .int _,_=>1
 | .bool,_=>1
 | .str,_=>1
 | .sl e,xs=>(xs.map (pY e)).sum
 | .pair a b,x=>pY a x.1+pY b x.2
def mkL (f:α->Int->α)(c:α->Nat):aq α->Int->aq α
 |[],_=>[]
 |x::xs,k=>f x k::mkL f c xs (k+c x)
def mk:(t:CT)->t.D->Int->t.D
 | .int _,_,k=>k
 | .bool,_,k=>tmod k 3==0
 | .str,_,k=>txt k
 | .sl e,xs,k=>mkL (mk e) (pY e) xs k
 | .pair a b,x,k=>(mk a x.1 k,mk b x.2 (k+pY a x.1))
def kj:(t:CT)->t.D->Nat
 | .int _,_=>0
 | .bool,_=>0
 | .str,_=>0
 | .sl e,xs=>pY (.sl e) xs
 | .pair a b,x=>kj a x.1+kj b x.2
def TO:(t:CT)->t.D->Int->t.D
 | .int _,x,_=>x
 | .bool,x,_=>x
 | .str,x,_=>x
 | .sl e,xs,k=>mk (.sl e) xs k
 | .pair a b,x,k=>(TO a x.1 k,TO b x.2 (k+kj a x.1))
theorem Ll {k:IntKind}(x k':Int):mk (.int k) x k'=k':=rfl
theorem Hr (x:Bool)(k:Int):mk .bool x k=(tmod k 3==0):=rfl
theorem Lm (x:Bytes)(k:Int):mk .str x k=txt k:=rfl
theorem CG {a b:CT}(x:a.D×b.D)(k:Int):mk (.pair a b) x k=(mk a x.1 k,mk b x.2 (k+pY a x.1)):=rfl
theorem kY {k:IntKind}(x:Int):pY (.int k) x=1:=rfl
theorem iX (x:Bool):pY .bool x=1:=rfl
theorem kZ (x:Bytes):pY .str x=1:=rfl
theorem iY {a b:CT}(x:a.D×b.D):pY (.pair a b) x=pY a x.1+pY b x.2:=rfl
theorem ZM {k:IntKind}(x k':Int):TO (.int k) x k'=x:=rfl
theorem Vk (x:Bool)(k:Int):TO .bool x k=x:=rfl
theorem ZN (x:Bytes)(k:Int):TO .str x k=x:=rfl
theorem Vl {a b:CT}(x:a.D×b.D)(k:Int):TO (.pair a b) x k=(TO a x.1 k,TO b x.2 (k+kj a x.1)):=rfl
theorem Ua {k:IntKind}(x:Int):kj (.int k) x=0:=rfl
theorem Qz (x:Bool):kj .bool x=0:=rfl
theorem Ub (x:Bytes):kj .str x=0:=rfl
theorem QA {a b:CT}(x:a.D×b.D):kj (.pair a b) x=kj a x.1+kj b x.2:=rfl
theorem ne3:¬(3:Int)=0:=by omega
theorem Ec {n:Int}(h:¬n<0):decide (n<0)=false:=al h
theorem nM {l:aq α}{i:Nat}(x:α)(h:i<l.length):idx (l.set i x) (i:Int)=some x:=by rw[SK,List.getElem?_set_self h]
theorem Ri {T:((aq e.D×Int×Int×aq e.D)->ar (Int×aq e.D))->(aq e.D×Int×Int×aq e.D)->ar (Int×aq e.D)}
 (hs:∀(l:aq e.D)(i:Nat)(hi:i<l.length)(k:Int) nx,1<=k->k+pY e l[i]<=1000000000000000->l.length<=1000000000000->cr 1000000000000 e l[i]->
  T nx (l,k,(i:Int),l)=nx (l.set i (mk e l[i] k),k+pY e l[i],(i:Int)+1,l.set i (mk e l[i] k)))
 (hf:∀(l:aq e.D)(k:Int) nx,T nx (l,k,(l.length:Int),l)=some (k,l)):
 ∀(xs pre:aq e.D)(k:Int)(n:Nat),1<=k->k+pY (.sl e) xs<=1000000000000000->pre.length+xs.length<=1000000000000->(∀x∈xs,cr 1000000000000 e x)->xs.length<n->
  aJ T n (pre++xs,k,(pre.length:Int),pre++xs)=some (k+pY (.sl e) xs,pre++mk (.sl e) xs k)
 |[],pre,k,n,_,_,_,_,hn=>by cases n with|zero=>omega|succ n=>rw[aJ,bt,hf];simp[pY,mk,mkL]
 |x::xs,pre,k,n,h1,h2,h3,h4,hn=>by
  cases n with
  |zero=>omega
  |succ n=>
   have hc:pY (.sl e) (x::xs)=pY e x+pY (.sl e) xs:=by simp[pY]
   have hi:pre.length<(pre++x::xs).length:=by simp
   have hx:(pre++x::xs)[pre.length]=x:=by simp
   simp only[cf]at h3 hn;rw[aJ,hs _ pre.length hi k _ h1 (by rw[hx];omega) (by simp;omega) (by rw[hx];exact h4 x (by simp)),hx];have Dt:(pre++x::xs).set pre.length (mk e x k)=(pre++[mk e x k])++xs:=by rw[List.set_append_right _ _ (bc _),jw,List.set_cons_zero,aO];rfl
   have hl:((pre.length:Int)+1)=(((pre++[mk e x k]).length:Nat):Int):=by simp
   rw[Dt,hl,Ri hs hf xs _ _ n (by omega) (by omega) (by simp;omega) (λy hy=>h4 y (by simp[hy])) (by omega)];rw[hc];congr 1;refine Prod.ext (by simp only;omega) ?_;simp only[mk,mkL,aO,List.singleton_append]
theorem QS {T:aq e.D->((Int×Int)->ar Int)->(Int×Int)->ar Int}
 (hs:∀(l:aq e.D)(i:Nat)(hi:i<l.length)(x:e.D)(k:Int) nx,l[i]=mk e x k->1<=k->k+pY e x<=1000000000000000->l.length<=1000000000000->cr 1000000000000 e x->
  T l nx (k,(i:Int))=nx (k+pY e x,(i:Int)+1))
 (hf:∀(l:aq e.D)(k:Int) nx,T l nx (k,(l.length:Int))=some k):
 ∀(xs pre:aq e.D)(k:Int)(n:Nat),1<=k->k+pY (.sl e) xs<=1000000000000000->pre.length+xs.length<=1000000000000->(∀x∈xs,cr 1000000000000 e x)->xs.length<n->
  aJ (T (pre++mk (.sl e) xs k)) n (k,(pre.length:Int))=some (k+pY (.sl e) xs)
 |[],pre,k,n,_,_,_,_,hn=>by
  cases n with
  |zero=>omega
  |succ n=>
   have:pre++mk (.sl e) ([]:aq e.D) k=pre:=by simp[mk,mkL]
   rw[aJ,this,hf];simp[pY]
 |x::xs,pre,k,n,h1,h2,h3,h4,hn=>by
  cases n with
  |zero=>omega
  |succ n=>
   have hc:pY (.sl e) (x::xs)=pY e x+pY (.sl e) xs:=by simp[pY]
   have hm:pre++mk (.sl e) (x::xs) k=(pre++[mk e x k])++mk (.sl e) xs (k+pY e x):=by simp[mk,mkL]
   have hlen:∀(ys:aq e.D)(k:Int),(mk (.sl e) ys k).length=ys.length:=by intro ys;induction ys with|nil=>intro k;rfl|cons y ys ih=>intro k;have:=ih (k+pY e y);simp only[mk,mkL,cf]at this⊢;omega
   simp only[cf]at h3 hn;rw[aJ,hm,hs _ pre.length (by simp) x k _ (by simp) h1 (by omega) (by have:=hlen xs (k+pY e x);simp;omega) (h4 x (by simp))];have hl:((pre.length:Int)+1)=(((pre++[mk e x k]).length:Nat):Int):=by simp
   rw[hl,QS hs hf xs _ _ n (by omega) (by omega) (by simp;omega) (λy hy=>h4 y (by simp[hy])) (by omega),hc];congr 1;omega
def R5 (t:CT)(mark:t.D->Int->ar (Int×t.D)):Prop:=∀(a:t.D)(_:cr 1000000000000 t a)(k:Int)(_:1<=k)(_:k+pY t a<=1000000000000000),mark a k=some (k+pY t a,mk t a k)
def R4 (t:CT)(held:t.D->Int->ar Int):Prop:=∀(a:t.D)(_:cr 1000000000000 t a)(k:Int)(_:1<=k)(_:k+pY t a<=1000000000000000),held (mk t a k) k=some (k+pY t a)
theorem SX {T:((aq e.D×Int×Int×aq e.D)->ar (Int×aq e.D))->(aq e.D×Int×Int×aq e.D)->ar (Int×aq e.D)}(hs:∀(l:aq e.D)(i:Nat)(hi:i<l.length)(k:Int) nx,1<=k->k+pY e l[i]<=1000000000000000->l.length<=1000000000000->cr 1000000000000 e l[i]-> T nx (l,k,(i:Int),l)=nx (l.set i (mk e l[i] k),k+pY e l[i],(i:Int)+1,l.set i (mk e l[i] k)))(hf:∀(l:aq e.D)(k:Int) nx,T nx (l,k,(l.length:Int),l)=some (k,l)):R5 (.sl e) (λa k=>aJ T fuel (a,k,0,a)):=by have Fq:=dX;intro a h k h1 h2;have hl:a.length<=1000000000000:=h.1;exact Ri hs hf a [] k fuel h1 h2 (by simp;omega) h.2 (by omega)
theorem SW {H:aq e.D->((Int×Int)->ar Int)->(Int×Int)->ar Int}(gs:∀(l:aq e.D)(i:Nat)(hi:i<l.length)(x:e.D)(k:Int) nx,l[i]=mk e x k->1<=k->k+pY e x<=1000000000000000->l.length<=1000000000000->cr 1000000000000 e x-> H l nx (k,(i:Int))=nx (k+pY e x,(i:Int)+1))(gf:∀(l:aq e.D)(k:Int) nx,H l nx (k,(l.length:Int))=some k):R4 (.sl e) (λa k=>aJ (H a) fuel (k,0)):=by have Fq:=dX;intro a h k h1 h2;have hl:a.length<=1000000000000:=h.1;exact QS gs gf a [] k fuel h1 h2 (by simp;omega) h.2 (by omega)
def MtM (t:CT)(mark:t.D->Int->ar (Int×t.D)):Prop:=∀(a:t.D)(_:cr 1000000000000 t a)(k:Int)(_:1<=k)(_:k+kj t a<=1000000000000000),mark a k=some (k+kj t a,TO t a k)
def MtH (t:CT)(held:t.D->Int->ar Int):Prop:=∀(a:t.D)(_:cr 1000000000000 t a)(k:Int)(_:1<=k)(_:k+kj t a<=1000000000000000),held (TO t a k) k=some (k+kj t a)
theorem R5.top {mark:aq e.D->Int->ar (Int×aq e.D)}(h:R5 (.sl e) mark):MtM (.sl e) mark:=h
theorem R4.top {held:aq e.D->Int->ar Int}(h:R4 (.sl e) held):MtH (.sl e) held:=h
def OkW:{t:CT}->WQ FM t->Prop
 |_,.sl (e:=e) m=>R5 (.sl e) m
 |_,.pair a b=>OkW a/\OkW b
 |_,_=>True
theorem Tf {R:Type}(hf:∀k,1<=k->k<=1000000000000000->f k=some (txt k)){l:aq α}{i:Nat}(hi:i<l.length):∀{t:CT}(n:WQ FM t)(_:OkW n)(g:α->t.D)(s:α->t.D->α)(_:∀y v,g (s y v)=v)(_:∀y v w,s (s y v) w=s y w)(x:α)(k:Int)(K:aq α->Int->ar R),1<=k->k+pY t (g x)<=1000000000000000->cr 1000000000000 t (g x)->
 DS f (i:Int) n g s (l.set i x) (l.set i x) k K=K (l.set i (s x (mk t (g x) k))) (k+pY t (g x))
 |_,.int _,_,g,s,_,_,x,k,K,h1,h2,_=>by simp only[kY]at h2⊢;rw[DS,nM x hi,ab,ab,aA,List.set_set,ai (by omega) (by omega)];rfl
 |_,.bool,_,g,s,_,_,x,k,K,h1,h2,_=>by simp only[iX]at h2⊢;rw[DS,nM x hi,ab,ab,aA,List.set_set,ai (by omega) (by omega)];rfl
 |_,.str,_,g,s,_,_,x,k,K,h1,h2,_=>by simp only[kZ]at h2⊢;rw[DS,hf k h1 (by omega),ab,nM x hi,ab,ab,aA,List.set_set,ai (by omega) (by omega)];rfl
 |_,.sl m,hn,g,s,_,_,x,k,K,h1,h2,h3=>by rw[DS,nM x hi,ab,ab,hn (g x) h3 k h1 h2,ab,aA,List.set_set]
 |_,.pair (a:=ca) (b:=cb) a b,hn,g,s,l1,l2,x,k,K,h1,h2,h3=>by rw[iY]at h2⊢;have e1:=Tf (R:=R) hf hi a hn.1 (λy=>(g y).1) (λy v=>s y (v,(g y).2)) (λy v=>by simp only[l1]) (λy v w=>by simp only[l1,l2]) x k;rw[DS,e1 _ h1 (by show k+((pY ca (g x).1:Nat):Int)<=_;omega) h3.1];have e2:=Tf (R:=R) hf hi b hn.2 (λy=>(g y).2) (λy v=>s y ((g y).1,v)) (λy v=>by simp only[l1]) (λy v w=>by simp only[l1,l2]) (s x (mk ca (g x).1 k,(g x).2)) (k+pY ca (g x).1) K (by omega) (by simp only[l1];omega) (by simp only[l1];exact h3.2);rw[e2];simp only[l1,l2,CG];congr 1;omega
theorem GC (n:WQ FM e){T:((aq e.D×Int×Int×aq e.D)->ar (Int×aq e.D))->(aq e.D×Int×Int×aq e.D)->ar (Int×aq e.D)}(hf:∀k,1<=k->k<=1000000000000000->f k=some (txt k))(hn:OkW n)(he:∀(l:aq e.D)(k i:Int) nx,T nx (l,k,i,l)=cond (decide (i<(l.length:Int))) (DS f i n (λy=>y) (λ_ v=>v) l l k (λL k'=>nx (L,k',ak (i+1),L))) (some (k,l))):R5 (.sl e) (λa k=>aJ T fuel (a,k,0,a)):=by
 refine SX (λl i hi k nx h1 h2 h3 hx=>?_) (λl k nx=>?_)
 ·have hl:l=l.set i l[i]:=(List.set_getElem_self hi).symm;rw[he,jh,af];conv=>lhs;rw[hl]
  rw[Tf hf hi n hn (λy=>y) (λ_ v=>v) (λ_ _=>rfl) (λ_ _ _=>rfl) l[i] k _ h1 h2 hx];rw[ai (by omega) (by omega)]
 rw[he,gZ];rfl
def OkV:{t:CT}->WQ FH t->Prop
 |_,.sl (e:=e) m=>R4 (.sl e) m
 |_,.pair a b=>OkV a/\OkV b
 |_,_=>True
theorem Te (hf:∀k,1<=k->k<=1000000000000000->f k=some (txt k)){v:aq α}{i:Nat}(hi:i<v.length)(bad:Int->ar R):∀{t:CT}(n:WQ FH t)(_:OkV n)(g:α->t.D)(K:Int->ar R)(x:t.D)(k:Int),1<=k->k+pY t x<=1000000000000000->cr 1000000000000 t x->g v[i]=mk t x k->
 DR f (i:Int) v bad n g K k=K (k+pY t x)
 |_,.int _,_,g,K,x,k,h1,h2,_,h4=>by simp only[kY]at h2⊢;have h5:g v[i]=k:=h4;rw[DR,aY hi,ab,h5,bne_self_eq_false,ae,ai (by omega) (by omega)];rfl
 |_,.bool,_,g,K,x,k,h1,h2,_,h4=>by simp only[iX]at h2⊢;have h5:g v[i]=(tmod k 3==0):=h4;rw[DR,aY hi,ab,h5,fG,aj,ae,ai (by omega) (by omega)];rfl
 |_,.str,_,g,K,x,k,h1,h2,_,h4=>by simp only[kZ]at h2⊢;have h5:g v[i]=txt k:=h4;rw[DR,aY hi,ab,hf k h1 (by omega),ab,h5,fG,aj,ae,ai (by omega) (by omega)];rfl
 |_,.sl m,hn,g,K,x,k,h1,h2,h3,h4=>by rw[DR,aY hi,ab,h4,hn x h3 k h1 h2,ab,gZ,ae]
 |_,.pair a b,hn,g,K,x,k,h1,h2,h3,h4=>by rw[iY]at h2⊢;rw[CG]at h4;rw[DR,Te hf hi bad a hn.1 _ _ x.1 k h1 (by omega) h3.1 (by simp only[h4]),Te hf hi bad b hn.2 _ _ x.2 _ (by omega) (by omega) h3.2 (by simp only[h4])];congr 1;omega
theorem GB (n:WQ FH e){H:aq e.D->((Int×Int)->ar Int)->(Int×Int)->ar Int}{bad:aq e.D->Int->Int->ar Int}(hf:∀k,1<=k->k<=1000000000000000->f k=some (txt k))(hn:OkV n)(he:∀(l:aq e.D)(k i:Int) nx,H l nx (k,i)=cond (decide (i<(l.length:Int))) (DR f i l (bad l i) n (λy=>y) (λk'=>nx (k',ak (i+1))) k) (some k)):R4 (.sl e) (λa k=>aJ (H a) fuel (k,0)):=by refine SW (λl i hi x k nx hm h1 h2 h3 hx=>?_) (λl k nx=>?_);rw[he,jh,af,Te hf hi _ n hn _ _ x k h1 h2 hx hm,ai (by omega) (by omega)];rw[he,gZ];rfl
theorem Sf:∀{t:CT}{x:t.D},kj t x<=pY t x
 | .int _,_=>by simp[kj]
 | .bool,_=>by simp[kj]
 | .str,_=>by simp[kj]
 | .sl _,_=>bc _
 | .pair a b,x=>by simp only[kj,pY];exact Nat.add_le_add Sf Sf
def wt:CT->Nat
 | .sl e=>wt e
 | .pair a b=>wt a+wt b
 |_=>1
theorem Sg:∀{t:CT}{x:t.D},pY t x<=wt t*(kK t x+1)
 | .int _,_=>by simp[pY,wt]
 | .bool,_=>by simp[pY,wt]
 | .str,_=>by simp[pY,wt]
 | .sl e,xs=>by
  have h:∀l:aq e.D,(l.map (pY e)).sum<=wt e*((l.map (kK e)).sum+l.length):=by
   intro l;induction l with
   |nil=>simp
   |cons y l ih=>
    have:=Sg (t:=e) (x:=y);simp only[dC,List.sum_cons,cf];have e1:wt e*(kK e y+(l.map (kK e)).sum+(l.length+1))=wt e*(kK e y+1)+wt e*((l.map (kK e)).sum+l.length):=by rw[<-Nat.mul_add];congr 1;omega
    omega
  have h1:=h xs;simp only[pY,wt,kK];refine bf h1 (Nat.mul_le_mul_left _ (by omega))
 | .pair a b,x=>by have h1:=Sg (t:=a) (x:=x.1);have h2:=Sg (t:=b) (x:=x.2);simp only[pY,wt,kK];rw[bZ];exact Nat.add_le_add (bf h1 (Nat.mul_le_mul_left _ (by omega))) (bf h2 (Nat.mul_le_mul_left _ (by omega)))
def bnd (n:Nat):CT->Nat
 | .sl e=>n*bnd n e
 | .pair a b=>bnd n a+bnd n b
 |_=>1
theorem Jw {n:Nat}:∀{t:CT}{x:t.D},cr n t x->pY t x<=bnd n t
 | .int _,_,_=>by simp[pY,bnd]
 | .bool,_,_=>by simp[pY,bnd]
 | .str,_,_=>by simp[pY,bnd]
 | .sl e,xs,h=>by
  have h1:∀l:aq e.D,(∀x∈l,cr n e x)->(l.map (pY e)).sum<=l.length*bnd n e:=by intro l;induction l with|nil=>simp|cons y l ih=>intro hl;have:=Jw (hl y (by simp));have:=ih (λx hx=>hl x (by simp[hx]));simp only[dC,List.sum_cons,cf,bZ,dL];omega
  simp only[pY,bnd];exact bf (h1 xs h.2) (cq _ h.1)
 | .pair a b,x,h=>by simp only[pY,bnd];exact Nat.add_le_add (Jw h.1) (Jw h.2)
theorem Zd {n:Nat}:∀{xs:aq e.D},(∀x∈xs,cr n e x)->pY (.sl e) xs<=xs.length*bnd n e
 |[],_=>by simp[pY]
 |y::l,h=>by have h1:=Jw (h y (by simp));have h2:=Zd (xs:=l) (λx hx=>h x (by simp[hx]));simp only[pY,dC,List.sum_cons,cf,bZ,dL]at h2⊢;omega
theorem acz (z:cr 1100000 iB c)(h:c.1.length<=3):kj iB c<=600000000000000:=by have e1:kj iB c<=pY (.sl fF) c.1+pY (.pair (.sl bS) (.pair (.sl eV) (.pair (.sl .str) (.pair ui (.pair (.sl (.int .i64)) (.sl .str)))))) c.2:=Sf;have e2:=Zd (e:=fF) z.1.2;have e3:=Jw z.2;simp_all[bnd];omega
theorem T8 (h:kK iB c<=1048576):kj iB c<=600000000000000:=by have c0:pY iB c<=wt iB*(kK iB c+1):=Sg;simp_all[wt,pY,kj];omega
def Jj (h:Host):cy:=h.2.2.2.2.2.2.2.2.2.2.2.1
theorem LJ (h:Host):(Jj h).length<=(Jj (gW h)).length/\(Jj (gW h)).length<=(Jj h).length+5440:=by have hA:=Bd h.2.1 h.1 0 17 [] 0 0 h.2.2.1.1 (λx hx=>by cases hx);unfold gW;cases vd h;exact⟨bc _,Nat.le_add_right _ _⟩;rw[show pg h.2.1 h.1 0 17 [] 0 0 h.2.2.1.1=nE h.2.1 h.1 0 h.2.2.1.1 from rfl]at hA;simp_all[Jj]
def L8 (h:Host):cy:=(Jj (gW h)).drop (Jj h).length
theorem Lp (h:Host):(L8 h).length<=5440:=by grind[LJ,L8]
def Km (ps:aq Port)(k:Int)(c:dH)(x:Bytes):dH:=
 bif (zg c.2.1 ps k (mn x).1).2.2 then CN (c.1,(zg c.2.1 ps k (mn x).1).1,c.2.2) (ak (k+1)) (mn x).1 else(c.1,(zg c.2.1 ps k (mn x).1).1,c.2.2)
theorem Tj {n:Nat}{l:aq aC}(h:l.length=c.2.1.length)(z:Db n c):Db n (c.1,l,c.2.2):=by refine⟨⟨z.z.1,⟨?_,λ_ _=>⟨bX,bX,⟨bX,bX,bX⟩,bX,bX,bX⟩⟩,z.z.2.2⟩,z.h⟩;have:=z.z.2.1.1;grind
theorem aeD {n:Nat}(hn:1000<=n){k:Int}(z:Db n c):Db (n+8) (Km ps k c x)/\(Km ps k c x).1.length=c.1.length:=by have zs:=Tj (l:=(zg c.2.1 ps k (mn x).1).1) (LD ..) z;unfold Km;cases (zg c.2.1 ps k (mn x).1).2.2 with|false=>exact⟨zs.mono,rfl⟩|true=>exact YP hn _ _ zs
theorem aeC {k:Int}(h:((mn x).2==0)=false):Km ps k c x=c:=by grind[Km,aeE,aeu]
def FP (ps:aq Port)(k:Int)(c:dH)(l:cy):dH:=l.foldl (Km ps k) c
theorem Kn {ps:aq Port}{k:Int}:∀(l:cy){c:dH}{n:Nat},1000<=n->Db n c->Db (n+8*l.length) (FP ps k c l)/\(FP ps k c l).1.length=c.1.length
 |[],c,n,_,z=>⟨z,rfl⟩
 |x::l,c,n,hn,z=>by have h1:=aeD hn (ps:=ps) (k:=k) (x:=x) z;have:=Kn (ps:=ps) (k:=k) l (show 1000<=n+8 by omega) h1.1;exact⟨this.1.mono (by grind),this.2.trans h1.2⟩
theorem O4 (ps:aq Port)(k:Int)(c:dH)(l:cy)(i:Nat)(hi:i<l.length):FP ps k c (l.take (i+1))=Km ps k (FP ps k c (l.take i)) l[i]:=by rw[aU hi,FP,List.foldl_append];rfl
theorem UY (K:Int->dH->ar R)(ps:aq Port)(k:Int)(l:cy)(c B:dH)(hl:l.length<=5440)(hx:∀x∈l,x.length<=10^9)(z:Db 700000000 c)(zp:pj ps): aJ (jb K k ps l (l.length:Int) B) fuel (0,c)=K (l.length:Int) (FP ps k c l):=by
 have Fq:=dX;refine dc (λi=>((i:Int),FP ps k c (l.take i))) l.length (by omega) (λi nx hi=>?_) (λnx=>?_);have hz:=(Kn (ps:=ps) (k:=k) (l.take i) (by omega) z).1.mono (show 700000000+8*(l.take i).length<=800000000 by rw[bm];omega);rw[O4 ps k c l i hi];generalize FP ps k c (l.take i)=W at hz⊢;simp only[jb];rw[jh,af,aY hi,ab,Q5 _ (hx _ (aN hi)),ab,ai (n:=(i:Int)+1) (by omega) (by omega)];cases hf:(mn l[i]).2==0 with|false=>rw[aeC hf];simp only[bne,hf,cL,af];rfl|true=>have zs:=Tj (l:=(zg W.2.1 ps k (mn l[i]).1).1) (LD ..) hz;simp only[bne,hf,aj,ae];rw[aaZ _ _ _ _ (bf hz.z.2.1.1 (by omega)) zp,ab,Oe _ _ _ zs,ab,Km];cases (zg W.2.1 ps k (mn l[i]).1).2.2<;>rfl
 simp only[jb];rw[gZ,ae,ch]
theorem VT (K:Int->dH->ar R)(ps:aq Port)(k:Int)(l:cy)(c B:dH)(hl:l.length<=5440)(hx:∀x∈l,x.length<=10^9)(z:Db 700000000 c)(zp:pj ps): aJ (jf K k l ps B) fuel (0,c)=K (l.length:Int) (FP ps k c l):=by have Fq:=dX;refine dc (λi=>((i:Int),FP ps k c (l.take i))) l.length (by omega) (λi nx hi=>?_) (λnx=>?_);have hz:=(Kn (ps:=ps) (k:=k) (l.take i) (by omega) z).1.mono (show 700000000+8*(l.take i).length<=800000000 by rw[bm];omega);rw[O4 ps k c l i hi];generalize FP ps k c (l.take i)=W at hz⊢;have zs:=Tj (l:=(zg W.2.1 ps k (mn l[i]).1).1) (LD ..) hz;simp only[jf];rw[jh,af,aY hi,ab,RJ _ (hx _ (aN hi)),ab,ai (n:=(i:Int)+1) (by omega) (by omega),ab1 _ _ _ _ (bf hz.z.2.1.1 (by omega)) zp,ab,O7 _ _ _ zs,ab,Km];cases (zg W.2.1 ps k (mn l[i]).1).2.2<;>rfl;simp only[jf];rw[gZ,ae,ch]
def xD (c:dH)(k:Int):dH:=
 bif yG c&&(!decide (k<0)&& !decide (k>=(c.1.length:Int))) then
  match c.1[k.toNat]? with
  |some h=>FP (hG c.2.2.1).1 k (Yt c k.toNat (gW h)) (L8 h)
  |none=>c
 else c
theorem XH (c:dH)(k:Int)(z:Db 600000000 c):lj c k=some (xD c k):=by
 have z9:cr 1000000000 iB c:=z.z.mono;have hl:c.2.1.length<=600000000:=z.z.2.1.1;unfold lj xD;rw[JQ c z9,ab,UZ c (z.sz),ab,cQ,ai (n:=(c.2.1.length:Int)-1) (by omega) (by omega)];cases hb:yG c;rfl;have h2:c.1.length=c.2.1.length:=by grind[yG,Hp]
 rw[show dz k 0 ((c.2.1.length:Int)-1)=(!decide (k<0)&& !decide (k>=(c.1.length:Int))) from by grind[bW]];by_cases h0:k<0;rw[aw h0];rfl;by_cases h1:k>=(c.1.length:Int)
 simp_all;obtain⟨k,rfl⟩:=aF (by omega:0<=k);have hk:k<c.1.length:=by omega
 rw[al h0,al h1];have hz:=z.h _ (aN hk);have zt:=Ff (by omega) hz;have zc:Db 700000000 (Yt c k (gW c.1[k])):=(Na (z.mono (show 600000000<=600005440 by omega)) zt).mono;have hg:=LJ c.1[k];have hw:∀x∈L8 c.1[k],x.length<=10^9:=λx hx=>bf (zt.z.2.2.2.2.2.2.2.2.2.2.2.1.2 x (List.mem_of_mem_drop hx)) (by omega);have hn:=Lp c.1[k];have zp:=M7 c.2.2.1;simp only[aA,ax hk,aY hk,M0 hk,ab,aj,cL,ae,af,cW,Gs _ (λm hm=>(z9.2.2.1.2 m hm).1.2.2.1),SR _ (hz.mono)];rw[show sub (gW c.1[k]).2.2.2.2.2.2.2.2.2.2.2.1 ((c.1[k].2.2.2.2.2.2.2.2.2.2.2.1).length:Int) (((gW c.1[k]).2.2.2.2.2.2.2.2.2.2.2.1).length:Int)=some (L8 c.1[k]) from Pj _ _ hg.1];grind[ab,tD,UY,Yt]
theorem Yy (c:dH)(k:Int)(z:Db 600000000 c):pJ c k=some (xD c k):=by
 have z9:cr 1000000000 iB c:=z.z.mono;unfold pJ xD;rw[Ks c z9,ab,VU c (z.sz),ab];cases hb:yG c;rfl;by_cases h0:k<0;rw[aw h0];rfl;by_cases h1:k>=(c.1.length:Int)
 simp_all;obtain⟨k,rfl⟩:=aF (by omega:0<=k);have hk:k<c.1.length:=by omega
 rw[al h0,al h1];have hz:=z.h _ (aN hk);have zt:=Ff (by omega) hz;have zc:Db 700000000 (Yt c k (gW c.1[k])):=(Na (z.mono (show 600000000<=600005440 by omega)) zt).mono;have hg:=LJ c.1[k];have hw:∀x∈L8 c.1[k],x.length<=10^9:=λx hx=>bf (zt.z.2.2.2.2.2.2.2.2.2.2.2.1.2 x (List.mem_of_mem_drop hx)) (by omega);have hn:=Lp c.1[k];have zp:=M7 c.2.2.1;simp only[aA,ax hk,aY hk,M0 hk,ab,aj,cL,ae,af,cW,GM _ (λm hm=>(z9.2.2.1.2 m hm).1.2.2.1),Ts _ (hz.mono)];rw[show sub (gW c.1[k]).2.2.2.2.2.2.2.2.2.2.2.1 ((c.1[k].2.2.2.2.2.2.2.2.2.2.2.1).length:Int) (((gW c.1[k]).2.2.2.2.2.2.2.2.2.2.2.1).length:Int)=some (L8 c.1[k]) from Pj _ _ hg.1];grind[ab,aP,VT,Yt]
theorem Ny {n:Nat}(hn:1000<=n)(k:Int)(z:Db n c):Db (n+48960) (xD c k)/\(xD c k).1.length=c.1.length:=by unfold xD;cases yG c&&(!decide (k<0)&& !decide (k>=(c.1.length:Int)));exact⟨z.mono,rfl⟩;simp only[af];cases hx:c.1[k.toNat]? with|none=>exact⟨z.mono,rfl⟩|some h=>have zt:=Ff (by omega) (z.h h (dw hx));have zc:=Na (k:=k.toNat) (z.mono (show n<=n+5440 by omega)) zt;have:=Kn (ps:=(hG c.2.2.1).1) (k:=k) (L8 h) (by omega) zc;have hl:=Lp h;refine⟨this.1.mono,this.2.trans ?_⟩;show(c.1.set _ _).length=_;rw[bg]
theorem T7 (k:Int)(z:Db 1048576 c)(hc:kj iB c<=600000000000000):kj iB (xD c k)<=600000000000000:=by have h:=Ny (by omega) k z;cases hb:yG c with|true=>exact acz (h.1.z.mono) (by grind[D8])|false=>grind[xD]
end
end Go.Pu
