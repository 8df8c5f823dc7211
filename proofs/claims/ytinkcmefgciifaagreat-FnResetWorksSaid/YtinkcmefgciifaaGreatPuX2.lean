import Derived.Test.YtinkcmefgciifaaGreatPuX1
namespace Go.Pu
open Go.Dn
open BitVec (toNat)
open Int (tmod)
set_option linter.unusedSimpArgs false
set_option linter.unusedVariables false
noncomputable section
variable {s t x:Bytes} {h:Host} {d:Int} {a b hd i k n:Nat} {g:Nat->Host->Host} {p:aM} {q:bt} {R α:Type} {l:az aH} {m:cg} {f:cg×bt} {r:na}
/- Reading frames: the program's and the reference's results are one. -/
theorem FQ {a:Int}(h0:0<=a:=by omega)(h:a+2<=(s.length:Int):=by omega):0<=cv s a/\cv s a<=65535:=by have h1:=fS s a.toNat;have h2:=fS s (a.toNat+1);unfold cv fR;rw[aw ⟨h0,h⟩];simp only[ah];omega
theorem DA {a:Int}(h0:0<=a:=by omega)(h:a+4<=(s.length:Int):=by omega):0<=gn s a/\gn s a<=4294967295:=by have h1:=fS s a.toNat;have h2:=fS s (a.toNat+1);have h3:=fS s (a.toNat+2);have h4:=fS s (a.toNat+3);unfold gn fR;rw[aw ⟨h0,h⟩];simp only[ah];omega
theorem ahz {x y:Int}(hx:0<=x/\x<=65535)(hy:0<=y/\y<=4294967295):ar (toNat (gM (ar (x*2^(ow 32)))|||gM y))=x*4294967296+y:=by have e:(2:Int)^(ow 32)=4294967296:=rfl;obtain⟨x,rfl⟩:=aA hx.1;obtain⟨y,rfl⟩:=aA hy.1;rw[e,al (n:=(x:Int)*4294967296),show(x:Int)*4294967296=((2^32*x:Nat):Int) by omega,Il x 32 y];omega
theorem acq {x y:Int}(hx:0<=x/\x<=65535)(hy:0<=y/\y<=4294967295):ar (ar (x*2^(ow 32))+y)=x*4294967296+y:=by have e:(2:Int)^(ow 32)=4294967296:=rfl;rw[e,al (n:=x*4294967296),al]
theorem Br {l:az α}{n:Int}(h0:0<=n:=by omega)(h1:n<=(l.length:Int):=by omega):sub l 0 n=some (l.take n.toNat):=by unfold sub;rw[zip];simp
theorem vB {l:az α}(k:Nat)(h:k<=l.length:=by omega){a:Int}(ha:a=(k:Int):=by omega):sub l a (l.length:Int)=some (l.drop k):=by unfold sub;rw[zip];subst ha;simp
theorem Vf {l:az α}(k:Nat){a n:Int}(ha:a=(k:Int))(h0:a<=n:=by omega)(h1:n<=(l.length:Int):=by omega):sub l a n=some ((l.take n.toNat).drop k):=by unfold sub;rw[zip];subst ha;simp
def zY (s:Bytes):Bytes×Bool:=bif decide ((s.length:Int)<4) then([],false) else bif CV (s.take ((s.length:Int)-4).toNat)==s then(s.take ((s.length:Int)-4).toNat,true) else([],false)
theorem abg (s:Bytes)(h:s.length<=10^9):yX s=some (zY s):=by unfold yX zY;rw[al (n:=(s.length:Int)-4)];by_cases h4:(s.length:Int)<4;rw[aw h4];rfl;rw[au h4,Br];simp only[af,ab,acH _ (show(s.take ((s.length:Int)-4).toNat).length<=10^9 by rw[aY];omega)];cases CV (s.take ((s.length:Int)-4).toNat)==s<;>rfl
theorem aad (s:Bytes)(h:s.length<=10^9):yE s=some (zY s):=by unfold yE zY;rw[al (n:=(s.length:Int)-4)];by_cases h4:(s.length:Int)<4;rw[aw (show(s.length:Int)-4<0 by omega),aw h4];rfl;rw[au (show¬(s.length:Int)-4<0 by omega),au h4,Br];simp only[af,ab,ach _ (show(s.take ((s.length:Int)-4).toNat).length<=10^9 by rw[aY];omega)];cases CV (s.take ((s.length:Int)-4).toNat)==s<;>rfl
def agE:NN:=(0,0,0,0,([]:Bytes))
def AB (s:Bytes)(a:Int):Int:=cv s a*4294967296+gn s (a+2)
def FI (s:Bytes):NN:=(AB s 0,AB s 6,cv s 14,cv s 16,s.drop 18)
def wA (s:Bytes):NN:=(AB s 0,AB s 6, -1,cv s 12,s.drop 14)
def gC (s:Bytes):NN×Bool:=bif decide ((s.length:Int)<18) then(agE,false) else
 bif cv s 12==33024 then(bif qF (FI s) then(FI s,true) else(agE,false)) else bif qF (wA s) then(wA s,true) else(agE,false)
theorem U5 (s:Bytes)(h:s.length<=10^9):zg s=some (gC s):=by unfold zg gC;by_cases h8:(s.length:Int)<18;rw[aw h8];rfl;rw[au h8];simp only[af,D6 s _ h,LB s _ h,ab];rw[kz,kz,vB (l:=s) 14 (by omega) (show(14:Int)=((14:Nat):Int) from rfl),ab,vB (l:=s) 18 (by omega) (show(18:Int)=((18:Nat):Int) from rfl)];rw[acq (FQ (s:=s) (a:=0)) (DA (s:=s) (a:=2)),acq (FQ (s:=s) (a:=6)) (DA (s:=s) (a:=8))];simp only[ab,Lz];rw[show((cv s 0*4294967296+gn s 2,cv s 6*4294967296+gn s 8,cv s 14,cv s 16,s.drop 18):NN)=FI s from rfl,show((cv s 0*4294967296+gn s 2,cv s 6*4294967296+gn s 8, -1,cv s 12,s.drop 14):NN)=wA s from rfl];cases cv s 12==33024<;>cases qF (FI s)<;>cases qF (wA s)<;>rfl
theorem Jn (s:Bytes)(h:s.length<=10^9):uF s=some (gC s):=by
 unfold uF gC;by_cases h4:(s.length:Int)<14;rw[aw h4,aw (show(s.length:Int)<18 by omega)];rfl;rw[au h4];simp only[af,yd s _ h,BF s _ h,ab];rw[kz,kz,vB (l:=s) 14 (by omega) (show(14:Int)=((14:Nat):Int) from rfl),ab];rw[ahz (FQ (s:=s) (a:=0)) (DA (s:=s) (a:=2)),ahz (FQ (s:=s) (a:=6)) (DA (s:=s) (a:=8))];simp only[ab,Sd];rw[show((cv s 0*4294967296+gn s 2,cv s 6*4294967296+gn s 8, -1,cv s 12,s.drop 14):NN)=wA s from rfl];by_cases h8:(s.length:Int)<18;have hB:qF (wA s)=false:=by
  unfold qF wA;have:dD ((s.drop 14).length:Int) 46 400=false:=by rw[Bool.eq_false_iff,ne_eq,aS,aP];omega
  simp only[this,eH]
 rw[aw h8,au (show¬(s.length:Int)>=18 by omega),hB];cases cv s 12==33024<;>rfl;rw[au h8,aw (show(s.length:Int)>=18 by omega),vB (l:=s) 18 (by omega) (show(18:Int)=((18:Nat):Int) from rfl)];simp only[ab];rw[show((cv s 0*4294967296+gn s 2,cv s 6*4294967296+gn s 8,cv s 14,cv s 16,s.drop 18):NN)=FI s from rfl];cases cv s 12==33024<;>cases qF (FI s)<;>cases qF (wA s)<;>rfl
def ip0:Ip:=(0,0,0,0,0,0,([]:Bytes))
def Dd (s:Bytes):Ip:=((bR s 1:Int),cv s 4,(bR s 8:Int),(bR s 9:Int),gn s 12,gn s 16,(s.take (cv s 2).toNat).drop 20)
def ll (s:Bytes):Ip×Bool:=bif decide ((s.length:Int)<20)||(decide (cv s 2<20)||decide (cv s 2>(s.length:Int))) then(ip0,false) else
 bif (Ra (Dd s)).2&&((Ra (Dd s)).1==s.take (cv s 2).toNat) then(Dd s,true) else(ip0,false)
theorem X8 (s:Bytes)(h:s.length<=10^9):Bf s=some (ll s):=by
 unfold Bf ll;simp only[D6 s _ h,LB s _ h,ab];by_cases h1:(s.length:Int)<20;rw[aw h1];rfl;by_cases h2:cv s 2<20;rw[au h1,aw h2];rfl;by_cases h3:cv s 2>(s.length:Int);rw[au h1,au h2,aw h3];rfl;rw[au h1,au h2,au h3];have b1:=nv (s[1]'(by omega));have b8:=nv (s[8]'(by omega));have b9:=nv (s[9]'(by omega));have i1:idx s 1=some (s[1]'(by omega)):=bK (i:=1) (by omega);have i8:idx s 8=some (s[8]'(by omega)):=bK (i:=8) (by omega);have i9:idx s 9=some (s[9]'(by omega)):=bK (i:=9) (by omega);simp only[af,ab,bJ,i1,i8,i9];rw[Vf (l:=s) 20 (show(20:Int)=((20:Nat):Int) from rfl),Br,iZ (n:=(s[1]'(by omega)).toNat),iZ (n:=(s[8]'(by omega)).toNat),iZ (n:=(s[9]'(by omega)).toNat)];have e:(((s[1]'(by omega)).toNat:Int),cv s 4,((s[8]'(by omega)).toNat:Int),((s[9]'(by omega)).toNat:Int),gn s 12,gn s 16,(s.take (cv s 2).toNat).drop 20)=Dd s:=by simp only[Dd,bR,cO (show 1<s.length by omega),cO (show 8<s.length by omega),cO (show 9<s.length by omega)]
 simp only[ab,e,aiq];cases (Ra (Dd s)).2<;>cases (Ra (Dd s)).1==s.take (cv s 2).toNat<;>rfl
theorem WQ (s:Bytes)(h:s.length<=10^9):AU s=some (ll s):=by
 unfold AU ll;simp only[yd s _ h,BF s _ h,ab];by_cases h1:(s.length:Int)<20;rw[aw h1];rfl;by_cases h2:cv s 2<20;rw[au h1,aw h2];rfl;by_cases h3:cv s 2>(s.length:Int);rw[au h1,au h2,aw h3];rfl;rw[au h1,au h2,au h3];have b1:=nv (s[1]'(by omega));have b8:=nv (s[8]'(by omega));have b9:=nv (s[9]'(by omega));have i1:idx s 1=some (s[1]'(by omega)):=bK (i:=1) (by omega);have i8:idx s 8=some (s[8]'(by omega)):=bK (i:=8) (by omega);have i9:idx s 9=some (s[9]'(by omega)):=bK (i:=9) (by omega);simp only[af,ab,bJ,i1,i8,i9];rw[Vf (l:=s) 20 (show(20:Int)=((20:Nat):Int) from rfl),Br,iZ (n:=(s[1]'(by omega)).toNat),iZ (n:=(s[8]'(by omega)).toNat),iZ (n:=(s[9]'(by omega)).toNat)];have e:(((s[1]'(by omega)).toNat:Int),cv s 4,((s[8]'(by omega)).toNat:Int),((s[9]'(by omega)).toNat:Int),gn s 12,gn s 16,(s.take (cv s 2).toNat).drop 20)=Dd s:=by simp only[Dd,bR,cO (show 1<s.length by omega),cO (show 8<s.length by omega),cO (show 9<s.length by omega)]
 simp only[ab,e,ahk];cases (Ra (Dd s)).2<;>cases (Ra (Dd s)).1==s.take (cv s 2).toNat<;>rfl
def amR:fE:=(0,0,0,0,0,0,0,([]:Bytes))
def Lx (k:Int)(s:Bytes):fE:=(k,cv s 0,cv s 2,gn s 4,gn s 8,(bR s 13:Int),cv s 14,s.drop 20)
def Qc (k:Int)(s:Bytes):fE:=(k,cv s 0,cv s 2,0,0,0,0,s.drop 8)
def nP (a b k:Int)(s:Bytes):fE×Bool:=
 bif (k==6)&&decide ((s.length:Int)>=20) then(bif (Ak a b (Lx k s)).2&&((Ak a b (Lx k s)).1==s) then(Lx k s,true) else(amR,false)) else
 bif (k==17)&&decide ((s.length:Int)>=8) then(bif (Ak a b (Qc k s)).2&&((Ak a b (Qc k s)).1==s) then(Qc k s,true) else(amR,false)) else(amR,false)
theorem U6 (a b k:Int)(s:Bytes)(h:s.length<=10^9):sr a b k s=some (nP a b k s):=by
 unfold sr nP;simp only[D6 s _ h,LB s _ h,ab];rw[show(aa (cond (k==6) (some (decide ((s.length:Int)>=20))) (some false)):(Bool->aC (fE×Bool))->aC (fE×Bool))=λK=>K ((k==6)&&decide ((s.length:Int)>=20)) from by funext K;cases k==6<;>rfl];rw[show(aa (cond (k==17) (some (decide ((s.length:Int)>=8))) (some false)):(Bool->aC (fE×Bool))->aC (fE×Bool))=λK=>K ((k==17)&&decide ((s.length:Int)>=8)) from by funext K;cases k==17<;>rfl];simp only;cases h1:(k==6)&&decide ((s.length:Int)>=20)with
 |true=>
  simp only[ae,aG]at h1;have bb:=nv (s[13]'(by omega));have i:idx s 13=some (s[13]'(by omega)):=bK (i:=13) (by omega);have e:(k,cv s 0,cv s 2,gn s 4,gn s 8,((s[13]'(by omega)).toNat:Int),cv s 14,s.drop 20)=Lx k s:=by simp only[Lx,bR,cO (show 13<s.length by omega)]
  simp only[ah,i,ab];rw[vB (l:=s) 20 (by omega) (show(20:Int)=((20:Nat):Int) from rfl),iZ (n:=(s[13]'(by omega)).toNat)];simp only[ab,e,Gu];cases (Ak a b (Lx k s)).2<;>cases (Ak a b (Lx k s)).1==s<;>rfl
 |false=>simp only[af];cases h2:(k==17)&&decide ((s.length:Int)>=8)with|false=>rfl|true=>simp only[ae,aG]at h2;rw[vB (l:=s) 8 (by omega) (show(8:Int)=((8:Nat):Int) from rfl)];simp only[ah,ab,show((k,cv s 0,cv s 2,0,0,0,0,s.drop 8):fE)=Qc k s from rfl,Gu];cases (Ak a b (Qc k s)).2<;>cases (Ak a b (Qc k s)).1==s<;>rfl
theorem Uw (a b k:Int)(s:Bytes)(h:s.length<=10^9):rV a b k s=some (nP a b k s):=by
 unfold rV nP;simp only[yd s _ h,BF s _ h,ab];rw[show(aa (cond (k==6) (some (decide ((s.length:Int)>=20))) (some false)):(Bool->aC (fE×Bool))->aC (fE×Bool))=λK=>K ((k==6)&&decide ((s.length:Int)>=20)) from by funext K;cases k==6<;>rfl];rw[show(aa (cond (k==17) (some (decide ((s.length:Int)>=8))) (some false)):(Bool->aC (fE×Bool))->aC (fE×Bool))=λK=>K ((k==17)&&decide ((s.length:Int)>=8)) from by funext K;cases k==17<;>rfl];simp only;cases h1:(k==6)&&decide ((s.length:Int)>=20)with
 |true=>
  simp only[ae,aG]at h1;have bb:=nv (s[13]'(by omega));have i:idx s 13=some (s[13]'(by omega)):=bK (i:=13) (by omega);have e:(k,cv s 0,cv s 2,gn s 4,gn s 8,((s[13]'(by omega)).toNat:Int),cv s 14,s.drop 20)=Lx k s:=by simp only[Lx,bR,cO (show 13<s.length by omega)]
  simp only[ah,i,ab];rw[vB (l:=s) 20 (by omega) (show(20:Int)=((20:Nat):Int) from rfl),iZ (n:=(s[13]'(by omega)).toNat)];simp only[ab,e,F4];cases (Ak a b (Lx k s)).2<;>cases (Ak a b (Lx k s)).1==s<;>rfl
 |false=>simp only[af];cases h2:(k==17)&&decide ((s.length:Int)>=8)with|false=>rfl|true=>simp only[ae,aG]at h2;rw[vB (l:=s) 8 (by omega) (show(8:Int)=((8:Nat):Int) from rfl)];simp only[ah,ab,show((k,cv s 0,cv s 2,0,0,0,0,s.drop 8):fE)=Qc k s from rfl,F4];cases (Ak a b (Qc k s)).2<;>cases (Ak a b (Qc k s)).1==s<;>rfl
def pk0:aM:=(0,0,0,0,0,0,0,0,0,0,0,0,0,0,0,([]:Bytes))
def ka (s:Bytes):aM×Int:=
 let e:=gC s
 bif !e.2||(e.1.2.2.2.1 !=2048) then(pk0,2) else
 let i:=ll e.1.2.2.2.2
 bif !i.2 then(pk0,3) else
 let g:=nP i.1.2.2.2.2.1 i.1.2.2.2.2.2.1 i.1.2.2.2.1 i.1.2.2.2.2.2.2
 bif !g.2 then(pk0,4) else
 bif !cH (e.1.1,e.1.2.1,e.1.2.2.1,i.1.1,i.1.2.1,i.1.2.2.1,i.1.2.2.2.2.1,i.1.2.2.2.2.2.1,g.1) then(pk0,5) else
 ((e.1.1,e.1.2.1,e.1.2.2.1,i.1.1,i.1.2.1,i.1.2.2.1,i.1.2.2.2.2.1,i.1.2.2.2.2.2.1,g.1),0)
theorem EH (s:Bytes):(gC s).1.2.2.2.2.length<=s.length:=by
 unfold gC;cases decide ((s.length:Int)<18);case true=>simp[agE]
 cases cv s 12==33024<;>cases qF (FI s)<;>cases qF (wA s)<;>simp[agE,FI,wA]
theorem Mm (s:Bytes):(ll s).1.2.2.2.2.2.2.length<=s.length:=by
 unfold ll;cases decide ((s.length:Int)<20)||(decide (cv s 2<20)||decide (cv s 2>(s.length:Int)));case true=>simp[ip0]
 cases (Ra (Dd s)).2&&((Ra (Dd s)).1==s.take (cv s 2).toNat)with|false=>simp[ip0]|true=>simp[Dd];omega
theorem afb (s:Bytes)(h:s.length<=10^9):xC s=some (ka s):=by
 have h1:=EH s;unfold xC ka;rw[U5 s h,ab];generalize gC s=e at h1⊢;have h2:=Mm e.1.2.2.2.2;simp only;cases e.2;rfl;cases e.1.2.2.2.1 !=2048;case true=>rfl
 simp only[ak,af,ab,bJ,X8 _ (show e.1.2.2.2.2.length<=10^9 by omega)];generalize ll e.1.2.2.2.2=i at h2⊢;cases i.2;rfl;simp only[ak,af,ab,U6 _ _ _ _ (show i.1.2.2.2.2.2.2.length<=10^9 by omega)];generalize nP i.1.2.2.2.2.1 i.1.2.2.2.2.2.1 i.1.2.2.2.1 i.1.2.2.2.2.2.2=g;cases g.2;rfl;simp only[ak,af,ab,yl];cases cH (e.1.1,e.1.2.1,e.1.2.2.1,i.1.1,i.1.2.1,i.1.2.2.1,i.1.2.2.2.2.1,i.1.2.2.2.2.2.1,g.1)<;>rfl
theorem G1 (s:Bytes)(h:s.length<=10^9):jM s=some (ka s):=by
 have h1:=EH s;unfold jM ka;rw[Jn s h,ab];generalize gC s=e at h1⊢;have h2:=Mm e.1.2.2.2.2;simp only;cases e.2;rfl;cases e.1.2.2.2.1 !=2048;case true=>rfl
 simp only[ak,af,ab,bJ,WQ _ (show e.1.2.2.2.2.length<=10^9 by omega)];generalize ll e.1.2.2.2.2=i at h2⊢;cases i.2;rfl;simp only[ak,af,ab,Uw _ _ _ _ (show i.1.2.2.2.2.2.2.length<=10^9 by omega)];generalize nP i.1.2.2.2.2.1 i.1.2.2.2.2.2.1 i.1.2.2.2.1 i.1.2.2.2.2.2.2=g;cases g.2;rfl;simp only[ak,af,ab,rm];cases cH (e.1.1,e.1.2.1,e.1.2.2.1,i.1.1,i.1.2.1,i.1.2.2.1,i.1.2.2.2.2.1,i.1.2.2.2.2.2.1,g.1)<;>rfl
def eO (s:Bytes):aM×Int:=
 let c:=zY s
 bif !c.2 then(pk0,1) else
 let r:=ka c.1
 bif r.2 !=0 then(pk0,r.2) else
 bif !gb r.1 then(pk0,5) else(r.1,0)
theorem N6 (s:Bytes):(zY s).1.length<=s.length:=by
 unfold zY;cases decide ((s.length:Int)<4);case true=>simp
 cases CV (s.take ((s.length:Int)-4).toNat)==s with|false=>simp|true=>simp;omega
theorem Tb (s:Bytes)(h:s.length<=10^9):sX s=some (eO s):=by
 have h1:=N6 s;unfold sX eO;rw[abg s h,ab];generalize zY s=c at h1⊢;simp only;cases c.2;rfl;simp only[ak,af,ab,afb _ (show c.1.length<=10^9 by omega)];generalize ka c.1=r;cases r.2 !=0;case true=>rfl
 simp only[af,ab,Qi];cases gb r.1<;>rfl
theorem adO (s:Bytes)(h:s.length<=10^9):wS s=some (eO s):=by
 have h1:=N6 s;unfold wS eO;rw[aad s h,ab];generalize zY s=c at h1⊢;simp only;cases c.2;rfl;simp only[ak,af,ab,G1 _ (show c.1.length<=10^9 by omega)];generalize ka c.1=r;cases r.2 !=0;case true=>rfl
 simp only[af,ab,Eu];cases gb r.1<;>rfl
theorem M6 (l:cg)(h:l.length<=10^9):mz l=some l:=by simp only[mz,kT h,bX]
theorem O5 (f:Filter)(h:f.2.2.length<=10^9):vj f=some f:=by simp only[vj,nz _ h,ab]
theorem Cg (f:Filter)(h:f.2.2.length<=10^9):ua f=some f:=by simp only[ua,kT h,bX]
theorem Ag (l:az Stream)(h:l.length<=10^9:=by omega):my l=some l:=by simp only[my,kT h,bX]
theorem Q7 (t:az Slot)(h:t.length<=10^9):wY t=some t:=by simp only[wY,kT h,bX]
theorem O6 (s:lu)(h:s.2.length<=10^9):vm s=some s:=by simp only[vm,nz _ h,ab]
theorem Q6 (s:dj)(h1:s.1.length<=10^9)(h2:s.2.1.length<=10^9)(h3:s.2.2.2.length<=10^9):sa s=some s:=by simp only[sa,kT h1,Q7 _ h2,O6 _ h3,ab,bX]
theorem HJ (t:az Slot)(h:t.length<=10^9):xI t=some t:=by simp only[xI,kT h,bX]
theorem Dg (s:dj)(h1:s.1.length<=10^9)(h2:s.2.1.length<=10^9)(h3:s.2.2.2.length<=10^9):tW s=some s:=by simp only[tW,kT h1,HJ _ h2,kT h3,ab,bX]
theorem ae2 (l:az pS)(i:Nat)(hi:i<l.length):l.take i++[(l[i].1,l[i].2.1,l[i].2.2)]=l.take (i+1):=(bZ hi).symm
theorem Jj (l:az pS)(h:l.length<=10^9)(hx:∀x∈l,x.2.2.length<=10^9):uJ l=some l:=by unfold uJ;refine(fe (λi=>(l.take i,(i:Int))) l.length (by omega) (λi nx hi=>?_) (λnx=>?_));simp only[tJ];rw[lH,bK hi,al];simp only[ah,ab,nz _ (hx _ (bF hi))];rw[bf (by simp;omega),ae2 l i hi];rfl;simp only[tJ];rw[dw,fg];rfl
structure aja (t:dN):Prop where
 p:t.2.1.2.2.2.length<=10^9
 w:t.2.2.1.length<=10^9
 x:∀x∈t.2.2.1,x.2.2.length<=10^9
theorem Ia (t:dN)(z:aja t):sL t=some t:=by simp only[sL,vN _ z.p,Jj _ z.w z.x,ab]
theorem aoo (z:dC 1000000000 eG h):aja h.2.2.1:=⟨z.2.2.1.2.1.2.2.2.1,z.2.2.1.2.2.1.1,λx hx=>(z.2.2.1.2.2.1.2 x hx).2.2.1⟩
theorem nD (h:Host)(z:dC 1000000000 eG h):jm h=some h:=by have hp:h.2.2.2.2.1.length<=10^9:=z.2.2.2.2.1.1;have hm:h.1.length<=10^9:=z.1.1;unfold jm;simp only[ia _ (show h.1.length<=1073741824 by omega),wX,kT z.2.1.1,Ia _ (aoo z),kT z.2.2.2.1.1,ab,bX];refine(fe (λi=>((i:Int),h.1,h.2.1,h.2.2.1,h.2.2.2.1,h.2.2.2.2.1.take i,h.2.2.2.2.2)) h.2.2.2.2.1.length (by omega) (λi nx hi=>?_) (λnx=>?_));simp only[tI];rw[lH,bK hi,al];simp only[ah,ab,vN _ (z.2.2.2.2.1.2 _ (bF hi)).2.2.2.1];rw[bf (by simp;omega),<-bZ hi];rfl;simp only[tI];rw[dw,fg];simp only[af,kT z.2.2.2.2.2.1.1,kT z.2.2.2.2.2.2.1.1,O5 _ z.2.2.2.2.2.2.2.1.2.2.1,Q6 _ z.2.2.2.2.2.2.2.2.1.1.1 z.2.2.2.2.2.2.2.2.1.2.1.1 z.2.2.2.2.2.2.2.2.1.2.2.2.1,Ag _ z.2.2.2.2.2.2.2.2.2.1.1,M6 _ z.2.2.2.2.2.2.2.2.2.2.2.1.1,nz _ z.2.2.2.2.2.2.2.2.2.2.2.2.1.1,nz _ z.2.2.2.2.2.2.2.2.2.2.2.2.2.1.1,ab,bX]
theorem abP:∀l:az pS,(bG l).length<=YL (.sl kX) l
 |[]=>by simp[bG]
 |x::l=>by have:=abP l;simp only[bG,YL,List.flatMap_cons,aj,cS,gv,aV]at this⊢;omega
def aoA:HS:=((0,false,([]:dA)),(([]:az kc),([]:az Slot),([]:Bytes),([]:dA)),0,([]:az Stream),([]:cg))
def Gs (h:Host):HS:=bif fb h then(h.2.2.2.2.2.2.2.1,h.2.2.2.2.2.2.2.2.1,(h.2.2.2.1.length:Int),h.2.2.2.2.2.2.2.2.2.1,([]:cg)) else aoA
theorem abl (h:Host)(z:dC 1000000000 eG h)(k:HR h):wb h=some (Gs h):=by simp only[wb,aip h k,ab,Gs];cases fb h with|false=>rfl|true=>simp only[ak,af,ah,Cg _ z.2.2.2.2.2.2.2.1.2.2.1,Dg _ z.2.2.2.2.2.2.2.2.1.1.1 z.2.2.2.2.2.2.2.2.1.2.1.1 z.2.2.2.2.2.2.2.2.1.2.2.2.1,kT z.2.2.2.2.2.2.2.2.2.1.1,ab,bX]
theorem ae4 (h:Host)(z:dC n eG h):dC n LL (Gs h):=by unfold Gs;cases fb h with|false=>exact⟨⟨cM,cM,bM _,λ_ h=>nomatch h⟩,⟨⟨bM _,λ_ h=>nomatch h⟩,⟨bM _,λ_ h=>nomatch h⟩,bM _,bM _,λ_ h=>nomatch h⟩,cM,⟨bM _,λ_ h=>nomatch h⟩,bM _,λ_ h=>nomatch h⟩|true=>exact⟨z.2.2.2.2.2.2.2.1,z.2.2.2.2.2.2.2.2.1,cM,z.2.2.2.2.2.2.2.2.2.1,bM _,λ_ h=>nomatch h⟩
noncomputable def S8 (s:HS):Bool:=nB s.1&&fu s.2.1 s.2.2.1
theorem aiu (s:HS)(h0:s.1.2.2.length<=10^9)(h1:s.2.1.1.length<=10^9)(h2:s.2.1.2.1.length<=10^9)(h3:s.2.1.2.2.2.length<=10^9):CS s=some (S8 s):=by unfold CS S8;simp only[EP _ h0,Bb _ _ h1 h2 h3,ab,cb];cases nB s.1<;>rfl
def YB (f:zW)(s:Stream):Bool:=decide (s.1=f)
def Kf (l:az Stream)(f:zW):Int:=match l.findIdx? (YB f)with|some i=>(i:Int)|none=> -1
theorem Yc (l:az Stream)(f:zW)(h:l.length<=10^9):iQ l f=some (Kf l f):=by
 unfold iQ Kf;rw[GO (p:=YB f) (hit:=λi=>some i) (fin:=some (-1)) l (by omega) (λi hi nx=>?hs) (λnx=>?hf)]
 case hs=>
  simp only[jS]
  rw[lH,bK hi,al]
  simp only[ah,ab,Ek,YB];rfl
 case hf=>
  simp only[jS]
  rw[dw];rfl
 cases l.findIdx? (YB f)<;>rfl
theorem WW (l:az Stream)(f:zW)(h:l.length<=10^9):mw l f=some (Kf l f):=by
 unfold mw Kf;rw[GO (p:=YB f) (hit:=λi=>some i) (fin:=some (-1)) l (by omega) (λi hi nx=>?hs) (λnx=>?hf)]
 case hs=>
  simp only[jR]
  rw[lH,bK hi,al]
  simp only[ah,ab,Ek,YB];rfl
 case hf=>
  simp only[jR]
  rw[dw];rfl
 cases l.findIdx? (YB f)<;>rfl
def Vc:Stream:=((0,0,0,0,0),0,([]:Bytes),false)
def body (p:aM):Bytes:=p.2.2.2.2.2.2.2.2.2.2.2.2.2.2.2
def udp (p:aM):Bytes:=aW ((body p).length:Int)++body p
def lR (p:aM)(b:Int):Bool:=ar (toNat (gM p.2.2.2.2.2.2.2.2.2.2.2.2.2.1&&&gM b)) !=0
def fH (s:Stream)(p:aM):Int:=(s.2.1-p.2.2.2.2.2.2.2.2.2.2.2.1)%4294967296
def Rv (s:Stream)(p:aM):Stream:=(s.1,(s.2.1+((body p).length:Int)-fH s p)%4294967296,s.2.2.1++(body p).drop (fH s p).toNat,lR p 1)
def jx (l:az Stream)(p:aM):az Stream:=
 bif !cH p then l else
 match l.findIdx? (YB (dP p))with
 |none=>
  bif p.2.2.2.2.2.2.2.2.1==17 then l++[(dP p,0,udp p,false)] else
  bif lR p 2 then l++[(dP p,tmod (ar (p.2.2.2.2.2.2.2.2.2.2.2.1+1)) 4294967296,([]:Bytes),false)] else l
 |some i=>
  bif p.2.2.2.2.2.2.2.2.1==17 then l.set i ((l.getD i Vc).1,(l.getD i Vc).2.1,(l.getD i Vc).2.2.1++udp p,(l.getD i Vc).2.2.2) else
  bif lR p 2 then l else
  bif (l.getD i Vc).2.2.2||lR p 4 then l else
  bif decide (fH (l.getD i Vc) p<=((body p).length:Int)) then l.set i (Rv (l.getD i Vc) p) else l
theorem NO (s:Stream)(p:aM):0<=fH s p/\fH s p<4294967296:=by unfold fH;omega
theorem ahC (x:Int):ar (toNat (gM x&&&gM 4294967295))=x%4294967296:=by have:=Fz x 32;rw[show((2:Int)^32-1)=4294967295 from rfl,show((2:Int)^32)=4294967296 from rfl]at this;rw[this,al]
theorem ai2 (x:Int):ar x%4294967296=x%4294967296:=by have:=Ea x 32;rwa[show((2:Int)^32)=4294967296 from rfl]at this
theorem J3 (l:az α)(x y:α):(l++[x]).set l.length y=l++[y]:=by rw[List.set_append_right _ _ (aX _),ni,List.set_cons_zero]
theorem ace {l:az α}(h:i<l.length)(x:α):idx (l.set i x) (i:Int)=some x:=by rw[Ny,bq h]
theorem AM (l:az α)(x:α):idx (l++[x]) (l.length:Int)=some x:=by rw[Ny,bE (aX _),ni];rfl
theorem NY (h:cH p=true):(body p).length<=320:=EX h
theorem Ut (l:az Stream)(p:aM)(h:dC 900000000 (.sl dH) l):AP l p=some (jx l p):=by
 have hl:l.length<=900000000:=h.1;unfold AP jx;simp only[Ag l,rm,ab,O8,WW l _ (show l.length<=10^9 by omega),mK];cases hs:cH p;rfl;have hb:=NY hs;have hw:=bO ((body p).length:Int);simp only[ak,af];rw[show p.2.2.2.2.2.2.2.2.2.2.2.2.2.2.2=body p from rfl];cases hf:l.findIdx? (YB (dP p))with
 |none=>
  have e1:Kf l (dP p)= -1:=by rw[Kf,hf]
  simp only[e1,show decide ((-1:Int)<0)=true from rfl,ah];cases p.2.2.2.2.2.2.2.2.1==17 with|true=>simp only[ah];rw[bf (by simp;omega),AM,ab];simp only;rw[bf,bf (by simp only[aj,dg];omega),ab,ax];simp only[ab,AM,J3,bX];rfl|false=>simp only[af];rw[show(ar (toNat (gM p.2.2.2.2.2.2.2.2.2.2.2.2.2.1&&&gM 2)) !=0)=lR p 2 from rfl];cases lR p 2 with|true=>simp only[ah];rw[kz,bf (by simp;omega)]|false=>rfl
 |some i=>
  obtain⟨hi,_⟩:=List.findIdx?_eq_some_iff_getElem.1 hf;have hd:(l[i].2.2.1).length<=900000000:=(h.2 _ (bF hi)).2.2.1;have e1:Kf l (dP p)=(i:Int):=by rw[Kf,hf]
  simp only[e1,au (show¬(i:Int)<0 by omega),af,bK hi,ab,cO hi,ax];cases p.2.2.2.2.2.2.2.2.1==17 with
  |true=>simp only[ah];rw[bf,bf (by simp only[aj];omega)];rfl
  |false=>
   simp only[af];rw[show(ar (toNat (gM p.2.2.2.2.2.2.2.2.2.2.2.2.2.1&&&gM 2)) !=0)=lR p 2 from rfl,show(ar (toNat (gM p.2.2.2.2.2.2.2.2.2.2.2.2.2.1&&&gM 4)) !=0)=lR p 4 from rfl,show(ar (toNat (gM p.2.2.2.2.2.2.2.2.2.2.2.2.2.1&&&gM 1)) !=0)=lR p 1 from rfl];cases lR p 2;case true=>rfl
   simp only[af];rw[show(aa (cond l[i].2.2.2 (some true) (some (lR p 4))):(Bool->aC (az Stream))->aC (az Stream))=λK=>K (l[i].2.2.2||lR p 4) from by funext K;cases l[i].2.2.2<;>rfl];simp only;cases l[i].2.2.2||lR p 4;case true=>rfl
   simp only[af,K7 _ 4294967296,ab,ai2];rw[show(l[i].2.1-p.2.2.2.2.2.2.2.2.2.2.2.1)%4294967296=fH l[i] p from rfl];have ha:=NO l[i] p;by_cases hq:fH l[i] p<=((body p).length:Int)
   rw[aw hq,vB (l:=body p) (fH l[i] p).toNat];simp only[ah,ab];rw[bf (by rw[aP];omega)];simp only[ace hi,ab,List.set_set];refine congrArg some (congrArg (l.set i) ?_);simp only[Rv];rw[show(ar (l[i].2.1+((body p).length:Int))-fH l[i] p)%4294967296=(l[i].2.1+((body p).length:Int)-fH l[i] p)%4294967296 from by rw[Int.sub_emod,ai2,<-Int.sub_emod]];rw[au hq];rfl
theorem U2 (l:az Stream)(p:aM)(h:dC 900000000 (.sl dH) l):xp l p=some (jx l p):=by
 have hl:l.length<=900000000:=h.1;unfold xp jx;rw[kT];simp only[bX,yl,ab,Qg,Yc l _ (show l.length<=10^9 by omega),lF];cases hs:cH p;rfl;have hb:=NY hs;have hw:=bO ((body p).length:Int);simp only[ak,af];rw[show p.2.2.2.2.2.2.2.2.2.2.2.2.2.2.2=body p from rfl];cases hf:l.findIdx? (YB (dP p))with
 |none=>
  have e1:Kf l (dP p)= -1:=by rw[Kf,hf]
  simp only[e1,show decide ((-1:Int)<0)=true from rfl,ah];cases p.2.2.2.2.2.2.2.2.1==17 with|true=>simp only[ah];rw[bf (by simp;omega),AM,ab];simp only;rw[bf (by simp only[dg];omega),bf (by simp only[aj,dg];omega),ab,ax];simp only[ab,AM,J3,bX];rfl|false=>simp only[af];rw[show(ar (toNat (gM p.2.2.2.2.2.2.2.2.2.2.2.2.2.1&&&gM 2)) !=0)=lR p 2 from rfl];cases lR p 2 with|true=>simp only[ah];rw[kz,bf (by simp;omega)]|false=>rfl
 |some i=>
  obtain⟨hi,_⟩:=List.findIdx?_eq_some_iff_getElem.1 hf;have hd:(l[i].2.2.1).length<=900000000:=(h.2 _ (bF hi)).2.2.1;have e1:Kf l (dP p)=(i:Int):=by rw[Kf,hf]
  simp only[e1,au (show¬(i:Int)<0 by omega),af,bK hi,ab,cO hi,ax];cases p.2.2.2.2.2.2.2.2.1==17 with
  |true=>simp only[ah];rw[bf,bf (by simp only[aj];omega),aE];rfl
  |false=>
   simp only[af];rw[show(ar (toNat (gM p.2.2.2.2.2.2.2.2.2.2.2.2.2.1&&&gM 2)) !=0)=lR p 2 from rfl,show(ar (toNat (gM p.2.2.2.2.2.2.2.2.2.2.2.2.2.1&&&gM 4)) !=0)=lR p 4 from rfl,show(ar (toNat (gM p.2.2.2.2.2.2.2.2.2.2.2.2.2.1&&&gM 1)) !=0)=lR p 1 from rfl];cases lR p 2;case true=>rfl
   simp only[af];rw[show(aa (cond l[i].2.2.2 (some true) (some (lR p 4))):(Bool->aC (az Stream))->aC (az Stream))=λK=>K (l[i].2.2.2||lR p 4) from by funext K;cases l[i].2.2.2<;>rfl];simp only;cases l[i].2.2.2||lR p 4;case true=>rfl
   simp only[af,ahC,ab,ai2];rw[show(l[i].2.1-p.2.2.2.2.2.2.2.2.2.2.2.1)%4294967296=fH l[i] p from rfl];have ha:=NO l[i] p;by_cases hq:fH l[i] p<=((body p).length:Int)
   rw[aw hq,vB (l:=body p) (fH l[i] p).toNat];simp only[ah,ab];rw[bf (by rw[aP];omega)];simp only[ace hi,ab,List.set_set,aI (show¬(4294967296:Nat)=0 by omega)];refine congrArg some (congrArg (l.set i) ?_);simp only[Rv];have e:tmod (ar (ar (l[i].2.1%4294967296+((body p).length:Int))-fH l[i] p)) 4294967296=(l[i].2.1+((body p).length:Int)-fH l[i] p)%4294967296:=by rw[al (n:=l[i].2.1%4294967296+((body p).length:Int)),al,cZ (by omega)];omega
   rw[e];rw[au hq];rfl
theorem X5 (l:az Stream)(p:aM)(h:dC 100000000 (.sl dH) l):xp l p=some (jx l p):=U2 l p (h.mono)
theorem IY {l:az Stream}(h:dC n (.sl dH) l):dC (n+322) (.sl dH) (jx l p):=by
 have h':dC (n+322) (.sl dH) l:=h.mono;unfold jx;cases hs:cH p;exact h';have hb:=NY hs;have hw:=bO ((body p).length:Int);have hu:(udp p).length<=322:=by simp only[udp,aj];omega
 simp only[ak,af];have app:∀x:Stream,x.2.2.1.length<=n+322->dC (n+322) (.sl dH) (l++[x]):=by intro x hx;refine⟨?_,λy hy=>?_⟩;have:l.length<=n:=h.1;simp only[aj,bD];omega;rcases ay.1 hy with g|g;exact h'.2 y g;rw[bA.1 g];exact⟨⟨cM,cM,cM,cM,cM⟩,cM,hx,cM⟩
 have put:∀(i:Nat)(x:Stream),x.2.2.1.length<=n+322->dC (n+322) (.sl dH) (l.set i x):=by intro i x hx;refine⟨?_,λy hy=>?_⟩;show(l.set i x).length<=_;rw[aD];exact h'.1;rcases fI hy with g|rfl;exact h'.2 y g;exact⟨⟨cM,cM,cM,cM,cM⟩,cM,hx,cM⟩
 split;cases p.2.2.2.2.2.2.2.2.1==17 with|true=>exact app _ (show(udp p).length<=_ by omega)|false=>cases lR p 2 with|true=>exact app _ (bM _)|false=>exact h'
 ·rename_i i hf;obtain⟨hi,_⟩:=List.findIdx?_eq_some_iff_getElem.1 hf;have hd:(l[i].2.2.1).length<=n:=(h.2 _ (bF hi)).2.2.1;simp only[cO hi];cases p.2.2.2.2.2.2.2.2.1==17 with
  |true=>exact put _ _ (by simp only[aj];omega)
  |false=>
   cases lR p 2;case true=>exact h'
   cases l[i].2.2.2||lR p 4;case true=>exact h'
   cases decide (fH l[i] p<=((body p).length:Int))with|false=>exact h'|true=>exact put _ _ (by simp only[Rv,aj,aP];omega)
theorem U1 (s:HS)(z:dC 1000000000 LL s):Bp s=some s:=by simp only[Bp,Cg _ z.1.2.2.1,Dg _ z.2.1.1.1 z.2.1.2.1.1 z.2.1.2.2.2.1,kT z.2.2.2.1.1,kT z.2.2.2.2.1,ab,bX]
def Vk (s:HS)(x:Bytes):Bool:=S8 s&&(((eO x).2==0)&&(kK s.1 (eO x).1&&(iS s.2.1 s.2.2.1 (eO x).1 != -1)))
def xn (s:HS)(x:Bytes):HS:=bif Vk s x then(s.1,s.2.1,s.2.2.1,jx s.2.2.2.1 (eO x).1,s.2.2.2.2) else s
theorem X9 (s:HS)(x:Bytes)(z:dC 100000000 LL s)(h:x.length<=10^9):mD s x=some (xn s x):=by have z9:dC 1000000000 LL s:=z.mono;unfold mD xn Vk;simp only[U1 s z9,Tb x h,aiu s z9.1.2.2.1 z9.2.1.1.1 z9.2.1.2.1.1 z9.2.1.2.2.2.1,X4 s.1 _ z9.1.2.2.1,afd s.2.1 _ _ z9.2.1.1.1 z9.2.1.2.1.1 z9.2.1.2.2.2.1,X5 s.2.2.2.1 _ z.2.2.2.1,ab];cases S8 s<;>cases (eO x).2==0<;>cases kK s.1 (eO x).1<;>cases iS s.2.1 s.2.2.1 (eO x).1 != -1<;>rfl
theorem ajh (p:dy)(i:Int):oy p i= -1\/(0<=oy p i/\oy p i<=200000):=by unfold oy;cases hp:du p;exact .inl rfl;cases hi:dD i 0 (p.2.2.1-1);exact .inl rfl;have h:=AZ hp;have h2:=aS.1 hi;have h3:0<=i*p.2.1:=Int.mul_nonneg h2.1 (by omega);have h4:i*p.2.1<=16*512:=Int.mul_le_mul (by omega) (by omega) (by omega) (by omega);simp only[ak,bJ,af];exact .inr (by omega)
def ajt (l:az aH)(m:cg)(d a n:Int):Bool:=(qE l m d a n).2&&((ka (qE l m d a n).1).2==0)
def vX (l:az aH)(m:cg)(d:Int)(s:az Stream×bt×dy):az Stream×bt×dy:=
 ((bif ajt l m d (oy s.2.2 (lM l m d s.2.1.2.2.1).1.1) (lM l m d s.2.1.2.2.1).1.2.1 then jx s.1 (ka (qE l m d (oy s.2.2 (lM l m d s.2.1.2.2.1).1.1) (lM l m d s.2.1.2.2.1).1.2.1).1).1 else s.1),
   (s.2.1.1,s.2.1.2.1,(lM l m d s.2.1.2.2.1).2.1,s.2.1.2.2.2),(Ad s.2.2 [(lM l m d s.2.1.2.2.1).1.1]).1)
def jf (l:az aH)(m:cg)(d:Int):Nat->az Stream×bt×dy->Nat×(az Stream×bt×dy)
 |0,s=>(0,s)
 |k+1,s=>bif !(lM l m d s.2.1.2.2.1).2.2 then(0,s) else((jf l m d k (vX l m d s)).1+1,(jf l m d k (vX l m d s)).2)
structure Kx (n:Nat) (s:List Stream×bt×dy):Prop where
 st:dC n (.sl dH) s.1
 pl:s.2.2.2.2.2.length<=n
theorem Wi (p:dy)(l:dA):(Ad p l).1.2.2.2.length<=p.2.2.2.length+l.length:=by unfold Ad;cases xX p l with|false=>show p.2.2.2.length<=_;omega|true=>simp[ix]
theorem PW {s:az Stream×bt×dy}(h:Kx n s):Kx (n+322) (vX l m d s):=by
 refine⟨?_,?_⟩;unfold vX;cases ajt l m d (oy s.2.2 (lM l m d s.2.1.2.2.1).1.1) (lM l m d s.2.1.2.2.1).1.2.1 with|false=>exact h.st.mono|true=>exact IY h.st
 have:=Wi s.2.2 [(lM l m d s.2.1.2.2.1).1.1];have h2:=h.pl;show(Ad s.2.2 [(lM l m d s.2.1.2.2.1).1.1]).1.2.2.2.length<=_;simp only[bD]at this;omega
theorem Jo (K:az Stream->Int->bt->dy->aC R)(l:az aH)(m:cg)(d:Int)(N:Nat)(hN:N<=1000)(B1:cg)(B2:bt)(B3:dy)(hl:l.length<=10^9)(hm:m.length<=10^9):∀(k i:Nat)(s:az Stream×bt×dy)(f:Nat),i+k=N->k<f->Kx (500000000+322*i) s->
 bp (nJ K l d (N:Int) B1 B2 B3 m) f (s.1,(i:Int),s.2.1,s.2.2)=K (jf l m d k s).2.1 ((i+(jf l m d k s).1:Nat):Int) (jf l m d k s).2.2.1 (jf l m d k s).2.2.2
 |k,i,s,0,_,hf,_=>by omega
 |0,i,s,f+1,hi,hf,z=>by rw[bp];simp only[nJ];rw[dw,af];rfl
 |k+1,i,s,f+1,hi,hf,z=>by have oB:dC 900000000 (.sl dH) s.1:=z.st.mono;have Er:s.2.2.2.2.2.length<=900000000:=bH z.pl (by omega);rw[bp];simp only[nJ];rw[lH];simp only[ah,WN l m d _ hl hm,ab,jf];cases hnx:(lM l m d s.2.1.2.2.1).2.2 with|false=>rfl|true=>have key:=Jo K l m d N hN B1 B2 B3 hl hm k (i+1) (vX l m d s) f (by omega) (by omega) ((PW z).st.mono|>λa=>⟨a,bH (PW z).pl (by omega)⟩);rw[show i+1+(jf l m d k (vX l m d s)).1=i+((jf l m d k (vX l m d s)).1+1) by omega]at key;simp only[ak,af];rw[<-key];unfold vX;generalize lM l m d s.2.1.2.2.1=c;have ha:=ajh s.2.2 c.1.1;have hd:=Oi l m d (oy s.2.2 c.1.1) c.1.2.1;simp only[Ji _ _ (show s.2.2.2.2.2.length<=10^9 by omega),CG l m d _ c.1.2.1 hl hm (show oy s.2.2 c.1.1<=9223372036854775807 by omega),ab,G1 _ (bH hd (by omega)),Ut _ _ oB,Pa s.2.2 [c.1.1] (show s.2.2.2.2.2.length+1<=10^9 by omega)];rw[al (n:=(i:Int)+1),show((i+1:Nat):Int)=(i:Int)+1 by omega];unfold ajt;cases (qE l m d (oy s.2.2 c.1.1) c.1.2.1).2<;>cases (ka (qE l m d (oy s.2.2 c.1.1) c.1.2.1).1).2==0<;>rfl
theorem PU {l:az aH}{m:cg}{d:Int}:∀(k:Nat){s:az Stream×bt×dy}{n:Nat},Kx n s->Kx (n+322*k) (jf l m d k s).2
 |0,s,n,h=>h
 |k+1,s,n,h=>by rw[jf];cases (lM l m d s.2.1.2.2.1).2.2 with|false=>exact⟨h.st.mono,bH h.pl (by omega)⟩|true=>have:=PU (l:=l) (m:=m) (d:=d) k (PW (l:=l) (m:=m) (d:=d) h);exact⟨this.st.mono,bH this.pl (by omega)⟩
def gU (l:az aH)(m:cg)(d:Int)(rx:bt)(pl:dy)(st:az Stream)(n:Int):cg×bt×dy×az Stream×Int:=
 bif !BK rx||(!du pl|| !dD n 0 1000) then(m,rx,pl,st,0) else
 ((pW l m d (jf l m d n.toNat (st,rx,pl)).2.2.1.1 (jf l m d n.toNat (st,rx,pl)).2.2.2).1,
   ((pW l m d (jf l m d n.toNat (st,rx,pl)).2.2.1.1 (jf l m d n.toNat (st,rx,pl)).2.2.2).2.1,(jf l m d n.toNat (st,rx,pl)).2.2.1.2),
   (pW l m d (jf l m d n.toNat (st,rx,pl)).2.2.1.1 (jf l m d n.toNat (st,rx,pl)).2.2.2).2.2.1,(jf l m d n.toNat (st,rx,pl)).2.1,((jf l m d n.toNat (st,rx,pl)).1:Int))
theorem WR (l:az aH)(m:cg)(d:Int)(rx:bt)(pl:dy)(st:az Stream)(n:Int)(hl:l.length<=10^9)(hm:m.length<=10^9)(hp:pl.2.2.2.length<=500000000)(hs:dC 500000000 (.sl dH) st):wQ l m d rx pl st n=some (gU l m d rx pl st n):=by
 have C9:=eR;have hsl:st.length<=500000000:=hs.1;unfold wQ gU;simp only[ia m (show m.length<=1073741824 by omega),vN pl (show pl.2.2.2.length<=10^9 by omega),Ag st,Pd,wI pl (show pl.2.2.2.length<=10^9 by omega),dE,ab];cases BK rx;rfl;cases du pl;rfl;cases hn:dD n 0 1000;rfl;have h:=aS.1 hn;obtain⟨n,rfl⟩:=aA h.1;simp only[ak,af,ab,bJ,ax];have z:Kx (500000000+322*0) (st,rx,pl):=⟨hs,hp⟩
 have hz:=PU (l:=l) (m:=m) (d:=d) n z;refine(Jo _ l m d n (by omega) _ _ _ hl hm n 0 (st,rx,pl) fuel (by omega) (by omega) z).trans ?_;rw[cP];simp only[WM l m d _ _ hl hm (show(jf l m d n (st,rx,pl)).2.2.2.2.2.2.length<=10^9 from bH hz.pl (by omega)),ab]
def hY (i:Nat):Int:=1280+(i:Int)*1792
theorem abI (h:i<=8):ar (1280+ar ((i:Int)*1792))=hY i:=by rw[al (n:=(i:Int)*1792),al];rfl
theorem WI (i:Nat)(h:i<=8):sN (i:Int)=some (hY i):=by rw[sN,abI h]
theorem qt (a b n:Int)(h:n<=1000:=by omega):(gP a b n).1.2.2.2.length<=1000:=by unfold gP;cases du (a,b,n,[])with|false=>simp|true=>simp[upto];omega
def Fo (i:Nat):bt:=((hY i,4,0,0),(hY i+64,4,0),(hY i+64,4,0),((0,0,0,0,0,0,0,0,0,0,0,0,0,0,0,([]:Bytes)),0,0),false,0)
theorem adP (i:Nat)(h:i<=8):ye (i:Int)=some (Fo i,(gP (hY i+128) 384 4).1):=by have hb:hY i=1280+(i:Int)*1792:=rfl;simp only[ye,WI i h,ab];rw[al (n:=hY i+128),al (n:=hY i+64),L9];rfl
def tc:dN:=((0,16,0,0),(gP 256 128 8).1,([]:az pS),0)
theorem adZ:Ez=some tc:=by rw[Ez,L9];rfl
theorem afe:zn=some tc:=by rw[zn,Mx];rfl
def mh (l:az aH)(m:cg)(i:Nat):cg×na×dy×Int:=
 pW l (hZ l m 0 (hY i) (ug 128) false).1 0 (hY i,4,0,0) (gP (hY i+128) 384 4).1
def Mi (h:Host)(i:Nat):Host:=
 ((mh h.2.1 h.1 i).1,h.2.1,h.2.2.1,h.2.2.2.1.set i ((mh h.2.1 h.1 i).2.1,(hY i+64,4,0),(hY i+64,4,0),((0,0,0,0,0,0,0,0,0,0,0,0,0,0,0,([]:Bytes)),0,0),false,(match h.2.2.2.1[i]? with|some x=>x.2.2.2.2.2|none=>0)),h.2.2.2.2.1.set i (mh h.2.1 h.1 i).2.2.1,h.2.2.2.2.2)
theorem air (h:Host)(i:Nat)(hi:i<=8)(h1:i<h.2.2.2.1.length)(h2:i<h.2.2.2.2.1.length)(hl:h.2.1.length<=10^9)(hm:h.1.length<=10^9):xL h (i:Int)=some ((),Mi h i):=by have hb:hY i=1280+(i:Int)*1792:=rfl;have hz:jP 128 0=some (ug 128):=Qh 128;have hf:=aim h.2.1 (hZ h.2.1 h.1 0 (hY i) (ug 128) false).1 0 (hY i,4,0,0) (gP (hY i+128) 384 4).1 hl (by rw[lN];exact hm) (bH (qt (hY i+128) 384 4) (by omega));unfold xL;simp only[abI hi];rw[al (n:=hY i+128),al (n:=hY i+64),Mx,hz];simp only[bK h1,bK h2,ab,Ro h.2.1 h.1 0 (hY i) (ug 128) hl hm (by omega),hf,ax,Mi,mh,aq h1]
def vH (h:Host)(i:Nat)(n:Int):Int×Host:=
 match h.2.2.2.1[i]?,h.2.2.2.2.1[i]? with
 |some rx,some pl=>
  ((gU h.2.1 h.1 0 rx pl h.2.2.2.2.2.2.2.2.2.1 n).2.2.2.2,(gU h.2.1 h.1 0 rx pl h.2.2.2.2.2.2.2.2.2.1 n).1,h.2.1,h.2.2.1,h.2.2.2.1.set i (gU h.2.1 h.1 0 rx pl h.2.2.2.2.2.2.2.2.2.1 n).2.1,h.2.2.2.2.1.set i (gU h.2.1 h.1 0 rx pl h.2.2.2.2.2.2.2.2.2.1 n).2.2.1,h.2.2.2.2.2.1,h.2.2.2.2.2.2.1,h.2.2.2.2.2.2.2.1,h.2.2.2.2.2.2.2.2.1,(gU h.2.1 h.1 0 rx pl h.2.2.2.2.2.2.2.2.2.1 n).2.2.2.1,h.2.2.2.2.2.2.2.2.2.2)
 |_,_=>(0,h)
theorem Uy (h:Host)(i:Nat)(n:Int)(h1:i<h.2.2.2.1.length)(h2:i<h.2.2.2.2.1.length)(z:dC 500000000 eG h):me h (i:Int) n=some (vH h i n):=by have hl:h.2.1.length<=500000000:=z.2.1.1;have hm:h.1.length<=500000000:=z.1.1;have hp:h.2.2.2.2.1[i].2.2.2.length<=500000000:=(z.2.2.2.2.1.2 _ (bF h2)).2.2.2.1;unfold me;simp only[bK h1,bK h2,ab,WR h.2.1 h.1 0 _ _ _ n (show h.2.1.length<=10^9 by omega) (show h.1.length<=10^9 by omega) hp z.2.2.2.2.2.2.2.2.2.1,ax,vH,aq h1,aq h2]
theorem qN {t:CT}{l:az t.D}{x:t.D}(z:dC n (.sl t) l)(hx:dC n t x):dC n (.sl t) (l.set i x):=by refine⟨?_,λy hy=>?_⟩;show(l.set i x).length<=n;rw[aD];exact z.1;rcases fI hy with h|h;exact z.2 y h;rw[h];exact hx
theorem SJ (hn:128<=n)(h:EG m):dC n (.sl .str) m:=⟨bH h.2 (by omega),λx hx=>bH (Nat.le_of_eq (h.1 x hx)) hn⟩
theorem Yz (hn:128<=n)(z:dC n (.sl .str) m)(a:Int)(s:Bytes):dC n (.sl .str) (nV m a s).1:=by unfold nV;cases hw:iT m a (s.length:Int);exact z;simp only[iT,ae,aG]at hw;exact SJ hn (Bw s.length (pz.1 hw.1) (by omega)).1
theorem XJ (hn:128<=n):∀(q:az (Int×Int)){m:cg}(s:Bytes),dC n (.sl .str) m->dC n (.sl .str) (Hn q m s)
 |[],m,s,z=>z
 |p::q,m,s,z=>XJ hn q _ (Yz hn z _ _)
theorem Gi (hn:128<=n)(z:dC n (.sl .str) m)(l:az aH)(d a:Int)(s:Bytes)(w:Bool):dC n (.sl .str) (hZ l m d a s w).1:=by unfold hZ;cases (lP l m d a (s.length:Int) w).2 with|false=>exact z|true=>exact XJ hn _ _ z
theorem JV (hn:128<=n)(z:dC n (.sl .str) m)(l:az aH)(d:Int)(r:na)(s:Bytes):dC n (.sl .str) (cW l m d r s).1:=by
 unfold cW;cases (mJ r==0)||((s.length:Int) !=16);case true=>exact z
 cases (hZ l m d (mi r r.2.2.2) s true).2 with|false=>exact z|true=>exact Gi hn z ..
theorem RU (hn:128<=n)(l:az aH)(d:Int)(p:dy):∀(q:dA){m:cg}(r:na),dC n (.sl .str) m->dC n (.sl .str) (kO l d p q m r).2.1
 |[],m,r,z=>z
 |b::q,m,r,z=>by rw[kO];cases (cW l m d r (fP p b)).2.2 with|false=>exact z|true=>exact RU hn l d p q _ (JV hn z ..)
theorem RV (hn:128<=n)(z:dC n (.sl .str) m)(l:az aH)(d:Int)(r:na)(p:dy):dC n (.sl .str) (pW l m d r p).1:=by unfold pW;cases !dB r|| !du p with|true=>exact z|false=>exact RU hn _ _ _ _ _ z
theorem ab4 (l:az aH)(m:cg)(d:Int)(r:na)(p:dy):(pW l m d r p).1.length=m.length:=by unfold pW;cases !dB r|| !du p with|true=>rfl|false=>exact(KH ..).1
theorem H2 (l:az aH)(m:cg)(d:Int)(r:na)(p:dy):(pW l m d r p).2.2.1.2.2.2.length<=p.2.2.2.length:=by unfold pW;cases !dB r|| !du p with|true=>exact aX _|false=>show(p.2.2.2.drop _).length<=_;rw[aP];omega
theorem XC (l:az aH)(m:cg)(d:Int):∀(k:Nat)(s:az Stream×bt×dy),(jf l m d k s).2.2.1.2.2.2=s.2.1.2.2.2/\(jf l m d k s).1<=k
 |0,s=>⟨rfl,aX _⟩
 |k+1,s=>by rw[jf];cases (lM l m d s.2.1.2.2.1).2.2 with|false=>exact⟨rfl,bM _⟩|true=>have:=XC l m d k (vX l m d s);simp only[ak,af];exact⟨this.1,by omega⟩
theorem SP (hn:128<=n){rx:bt}{pl:dy}{st:az Stream}(c:Int)(zm:dC n (.sl .str) m)(zr:dC n eS rx)(zp:dC n kI pl)(zs:dC n (.sl dH) st): dC n (.sl .str) (gU l m d rx pl st c).1/\dC n eS (gU l m d rx pl st c).2.1/\dC (n+322000) kI (gU l m d rx pl st c).2.2.1/\dC (n+322000) (.sl dH) (gU l m d rx pl st c).2.2.2.1/\0<=(gU l m d rx pl st c).2.2.2.2/\(gU l m d rx pl st c).2.2.2.2<=1000:=by
 unfold gU;cases hc: !BK rx||(!du pl|| !dD c 0 1000)with
 |true=>exact⟨zm,zr,zp.mono,zs.mono,eV _,by show(0:Int)<=1000;omega⟩
 |false=>
  have hi:dD c 0 1000=true:=by cases h:dD c 0 1000 with|true=>rfl|false=>rw[h]at hc;simp at hc
  have h:=aS.1 hi;have z:=PU (l:=l) (m:=m) (d:=d) c.toNat (s:=(st,rx,pl)) (n:=n) ⟨zs,zp.2.2.2.1⟩;have hx:=XC l m d c.toNat (st,rx,pl);refine⟨RV hn zm ..,⟨?_,?_,?_,?_⟩,⟨cM,cM,cM,?_,λ_ _=>trivial⟩,z.st.mono,by show(0:Int)<=((jf l m d c.toNat (st,rx,pl)).1:Int);omega,by show((jf l m d c.toNat (st,rx,pl)).1:Int)<=1000;omega⟩;exact⟨cM,cM,cM,cM⟩;exact⟨cM,cM,cM⟩;exact⟨cM,cM,cM⟩;have e:=congrArg (λq=>dC n eS (rx.1,rx.2.1,rx.2.2.1,q)) hx.1;exact(e.mpr zr).2.2.2;have:=H2 l m d (jf l m d c.toNat (st,rx,pl)).2.2.1.1 (jf l m d c.toNat (st,rx,pl)).2.2.2;have h2:=z.pl;show(pW l m d (jf l m d c.toNat (st,rx,pl)).2.2.1.1 (jf l m d c.toNat (st,rx,pl)).2.2.2).2.2.1.2.2.2.length<=_;omega
theorem aa0 (hn:128<=n)(i:Nat)(c:Int)(z:dC n eG h):dC (n+322000) eG (vH h i c).2:=by unfold vH;rcases h1:h.2.2.2.1[i]? with _|rx;exact z.mono;rcases h2:h.2.2.2.2.1[i]? with _|pl;exact z.mono;have zr:=z.2.2.2.1.2 _ (aQ h1);have zp:=z.2.2.2.2.1.2 _ (aQ h2);have hp:=SP hn (l:=h.2.1) (d:=0) c z.1 zr zp z.2.2.2.2.2.2.2.2.2.1;have z':dC (n+322000) eG h:=z.mono;exact⟨hp.1.mono,z'.2.1,z'.2.2.1,qN z'.2.2.2.1 (hp.2.1.mono),qN z'.2.2.2.2.1 hp.2.2.1,z'.2.2.2.2.2.1,z'.2.2.2.2.2.2.1,z'.2.2.2.2.2.2.2.1,z'.2.2.2.2.2.2.2.2.1,hp.2.2.2.1,z'.2.2.2.2.2.2.2.2.2.2⟩
theorem map_take {β:Type}(f:α->β)(l:az α)(i:Nat)(hi:i<l.length):(l.take i).map f++[f l[i]]=(l.take (i+1)).map f:=by rw[bZ hi,cu];rfl
def Na (n:Nat):cg:=List.replicate n (ug 128)
theorem aeh (n:Nat):Na (n+1)=Na n++[ug 128]:=List.replicate_succ'
theorem abj (n:Nat)(h:n<=64):sW (n:Int)=some (Na n):=by have hz:jP 128 0=some (ug 128):=Qh 128;unfold sW;refine fe (λi=>((i:Int),Na i)) n (by omega) (λi nx hi=>?_) (λnx=>?_);simp only[sm];rw[aw (show(i:Int)<n by omega),ah,lH,ab,ah,hz,ab,bf (by simp[Na];omega),al,aeh];rfl;simp only[sm];rw[au (show¬(n:Int)<n by omega),af,ab,af]
def Ai (a b:Int):Vector×Bool:=bif dW (a,b,0,0,false,false) then((a,b,0,0,false,false),true) else((0,0,0,0,false,false),false)
theorem abk (a b:Int):xz a b=some (Ai a b):=by unfold xz Ai;rw[ES,ab];cases dW (a,b,0,0,false,false)<;>rfl
def bI (i:Nat):az aH:=(List.range i).map λ(p:Nat)=>(0,(p:Int),37-(p:Int), !dD (p:Int) 2 9)
theorem aaI (i:Nat):bI (i+1)=bI i++[(0,(i:Int),37-(i:Int), !dD (i:Int) 2 9)]:=by simp[bI,List.range_succ]
theorem K5 (i:Nat):(bI i).length=i:=by simp[bI]
def Wz (f:Filter)(s:dj)(c:Bool)(i:Nat):Host:=(Na 38,bI i,tc,([]:az bt),([]:az dy),([]:az Vector),([]:az Bool),f,s,([]:az Stream),c,([]:cg),([]:dA),([]:dA),0,0,0,0,0)
def mB (m:cg)(i:Nat):UInt8:=(m.getD (37-i/128) []).getD (i%128) 0
theorem ajY:gy (bI 38)=true:=by decide+kernel
structure fJ (m:List Bytes):Prop where
 pg:∀x∈m,x.length=128
 ln:m.length=38
theorem fJ.ok (h:fJ m):cY m=true:=pz.2 ⟨h.pg,by have:=h.ln;omega⟩
theorem fJ.of (h:cY m=true)(hl:m.length=38):fJ m:=⟨(pz.1 h).1,hl⟩
theorem aeF:∀p:Fin 38,∀w:Bool,sR (bI 38) 0 ((p.val:Nat):Int) w=if w=true/\2<=p.val/\p.val<=9 then-1 else 37-(p.val:Int):=by decide+kernel
theorem aj4 {p:Nat}(hp:p<38){w:Bool}(hw:w=true->p<2\/9<p):sR (bI 38) 0 (p:Int) w=((37-p:Nat):Int):=by have:=aeF ⟨p,hp⟩ w;simp only at this;rw[this,aI (by rintro⟨h1,h2,h3⟩;have:=hw h1;omega)];omega
def uN (m:cg)(a n:Nat):Bytes:=(List.range n).map λj=>mB m (a+j)
theorem JY (m:cg)(a n:Nat):(uN m a n).length=n:=by simp[uN]
theorem ah8 (m:cg)(a n j:Nat)(h:j<n):(uN m a n).getD j 0=mB m (a+j):=by rw[cO (by rw[JY];exact h)];simp[uN]
theorem ah7 (m:cg)(a c r:Nat):uN m a (c+r)=uN m a c++uN m (a+c) r:=by unfold uN;rw[List.range_add,cu,List.map_map];congr 1;refine List.map_congr_left λj _=>?_;show mB m (a+(c+j))=mB m (a+c+j);rw[gw]
theorem aaY (hm:fJ m){c:Nat}(h1:a+c<=4864)(h2:a%128+c<=128)(h0:0<c):pA m (((37-a/128:Nat):Int)*128+((a%128:Nat):Int),(c:Int))=uN m a c:=by
 have hl:=hm.ln;have hp:37-a/128<m.length:=by omega
 unfold pA;rw[E3 hm.ok (by omega) h0,lH,ah];show CN m ((((37-a/128:Nat):Int)*128+((a%128:Nat):Int)).toNat) ((c:Int)).toNat=_;rw[ax,<-P3 hm.ok hp h2 (by omega)];have hx:=hm.pg _ (bF hp);refine List.ext_getElem (by rw[JY,aY,aP];omega) λj g1 g2=>?_;rw[JY]at g2;simp only[List.getElem_take,List.getElem_drop,uN,List.getElem_map,List.getElem_range,mB];have e1:(a+j)/128=a/128:=by omega
 have e2:(a+j)%128=a%128+j:=by omega
 rw[e1,e2,cO hp,cO (by omega)]
theorem ahP {o:Nat}(h:o+t.length<=x.length)(j:Nat):(AD x o t).getD j 0=if o<=j/\j<o+t.length then t.getD (j-o) 0 else x.getD j 0:=by
 unfold AD;rw[bc,bc,bc];have hl:(x.take o).length=o:=by rw[aY];omega
 rcases ca j o with g|g;rw[bu (by omega),dI g,kz];rw[bE (by omega),hl];rcases ca (j-o) t.length with g2|g2;rw[bu g2,zip];rw[bE g2,bP,kz];congr 2;omega
theorem XA (hm:fJ m)(h1:a+t.length<=4864)(h2:a%128+t.length<=128)(h0:0<t.length):fJ (nV m (((37-a/128:Nat):Int)*128+((a%128:Nat):Int)) t).1/\∀i,i<4864->mB (nV m (((37-a/128:Nat):Int)*128+((a%128:Nat):Int)) t).1 i=if a<=i/\i<a+t.length then t.getD (i-a) 0 else mB m i:=by
 have hl:=hm.ln;have hp:37-a/128<m.length:=by omega
 have hx:=hm.pg _ (bF hp);have e:(nV m (((37-a/128:Nat):Int)*128+((a%128:Nat):Int)) t).1=m.set (37-a/128) (AD m[37-a/128] (a%128) t):=by
  unfold nV;rw[E3 hm.ok (by omega) h0,lH,ah];have e1:(((37-a/128:Nat):Int)*128+((a%128:Nat):Int)).toNat=(37-a/128)*128+a%128:=by omega
  show xO t.length m (((37-a/128:Nat):Int)*128+((a%128:Nat):Int)).toNat t=_;rw[e1];obtain⟨n,hn⟩:∃n,t.length=n+1:=⟨t.length-1,by omega⟩
  rw[hn,xO,kz];have e2:((37-a/128)*128+a%128)/128=37-a/128:=by omega
  have e3:((37-a/128)*128+a%128)%128=a%128:=by omega
  rw[e2,e3,cO hp,bW (by omega),cx (by omega)];cases n with|zero=>rfl|succ n=>rw[xO];rfl
 rw[e];have hov:(AD m[37-a/128] (a%128) t).length=128:=by rw[SI (by omega),hx]
 refine⟨⟨λx BE=>?_,by rw[aD];exact hl⟩,λi hi=>?_⟩;rcases fI BE with g|g;exact hm.pg x g;rw[g];exact hov;unfold mB;by_cases hq:i/128=a/128;have e5:(m.set (37-a/128) (AD m[37-a/128] (a%128) t)).getD (37-a/128) []=AD m[37-a/128] (a%128) t:=by rw[bc,bq hp];rfl
 rw[hq,e5,ahP (by omega)];have hg:m.getD (37-a/128) []=m[37-a/128]:=cO hp _;rw[hg];by_cases hc:a<=i/\i<a+t.length;rw[aJ hc,zip];congr 1;omega;rw[aI hc,kz];rw[kz];congr 1;rw[bc,bc,aF (by omega)]
theorem PM (hl:m.length=38){w:Bool}:∀(n a r:Nat),r<=n->a+r<=4864->(w=true->a+r<=256\/1280<=a)->∃q,lY (bI 38) m 0 w n a r=some q/\
 (∀m',fJ m'->q.flatMap (pA m')=uN m' a r)/\
 ∀m' s,fJ m'->s.length=r->fJ (Hn q m' s)/\∀i,i<4864->mB (Hn q m' s) i=if a<=i/\i<a+r then s.getD (i-a) 0 else mB m' i
 |0,a,r,hr,_,_=>by
  have:r=0:=by omega
  subst this;exact⟨[],rfl,λm' _=>rfl,λm' s hm _=>⟨hm,λi _=>by rw[kz];rfl⟩⟩
 |n+1,a,r,hr,ha,hw=>by
  rw[lY];by_cases h0:r=0;rw[aJ h0];subst h0;exact⟨[],rfl,λm' _=>rfl,λm' s hm _=>⟨hm,λi _=>by rw[kz];rfl⟩⟩;rw[aI h0];have hp:a/128<38:=by omega
  rw[aj4 hp (λe=>by have:=hw e;omega),zip];generalize hc:min (128-a%128) r=c;have Vq:0<c:=by omega
  have hc1:a%128+c<=128:=by omega
  have YD:c<=r:=by omega
  obtain⟨q,e,rd,wr⟩:=PM (w:=w) hl n (a+c) (r-c) (by omega) (by omega) (λe=>by have:=hw e;omega);refine⟨_,by rw[e];rfl,λm' hm=>?_,λm' s hm hs=>?_⟩;rw[List.flatMap_cons,rd m' hm,aaY hm (by omega) hc1 Vq,<-ah7,show c+(r-c)=r by omega];have ht:(s.take c).length=c:=by rw[aY];omega
  have p1:=XA hm (a:=a) (t:=s.take c) (by omega) (by omega) (by omega);rw[Hn];simp only[ax];have p2:=wr _ (s.drop c) p1.1 (by rw[aP];omega);refine⟨p2.1,λi hi=>?_⟩;rw[p2.2 i hi];by_cases g1:a+c<=i/\i<a+c+(r-c)
  rw[aJ g1,zip,bc,bc,bP];congr 2;omega;rw[aI g1,p1.2 i hi,ht];by_cases g2:a<=i/\i<a+c;rw[aJ g2,zip,bc,bc,dI (by omega)];rw[aI g2,kz]
theorem S5 (hm:fJ m){w:Bool}{r:Nat}(hr:r<=4096)(ha:a+r<=4864)(hw:w=true->a+r<=256\/1280<=a):∃q,lP (bI 38) m 0 (a:Int) (r:Int) w=(q,true)/\ (∀m',fJ m'->q.flatMap (pA m')=uN m' a r)/\ ∀m' s,fJ m'->s.length=r->fJ (Hn q m' s)/\∀i,i<4864->mB (Hn q m' s) i=if a<=i/\i<a+r then s.getD (i-a) 0 else mB m' i:=by unfold lP;rw[ajY,hm.ok,aS.2 ⟨by omega,by omega⟩];simp only[cK,ah];by_cases h0:r=0;subst h0;exact⟨[],rfl,λm' _=>rfl,λm' s hm _=>⟨hm,λi _=>by rw[kz];rfl⟩⟩;rw[show((r:Int)==0)=false from by rw[cq];omega,af,dw,af,ax,ax];obtain⟨q,e,rd,wr⟩:=PM (w:=w) hm.ln r a r (aX r) ha hw;rw[e];exact⟨q,rfl,rd,wr⟩
theorem IZ (hm:fJ m){r:Nat}(hr:r<=4096:=by omega)(ha:a+r<=4864:=by omega):qE (bI 38) m 0 (a:Int) (r:Int)=(uN m a r,true):=by obtain⟨q,e,rd,_⟩:=S5 (w:=false) hm hr ha (by simp);unfold qE;rw[e,ah,rd m hm]
theorem Cb (hm:fJ m){w:Bool}(hr:s.length<=4096)(ha:a+s.length<=4864)(hw:w=true->a+s.length<=256\/1280<=a):(hZ (bI 38) m 0 (a:Int) s w).2=true/\fJ (hZ (bI 38) m 0 (a:Int) s w).1/\∀i,i<4864->mB (hZ (bI 38) m 0 (a:Int) s w).1 i=if a<=i/\i<a+s.length then s.getD (i-a) 0 else mB m i:=by obtain⟨q,e,_,wr⟩:=S5 (w:=w) hm hr ha hw;unfold hZ;rw[e,ah];have h:=wr m s hm rfl;exact⟨rfl,h.1,h.2⟩
def br (l:az aH)(m:cg)(d:Int)(r:na):Bytes×na×Bool:=
 bif !dB r||(bN r==0) then([],r,false) else
 bif !(qE l m d (mi r r.2.2.1) 16).2 then([],r,false) else
 ((qE l m d (mi r r.2.2.1) 16).1,(r.1,r.2.1,tmod (r.2.2.1+1) (2*r.2.1),r.2.2.2),true)
theorem Ju (l:az aH)(m:cg)(d:Int)(r:na)(hl:l.length<=10^9)(hm:m.length<=10^9):uI l m d r=some (br l m d r):=by
 have hA:=Gr r r.2.2.1;unfold uI br;simp only[zA,BZ,ab,Sk,CG l m d _ 16 hl hm (show mi r r.2.2.1<=9223372036854775807 by omega)];cases hb:dB r;rfl;have h:=mX hb;cases bN r==0;case true=>rfl
 simp only[ak,af,ab,bJ];cases (qE l m d (mi r r.2.2.1) 16).2;rfl;simp only[ak,af];rw[al (n:=2*r.2.1),kz,al (n:=r.2.2.1+1)]
theorem HO (l:az aH)(m:cg)(d:Int)(r:na):(br l m d r).1.length<=100000000:=by
 unfold br;cases !dB r||(bN r==0);case true=>exact bM _
 cases (qE l m d (mi r r.2.2.1) 16).2 with|false=>exact bM _|true=>exact Oi ..
theorem Gy (h:(br l m d r).2.2=true): dB (br l m d r).2.1=true/\bN (br l m d r).2.1=bN r-1/\(br l m d r).2.1.1=r.1/\(br l m d r).2.1.2.1=r.2.1/\(br l m d r).2.1.2.2.2=r.2.2.2:=by
 unfold br at h⊢;cases hb:dB r with|false=>rw[hb]at h;cases h|true=>?_
 cases hu:bN r==0 with|true=>rw[hb,hu]at h;cases h|false=>?_
 cases hd:(qE l m d (mi r r.2.2.1) 16).2 with|false=>rw[hb,hu,hd]at h;cases h|true=>?_
 simp only[ak,bJ,af];have hr:=mX hb;have hq:=hb;simp only[dB,ae,aG]at hq;have h1:=hq.2.2.2.2;have hs:=hq.2.1;have Uq:bN r≠0:=by simpa using hu
 have e:tmod (r.2.2.1+1) (2*r.2.1)=(r.2.2.1+1)%(2*r.2.1):=cZ (by omega);rw[e];unfold bN at h1 Uq⊢;simp only[hs,cr]at h1 Uq⊢;have key:(r.2.2.2-(r.2.2.1+1)%(2*r.2.1))%(2*r.2.1)=(r.2.2.2-r.2.2.1)%(2*r.2.1)-1/\0<=(r.2.2.1+1)%(2*r.2.1)/\(r.2.2.1+1)%(2*r.2.1)<=2*r.2.1-1:=by rcases hr.2.2.1 with hn|hn|hn|hn<;>rw[hn]at h1 Uq hr⊢<;>omega
 refine⟨?_,key.1,cM,cM,cM⟩;simp only[dB,bN,hs,cr,ae,aG,aS];refine⟨by omega,cM,by omega,by omega,?_⟩;rw[key.1];omega
theorem zN (h:dB r=true):0<=bN r/\bN r<=16:=by have hr:=mX h;have hq:=h;simp only[dB,ae,aG]at hq;refine⟨?_,by have:=hq.2.2.2.2;omega⟩;unfold bN;rw[hq.2.1,aJ rfl];exact fV _ (by omega)
def LS:E5:=(0,0,0,0,0,0)
def Eh (s:Bytes):E5:=((bR s 0:Int),(bR s 1:Int),cv s 2,gn s 4,cv s 8,cv s 10)
def cL (s:Bytes):E5×Bool:=
 bif ((s.length:Int) !=16) then(LS,false) else bif !(iJ (Eh s)==s) then(LS,false) else(Eh s,true)
theorem WJ (s:Bytes)(h:s.length<=10^9):qI s=some (cL s):=by
 unfold qI cL;cases hn:(s.length:Int) !=16;case true=>rfl
 have hl:s.length=16:=by
  have:((s.length:Int)==16)=true:=by simpa using hn
  have:=bz this;omega
 have b0:=nv (s[0]'(by omega));have b1:=nv (s[1]'(by omega));have i0:idx s 0=some (s[0]'(by omega)):=bK (i:=0) (by omega);have i1:idx s 1=some (s[1]'(by omega)):=bK (i:=1) (by omega);have e:(((s[0]'(by omega)).toNat:Int),((s[1]'(by omega)).toNat:Int),cv s 2,gn s 4,cv s 8,cv s 10)=Eh s:=by simp only[Eh,bR,cO (show 0<s.length by omega),cO (show 1<s.length by omega)]
 simp only[af,i0,i1,ab,yd s _ h,BF s _ h];rw[iZ (n:=(s[0]'(by omega)).toNat),iZ (n:=(s[1]'(by omega)).toNat),e,Uu,ab];cases iJ (Eh s)==s<;>rfl
theorem ZK (h:(cL s).2=true):pV (cL s).1=true:=by
 unfold cL at h⊢;cases hn:(s.length:Int) !=16 with|true=>rw[hn]at h;cases h|false=>?_
 cases he:iJ (Eh s)==s with|false=>rw[hn,he]at h;cases h|true=>?_
 simp only[af,ak];cases hd:pV (Eh s)with
 |true=>rfl
 |false=>
  have:iJ (Eh s)=[]:=by unfold iJ;rw[hd];rfl
  rw[this]at he;cases s with|nil=>simp at hn|cons x y=>cases he
def Hj (x:E5):Bool:=bif x.1==1 then(ar (toNat (gM x.2.1&&&gM 1))) !=0 else false
def sE (l:az aH)(m:cg)(d:Int):Nat->az E5->na->az E5×na×Bool
 |0,acc,r=>(acc,r,true)
 |n+1,acc,r=>
  bif !(br l m d r).2.2|| !(cL (br l m d r).1).2 then([],(r.1,r.2.1,r.2.2.2,r.2.2.2),false) else
  bif Hj (cL (br l m d r).1).1 then(acc++[(cL (br l m d r).1).1],(br l m d r).2.1,true) else
  sE l m d n (acc++[(cL (br l m d r).1).1]) (br l m d r).2.1
def dh (l:az aH)(m:cg)(d:Int)(r:na):az E5×na×Bool:=
 bif !dB r||(bN r==0) then([],r,false) else sE l m d (bN r).toNat [] r
theorem Hz (k0:az E5->na->aC R)(k1:az E5->Bool->az E5->na->na->aC R)(K:az E5×na×Bool->aC R)
 (h0:∀a r,k0 a r=K (a,r,true)) (l:az aH) (m:cg) (d:Int) (B E:na) (h1:∀a r,k1 [] false a r E=K ([],E,false)) (hl:l.length<=10^9) (hm:m.length<=10^9):∀(n:Nat)(acc:az E5)(r:na)(f:Nat),
 n<f->dB r=true->(bN r).toNat=n->acc.length+n<=1000->E=(r.1,r.2.1,r.2.2.2,r.2.2.2)->bp (nK k0 k1 l d ([]:az E5) false m B E) f (acc,r)=K (sE l m d n acc r)
 |n,acc,r,0,hf,_,_,_,_=>by omega
 |0,acc,r,f+1,hf,hb,hu,ha,hE=>by rw[bp];simp only[nK,BZ,ab];rw[dw,af,h0];rfl
 |n+1,acc,r,f+1,hf,hb,hu,ha,hE=>by
  have hlen:=HO l m d r;have hk:=Gy (l:=l) (m:=m) (d:=d) (r:=r);rw[bp];simp only[nK,BZ,ab];rw[lH,ah,Ju l m d r hl hm,ab,sE];generalize br l m d r=t at hlen hk⊢;cases ht:t.2.2 with
  |false=>simp only[cl,ah,jU,<-hE,h1]
  |true=>
   have hk:=hk ht;simp only[ak,af,cj];rw[WJ _ (show t.1.length<=10^9 by omega),ab];generalize cL t.1=x;cases x.2 with
   |false=>simp only[cl,ah,<-hE,h1]
   |true=>
    simp only[ak,af];rw[bf (by rw[bD];omega)];have e:(aa (cond (x.1.1==1) (some ((ar (toNat (gM x.1.2.1&&&gM 1))) !=0)) (some false)):(Bool->aC R)->aC R)=λK=>K (Hj x.1):=by funext K;unfold Hj;cases x.1.1==1<;>rfl
    rw[e];cases Hj x.1 with|true=>simp only[ah,h0]|false=>simp only[af];exact Hz k0 k1 K h0 l m d B E h1 hl hm n _ _ f (by omega) hk.1 (by omega) (by simp;omega) (by rw[hE,hk.2.2.1,hk.2.2.2.1,hk.2.2.2.2])
theorem Q9 (l:az aH)(m:cg)(d:Int)(r:na)(hl:l.length<=10^9)(hm:m.length<=10^9):wU l m d r=some (dh l m d r):=by
 have C9:=eR;unfold wU dh;simp only[zA,BZ,ab];cases hb:dB r;rfl;cases bN r==0;case true=>rfl
 have hu:=zN hb;simp only[ak,af,ab,bJ];exact Hz _ _ (λx=>some x) (λ_ _=>rfl) l m d _ _ (λ_ _=>rfl) hl hm _ [] r fuel (by omega) hb rfl (by simp;omega) rfl
def Ei (v:Vector):Bool:=bif decide (v.2.2.1>=1) then(bif decide (v.2.2.1>=v.1) then true else decide (v.2.2.2.1>=v.2.1)) else false
theorem ajD (v:Vector):DP v=some (Ei v):=by unfold DP Ei;cases decide (v.2.2.1>=1);rfl;cases decide (v.2.2.1>=v.1)<;>rfl
theorem ake (v:Vector):wg v=some (Ei v):=by unfold wg Ei;cases decide (v.2.2.1>=1);rfl;cases decide (v.2.2.1>=v.1)<;>rfl
def uh (v:Vector):Vector:=bif Ei v&& !v.2.2.2.2.1 then(v.1,v.2.1,v.2.2.1,v.2.2.2.1,v.2.2.2.2.1,true) else v
theorem KT (v:Vector):qp v=some (uh v):=by unfold qp uh;rw[ajD,ab];cases Ei v;rfl;cases v.2.2.2.2.1<;>rfl
def NJ (n:Int):Int:=if 1000000<ar (n+1) then 1000000 else ar (n+1)
def evV (v:Vector):Vector:=bif dW v then uh (v.1,v.2.1,NJ v.2.2.1,v.2.2.2) else v
theorem adC (v:Vector):yC v=some (evV v):=by unfold yC evV;rw[B0,ab,KT,ab];cases dW v<;>rfl
def zT (v:Vector):Vector:=bif dW v then(bif decide (v.2.2.1>0) then uh (v.1,v.2.1,v.2.2.1,NJ v.2.2.2.1,v.2.2.2.2) else uh v) else v
theorem adX (v:Vector):vi v=some (zT v):=by unfold vi zT;simp only[B0,ab,KT];cases dW v;rfl;cases decide (v.2.2.1>0)<;>rfl
def re (v:Vector):Vector×Bool:=bif dW v&&v.2.2.2.2.2 then((v.1,v.2.1,0,0,true,false),true) else(v,false)
theorem adW (v:Vector):qo v=some (re v):=by unfold qo re;rw[B0,ab];cases dW v;rfl;cases v.2.2.2.2.2<;>rfl
def Bu (v:Vector):Vector:=bif dW v then uh (v.1,v.2.1,v.2.2.1,v.2.2.2.1,false,v.2.2.2.2.2) else v
theorem Pf (v:Vector):zC v=some (Bu v):=by unfold zC Bu;rw[B0,ab,KT,ab];cases dW v<;>rfl
structure mG (k:Nat) (a b:Host):Prop where
 mem:b.1.length=a.1.length
 maps:b.2.1=a.2.1
 tx:b.2.2.1=a.2.2.1
 rx:b.2.2.2.1.length=a.2.2.2.1.length
 rxs:∀j,k<=j->b.2.2.2.1[j]?=a.2.2.2.1[j]?
 pl:b.2.2.2.2.1.length=a.2.2.2.2.1.length
 vec:b.2.2.2.2.2.1.length=a.2.2.2.2.2.1.length
 Yu:∀j,k<=j->b.2.2.2.2.2.1[j]?=a.2.2.2.2.2.1[j]?
 YJ:b.2.2.2.2.2.2.1.length=a.2.2.2.2.2.2.1.length
 Hk:b.2.2.2.2.2.2.2.1=a.2.2.2.2.2.2.2.1
 Ke:b.2.2.2.2.2.2.2.2.1=a.2.2.2.2.2.2.2.2.1
theorem mG.refl (k:Nat)(a:Host):mG k a a:=⟨rfl,rfl,rfl,rfl,λ_ _=>rfl,rfl,rfl,λ_ _=>rfl,rfl,rfl,rfl⟩
theorem mG.trans {a b c:Host}(h:mG k a b)(g:mG k b c):mG k a c:=⟨g.mem.trans h.mem,g.maps.trans h.maps,g.tx.trans h.tx,g.rx.trans h.rx,λj hj=>(g.rxs j hj).trans (h.rxs j hj),g.pl.trans h.pl,g.vec.trans h.vec,λj hj=>(g.Yu j hj).trans (h.Yu j hj),g.YJ.trans h.YJ,g.Hk.trans h.Hk,g.Ke.trans h.Ke⟩
theorem mG.up {m:Nat}{a b:Host}(h:mG k a b)(hk:k<=m):mG m a b:=⟨h.mem,h.maps,h.tx,h.rx,λj hj=>h.rxs j (by omega),h.pl,h.vec,λj hj=>h.Yu j (by omega),h.YJ,h.Hk,h.Ke⟩
def eQ (g:Nat->Host->Host):Nat->Host->Host
 |0,h=>h
 |k+1,h=>g k (eQ g k h)
theorem pP (hg:∀k h,mG (k+1) h (g k h))(h:Host):∀k,mG k h (eQ g k h)
 |0=>mG.refl 0 h
 |k+1=>((pP hg h k).up (by omega)).trans (hg k _)
theorem EV {d:Nat}(hn:1000<=n)(hg:∀k h m,1000<=m->dC m eG h->dC (m+d) eG (g k h))(z:dC n eG h):∀k,dC (n+d*k) eG (eQ g k h)
 |0=>z
 |k+1=>(hg k _ _ (by omega) (EV hn hg z k)).mono (by rw[Nat.mul_add];omega)
def jg (i:Nat)(h:Host):Host:=
 match h.2.2.2.2.2.1[i]? with
 |some v=>(h.1,h.2.1,h.2.2.1,h.2.2.2.1,h.2.2.2.2.1,h.2.2.2.2.2.1.set i (zT v),h.2.2.2.2.2.2)
 |none=>h
theorem yw (i:Nat)(h:Host):mG (i+1) h (jg i h):=by unfold jg;cases h.2.2.2.2.2.1[i]? with|none=>exact mG.refl _ _|some v=>exact⟨rfl,rfl,rfl,rfl,λ_ _=>rfl,rfl,aD ..,λj hj=>aF (by omega),rfl,rfl,rfl⟩
theorem NK {l:az Vector}{v:Vector}(z:dC n (.sl iv) l):dC n (.sl iv) (l.set i v):=qN z ⟨cM,cM,cM,cM,cM,cM⟩
theorem afr (i:Nat)(h:Host)(n:Nat)(hn:1000<=n)(z:dC n eG h):dC (n+0) eG (jg i h):=by unfold jg;cases h.2.2.2.2.2.1[i]? with|none=>exact z|some v=>exact⟨z.1,z.2.1,z.2.2.1,z.2.2.2.1,z.2.2.2.2.1,NK z.2.2.2.2.2.1,z.2.2.2.2.2.2⟩
def sv (h:Host):Host:=bif fb h then eQ jg h.2.2.2.2.2.1.length h else h
theorem aiV (hn:1000<=n)(z:dC n eG h):dC n eG (sv h)/\(sv h).2.2.1=h.2.2.1:=by unfold sv;cases fb h with|false=>exact⟨z,rfl⟩|true=>exact⟨(EV hn afr z _).mono,(pP yw h _).tx⟩
theorem WX (h:Host)(k:HR h)(z:dC 1000000000 eG h):uD h=some (sv h):=by
 have C9:=eR;unfold uD sv;rw[nD h z,ab,wH h k,ab];cases hb:fb h;rfl;have hv:h.2.2.2.2.2.1.length<=10^9:=z.2.2.2.2.2.1.1;simp only[ak,af,ah];refine fe (λi=>((i:Int),eQ jg i h)) h.2.2.2.2.2.1.length (by omega) (λi nx hi=>?_) (λnx=>?_);have kk:=pP yw h i;have i1:i<(eQ jg i h).2.2.2.2.2.1.length:=by rw[kk.vec];exact hi
 rw[show eQ jg (i+1) h=jg i (eQ jg i h) from rfl];generalize eQ jg i h=s at i1⊢;simp only[tt,jg];rw[lH,ah,aq i1];simp only[bK i1,ab,adX,ax];rw[al];rfl;simp only[tt];rw[dw,af]
def rD (x:zW):Bool:=dD x.1 0 65535&&(dD x.2.1 0 65535&&(dD x.2.2.1 0 65535&&(dD x.2.2.2.1 0 65535&&dD x.2.2.2.2 0 4294967295)))
theorem Sc (x:zW):nG x=some (rD x):=by simp only[nG,dE,ab,cb,cF,rD]
def I1 (x:zW)(p:Int):Bytes:=bif rD x&&dD p 0 1 then((((aW x.1++aW x.2.1)++aW x.2.2.1)++aW x.2.2.2.1)++eo x.2.2.2.2)++eo p else []
theorem ahh (x:zW)(p:Int):mU x p=some (I1 x p):=by have h1:=bO x.1;have h2:=bO x.2.1;have h3:=bO x.2.2.1;have h4:=bO x.2.2.2.1;have h5:=eP x.2.2.2.2;have h6:=eP p;unfold mU I1;simp only[Sc,dE,ab,mK,B4];cases rD x;rfl;cases dD p 0 1;rfl;simp only[ak,af,ab,cK,ah];rw[bf,bf (by simp only[aj];omega),bf (by simp only[aj];omega),bf (by simp only[aj];omega),bf (by simp only[aj];omega)]
def sS (l:az aH)(m:cg)(d:Int)(q:MT)(x:zW):cg×MT×Bool:=
 bif !gD q|| !rD x then(m,q,false) else
 bif !(hZ l m d (sV q) (I1 x (Aj q)) true).2 then(m,q,false) else
 ((hZ l m d (sV q) (I1 x (Aj q)) true).1,(q.1,q.2.1,tmod (q.2.2+1) (2*q.2.1)),true)
theorem aho (l:az aH)(m:cg)(d:Int)(q:MT)(x:zW)(hl:l.length<=10^9)(hm:m.length<=10^9):qj l m d q x=some (sS l m d q x):=by unfold qj sS;simp only[KV,Sc,ab,ia m (show m.length<=1073741824 by omega),Sg,ahh];cases hq:gD q;rfl;have h:=xk hq;have hs:=UZ hq;cases rD x;rfl;simp only[ak,af,ab,bJ,Sl q hq,Et l m d _ _ hl hm (show sV q<=9223372036854775807 by unfold sV;omega)];cases hp:(hZ l m d (sV q) (I1 x (Aj q)) true).2 with|false=>simp only[cl,ah,Lo hp]|true=>simp only[ak,af];rw[al (n:=2*q.2.1),kz,al (n:=q.2.2+1)]
theorem aeO (hn:128<=n)(z:dC n (.sl .str) m)(l:az aH)(d:Int)(q:MT)(x:zW):dC n (.sl .str) (sS l m d q x).1/\(sS l m d q x).1.length=m.length:=by
 unfold sS;cases !gD q|| !rD x;case true=>exact⟨z,rfl⟩
 cases (hZ l m d (sV q) (I1 x (Aj q)) true).2 with|false=>exact⟨z,rfl⟩|true=>exact⟨Gi hn z ..,lN ..⟩
theorem acz {q:MT}{x:zW}(h:gD q=true):gD (sS l m d q x).2.1=true/\(sS l m d q x).2.1.1=q.1/\(sS l m d q x).2.1.2.1=q.2.1:=by
 have hq:=xk h;unfold sS;cases !gD q|| !rD x;case true=>exact⟨h,rfl,rfl⟩
 cases (hZ l m d (sV q) (I1 x (Aj q)) true).2 with|false=>exact⟨h,rfl,rfl⟩|true=>refine⟨?_,rfl,rfl⟩;have e:=Vm (a:=q.2.2+1) (b:=2*q.2.1);simp only[af,ak,gD,ae,aS]at h⊢;refine⟨h.1,h.2.1,?_⟩;rw[yi h.2.1];omega
def gF (l:az aH)(m:cg)(d:Int)(q:bt)(k:Bytes)(s:Bytes):cg×MT×Bool:=
 bif !(cL s).2||(((cL s).1.1 !=3)||decide ((cL s).1.2.2.1<((cV q.2.2.2.1.1).1.length:Int))) then(m,q.2.1,false) else
 bif !(hZ l m d (cL s).1.2.2.2.1 (cV q.2.2.2.1.1).1 true).2 then(m,q.2.1,false) else
 sS l (hZ l m d (cL s).1.2.2.2.1 (cV q.2.2.2.1.1).1 true).1 d q.2.1 ((cL s).1.2.2.2.2.2,((cV q.2.2.2.1.1).1.length:Int),q.2.2.2.1.2.1,q.2.2.2.1.2.2,qG k (ng (dP q.2.2.2.1.1)))
theorem adU (l:az aH)(m:cg)(d:Int)(q:bt)(k s:Bytes)(hl:l.length<=10^9)(hm:m.length<=10^9)(hs:s.length<=10^9)(hh:cH q.2.2.2.1.1=true):∃b,xd l m d q k s=some (b,gF l m d q k s)/\(b=false->gF l m d q k s=(m,q.2.1,false)):=by
 unfold xd gF;have pR:=ZK (s:=s);simp only[WJ s hs,GZ,ab,GY hh];generalize cL s=x at pR⊢;cases hx:x.2;exact⟨false,rfl,λ_=>rfl⟩;have hd:=pR hx;simp only[pV,ae,aS]at hd;cases x.1.1 !=3;case true=>exact⟨false,rfl,λ_=>rfl⟩
 cases decide (x.1.2.2.1<((cV q.2.2.2.1.1).1.length:Int));case true=>exact⟨false,rfl,λ_=>rfl⟩
 simp only[ak,af,ab,bJ,Et l m d _ _ hl hm (show x.1.2.2.2.1<=9223372036854775807 by omega)];cases (hZ l m d x.1.2.2.2.1 (cV q.2.2.2.1.1).1 true).2;exact⟨false,rfl,λ_=>rfl⟩;simp only[ak,af,O8,ab,Jl,aho l _ d _ _ hl (show(hZ l m d x.1.2.2.2.1 (cV q.2.2.2.1.1).1 true).1.length<=10^9 by rw[lN];exact hm)];exact⟨true,rfl,λh=>by cases h⟩
theorem Te (hn:128<=n){k:Bytes}(z:dC n (.sl .str) m)(hq:gD q.2.1=true): dC n (.sl .str) (gF l m d q k s).1/\(gF l m d q k s).1.length=m.length/\gD (gF l m d q k s).2.1=true/\(gF l m d q k s).2.1.1=q.2.1.1/\(gF l m d q k s).2.1.2.1=q.2.1.2.1:=by
 unfold gF;cases !(cL s).2||(((cL s).1.1 !=3)||decide ((cL s).1.2.2.1<((cV q.2.2.2.1.1).1.length:Int)));case true=>exact⟨z,rfl,hq,rfl,rfl⟩
 cases (hZ l m d (cL s).1.2.2.2.1 (cV q.2.2.2.1.1).1 true).2;exact⟨z,rfl,hq,rfl,rfl⟩;have h1:=Gi hn z l d (cL s).1.2.2.2.1 (cV q.2.2.2.1.1).1 true;have h2:=lN l m d (cL s).1.2.2.2.1 (cV q.2.2.2.1.1).1 true;generalize (hZ l m d (cL s).1.2.2.2.1 (cV q.2.2.2.1.1).1 true).1=w at h1 h2;have h3:=aeO hn h1 l d q.2.1 ((cL s).1.2.2.2.2.2,((cV q.2.2.2.1.1).1.length:Int),q.2.2.2.1.2.1,q.2.2.2.1.2.2,qG k (ng (dP q.2.2.2.1.1)));have h4:=acz (l:=l) (m:=w) (d:=d) (x:=((cL s).1.2.2.2.2.2,((cV q.2.2.2.1.1).1.length:Int),q.2.2.2.1.2.1,q.2.2.2.1.2.2,qG k (ng (dP q.2.2.2.1.1)))) hq;exact⟨h3.1,h3.2.trans h2,h4⟩
def fX (l:az aH)(m:cg)(d:Int)(q:bt)(k:Bytes):cg×bt:=
 bif !BK q||(!q.2.2.2.2.1||((k.length:Int) !=16)) then(m,q) else
 bif (br l m d q.1).2.2&&(gF l m d q k (br l m d q.1).1).2.2 then
  ((gF l m d q k (br l m d q.1).1).1,(br l m d q.1).2.1,(gF l m d q k (br l m d q.1).1).2.1,q.2.2.1,afn,false,q.2.2.2.2.2)
 else(m,(br l m d q.1).2.1,q.2.1,q.2.2.1,afn,false,ar (q.2.2.2.2.2+q.2.2.2.1.2.2))
theorem Yk (h:(br l m d r).2.2=false):(br l m d r).2.1=r:=by
 unfold br at h⊢;cases hc: !dB r||(bN r==0);case true=>rfl
 cases hd:(qE l m d (mi r r.2.2.1) 16).2 with|false=>rfl|true=>rw[hc,hd]at h;cases h
theorem D0 (h:BK q=true):gD q.2.1=true/\(q.2.2.2.2.1=true->cH q.2.2.2.1.1=true):=by unfold BK at h;simp only[ae]at h;refine⟨h.1.2.1,λhh=>?_⟩;have h2:=h.2;rw[hh]at h2;simp only[ah,ae]at h2;exact h2.1
theorem KU (l:az aH)(m:cg)(d:Int)(q:bt)(k:Bytes)(hl:l.length<=10^9)(hm:m.length<=10^9):oW l m d q k=some (fX l m d q k):=by
 have ht:=HO l m d q.1;have IG:=Yk (l:=l) (m:=m) (d:=d) (r:=q.1);unfold oW fX;simp only[Pd,ab,ia m (show m.length<=1073741824 by omega),Ju l m d q.1 hl hm];cases hr:BK q;rfl;cases hh:q.2.2.2.2.1;rfl;cases (k.length:Int) !=16;case true=>rfl
 obtain⟨b,hb,Nu⟩:=adU l m d q k (br l m d q.1).1 hl hm (by omega) ((D0 hr).2 hh);simp only[ak,af,ab,bJ,hb];generalize gF l m d q k (br l m d q.1).1=s at hb Nu⊢;cases hk:(br l m d q.1).2.2 with|false=>rw[IG hk];rfl|true=>?_
 cases b with|true=>cases hs:s.2.2<;>rfl|false=>rw[Nu rfl];rfl
theorem GR (hn:128<=n){k:Bytes}(z:dC n (.sl .str) m)(zq:dC n eS q): dC n (.sl .str) (fX l m d q k).1/\(fX l m d q k).1.length=m.length/\dC n eS (fX l m d q k).2/\(BK q=true->gD (fX l m d q k).2.2.1=true/\(fX l m d q k).2.2.1.2.1=q.2.1.2.1):=by
 unfold fX;cases hc: !BK q||(!q.2.2.2.2.1||((k.length:Int) !=16));case true=>exact⟨z,rfl,zq,λh=>⟨(D0 h).1,rfl⟩⟩
 simp only[cn,dM]at hc;have hq:=(D0 hc.1).1;have hs:=Te hn (l:=l) (d:=d) (k:=k) (s:=(br l m d q.1).1) z hq;have e0:dC n eS ((br l m d q.1).2.1,(gF l m d q k (br l m d q.1).1).2.1,q.2.2.1,afn,false,q.2.2.2.2.2):=⟨⟨cM,cM,cM,cM⟩,⟨cM,cM,cM⟩,⟨cM,cM,cM⟩,⟨⟨cM,cM,cM,cM,cM,cM,cM,cM,cM,cM,cM,cM,cM,cM,cM,bM _⟩,cM,cM⟩,cM,cM⟩
 cases (br l m d q.1).2.2&&(gF l m d q k (br l m d q.1).1).2.2 with|true=>exact⟨hs.1,hs.2.1,e0,λ_=>⟨hs.2.2.1,hs.2.2.2.2⟩⟩|false=>exact⟨z,rfl,⟨⟨cM,cM,cM,cM⟩,⟨cM,cM,cM⟩,⟨cM,cM,cM⟩,⟨⟨cM,cM,cM,cM,cM,cM,cM,cM,cM,cM,cM,cM,cM,cM,cM,bM _⟩,cM,cM⟩,cM,cM⟩,λ_=>⟨hq,rfl⟩⟩
theorem yg {m':cg}(h:∀j,j<n->mB m' (a+j)=mB m (a+j)):uN m' a n=uN m a n:=List.map_congr_left λj hj=>h j (cB.1 hj)
theorem P7 (h:∀j,j<s.length->mB m (a+j)=s.getD j 0):uN m a s.length=s:=by refine List.ext_getElem (JY ..) λj g1 g2=>?_;have e:=ah8 m a s.length j g2;rw[cO g1,h j g2,cO g2]at e;exact e
def fK (b S hd n:Nat):na:=((b:Int),(S:Int),((hd%(2*S):Nat):Int),(((hd+n)%(2*S):Nat):Int))
theorem qP {S:Nat}(hS:S=4\/S=16)(hb:b<=130944:=by omega)(hn:n<=S:=by omega):dB (fK b S hd n)=true/\bN (fK b S hd n)=(n:Int):=by
 have hs:jA (S:Int)=true:=ig.2 (by omega);have hu:bN (fK b S hd n)=(n:Int):=by unfold bN fK;simp only[hs,cr];rcases hS with rfl|rfl<;>omega
 refine⟨?_,hu⟩;have e:dB (fK b S hd n)=(dD (b:Int) 0 130944&&(jA (S:Int)&&(dD ((hd%(2*S):Nat):Int) 0 (2*(S:Int)-1)&&(dD (((hd+n)%(2*S):Nat):Int) 0 (2*(S:Int)-1)&&decide (bN (fK b S hd n)<=(S:Int)))))):=rfl;rw[e,hu,hs];clear e hu;simp only[ae,aS,aG,true_and];rcases hS with rfl|rfl<;>omega
theorem ak4 {S c:Nat}(hS:S=4\/S=16)(hb:b<=130944)(hn:n<=S):mi (fK b S hd n) ((c%(2*S):Nat):Int)=((b+16*(c%S):Nat):Int):=by unfold mi;rw[(qP hS hb hn).1,dw];show(b:Int)+tmod ((c%(2*S):Nat):Int) (S:Int)*16=_;rw[GA];rcases hS with rfl|rfl<;>omega
structure rL (m:List Bytes) (b S hd:Nat) (E:List Bytes):Prop where
 len:E.length<=S
 get:∀j,j<E.length->uN m (b+16*((hd+j)%S)) 16=E.getD j []
theorem rL.frame {m':cg}{S:Nat}{E:cg}(r:rL m b S hd E)(hS:S=4\/S=16)(h:∀i,b<=i->i<b+16*S->mB m' i=mB m i):rL m' b S hd E:=⟨r.len,λj hj=>by rw[yg λi hi=>h _ (by omega) (by rcases hS with rfl|rfl<;>omega)];exact r.get j hj⟩
theorem D7 (hm:fJ m){S:Nat}{e:Bytes}{E:cg}(hS:S=4\/S=16)(hb:b+16*S<=4864)(r:rL m b S hd (e::E)):br (bI 38) m 0 (fK b S hd (E.length+1))=(e,fK b S (hd+1) E.length,true)/\rL m b S (hd+1) E:=by
 have hl:E.length+1<=S:=r.len;have v:=qP (hd:=hd) hS (show b<=130944 by omega) hl;have sl:=ak4 (b:=b) (hd:=hd) (n:=E.length+1) (c:=hd) hS (by omega) hl;have g0:uN m (b+16*(hd%S)) 16=e:=r.get 0 (by simp);have d:=IZ hm (a:=b+16*(hd%S)) (r:=16) (by omega) (by rcases hS with rfl|rfl<;>omega);refine⟨?_,⟨by omega,λj hj=>?_⟩⟩;unfold br;rw[v.1,v.2,show(((E.length+1:Nat):Int)==0)=false from by rw[cq];omega];show(bif false then _ else bif !(qE (bI 38) m 0 (mi (fK b S hd (E.length+1)) ((hd%(2*S):Nat):Int)) 16).2 then _ else _)=_;rw[af];show(bif !(qE (bI 38) m 0 (mi (fK b S hd (E.length+1)) ((hd%(2*S):Nat):Int)) 16).2 then _ else((qE (bI 38) m 0 (mi (fK b S hd (E.length+1)) ((hd%(2*S):Nat):Int)) 16).1,((b:Int),(S:Int),tmod (((hd%(2*S):Nat):Int)+1) (2*(S:Int)),(((hd+(E.length+1))%(2*S):Nat):Int)),true))=_;rw[sl,show((16:Int))=((16:Nat):Int) from rfl,d,g0];simp only[ak,af];have e1:tmod (((hd%(2*S):Nat):Int)+1) (2*(S:Int))=(((hd+1)%(2*S):Nat):Int):=by rw[show((hd%(2*S):Nat):Int)+1=((hd%(2*S)+1:Nat):Int) by omega,show(2*(S:Int))=((2*S:Nat):Int) by omega,GA];rcases hS with rfl|rfl<;>omega
 rw[e1,show hd+(E.length+1)=hd+1+E.length by omega];rfl;have:=r.get (j+1) (by simp;omega);rw[show hd+(j+1)=hd+1+j by omega]at this;exact this
theorem Tj {S:Nat}(hS:S=4\/S=16)(hb:b<=130944:=by omega):br (bI 38) m 0 (fK b S hd 0)=([],fK b S hd 0,false):=by have v:=qP (hd:=hd) hS hb (bM S);unfold br;rw[v.1,v.2];rfl
theorem XK (hm:fJ m){S:Nat}{E:cg}(hS:S=4\/S=16)(hb:b+16*S<=256\/1280<=b/\b+16*S<=4864)(r:rL m b S hd E)(hn:E.length<S)(hs:s.length=16): (cW (bI 38) m 0 (fK b S hd E.length) s).2=(fK b S hd (E.length+1),true)/\fJ (cW (bI 38) m 0 (fK b S hd E.length) s).1/\rL (cW (bI 38) m 0 (fK b S hd E.length) s).1 b S hd (E++[s])/\∀i,i<4864->(i<b\/b+16*S<=i)->mB (cW (bI 38) m 0 (fK b S hd E.length) s).1 i=mB m i:=by
 have hl:E.length<=S:=r.len;have iB:b<=130944:=by omega
 have v:=qP (hd:=hd) hS iB hl;have sl:=ak4 (b:=b) (hd:=hd) (n:=E.length) (c:=hd+E.length) hS iB hl;have p:=Cb hm (a:=b+16*((hd+E.length)%S)) (s:=s) (w:=true) (by omega) (by rcases hS with rfl|rfl<;>omega) (λ_=>by rcases hS with rfl|rfl<;>omega);have fr:mJ (fK b S hd E.length)=((S-E.length:Nat):Int):=by unfold mJ;rw[v.1,v.2,ah];show ar ((S:Int)-(E.length:Int))=_;rw[al];omega
 have e:cW (bI 38) m 0 (fK b S hd E.length) s=((hZ (bI 38) m 0 ((b+16*((hd+E.length)%S):Nat):Int) s true).1,fK b S hd (E.length+1),true):=by
  unfold cW;rw[fr,hs,show(((S-E.length:Nat):Int)==0)=false from by rw[cq];omega];show(bif !(hZ (bI 38) m 0 (mi (fK b S hd E.length) (((hd+E.length)%(2*S):Nat):Int)) s true).2 then _ else((hZ (bI 38) m 0 (mi (fK b S hd E.length) (((hd+E.length)%(2*S):Nat):Int)) s true).1,((b:Int),(S:Int),((hd%(2*S):Nat):Int),tmod ((((hd+E.length)%(2*S):Nat):Int)+1) (2*(S:Int))),true))=_;rw[sl,p.1];simp only[ak,af];have e1:tmod ((((hd+E.length)%(2*S):Nat):Int)+1) (2*(S:Int))=(((hd+(E.length+1))%(2*S):Nat):Int):=by rw[show(((hd+E.length)%(2*S):Nat):Int)+1=(((hd+E.length)%(2*S)+1:Nat):Int) by omega,show(2*(S:Int))=((2*S:Nat):Int) by omega,GA];rcases hS with rfl|rfl<;>omega
  rw[e1];rfl
 rw[e];have p3:=p.2.2;rw[hs]at p3;generalize (hZ (bI 38) m 0 ((b+16*((hd+E.length)%S):Nat):Int) s true).1=m' at p p3⊢;refine⟨rfl,p.2.1,⟨by simp;omega,λj hj=>?_⟩,λi hi ho=>?_⟩;simp only[aj,bD]at hj;rcases ca j E.length with g|g;rw[bc,bu g,<-bc,<-r.get j g];refine yg λi hi=>?_;rw[p3 _ (by rcases hS with rfl|rfl<;>omega),aI (by rcases hS with rfl|rfl<;>omega)];have hj:j=E.length:=by omega
 subst hj;have e2:(E++[s]).getD E.length []=s:=by simp
 rw[e2];have:=P7 (m:=m') (a:=b+16*((hd+E.length)%S)) (s:=s) λi hi=>by rw[p3 _ (by rcases hS with rfl|rfl<;>omega),zip,Nat.add_sub_cancel_left]
 rw[hs]at this;exact this;rw[p3 i hi,aI (by rcases hS with rfl|rfl<;>omega)]
def phN (x:Nat):Int:=if x%8<4 then 1 else 0
def xR (b x:Nat):MT:=((b:Int),4,((x%8:Nat):Int))
theorem TF {x:Nat}(hb:b<=130944:=by omega):gD (xR b x)=true/\sV (xR b x)=((b+16*(x%4):Nat):Int)/\Aj (xR b x)=phN x/\tmod ((xR b x).2.2+1) (2*(xR b x).2.1)=(((x+1)%8:Nat):Int):=by refine⟨?_,?_,?_,?_⟩;unfold gD xR;simp only[ae,aS];refine⟨by omega,by decide,?_⟩;rw[yi (by decide)];omega;show(b:Int)+tmod ((x%8:Nat):Int) ((4:Nat):Int)*16=_;rw[GA];omega;unfold phN;show(bif decide (((x%8:Nat):Int)<4) then(1:Int) else 0)=_;by_cases h:x%8<4;rw[aJ h,lH];rfl;rw[aI h,dw];rfl;show tmod (((x%8:Nat):Int)+1) (2*4)=_;rw[show((x%8:Nat):Int)+1=((x%8+1:Nat):Int) by omega,show((2:Int)*4)=((8:Nat):Int) from rfl,GA];omega
abbrev Fw:=zW
variable {C:az Fw}
structure NL (m:List Bytes) (b x:Nat) (C:List Fw):Prop where
 len:C.length<=4
 get:∀j,j<C.length->tn (uN m (b+16*((x+j)%4)) 16)=(C.getD j (0,0,0,0,0),phN (x+j),true)
 PE:∀j,C.length<=j->j<4->(tn (uN m (b+16*((x+j)%4)) 16)).2.1≠phN (x+j)
theorem NL.frame {m':cg}{x:Nat}(r:NL m b x C)(h:∀i,b<=i->i<b+64->mB m' i=mB m i):NL m' b x C:=by have e:∀j,uN m' (b+16*((x+j)%4)) 16=uN m (b+16*((x+j)%4)) 16:=λj=>yg λi hi=>h _ (by omega) (by omega);exact⟨r.len,λj hj=>by rw[e];exact r.get j hj,λj h1 h2=>by rw[e];exact r.PE j h1 h2⟩
theorem amL (x:Nat):phN x≠phN (x+4):=by unfold phN;by_cases h:x%8<4;rw[aJ h,kz];decide;rw[aI h,zip];decide
theorem La (hm:fJ m){x:Nat}{c:Fw}(hb:b+64<=4864)(r:NL m b x (c::C)):lM (bI 38) m 0 (xR b x)=(c,xR b (x+1),true)/\NL m b (x+1) C:=by have v:=TF (b:=b) (x:=x);have d:=IZ hm (a:=b+16*(x%4)) (r:=16);have g0:=r.get 0 (by simp);rw[eE]at g0;have hl:C.length+1<=4:=r.len;refine⟨?_,⟨by omega,λj hj=>?_,λj h1 h2=>?_⟩⟩;unfold lM JO;rw[v.1,v.2.1,show((16:Int))=((16:Nat):Int) from rfl,d,g0,v.2.2.1];simp only[bC,fN,ah];unfold ahK;rw[v.2.2.2];rfl;have:=r.get (j+1) (by simp;omega);rw[show x+(j+1)=x+1+j by omega]at this;exact this;by_cases h3:j=3;subst h3;rw[show(x+1+3)%4=x%4 by omega,g0,show x+1+3=x+4 by omega];exact amL x;have:=r.PE (j+1) (by simp;omega) (by omega);rw[show x+(j+1)=x+1+j by omega]at this;exact this
theorem Lb (hm:fJ m){x:Nat}(hb:b+64<=4864)(r:NL m b x []):lM (bI 38) m 0 (xR b x)=((0,0,0,0,0),xR b x,false):=by have v:=TF (b:=b) (x:=x);have d:=IZ hm (a:=b+16*(x%4)) (r:=16);have g0:=r.PE 0 (by simp) (by omega);rw[eE]at g0;unfold lM JO;rw[v.1,v.2.1,show((16:Int))=((16:Nat):Int) from rfl,d,v.2.2.1,show((tn (uN m (b+16*(x%4)) 16)).2.1==phN x)=false from by rw[cq];exact g0];simp only[eH,af]
theorem Cl (x:Int):gX x=x%256:=by simp only[ar,gX,IntKind.wrap,IntKind.bits,IntKind.signed];simp
theorem GD (h:k=n%256:=by omega):(UInt8.ofNat n).toNat=k:=by rw[h];simp
theorem wh {v:Nat}(h:v<=65535:=by omega):∃a b:UInt8,aW (v:Int)=[a,b]/\a.toNat=v/256/\b.toNat=v%256:=by
 have e:aW (v:Int)=aR [gX (Int.fdiv (v:Int) (2^(ow 8))),gX (v:Int)]:=by unfold aW di;rw[dR,aS.2 ⟨by omega,by omega⟩];rfl
 have e8:((2:Int)^(ow 8))=256:=by decide
 rw[e8,Int.fdiv_eq_ediv_of_nonneg _ (by omega),Cl,Cl]at e;exact⟨_,_,e,GD,GD⟩
theorem D9 {v:Nat}(h:v<=4294967295:=by omega):∃a b c d:UInt8,eo (v:Int)=[a,b,c,d]/\a.toNat=v/16777216/\b.toNat=v/65536%256/\c.toNat=v/256%256/\d.toNat=v%256:=by
 have e:eo (v:Int)=aR [gX (Int.fdiv (v:Int) (2^(ow 24))),gX (Int.fdiv (v:Int) (2^(ow 16))),gX (Int.fdiv (v:Int) (2^(ow 8))),gX (v:Int)]:=by unfold eo gE;rw[dR,aS.2 ⟨by omega,by omega⟩];rfl
 have e8:((2:Int)^(ow 8))=256:=by decide
 have e16:((2:Int)^(ow 16))=65536:=by decide
 have e24:((2:Int)^(ow 24))=16777216:=by decide
 rw[e8,e16,e24,Int.fdiv_eq_ediv_of_nonneg _ (by omega),Int.fdiv_eq_ediv_of_nonneg _ (by omega),Int.fdiv_eq_ediv_of_nonneg _ (by omega),Cl,Cl,Cl,Cl]at e;exact⟨_,_,_,_,e,GD,GD,GD,GD⟩
theorem yc {d:E5}(h:pV d=true):(iJ d).length=16/\cL (iJ d)=(d,true):=by
 have hb:=h;unfold pV at hb;simp only[ae,aS]at hb;obtain⟨o,f,l,a,s,c⟩:=d;simp only at hb;obtain⟨h1,h2,h3,h4,h5,h6⟩:=hb;obtain⟨o,rfl⟩:=aA h1.1;obtain⟨f,rfl⟩:=aA h2.1;obtain⟨l,rfl⟩:=aA h3.1;obtain⟨s,rfl⟩:=aA h4.1;obtain⟨c,rfl⟩:=aA h5.1;obtain⟨a,rfl⟩:=aA h6.1;obtain⟨l1,l2,el,el1,el2⟩:=wh (v:=l);obtain⟨s1,s2,es,es1,es2⟩:=wh (v:=s);obtain⟨c1,c2,ec,ec1,ec2⟩:=wh (v:=c);obtain⟨a1,a2,a3,a4,ea,ea1,ea2,ea3,ea4⟩:=D9 (v:=a);obtain⟨z1,z2,z3,z4,ez,_⟩:=D9 (v:=0);have ez:eo 0=[z1,z2,z3,z4]:=ez;have e:iJ ((o:Int),(f:Int),(l:Int),(a:Int),(s:Int),(c:Int))=[UInt8.ofNat o,UInt8.ofNat f,l1,l2,a1,a2,a3,a4,s1,s2,c1,c2,z1,z2,z3,z4]:=by unfold iJ;rw[h,ah];simp only[el,es,ec,ea,ez];rw[Cl,Cl,show(o:Int)%256=(o:Int) by omega,show(f:Int)%256=(f:Int) by omega];rfl
 have da:Eh (iJ ((o:Int),(f:Int),(l:Int),(a:Int),(s:Int),(c:Int)))=((o:Int),(f:Int),(l:Int),(a:Int),(s:Int),(c:Int)):=by rw[e];show(((UInt8.ofNat o).toNat:Int),((UInt8.ofNat f).toNat:Int),((l1.toNat*256+l2.toNat:Nat):Int),(((a1.toNat*256+a2.toNat)*65536+(a3.toNat*256+a4.toNat):Nat):Int),((s1.toNat*256+s2.toNat:Nat):Int),((c1.toNat*256+c2.toNat:Nat):Int))=_;rw[GD (n:=o) (k:=o),GD (n:=f) (k:=f),el1,el2,es1,es2,ec1,ec2,ea1,ea2,ea3,ea4];simp only[Prod.mk.injEq];refine⟨cM,cM,by omega,by omega,by omega,by omega⟩
 refine⟨by rw[e];rfl,?_⟩;unfold cL;rw[da,fN];have hl:(iJ ((o:Int),(f:Int),(l:Int),(a:Int),(s:Int),(c:Int))).length=16:=by rw[e];rfl
 rw[hl];rfl
theorem afQ {x:Fw}(h:rD x=true){p:Nat}(hp:p<=1):(I1 x (p:Int)).length=16/\tn (I1 x (p:Int))=(x,(p:Int),true):=by
 have hb:=h;unfold rD at hb;simp only[ae,aS]at hb;obtain⟨c,l,s,n,k⟩:=x;simp only at hb;obtain⟨h1,h2,h3,h4,h5⟩:=hb;obtain⟨c,rfl⟩:=aA h1.1;obtain⟨l,rfl⟩:=aA h2.1;obtain⟨s,rfl⟩:=aA h3.1;obtain⟨n,rfl⟩:=aA h4.1;obtain⟨k,rfl⟩:=aA h5.1;obtain⟨c1,c2,ec,ec1,ec2⟩:=wh (v:=c);obtain⟨l1,l2,el,el1,el2⟩:=wh (v:=l);obtain⟨s1,s2,es,es1,es2⟩:=wh (v:=s);obtain⟨n1,n2,en,en1,en2⟩:=wh (v:=n);obtain⟨k1,k2,k3,k4,ek,ek1,ek2,ek3,ek4⟩:=D9 (v:=k);obtain⟨p1,p2,p3,p4,ep,ep1,ep2,ep3,ep4⟩:=D9 (v:=p);have e:I1 ((c:Int),(l:Int),(s:Int),(n:Int),(k:Int)) (p:Int)=[c1,c2,l1,l2,s1,s2,n1,n2,k1,k2,k3,k4,p1,p2,p3,p4]:=by unfold I1;rw[h,aS.2 ⟨by omega,by omega⟩];simp only[cK,ah,ec,el,es,en,ek,ep];rfl
 have g:∀q:Nat,q<=1->p1.toNat=0->p2.toNat=0->p3.toNat=0->p4.toNat=q->gn [c1,c2,l1,l2,s1,s2,n1,n2,k1,k2,k3,k4,p1,p2,p3,p4] 12=(q:Int):=by intro q _ g1 g2 g3 g4;show(((p1.toNat*256+p2.toNat)*65536+(p3.toNat*256+p4.toNat):Nat):Int)=_;rw[g1,g2,g3,g4];omega
 have g12:=g p hp (by omega) (by omega) (by omega) (by omega);refine⟨by rw[e];rfl,?_⟩;unfold tn;rw[e,g12,dw];show(bif (((16:Nat):Int) !=16)||false then _ else((((c1.toNat*256+c2.toNat:Nat):Int),((l1.toNat*256+l2.toNat:Nat):Int),((s1.toNat*256+s2.toNat:Nat):Int),((n1.toNat*256+n2.toNat:Nat):Int),(((k1.toNat*256+k2.toNat)*65536+(k3.toNat*256+k4.toNat):Nat):Int)),(p:Int),true))=_;rw[ec1,ec2,el1,el2,es1,es2,en1,en2,ek1,ek2,ek3,ek4];show((_,_,_,_,_),_,_)=_;simp only[Prod.mk.injEq];refine⟨⟨by omega,by omega,by omega,by omega,by omega⟩,cM⟩
theorem amK (x:Nat):∃p:Nat,p<=1/\phN x=(p:Int):=by unfold phN;split;exact⟨1,by omega,rfl⟩;exact⟨0,by omega,rfl⟩
theorem SR (hm:fJ m){x:Nat}(hb:1280<=b/\b+64<=4864)(r:NL m b x C)(hn:C.length<4){c:Fw}(hc:rD c=true): (sS (bI 38) m 0 (xR b (x+C.length)) c).2=(xR b (x+C.length+1),true)/\fJ (sS (bI 38) m 0 (xR b (x+C.length)) c).1/\NL (sS (bI 38) m 0 (xR b (x+C.length)) c).1 b x (C++[c])/\∀i,i<4864->(i<b\/b+64<=i)->mB (sS (bI 38) m 0 (xR b (x+C.length)) c).1 i=mB m i:=by
 have v:=TF (b:=b) (x:=x+C.length);obtain⟨p,hp,ep⟩:=amK (x+C.length);have bk:=afQ hc hp;rw[<-ep]at bk;generalize hs:I1 c (phN (x+C.length))=s at bk;have q:=Cb hm (a:=b+16*((x+C.length)%4)) (s:=s) (w:=true) (by omega) (by omega) (λ_=>by omega);have e:sS (bI 38) m 0 (xR b (x+C.length)) c=((hZ (bI 38) m 0 ((b+16*((x+C.length)%4):Nat):Int) s true).1,xR b (x+C.length+1),true):=by unfold sS;rw[v.1,hc,v.2.2.1,hs,v.2.1,q.1,v.2.2.2];rfl
 rw[e];have q3:=q.2.2;rw[bk.1]at q3;generalize (hZ (bI 38) m 0 ((b+16*((x+C.length)%4):Nat):Int) s true).1=m' at q q3⊢;have row:uN m' (b+16*((x+C.length)%4)) 16=s:=by
  have:=P7 (m:=m') (a:=b+16*((x+C.length)%4)) (s:=s) λi hi=>by rw[q3 _ (by omega),zip,Nat.add_sub_cancel_left]
  rw[bk.1]at this;exact this
 have apart:∀j,j<4->j≠C.length->uN m' (b+16*((x+j)%4)) 16=uN m (b+16*((x+j)%4)) 16:=λj hj Ec=>yg λi hi=>by rw[q3 _ (by omega),kz]
 refine⟨rfl,q.2.1,⟨by simp;omega,λj hj=>?_,λj h1 h2=>?_⟩,λi hi ho=>?_⟩;simp only[aj,bD]at hj;by_cases g:j=C.length;subst g;rw[row,bk.2];simp;rw[apart j (by omega) g,r.get j (by omega),bc,bc,bu (by omega)];simp only[aj,bD]at h1;rw[apart j h2 (by omega)];exact r.PE j (by omega) h2;rw[q3 i hi,kz]
def B9 (x:Int×Int):Bool:=decide (x.1<0)|| !dD x.2 0 4096
def oJ (l:az (Int×Int)):Bool:= !l.any B9&&decide ((l.length:Int)<=16)
theorem aaZ (l:az (Int×Int)):(bif l.any B9 then some false else some (decide ((l.length:Int)<=16)))=some (oJ l):=by unfold oJ;cases l.any B9<;>rfl
theorem Pb (l:az (Int×Int))(h:l.length<=10^9):uG l=some (oJ l):=by
 unfold uG;rw[<-aaZ];refine IK B9 l (by omega) (λi hi nx=>?_) (λnx=>?_);simp only[tw];rw[lH,ah,bK hi,ab,dE,al];unfold B9;cases decide (l[i].1<0)with|true=>rfl|false=>simp only[af,ab,cj];rfl
 simp only[tw];rw[dw,af]
theorem Lk {l:az (Int×Int)}(h:oJ l=true):l.length<=16/\∀x∈l,0<=x.1/\0<=x.2/\x.2<=4096:=by unfold oJ at h;simp only[ae,aG,aN]at h;refine⟨by omega,λx hx=>?_⟩;have:=List.any_eq_false.1 h.1 x hx;unfold B9 at this;simp only[cJ,aG,aN,not_or,Bool.not_eq_false,aS]at this;omega
def dsc (n:Nat)(c:Int)(i:Nat)(x:Int×Int):E5:=(1,(if i+1=n then 1 else 0),x.2,x.1,0,c)
def oS (ps:az (Int×Int))(c:Int):Nat->az E5
 |0=>[]
 |i+1=>oS ps c i++[dsc ps.length c i (ps.getD i (0,0))]
theorem Du (ps:az (Int×Int))(c:Int):∀i,(oS ps c i).length=i
 |0=>rfl
 |i+1=>by rw[oS,aj,Du ps c i];rfl
theorem KC (ps:az (Int×Int))(c:Int)(q:E5->Bool):∀i,(oS ps c i).all q=(List.range i).all (λj=>q (dsc ps.length c j (ps.getD j (0,0))))
 |0=>rfl
 |i+1=>by rw[oS,List.all_append,KC ps c q i,List.range_succ,List.all_append];rfl
def jW (ps:az (Int×Int))(z c:Int):az E5:=
 bif ((ps.length:Int)==0)||(!oJ ps|| !dD z 1 128) then [] else
 bif ([(2,0,0,0,z,c)]++oS ps c ps.length).all pV then [(2,0,0,0,z,c)]++oS ps c ps.length else []
theorem Es (ps:az (Int×Int))(z c:Int)(h:ps.length<=10^9:=by omega):∃b,jQ ps z c=some (b,jW ps z c)/\(b=false->jW ps z c=[]):=by
 unfold jQ jW;rw[Pb ps h,dE];simp only[ab];cases ((ps.length:Int)==0);case true=>exact⟨false,rfl,λ_=>rfl⟩
 cases oJ ps;exact⟨false,rfl,λ_=>rfl⟩;cases dD z 1 128;exact⟨false,rfl,λ_=>rfl⟩;simp only[ak,af,ab,bJ];refine⟨([(2,0,0,0,z,c)]++oS ps c ps.length).all pV,?_,λhb=>by rw[hb];rfl⟩;refine fe (λi=>(([(2,0,0,0,z,c)]++oS ps c i,(i:Int)):az E5×Int)) ps.length (by omega) (λi nx hi=>?_) (λnx=>?_);have hl:=Du ps c i;simp only[lW];rw[lH,ah,bK hi,ab,al (n:=(ps.length:Int)-1),al];have e:[(2,0,0,0,z,c)]++oS ps c (i+1)=([(2,0,0,0,z,c)]++oS ps c i)++[dsc ps.length c i ps[i]]:=by rw[oS,cO hi,aE]
 rw[e];unfold dsc;by_cases hc:i+1=ps.length;rw[show((i:Int)==(ps.length:Int)-1)=true from by rw[bn];omega,aJ hc];simp only[ah];rw[bf (by simp only[aj,bD];omega)];rfl;rw[show((i:Int)==(ps.length:Int)-1)=false from by rw[cq];omega,aI hc];simp only[af];rw[bf (by simp only[aj,bD];omega)];rfl;simp only[lW];rw[dw,af];have hl:=Du ps c ps.length;generalize hq:[(2,0,0,0,z,c)]++oS ps c ps.length=q;have hn:q.length<=1000000001:=by rw[<-hq];simp only[aj,bD];omega
 rw[rj (fin:=some (true,q)) (hit:=some (false,[])) pV q (by omega) (λi hi nx=>?_) (λnx=>?_)];cases q.all pV<;>rfl;simp only[lh];rw[lH,ah,bK hi,ab,WK,ab,al];rfl;simp only[lh];rw[dw,af]
def Qa (x y:E5):Bool:=(x.1==y.1)&&((x.2.1==y.2.1)&&((x.2.2.1==y.2.2.1)&&((x.2.2.2.1==y.2.2.2.1)&&((x.2.2.2.2.1==y.2.2.2.2.1)&&((x.2.2.2.2.2==y.2.2.2.2.2)&&true)))))
def Lw (a b:az E5):Bool:=((a.length:Int)==(b.length:Int))&&(List.range a.length).all λi=>Qa (a.getD i LS) (b.getD i LS)
def mR (l:az E5):az (Int×Int):=(l.drop 1).map λx=>(x.2.2.2.1,x.2.2.1)
def fT (l:az E5):az (Int×Int)×Int×Int×Bool:=
 match l with
 |h::x::r=>bif Lw (jW (mR l) h.2.2.2.2.1 h.2.2.2.2.2) l then(mR l,h.2.2.2.2.1,h.2.2.2.2.2,true) else([],0,0,false)
 |_=>([],0,0,false)
theorem ac9 (ps:az (Int×Int))(z c:Int):(jW ps z c).length<=ps.length+1:=by
 unfold jW;cases ((ps.length:Int)==0)||(!oJ ps|| !dD z 1 128);case true=>simp
 cases ([(2,0,0,0,z,c)]++oS ps c ps.length).all pV with|false=>simp|true=>simp only[af,ah,aj,bD,Du];omega
theorem Ux (l:az E5)(hl:l.length<=10^9):qi l=some (fT l):=by
 unfold qi;match l,hl with
 |[],_=>rfl
 |[h],_=>rfl
 |h::y::r,hl=>
  generalize hq:y::r=q;have hq1:1<=q.length:=by rw[<-hq];simp
  have hlen:q.length+1<=10^9:=by rw[<-hq];simpa using hl
  have i0:idx (h::q) 0=some h:=rfl;have s0:sub (h::q) 1 (((h::q).length:Nat):Int)=some q:=vB (l:=h::q) 1 (by simp) (a:=1) rfl;rw[au (by simp only[aV];omega),af,s0,ab];refine fe (λi=>(((q.take i).map (λx=>(x.2.2.2.1,x.2.2.1)),(i:Int)):az (Int×Int)×Int)) q.length (by omega) (λi nx hi=>?_) (λnx=>?_);simp only[mV];rw[lH,ah,bK hi,ab,bf (by simp only[cz,aY,bD];omega),al,bZ hi,cu];rfl;simp only[mV];rw[dw,af,fg];have hp:q.map (λx=>(x.2.2.2.1,x.2.2.1))=mR (h::q):=rfl;have Er:(mR (h::q)).length=q.length:=by rw[<-hp,cz]
  rw[hp];have hdl:=ac9 (mR (h::q)) h.2.2.2.2.1 h.2.2.2.2.2;obtain⟨b,hd,hb⟩:=Es (mR (h::q)) h.2.2.2.2.1 h.2.2.2.2.2;have hR:fT (h::q)=bif Lw (jW (mR (h::q)) h.2.2.2.2.1 h.2.2.2.2.2) (h::q) then(mR (h::q),h.2.2.2.2.1,h.2.2.2.2.2,true) else([],0,0,false):=by rw[<-hq];rfl
  rw[hR];simp only[i0,ab,hd];have hlc:(((h::q).length:Nat):Int)=(q.length:Int)+1:=by simp only[aV];omega
  generalize jW (mR (h::q)) h.2.2.2.2.1 h.2.2.2.2.2=w at hdl hb⊢
  have core:∀(K:aC (az (Int×Int)×Int×Int×Bool))(w':az E5),w'=w->(bif ((w'.length:Nat):Int) !=(((h::q).length:Nat):Int) then some (([]:az (Int×Int)),(0:Int),(0:Int),false) else
   bp (iM (λEd=>some (mR (h::q),h.2.2.2.2.1,h.2.2.2.2.2,true)) (λFq Kt Kr GH IC=>some (Fq,Kt,Kr,GH)) (h::q) (mR (h::q)) h.2.2.2.2.1 h.2.2.2.2.2 w' ((w'.length:Nat):Int)) fuel 0)=some (bif Lw w (h::q) then(mR (h::q),h.2.2.2.2.1,h.2.2.2.2.2,true) else([],0,0,false)):=by
   intro K w' e
   subst e
   unfold Lw
   cases hl:((w'.length:Int)==(((h::q).length:Nat):Int))with
   |false=>simp only[bne,hl,cl,ah,eY,af]
   |true=>
    have hn:w'.length=(h::q).length:=by have:=bz hl;omega
    simp only[bne,hl,ak,af,bC]
    rw[th (fin:=some (mR (h::q),h.2.2.2.2.1,h.2.2.2.2.2,true)) (hit:=some ([],0,0,false)) (λi=>Qa (w'.getD i LS) ((h::q).getD i LS)) w'.length (by omega) (λi nx hi=>?_) (λnx=>?_)]
    ·cases (List.range w'.length).all (λi=>Qa (w'.getD i LS) ((h::q).getD i LS))<;>rfl
    ·have hi2:i<(h::q).length:=by omega
     simp only[iM]
     rw[lH,ah,bK hi,bK hi2,ab,ab,al,cO hi,cO hi2];rfl
    ·simp only[iM]
     rw[dw,af]
  cases b with|true=>exact core none w rfl|false=>exact core none [] (hb rfl).symm
theorem XB {l:az E5}(h:(fT l).2.2.2=true):oJ (fT l).1=true/\∀p∈(fT l).1,p.1<=4294967295:=by match l,h with|hd::x::r,h=>unfold fT at h⊢;simp only at h⊢;cases hs:Lw (jW (mR (hd::x::r)) hd.2.2.2.2.1 hd.2.2.2.2.2) (hd::x::r)with|false=>rw[hs]at h;cases h|true=>simp only[ah];generalize hw:mR (hd::x::r)=ps at hs⊢;unfold Lw at hs;simp only[ae]at hs;have hn:=bz hs.1;unfold jW at hn;cases hc:((ps.length:Int)==0)||(!oJ ps|| !dD hd.2.2.2.2.1 1 128)with|true=>rw[hc]at hn;simp at hn;omega|false=>rw[hc]at hn;cases ha:([(2,0,0,0,hd.2.2.2.2.1,hd.2.2.2.2.2)]++oS ps hd.2.2.2.2.2 ps.length).all pV with|false=>rw[ha]at hn;simp at hn;omega|true=>simp only[cn,dM]at hc;refine⟨hc.2.1,λp hp=>?_⟩;rw[List.all_append,KC,ae]at ha;obtain⟨i,hi,rfl⟩:=gA hp;have:=aL.1 ha.2 i (cB.2 hi);rw[cO hi]at this;simp only[pV,dsc,ae,aS]at this;omega
theorem KD (l:az aH)(m:cg)(d a n:Int):(qE l m d a n).1.length<=33554432:=by have hL:=Lv l m d a n false;have h1:=xm m (lP l m d a n false).1;unfold qE;cases (lP l m d a n false).2 with|false=>simp|true=>simp only[ah];omega
def El (l:az aH)(m:cg)(d:Int):az (Int×Int)->Bytes->Bytes×Bool
 |[],acc=>(acc,true)
 |p::ps,acc=>bif (qE l m d p.1 p.2).2 then El l m d ps (acc++(qE l m d p.1 p.2).1) else([],false)
def lU (l:az aH)(m:cg)(d:Int)(ps:az (Int×Int)):Bytes×Bool:=bif oJ ps then El l m d ps [] else([],false)
def I5 (l:az aH)(m:cg)(d:Int)(p:Int×Int)(s:Bytes):Except (aC (Bytes×Bool)) Bytes:=
 if(qE l m d p.1 p.2).2=true then .ok (s++(qE l m d p.1 p.2).1) else .error (some ([],false))
theorem OL (l:az aH)(m:cg)(d:Int):∀(ps:az (Int×Int))(s:Bytes),UU (I5 l m d) (λs=>some (s,true)) ps s=some (El l m d ps s)
 |[],s=>rfl
 |p::ps,s=>by rw[UU,El];unfold I5;cases hd:(qE l m d p.1 p.2).2 with|false=>rfl|true=>rw[aJ rfl];exact OL l m d ps _
theorem L1 (l:az aH)(m:cg)(d:Int):∀(ps:az (Int×Int))(s:Bytes),(El l m d ps s).1.length<=s.length+33554432*ps.length
 |[],s=>by simp[El]
 |p::ps,s=>by have h1:=KD l m d p.1 p.2;rw[El];cases (qE l m d p.1 p.2).2 with|false=>simp|true=>have:=L1 l m d ps (s++(qE l m d p.1 p.2).1);rw[aj]at this;simp only[ah,aV,Nat.mul_add];omega
theorem Wf (l:az aH)(m:cg)(d:Int)(ps:az (Int×Int)):(lU l m d ps).1.length<=10^9:=by unfold lU;cases hp:oJ ps with|false=>simp|true=>have:=(Lk hp).1;have:=L1 l m d ps [];simp only[dg]at this;simp only[ah];omega
theorem aag (l:az aH)(m:cg)(d:Int)(ps:az (Int×Int))(hl:l.length<=10^9)(hm:m.length<=10^9)(hn:ps.length<=10^9)(ha:∀p∈ps,p.1<=9223372036854775807):rP l m d ps=some (lU l m d ps):=by
 unfold rP lU;rw[Pb ps hn,ab];cases hp:oJ ps;rfl;have Uf:=(Lk hp).1;simp only[ak,af,ah];rw[<-OL];refine JZ ps (λs i=>(s,(i:Int))) (λi s=>s.length<=33554432*i) (I5 l m d) _ (by omega) (λi hi s nx hI=>?_) (λi hi s s' hI he=>?_) (λs nx hI=>?_) [] (by simp);have h1:=KD l m d ps[i].1 ps[i].2;simp only[nH];rw[lH,ah,bK hi,ab,CG l m d _ _ hl hm (ha _ (bF hi)),ab];unfold I5;cases hd:(qE l m d ps[i].1 ps[i].2).2 with|false=>rfl|true=>rw[aJ rfl,bf,al];rfl
 have h1:=KD l m d ps[i].1 ps[i].2;unfold I5 at he;split at he;injection he with he;rw[<-he,aj];omega;cases he;simp only[nH];rw[dw,af]
theorem kL {y:Bytes}(h:i<x.length):bR (x++y) i=bR x i:=by unfold bR;rw[bc,bc,bu h]
theorem vM {y:Bytes}(h:x.length<=i):bR (x++y) i=bR y (i-x.length):=by unfold bR;rw[bc,bc,bE h]
theorem VL (h:i<n):bR (x.take n) i=bR x i:=by unfold bR;rw[bc,bc,dI h]
theorem nu:bR (x.drop n) i=bR x (n+i):=by unfold bR;rw[bc,bc,bP]
theorem UN {p:Bytes}(h:i<a\/a+p.length<=i:=by omega):bR (xi s (a:Int) p) i=bR s i:=by
 unfold xi fR;by_cases hw:(0:Int)<=a/\(a:Int)+(p.length:Int)<=(s.length:Int)
 rw[aw hw,ah,ax];have ht:(s.take a).length=a:=by rw[aY];omega
 rcases h with h|h;rw[kL (by rw[aj];omega),kL (by omega),VL h];rw[vM (by rw[aj];omega),nu,aj,ht];congr 1;omega;rw[au hw];rfl
theorem acy {p:Bytes}{j:Nat}(hw:a+p.length<=s.length)(hj:j<p.length:=by omega):bR (xi s (a:Int) p) (a+j)=bR p j:=by
 unfold xi fR;rw[aw ⟨by omega,by omega⟩,ah,ax];have ht:(s.take a).length=a:=by rw[aY];omega
 rw[kL (by rw[aj];omega),vM (by omega),ht];congr 1;omega
theorem vO:cv s (a:Int)=bif decide (a+2<=s.length) then((bR s a*256+bR s (a+1):Nat):Int) else-1:=by unfold cv fR;rw[ax,show decide ((0:Int)<=a/\(a:Int)+2<=(s.length:Int))=decide (a+2<=s.length) from decide_eq_decide.2 (by omega)]
theorem FP (hl:s.length=t.length)(h0:bR s a=bR t a)(h1:bR s (a+1)=bR t (a+1)):cv s (a:Int)=cv t (a:Int):=by rw[vO,vO,hl,h0,h1]
theorem OM:cv (s.drop k) (a:Int)=cv s ((k+a:Nat):Int):=by rw[vO,vO,nu,nu,aP,show k+(a+1)=k+a+1 by omega,show decide (a+2<=s.length-k)=decide (k+a+2<=s.length) from decide_eq_decide.2 (by omega)]
theorem GS:gn s (a:Int)=bif decide (a+4<=s.length) then(((bR s a*256+bR s (a+1))*65536+(bR s (a+2)*256+bR s (a+3)):Nat):Int) else-1:=by unfold gn fR;rw[ax,show decide ((0:Int)<=a/\(a:Int)+4<=(s.length:Int))=decide (a+4<=s.length) from decide_eq_decide.2 (by omega)]
theorem ON:gn (s.drop k) (a:Int)=gn s ((k+a:Nat):Int):=by rw[GS,GS,nu,nu,nu,nu,aP,show k+(a+1)=k+a+1 by omega,show k+(a+2)=k+a+2 by omega,show k+(a+3)=k+a+3 by omega,show decide (a+4<=s.length-k)=decide (k+a+4<=s.length) from decide_eq_decide.2 (by omega)]
theorem Wg (hl:s.length=t.length)(h:∀j,j<4->bR s (a+j)=bR t (a+j)):gn s (a:Int)=gn t (a:Int):=by rw[GS,GS,hl,show bR s a=bR t a from h 0 (by omega),h 1 (by omega),h 2 (by omega),h 3 (by omega)]
def dS (s:Bytes):Nat:=bif cv s 12==33024 then 18 else 14
def mf (s:Bytes):Nat:=bR s (dS s+9)
def Ql (k:Nat):Nat:=bif (k:Int)==6 then 16 else 6
def Di (s:Bytes):Nat:=dS s+10
def Bs (s:Bytes):Nat:=dS s+20+Ql (mf s)
theorem Ka (k:Nat):Ql k=16/\k=6\/Ql k=6/\k≠6:=by unfold Ql;by_cases h:k=6;subst h;exact .inl ⟨rfl,rfl⟩;exact .inr ⟨by rw[show((k:Int)==6)=false from by rw[cq];omega];rfl,h⟩
theorem NX (s:Bytes):dS s=18/\(cv s 12==33024)=true\/dS s=14/\(cv s 12==33024)=false:=by unfold dS;cases cv s 12==33024 with|true=>exact .inl ⟨rfl,rfl⟩|false=>exact .inr ⟨rfl,rfl⟩
theorem KW (k:Nat)(h:k<256):gK (k:Int)=some (Ql k:Int):=by unfold gK Ql;cases (k:Int)==6<;>rfl
theorem Jt (s:Bytes)(h:s.length<=10^9):sP s=some ((Di s:Int),(Bs s:Int)):=by
 unfold sP;rw[yd s 12 h,ab];have hk:=fS s (dS s+9)
 have core:∀o:Nat,dS s=o->(o=18\/o=14)->(bif decide (ar ((o:Int)+9)<(s.length:Int)) then
  aa (idx s (ar ((o:Int)+9))) λx2=>aa (gK (ar ((UInt8.toNat x2:Int)))) λr3=>some (ar ((o:Int)+10),ar ((ar ((o:Int)+20))+r3))
  else aa (gK 0) λr4=>some (ar ((o:Int)+10),ar ((ar ((o:Int)+20))+r4)))=some ((Di s:Int),(Bs s:Int)):=by
  intro o ho h2
  have hs:=Ka (mf s)
  rw[al (n:=(o:Int)+9),al (n:=(o:Int)+10),al (n:=(o:Int)+20)]
  unfold Di Bs
  rw[ho]
  by_cases hl:o+9<s.length
  ·obtain⟨x,hx,ex⟩:=nC hl
   rw[lH,ah,show(o:Int)+9=((o+9:Nat):Int) by omega,hx,ab,ex,iZ (by rw[<-ho];omega),KW _ (by rw[<-ho];exact hk),ab,show bR s (o+9)=mf s by unfold mf;rw[ho],al]
   congr 1
  ·have hz:mf s=0:=by unfold mf;rw[ho];exact HX
   have h0:gK 0=some (Ql 0:Int):=KW 0 (by omega)
   rw[dw,af,h0,ab,<-hz,al]
   congr 1
 rcases NX s with⟨h1,h2⟩|⟨h1,h2⟩;rw[h2,ah];exact core 18 h1 (.inl rfl);rw[h2,af];exact core 14 h1 (.inr rfl)
theorem acr {a:Int}(h:dD a 0 281474976710655=true):(Ih a).length=6:=by
 have ha:=aS.1 h;have e:Ih a=aW (Int.fdiv a (2^(ow 32)))++eo (ar (toNat (gM a&&&gM 4294967295))):=by unfold Ih ju;rw[kz];simp only[lF,od,ab];have h1:=bO (Int.fdiv a (2^(ow 32)));have h2:=eP (ar (toNat (gM a&&&gM 4294967295)));rw[bf];rfl
 have e2:(2:Int)^(ow 32)=4294967296:=rfl;rw[e,aj,E4,IA,ahC,e2];rw[show dD (Int.fdiv a 4294967296) 0 65535=true from aS.2 (by rw[Int.fdiv_eq_ediv_of_nonneg _ (by omega)];omega),show dD (a%4294967296) 0 4294967295=true from aS.2 (by omega)];rfl
theorem WE (h:cH p=true):dS (cV p).1+46<=(cV p).1.length:=by
 have hh:ov p=true:=by simp only[cH,ae]at h;exact h.1
 have hp:=NB (So p).1;have hi:=GY h;unfold cV agG T4 at hi⊢;rw[h,ah]at hi⊢;cases he:qF (p.1,p.2.1,p.2.2.1,2048,pad (So p).1)with|false=>rw[he]at hi;cases hi|true=>?_
 simp only[ah];simp only[ov,ae]at hh;have m1:=acr hh.1;have m2:=acr hh.2.1;have hv:=aS.1 hh.2.2.1;have w1:(aW 33024).length=2:=rfl;have w3:(aW 2048).length=2:=rfl;generalize pad (So p).1=bd at hp⊢;unfold Fe;simp only;generalize Ih p.1=M1 at m1⊢;generalize Ih p.2.1=M2 at m2⊢;by_cases hc:p.2.2.1>=0;have w2:(aW p.2.2.1).length=2:=by rw[E4,aS.2 (by omega)];rfl
 rw[aw hc,ah];have hb:dS (((((M1++M2)++aW 33024)++aW p.2.2.1)++aW 2048)++bd)=18:=by
  unfold dS;have e12:cv (((((M1++M2)++aW 33024)++aW p.2.2.1)++aW 2048)++bd) ((12:Nat):Int)=33024:=by rw[vO,aw (by simp only[aj];omega),ah];rw[kL (by simp only[aj];omega),kL (by simp only[aj];omega),kL (by simp only[aj];omega),vM (by simp only[aj];omega)];rw[kL (by simp only[aj];omega),kL (by simp only[aj];omega),kL (by simp only[aj];omega),vM (by simp only[aj];omega)];rw[aj,m1,m2];rfl
  rw[show(12:Int)=((12:Nat):Int) from rfl,e12];rfl
 rw[hb];simp only[aj];omega;rw[au hc,af];have hb:dS (((M1++M2)++aW 2048)++bd)=14:=by
  unfold dS;have e12:cv (((M1++M2)++aW 2048)++bd) ((12:Nat):Int)=2048:=by rw[vO,aw (by simp only[aj];omega),ah];rw[kL (by simp only[aj];omega),vM (by simp only[aj];omega)];rw[kL (by simp only[aj];omega),vM (by simp only[aj];omega)];rw[aj,m1,m2];rfl
  rw[show(12:Int)=((12:Nat):Int) from rfl,e12];rfl
 rw[hb];simp only[aj];omega
def nQ (t:Bytes)(x y:Bytes):Bytes:=xi (xi t (Di t:Int) x) (Bs t:Int) y
theorem Gj (t x y:Bytes):(nQ t x y).length=t.length:=by unfold nQ;rw[zL,zL]
def kV (p:aM):Bytes×Bool:=bif cH p then(nQ (cV p).1 (aW 0) (aW 0),true) else([],false)
theorem ahe (h:cH p=false):cV p=([],false):=by unfold cV;rw[h];rfl
theorem Sn (p:aM):nY p=some (kV p):=by have hl:=oT p;have w0:=bO 0;unfold nY kV nQ;rw[GZ,ab];cases h:cH p with|false=>rw[ahe h];rfl|true=>rw[GY h];simp only[ak,af,ah,Jt _ (show(cV p).1.length<=10^9 by omega),ab,mK,Ev _ _ _ (show(cV p).1.length<=10^9 by omega) (show(aW 0).length<=10^9 by omega),Ev _ _ _ (show(xi (cV p).1 (Di (cV p).1:Int) (aW 0)).length<=10^9 by rw[zL];omega) (show(aW 0).length<=10^9 by omega)]
def E6 (s t:Bytes):Prop:=s.length=t.length/\∀i,i<Di t\/(Di t+2<=i/\i<Bs t)\/Bs t+2<=i->bR s i=bR t i
theorem Ca (t:Bytes):(dS t=14\/dS t=18)/\Di t=dS t+10/\dS t+26<=Bs t/\Bs t<=dS t+36/\(Bs t=dS t+36/\mf t=6\/Bs t=dS t+26/\mf t≠6):=by have h1:=NX t;have h2:=Ka (mf t);unfold Di Bs;omega
theorem HF (t:Bytes){y:Bytes}(hx:x.length<=2)(hy:y.length<=2):E6 (nQ t x y) t:=by have:=Ca t;refine⟨Gj t x y,λi hi=>?_⟩;unfold nQ;rw[UN,UN]
theorem E6.body (h:E6 s t):dS s=dS t:=by have:=Ca t;unfold dS;have e:cv s ((12:Nat):Int)=cv t ((12:Nat):Int):=FP h.1 (h.2 _ (by omega)) (h.2 _ (by omega));rw[show(12:Int)=((12:Nat):Int) from rfl,e]
theorem E6.kind (h:E6 s t):mf s=mf t:=by have:=Ca t;unfold mf;rw[h.body,h.2 _ (by omega)]
theorem E6.amM (h:E6 s t):Di s=Di t/\Bs s=Bs t:=by unfold Di Bs;rw[h.body,h.kind];exact⟨rfl,rfl⟩
theorem E6.aon (h:E6 s t):cv s ((dS t+2:Nat):Int)=cv t ((dS t+2:Nat):Int):=by have:=Ca t;exact FP h.1 (h.2 _ (by omega)) (h.2 _ (by omega))
structure TOk (t:Bytes):Prop where
 eth:(gC t).2=true
 bd:(gC t).1.2.2.2.2=t.drop (dS t)
 l1:dS t+46<=t.length
 n1:20+Ql (mf t)+2<=cv t ((dS t+2:Nat):Int)
 n2:cv t ((dS t+2:Nat):Int)<=(t.length:Int)-(dS t:Int)
theorem Lj (h:(gC s).2=true):(gC s).1.2.2.2.2=s.drop (dS s)/\18<=s.length/\46<=s.length-dS s/\s.length-dS s<=400:=by
 unfold gC at h⊢;by_cases h8:(s.length:Int)<18;rw[aw h8]at h;cases h;rw[au h8]at h⊢;simp only[af]at h⊢;rcases NX s with⟨h1,h2⟩|⟨h1,h2⟩;rw[h2]at h⊢;simp only[ah]at h⊢;cases he:qF (FI s)with|false=>rw[he]at h;cases h|true=>rw[h1];simp only[qF,ae,aS,FI,aP]at he;simp only[ah,FI];refine⟨cM,by omega,by omega,by omega⟩
 rw[h2]at h⊢;simp only[af]at h⊢;cases he:qF (wA s)with|false=>rw[he]at h;cases h|true=>rw[h1];simp only[qF,ae,aS,wA,aP]at he;simp only[ah,wA];refine⟨cM,by omega,by omega,by omega⟩
theorem P1 (h:(ka s).2=0):(gC s).2=true/\(ll (gC s).1.2.2.2.2).2=true/\cH (ka s).1=true/\ (nP (ll (gC s).1.2.2.2.2).1.2.2.2.2.1 (ll (gC s).1.2.2.2.2).1.2.2.2.2.2.1 (ll (gC s).1.2.2.2.2).1.2.2.2.1 (ll (gC s).1.2.2.2.2).1.2.2.2.2.2.2).2=true:=by
 unfold ka at h⊢;simp only at h⊢;generalize gC s=e at h⊢;cases h1: !e.2||(e.1.2.2.2.1 !=2048)with|true=>rw[h1]at h;cases h|false=>?_
 rw[h1]at h;simp only[af]at h⊢;generalize ll e.1.2.2.2.2=i at h⊢;cases h2:i.2 with|false=>rw[h2]at h;cases h|true=>?_
 rw[h2]at h;simp only[ak,af]at h⊢;generalize nP i.1.2.2.2.2.1 i.1.2.2.2.2.2.1 i.1.2.2.2.1 i.1.2.2.2.2.2.2=g at h⊢;cases h3:g.2 with|false=>rw[h3]at h;cases h|true=>?_
 rw[h3]at h;simp only[ak,af]at h⊢;cases h4:cH (e.1.1,e.1.2.1,e.1.2.2.1,i.1.1,i.1.2.1,i.1.2.2.1,i.1.2.2.2.2.1,i.1.2.2.2.2.2.1,g.1)with|false=>rw[h4]at h;cases h|true=>?_
 simp only[cn,dM]at h1;exact⟨h1.1,cM,h4,cM⟩
theorem ahW {b:Bytes}(h:(ll b).2=true):20<=cv b 2/\cv b 2<=(b.length:Int)/\(ll b).1=Dd b:=by
 unfold ll at h⊢;cases h1:decide ((b.length:Int)<20)||(decide (cv b 2<20)||decide (cv b 2>(b.length:Int)))with|true=>rw[h1]at h;cases h|false=>?_
 rw[h1]at h;simp only[af]at h⊢;cases h2:(Ra (Dd b)).2&&((Ra (Dd b)).1==b.take (cv b 2).toNat)with|false=>rw[h2]at h;cases h|true=>?_
 simp only[cn,cG]at h1;exact⟨by omega,by omega,rfl⟩
theorem aeG {a b k:Int}(h:(nP a b k s).2=true):k=6/\20<=s.length\/k=17/\8<=s.length:=by unfold nP at h;cases h1:(k==6)&&decide ((s.length:Int)>=20)with|true=>simp only[ae,bn,aG]at h1;exact .inl ⟨h1.1,by omega⟩|false=>rw[h1]at h;simp only[af]at h;cases h2:(k==17)&&decide ((s.length:Int)>=8)with|true=>simp only[ae,bn,aG]at h2;exact .inr ⟨h2.1,by omega⟩|false=>rw[h2]at h;cases h
theorem adb (hl:s.length=t.length)(h:∀i,i<18->bR s i=bR t i)(hs:(gC s).2=true):(gC t).2=true:=by
 have g16:∀a,a+2<=18->cv s ((a:Nat):Int)=cv t ((a:Nat):Int):=λa ha=>FP hl (h _ (by omega)) (h _ (by omega));have g32:∀a,a+4<=18->gn s ((a:Nat):Int)=gn t ((a:Nat):Int):=λa ha=>Wg hl (λj hj=>h _ (by omega));have e0:AB s 0=AB t 0:=by unfold AB;rw[show(0:Int)=((0:Nat):Int) from rfl,g16 0 (by omega),show((0:Nat):Int)+2=((2:Nat):Int) from rfl,g32 2 (by omega)]
 have e6:AB s 6=AB t 6:=by unfold AB;rw[show(6:Int)=((6:Nat):Int) from rfl,g16 6 (by omega),show((6:Nat):Int)+2=((8:Nat):Int) from rfl,g32 8 (by omega)]
 have e12:cv s 12=cv t 12:=g16 12 (by omega);have e14:cv s 14=cv t 14:=g16 14 (by omega);have e16:cv s 16=cv t 16:=g16 16 (by omega);have b1:qF (FI s)=qF (FI t):=by unfold qF FI;rw[e0,e6,e14,e16];simp only[aP,hl]
 have b2:qF (wA s)=qF (wA t):=by unfold qF wA;rw[e0,e6,e12];simp only[aP,hl]
 unfold gC at hs⊢;rw[hl,e12,b1,b2]at hs;cases h8:decide ((t.length:Int)<18)with|true=>rw[h8]at hs;cases hs|false=>?_
 rw[h8]at hs;cases h12:cv t 12==33024 with
 |true=>rw[h12]at hs;cases hb:qF (FI t)with|true=>rfl|false=>rw[hb]at hs;cases hs
 |false=>rw[h12]at hs;cases hb:qF (wA t)with|true=>rfl|false=>rw[hb]at hs;cases hs
theorem amW (ha:E6 s t)(h:(ka s).2=0):TOk t:=by
 have hp:=Ca t;obtain⟨h1,h2,_,h4⟩:=P1 h;have he:=Lj h1;rw[he.1]at h2 h4;have hi:=ahW h2;have hs:=aeG h4;rw[hi.2.2]at hs;have e1:(gC t).2=true:=adb ha.1 (λi hi=>ha.2 i (by omega)) h1;have e2:=Lj e1;have en:cv (s.drop (dS s)) 2=cv t ((dS t+2:Nat):Int):=by have:cv (s.drop (dS s)) ((2:Nat):Int)=cv s ((dS s+2:Nat):Int):=OM;rw[show(2:Int)=((2:Nat):Int) from rfl,this,ha.body,ha.aon]
 have ek:(Dd (s.drop (dS s))).2.2.2.1=(mf t:Int):=by show(bR (s.drop (dS s)) 9:Int)=_;rw[nu,<-ha.kind];rfl
 have eg:(Dd (s.drop (dS s))).2.2.2.2.2.2.length=(cv t ((dS t+2:Nat):Int)).toNat-20:=by show(((s.drop (dS s)).take (cv (s.drop (dS s)) 2).toNat).drop 20).length=_;rw[en,aP,aY];have:=hi.2.1;rw[en]at this;omega
 rw[ek,eg]at hs;rw[en]at hi;have hn:=hi.2.1;rw[aP,ha.1,ha.body]at hn;have hk:=Ka (mf t);exact⟨e1,e2.1,by omega,by omega,by omega⟩
theorem afm (h:(kV p).1=t)(hs:cH p=true)(ht:TOk t):cv t (Di t:Int)=0/\cv t (Bs t:Int)=0:=by
 unfold kV at h;rw[hs]at h;simp only[ah]at h;have w0:(aW 0).length=2:=rfl;have ha:E6 (nQ (cV p).1 (aW 0) (aW 0)) (cV p).1:=HF _ (by omega) (by omega);rw[h]at ha;have hp:=Ca t;have Er:=ha.amM;have hl:=ht.l1;have BD:=ha.1;have KP:=ht.n1;have Fv:=ht.n2;have hk:=Ka (mf t);have hB:Bs t+2<=t.length:=by omega
 have b0:bR (aW 0) 0=0:=rfl;have b1:bR (aW 0) 1=0:=rfl;rw[vO,vO,lH,aw hB,ah,ah];have eB:∀j,j<2->bR t (Bs t+j)=bR (aW 0) j:=by intro j hj;rw[<-h];unfold nQ;rw[show Bs (xi (xi (cV p).1 (Di (cV p).1:Int) (aW 0)) (Bs (cV p).1:Int) (aW 0))=Bs (cV p).1 from by have:=Er.2;rw[<-h]at this;exact this];exact acy (by rw[zL,w0];omega)
 have eA:∀j,j<2->bR t (Di t+j)=bR (aW 0) j:=by intro j hj;rw[<-h];unfold nQ;rw[show Di (xi (xi (cV p).1 (Di (cV p).1:Int) (aW 0)) (Bs (cV p).1:Int) (aW 0))=Di (cV p).1 from by have:=Er.1;rw[<-h]at this;exact this];rw[UN];exact acy (by rw[w0];omega)
 have a0:=eA 0 (by omega);have a1:=eA 1 (by omega);have c0:=eB 0 (by omega);have c1:=eB 1 (by omega);rw[eE]at a0 c0;rw[a0,a1,c0,c1,b0,b1];exact⟨rfl,rfl⟩
def Co (t:Bytes):Int:=cv t ((dS t+2:Nat):Int)
def Rt (t:Bytes):Int:=MX ((t.take (dS t+20)).drop (dS t))
def abb (t:Bytes):Bytes:=(t.take (dS t+(Co t).toNat)).drop (dS t+20)
def ajv (t:Bytes):Bytes:=xh (gn t ((dS t+12:Nat):Int)) (gn t ((dS t+16:Nat):Int)) (mf t:Int) (Co t-20)
def LH (t:Bytes):Int:=bif ((mf t:Int)==17)&&(MX (ajv t++abb t)==0) then 65535 else MX (ajv t++abb t)
def ab5 (t s:Bytes):Bytes×Bool:=bif ((ka s).2==0)&&((kV (ka s).1).1==t) then cV (ka s).1 else([],false)
def xW (t:Bytes):Bytes×Bool:=ab5 t (nQ t (aW (Rt t)) (aW (LH t)))
theorem Nr (h:¬(TOk t/\cv t (Di t:Int)=0/\cv t (Bs t:Int)=0)):xW t=([],false):=by
 have ha:E6 (nQ t (aW (Rt t)) (aW (LH t))) t:=HF t (bO _) (bO _);unfold xW ab5;generalize nQ t (aW (Rt t)) (aW (LH t))=s at ha⊢;cases h1:(ka s).2==0;rfl;have QJ:(ka s).2=0:=by simpa using h1
 cases h2:(kV (ka s).1).1==t;rfl;have Vp:(kV (ka s).1).1=t:=eq_of_beq h2;have ht:=amW ha QJ;exact absurd ⟨ht,afm Vp (P1 QJ).2.2.1 ht⟩ h
theorem Kh (t:Bytes)(o n:Nat):(t.drop o).take n=(t.take (o+n)).drop o:=by rw[List.drop_take];congr 1;omega
theorem XF (h1:dS t+20<=t.length)(h2:20<=Co t)(h3:Co t<=(t.length:Int))(h4:t.length<=10^9):yT (gn t ((dS t+12:Nat):Int)) (gn t ((dS t+16:Nat):Int)) (mf t:Int) (Co t-20)=true:=by have a1:=DA (s:=t) (a:=((dS t+12:Nat):Int));have a2:=DA (s:=t) (a:=((dS t+16:Nat):Int));have a3:=fS t (dS t+9);have a4:=FQ (s:=t) (a:=((dS t+2:Nat):Int));unfold yT;rw[aS.2 a1,aS.2 a2,aS.2 (show 0<=(mf t:Int)/\(mf t:Int)<=255 by unfold mf;omega),aS.2 (show 0<=Co t-20/\Co t-20<=65535 by unfold Co at*;omega)];rfl
theorem adH (t:Bytes)(hl:t.length<=10^9):yF t=some (xW t):=by
 have hp:=Ca t
 have hk:=Ka (mf t)
 have Z4:mf t<256:=fS t (dS t+9)
 have FV:=EH t
 unfold yF
 rw[Jn t hl,ab,yd _ _ (by omega),ab]
 cases h1:(gC t).2 with
 |false=>rw[Nr λh=>by have:=h.1.eth;rw[h1]at this;cases this];rfl
 |true=>
 have he:=Lj h1
 rw[he.1]
 simp only[ak,af,ab]
 have en:cv (t.drop (dS t)) 2=Co t:=OM (a:=2)
 rw[en]
 by_cases h4:Co t<20
 ·rw[aw h4,Nr λh=>by have:=h.1.n1;unfold Co at h4;omega];rfl
 rw[au h4]
 simp only[af,ab]
 by_cases h5:Co t>((t.drop (dS t)).length:Int)
 ·rw[aw h5,Nr λh=>by have:=h.1.n2;unfold Co at h5;rw[aP]at h5;omega];rfl
 rw[au h5]
 rw[aP]at h5
 have hdl:(t.drop (dS t)).length=t.length-dS t:=aP ..
 obtain⟨n,hn⟩:=aA (show 0<=Co t by omega)
 obtain⟨x,hx,ex⟩:=nC (s:=t.drop (dS t)) (i:=9)
 have hx9:idx (t.drop (dS t)) 9=some x:=hx
 have s1:sub (t.drop (dS t)) 0 20=some ((t.take (dS t+20)).drop (dS t)):=by rw[Br,<-Kh];rfl
 have s2:sub (t.drop (dS t)) 20 (Co t)=some (abb t):=by rw[Vf (l:=t.drop (dS t)) 20 (a:=20) rfl,hn,ax,Kh,eZ];unfold abb;rw[hn];rfl
 have hps:=Ln (gn t ((dS t+12:Nat):Int)) (gn t ((dS t+16:Nat):Int)) (mf t:Int) (Co t-20)
 have ahc:((abb t).length:Int)=Co t-20:=by unfold abb;rw[aP,aY,hn];omega
 have hk2:ar ((UInt8.toNat x:Int))=(mf t:Int):=by rw[ex,nu,iZ (show bR t (dS t+9)<9223372036854775808 by unfold mf at Z4;omega)];rfl
 have g12:gn (t.drop (dS t)) 12=gn t ((dS t+12:Nat):Int):=ON (a:=12)
 have g16:gn (t.drop (dS t)) 16=gn t ((dS t+16:Nat):Int):=ON (a:=16)
 have hw:ar ((Ql (mf t):Int)+2)=(Ql (mf t):Int)+2:=by rw[al]
 simp only[af,ab,Jt t hl,s1,s2,hx9,BF _ _ (show(t.drop (dS t)).length<=10^9 by omega),hk2,Pc,ahc,g12,g16,XF (show dS t+20<=t.length by omega) (show 20<=Co t by omega) (show Co t<=(t.length:Int) by omega) hl,ah,ak,KW _ Z4,hw]
 rw[show xh (gn t ((dS t+12:Nat):Int)) (gn t ((dS t+16:Nat):Int)) (mf t:Int) (Co t-20)=ajv t from rfl]at hps⊢
 by_cases h6:(Ql (mf t):Int)+2>Co t-20
 ·rw[aw h6,Nr λh=>by have:=h.1.n1;unfold Co at h6;omega];rfl
 rw[au h6]
 simp only[af]
 have hck:((t.take (dS t+20)).drop (dS t)).length<=10^9:=by rw[aP,aY];omega
 rw[bf,Nz _ (by rw[aj];omega),ab]
 have qb:∀y:Int,LH t=y->(aa (kC ((t.take (dS t+20)).drop (dS t))) λr25=>aa (cA r25) λr26=>aa (gS t (Di t:Int) r26) λr27=>aa (cA y) λr28=>aa (gS r27 (Bs t:Int) r28) λr29=>aa (jM r29) λr30=>aa (nY r30.1) λr31=>
  aa (bif r30.2 !=0 then some true else bif !r31.2 then some true else some (!(r31.1==t))) λq32=>bif q32 then some (([]:Bytes),false) else aa (jr r30.1) λr33=>some r33)=some (xW t):=by
  intro y hy
  subst hy
  have b1:=bO (Rt t)
  have b2:=bO (LH t)
  rw[Nz _ hck,ab,show MX ((t.take (dS t+20)).drop (dS t))=Rt t from rfl]
  rw[mK,ab,Ev t _ _ hl,ab,mK,ab,Ev _ _ _ (by rw[zL];exact hl),ab]
  have hlen:=Gj t (aW (Rt t)) (aW (LH t))
  unfold xW
  rw[show xi (xi t (Di t:Int) (aW (Rt t))) (Bs t:Int) (aW (LH t))=nQ t (aW (Rt t)) (aW (LH t)) from rfl]
  generalize nQ t (aW (Rt t)) (aW (LH t))=s at hlen⊢
  simp only[G1 s (by omega),ab,Sn,GZ,ab5,bne]
  cases h1:(ka s).2==0;rfl
  have hsb:=(P1 (show(ka s).2=0 by simpa using h1)).2.2.1
  have h2:(kV (ka s).1).2=true:=by unfold kV;rw[hsb];rfl
  rw[h2]
  cases (kV (ka s).1).1==t<;>rfl
 cases h8:(mf t:Int)==17 with
 |false=>exact qb _ (by unfold LH;rw[h8];rfl)
 |true=>
  simp only[ah,ab]
  cases h7:MX (ajv t++abb t)==0 with
  |false=>exact qb _ (by unfold LH;rw[h7,eH];rfl)
  |true=>exact qb _ (by unfold LH;rw[h7,h8];rfl)
theorem adg (t:Bytes):(xW t).1.length<=378:=by unfold xW ab5;generalize nQ t (aW (Rt t)) (aW (LH t))=s;cases ((ka s).2==0)&&((kV (ka s).1).1==t)with|false=>exact bM _|true=>exact oT _
theorem N3 (l:az aH)(m:cg)(d:Int):∀(n:Nat)(acc:az E5)(r:na),(sE l m d n acc r).1.length<=acc.length+n
 |0,acc,r=>aX _
 |n+1,acc,r=>by
  rw[sE];cases !(br l m d r).2.2|| !(cL (br l m d r).1).2;case true=>exact bM _
  cases Hj (cL (br l m d r).1).1 with|true=>simp only[af,ah,aj,bD];omega|false=>have:=N3 l m d n (acc++[(cL (br l m d r).1).1]) (br l m d r).2.1;simp only[aj,bD]at this;simp only[af];omega
theorem aa9 (h:dB r=true):dB (r.1,r.2.1,r.2.2.2,r.2.2.2)=true/\bN (r.1,r.2.1,r.2.2.2,r.2.2.2)=0:=by
 have hr:=mX h;have hq:=h;simp only[dB,ae,aG]at hq;have hu:bN (r.1,r.2.1,r.2.2.2,r.2.2.2)=0:=by unfold bN;simp only[Int.sub_self,Int.zero_emod,ite_self]
 refine⟨?_,hu⟩;simp only[dB,ae,aG,aS,hu,hq.2.1,true_and];omega
theorem LQ (l:az aH)(m:cg)(d:Int):∀(n:Nat)(acc:az E5)(r:na),dB r=true->(bN r).toNat=n->
 dB (sE l m d n acc r).2.1=true/\bN (sE l m d n acc r).2.1<=bN r/\(0<bN r->bN (sE l m d n acc r).2.1<bN r)
 |0,acc,r,hb,hu=>⟨hb,eV _,λh=>by omega⟩
 |n+1,acc,r,hb,hu=>by have hk:=Gy (l:=l) (m:=m) (d:=d) (r:=r);have he:=aa9 hb;rw[sE];cases hc: !(br l m d r).2.2|| !(cL (br l m d r).1).2 with|true=>exact⟨he.1,by show bN (r.1,r.2.1,r.2.2.2,r.2.2.2)<=_;rw[he.2];omega,λ_=>by show bN (r.1,r.2.1,r.2.2.2,r.2.2.2)<_;rw[he.2];omega⟩|false=>simp only[cn,dM]at hc;have hk:=hk hc.1;cases Hj (cL (br l m d r).1).1 with|true=>exact⟨hk.1,by show bN (br l m d r).2.1<=_;omega,λ_=>by show bN (br l m d r).2.1<_;omega⟩|false=>have:=LQ l m d n (acc++[(cL (br l m d r).1).1]) (br l m d r).2.1 hk.1 (by omega);simp only[af];exact⟨this.1,by omega,λ_=>by omega⟩
def iA (l:az aH)(m:cg)(d:Int)(r:na):na×cg×Int:=
 bif !dB r||(bN r==0) then(r,[],0) else
 bif !(dh l m d r).2.2|| !(fT (dh l m d r).1).2.2.2 then((dh l m d r).2.1,[],2) else
 bif !(lU l m d (fT (dh l m d r).1).1).2||(!(xW (lU l m d (fT (dh l m d r).1).1).1).2||((ka (xW (lU l m d (fT (dh l m d r).1).1).1).1).2 !=0)) then((dh l m d r).2.1,[],2) else
 ((dh l m d r).2.1,XX (ka (xW (lU l m d (fT (dh l m d r).1).1).1).1).1 (fT (dh l m d r).1).2.1,1)
theorem aak (l:az aH)(m:cg)(d:Int)(r:na)(hl:l.length<=10^9)(hm:m.length<=10^9):rY l m d r=some (iA l m d r):=by
 unfold rY iA;simp only[zA,BZ,ab,Q9 l m d r hl hm];cases hb:dB r;rfl;cases bN r==0;case true=>rfl
 have hu:=zN hb;have hcl:(dh l m d r).1.length<=16:=by unfold dh;cases !dB r||(bN r==0)with|true=>exact bM _|false=>have:=N3 l m d (bN r).toNat [] r;simp only[dg]at this;show(sE l m d (bN r).toNat [] r).1.length<=16;omega
 simp only[ak,af,ab,bJ];generalize dh l m d r=c at hcl⊢;cases c.2.2;rfl;simp only[ak,af,ab,cj,Ux c.1 (show c.1.length<=10^9 by omega)];have hpo:=XB (l:=c.1);generalize fT c.1=p at hpo⊢;cases hp:p.2.2.2;rfl;have hpo:=hpo hp;have Uf:=(Lk hpo.1).1;have hg:=Wf l m d p.1;simp only[ak,af,ab,cj,aag l m d p.1 hl hm (show p.1.length<=10^9 by omega) (λq hq=>Int.le_trans (hpo.2 q hq) (by omega))];generalize lU l m d p.1=g at hg⊢;cases g.2;rfl;have hf:=adg g.1;simp only[ak,af,ab,cj,adH g.1 hg];generalize xW g.1=f at hf⊢;cases f.2;rfl;simp only[ak,af,ab,cj,G1 f.1 (show f.1.length<=10^9 by omega)];generalize ka f.1=i;cases i.2 !=0;case true=>rfl
 simp only[af,ahr,ab]
theorem SB (l:az aH)(m:cg)(d:Int)(r:na): ((iA l m d r).2.2=0->(iA l m d r).1=r)/\((iA l m d r).2.2≠0->0<bN r/\dB r=true/\dB (iA l m d r).1=true/\bN (iA l m d r).1<bN r)/\(iA l m d r).2.1.length<=320/\(∀x∈(iA l m d r).2.1,x.length<=382)/\((iA l m d r).2.2=0\/(iA l m d r).2.2=1\/(iA l m d r).2.2=2):=by
 unfold iA;cases hc: !dB r||(bN r==0)with
 |true=>exact⟨λ_=>rfl,λh=>absurd rfl h,bM _,(λx hx=>by cases hx),.inl rfl⟩
 |false=>
  simp only[cn,dM,cq]at hc;have hu:=zN hc.1;have hch:dB (dh l m d r).2.1=true/\bN (dh l m d r).2.1<bN r:=by have:=LQ l m d (bN r).toNat [] r hc.1 rfl;unfold dh;rw[show(!dB r||(bN r==0))=false from by rw[hc.1];simpa using hc.2];exact⟨this.1,this.2.2 (by omega)⟩
  cases !(dh l m d r).2.2|| !(fT (dh l m d r).1).2.2.2 with|true=>exact⟨(λh=>by cases h),λ_=>⟨by omega,hc.1,hch⟩,bM _,(λx hx=>by cases hx),.inr (.inr rfl)⟩|false=>cases !(lU l m d (fT (dh l m d r).1).1).2||(!(xW (lU l m d (fT (dh l m d r).1).1).1).2||((ka (xW (lU l m d (fT (dh l m d r).1).1).1).1).2 !=0))with|true=>exact⟨(λh=>by cases h),λ_=>⟨by omega,hc.1,hch⟩,bM _,(λx hx=>by cases hx),.inr (.inr rfl)⟩|false=>have hs:=aeY (ka (xW (lU l m d (fT (dh l m d r).1).1).1).1).1 (fT (dh l m d r).1).2.1;exact⟨(λh=>by cases h),λ_=>⟨by omega,hc.1,hch⟩,hs.1,hs.2,.inr (.inl rfl)⟩
def oo (l:az aH)(m:cg)(d:Int):Nat->cg->Nat->Nat->na->na×cg×Int×Int
 |0,fr,dn,bd,r=>(r,fr,(dn:Int),(bd:Int))
 |n+1,fr,dn,bd,r=>
  bif (iA l m d r).2.2==0 then(r,fr,(dn:Int),(bd:Int)) else
  bif (iA l m d r).2.2==1 then oo l m d n (fr++(iA l m d r).2.1) (dn+1) bd (iA l m d r).1 else
  oo l m d n (fr++(iA l m d r).2.1) dn (bd+1) (iA l m d r).1
def ta (l:az aH)(m:cg)(d:Int)(r:na):na×cg×Int×Int:=oo l m d 17 [] 0 0 r
theorem Ic (l:az aH)(m:cg)(d:Int)(hl:l.length<=10^9)(hm:m.length<=10^9):∀(n:Nat)(fr:cg)(dn bd:Nat)(r:na)(f:Nat),n<f->(dB r=true->bN r<n)->0<n->fr.length+320*n<=10000->dn+bd+n<=1000->
 bp (oF (λy2 y3 y4 _ _ _ _ y9=>some (y9,y2,y3,y4)) l d ([]:cg) 0 0 m (0,0,0,0)) f (fr,(dn:Int),(bd:Int),r)=some (oo l m d n fr dn bd r)
 |0,fr,dn,bd,r,f,_,_,h0,_,_=>by omega
 |n+1,fr,dn,bd,r,0,hf,_,_,_,_=>by omega
 |n+1,fr,dn,bd,r,f+1,hf,hr,_,kB,hc=>by have ok:=SB l m d r;rw[bp,oo];simp only[oF,aak l m d r hl hm,ab];generalize iA l m d r=x at ok⊢;cases h0:x.2.2==0 with|true=>simp only[ah,ok.1 (by simpa using h0)]|false=>have hk:=ok.2.1 (by simpa using h0);have hu:=hr hk.2.1;have hu2:=(zN hk.2.2.1).1;simp only[af];cases x.2.2==1 with|true=>simp only[ah];rw[bf,al];exact Ic l m d hl hm n _ (dn+1) bd _ f (by omega) (λ_=>by omega) (by omega) (by rw[aj];omega) (by omega)|false=>simp only[af];rw[bf,al];exact Ic l m d hl hm n _ dn (bd+1) _ f (by omega) (λ_=>by omega) (by omega) (by rw[aj];omega) (by omega)
theorem adY (l:az aH)(m:cg)(d:Int)(r:na)(hl:l.length<=10^9)(hm:m.length<=10^9):tF l m d r=some (ta l m d r):=by have C9:=eR;unfold tF;exact Ic l m d hl hm 17 [] 0 0 r fuel (by omega) (λh=>by have:=(zN h).2;omega) (by omega) (by simp) (by omega)
theorem Hg (l:az aH)(m:cg)(d:Int):∀(n:Nat)(fr:cg)(dn bd:Nat)(r:na),(∀x∈fr,x.length<=382)->
 (oo l m d n fr dn bd r).2.1.length<=fr.length+320*n/\(∀x∈(oo l m d n fr dn bd r).2.1,x.length<=382)/\0<=(oo l m d n fr dn bd r).2.2.1/\(oo l m d n fr dn bd r).2.2.1<=(dn+n:Nat)/\0<=(oo l m d n fr dn bd r).2.2.2/\(oo l m d n fr dn bd r).2.2.2<=(bd+n:Nat)
 |0,fr,dn,bd,r,h=>⟨aX _,h,by show(0:Int)<=(dn:Int);omega,by show(dn:Int)<=_;omega,by show(0:Int)<=(bd:Int);omega,by show(bd:Int)<=_;omega⟩
 |n+1,fr,dn,bd,r,h=>by
  have ok:=SB l m d r;rw[oo];generalize iA l m d r=x at ok⊢;have h2:∀y∈fr++x.2.1,y.length<=382:=λy hy=>by rcases ay.1 hy with g|g;exact h y g;exact ok.2.2.2.1 y g
  cases x.2.2==0 with|true=>exact⟨by show fr.length<=_;omega,h,by show(0:Int)<=(dn:Int);omega,by show(dn:Int)<=_;omega,by show(0:Int)<=(bd:Int);omega,by show(bd:Int)<=_;omega⟩|false=>cases x.2.2==1 with|true=>have i:=Hg l m d n (fr++x.2.1) (dn+1) bd x.1 h2;rw[aj]at i;simp only[af,ah];exact⟨by omega,i.2.1,i.2.2.1,by omega,i.2.2.2.2.1,by omega⟩|false=>have i:=Hg l m d n (fr++x.2.1) dn (bd+1) x.1 h2;rw[aj]at i;simp only[af,ah];exact⟨by omega,i.2.1,i.2.2.1,by omega,i.2.2.2.2.1,by omega⟩
structure CZ (n:Nat) (h:Host):Prop where
 z:dC n eG h
 t:h.2.2.1.2.1.2.2.2.length+(bG h.2.2.1.2.2.1).length<=n
theorem CZ.mono {m:Nat}(k:CZ n h)(hn:n<=m:=by omega):CZ m h:=⟨k.z.mono hn,bH k.t hn⟩
theorem CZ.sz (k:CZ n h)(hn:n<=10^9):HR h:=by have z:dC 1000000000 eG h:=k.z.mono hn;exact⟨z.1.1,z.2.1.1,z.2.2.1.2.2.1.1,bH k.t hn,z.2.2.2.2.2.2.2.1.2.2.1,z.2.2.2.2.2.2.2.2.1.1.1,z.2.2.2.2.2.2.2.2.1.2.1.1,z.2.2.2.2.2.2.2.2.1.2.2.2.1,λp hp=>(z.2.2.2.2.1.2 p hp).2.2.2.1⟩
theorem CZ.of (k:YL eG h<=1048576):CZ 1048576 h:=by
 refine⟨NG k,?_⟩;have hb:=abP h.2.2.1.2.2.1;have h1:YL ns h.2.2.1<=YL eG h:=by simp only[YL];omega
 have hp:h.2.2.1.2.1.2.2.2.length+YL (.sl kX) h.2.2.1.2.2.1<=YL ns h.2.2.1:=by simp only[YL];omega
 omega
def ou (p:dy):az pS->dy
 |[]=>p
 |x::l=>ou (Ad p x.2.2).1 l
theorem KM:∀(l:az pS)(p:dy),(ou p l).2.2.2.length<=p.2.2.2.length+(bG l).length
 |[],p=>by simp[ou]
 |x::l,p=>by have h1:=Wi p x.2.2;have h2:=KM l (Ad p x.2.2).1;simp only[ou,bG,List.flatMap_cons,aj]at h2⊢;omega
theorem R6:∀(l:az pS)(p:dy)(x:pS),ou p (l++[x])=(Ad (ou p l) x.2.2).1
 |[],p,x=>rfl
 |y::l,p,x=>by rw[ik,ou,ou,R6 l]
theorem VI (a b:az pS):(bG (a++b)).length=(bG a).length+(bG b).length:=by simp only[bG,List.flatMap_append,aj]
theorem VJ (l:az pS)(n:Nat):(bG (l.take n)).length+(bG (l.drop n)).length=(bG l).length:=by rw[<-VI,cC]
def mu (t:dN)(n:Int):dN×dA:=
 bif MQ t&&dD n 0 (t.2.2.1.length:Int) then((t.1,ou t.2.1 (t.2.2.1.take n.toNat),t.2.2.1.drop n.toNat,t.2.2.2),(t.2.2.1.take n.toNat).map (·.1)) else(t,[])
theorem aka {l:az pS}(h:(bG l).length<=10^9):∀x∈l,x.2.2.length<=10^9:=by intro x hx;induction l with|nil=>cases hx|cons y l ih=>simp only[bG,List.flatMap_cons,aj]at h;rcases cD.1 hx with rfl|g;omega;exact ih (by simp only[bG];omega) g
theorem Us (t:dN)(n:Int)(hw:t.2.2.1.length<=10^9)(hs:t.2.1.2.2.2.length+(bG t.2.2.1).length<=10^9):nE t n=some (mu t n):=by
 have hx:=aka (l:=t.2.2.1) (by omega);unfold nE mu;rw[Ia t ⟨by omega,hw,hx⟩,ab,aao t hw hs];simp only[ab,dE];cases MQ t;rfl;cases hn:dD n 0 (t.2.2.1.length:Int);rfl;have h:=aS.1 hn;obtain⟨n,rfl⟩:=aA h.1;have hl:n<=t.2.2.1.length:=by omega
 simp only[ak,af,ab,cK,ah,ax];rw[Br,ab,ax];have htl:(t.2.2.1.take n).length=n:=by rw[aY];omega
 rw[htl];refine fe (λi=>(((t.2.2.1.take i).map (·.1),(i:Int),t.1,ou t.2.1 (t.2.2.1.take i),t.2.2):dA×Int×dN)) n (by omega) (λi nx hi=>?_) (λnx=>?_);have hi2:i<(t.2.2.1.take n).length:=by omega
 have hi3:i<t.2.2.1.length:=by omega
 have e1:(t.2.2.1.take n)[i]=t.2.2.1[i]:=List.getElem_take ..;have g1:=KM (t.2.2.1.take i) t.2.1;have g2:=VJ t.2.2.1 (i+1);have g3:(bG (t.2.2.1.take (i+1))).length=(bG (t.2.2.1.take i)).length+t.2.2.1[i].2.2.length:=by rw[bZ hi3,VI];simp[bG]
 simp only[lg];rw[lH,ah,bK hi2,e1,ab,Pa _ _ (by omega),ab,bf (by simp only[cz,aY,bD];omega),al,bZ hi3,R6,cu];rfl;simp only[lg];rw[dw,af,vB (l:=t.2.2.1) n hl rfl,ab,Jj _ (by rw[aP];omega) (λx BE=>hx x (List.mem_of_mem_drop BE)),ab]
theorem RM (n:Int):∀l:az pS,l.all (kF n)=true->(l.length:Int)<=dT l
 |[],_=>by simp[dT]
 |x::l,h=>by simp only[cw,ae]at h;have:=RM n l h.2;have hx:=h.1;unfold kF at hx;simp only[ae,aS]at hx;simp only[dT,cS,gv,aV]at this⊢;omega
theorem Ix {t:dN}(h:MQ t=true):t.2.2.1.length<=16:=by unfold MQ at h;simp only[ae,aG]at h;have h1:=RM _ _ h.2.2.2.1;have h2:=(mX h.1).2.2.1;have h3:=h.2.2.2.2.2;omega
theorem IU {t:dN}(n:Int)(z:dC k ns t)(hs:t.2.1.2.2.2.length+(bG t.2.2.1).length<=k): dC k ns (mu t n).1/\(mu t n).1.2.1.2.2.2.length+(bG (mu t n).1.2.2.1).length<=k/\(mu t n).2.length<=16:=by unfold mu;cases h:MQ t&&dD n 0 (t.2.2.1.length:Int)with|false=>exact⟨z,hs,bM _⟩|true=>simp only[ae]at h;have Uf:=Ix h.1;have g1:=KM (t.2.2.1.take n.toNat) t.2.1;have g2:=VJ t.2.2.1 n.toNat;have hw:t.2.2.1.length<=k:=z.2.2.1.1;refine⟨⟨z.1,⟨cM,cM,cM,?_,λ_ _=>trivial⟩,⟨?_,λx hx=>z.2.2.1.2 x (List.mem_of_mem_drop hx)⟩,z.2.2.2⟩,?_,?_⟩;show(ou t.2.1 (t.2.2.1.take n.toNat)).2.2.2.length<=k;omega;show(t.2.2.1.drop n.toNat).length<=k;rw[aP];omega;show(ou t.2.1 (t.2.2.1.take n.toNat)).2.2.2.length+(bG (t.2.2.1.drop n.toNat)).length<=k;omega;show((t.2.2.1.take n.toNat).map (·.1)).length<=16;rw[cz,aY];omega
theorem K1 {t:CT}{l q:az t.D}(z:dC n (.sl t) l)(hq:∀y∈q,dC n t y)(hk:q.length<=k):dC (n+k) (.sl t) (l++q):=by refine⟨?_,λy hy=>?_⟩;show(l++q).length<=n+k;have:=z.1;rw[aj];omega;rcases ay.1 hy with h|h;exact(z.2 y h).mono;exact(hq y h).mono
def dv (h:Host):Host:=bif fb h then
    (h.1,h.2.1,(mu ((ta h.2.1 h.1 0 h.2.2.1.1).1,h.2.2.1.2) (if(h.2.2.1.2.2.1.length:Int)<ar ((ta h.2.1 h.1 0 h.2.2.1.1).2.2.1+(ta h.2.1 h.1 0 h.2.2.1.1).2.2.2) then(h.2.2.1.2.2.1.length:Int) else ar ((ta h.2.1 h.1 0 h.2.2.1.1).2.2.1+(ta h.2.1 h.1 0 h.2.2.1.1).2.2.2))).1,
      h.2.2.2.1,h.2.2.2.2.1,h.2.2.2.2.2.1,h.2.2.2.2.2.2.1,h.2.2.2.2.2.2.2.1,h.2.2.2.2.2.2.2.2.1,h.2.2.2.2.2.2.2.2.2.1,h.2.2.2.2.2.2.2.2.2.2.1,h.2.2.2.2.2.2.2.2.2.2.2.1++(ta h.2.1 h.1 0 h.2.2.1.1).2.1,
      h.2.2.2.2.2.2.2.2.2.2.2.2.1++(mu ((ta h.2.1 h.1 0 h.2.2.1.1).1,h.2.2.1.2) (if(h.2.2.1.2.2.1.length:Int)<ar ((ta h.2.1 h.1 0 h.2.2.1.1).2.2.1+(ta h.2.1 h.1 0 h.2.2.1.1).2.2.2) then(h.2.2.1.2.2.1.length:Int) else ar ((ta h.2.1 h.1 0 h.2.2.1.1).2.2.1+(ta h.2.1 h.1 0 h.2.2.1.1).2.2.2))).2,h.2.2.2.2.2.2.2.2.2.2.2.2.2) else h
theorem Jv (h:Host)(k:CZ 900000000 h):nI h=some (dv h):=by have z:dC 1000000000 eG h:=k.z.mono;have hz:=k.sz (by omega);have hm:h.1.length<=900000000:=k.z.1.1;have hl:h.2.1.length<=900000000:=k.z.2.1.1;have hw:h.2.2.1.2.2.1.length<=900000000:=k.z.2.2.1.2.2.1.1;have hwi:h.2.2.2.2.2.2.2.2.2.2.2.1.length<=900000000:=k.z.2.2.2.2.2.2.2.2.2.2.2.1.1;have hco:h.2.2.2.2.2.2.2.2.2.2.2.2.1.length<=900000000:=k.z.2.2.2.2.2.2.2.2.2.2.2.2.1.1;have hA:=Hg h.2.1 h.1 0 17 [] 0 0 h.2.2.1.1 (λx hx=>by cases hx);unfold nI dv;rw[nD h z,ab,wH h hz,ab];cases fb h;rfl;simp only[ak,af,ah,adY h.2.1 h.1 0 _ (show h.2.1.length<=10^9 by omega) (show h.1.length<=10^9 by omega),ab];rw[show oo h.2.1 h.1 0 17 [] 0 0 h.2.2.1.1=ta h.2.1 h.1 0 h.2.2.1.1 from rfl]at hA;generalize ta h.2.1 h.1 0 h.2.2.1.1=x at hA⊢;simp only[dg]at hA;have hC:=IU (k:=900000000) (t:=(x.1,h.2.2.1.2)) (if(h.2.2.1.2.2.1.length:Int)<ar (x.2.2.1+x.2.2.2) then(h.2.2.1.2.2.1.length:Int) else ar (x.2.2.1+x.2.2.2)) ⟨⟨cM,cM,cM,cM⟩,k.z.2.2.1.2⟩ k.t;rw[bf,Us (x.1,h.2.2.1.2) _ (by show h.2.2.1.2.2.1.length<=_;omega) (bH k.t (by omega)),ab,bf]
theorem E1 (hn:400<=n)(k:CZ n h):CZ (n+5440) (dv h):=by have k':CZ (n+5440) h:=k.mono;have hA:=Hg h.2.1 h.1 0 17 [] 0 0 h.2.2.1.1 (λx hx=>by cases hx);unfold dv;cases fb h;exact k';rw[show oo h.2.1 h.1 0 17 [] 0 0 h.2.2.1.1=ta h.2.1 h.1 0 h.2.2.1.1 from rfl]at hA;generalize ta h.2.1 h.1 0 h.2.2.1.1=x at hA⊢;simp only[dg]at hA;generalize (if(h.2.2.1.2.2.1.length:Int)<ar (x.2.2.1+x.2.2.2) then(h.2.2.1.2.2.1.length:Int) else ar (x.2.2.1+x.2.2.2))=q;have hC:=IU (k:=n) (t:=(x.1,h.2.2.1.2)) q ⟨⟨cM,cM,cM,cM⟩,k.z.2.2.1.2⟩ k.t;have z:=k'.z;refine⟨⟨z.1,z.2.1,hC.1.mono,z.2.2.2.1,z.2.2.2.2.1,z.2.2.2.2.2.1,z.2.2.2.2.2.2.1,z.2.2.2.2.2.2.2.1,z.2.2.2.2.2.2.2.2.1,z.2.2.2.2.2.2.2.2.2.1,cM,?_,?_,z.2.2.2.2.2.2.2.2.2.2.2.2.2⟩,bH hC.2.1 (by omega)⟩;exact K1 (t:=.str) (n:=n) (k:=5440) k.z.2.2.2.2.2.2.2.2.2.2.2.1 (λy hy=>by show y.length<=_;have:=hA.2.1 y hy;omega) (by omega);exact(K1 (t:=.int .i64) (n:=n) (k:=16) k.z.2.2.2.2.2.2.2.2.2.2.2.2.1 (λ_ _=>trivial) hC.2.2).mono
def evS (k:Nat)(h:Host):Host:=
 match h.2.2.2.2.2.1[k]? with
 |some v=>(h.1,h.2.1,h.2.2.1,h.2.2.2.1,h.2.2.2.2.1,h.2.2.2.2.2.1.set k (evV v),h.2.2.2.2.2.2)
 |none=>h
def ZP (k:Nat):Nat->Host->Host
 |0,h=>h
 |i+1,h=>evS k (ZP k i h)
theorem agJ (k:Nat)(h:Host):mG (k+1) h (evS k h):=by unfold evS;cases h.2.2.2.2.2.1[k]? with|none=>exact mG.refl _ _|some v=>exact⟨rfl,rfl,rfl,rfl,λ_ _=>rfl,rfl,aD ..,λj hj=>aF (by omega),rfl,rfl,rfl⟩
theorem Oq (k:Nat)(h:Host):∀i,mG (k+1) h (ZP k i h)
 |0=>mG.refl _ _
 |i+1=>(Oq k h i).trans (agJ k _)
theorem ajp (k:Nat)(z:dC n eG h):dC n eG (evS k h):=by unfold evS;cases h.2.2.2.2.2.1[k]? with|none=>exact z|some v=>exact⟨z.1,z.2.1,z.2.2.1,z.2.2.2.1,z.2.2.2.2.1,NK z.2.2.2.2.2.1,z.2.2.2.2.2.2⟩
theorem ab1 (k:Nat)(z:dC n eG h):∀i,dC n eG (ZP k i h)
 |0=>z
 |i+1=>ajp k (ab1 k z i)
theorem aab (h:Host)(k:Nat)(b:Int)(h1:k<h.2.2.2.1.length)(h2:k<h.2.2.2.2.2.1.length)(hq:gD h.2.2.2.1[k].2.1=true)(hb:0<=b/\b<=31):mP h (k:Int) b=some ((),ZP k ((h.2.2.2.1[k].2.1.2.2-b)%(2*h.2.2.2.1[k].2.1.2.1)).toNat h):=by
 have C9:=eR;have q:=xk hq;unfold mP;rw[bK h1,ab];generalize h.2.2.2.1[k]=x at q⊢;rw[al (n:=x.2.1.2.2-b),al (n:=2*x.2.1.2.1),K7 _ _,ab];have hm:0<=(x.2.1.2.2-b)%(2*x.2.1.2.1)/\(x.2.1.2.2-b)%(2*x.2.1.2.1)<32:=by have g1:=fV (x.2.1.2.2-b) (show 2*x.2.1.2.1≠0 by omega);have g2:=fY (x.2.1.2.2-b) (show 0<2*x.2.1.2.1 by omega);omega
 generalize (x.2.1.2.2-b)%(2*x.2.1.2.1)=c at hm⊢;obtain⟨c,rfl⟩:=aA hm.1;rw[ax];have e0:((c:Int),h)=(((c:Int)-((0:Nat):Int)),ZP k 0 h):=by simp[ZP]
 rw[e0];refine fe (λi=>((c:Int)-(i:Int),ZP k i h)) c (by omega) (λi nx hi=>?_) (λnx=>?_);have kk:=Oq k h i;have i1:k<(ZP k i h).2.2.2.2.2.1.length:=by rw[kk.vec];exact h2
 rw[show ZP k (i+1) h=evS k (ZP k i h) from rfl];generalize ZP k i h=s at i1⊢;simp only[rZ,evS];rw[lH,ah,aq i1];simp only[bK i1,ab,adC,ax];rw[al,show(c:Int)-(i:Int)-1=(c:Int)-((i+1:Nat):Int) by omega];simp only[rZ];rw[dw,af]
def DX (h:Host)(k:Nat)(f:cg×bt):Host:=(f.1,h.2.1,h.2.2.1,h.2.2.2.1.set k f.2,h.2.2.2.2)
def uq (h:Host)(k:Nat)(b:Int)(f:cg×bt):Host:=ZP k ((f.2.2.1.2.2-b)%(2*f.2.2.1.2.1)).toNat (DX h k f)
def fC (k:Nat)(h:Host):Host:=
 match h.2.2.2.1[k]? with
 |some x=>uq h k x.2.1.2.2 (fX h.2.1 h.1 0 x h.2.2.2.2.2.2.2.2.1.2.2.1)
 |none=>h
theorem CX {b:Int}(hf:f.1.length=h.1.length):mG (k+1) h (uq h k b f):=by
 have a:mG (k+1) h (DX h k f):=⟨hf,rfl,rfl,aD ..,λj hj=>aF (by omega),rfl,rfl,λ_ _=>rfl,rfl,rfl,rfl⟩
 exact a.trans (Oq k (DX h k f) _)
theorem QF {b:Int}(z:dC n eG h)(h1:dC n (.sl .str) f.1)(h2:dC n eS f.2):dC n eG (uq h k b f):=by
 have a:dC n eG (DX h k f):=⟨h1,z.2.1,z.2.2.1,qN z.2.2.2.1 h2,z.2.2.2.2⟩
 exact ab1 k a _
theorem Wa {k:Bytes}:(fX l m d q k).1.length=m.length:=by
 have hs:(gF l m d q k (br l m d q.1).1).1.length=m.length:=by
  unfold gF;cases !(cL (br l m d q.1).1).2||(((cL (br l m d q.1).1).1.1 !=3)||decide ((cL (br l m d q.1).1).1.2.2.1<((cV q.2.2.2.1.1).1.length:Int)));case true=>rfl
  cases (hZ l m d (cL (br l m d q.1).1).1.2.2.2.1 (cV q.2.2.2.1.1).1 true).2;rfl;have h2:=lN l m d (cL (br l m d q.1).1).1.2.2.2.1 (cV q.2.2.2.1.1).1 true;simp only[af,ak];unfold sS;cases !gD q.2.1|| !rD ((cL (br l m d q.1).1).1.2.2.2.2.2,((cV q.2.2.2.1.1).1.length:Int),q.2.2.2.1.2.1,q.2.2.2.1.2.2,qG k (ng (dP q.2.2.2.1.1)));case true=>exact h2
  cases (hZ l (hZ l m d (cL (br l m d q.1).1).1.2.2.2.1 (cV q.2.2.2.1.1).1 true).1 d (sV q.2.1) (I1 ((cL (br l m d q.1).1).1.2.2.2.2.2,((cV q.2.2.2.1.1).1.length:Int),q.2.2.2.1.2.1,q.2.2.2.1.2.2,qG k (ng (dP q.2.2.2.1.1))) (Aj q.2.1)) true).2 with|false=>exact h2|true=>exact(lN ..).trans h2
 unfold fX;cases !BK q||(!q.2.2.2.2.1||((k.length:Int) !=16));case true=>rfl
 cases (br l m d q.1).2.2&&(gF l m d q k (br l m d q.1).1).2.2 with|true=>exact hs|false=>rfl
theorem pX (k:Nat)(h:Host):mG (k+1) h (fC k h):=by unfold fC;cases h.2.2.2.1[k]? with|none=>exact mG.refl _ _|some x=>exact CX Wa
theorem OG (k:Nat)(h:Host)(n:Nat)(hn:1000<=n)(z:dC n eG h):dC (n+0) eG (fC k h):=by unfold fC;cases hx:h.2.2.2.1[k]? with|none=>exact z|some x=>have hf:=GR (show 128<=n by omega) (l:=h.2.1) (d:=0) (k:=h.2.2.2.2.2.2.2.2.1.2.2.1) z.1 (z.2.2.2.1.2 _ (aQ hx));exact QF z hf.1 hf.2.2.1
def ko (h:Host):Host:=bif fb h then eQ fC h.2.2.2.1.length h else h
theorem KI (hn:1000<=n)(k:CZ n h):CZ n (ko h):=by unfold ko;cases fb h with|false=>exact k|true=>refine⟨(EV hn OG k.z _).mono,?_⟩;simp only[ah];rw[(pP pX h _).tx];exact k.t
theorem H8 (hb:fb h=true):∀i (hi:i<h.2.2.2.1.length),BK h.2.2.2.1[i]=true:=by simp only[fb,S0,ae]at hb;exact λi hi=>aL.1 hb.2.2.2.2.2.2.1.1 _ (bF hi)
theorem MS {b:Int}(h1:k<h.2.2.2.1.length)(h2:k<h.2.2.2.2.2.1.length)(hq:gD f.2.2.1=true)(hb:0<=b/\b<=31:=by omega): mP (f.1,h.2.1,h.2.2.1,h.2.2.2.1.set k f.2,h.2.2.2.2) (k:Int) b=some ((),uq h k b f):=by
 have h3:k<(DX h k f).2.2.2.1.length:=by show k<(h.2.2.2.1.set k f.2).length;rw[aD];exact h1
 have e:(DX h k f).2.2.2.1[k]=f.2:=List.getElem_set_self _;have a:=aab (DX h k f) k b h3 h2 (by rw[e];exact hq) hb;rw[e]at a;exact a
theorem O9 (h:Host)(k:CZ 900000000 h):sJ h=some (ko h):=by
 have C9:=eR;unfold sJ ko;rw[nD h (k.z.mono),ab,wH h (k.sz (by omega)),ab];cases hb:fb h;rfl;have hl:=nM (by simp only[fb,ae]at hb;exact hb.2.2.2.2.1:po h=true);have hr:=H8 hb;simp only[ak,af,ah];refine fe (λi=>((i:Int),eQ fC i h)) h.2.2.2.1.length (by omega) (λi nx hi=>?_) (λnx=>?_);have kk:=pP pX h i;have zz:dC 900000000 eG (eQ fC i h):=(EV (by omega) OG k.z i).mono;have i1:i<(eQ fC i h).2.2.2.1.length:=by rw[kk.rx];exact hi
 have i2:i<(eQ fC i h).2.2.2.2.2.1.length:=by rw[kk.vec];omega
 have e1:(eQ fC i h).2.2.2.1[i]=h.2.2.2.1[i]:=by have:=kk.rxs i (aX _);rw[aq i1,aq hi]at this;exact bQ this
 rw[show eQ fC (i+1) h=fC i (eQ fC i h) from rfl];generalize eQ fC i h=s at zz i1 i2 e1⊢;have z1:s.1.length<=900000000:=zz.1.1;have z2:s.2.1.length<=900000000:=zz.2.1.1;have hrx:=hr i hi;rw[<-e1]at hrx;have hqd:=xk (D0 hrx).1;have hf:=GR (show 128<=900000000 by omega) (l:=s.2.1) (d:=0) (k:=s.2.2.2.2.2.2.2.2.1.2.2.1) zz.1 (zz.2.2.2.1.2 _ (bF i1));have ev:=MS (h:=s) (k:=i) (b:=s.2.2.2.1[i].2.1.2.2) (f:=fX s.2.1 s.1 0 s.2.2.2.1[i] s.2.2.2.2.2.2.2.2.1.2.2.1) i1 i2 (hf.2.2.2 hrx).1;simp only[rR,fC];rw[lH,ah,aq i1];simp only[bK i1,bK hi,ab,KU s.2.1 s.1 0 _ _ (show s.2.1.length<=10^9 by omega) (show s.1.length<=10^9 by omega),ax,<-e1,ev];rw[al];rfl;simp only[rR];rw[dw,af]
def SM (a b:aM):Bool:=(a.1==b.1)&&((a.2.1==b.2.1)&&((a.2.2.1==b.2.2.1)&&((a.2.2.2.1==b.2.2.2.1)&&((a.2.2.2.2.2.1==b.2.2.2.2.2.1)&&((a.2.2.2.2.2.2.1==b.2.2.2.2.2.2.1)&&((a.2.2.2.2.2.2.2.1==b.2.2.2.2.2.2.2.1)&&((a.2.2.2.2.2.2.2.2.1==b.2.2.2.2.2.2.2.2.1)&&((a.2.2.2.2.2.2.2.2.2.1==b.2.2.2.2.2.2.2.2.2.1)&&((a.2.2.2.2.2.2.2.2.2.2.1==b.2.2.2.2.2.2.2.2.2.2.1)&&((a.2.2.2.2.2.2.2.2.2.2.2.2.1==b.2.2.2.2.2.2.2.2.2.2.2.2.1)&&((a.2.2.2.2.2.2.2.2.2.2.2.2.2.2.1==b.2.2.2.2.2.2.2.2.2.2.2.2.2.2.1))))))))))))
theorem ahn (a b:aM):yL a b=some (SM a b):=by unfold yL SM;simp only[fN,bC,iI]
def akb (s:nr)(p:aM):Bool:=(p.2.2.2.2.2.2.2.2.2.2.2.1==tmod (ar (s.1.2.2.2.2.2.2.2.2.2.2.2.1+(s.1.2.2.2.2.2.2.2.2.2.2.2.2.2.2.2.length:Int))) 4294967296)&&(p.2.2.2.2.1==tmod (ar (s.1.2.2.2.2.1+s.2.2)) 65536)
def X1 (s:nr)(p:aM):Bool:=decide (1<=s.2.1)&&(dD s.2.2 1 320&&(decide ((s.1.2.2.2.2.2.2.2.2.2.2.2.2.2.2.2.length:Int)=s.2.1*s.2.2)&&(dD (p.2.2.2.2.2.2.2.2.2.2.2.2.2.2.2.length:Int) 1 s.2.1&&decide ((s.1.2.2.2.2.2.2.2.2.2.2.2.2.2.2.2.length:Int)+(p.2.2.2.2.2.2.2.2.2.2.2.2.2.2.2.length:Int)<=320))))
def acb (s:nr)(p:aM):Bool:=cH s.1&&(gb p&&(SM s.1 p&&((p.2.2.2.2.2.2.2.2.1==6)&&((s.1.2.2.2.2.2.2.2.2.2.2.2.2.2.1==16)&&BR p.2.2.2.2.2.2.2.2.2.2.2.2.2.1))))
def Fs (s:nr)(p:aM):Bool:=acb s p&&(X1 s p&&akb s p)
theorem JR (h:gb p=true)(h6:(p.2.2.2.2.2.2.2.2.1==6)=true):dD p.2.2.2.2.2.2.2.2.2.2.2.2.2.1 0 31=true:=by simp only[gb,cH,ae]at h;exact G7 (wE h.1.1) h6
theorem Im (h:gb p=true):p.2.2.2.2.2.2.2.2.2.2.2.2.2.2.2.length<=128:=by simp only[gb,ae,aG]at h;omega
theorem acg (s:nr)(p:aM):wK s p=some (Fs s p):=by
 unfold wK Fs acb;rw[rm,ab,Eu,ab,ahn,ab];cases hs:cH s.1;rfl;cases hp:gb p;rfl;cases SM s.1 p;rfl;cases h6:p.2.2.2.2.2.2.2.2.1==6 with|false=>simp only[bne,h6];rfl|true=>?_
 cases Uf:s.1.2.2.2.2.2.2.2.2.2.2.2.2.2.1==16 with|false=>simp only[bne,h6,Uf];rfl|true=>?_
 have hf:=JR hp h6;have hsl:=EX hs;have Er:=Im hp;simp only[bne,h6,Uf,ak,af,ab,OA _ hf,bC];cases BR p.2.2.2.2.2.2.2.2.2.2.2.2.2.1;rfl;simp only[ak,af,dE,ab,bC];rw[aI (show¬(4294967296:Nat)=0 by omega),aI (show¬(65536:Nat)=0 by omega)];simp only[cb,cF];rw[show((p.2.2.2.2.2.2.2.2.2.2.2.1==tmod (ar (s.1.2.2.2.2.2.2.2.2.2.2.2.1+(s.1.2.2.2.2.2.2.2.2.2.2.2.2.2.2.2.length:Int))) 4294967296)&&(p.2.2.2.2.1==tmod (ar (s.1.2.2.2.2.1+s.2.2)) 65536))=akb s p from rfl];unfold X1;generalize akb s p=q;generalize s.1.2.2.2.2.2.2.2.2.2.2.2.2.2.2.2.length=n at hsl⊢;generalize p.2.2.2.2.2.2.2.2.2.2.2.2.2.2.2.length=m at Er⊢;rw[al (n:=(n:Int)+(m:Int))];by_cases h1:s.2.1<1;rw[aw h1,au (show¬1<=s.2.1 by omega)];rfl;rw[au h1,aw (show 1<=s.2.1 by omega)];cases h2:dD s.2.2 1 320;rfl;have Vp:=aS.1 h2;simp only[ak,af,ab,bC];rw[kz,kz];have e1:tmod (n:Int) s.2.2=(n:Int)%s.2.2:=cZ (by omega);have e2:Int.tdiv (n:Int) s.2.2=(n:Int)/s.2.2:=Int.tdiv_eq_ediv_of_nonneg (by omega);have hdm:=Int.emod_add_mul_ediv (n:Int) s.2.2;have hq0:0<=(n:Int)/s.2.2:=Int.ediv_nonneg (by omega) (by omega);have hq1:(n:Int)/s.2.2<=(n:Int):=Int.ediv_le_self _ (by omega);rw[e1,e2,al (n:=(n:Int)/s.2.2)];by_cases h3:(n:Int)=s.2.1*s.2.2;have h4:(n:Int)%s.2.2=0:=by rw[h3];exact Int.mul_emod_left ..
 have h5:(n:Int)/s.2.2=s.2.1:=by rw[h3];exact Int.mul_ediv_cancel _ (by omega)
 rw[h4,h5,aw h3];simp only[fN,ak,af,ab,bC];cases dD (m:Int) 1 s.2.1;rfl;cases decide ((n:Int)+(m:Int)<=320)<;>rfl;rw[au h3];cases h4:(n:Int)%s.2.2==0 with
 |false=>rfl
 |true=>
  have h4':(n:Int)%s.2.2=0:=by simpa using h4
  have h5:((n:Int)/s.2.2==s.2.1)=false:=by rw[cq];intro h5;rw[h4',h5]at hdm;exact h3 (by rw[Int.mul_comm];omega)
  simp only[ak,af,h5,cl,ab,ah];rfl
def ue (s:nr)(p:aM):nr:=bif Fs s p then((s.1.1,s.1.2.1,s.1.2.2.1,s.1.2.2.2.1,s.1.2.2.2.2.1,s.1.2.2.2.2.2.1,s.1.2.2.2.2.2.2.1,s.1.2.2.2.2.2.2.2.1,s.1.2.2.2.2.2.2.2.2.1,s.1.2.2.2.2.2.2.2.2.2.1,s.1.2.2.2.2.2.2.2.2.2.2.1,s.1.2.2.2.2.2.2.2.2.2.2.2.1,s.1.2.2.2.2.2.2.2.2.2.2.2.2.1,p.2.2.2.2.2.2.2.2.2.2.2.2.2.1,s.1.2.2.2.2.2.2.2.2.2.2.2.2.2.2.1,s.1.2.2.2.2.2.2.2.2.2.2.2.2.2.2.2++p.2.2.2.2.2.2.2.2.2.2.2.2.2.2.2),s.2.1,ar (s.2.2+1)) else s
theorem TD {s:nr}(h:Fs s p=true):s.1.2.2.2.2.2.2.2.2.2.2.2.2.2.2.2.length+p.2.2.2.2.2.2.2.2.2.2.2.2.2.2.2.length<=320:=by simp only[Fs,X1,ae,aG]at h;have:=h.2.1.2.2.2.2;omega
theorem ahm (s:nr)(p:aM):G2 s p=some (ue s p):=by unfold G2 ue;rw[acg,ab];cases h:Fs s p;rfl;have:=TD h;simp only[ak,af,ah];rw[bf]
def jc (p:aM):nr:=(p,(p.2.2.2.2.2.2.2.2.2.2.2.2.2.2.2.length:Int),1)
theorem aam (p:aM):F6 p=some (jc p):=rfl
def DG (q:bt)(s:nr):bt:=(q.1,q.2.1,q.2.2.1,s,true,q.2.2.2.2.2)
def je (l:az aH)(m:cg)(d:Int)(q:bt)(k:Bytes)(p:aM)(c:Bool):cg×bt:=
 bif !BK q||(!gb p||((k.length:Int) !=16)) then(m,q) else
 bif c&&(q.2.2.2.2.1&&Fs q.2.2.2.1 p) then(m,q.1,q.2.1,q.2.2.1,ue q.2.2.2.1 p,q.2.2.2.2) else
 bif c then((fX l m d q k).1,DG (fX l m d q k).2 (jc p)) else fX l (fX l m d q k).1 d (DG (fX l m d q k).2 (jc p)) k
theorem aac (l:az aH)(m:cg)(d:Int)(q:bt)(k:Bytes)(p:aM)(c:Bool)(hl:l.length<=10^9)(hm:m.length<=10^9):qm l m d q k p c=some (je l m d q k p c):=by
 unfold qm je DG;simp only[Pd,Eu,ab,ia m (show m.length<=1073741824 by omega),acg,ahm,KU l m d q k hl hm,aam,KU l (fX l m d q k).1 d _ k hl (show(fX l m d q k).1.length<=10^9 by rw[Wa];exact hm)];cases BK q;rfl;cases gb p;rfl;cases (k.length:Int) !=16;case true=>rfl
 cases c;rfl;cases q.2.2.2.2.1;rfl;cases Fs q.2.2.2.1 p<;>rfl
theorem Wb {k:Bytes}(h:gD q.2.1=true):gD (fX l m d q k).2.2.1=true:=by
 unfold fX;cases !BK q||(!q.2.2.2.2.1||((k.length:Int) !=16));case true=>exact h
 have hs:gD (gF l m d q k (br l m d q.1).1).2.1=true:=by
  unfold gF;cases !(cL (br l m d q.1).1).2||(((cL (br l m d q.1).1).1.1 !=3)||decide ((cL (br l m d q.1).1).1.2.2.1<((cV q.2.2.2.1.1).1.length:Int)));case true=>exact h
  cases (hZ l m d (cL (br l m d q.1).1).1.2.2.2.1 (cV q.2.2.2.1.1).1 true).2;exact h;exact(acz h).1
 cases (br l m d q.1).2.2&&(gF l m d q k (br l m d q.1).1).2.2 with|true=>exact hs|false=>exact h
theorem adu {s:nr}(h:s.1.2.2.2.2.2.2.2.2.2.2.2.2.2.2.2.length<=n):dC n eS (DG q s):=⟨⟨cM,cM,cM,cM⟩,⟨cM,cM,cM⟩,⟨cM,cM,cM⟩,⟨⟨cM,cM,cM,cM,cM,cM,cM,cM,cM,cM,cM,cM,cM,cM,cM,h⟩,cM,cM⟩,cM,cM⟩
theorem NQ (hn:1000<=n){k:Bytes}{c:Bool}(z:dC n (.sl .str) m)(zq:dC n eS q)(hq:gD q.2.1=true): dC n (.sl .str) (je l m d q k p c).1/\(je l m d q k p c).1.length=m.length/\dC n eS (je l m d q k p c).2/\gD (je l m d q k p c).2.2.1=true:=by
 unfold je;cases hc: !BK q||(!gb p||((k.length:Int) !=16));case true=>exact⟨z,rfl,zq,hq⟩
 simp only[cn,dM]at hc;have hp:=Im hc.2.1;cases hj:c&&(q.2.2.2.2.1&&Fs q.2.2.2.1 p)with|true=>simp only[ae]at hj;have:=TD hj.2.2;refine⟨z,rfl,⟨⟨cM,cM,cM,cM⟩,⟨cM,cM,cM⟩,⟨cM,cM,cM⟩,⟨?_,cM,cM⟩,cM,cM⟩,hq⟩;refine⟨cM,cM,cM,cM,cM,cM,cM,cM,cM,cM,cM,cM,cM,cM,cM,?_⟩;unfold ue;rw[hj.2.2];show List.length (q.2.2.2.1.1.2.2.2.2.2.2.2.2.2.2.2.2.2.2.2++p.2.2.2.2.2.2.2.2.2.2.2.2.2.2.2)<=n;rw[aj];omega|false=>have hf:=GR (show 128<=n by omega) (l:=l) (d:=d) (k:=k) z zq;have hfq:=Wb (l:=l) (m:=m) (d:=d) (k:=k) hq;have hh:dC n eS (DG (fX l m d q k).2 (jc p)):=adu (by show p.2.2.2.2.2.2.2.2.2.2.2.2.2.2.2.length<=n;omega);cases c with|true=>exact⟨hf.1,hf.2.1,hh,hfq⟩|false=>have DH:=GR (show 128<=n by omega) (l:=l) (d:=d) (k:=k) hf.1 hh;exact⟨DH.1,DH.2.1.trans hf.2.1,DH.2.2.1,Wb (q:=DG (fX l m d q k).2 (jc p)) hfq⟩
theorem XS {r:kc}(h:Cd r=true):0<=r.2.2.2.2.2.2.2.2:=by
 by_cases h0:0<=r.2.2.2.2.2.2.2.2;exact h0;exfalso;have e:∀b:Int,dD r.2.2.2.2.2.2.2.2 0 b=false:=λb=>by rw[Bool.eq_false_iff];intro hc;have:=aS.1 hc;omega
 have e1:(r.2.2.2.2.2.2.2.2==0)=false:=by rw[cq];omega
 revert h;unfold Cd;have z:∀c:Bool,(bif c then false else false)=false:=by intro c;cases c<;>rfl
 simp only[mm,dR,ab,cb,e,e1,gR,z,af];intro h;cases h
theorem LF {s:dj}{q:Int}:iS s q p= -1\/∃n:Nat,iS s q p=(n:Int)/\(n:Int)<q:=by
 unfold iS;cases hb: !fu s q|| !cH p;case true=>exact .inl rfl
 simp only[cn,dM]at hb;have hs:=hb.1;simp only[fu,ae]at hs;simp only[af];cases hd:decide (Dy s.1 p>=0)with
 |true=>obtain⟨n,hn,hl⟩:=Oy s.1 p (bz hd);simp only[ah,hn,ax,cO hl];cases s.1[n].2.2.2.2.2.2.2.1==1 with|true=>exact .inl rfl|false=>have h1:=aL.1 hs.1.2 _ (bF hl);have h2:=hs.1.1.1.1;simp only[yh,ae]at h2;have h3:=XS (aL.1 h2.1 _ (bF hl));simp only[aN,cG]at h1;exact .inr ⟨s.1[n].2.2.2.2.2.2.2.2.toNat,by simp only[af];omega,by omega⟩
 |false=>
  simp only[af];cases MZ:decide (findF s.2.1 (dP p)>=0)with
  |true=>obtain⟨n,hn,hl⟩:=Ox s.2.1 (dP p) (bz MZ);simp only[ah,hn,ax,cO hl];have h1:=aL.1 hs.2 _ (bF hl);have h2:=hs.1.1.1.2;simp only[om,ae,bn]at h2;have h3:=aL.1 h2.2 n (cB.2 (by omega));unfold pD S7 at h3;rw[yk hl]at h3;simp only[ae,aS]at h3;simp only[aN,cG]at h1;exact .inr ⟨s.2.1[n].2.2.toNat,by omega,by omega⟩
  |false=>
   simp only[af];unfold He;cases hc: !qB s.2.2 q||decide (zZ s.2.2 (dP p)<0);case true=>exact .inl rfl
   simp only[cn,dM,cG]at hc;obtain⟨n,hn,hl⟩:=KF s.2.2 (dP p) hc.2;have h1:=hc.1;simp only[qB,ae]at h1;have h2:=aS.1 (aL.1 h1.2 _ (bF hl));simp only[af,hn,ax,cO hl];exact .inr ⟨s.2.2.2[n].toNat,by omega,by omega⟩
def oR (h:Host)(a b c d:Int):Host:=(h.1,h.2.1,h.2.2.1,h.2.2.2.1,h.2.2.2.2.1,h.2.2.2.2.2.1,h.2.2.2.2.2.2.1,h.2.2.2.2.2.2.2.1,h.2.2.2.2.2.2.2.2.1,h.2.2.2.2.2.2.2.2.2.1,h.2.2.2.2.2.2.2.2.2.2.1,h.2.2.2.2.2.2.2.2.2.2.2.1,h.2.2.2.2.2.2.2.2.2.2.2.2.1,h.2.2.2.2.2.2.2.2.2.2.2.2.2.1,ar (h.2.2.2.2.2.2.2.2.2.2.2.2.2.2.1+1),a,b,c,d)
def gV (h:Host)(x:Bytes):Host:=
 bif !fb h then h else
 bif (eO x).2 !=0 then oR h (ar (h.2.2.2.2.2.2.2.2.2.2.2.2.2.2.2.1+1)) h.2.2.2.2.2.2.2.2.2.2.2.2.2.2.2.2.1 h.2.2.2.2.2.2.2.2.2.2.2.2.2.2.2.2.2.1 h.2.2.2.2.2.2.2.2.2.2.2.2.2.2.2.2.2.2 else
 bif !kK h.2.2.2.2.2.2.2.1 (eO x).1 then oR h h.2.2.2.2.2.2.2.2.2.2.2.2.2.2.2.1 (ar (h.2.2.2.2.2.2.2.2.2.2.2.2.2.2.2.2.1+1)) h.2.2.2.2.2.2.2.2.2.2.2.2.2.2.2.2.2.1 h.2.2.2.2.2.2.2.2.2.2.2.2.2.2.2.2.2.2 else
 bif iS h.2.2.2.2.2.2.2.2.1 (h.2.2.2.1.length:Int) (eO x).1== -1 then oR h h.2.2.2.2.2.2.2.2.2.2.2.2.2.2.2.1 h.2.2.2.2.2.2.2.2.2.2.2.2.2.2.2.2.1 (ar (h.2.2.2.2.2.2.2.2.2.2.2.2.2.2.2.2.2.1+1)) h.2.2.2.2.2.2.2.2.2.2.2.2.2.2.2.2.2.2 else
 match h.2.2.2.1[(iS h.2.2.2.2.2.2.2.2.1 (h.2.2.2.1.length:Int) (eO x).1).toNat]? with
 |some q=>uq (oR h h.2.2.2.2.2.2.2.2.2.2.2.2.2.2.2.1 h.2.2.2.2.2.2.2.2.2.2.2.2.2.2.2.2.1 h.2.2.2.2.2.2.2.2.2.2.2.2.2.2.2.2.2.1 (ar (h.2.2.2.2.2.2.2.2.2.2.2.2.2.2.2.2.2.2+1))) (iS h.2.2.2.2.2.2.2.2.1 (h.2.2.2.1.length:Int) (eO x).1).toNat q.2.1.2.2 (je h.2.1 h.1 0 q h.2.2.2.2.2.2.2.2.1.2.2.1 (eO x).1 h.2.2.2.2.2.2.2.2.2.2.1)
 |none=>h
theorem Jq (h:Host)(x:Bytes)(k:CZ 900000000 h)(hx:x.length<=10^9):kq h x=some (gV h x):=by
 have z:=k.z;have z1:h.1.length<=900000000:=z.1.1;have z2:h.2.1.length<=900000000:=z.2.1.1;have zf:h.2.2.2.2.2.2.2.1.2.2.length<=900000000:=z.2.2.2.2.2.2.2.1.2.2.1;have s1:h.2.2.2.2.2.2.2.2.1.1.length<=900000000:=z.2.2.2.2.2.2.2.2.1.1.1;have s2:h.2.2.2.2.2.2.2.2.1.2.1.length<=900000000:=z.2.2.2.2.2.2.2.2.1.2.1.1;have s3:h.2.2.2.2.2.2.2.2.1.2.2.2.length<=900000000:=z.2.2.2.2.2.2.2.2.1.2.2.2.1;unfold kq gV;rw[nD h (z.mono),ab,wH h (k.sz (by omega)),ab];cases hb:fb h;rfl;have hl:=nM (by simp only[fb,ae]at hb;exact hb.2.2.2.2.1:po h=true);have hr:=H8 hb;simp only[ak,af,adO x hx,ab,WG h.2.2.2.2.2.2.2.1 _ (show h.2.2.2.2.2.2.2.1.2.2.length<=10^9 by omega),adT h.2.2.2.2.2.2.2.2.1 _ _ (show h.2.2.2.2.2.2.2.2.1.1.length<=10^9 by omega) (show h.2.2.2.2.2.2.2.2.1.2.1.length<=10^9 by omega) (show h.2.2.2.2.2.2.2.2.1.2.2.2.length<=10^9 by omega)];generalize eO x=f;cases f.2 !=0;case true=>rfl
 cases kK h.2.2.2.2.2.2.2.1 f.1;rfl;simp only[ak,af];have oB:=LF (s:=h.2.2.2.2.2.2.2.2.1) (q:=(h.2.2.2.1.length:Int)) (p:=f.1);generalize iS h.2.2.2.2.2.2.2.2.1 (h.2.2.2.1.length:Int) f.1=r at oB⊢;rcases oB with rfl|⟨n,rfl,hn⟩;rfl;have i1:n<h.2.2.2.1.length:=by omega
 have i2:n<h.2.2.2.2.2.1.length:=by omega
 have hq:=(D0 (hr n i1)).1;have hqi:=xk hq;have ha:=NQ (show 1000<=900000000 by omega) (l:=h.2.1) (d:=0) (k:=h.2.2.2.2.2.2.2.2.1.2.2.1) (p:=f.1) (c:=h.2.2.2.2.2.2.2.2.2.2.1) z.1 (z.2.2.2.1.2 _ (bF i1)) hq;have ev:=MS (h:=oR h h.2.2.2.2.2.2.2.2.2.2.2.2.2.2.2.1 h.2.2.2.2.2.2.2.2.2.2.2.2.2.2.2.2.1 h.2.2.2.2.2.2.2.2.2.2.2.2.2.2.2.2.2.1 (ar (h.2.2.2.2.2.2.2.2.2.2.2.2.2.2.2.2.2.2+1))) (k:=n) (b:=h.2.2.2.1[n].2.1.2.2) (f:=je h.2.1 h.1 0 h.2.2.2.1[n] h.2.2.2.2.2.2.2.2.1.2.2.1 f.1 h.2.2.2.2.2.2.2.2.2.2.1) i1 i2 ha.2.2.2;rw[show((n:Int)== -1)=false from by rw[cq];omega,ax,aq i1];simp only[af,bK i1,ab,aac h.2.1 h.1 0 _ _ _ _ (show h.2.1.length<=10^9 by omega) (show h.1.length<=10^9 by omega)];rw[show(mP ((je h.2.1 h.1 0 h.2.2.2.1[n] h.2.2.2.2.2.2.2.2.1.2.2.1 f.1 h.2.2.2.2.2.2.2.2.2.2.1).1,h.2.1,h.2.2.1,h.2.2.2.1.set n (je h.2.1 h.1 0 h.2.2.2.1[n] h.2.2.2.2.2.2.2.2.1.2.2.1 f.1 h.2.2.2.2.2.2.2.2.2.2.1).2,h.2.2.2.2.1,h.2.2.2.2.2.1,h.2.2.2.2.2.2.1,h.2.2.2.2.2.2.2.1,h.2.2.2.2.2.2.2.2.1,h.2.2.2.2.2.2.2.2.2.1,h.2.2.2.2.2.2.2.2.2.2.1,h.2.2.2.2.2.2.2.2.2.2.2.1,h.2.2.2.2.2.2.2.2.2.2.2.2.1,h.2.2.2.2.2.2.2.2.2.2.2.2.2.1,ar (h.2.2.2.2.2.2.2.2.2.2.2.2.2.2.1+1),h.2.2.2.2.2.2.2.2.2.2.2.2.2.2.2.1,h.2.2.2.2.2.2.2.2.2.2.2.2.2.2.2.2.1,h.2.2.2.2.2.2.2.2.2.2.2.2.2.2.2.2.2.1,ar (h.2.2.2.2.2.2.2.2.2.2.2.2.2.2.2.2.2.2+1)) (n:Int) h.2.2.2.1[n].2.1.2.2)=_ from ev,ab]
theorem Mr (hn:1000<=n)(x:Bytes)(k:CZ n h):CZ n (gV h x)/\(gV h x).2.2.1=h.2.2.1/\(gV h x).2.2.2.2.1.length=h.2.2.2.2.1.length:=by
 have z:=k.z;have zc:∀a b c d,CZ n (oR h a b c d):=λa b c d=>⟨⟨z.1,z.2.1,z.2.2.1,z.2.2.2.1,z.2.2.2.2.1,z.2.2.2.2.2.1,z.2.2.2.2.2.2.1,z.2.2.2.2.2.2.2.1,z.2.2.2.2.2.2.2.2.1,z.2.2.2.2.2.2.2.2.2.1,z.2.2.2.2.2.2.2.2.2.2.1,z.2.2.2.2.2.2.2.2.2.2.2.1,z.2.2.2.2.2.2.2.2.2.2.2.2.1,z.2.2.2.2.2.2.2.2.2.2.2.2.2.1,cM,cM,cM,cM,cM⟩,k.t⟩
 unfold gV;cases hb:fb h;exact⟨k,rfl,rfl⟩;have hr:=H8 hb;generalize eO x=f;cases f.2 !=0;case true=>exact⟨zc ..,rfl,rfl⟩
 cases kK h.2.2.2.2.2.2.2.1 f.1;exact⟨zc ..,rfl,rfl⟩;simp only[ak,af];generalize iS h.2.2.2.2.2.2.2.2.1 (h.2.2.2.1.length:Int) f.1=r;cases r== -1;case true=>exact⟨zc ..,rfl,rfl⟩
 simp only[af];rcases hq:h.2.2.2.1[r.toNat]? with _|q;exact⟨k,rfl,rfl⟩;obtain⟨hi,hqe⟩:=aB.1 hq;have hqd:=(D0 (hr _ hi)).1;rw[hqe]at hqd;have ha:=NQ hn (l:=h.2.1) (d:=0) (k:=h.2.2.2.2.2.2.2.2.1.2.2.1) (p:=f.1) (c:=h.2.2.2.2.2.2.2.2.2.2.1) z.1 (z.2.2.2.1.2 _ (aQ hq)) hqd;have zc':=zc h.2.2.2.2.2.2.2.2.2.2.2.2.2.2.2.1 h.2.2.2.2.2.2.2.2.2.2.2.2.2.2.2.2.1 h.2.2.2.2.2.2.2.2.2.2.2.2.2.2.2.2.2.1 (ar (h.2.2.2.2.2.2.2.2.2.2.2.2.2.2.2.2.2.2+1));have kk:=CX (h:=oR h h.2.2.2.2.2.2.2.2.2.2.2.2.2.2.2.1 h.2.2.2.2.2.2.2.2.2.2.2.2.2.2.2.2.1 h.2.2.2.2.2.2.2.2.2.2.2.2.2.2.2.2.2.1 (ar (h.2.2.2.2.2.2.2.2.2.2.2.2.2.2.2.2.2.2+1))) (k:=r.toNat) (b:=q.2.1.2.2) (f:=je h.2.1 h.1 0 q h.2.2.2.2.2.2.2.2.1.2.2.1 f.1 h.2.2.2.2.2.2.2.2.2.2.1) ha.2.1;exact⟨⟨QF zc'.z ha.1 ha.2.2.1,by rw[kk.tx];exact k.t⟩,kk.tx,kk.pl⟩
theorem UL (l:az aH)(m:cg)(d:Int)(rx:bt)(pl:dy)(st:az Stream)(c:Int):(gU l m d rx pl st c).1.length=m.length:=by unfold gU;cases !BK rx||(!du pl|| !dD c 0 1000)with|true=>rfl|false=>exact ab4 ..
def vJ (b:Int)(k:Nat)(s:Int×Host):Int×Host:=
 match s.2.2.2.2.2.2.1[k]?,s.2.2.2.2.2.2.2.1[k]?,s.2.2.2.2.1[k]?,s.2.2.2.2.2.1[k]? with
 |some v,some p,some x,some pl=>
  bif p||(re v).2 then
   (ar (s.1+(gU s.2.2.1 s.2.1 0 x pl s.2.2.2.2.2.2.2.2.2.2.1 b).2.2.2.2),
    (gU s.2.2.1 s.2.1 0 x pl s.2.2.2.2.2.2.2.2.2.2.1 b).1,s.2.2.1,s.2.2.2.1,s.2.2.2.2.1.set k (gU s.2.2.1 s.2.1 0 x pl s.2.2.2.2.2.2.2.2.2.2.1 b).2.1,s.2.2.2.2.2.1.set k (gU s.2.2.1 s.2.1 0 x pl s.2.2.2.2.2.2.2.2.2.2.1 b).2.2.1,
    s.2.2.2.2.2.2.1.set k (bif decide ((gU s.2.2.1 s.2.1 0 x pl s.2.2.2.2.2.2.2.2.2.2.1 b).2.2.2.2<b) then Bu (re v).1 else(re v).1),
    s.2.2.2.2.2.2.2.1.set k (!decide ((gU s.2.2.1 s.2.1 0 x pl s.2.2.2.2.2.2.2.2.2.2.1 b).2.2.2.2<b)),s.2.2.2.2.2.2.2.2.1,s.2.2.2.2.2.2.2.2.2.1,(gU s.2.2.1 s.2.1 0 x pl s.2.2.2.2.2.2.2.2.2.2.1 b).2.2.2.1,s.2.2.2.2.2.2.2.2.2.2.2)
  else(s.1,s.2.1,s.2.2.1,s.2.2.2.1,s.2.2.2.2.1,s.2.2.2.2.2.1,s.2.2.2.2.2.2.1.set k (re v).1,s.2.2.2.2.2.2.2.1.set k false,s.2.2.2.2.2.2.2.2)
 |_,_,_,_=>s
theorem Gn (b:Int)(k:Nat)(s:Int×Host):mG (k+1) s.2 (vJ b k s).2:=by unfold vJ;rcases s.2.2.2.2.2.2.1[k]? with _|v;exact mG.refl _ _;rcases s.2.2.2.2.2.2.2.1[k]? with _|p;exact mG.refl _ _;rcases s.2.2.2.2.1[k]? with _|x;exact mG.refl _ _;rcases s.2.2.2.2.2.1[k]? with _|pl;exact mG.refl _ _;simp only;cases p||(re v).2 with|true=>exact⟨UL ..,rfl,rfl,aD ..,λj hj=>aF (by omega),aD ..,aD ..,λj hj=>aF (by omega),aD ..,rfl,rfl⟩|false=>exact⟨rfl,rfl,rfl,rfl,λ_ _=>rfl,rfl,aD ..,λj hj=>aF (by omega),aD ..,rfl,rfl⟩
theorem abc (b:Int)(k:Nat)(s:Int×Host)(hn:1000<=n)(z:dC n eG s.2):dC (n+322000) eG (vJ b k s).2:=by have z':dC (n+322000) eG s.2:=z.mono;unfold vJ;rcases s.2.2.2.2.2.2.1[k]? with _|v;exact z';rcases s.2.2.2.2.2.2.2.1[k]? with _|p;exact z';rcases h1:s.2.2.2.2.1[k]? with _|x;exact z';rcases h2:s.2.2.2.2.2.1[k]? with _|pl;exact z';simp only;cases p||(re v).2 with|true=>have hp:=SP (by omega) (l:=s.2.2.1) (d:=0) b z.1 (z.2.2.2.1.2 _ (aQ h1)) (z.2.2.2.2.1.2 _ (aQ h2)) z.2.2.2.2.2.2.2.2.2.1;exact⟨hp.1.mono,z'.2.1,z'.2.2.1,qN z'.2.2.2.1 (hp.2.1.mono),qN z'.2.2.2.2.1 hp.2.2.1,NK z'.2.2.2.2.2.1,qN z'.2.2.2.2.2.2.1 trivial,z'.2.2.2.2.2.2.2.1,z'.2.2.2.2.2.2.2.2.1,hp.2.2.2.1,z'.2.2.2.2.2.2.2.2.2.2⟩|false=>exact⟨z'.1,z'.2.1,z'.2.2.1,z'.2.2.2.1,z'.2.2.2.2.1,NK z'.2.2.2.2.2.1,qN z'.2.2.2.2.2.2.1 trivial,z'.2.2.2.2.2.2.2⟩
def jO (b:Int):Nat->Host->Int×Host
 |0,h=>(0,h)
 |k+1,h=>vJ b k (jO b k h)
theorem BL (b:Int)(h:Host):∀k,mG k h (jO b k h).2
 |0=>mG.refl 0 h
 |k+1=>((BL b h k).up (by omega)).trans (Gn b k _)
theorem Iq (b:Int)(hn:1000<=n)(z:dC n eG h):∀k,dC (n+322000*k) eG (jO b k h).2
 |0=>z
 |k+1=>(abc b k _ (by omega) (Iq b hn z k)).mono
def iy (h:Host)(b:Int):Host×Int:=bif fb h&&dD b 1 1000 then((jO b h.2.2.2.1.length h).2,(jO b h.2.2.2.1.length h).1) else(h,0)
theorem Mw (hn:1000<=n)(b:Int)(k:CZ n h):CZ (n+644000) (iy h b).1:=by unfold iy;cases hb:fb h&&dD b 1 1000 with|false=>exact k.mono|true=>simp only[ae]at hb;have hl:=nM (by have:=hb.1;simp only[fb,ae]at this;exact this.2.2.2.2.1:po h=true);refine⟨(Iq b hn k.z _).mono,?_⟩;simp only[ah];rw[(BL b h _).tx];exact bH k.t (by omega)
theorem Mc (h:Host)(b:Int)(k:CZ 400000000 h):oZ h b=some (iy h b):=by
 have C9:=eR;unfold oZ iy;rw[nD h (k.z.mono),ab,wH h (k.sz (by omega)),ab,dE];cases hb:fb h;rfl;cases hi0:dD b 1 1000;rfl;have hl:=nM (by simp only[fb,ae]at hb;exact hb.2.2.2.2.1:po h=true);simp only[ak,af,ab,cK,ah];refine fe (λi=>((jO b i h).1,(i:Int),(jO b i h).2)) h.2.2.2.1.length (by omega) (λi nx hi=>?_) (λnx=>?_);have kk:=BL b h i;have zz:dC 500000000 eG (jO b i h).2:=(Iq b (by omega) k.z i).mono;have i1:i<(jO b i h).2.2.2.2.1.length:=by rw[kk.rx];exact hi
 have i2:i<(jO b i h).2.2.2.2.2.1.length:=by rw[kk.pl];omega
 have i3:i<(jO b i h).2.2.2.2.2.2.1.length:=by rw[kk.vec];omega
 have i4:i<(jO b i h).2.2.2.2.2.2.2.1.length:=by rw[kk.YJ];omega
 rw[show jO b (i+1) h=vJ b i (jO b i h) from rfl];generalize jO b i h=s at zz i1 i2 i3 i4⊢;have gp:∀(V:az Vector)(P:az Bool),me (s.2.1,s.2.2.1,s.2.2.2.1,s.2.2.2.2.1,s.2.2.2.2.2.1,V,P,s.2.2.2.2.2.2.2.2) (i:Int) b=some ((gU s.2.2.1 s.2.1 0 s.2.2.2.2.1[i] s.2.2.2.2.2.1[i] s.2.2.2.2.2.2.2.2.2.2.1 b).2.2.2.2,(gU s.2.2.1 s.2.1 0 s.2.2.2.2.1[i] s.2.2.2.2.2.1[i] s.2.2.2.2.2.2.2.2.2.2.1 b).1,s.2.2.1,s.2.2.2.1,s.2.2.2.2.1.set i (gU s.2.2.1 s.2.1 0 s.2.2.2.2.1[i] s.2.2.2.2.2.1[i] s.2.2.2.2.2.2.2.2.2.2.1 b).2.1,s.2.2.2.2.2.1.set i (gU s.2.2.1 s.2.1 0 s.2.2.2.2.1[i] s.2.2.2.2.2.1[i] s.2.2.2.2.2.2.2.2.2.2.1 b).2.2.1,V,P,s.2.2.2.2.2.2.2.2.1,s.2.2.2.2.2.2.2.2.2.1,(gU s.2.2.1 s.2.1 0 s.2.2.2.2.1[i] s.2.2.2.2.2.1[i] s.2.2.2.2.2.2.2.2.2.2.1 b).2.2.2.1,s.2.2.2.2.2.2.2.2.2.2.2):=by intro V P;have Er:s.2.2.2.2.2.1[i].2.2.2.length<=500000000:=(zz.2.2.2.2.1.2 _ (bF i2)).2.2.2.1;have hm:s.2.1.length<=500000000:=zz.1.1;have hp:s.2.2.1.length<=500000000:=zz.2.1.1;unfold me;simp only[bK i1,bK i2,ab,WR s.2.2.1 s.2.1 0 _ _ _ b (show s.2.2.1.length<=10^9 by omega) (show s.2.1.length<=10^9 by omega) Er zz.2.2.2.2.2.2.2.2.2.1,ax]
 have F1:∀V:Vector,s.2.2.2.2.2.2.1.set i V=s.2.2.2.2.2.2.1.set i V:=λ_=>rfl;unfold vJ;rw[aq i1,aq i2,aq i3,aq i4];simp only[oD];rw[lH,ah];simp only[bK i3,bK i4,ab,adW,ax,gp];generalize re s.2.2.2.2.2.2.1[i]=w;generalize gU s.2.2.1 s.2.1 0 s.2.2.2.2.1[i] s.2.2.2.2.2.1[i] s.2.2.2.2.2.2.2.2.2.2.1 b=pr;have i5:∀V:Vector,i<(s.2.2.2.2.2.2.1.set i V).length:=λV=>by rw[aD];exact i3
 have i6:∀q:Bool,i<(s.2.2.2.2.2.2.2.1.set i q).length:=λq=>by rw[aD];exact i4
 have e5:∀V:Vector,idx (s.2.2.2.2.2.2.1.set i V) (i:Int)=some V:=λV=>by rw[bK (i5 V),List.getElem_set_self]
 have e6:∀q:Bool,idx (s.2.2.2.2.2.2.2.1.set i q) (i:Int)=some q:=λq=>by rw[bK (i6 q),List.getElem_set_self]
 rw[al (n:=(i:Int)+1)];have CF:s.2.2.2.2.2.2.2.1.set i (s.2.2.2.2.2.2.2.1[i])=s.2.2.2.2.2.2.2.1:=List.set_getElem_self ..;generalize hp:s.2.2.2.2.2.2.2.1[i]=p at CF⊢;cases hw:w.2 with
 |true=>simp only[ly,ah,e6,e5,ab,ak,af,Pf,List.set_set];cases decide (pr.2.2.2.2<b)<;>rfl
 |false=>
  simp only[Bool.or_false,af];cases p with
  |false=>rw[CF];rfl
  |true=>
   have e7:idx s.2.2.2.2.2.2.2.1 (i:Int)=some true:=by rw[bK i4,hp]
   simp only[ah,ak,af,e5,e7,ab,Pf,List.set_set];cases decide (pr.2.2.2.2<b)with|true=>rfl|false=>simp only[af,cl,CF];rfl
 simp only[oD];rw[dw,af]
def ui (b:Int):Nat->Host->Host
 |0,h=>h
 |k+1,h=>(iy (sv (ui b k h)) b).1
theorem Qw (hn:1000<=n)(k:CZ n h):CZ n (sv h):=by have:=aiV hn k.z;exact⟨this.1,by rw[this.2];exact k.t⟩
theorem KE (b:Int)(hn:1000<=n)(z:CZ n h):∀k,CZ (n+644000*k) (ui b k h)
 |0=>z
 |k+1=>(Mw (by omega) b (Qw (by omega) (KE b hn z k))).mono
def nf (h:Host)(b r:Int):Host:=bif fb h&&(dD b 1 1000&&dD r 0 200) then ui b r.toNat (ko (dv h)) else h
theorem ada (hn:1000<=n)(b r:Int)(z:CZ n h):CZ (n+128805440) (nf h b r):=by unfold nf;cases hb:fb h&&(dD b 1 1000&&dD r 0 200)with|false=>exact z.mono|true=>simp only[ae]at hb;have hr:=aS.1 hb.2.2;exact(KE b (by omega) (KI (by omega) (E1 (by omega) z)) r.toNat).mono
theorem adE (h:Host)(b r:Int)(k:CZ 200000000 h):oU h b r=some (nf h b r):=by have C9:=eR;unfold oU nf;rw[nD h (k.z.mono),ab,wH h (k.sz (by omega)),dE,dE];simp only[ab];cases hb:fb h;rfl;cases hi0:dD b 1 1000;rfl;cases hi1:dD r 0 200;rfl;have hr:=aS.1 hi1;obtain⟨r,rfl⟩:=aA hr.1;have zt:=E1 (by omega) k;have zf:=KI (by omega) zt;simp only[ak,af,ab,cK,ah,Jv h (k.mono),O9 _ (zt.mono),ax];refine fe (λi=>((i:Int),ui b i (ko (dv h)))) r (by omega) (λi nx hi=>?_) (λnx=>?_);have zi:=KE b (by omega) zf i;have z2:=Qw (by omega) zi;simp only[rO];rw[lH,ah,WX _ (zi.sz (by omega)) (zi.z.mono),ab,Mc _ b (z2.mono),ab,al];rfl;simp only[rO];rw[dw,af]
def kb (p:dy)(n:Int):dy×dA×Bool:=bif du p&&dD n 0 (p.2.2.2.length:Int) then((p.1,p.2.1,p.2.2.1,p.2.2.2.drop n.toNat),p.2.2.2.take n.toNat,true) else(p,[],false)
theorem adV (p:dy)(n:Int)(h:p.2.2.2.length<=10^9):tE p n=some (kb p n):=by unfold tE kb;rw[vN p h,ab,wI p h,ab,dE];cases du p;rfl;cases hi:dD n 0 (p.2.2.2.length:Int);rfl;have hn:=aS.1 hi;obtain⟨n,rfl⟩:=aA hn.1;simp only[ak,af,ab,cK,ah,ax];rw[Yg _ n (by omega),ab,nz _ (by simp;omega),ab,show sub p.2.2.2 0 (n:Int)=some (p.2.2.2.take n) from by rw[Br (by omega) hn.2,ax],ab,nz _ (by simp;omega),ab]
theorem FB:∀l:az pS,(∀x∈l,0<=x.2.1/\x.2.1<=16)->0<=dT l/\dT l<=16*(l.length:Int)
 |[],_=>by simp[dT]
 |y::l,h=>by have h1:=FB l (λx hx=>h x (dZ _ hx));have h2:=h y (List.mem_cons_self ..);simp only[dT,cS,gv,aV]at h1⊢;omega
theorem Zk (l:az pS)(i:Nat)(hi:i<l.length):dT (l.take (i+1))=dT (l.take i)+l[i].2.1:=by rw[bZ hi];simp only[dT,cu,List.sum_append,cS,List.map_nil,gv,List.sum_nil,Int.add_zero]
theorem adR (t:dN)(h:t.2.2.1.length<=1000000)(hs:∀x∈t.2.2.1,0<=x.2.1/\x.2.1<=16):sc t=some (dT t.2.2.1):=by
 have C9:=eR;unfold sc;refine fe (λi=>(dT (t.2.2.1.take i),(i:Int))) t.2.2.1.length (by omega) (λi nx hi=>?_) (λnx=>?_);have hb:=FB (t.2.2.1.take i) (λx hx=>hs x (List.mem_of_mem_take hx));have hc:=hs _ (bF hi);have hl:(t.2.2.1.take i).length<=1000000:=by rw[aY];omega
 rw[Zk _ _ hi];simp only[nL];rw[lH,ah,bK hi,ab,al (n:=(i:Int)+1),al];rfl;simp only[nL];rw[dw,af,fg]
def oK (l:az aH)(d:Int):cg->cg->na->aC (cg×na)
 |[],m,r=>some (m,r)
 |s::q,m,r=>bif (cW l m d r s).2.2 then oK l d q (cW l m d r s).1 (cW l m d r s).2.1 else none
def ak2 (m:cg)(r:na):aC (cg×na)->cg×na×Bool
 |some x=>(x.1,x.2,true)
 |none=>(m,r,false)
def qu (l:az aH)(m:cg)(d:Int)(r:na)(q:cg):cg×na×Bool:=ak2 m r (oK l d q m r)
theorem Mp (l:az aH)(d:Int):∀(q:cg)(m:cg)(r:na){x},oK l d q m r=some x->x.1.length=m.length
 |[],m,r,x,h=>by cases h;rfl
 |s::q,m,r,x,h=>by rw[oK]at h;cases hq:(cW l m d r s).2.2 with|false=>rw[hq]at h;cases h|true=>rw[hq]at h;exact(Mp l d q _ _ h).trans (xj ..)
theorem F3 (l:az aH)(d:Int)(M:cg)(A B2:na)(B1:cg)(hl:l.length<=10^9)(hM:M.length<=10^9):∀(rest pre:cg)(m:cg)(r:na)(f:Nat),rest.length<f->(pre++rest).length<=10^9->m.length<=10^9->
 bp (mO (λ_ y6 y7=>some (y6,y7,true)) (λy8 _ Ed Fq _ _=>some (Ed,Fq,y8)) l d false (pre++rest) ((pre++rest).length:Int) M A B1 B2) f ((pre.length:Int),m,r)=some (ak2 M A (oK l d rest m r))
 |rest,pre,m,r,0,hf,_,_=>by omega
 |[],pre,m,r,f+1,_,_,_=>by rw[bp];simp only[mO];rw[au (by simp),af];rfl
 |s::q,pre,m,r,f+1,hf,hn,hm=>by
  simp only[aV,aj]at hf hn;have hi:pre.length<(pre++s::q).length:=by simp
  have hb:(pre++s::q)[pre.length]=s:=by simp
  rw[bp];simp only[mO];rw[aw (by simp;omega),bK hi,hb];simp only[ah,ab,Mb l m d r _ hl hm];rw[oK];cases hq:(cW l m d r s).2.2 with
  |false=>simp only[cl,ah,af,ia M,ab];rfl
  |true=>
   simp only[ak,af,ah];rw[al (n:=(pre.length:Int)+1)];have key:=F3 l d M A B2 B1 hl hM q (pre++[s]) (cW l m d r s).1 (cW l m d r s).2.1 f (by omega) (by simp;omega) (by rw[xj];exact hm);have el:((pre++[s]).length:Int)=(pre.length:Int)+1:=by simp
   rw[aE,gI,el]at key;exact key
theorem aal (l:az aH)(m:cg)(d:Int)(r:na)(q:cg)(hl:l.length<=10^9)(hm:m.length<=10^9)(hq:q.length<=10^9):lC l m d r q=some (qu l m d r q):=by have C9:=eR;unfold lC qu;rw[ia m,ab];exact F3 l d m r _ _ hl hm q [] m r fuel (by omega) (by simpa using hq) hm
def ud (l:az aH)(d:Int)(p:dy)(z:Nat):dA->Bytes->cg->az ij->aC (az ij×cg)
 |[],_,m,a=>some (a,m)
 |b::q,s,m,a=>bif (hZ l m d (oy p b) (s.take z) false).2 then ud l d p z q (s.drop z) (hZ l m d (oy p b) (s.take z) false).1 (a++[(oy p b,((s.take z).length:Int))]) else none
theorem Dx (l:az aH)(d:Int)(p:dy)(z:Nat):∀(q:dA)(s:Bytes)(m:cg)(a:az ij){x},ud l d p z q s m a=some x->
 x.2.length=m.length/\x.1.length=a.length+q.length/\∀y∈x.1,y∈a\/((∃b∈q,y.1=oy p b)/\0<=y.2/\y.2<=(z:Int))
 |[],s,m,a,x,h=>by cases h;exact⟨rfl,rfl,λy hy=>Or.inl hy⟩
 |b::q,s,m,a,x,h=>by rw[ud]at h;cases hq:(hZ l m d (oy p b) (s.take z) false).2 with|false=>rw[hq]at h;cases h|true=>rw[hq]at h;obtain⟨h1,h2,h3⟩:=Dx l d p z q _ _ _ h;rw[lN]at h1;rw[aj,bD]at h2;refine⟨h1,by rw[aV];omega,λy hy=>?_⟩;rcases h3 y hy with g|⟨⟨b',iB,g⟩,g2⟩;rcases ay.1 g with g|g;exact Or.inl g;rw[bA.1 g];refine Or.inr ⟨⟨b,List.mem_cons_self ..,rfl⟩,?_,?_⟩;show(0:Int)<=((s.take z).length:Int);omega;show((s.take z).length:Int)<=(z:Int);rw[aY];omega;exact Or.inr ⟨⟨b',dZ _ iB,g⟩,g2⟩
theorem TB (p:dy)(i:Int): -1<=oy p i/\oy p i<=139136:=by unfold oy;cases hb: !du p|| !dD i 0 (p.2.2.1-1)with|true=>exact⟨eV _,show(-1:Int)<=139136 by omega⟩|false=>simp only[cn,dM]at hb;have h:=AZ hb.1;have h2:=aS.1 hb.2;have h3:0<=i*p.2.1:=Int.mul_nonneg h2.1 (by omega);have h4:i*p.2.1<=16*512:=Int.mul_le_mul (by omega) (by omega) (by omega) (by omega);simp only[af];omega
theorem afP {p:dy}(hp:du p=true){b:Int}(hb:b∈p.2.2.2):0<=oy p b:=by obtain⟨i,hi,rfl⟩:=gA hb;have hq:=hp;simp only[du,ae]at hq;have:=aL.1 hq.2.2.2 i (cB.2 hi);simp only[Dz,ae,cO hi]at this;have hn:=this.1;have h:=AZ hp;have h2:=aS.1 hn;have h3:0<=p.2.2.2[i]*p.2.1:=Int.mul_nonneg h2.1 (by omega);unfold oy;rw[hp,hn];show 0<=p.1+p.2.2.2[i]*p.2.1;omega
theorem Yn (s:Bytes)(z:Nat):sub s 0 (if(s.length:Int)<(z:Int) then(s.length:Int) else(z:Int))=some (s.take z):=by by_cases h:(s.length:Int)<(z:Int);rw[aJ h,Br,ax,fg,bW (by omega)];rw[aI h,Br,ax]
theorem VU (s:Bytes)(z:Nat):sub s ((s.take z).length:Int) (s.length:Int)=some (s.drop z):=by rw[Yg _ _ (by rw[aY];omega),aY];by_cases h:z<=s.length;rw[jv h];rw[Nat.min_eq_right (by omega),gQ,List.drop_eq_nil_of_le (by omega)]
def afx:aC (az ij×cg)->aC (Bool×cg×az ij×Bool)->Prop
 |some x,r=>r=some (true,x.2,x.1,true)
 |none,r=>∃c m,r=some (c,m,[],false)
theorem HA (l:az aH)(d:Int)(p:dy)(z:Nat)(B:cg)(hp:p.2.2.2.length<=10^9)(hl:l.length<=10^9):∀(rest pre:dA)(s:Bytes)(m:cg)(a:az ij)(f:Nat),rest.length<f->(pre++rest).length<=1000000->a.length+rest.length<=1000000->m.length<=10^9->
 afx (ud l d p z rest s m a) (bp (lL (λ_ GH _ Ku=>some (true,Ku,GH,true)) (λ_ QG Vu _ _ _ y23=>some (true,y23,QG,Vu)) l d (z:Int) ([]:az ij) false (pre++rest) ((pre++rest).length:Int) p B) f (s,a,(pre.length:Int),m))
 |rest,pre,s,m,a,0,hf,_,_,_=>by omega
 |[],pre,s,m,a,f+1,_,_,_,_=>by rw[bp];simp only[lL];rw[au (by simp),af];rfl
 |b::q,pre,s,m,a,f+1,hf,hn,ha,hm=>by
  simp only[aV,aj]at hf hn ha;have hi:pre.length<(pre++b::q).length:=by simp
  have hb:(pre++b::q)[pre.length]=b:=by simp
  have hA:=TB p b;rw[bp];simp only[lL];rw[aw (by simp;omega),bK hi,hb];simp only[ah,ab,Yn,VU,Ji p b hp,Db l m d (oy p b) (s.take z) hl hm];rw[ud];cases hq:(hZ l m d (oy p b) (s.take z) false).2 with
  |false=>exact⟨_,_,rfl⟩
  |true=>
   simp only[ak,af,ah];rw[al (n:=(pre.length:Int)+1),bf (by simp only[bD];omega)];have key:=HA l d p z B hp hl q (pre++[b]) (s.drop z) (hZ l m d (oy p b) (s.take z) false).1 (a++[(oy p b,((s.take z).length:Int))]) f (by omega) (by simp;omega) (by simp;omega) (by rw[lN];exact hm);have el:((pre++[b]).length:Int)=(pre.length:Int)+1:=by simp
   rw[aE,gI,el]at key;exact key
theorem adG (l:az aH)(m:cg)(d:Int)(p:dy)(q:dA)(s:Bytes)(z:Nat)(hp:p.2.2.2.length<=10^9)(hl:l.length<=10^9)(hm:m.length<=10^9)(hq:q.length<=1000)(h0:0<q.length): afx (ud l d p z q s m []) (pe l m d p q s (z:Int)):=by have C9:=eR;cases q with|nil=>cases h0|cons b q=>simp only[aV]at hq;have hA:=TB p b;have hi:idx (b::q) 0=some b:=rfl;unfold pe;rw[aw (by simp),ah,hi];simp only[ab,Yn,VU,Ji p b hp,Db l m d (oy p b) (s.take z) hl hm];rw[ud];cases Nx:(hZ l m d (oy p b) (s.take z) false).2 with|false=>exact⟨_,_,rfl⟩|true=>simp only[ak,af,ah];rw[bf (by simp),show ar (0+1)=1 from rfl];exact HA l d p z _ hp hl q [b] (s.drop z) (hZ l m d (oy p b) (s.take z) false).1 [(oy p b,((s.take z).length:Int))] fuel (by omega) (by simp;omega) (by simp;omega) (by rw[lN];exact hm)
theorem Og {ps:az ij}{z c:Int}(h0:0<ps.length)(Uf:ps.length<=16)(hp:∀x∈ps,0<=x.1/\x.1<=200000/\0<=x.2/\x.2<=4096)(hz:dD z 1 128=true)(hc:dD c 0 65535=true):(jW ps z c).length=ps.length+1:=by
 have hz2:=aS.1 hz;have YD:=aS.1 hc;have e1:oJ ps=true:=by unfold oJ;rw[ae,aN,aG];refine⟨List.any_eq_false.2 λx hx=>?_,by omega⟩;have:=hp x hx;unfold B9;rw[dw,cj,aN,Bool.eq_false_iff];intro h;exact h (aS.2 (by omega))
 have e2:([((2:Int),(0:Int),(0:Int),(0:Int),z,c)]++oS ps c ps.length).all pV=true:=by rw[List.all_append,ae];constructor;simp only[cw,List.all_nil,iI,pV,ae,aS];omega;rw[KC];refine aL.2 λj hj=>?_;have hj:=cB.1 hj;have:=hp _ (bF hj);simp only[dsc,cO hj,pV,ae,aS];refine⟨by omega,?_,by omega,by omega,by omega,by omega⟩;by_cases hq:j+1=ps.length;rw[aJ hq];omega;rw[aI hq];omega
 unfold jW;rw[e1,hz,e2,show((ps.length:Int)==0)=false from by rw[cq];omega];simp only[ak,bJ,af,ah,aj,bD,Du];omega
theorem WL (K:cg->Int->aC R)(l:az aH)(d:Int)(q:dA)(ds ds2:az rC)(t1 t2 t3 t4:dN)(m1 m2 m3:cg)(h:ds.length<=1000): bp (im K l d q ds2 ds (ds.length:Int) t1 m1 t2 m2 t3 t4 m3) fuel (([]:cg),0)=K (ds.map iJ) (ds.length:Int):=by
 have C9:=eR;refine fe (λi=>((ds.take i).map iJ,(i:Int))) ds.length (by omega) (λi nx hi=>?_) (λnx=>?_);have e:((ds.take i).map iJ).length<=1000:=by simp;omega
 rw[bZ hi,cu];simp only[im];rw[lH,ah,bK hi,ab,Uu,ab,bf (by simp only[bD];omega),al];rfl;simp only[im];rw[dw,af,fg]
def wj (p:aM)(z:Nat):Nat:=((kV p).1.length+z-1)/z
def J1 (l:az aH)(m:cg)(d:Int)(t:dN)(c:Int)(n:Nat)(x:az ij×cg):cg×dN×Bool:=
 bif (qu l x.2 d t.1 ((jW x.1 c t.2.2.2).map iJ)).2.2 then
  ((qu l x.2 d t.1 ((jW x.1 c t.2.2.2).map iJ)).1,((qu l x.2 d t.1 ((jW x.1 c t.2.2.2).map iJ)).2.1,(kb t.2.1 (n:Int)).1,t.2.2.1++[(t.2.2.2,(n:Int)+1,(kb t.2.1 (n:Int)).2.1)],tmod (t.2.2.2+1) 65536),true)
 else(m,t,false)
def Ff (t:dN)(n:Nat):Bool:=(kb t.2.1 (n:Int)).2.2&&(!decide ((n:Int)>16)&&(!decide ((n:Int)+1>mJ t.1)&& !decide (dT t.2.2.1+(n:Int)+1>t.1.2.1)))
def pC (l:az aH)(m:cg)(d:Int)(t:dN)(p:aM)(c z:Int):cg×dN×Bool:=
 bif MQ t&&(cH p&&(dD z 1 t.2.1.2.1&&dD c 1 128)) then
  bif Ff t (wj p z.toNat) then
   match ud l d t.2.1 z.toNat (kb t.2.1 (wj p z.toNat:Int)).2.1 (kV p).1 m []with
   |some x=>J1 l m d t c (wj p z.toNat) x
   |none=>(m,t,false)
  else(m,t,false)
 else(m,t,false)
theorem Iv (h:cH p=true):0<(kV p).1.length/\(kV p).1.length<=378:=by have hl:=oT p;have hs:=WE h;unfold kV;rw[h];show 0<(nQ (cV p).1 (aW 0) (aW 0)).length/\(nQ (cV p).1 (aW 0) (aW 0)).length<=378;rw[Gj];omega
theorem alB (len z:Nat)(h:len<=1000)(hz:z<=1000)(h0:0<z):ar (Int.tdiv (ar (ar ((len:Int)+(z:Int))-1)) (z:Int))=(((len+z-1)/z:Nat):Int):=by have hd:(len+z-1)/z<=len+z-1:=Nat.div_le_self ..;rw[al (n:=(len:Int)+(z:Int)),al (n:=(len:Int)+(z:Int)-1),show(len:Int)+(z:Int)-1=((len+z-1:Nat):Int) by omega,show Int.tdiv ((len+z-1:Nat):Int) (z:Int)=(((len+z-1)/z:Nat):Int) from rfl];generalize (len+z-1)/z=N at hd⊢;rw[al]
theorem Yj {p:dy}(h:(kb p (n:Int)).2.2=true):du p=true/\n<=p.2.2.2.length/\(kb p (n:Int)).2.1=p.2.2.2.take n:=by unfold kb at h⊢;cases hq:du p&&dD (n:Int) 0 (p.2.2.2.length:Int)with|false=>rw[hq]at h;cases h|true=>simp only[ae,aS]at hq;exact⟨hq.1,by omega,rfl⟩
theorem adh {t:dN}{c:Int}{z:Nat}{x:az ij×cg}(ht:MQ t=true)(hz:z<=512)(hc:dD c 1 128=true)(h0:0<n)(Uf:n<=16)(hk:(kb t.2.1 (n:Int)).2.2=true)(hx:ud l d t.2.1 z (kb t.2.1 (n:Int)).2.1 s m []=some x):x.2.length=m.length/\(jW x.1 c t.2.2.2).length=n+1:=by
 obtain⟨hp,hn,hb⟩:=Yj hk;rw[hb]at hx;obtain⟨h1,h2,h3⟩:=Dx l d t.2.1 z _ _ _ _ hx;simp only[dg,aY,cP]at h2;have e:x.1.length=n:=by omega
 refine⟨h1,?_⟩;rw[Og (by omega) (by omega) (λy hy=>?_) hc (by simp only[MQ,ae]at ht;exact ht.2.2.1),e];rcases h3 y hy with g|⟨⟨b,iB,g⟩,g2⟩;cases g;have q1:=afP hp (List.mem_of_mem_take iB);have q2:=TB t.2.1 b;rw[g];omega
theorem adQ (l:az aH)(m:cg)(d:Int)(t:dN)(p:aM)(c z:Int)(hl:l.length<=10^9)(hm:m.length<=10^9)(ht:aja t)(h1:t.2.2.1.length<=10^9)(h2:t.2.1.2.2.2.length+(bG t.2.2.1).length<=10^9):vg l m d t p c z=some (pC l m d t p c z):=by
 have C9:=eR;unfold vg pC;rw[ia m,ab,Ia t ht,ab,aao t h1 h2,ab,rm,dE,dE];simp only[ab];cases hb:MQ t;rfl;cases hp:cH p;rfl;cases hz:dD z 1 t.2.1.2.1;rfl;cases hc:dD c 1 128;rfl;have hT:=Iv hp;have hz2:=aS.1 hz;have hq:=hb;simp only[MQ,ae]at hq;have Er:=AZ hq.2.1;have Uf:=Ix hb;have YG:=mX hq.1;have hnx:=aS.1 hq.2.2.1;obtain⟨z,rfl⟩:=aA (by omega:0<=z);have hzn:¬(z:Int)=0:=by omega
 have hS:∀x∈t.2.2.1,0<=x.2.1/\x.2.1<=16:=λx hx=>by have:=aL.1 hq.2.2.2.1 x hx;simp only[kF,ae,aS]at this;omega
 have hcb:=FB _ hS;have hN:wj p z<=1000:=by have:wj p z<=(kV p).1.length+z-1:=Nat.div_le_self ..;omega
 have hN0:0<wj p z:=Nat.div_pos (by omega) (by omega);have hce:=alB (kV p).1.length z (by omega) (by omega) (by omega);rw[show((kV p).1.length+z-1)/z=wj p z from rfl]at hce;simp only[ak,af,ab,cK,ah,ax,Sn,aI hzn,hce,adV _ _ (show t.2.1.2.2.2.length<=10^9 by omega),Se,adR t (by omega) hS,Ff];rw[al (n:=(wj p z:Int)+1),al (n:=dT t.2.2.1+(wj p z:Int)),al (n:=dT t.2.2.1+(wj p z:Int)+1)];by_cases g1:(wj p z:Int)>16;rw[aw g1];simp only[ah,ab,ak,eY,eH,af];rw[au g1];simp only[cl,af,bC];cases decide ((wj p z:Int)+1>mJ t.1)with|true=>simp only[ah,ab,ak,eY,eH,af]|false=> ?_
 simp only[cl,af,bC,ab];cases decide (dT t.2.2.1+(wj p z:Int)+1>t.1.2.1)with|true=>simp only[ah,ab,ak,eY,eH,af]|false=> ?_
 simp only[cl,af,iI,ab];cases hk:(kb t.2.1 (wj p z:Int)).2.2;rfl;simp only[ak,af,ah,ia m (show m.length<=1073741824 by omega),ab];obtain⟨_,hkn,Z4⟩:=Yj hk;have hkl:(kb t.2.1 (wj p z:Int)).2.1.length=wj p z:=by rw[Z4,aY];omega
 have key:=adG l m d t.2.1 (kb t.2.1 (wj p z:Int)).2.1 (kV p).1 z (by omega) hl hm (by omega) (by omega);cases hx:ud l d t.2.1 z (kb t.2.1 (wj p z:Int)).2.1 (kV p).1 m []with
 |none=>rw[hx]at key;obtain⟨a,b,e⟩:=key;obtain⟨f,g,_⟩:=Es [] c t.2.2.2 (by simp);rw[e,ab];simp only[g,ab];cases a<;>cases f<;>rfl
 |some x=>
  rw[hx]at key;have key:pe _ _ _ _ _ _ _=_:=key;obtain⟨x1,x2⟩:=adh hb (by omega) hc hN0 (by omega) hk hx;obtain⟨_,x3,_⟩:=Dx l d t.2.1 z _ _ _ _ hx;simp only[dg]at x3;obtain⟨f,g,hf⟩:=Es x.1 c t.2.2.2;have hft:f=true:=by cases f with|true=>rfl|false=>have:=hf rfl;rw[this]at x2;cases x2
  subst hft;simp only[key,g,ab,ah,ak,af,aI (show¬(jW x.1 c t.2.2.2).length=0 by omega),J1];rw[WL _ _ _ _ _ _ _ _ _ _ _ _ _ (by omega)];simp only[aal l x.2 d t.1 _ hl (by omega) (show((jW x.1 c t.2.2.2).map iJ).length<=10^9 by rw[cz];omega),ab];cases (qu l x.2 d t.1 ((jW x.1 c t.2.2.2).map iJ)).2.2 with|false=>rfl|true=>simp only[ak,af,ab,ah];rw[bf (by simp only[bD];omega),kz,al,x2];rfl
end
end Go.Pu
