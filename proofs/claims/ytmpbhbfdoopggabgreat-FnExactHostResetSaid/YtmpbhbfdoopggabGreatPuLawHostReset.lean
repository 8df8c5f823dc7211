import Derived.Test.YtmpbhbfdoopggabGreatPuX1
section
/- Reading frames: the program's and the reference's results are one. -/
namespace Go.Pu
open Go.Dn
set_option linter.unusedSimpArgs false
set_option linter.unusedVariables false
noncomputable section
theorem vx {s:Bytes}{a:Int}(h0:0≤a)(h:a+2≤(s.length:Int)):0≤bh s a∧bh s a≤65535:=by
 have h1:=bB s a.toNat;have h2:=bB s (a.toNat+1)
 unfold bh bM
 rw [decide_eq_true ⟨h0,h⟩]
 simp only [cond_true];omega
theorem vy {s:Bytes}{a:Int}(h0:0≤a)(h:a+4≤(s.length:Int)):0≤du s a∧du s a≤4294967295:=by
 have h1:=bB s a.toNat;have h2:=bB s (a.toNat+1);have h3:=bB s (a.toNat+2);have h4:=bB s (a.toNat+3)
 unfold du bM
 rw [decide_eq_true ⟨h0,h⟩]
 simp only [cond_true];omega
theorem MS {x y:Int}(hx:0≤x∧x≤65535)(hy:0≤y∧y≤4294967295):IntKind.wrap .i64 (BitVec.toNat (BitVec.ofInt (IntKind.bits .i64) (IntKind.wrap .i64 (x*2^(min (Int.toNat 32) (IntKind.bits .i64))))|||BitVec.ofInt (IntKind.bits .i64) y))=x*4294967296+y:=by
 have e:(2:Int)^(min (Int.toNat 32) (IntKind.bits .i64))=4294967296:=rfl
 obtain ⟨x,rfl⟩:=Int.eq_ofNat_of_zero_le hx.1
 obtain ⟨y,rfl⟩:=Int.eq_ofNat_of_zero_le hy.1
 rw [e,wrap64 (n:=(x:Int)*4294967296) (by omega) (by omega),show (x:Int)*4294967296=((2^32*x:Nat):Int) by omega,wV x 32 y (by omega) (by omega)]
 omega
theorem JG {x y:Int}(hx:0≤x∧x≤65535)(hy:0≤y∧y≤4294967295):IntKind.wrap .i64 (IntKind.wrap .i64 (x*2^(min (Int.toNat 32) (IntKind.bits .i64)))+y)=x*4294967296+y:=by
 have e:(2:Int)^(min (Int.toNat 32) (IntKind.bits .i64))=4294967296:=rfl
 rw [e,wrap64 (n:=x*4294967296) (by omega) (by omega),wrap64 (by omega) (by omega)]
theorem JW {α:Type}{l:List α}{n:Int}(h0:0≤n)(h1:n≤(l.length:Int)):sub l 0 n=some (l.take n.toNat):=by
 unfold sub;rw [if_pos (by omega)];simp
theorem nz {α:Type}{l:List α}(k:Nat)(h:k≤l.length){a:Int}(ha:a=(k:Int)):sub l a (l.length:Int)=some (l.drop k):=by
 unfold sub;rw [if_pos (by omega)];subst ha;simp
theorem JV {α:Type}{l:List α}(k:Nat){a n:Int}(ha:a=(k:Int))(h0:a≤n)(h1:n≤(l.length:Int)):sub l a n=some ((l.take n.toNat).drop k):=by
 unfold sub;rw [if_pos (by omega)];subst ha;simp
def G4 (s:Bytes):Bytes×Bool:=bif decide ((s.length:Int)<4) then ([],false) else bif J5 (s.take ((s.length:Int)-4).toNat)==s then (s.take ((s.length:Int)-4).toNat,true) else ([],false)
def Mi:GN:=(0,0,0,0,([]:Bytes))
def JF (s:Bytes)(a:Int):Int:=bh s a*4294967296+du s (a+2)
def E0 (s:Bytes):GN:=(JF s 0,JF s 6,bh s 14,bh s 16,s.drop 18)
def ur (s:Bytes):GN:=(JF s 0,JF s 6, -1,bh s 12,s.drop 14)
def l9 (s:Bytes):GN×Bool:=bif decide ((s.length:Int)<18) then (Mi,false) else
 bif bh s 12==33024 then (bif wF (E0 s) then (E0 s,true) else (Mi,false)) else bif wF (ur s) then (ur s,true) else (Mi,false)
theorem D7 (s:Bytes)(h:s.length≤1000000000):nt s=some (l9 s):=by
 unfold nt l9
 by_cases h8:(s.length:Int)<18
 ·rw [decide_eq_true h8];rfl
 ·rw [decide_eq_false h8]
  simp only [cond_false,oS s _ h,uf s _ h,ab]
  rw [if_neg (by omega),if_neg (by omega),nz (l:=s) 14 (by omega) (show (14:Int)=((14:Nat):Int) from rfl),ab,nz (l:=s) 18 (by omega) (show (18:Int)=((18:Nat):Int) from rfl)]
  rw [JG (vx (s:=s) (a:=0) (by omega) (by omega)) (vy (s:=s) (a:=2) (by omega) (by omega)),JG (vx (s:=s) (a:=6) (by omega) (by omega)) (vy (s:=s) (a:=8) (by omega) (by omega))]
  simp only [ab,Cl]
  rw [show ((bh s 0*4294967296+du s 2,bh s 6*4294967296+du s 8,bh s 14,bh s 16,s.drop 18):GN)=E0 s from rfl,show ((bh s 0*4294967296+du s 2,bh s 6*4294967296+du s 8, -1,bh s 12,s.drop 14):GN)=ur s from rfl]
  cases bh s 12==33024<;>cases wF (E0 s)<;>cases wF (ur s)<;>rfl
theorem Dt (s:Bytes)(h:s.length≤1000000000):mY s=some (l9 s):=by
 unfold mY l9
 by_cases h4:(s.length:Int)<14
 ·rw [decide_eq_true h4,decide_eq_true (show (s.length:Int)<18 by omega)];rfl
 ·rw [decide_eq_false h4]
  simp only [cond_false,tV s _ h,tW s _ h,ab]
  rw [if_neg (by omega),if_neg (by omega),nz (l:=s) 14 (by omega) (show (14:Int)=((14:Nat):Int) from rfl),ab]
  rw [MS (vx (s:=s) (a:=0) (by omega) (by omega)) (vy (s:=s) (a:=2) (by omega) (by omega)),MS (vx (s:=s) (a:=6) (by omega) (by omega)) (vy (s:=s) (a:=8) (by omega) (by omega))]
  simp only [ab,Kx]
  rw [show ((bh s 0*4294967296+du s 2,bh s 6*4294967296+du s 8, -1,bh s 12,s.drop 14):GN)=ur s from rfl]
  by_cases h8:(s.length:Int)<18
  ·have hB:wF (ur s)=false:=by
    unfold wF ur
    have:bn ((s.drop 14).length:Int) 46 400=false:=by
     rw [Bool.eq_false_iff,ne_eq,bL,List.length_drop];omega
    simp only [this,Bool.and_false]
   rw [decide_eq_true h8,decide_eq_false (show¬(s.length:Int)≥18 by omega),hB]
   cases bh s 12==33024<;>rfl
  ·rw [decide_eq_false h8,decide_eq_true (show (s.length:Int)≥18 by omega),nz (l:=s) 18 (by omega) (show (18:Int)=((18:Nat):Int) from rfl)]
   simp only [ab]
   rw [show ((bh s 0*4294967296+du s 2,bh s 6*4294967296+du s 8,bh s 14,bh s 16,s.drop 18):GN)=E0 s from rfl]
   cases bh s 12==33024<;>cases wF (E0 s)<;>cases wF (ur s)<;>rfl
def ip0:Ip:=(0,0,0,0,0,0,([]:Bytes))
def vL (s:Bytes):Ip:=((aR s 1:Int),bh s 4,(aR s 8:Int),(aR s 9:Int),du s 12,du s 16,(s.take (bh s 2).toNat).drop 20)
def oy (s:Bytes):Ip×Bool:=bif decide ((s.length:Int)<20)||(decide (bh s 2<20)||decide (bh s 2>(s.length:Int))) then (ip0,false) else
 bif (JC (vL s)).2&&((JC (vL s)).1==s.take (bh s 2).toNat) then (vL s,true) else (ip0,false)
theorem adC {s:Bytes}{i:Nat}(h:i<s.length){a:Int}(ha:a=(i:Int)){R:Type}(k:Int→Option R):(aa (idx s a) fun x=>k (IntKind.wrap .i64 (x.toNat:Int)))=k (aR s i:Int):=by
 have:=lg s[i]
 rw [ha,ay h,ab,eO (by omega),aR,br h]
theorem Gm (s:Bytes)(h:s.length≤1000000000):oB s=some (oy s):=by
 unfold oB oy
 simp only [oS s _ h,uf s _ h,ab]
 by_cases h1:(s.length:Int)<20
 ·rw [decide_eq_true h1];rfl
 by_cases h2:bh s 2<20
 ·rw [decide_eq_false h1,decide_eq_true h2];rfl
 by_cases h3:bh s 2>(s.length:Int)
 ·rw [decide_eq_false h1,decide_eq_false h2,decide_eq_true h3];rfl
 rw [decide_eq_false h1,decide_eq_false h2,decide_eq_false h3]
 have b1:=lg (s[1]'(by omega));have b8:=lg (s[8]'(by omega));have b9:=lg (s[9]'(by omega))
 have i1:idx s 1=some (s[1]'(by omega)):=ay (i:=1) (by omega)
 have i8:idx s 8=some (s[8]'(by omega)):=ay (i:=8) (by omega)
 have i9:idx s 9=some (s[9]'(by omega)):=ay (i:=9) (by omega)
 simp only [cond_false,ab,Bool.or_self,i1,i8,i9]
 rw [JV (l:=s) 20 (show (20:Int)=((20:Nat):Int) from rfl) (by omega) (by omega),JW (by omega) (by omega),eO (n:=(s[1]'(by omega)).toNat) (by omega),eO (n:=(s[8]'(by omega)).toNat) (by omega),eO (n:=(s[9]'(by omega)).toNat) (by omega)]
 have e:(((s[1]'(by omega)).toNat:Int),bh s 4,((s[8]'(by omega)).toNat:Int),((s[9]'(by omega)).toNat:Int),du s 12,du s 16,(s.take (bh s 2).toNat).drop 20)=vL s:=by
  simp only [vL,aR,br (show 1<s.length by omega),br (show 8<s.length by omega),br (show 9<s.length by omega)]
 simp only [ab,e,Un]
 cases (JC (vL s)).2<;>cases (JC (vL s)).1==s.take (bh s 2).toNat<;>rfl
theorem Ft (s:Bytes)(h:s.length≤1000000000):om s=some (oy s):=by
 unfold om oy
 simp only [tV s _ h,tW s _ h,ab]
 by_cases h1:(s.length:Int)<20
 ·rw [decide_eq_true h1];rfl
 by_cases h2:bh s 2<20
 ·rw [decide_eq_false h1,decide_eq_true h2];rfl
 by_cases h3:bh s 2>(s.length:Int)
 ·rw [decide_eq_false h1,decide_eq_false h2,decide_eq_true h3];rfl
 rw [decide_eq_false h1,decide_eq_false h2,decide_eq_false h3]
 have b1:=lg (s[1]'(by omega));have b8:=lg (s[8]'(by omega));have b9:=lg (s[9]'(by omega))
 have i1:idx s 1=some (s[1]'(by omega)):=ay (i:=1) (by omega)
 have i8:idx s 8=some (s[8]'(by omega)):=ay (i:=8) (by omega)
 have i9:idx s 9=some (s[9]'(by omega)):=ay (i:=9) (by omega)
 simp only [cond_false,ab,Bool.or_self,i1,i8,i9]
 rw [JV (l:=s) 20 (show (20:Int)=((20:Nat):Int) from rfl) (by omega) (by omega),JW (by omega) (by omega),eO (n:=(s[1]'(by omega)).toNat) (by omega),eO (n:=(s[8]'(by omega)).toNat) (by omega),eO (n:=(s[9]'(by omega)).toNat) (by omega)]
 have e:(((s[1]'(by omega)).toNat:Int),bh s 4,((s[8]'(by omega)).toNat:Int),((s[9]'(by omega)).toNat:Int),du s 12,du s 16,(s.take (bh s 2).toNat).drop 20)=vL s:=by
  simp only [vL,aR,br (show 1<s.length by omega),br (show 8<s.length by omega),br (show 9<s.length by omega)]
 simp only [ab,e,RT]
 cases (JC (vL s)).2<;>cases (JC (vL s)).1==s.take (bh s 2).toNat<;>rfl
def Um:a7:=(0,0,0,0,0,0,0,([]:Bytes))
def Al (k:Int)(s:Bytes):a7:=(k,bh s 0,bh s 2,du s 4,du s 8,(aR s 13:Int),bh s 14,s.drop 20)
def D2 (k:Int)(s:Bytes):a7:=(k,bh s 0,bh s 2,0,0,0,0,s.drop 8)
def pL (a b k:Int)(s:Bytes):a7×Bool:=
 bif (k==6)&&decide ((s.length:Int)≥20) then (bif (sj a b (Al k s)).2&&((sj a b (Al k s)).1==s) then (Al k s,true) else (Um,false)) else
 bif (k==17)&&decide ((s.length:Int)≥8) then (bif (sj a b (D2 k s)).2&&((sj a b (D2 k s)).1==s) then (D2 k s,true) else (Um,false)) else (Um,false)
theorem D8 (a b k:Int)(s:Bytes)(h:s.length≤1000000000):ic a b k s=some (pL a b k s):=by
 unfold ic pL
 simp only [oS s _ h,uf s _ h,ab]
 rw [show (aa (cond (k==6) (some (decide ((s.length:Int)≥20))) (some false)):(Bool→Option (a7×Bool))→Option (a7×Bool))=fun K=>K ((k==6)&&decide ((s.length:Int)≥20)) from by funext K;cases k==6<;>rfl]
 rw [show (aa (cond (k==17) (some (decide ((s.length:Int)≥8))) (some false)):(Bool→Option (a7×Bool))→Option (a7×Bool))=fun K=>K ((k==17)&&decide ((s.length:Int)≥8)) from by funext K;cases k==17<;>rfl]
 simp only
 cases h1:(k==6)&&decide ((s.length:Int)≥20) with
 |true=>
  simp only [Bool.and_eq_true,decide_eq_true_eq] at h1
  have bb:=lg (s[13]'(by omega))
  have i:idx s 13=some (s[13]'(by omega)):=ay (i:=13) (by omega)
  have e:(k,bh s 0,bh s 2,du s 4,du s 8,((s[13]'(by omega)).toNat:Int),bh s 14,s.drop 20)=Al k s:=by
   simp only [Al,aR,br (show 13<s.length by omega)]
  simp only [cond_true,i,ab]
  rw [nz (l:=s) 20 (by omega) (show (20:Int)=((20:Nat):Int) from rfl),eO (n:=(s[13]'(by omega)).toNat) (by omega)]
  simp only [ab,e,xA]
  cases (sj a b (Al k s)).2<;>cases (sj a b (Al k s)).1==s<;>rfl
 |false=>
  simp only [cond_false]
  cases h2:(k==17)&&decide ((s.length:Int)≥8) with
  |false=>rfl
  |true=>
   simp only [Bool.and_eq_true,decide_eq_true_eq] at h2
   rw [nz (l:=s) 8 (by omega) (show (8:Int)=((8:Nat):Int) from rfl)]
   simp only [cond_true,ab,show ((k,bh s 0,bh s 2,0,0,0,0,s.drop 8):a7)=D2 k s from rfl,xA]
   cases (sj a b (D2 k s)).2<;>cases (sj a b (D2 k s)).1==s<;>rfl
theorem Du (a b k:Int)(s:Bytes)(h:s.length≤1000000000):hH a b k s=some (pL a b k s):=by
 unfold hH pL
 simp only [tV s _ h,tW s _ h,ab]
 rw [show (aa (cond (k==6) (some (decide ((s.length:Int)≥20))) (some false)):(Bool→Option (a7×Bool))→Option (a7×Bool))=fun K=>K ((k==6)&&decide ((s.length:Int)≥20)) from by funext K;cases k==6<;>rfl]
 rw [show (aa (cond (k==17) (some (decide ((s.length:Int)≥8))) (some false)):(Bool→Option (a7×Bool))→Option (a7×Bool))=fun K=>K ((k==17)&&decide ((s.length:Int)≥8)) from by funext K;cases k==17<;>rfl]
 simp only
 cases h1:(k==6)&&decide ((s.length:Int)≥20) with
 |true=>
  simp only [Bool.and_eq_true,decide_eq_true_eq] at h1
  have bb:=lg (s[13]'(by omega))
  have i:idx s 13=some (s[13]'(by omega)):=ay (i:=13) (by omega)
  have e:(k,bh s 0,bh s 2,du s 4,du s 8,((s[13]'(by omega)).toNat:Int),bh s 14,s.drop 20)=Al k s:=by
   simp only [Al,aR,br (show 13<s.length by omega)]
  simp only [cond_true,i,ab]
  rw [nz (l:=s) 20 (by omega) (show (20:Int)=((20:Nat):Int) from rfl),eO (n:=(s[13]'(by omega)).toNat) (by omega)]
  simp only [ab,e,xl]
  cases (sj a b (Al k s)).2<;>cases (sj a b (Al k s)).1==s<;>rfl
 |false=>
  simp only [cond_false]
  cases h2:(k==17)&&decide ((s.length:Int)≥8) with
  |false=>rfl
  |true=>
   simp only [Bool.and_eq_true,decide_eq_true_eq] at h2
   rw [nz (l:=s) 8 (by omega) (show (8:Int)=((8:Nat):Int) from rfl)]
   simp only [cond_true,ab,show ((k,bh s 0,bh s 2,0,0,0,0,s.drop 8):a7)=D2 k s from rfl,xl]
   cases (sj a b (D2 k s)).2<;>cases (sj a b (D2 k s)).1==s<;>rfl
def Uh:aQ:=(0,0,0,0,0,0,0,0,0,0,0,0,0,0,0,([]:Bytes))
def uA (s:Bytes):aQ×Int:=
 let e:=l9 s
 bif !e.2||(e.1.2.2.2.1 !=2048) then (Uh,2) else
 let i:=oy e.1.2.2.2.2
 bif !i.2 then (Uh,3) else
 let g:=pL i.1.2.2.2.2.1 i.1.2.2.2.2.2.1 i.1.2.2.2.1 i.1.2.2.2.2.2.2
 bif !g.2 then (Uh,4) else
 bif !fP (e.1.1,e.1.2.1,e.1.2.2.1,i.1.1,i.1.2.1,i.1.2.2.1,i.1.2.2.2.2.1,i.1.2.2.2.2.2.1,g.1) then (Uh,5) else
 ((e.1.1,e.1.2.1,e.1.2.2.1,i.1.1,i.1.2.1,i.1.2.2.1,i.1.2.2.2.2.1,i.1.2.2.2.2.2.1,g.1),0)
theorem vR (s:Bytes):(l9 s).1.2.2.2.2.length≤s.length:=by
 unfold l9
 cases decide ((s.length:Int)<18) with|true=>simp [Mi]|false=> ?_
 cases bh s 12==33024<;>cases wF (E0 s)<;>cases wF (ur s)<;>simp [Mi,E0,ur]
theorem xu (s:Bytes):(oy s).1.2.2.2.2.2.2.length≤s.length:=by
 unfold oy
 cases decide ((s.length:Int)<20)||(decide (bh s 2<20)||decide (bh s 2>(s.length:Int))) with|true=>simp [ip0]|false=> ?_
 cases (JC (vL s)).2&&((JC (vL s)).1==s.take (bh s 2).toNat) with
 |false=>simp [ip0]
 |true=>simp [vL];omega
theorem Lt (s:Bytes)(h:s.length≤1000000000):mq s=some (uA s):=by
 have h1:=vR s
 unfold mq uA
 rw [D7 s h,ab]
 generalize l9 s=e at h1⊢
 have h2:=xu e.1.2.2.2.2
 simp only
 cases e.2 with|false=>rfl|true=> ?_
 cases e.1.2.2.2.1 !=2048 with|true=>rfl|false=> ?_
 simp only [Bool.not_true,cond_false,ab,Bool.or_self,Gm _ (show e.1.2.2.2.2.length≤1000000000 by omega)]
 generalize oy e.1.2.2.2.2=i at h2⊢
 cases i.2 with|false=>rfl|true=> ?_
 simp only [Bool.not_true,cond_false,ab,D8 _ _ _ _ (show i.1.2.2.2.2.2.2.length≤1000000000 by omega)]
 generalize pL i.1.2.2.2.2.1 i.1.2.2.2.2.2.1 i.1.2.2.2.1 i.1.2.2.2.2.2.2=g
 cases g.2 with|false=>rfl|true=> ?_
 simp only [Bool.not_true,cond_false,ab,w9]
 cases fP (e.1.1,e.1.2.1,e.1.2.2.1,i.1.1,i.1.2.1,i.1.2.2.1,i.1.2.2.2.2.1,i.1.2.2.2.2.2.1,g.1)<;>rfl
theorem KB (s:Bytes)(h:s.length≤1000000000):lA s=some (uA s):=by
 have h1:=vR s
 unfold lA uA
 rw [Dt s h,ab]
 generalize l9 s=e at h1⊢
 have h2:=xu e.1.2.2.2.2
 simp only
 cases e.2 with|false=>rfl|true=> ?_
 cases e.1.2.2.2.1 !=2048 with|true=>rfl|false=> ?_
 simp only [Bool.not_true,cond_false,ab,Bool.or_self,Ft _ (show e.1.2.2.2.2.length≤1000000000 by omega)]
 generalize oy e.1.2.2.2.2=i at h2⊢
 cases i.2 with|false=>rfl|true=> ?_
 simp only [Bool.not_true,cond_false,ab,Du _ _ _ _ (show i.1.2.2.2.2.2.2.length≤1000000000 by omega)]
 generalize pL i.1.2.2.2.2.1 i.1.2.2.2.2.2.1 i.1.2.2.2.1 i.1.2.2.2.2.2.2=g
 cases g.2 with|false=>rfl|true=> ?_
 simp only [Bool.not_true,cond_false,ab,wJ]
 cases fP (e.1.1,e.1.2.1,e.1.2.2.1,i.1.1,i.1.2.1,i.1.2.2.1,i.1.2.2.2.2.1,i.1.2.2.2.2.2.1,g.1)<;>rfl
def af7 (s:Bytes):aQ×Int:=
 let c:=G4 s
 bif !c.2 then (Uh,1) else
 let r:=uA c.1
 bif r.2 !=0 then (Uh,r.2) else
 bif !PV r.1 then (Uh,5) else (r.1,0)
theorem RB (s:Bytes):(G4 s).1.length≤s.length:=by
 unfold G4
 cases decide ((s.length:Int)<4) with|true=>simp|false=> ?_
 cases J5 (s.take ((s.length:Int)-4).toNat)==s with
 |false=>simp
 |true=>simp;omega
end
end Go.Pu
end
section
namespace Go.Pu
open Go.Dn
set_option linter.unusedSimpArgs false
noncomputable section
def E1 {α:Type}(a b:α):Bool:= @decide (a=b) (Classical.propDecidable _)
theorem vo {α:Type}{a b:α}:E1 a b=true↔a=b:=by unfold E1;exact @decide_eq_true_iff _ (Classical.propDecidable _)
theorem Hd {α:Type}{a b:α}{x:Bool}(h:x=true↔a=b):x=E1 a b:=by rw [Bool.eq_iff_iff,vo];exact h
theorem agb {α:Type}[BEq α][LawfulBEq α](a b:α):(a==b)=E1 a b:=Hd beq_iff_eq
theorem L9 {α β:Type}(a b:α)(c d:β):E1 (a,c) (b,d)=(E1 a b&&E1 c d):=by
 rw [Bool.eq_iff_iff];simp only [Bool.and_eq_true,vo,Prod.mk.injEq]
theorem W6 {α β:Type}(a b:α×β):E1 a b=(E1 a.1 b.1&&E1 a.2 b.2):=L9 a.1 b.1 a.2 b.2
theorem Ma {α:Type}{a b:α}(h:a=b):E1 a b=true:=vo.2 h
theorem Ki {α:Type}{a b:α}(h:¬a=b):E1 a b=false:=by rw [Bool.eq_false_iff,ne_eq,vo];exact h
theorem Mh {α R:Type}{T:(Int→Option R)→Int→Option R}{fin hit:Option R}(p:α→α→Bool)(hp:∀x y,p x y=true↔x=y)(a b:List α)(hl:a.length=b.length)(h:a.length≤1000000000)
 (hs:∀i (hi:i<a.length) nx,T nx (i:Int)=cond (!(p a[i] (b[i]'(hl▸hi)))) hit (nx ((i+1:Nat):Int))) (hf:∀nx,T nx (a.length:Int)=fin):
 aq T fuel 0=cond (E1 a b) fin hit:=by
 have hq:∀i,i<a.length→i<b.length:=fun i hi=>hl▸hi
 rw [iQ (fin:=fin) (hit:=hit) (fun i=>E1 a[i]? b[i]?) a.length (by omega) ?hs hf]
 case hs=>
  intro i nx hi
  rw [hs i hi,List.getElem?_eq_getElem hi,List.getElem?_eq_getElem (hq i hi)]
  have:p a[i] (b[i]'(hq i hi))=E1 (some a[i]) (some (b[i]'(hq i hi))):=Hd (by rw [hp,Option.some.injEq])
  rw [this]
 congr 1
 apply Hd
 rw [List.all_eq_true]
 constructor
 ·intro k
  apply List.ext_getElem?
  intro i
  by_cases hi:i<a.length
  ·exact vo.1 (k i (List.mem_range.2 hi))
  ·rw [List.getElem?_eq_none (by omega),List.getElem?_eq_none (by omega)]
 ·rintro rfl i _;exact Ma rfl
theorem aaO {α:Type}{T:(Int→Option Bool)→Int→Option Bool}(p:α→α→Bool)(hp:∀x y,p x y=true↔x=y)(a b:List α)(h:a.length≤1000000000)
 (hs:a.length=b.length→∀i (hi:i<a.length)(hi':i<b.length) nx,T nx (i:Int)=cond (!(p a[i] b[i])) (some false) (nx ((i+1:Nat):Int))) (hf:∀nx,T nx (a.length:Int)=some true):
 cond ((a.length:Int) !=(b.length:Int)) (some false) (aq T fuel 0)=some (E1 a b):=by
 by_cases hl:a.length=b.length
 ·rw [Mh p hp a b hl h (fun i hi nx=>hs hl i hi (hl▸hi) nx) hf]
  rw [show ((a.length:Int) !=(b.length:Int))=false by simp [hl]]
  cases E1 a b<;>rfl
 ·rw [Ki (fun e=>hl (by rw [e]))]
  rw [show ((a.length:Int) !=(b.length:Int))=true by simp;omega]
  rfl
end
end Go.Pu
end
section
namespace Go.Pu
open Go.Dn
set_option linter.unusedSimpArgs false
set_option linter.unusedVariables false
noncomputable section
theorem xL (l:List Bytes)(h:l.length≤1000000000):dJ l=some l:=by
 simp only [dJ,bW h,List.nil_append]
theorem zH (f:Filter)(h:f.2.2.length≤1000000000):kk f=some f:=by
 simp only [kk,ik _ h,ab]
theorem Ap (f:Filter)(h:f.2.2.length≤1000000000):oK f=some f:=by
 simp only [oK,bW h,List.nil_append]
theorem nW (l:List Stream)(h:l.length≤1000000000):dI l=some l:=by
 simp only [dI,bW h,List.nil_append]
theorem Ba (t:List Slot)(h:t.length≤1000000000):lE t=some t:=by
 simp only [lE,bW h,List.nil_append]
theorem zI (s:di)(h:s.2.length≤1000000000):kl s=some s:=by
 simp only [kl,ik _ h,ab]
theorem AZ (s:bw)(h1:s.1.length≤1000000000)(h2:s.2.1.length≤1000000000)(h3:s.2.2.2.length≤1000000000):hU s=some s:=by
 simp only [hU,bW h1,Ba _ h2,zI _ h3,ab,List.nil_append]
theorem Bo (t:List Slot)(h:t.length≤1000000000):oF t=some t:=by
 simp only [oF,bW h,List.nil_append]
theorem Bn (s:bw)(h1:s.1.length≤1000000000)(h2:s.2.1.length≤1000000000)(h3:s.2.2.2.length≤1000000000):oH s=some s:=by
 simp only [oH,bW h1,Bo _ h2,bW h3,ab,List.nil_append]
theorem Ck (l:List cq)(i:Nat)(hi:i<l.length):l.take i++[(l[i].1,l[i].2.1,l[i].2.2)]=l.take (i+1):=(List.take_succ_eq_append_getElem hi).symm
theorem Dr (l:List cq)(h:l.length≤1000000000)(hx:∀x∈l,x.2.2.length≤1000000000):m7 l=some l:=by
 unfold m7
 refine (ck (fun i=>(l.take i,(i:Int))) l.length (by omega) (fun i nx hi=> ?_) (fun nx=> ?_))
 ·simp only [jc]
  rw [decide_eq_true (by omega),ay hi,wrap64 (by omega) (by omega)]
  simp only [cond_true,ab,ik _ (hx _ (List.getElem_mem hi))]
  rw [au (by simp;omega),Ck l i hi];rfl
 ·simp only [jc]
  rw [decide_eq_false (by omega),List.take_length];rfl
structure Rr (t:bu):Prop where
 p:t.2.1.2.2.2.length≤1000000000
 w:t.2.2.1.length≤1000000000
 x:∀x∈t.2.2.1,x.2.2.length≤1000000000
theorem Hu (t:bu)(z:Rr t):qa t=some t:=by
 simp only [qa,nB _ z.p,Dr _ z.w z.x,ab]
theorem Im (t:bu)(z:Rr t):oJ t=some t:=by
 have h:=z.w
 unfold oJ
 simp only [pc _ z.p,ab]
 refine (ck (fun i=>((i:Int),t.1,t.2.1,t.2.2.1.take i,t.2.2.2)) t.2.2.1.length (by omega) (fun i nx hi=> ?_) (fun nx=> ?_))
 ·simp only [kI]
  rw [decide_eq_true (by omega),ay hi,wrap64 (by omega) (by omega)]
  simp only [cond_true,ab,bW (z.x _ (List.getElem_mem hi)),List.nil_append]
  rw [au (by simp;omega),Ck _ i hi];rfl
 ·simp only [kI]
  rw [decide_eq_false (by omega),List.take_length];rfl
theorem Qt {h:Host}(z:aC 1000000000 a8 h):Rr h.2.2.1:=⟨z.2.2.1.2.1.2.2.2.1,z.2.2.1.2.2.1.1,fun x hx=>(z.2.2.1.2.2.1.2 x hx).2.2.1⟩
theorem Dq (h:Host)(z:aC 1000000000 a8 h):m6 h=some h:=by
 have hp:h.2.2.2.2.1.length≤1000000000:=z.2.2.2.2.1.1
 have hm:h.1.length≤1000000000:=z.1.1
 unfold m6
 simp only [gQ _ (show h.1.length≤1073741824 by omega),lD,bW z.2.1.1,Hu _ (Qt z),bW z.2.2.2.1.1,ab,List.nil_append]
 refine (ck (fun i=>((i:Int),h.1,h.2.1,h.2.2.1,h.2.2.2.1,h.2.2.2.2.1.take i,h.2.2.2.2.2)) h.2.2.2.2.1.length (by omega) (fun i nx hi=> ?_) (fun nx=> ?_))
 ·simp only [jb]
  rw [decide_eq_true (by omega),ay hi,wrap64 (by omega) (by omega)]
  simp only [cond_true,ab,nB _ (z.2.2.2.2.1.2 _ (List.getElem_mem hi)).2.2.2.1]
  rw [au (by simp;omega),←List.take_succ_eq_append_getElem hi];rfl
 ·simp only [jb]
  rw [decide_eq_false (by omega),List.take_length]
  simp only [cond_false,bW z.2.2.2.2.2.1.1,bW z.2.2.2.2.2.2.1.1,zH _ z.2.2.2.2.2.2.2.1.2.2.1,AZ _ z.2.2.2.2.2.2.2.2.1.1.1 z.2.2.2.2.2.2.2.2.1.2.1.1 z.2.2.2.2.2.2.2.2.1.2.2.2.1,
   nW _ z.2.2.2.2.2.2.2.2.2.1.1,xL _ z.2.2.2.2.2.2.2.2.2.2.2.1.1,ik _ z.2.2.2.2.2.2.2.2.2.2.2.2.1.1,ik _ z.2.2.2.2.2.2.2.2.2.2.2.2.2.1.1,ab,List.nil_append]
theorem D6 (h:Host)(z:aC 1000000000 a8 h):oL h=some h:=by
 have hp:h.2.2.2.2.1.length≤1000000000:=z.2.2.2.2.1.1
 have hm:h.1.length≤1000000000:=z.1.1
 unfold oL
 simp only [mF _ (show h.1.length≤1073741824 by omega),bW z.2.1.1,Im _ (Qt z),bW z.2.2.2.1.1,ab,List.nil_append]
 refine (ck (fun i=>((i:Int),h.1,h.2.1,h.2.2.1,h.2.2.2.1,h.2.2.2.2.1.take i,h.2.2.2.2.2)) h.2.2.2.2.1.length (by omega) (fun i nx hi=> ?_) (fun nx=> ?_))
 ·simp only [kJ]
  rw [decide_eq_true (by omega),ay hi,wrap64 (by omega) (by omega)]
  simp only [cond_true,ab,pc _ (z.2.2.2.2.1.2 _ (List.getElem_mem hi)).2.2.2.1]
  rw [au (by simp;omega),←List.take_succ_eq_append_getElem hi];rfl
 ·simp only [kJ]
  rw [decide_eq_false (by omega),List.take_length]
  simp only [cond_false,bW z.2.2.2.2.2.1.1,bW z.2.2.2.2.2.2.1.1,Ap _ z.2.2.2.2.2.2.2.1.2.2.1,Bn _ z.2.2.2.2.2.2.2.2.1.1.1 z.2.2.2.2.2.2.2.2.1.2.1.1 z.2.2.2.2.2.2.2.2.1.2.2.2.1,
   bW z.2.2.2.2.2.2.2.2.2.1.1,bW z.2.2.2.2.2.2.2.2.2.2.2.1.1,bW z.2.2.2.2.2.2.2.2.2.2.2.2.1.1,bW z.2.2.2.2.2.2.2.2.2.2.2.2.2.1.1,ab,List.nil_append]
theorem IV:∀l:List cq,(bT l).length≤eW (.sl bG) l
 |[]=>by simp [bT]
 |x::l=>by
  have:=IV l
  simp only [bT,eW,List.flatMap_cons,List.length_append,List.map_cons,List.sum_cons,List.length_cons] at this⊢
  omega
theorem Kt {h:Host}(z:aC 1000000000 a8 h)(k:eW aY h.2.2.1≤500000000):uI h:=by
 have hb:=IV h.2.2.1.2.2.1
 have hp:h.2.2.1.2.1.2.2.2.length≤eW aY h.2.2.1:=by simp only [eW];omega
 have hw:eW (.sl bG) h.2.2.1.2.2.1≤eW aY h.2.2.1:=by simp only [eW];omega
 exact ⟨z.1.1,z.2.1.1,z.2.2.1.2.2.1.1,by omega,z.2.2.2.2.2.2.2.1.2.2.1,z.2.2.2.2.2.2.2.2.1.1.1,z.2.2.2.2.2.2.2.2.1.2.1.1,z.2.2.2.2.2.2.2.2.1.2.2.2.1,fun p hp=>(z.2.2.2.2.1.2 p hp).2.2.2.1⟩
theorem My {h:Host}(k:eW a8 h≤1048576):uI h:=by
 refine Kt ((wm (n:=1048576) (by omega)).mono (by omega)) ?_
 have:eW aY h.2.2.1≤eW a8 h:=by simp only [eW];omega
 omega
end
end Go.Pu
end
section
namespace Go.Pu
open Go.Dn
end Go.Pu
end
section
namespace Go.Pu
open Go.Dn
set_option linter.unusedSimpArgs false
set_option linter.unusedVariables false
noncomputable section
def OZ (f:Int×Int×Int×Int×Int)(s:Stream):Bool:=decide (s.1=f)
def xU (l:List Stream)(f:Int×Int×Int×Int×Int):Int:=match l.findIdx? (OZ f) with|some i=>(i:Int)|none=> -1
theorem NG (l:List Stream)(f:Int×Int×Int×Int×Int)(h:l.length≤1000000000):jr l f=some (xU l f):=by
 unfold jr xU
 rw [tR (p:=OZ f) (hit:=fun i=>some i) (fin:=some (-1)) l (by omega) (fun i hi nx=> ?hs) (fun nx=> ?hf)]
 case hs=>
  simp only [fi]
  rw [decide_eq_true (by omega),ay hi,wrap64 (by omega) (by omega)]
  simp only [cond_true,ab,vw,OZ];rfl
 case hf=>
  simp only [fi]
  rw [decide_eq_false (by omega)];rfl
 cases l.findIdx? (OZ f)<;>rfl
theorem MK (l:List Stream)(f:Int×Int×Int×Int×Int)(h:l.length≤1000000000):iW l f=some (xU l f):=by
 unfold iW xU
 rw [tR (p:=OZ f) (hit:=fun i=>some i) (fin:=some (-1)) l (by omega) (fun i hi nx=> ?hs) (fun nx=> ?hf)]
 case hs=>
  simp only [fa]
  rw [decide_eq_true (by omega),ay hi,wrap64 (by omega) (by omega)]
  simp only [cond_true,ab,vw,OZ];rfl
 case hf=>
  simp only [fa]
  rw [decide_eq_false (by omega)];rfl
 cases l.findIdx? (OZ f)<;>rfl
def Ix:Stream:=((0,0,0,0,0),0,([]:Bytes),false)
def body (p:aQ):Bytes:=p.2.2.2.2.2.2.2.2.2.2.2.2.2.2.2
def udp (p:aQ):Bytes:=bA ((body p).length:Int)++body p
def nT (p:aQ)(b:Int):Bool:=IntKind.wrap .i64 (BitVec.toNat (BitVec.ofInt (IntKind.bits .i64) p.2.2.2.2.2.2.2.2.2.2.2.2.2.1&&&BitVec.ofInt (IntKind.bits .i64) b)) !=0
def ij (s:Stream)(p:aQ):Int:=(s.2.1-p.2.2.2.2.2.2.2.2.2.2.2.1)%4294967296
def af8 (p:aQ)(r:Int):Bytes:=((body p).take (body p).length).drop r.toNat
def Qc (s:Stream)(p:aQ):Stream:=(s.1,(s.2.1+((body p).length:Int)-ij s p)%4294967296,s.2.2.1++(body p).drop (ij s p).toNat,nT p 1)
def lj (l:List Stream)(p:aQ):List Stream:=
 bif !fP p then l else
 match l.findIdx? (OZ (ln p)) with
 |none=>
  bif p.2.2.2.2.2.2.2.2.1==17 then l++[(ln p,0,udp p,false)] else
  bif nT p 2 then l++[(ln p,Int.tmod (IntKind.wrap .i64 (p.2.2.2.2.2.2.2.2.2.2.2.1+1)) 4294967296,([]:Bytes),false)] else l
 |some i=>
  bif p.2.2.2.2.2.2.2.2.1==17 then l.set i ((l.getD i Ix).1,(l.getD i Ix).2.1,(l.getD i Ix).2.2.1++udp p,(l.getD i Ix).2.2.2) else
  bif nT p 2 then l else
  bif (l.getD i Ix).2.2.2||nT p 4 then l else
  bif decide (ij (l.getD i Ix) p≤((body p).length:Int)) then l.set i (Qc (l.getD i Ix) p) else l
theorem Ep (s:Stream)(p:aQ):0≤ij s p∧ij s p<4294967296:=by unfold ij;omega
theorem TX (x:Int):IntKind.wrap .i64 (BitVec.toNat (BitVec.ofInt (IntKind.bits .i64) x&&&BitVec.ofInt (IntKind.bits .i64) 4294967295))=x%4294967296:=by
 have:=sT x 32 (by omega)
 rw [show ((2:Int)^32-1)=4294967295 from rfl,show ((2:Int)^32)=4294967296 from rfl] at this
 rw [this,wrap64 (by omega) (by omega)]
theorem OY (x:Int):IntKind.wrap .i64 x%4294967296=x%4294967296:=by
 have:=re x 32 (by omega)
 rwa [show ((2:Int)^32)=4294967296 from rfl] at this
theorem vX {α:Type}(l:List α)(x y:α):(l++[x]).set l.length y=l++[y]:=by
 rw [List.set_append_right _ _ (Nat.le_refl _),Nat.sub_self,List.set_cons_zero]
theorem Jx {α:Type}{l:List α}{i:Nat}(h:i<l.length)(x:α):idx (l.set i x) (i:Int)=some x:=by
 rw [ya,List.getElem?_set_self h]
theorem oe {α:Type}(l:List α)(x:α):idx (l++[x]) (l.length:Int)=some x:=by
 rw [ya,List.getElem?_append_right (Nat.le_refl _),Nat.sub_self];rfl
theorem yu {p:aQ}(h:fP p=true):(body p).length≤320:=Ay h
theorem vB (l:List Stream)(p:aQ)(h:aC 900000000 (.sl az) l):lq l p=some (lj l p):=by
 have hl:l.length≤900000000:=h.1
 unfold lq lj
 simp only [nW l (by omega),wJ,ab,MB,MK l _ (show l.length≤1000000000 by omega),o3]
 cases hs:fP p with|false=>rfl|true=> ?_
 have hb:=yu hs
 have hw:=aF ((body p).length:Int)
 simp only [Bool.not_true,cond_false]
 rw [show p.2.2.2.2.2.2.2.2.2.2.2.2.2.2.2=body p from rfl]
 cases hf:l.findIdx? (OZ (ln p)) with
 |none=>
  have e1:xU l (ln p)= -1:=by rw [xU,hf]
  simp only [e1,show decide ((-1:Int)<0)=true from rfl,cond_true]
  cases p.2.2.2.2.2.2.2.2.1==17 with
  |true=>
   simp only [cond_true]
   rw [au (by simp;omega),oe,ab]
   simp only
   rw [au (by omega),au (by simp only [List.length_append,List.length_nil];omega),ab,Int.toNat_natCast]
   simp only [ab,oe,vX,List.nil_append];rfl
  |false=>
   simp only [cond_false]
   rw [show (IntKind.wrap .i64 (BitVec.toNat (BitVec.ofInt (IntKind.bits .i64) p.2.2.2.2.2.2.2.2.2.2.2.2.2.1&&&BitVec.ofInt (IntKind.bits .i64) 2)) !=0)=nT p 2 from rfl]
   cases nT p 2 with
   |true=>
    simp only [cond_true]
    rw [if_neg (by omega),au (by simp;omega)]
   |false=>rfl
 |some i=>
  obtain ⟨hi,_⟩:=List.findIdx?_eq_some_iff_getElem.1 hf
  have hd:(l[i].2.2.1).length≤900000000:=(h.2 _ (List.getElem_mem hi)).2.2.1
  have e1:xU l (ln p)=(i:Int):=by rw [xU,hf]
  simp only [e1,decide_eq_false (show¬(i:Int)<0 by omega),cond_false,ay hi,ab,br hi,Int.toNat_natCast]
  cases p.2.2.2.2.2.2.2.2.1==17 with
  |true=>
   simp only [cond_true]
   rw [au (by omega),au (by simp only [List.length_append];omega)];rfl
  |false=>
   simp only [cond_false]
   rw [show (IntKind.wrap .i64 (BitVec.toNat (BitVec.ofInt (IntKind.bits .i64) p.2.2.2.2.2.2.2.2.2.2.2.2.2.1&&&BitVec.ofInt (IntKind.bits .i64) 2)) !=0)=nT p 2 from rfl,
    show (IntKind.wrap .i64 (BitVec.toNat (BitVec.ofInt (IntKind.bits .i64) p.2.2.2.2.2.2.2.2.2.2.2.2.2.1&&&BitVec.ofInt (IntKind.bits .i64) 4)) !=0)=nT p 4 from rfl,
    show (IntKind.wrap .i64 (BitVec.toNat (BitVec.ofInt (IntKind.bits .i64) p.2.2.2.2.2.2.2.2.2.2.2.2.2.1&&&BitVec.ofInt (IntKind.bits .i64) 1)) !=0)=nT p 1 from rfl]
   cases nT p 2 with|true=>rfl|false=> ?_
   simp only [cond_false]
   rw [show (aa (cond l[i].2.2.2 (some true) (some (nT p 4))):(Bool→Option (List Stream))→Option (List Stream))=fun K=>K (l[i].2.2.2||nT p 4) from by funext K;cases l[i].2.2.2<;>rfl]
   simp only
   cases l[i].2.2.2||nT p 4 with|true=>rfl|false=> ?_
   simp only [cond_false,B5 _ 4294967296 (by omega) (by omega),ab,OY]
   rw [show (l[i].2.1-p.2.2.2.2.2.2.2.2.2.2.2.1)%4294967296=ij l[i] p from rfl]
   have ha:=Ep l[i] p
   by_cases hq:ij l[i] p≤((body p).length:Int)
   ·rw [decide_eq_true hq,nz (l:=body p) (ij l[i] p).toNat (by omega) (by omega)]
    simp only [cond_true,ab]
    rw [au (by rw [List.length_drop];omega)]
    simp only [Jx hi,ab,List.set_set]
    refine congrArg some (congrArg (l.set i) ?_)
    simp only [Qc]
    rw [show (IntKind.wrap .i64 (l[i].2.1+((body p).length:Int))-ij l[i] p)%4294967296=(l[i].2.1+((body p).length:Int)-ij l[i] p)%4294967296 from by
     rw [Int.sub_emod,OY,←Int.sub_emod]]
   ·rw [decide_eq_false hq];rfl
theorem wa (l:List Stream)(p:aQ)(h:aC 900000000 (.sl az) l):me l p=some (lj l p):=by
 have hl:l.length≤900000000:=h.1
 unfold me lj
 rw [bW (by omega)]
 simp only [List.nil_append,w9,ab,Nw,NG l _ (show l.length≤1000000000 by omega),kQ]
 cases hs:fP p with|false=>rfl|true=> ?_
 have hb:=yu hs
 have hw:=aF ((body p).length:Int)
 simp only [Bool.not_true,cond_false]
 rw [show p.2.2.2.2.2.2.2.2.2.2.2.2.2.2.2=body p from rfl]
 cases hf:l.findIdx? (OZ (ln p)) with
 |none=>
  have e1:xU l (ln p)= -1:=by rw [xU,hf]
  simp only [e1,show decide ((-1:Int)<0)=true from rfl,cond_true]
  cases p.2.2.2.2.2.2.2.2.1==17 with
  |true=>
   simp only [cond_true]
   rw [au (by simp;omega),oe,ab]
   simp only
   rw [au (by simp only [List.length_nil];omega),au (by simp only [List.length_append,List.length_nil];omega),ab,Int.toNat_natCast]
   simp only [ab,oe,vX,List.nil_append];rfl
  |false=>
   simp only [cond_false]
   rw [show (IntKind.wrap .i64 (BitVec.toNat (BitVec.ofInt (IntKind.bits .i64) p.2.2.2.2.2.2.2.2.2.2.2.2.2.1&&&BitVec.ofInt (IntKind.bits .i64) 2)) !=0)=nT p 2 from rfl]
   cases nT p 2 with
   |true=>
    simp only [cond_true]
    rw [if_neg (by omega),au (by simp;omega)]
   |false=>rfl
 |some i=>
  obtain ⟨hi,_⟩:=List.findIdx?_eq_some_iff_getElem.1 hf
  have hd:(l[i].2.2.1).length≤900000000:=(h.2 _ (List.getElem_mem hi)).2.2.1
  have e1:xU l (ln p)=(i:Int):=by rw [xU,hf]
  simp only [e1,decide_eq_false (show¬(i:Int)<0 by omega),cond_false,ay hi,ab,br hi,Int.toNat_natCast]
  cases p.2.2.2.2.2.2.2.2.1==17 with
  |true=>
   simp only [cond_true]
   rw [au (by omega),au (by simp only [List.length_append];omega),List.append_assoc];rfl
  |false=>
   simp only [cond_false]
   rw [show (IntKind.wrap .i64 (BitVec.toNat (BitVec.ofInt (IntKind.bits .i64) p.2.2.2.2.2.2.2.2.2.2.2.2.2.1&&&BitVec.ofInt (IntKind.bits .i64) 2)) !=0)=nT p 2 from rfl,
    show (IntKind.wrap .i64 (BitVec.toNat (BitVec.ofInt (IntKind.bits .i64) p.2.2.2.2.2.2.2.2.2.2.2.2.2.1&&&BitVec.ofInt (IntKind.bits .i64) 4)) !=0)=nT p 4 from rfl,
    show (IntKind.wrap .i64 (BitVec.toNat (BitVec.ofInt (IntKind.bits .i64) p.2.2.2.2.2.2.2.2.2.2.2.2.2.1&&&BitVec.ofInt (IntKind.bits .i64) 1)) !=0)=nT p 1 from rfl]
   cases nT p 2 with|true=>rfl|false=> ?_
   simp only [cond_false]
   rw [show (aa (cond l[i].2.2.2 (some true) (some (nT p 4))):(Bool→Option (List Stream))→Option (List Stream))=fun K=>K (l[i].2.2.2||nT p 4) from by funext K;cases l[i].2.2.2<;>rfl]
   simp only
   cases l[i].2.2.2||nT p 4 with|true=>rfl|false=> ?_
   simp only [cond_false,TX,ab,OY]
   rw [show (l[i].2.1-p.2.2.2.2.2.2.2.2.2.2.2.1)%4294967296=ij l[i] p from rfl]
   have ha:=Ep l[i] p
   by_cases hq:ij l[i] p≤((body p).length:Int)
   ·rw [decide_eq_true hq,nz (l:=body p) (ij l[i] p).toNat (by omega) (by omega)]
    simp only [cond_true,ab]
    rw [au (by rw [List.length_drop];omega)]
    simp only [Jx hi,ab,List.set_set,if_neg (show¬(4294967296:Nat)=0 by omega)]
    refine congrArg some (congrArg (l.set i) ?_)
    simp only [Qc]
    have e:Int.tmod (IntKind.wrap .i64 (IntKind.wrap .i64 (l[i].2.1%4294967296+((body p).length:Int))-ij l[i] p)) 4294967296=(l[i].2.1+((body p).length:Int)-ij l[i] p)%4294967296:=by
     rw [wrap64 (n:=l[i].2.1%4294967296+((body p).length:Int)) (by omega) (by omega),wrap64 (by omega) (by omega),Int.tmod_eq_emod_of_nonneg (by omega)]
     omega
    rw [e]
   ·rw [decide_eq_false hq];rfl
theorem Qs (l:List Stream)(p:aQ)(h:aC 100000000 (.sl az) l):lq l p=some (lj l p):=vB l p (h.mono (by omega))
theorem Qy (l:List Stream)(p:aQ)(h:aC 100000000 (.sl az) l):me l p=some (lj l p):=wa l p (h.mono (by omega))
theorem De {l:List Stream}{p:aQ}{n:Nat}(h:aC n (.sl az) l):aC (n+322) (.sl az) (lj l p):=by
 have h':aC (n+322) (.sl az) l:=h.mono (by omega)
 unfold lj
 cases hs:fP p with|false=>exact h'|true=> ?_
 have hb:=yu hs
 have hw:=aF ((body p).length:Int)
 have hu:(udp p).length≤322:=by simp only [udp,List.length_append];omega
 simp only [Bool.not_true,cond_false]
 have app:∀x:Stream,x.2.2.1.length≤n+322→aC (n+322) (.sl az) (l++[x]):=by
  intro x hx
  refine ⟨?_,fun y hy=> ?_⟩
  ·have:l.length≤n:=h.1
   simp only [List.length_append,List.length_singleton];omega
  ·rcases List.mem_append.1 hy with g|g
   ·exact h'.2 y g
   ·rw [List.mem_singleton.1 g];exact ⟨⟨trivial,trivial,trivial,trivial,trivial⟩,trivial,hx,trivial⟩
 have put:∀(i:Nat)(x:Stream),x.2.2.1.length≤n+322→aC (n+322) (.sl az) (l.set i x):=by
  intro i x hx
  refine ⟨?_,fun y hy=> ?_⟩
  ·show (l.set i x).length≤_
   rw [List.length_set];exact h'.1
  ·rcases List.mem_or_eq_of_mem_set hy with g|rfl
   ·exact h'.2 y g
   ·exact ⟨⟨trivial,trivial,trivial,trivial,trivial⟩,trivial,hx,trivial⟩
 split
 ·cases p.2.2.2.2.2.2.2.2.1==17 with
  |true=>exact app _ (show (udp p).length≤_ by omega)
  |false=>
   cases nT p 2 with
   |true=>exact app _ (Nat.zero_le _)
   |false=>exact h'
 ·rename_i i hf
  obtain ⟨hi,_⟩:=List.findIdx?_eq_some_iff_getElem.1 hf
  have hd:(l[i].2.2.1).length≤n:=(h.2 _ (List.getElem_mem hi)).2.2.1
  simp only [br hi]
  cases p.2.2.2.2.2.2.2.2.1==17 with
  |true=>exact put _ _ (by simp only [List.length_append];omega)
  |false=>
   cases nT p 2 with|true=>exact h'|false=> ?_
   cases l[i].2.2.2||nT p 4 with|true=>exact h'|false=> ?_
   cases decide (ij l[i] p≤((body p).length:Int)) with
   |false=>exact h'
   |true=>exact put _ _ (by simp only [Qc,List.length_append,List.length_drop];omega)
end
end Go.Pu
end
section
namespace Go.Pu
open Go.Dn
set_option linter.unusedSimpArgs false
set_option linter.unusedVariables false
noncomputable section
theorem IU (p:aD)(i:Int):oU p i= -1∨(0≤oU p i∧oU p i≤200000):=by
 unfold oU
 cases hp:cd p with|false=>exact .inl rfl|true=> ?_
 cases hi:bn i 0 (p.2.2.1-1) with|false=>exact .inl rfl|true=> ?_
 have h:=uc hp
 have h2:=bL.1 hi
 have h3:0≤i*p.2.1:=Int.mul_nonneg h2.1 (by omega)
 have h4:i*p.2.1≤16*512:=Int.mul_le_mul (by omega) (by omega) (by omega) (by omega)
 simp only [Bool.not_true,Bool.or_self,cond_false]
 exact .inr (by omega)
theorem UK:(uA []).2=2:=rfl
def Ks (l:List ae)(m:List Bytes)(d a n:Int):Bool:=(oc l m d a n).2&&((uA (oc l m d a n).1).2==0)
theorem Pr {l:List ae}{m:List Bytes}{d n:Int}:Ks l m d (-1) n=false:=by
 unfold Ks oc eh
 cases bC l&&(cn m&&bn n 0 4096) with|false=>rfl|true=> ?_
 simp only [cond_true]
 cases n==0 with
 |true=>simp only [cond_true,List.flatMap_nil];rfl
 |false=>rfl
def qW (l:List ae)(m:List Bytes)(d:Int)(s:List Stream×ax×aD):List Stream×ax×aD:=
 ((bif Ks l m d (oU s.2.2 (jy l m d s.2.1.2.2.1).1.1) (jy l m d s.2.1.2.2.1).1.2.1 then lj s.1 (uA (oc l m d (oU s.2.2 (jy l m d s.2.1.2.2.1).1.1) (jy l m d s.2.1.2.2.1).1.2.1).1).1 else s.1),
   (s.2.1.1,s.2.1.2.1,(jy l m d s.2.1.2.2.1).2.1,s.2.1.2.2.2),(AY s.2.2 [(jy l m d s.2.1.2.2.1).1.1]).1)
def cK (l:List ae)(m:List Bytes)(d:Int):Nat→List Stream×ax×aD→Nat×(List Stream×ax×aD)
 |0,s=>(0,s)
 |k+1,s=>bif !(jy l m d s.2.1.2.2.1).2.2 then (0,s) else ((cK l m d k (qW l m d s)).1+1,(cK l m d k (qW l m d s)).2)
structure sS (n:Nat) (s:List Stream×ax×aD):Prop where
 st:aC n (.sl az) s.1
 pl:s.2.2.2.2.2.length≤n
theorem Mp (p:aD)(l:List Int):(AY p l).1.2.2.2.length≤p.2.2.2.length+l.length:=by
 unfold AY
 cases sZ p l with
 |false=>show p.2.2.2.length≤_;omega
 |true=>simp [DQ]
theorem tn {l:List ae}{m:List Bytes}{d:Int}{s:List Stream×ax×aD}{n:Nat}(h:sS n s):sS (n+322) (qW l m d s):=by
 refine ⟨?_, ?_⟩
 ·unfold qW
  cases Ks l m d (oU s.2.2 (jy l m d s.2.1.2.2.1).1.1) (jy l m d s.2.1.2.2.1).1.2.1 with
  |false=>exact h.st.mono (by omega)
  |true=>exact De h.st
 ·have:=Mp s.2.2 [(jy l m d s.2.1.2.2.1).1.1]
  have h2:=h.pl
  show (AY s.2.2 [(jy l m d s.2.1.2.2.1).1.1]).1.2.2.2.length≤_
  simp only [List.length_singleton] at this;omega
theorem vE {R:Type}(K:List Stream→Int→ax→aD→Option R)(l:List ae)(m:List Bytes)(d:Int)(N:Nat)(hN:N≤1000)(B1:List Bytes)(B2:ax)(B3:aD)(hl:l.length≤1000000000)(hm:m.length≤1000000000):∀(k i:Nat)(s:List Stream×ax×aD)(f:Nat),i+k=N→k<f→sS (500000000+322*i) s→
 aq (eG K l d (N:Int) B1 B2 B3 m) f (s.1,(i:Int),s.2.1,s.2.2)=K (cK l m d k s).2.1 ((i+(cK l m d k s).1:Nat):Int) (cK l m d k s).2.2.1 (cK l m d k s).2.2.2
 |k,i,s,0,_,hf,_=>by omega
 |0,i,s,f+1,hi,hf,z=>by
  rw [aq]
  simp only [eG]
  rw [decide_eq_false (by omega),cond_false];rfl
 |k+1,i,s,f+1,hi,hf,z=>by
  have hst:aC 900000000 (.sl az) s.1:=z.st.mono (by omega)
  have hpl:s.2.2.2.2.2.length≤900000000:=Nat.le_trans z.pl (by omega)
  rw [aq]
  simp only [eG]
  rw [decide_eq_true (by omega)]
  simp only [cond_true,MF l m d _ hl hm,ab,cK]
  cases hnx:(jy l m d s.2.1.2.2.1).2.2 with
  |false=>rfl
  |true=>
   have key:=vE K l m d N hN B1 B2 B3 hl hm k (i+1) (qW l m d s) f (by omega) (by omega) ((tn z).st.mono (by omega)|>fun a=>⟨a,Nat.le_trans (tn z).pl (by omega)⟩)
   rw [show i+1+(cK l m d k (qW l m d s)).1=i+((cK l m d k (qW l m d s)).1+1) by omega] at key
   simp only [Bool.not_true,cond_false]
   rw [←key]
   unfold qW
   generalize jy l m d s.2.1.2.2.1=c
   have ha:=IU s.2.2 c.1.1
   have hd:=vl l m d (oU s.2.2 c.1.1) c.1.2.1
   simp only [Fo _ _ (show s.2.2.2.2.2.length≤1000000000 by omega),xi l m d _ c.1.2.1 hl hm (show oU s.2.2 c.1.1≤9223372036854775807 by omega),ab,KB _ (Nat.le_trans hd (by omega)),vB _ _ hst,Fq s.2.2 [c.1.1] (show s.2.2.2.2.2.length+1≤1000000000 by omega)]
   rw [wrap64 (n:=(i:Int)+1) (by omega) (by omega),show ((i+1:Nat):Int)=(i:Int)+1 by omega]
   unfold Ks
   cases (oc l m d (oU s.2.2 c.1.1) c.1.2.1).2<;>cases (uA (oc l m d (oU s.2.2 c.1.1) c.1.2.1).1).2==0<;>rfl
theorem wg {R:Type}(K:List Stream→Int→ax→aD→Option R)(l:List ae)(m:List Bytes)(d:Int)(N:Nat)(hN:N≤1000)(B1:List Bytes)(B2:ax)(B3:aD)(hl:l.length≤1000000000)(hm:m.length≤1000000000):∀(k i:Nat)(s:List Stream×ax×aD)(f:Nat),i+k=N→k<f→sS (500000000+322*i) s→
 aq (eL K l d (N:Int) m B1 B2 B3) f (s.1,(i:Int),s.2.1,s.2.2)=K (cK l m d k s).2.1 ((i+(cK l m d k s).1:Nat):Int) (cK l m d k s).2.2.1 (cK l m d k s).2.2.2
 |k,i,s,0,_,hf,_=>by omega
 |0,i,s,f+1,hi,hf,z=>by
  rw [aq]
  simp only [eL]
  rw [decide_eq_false (by omega),cond_false];rfl
 |k+1,i,s,f+1,hi,hf,z=>by
  have hst:aC 900000000 (.sl az) s.1:=z.st.mono (by omega)
  have hpl:s.2.2.2.2.2.length≤900000000:=Nat.le_trans z.pl (by omega)
  rw [aq]
  simp only [eL]
  rw [decide_eq_true (by omega)]
  simp only [cond_true,NA l m d _ hl hm,ab,cK]
  cases hnx:(jy l m d s.2.1.2.2.1).2.2 with
  |false=>rfl
  |true=>
   have key:=wg K l m d N hN B1 B2 B3 hl hm k (i+1) (qW l m d s) f (by omega) (by omega) ((tn z).st.mono (by omega)|>fun a=>⟨a,Nat.le_trans (tn z).pl (by omega)⟩)
   rw [show i+1+(cK l m d k (qW l m d s)).1=i+((cK l m d k (qW l m d s)).1+1) by omega] at key
   simp only [Bool.not_true,cond_false]
   rw [←key]
   unfold qW
   generalize jy l m d s.2.1.2.2.1=c
   have ha:=IU s.2.2 c.1.1
   have hd:=vl l m d (oU s.2.2 c.1.1) c.1.2.1
   simp only [Gg _ _ (show s.2.2.2.2.2.length≤1000000000 by omega),xx l m d _ c.1.2.1 hl hm (show oU s.2.2 c.1.1≤9223372036854775807 by omega),ab,Lt _ (Nat.le_trans hd (by omega)),wa _ _ hst,Gj s.2.2 [c.1.1] (show s.2.2.2.2.2.length+1≤1000000000 by omega)]
   rw [wrap64 (n:=(i:Int)+1) (by omega) (by omega),show ((i+1:Nat):Int)=(i:Int)+1 by omega]
   rcases ha with ha|ha
   ·rw [ha,Pr];rfl
   ·rw [decide_eq_true (show oU s.2.2 c.1.1≥0 by omega)]
    unfold Ks
    cases (oc l m d (oU s.2.2 c.1.1) c.1.2.1).2<;>cases (uA (oc l m d (oU s.2.2 c.1.1) c.1.2.1).1).2==0<;>rfl
theorem vS {l:List ae}{m:List Bytes}{d:Int}:∀(k:Nat){s:List Stream×ax×aD}{n:Nat},sS n s→sS (n+322*k) (cK l m d k s).2
 |0,s,n,h=>h
 |k+1,s,n,h=>by
  rw [cK]
  cases (jy l m d s.2.1.2.2.1).2.2 with
  |false=>exact ⟨h.st.mono (by omega),Nat.le_trans h.pl (by omega)⟩
  |true=>
   have:=vS (l:=l) (m:=m) (d:=d) k (tn (l:=l) (m:=m) (d:=d) h)
   exact ⟨this.st.mono (by omega),Nat.le_trans this.pl (by omega)⟩
def n9 (l:List ae)(m:List Bytes)(d:Int)(rx:ax)(pl:aD)(st:List Stream)(n:Int):List Bytes×ax×aD×List Stream×Int:=
 bif !LO rx||(!cd pl|| !bn n 0 1000) then (m,rx,pl,st,0) else
 ((oY l m d (cK l m d n.toNat (st,rx,pl)).2.2.1.1 (cK l m d n.toNat (st,rx,pl)).2.2.2).1,
   ((oY l m d (cK l m d n.toNat (st,rx,pl)).2.2.1.1 (cK l m d n.toNat (st,rx,pl)).2.2.2).2.1,(cK l m d n.toNat (st,rx,pl)).2.2.1.2),
   (oY l m d (cK l m d n.toNat (st,rx,pl)).2.2.1.1 (cK l m d n.toNat (st,rx,pl)).2.2.2).2.2.1,(cK l m d n.toNat (st,rx,pl)).2.1,((cK l m d n.toNat (st,rx,pl)).1:Int))
theorem MG (l:List ae)(m:List Bytes)(d:Int)(rx:ax)(pl:aD)(st:List Stream)(n:Int)(hl:l.length≤1000000000)(hm:m.length≤1000000000)(hp:pl.2.2.2.length≤500000000)(hs:aC 500000000 (.sl az) st):lx l m d rx pl st n=some (n9 l m d rx pl st n):=by
 have hfu:=bz
 have hsl:st.length≤500000000:=hs.1
 unfold lx n9
 simp only [gQ m (show m.length≤1073741824 by omega),nB pl (show pl.2.2.2.length≤1000000000 by omega),nW st (by omega),MI,nC pl (show pl.2.2.2.length≤1000000000 by omega),bO,ab]
 cases LO rx with|false=>rfl|true=> ?_
 cases cd pl with|false=>rfl|true=> ?_
 cases hn:bn n 0 1000 with|false=>rfl|true=> ?_
 have h:=bL.1 hn
 obtain ⟨n,rfl⟩:=Int.eq_ofNat_of_zero_le h.1
 simp only [Bool.not_true,cond_false,ab,Bool.or_self,Int.toNat_natCast]
 have z:sS (500000000+322*0) (st,rx,pl):=⟨hs,hp⟩
 have hz:=vS (l:=l) (m:=m) (d:=d) n z
 refine (vE _ l m d n (by omega) _ _ _ hl hm n 0 (st,rx,pl) fuel (by omega) (by omega) z).trans ?_
 rw [Nat.zero_add]
 simp only [Fp l m d _ _ hl hm (show (cK l m d n (st,rx,pl)).2.2.2.2.2.2.length≤1000000000 from Nat.le_trans hz.pl (by omega)),ab]
theorem NC (l:List ae)(m:List Bytes)(d:Int)(rx:ax)(pl:aD)(st:List Stream)(n:Int)(hl:l.length≤1000000000)(hm:m.length≤1000000000)(hp:pl.2.2.2.length≤500000000)(hs:aC 500000000 (.sl az) st):mm l m d rx pl st n=some (n9 l m d rx pl st n):=by
 have hfu:=bz
 have hsl:st.length≤500000000:=hs.1
 unfold mm n9
 rw [bW (by omega)]
 simp only [List.nil_append,pc pl (show pl.2.2.2.length≤1000000000 by omega),mF m (show m.length≤1073741824 by omega),NF,md pl (show pl.2.2.2.length≤1000000000 by omega),bc,ab]
 cases LO rx with|false=>rfl|true=> ?_
 cases cd pl with|false=>rfl|true=> ?_
 cases hn:bn n 0 1000 with|false=>rfl|true=> ?_
 have h:=bL.1 hn
 obtain ⟨n,rfl⟩:=Int.eq_ofNat_of_zero_le h.1
 simp only [Bool.not_true,cond_false,ab,Bool.or_self,Int.toNat_natCast]
 have z:sS (500000000+322*0) (st,rx,pl):=⟨hs,hp⟩
 have hz:=vS (l:=l) (m:=m) (d:=d) n z
 refine (wg _ l m d n (by omega) _ _ _ hl hm n 0 (st,rx,pl) fuel (by omega) (by omega) z).trans ?_
 rw [Nat.zero_add]
 simp only [Gi l m d _ _ hl hm (show (cK l m d n (st,rx,pl)).2.2.2.2.2.2.length≤1000000000 from Nat.le_trans hz.pl (by omega)),ab]
end
end Go.Pu
end
section
namespace Go.Pu
open Go.Dn
set_option linter.unusedSimpArgs false
set_option linter.unusedVariables false
noncomputable section
def cJ (i:Nat):Int:=1280+(i:Int)*1792
theorem IP {i:Nat}(h:i≤8):IntKind.wrap .i64 (1280+IntKind.wrap .i64 ((i:Int)*1792))=cJ i:=by
 rw [wrap64 (n:=(i:Int)*1792) (by omega) (by omega),wrap64 (by omega) (by omega)];rfl
theorem Fm (i:Nat)(h:i≤8):ix (i:Int)=some (cJ i):=by rw [ix,IP h]
theorem l6 (a b n:Int)(h:n≤1000):(dU a b n).1.2.2.2.length≤1000:=by
 unfold dU
 cases cd (a,b,n,[]) with
 |false=>simp
 |true=>simp [upto];omega
def xw (i:Nat):ax:=((cJ i,4,0,0),(cJ i+64,4,0),(cJ i+64,4,0),((0,0,0,0,0,0,0,0,0,0,0,0,0,0,0,([]:Bytes)),0,0),false,0)
theorem KD (i:Nat)(h:i≤8):mD (i:Int)=some (xw i,(dU (cJ i+128) 384 4).1):=by
 have hb:cJ i=1280+(i:Int)*1792:=rfl
 simp only [mD,Fm i h,ab]
 rw [wrap64 (n:=cJ i+128) (by omega) (by omega),wrap64 (n:=cJ i+64) (by omega) (by omega),xj];rfl
def xI:bu:=((0,16,0,0),(dU 256 128 8).1,([]:List cq),0)
theorem KH:rr=some xI:=by rw [rr,xj];rfl
theorem Lw:ny=some xI:=by rw [ny,xy];rfl
def qq (l:List ae)(m:List Bytes)(i:Nat):List Bytes×(Int×Int×Int×Int)×aD×Int:=
 oY l (mA l m 0 (cJ i) (qy 128) false).1 0 (cJ i,4,0,0) (dU (cJ i+128) 384 4).1
def xq (h:Host)(i:Nat):Host:=
 ((qq h.2.1 h.1 i).1,h.2.1,h.2.2.1,h.2.2.2.1.set i ((qq h.2.1 h.1 i).2.1,(cJ i+64,4,0),(cJ i+64,4,0),((0,0,0,0,0,0,0,0,0,0,0,0,0,0,0,([]:Bytes)),0,0),false,(match h.2.2.2.1[i]? with|some x=>x.2.2.2.2.2|none=>0)),h.2.2.2.2.1.set i (qq h.2.1 h.1 i).2.2.1,h.2.2.2.2.2)
theorem Gl (h:Host)(i:Nat)(hi:i≤8)(h1:i<h.2.2.2.1.length)(h2:i<h.2.2.2.2.1.length)(hl:h.2.1.length≤1000000000)(hm:h.1.length≤1000000000):mx h (i:Int)=some ((),xq h i):=by
 have hb:cJ i=1280+(i:Int)*1792:=rfl
 have hz:mu 128 0=some (qy 128):=Nz 128 (by omega)
 have hf:=Gi h.2.1 (mA h.2.1 h.1 0 (cJ i) (qy 128) false).1 0 (cJ i,4,0,0) (dU (cJ i+128) 384 4).1 hl (by rw [vU];exact hm) (Nat.le_trans (l6 (cJ i+128) 384 4 (by omega)) (by omega))
 unfold mx
 simp only [IP hi]
 rw [wrap64 (n:=cJ i+128) (by omega) (by omega),wrap64 (n:=cJ i+64) (by omega) (by omega),xy,hz]
 simp only [ay h1,ay h2,ab,Bq h.2.1 h.1 0 (cJ i) (qy 128) hl hm (by omega),hf,Int.toNat_natCast,xq,qq,List.getElem?_eq_getElem h1]
def rY (h:Host)(i:Nat)(n:Int):Int×Host:=
 match h.2.2.2.1[i]?,h.2.2.2.2.1[i]? with
 |some rx,some pl=>
  ((n9 h.2.1 h.1 0 rx pl h.2.2.2.2.2.2.2.2.2.1 n).2.2.2.2,(n9 h.2.1 h.1 0 rx pl h.2.2.2.2.2.2.2.2.2.1 n).1,h.2.1,h.2.2.1,h.2.2.2.1.set i (n9 h.2.1 h.1 0 rx pl h.2.2.2.2.2.2.2.2.2.1 n).2.1,h.2.2.2.2.1.set i (n9 h.2.1 h.1 0 rx pl h.2.2.2.2.2.2.2.2.2.1 n).2.2.1,h.2.2.2.2.2.1,h.2.2.2.2.2.2.1,h.2.2.2.2.2.2.2.1,h.2.2.2.2.2.2.2.2.1,(n9 h.2.1 h.1 0 rx pl h.2.2.2.2.2.2.2.2.2.1 n).2.2.2.1,h.2.2.2.2.2.2.2.2.2.2)
 |_,_=>(0,h)
theorem Dv (h:Host)(i:Nat)(n:Int)(h1:i<h.2.2.2.1.length)(h2:i<h.2.2.2.2.1.length)(z:aC 500000000 a8 h):m8 h (i:Int) n=some (rY h i n):=by
 have hl:h.2.1.length≤500000000:=z.2.1.1
 have hm:h.1.length≤500000000:=z.1.1
 have hp:h.2.2.2.2.1[i].2.2.2.length≤500000000:=(z.2.2.2.2.1.2 _ (List.getElem_mem h2)).2.2.2.1
 unfold m8
 simp only [ay h1,ay h2,ab,MG h.2.1 h.1 0 _ _ _ n (show h.2.1.length≤1000000000 by omega) (show h.1.length≤1000000000 by omega) hp z.2.2.2.2.2.2.2.2.2.1,Int.toNat_natCast,rY,List.getElem?_eq_getElem h1,List.getElem?_eq_getElem h2]
end
end Go.Pu
end
section
namespace Go.Pu
open Go.Dn
set_option linter.unusedSimpArgs false
set_option linter.unusedVariables false
noncomputable section
theorem nM {n:Nat}{t:CT}{l:List t.D}{i:Nat}{x:t.D}(z:aC n (.sl t) l)(hx:aC n t x):aC n (.sl t) (l.set i x):=by
 refine ⟨?_,fun y hy=> ?_⟩
 ·show (l.set i x).length≤n
  rw [List.length_set];exact z.1
 ·rcases List.mem_or_eq_of_mem_set hy with h|h
  ·exact z.2 y h
  ·rw [h];exact hx
theorem YX {n k:Nat}{t:CT}{l q:List t.D}(z:aC n (.sl t) l)(hq:aC n (.sl t) q)(hk:q.length≤k):aC (n+k) (.sl t) (l++q):=by
 refine ⟨?_,fun y hy=> ?_⟩
 ·show (l++q).length≤n+k
  have:=z.1
  rw [List.length_append];omega
 ·rcases List.mem_append.1 hy with h|h
  ·exact (z.2 y h).mono (by omega)
  ·exact (hq.2 y h).mono (by omega)
theorem Li {n:Nat}(hn:128≤n){m:List Bytes}(h:rV m):aC n (.sl .str) m:=
 ⟨Nat.le_trans h.2 (by omega),fun x hx=>Nat.le_trans (Nat.le_of_eq (h.1 x hx)) hn⟩
theorem GK {n:Nat}(hn:128≤n){m:List Bytes}(z:aC n (.sl .str) m)(a:Int)(s:Bytes):aC n (.sl .str) (mz m a s).1:=by
 unfold mz
 cases hw:bS m a (s.length:Int) with|false=>exact z|true=> ?_
 simp only [bS,Bool.and_eq_true,decide_eq_true_eq] at hw
 exact Li hn (sy s.length (ub.1 hw.1) (by omega)).1
theorem F4 {n:Nat}(hn:128≤n):∀(q:List (Int×Int)){m:List Bytes}(s:Bytes),aC n (.sl .str) m→aC n (.sl .str) (DS q m s)
 |[],m,s,z=>z
 |p::q,m,s,z=>F4 hn q _ (GK hn z _ _)
theorem Ae {n:Nat}(hn:128≤n){m:List Bytes}(z:aC n (.sl .str) m)(l:List ae)(d a:Int)(s:Bytes)(w:Bool):aC n (.sl .str) (mA l m d a s w).1:=by
 unfold mA
 cases (eh l m d a (s.length:Int) w).2 with
 |false=>exact z
 |true=>exact F4 hn _ _ z
theorem DT {n:Nat}(hn:128≤n){m:List Bytes}(z:aC n (.sl .str) m)(l:List ae)(d:Int)(r:Int×Int×Int×Int)(s:Bytes):aC n (.sl .str) (bl l m d r s).1:=by
 unfold bl
 cases (mB r==0)||((s.length:Int) !=16) with|true=>exact z|false=> ?_
 cases (mA l m d (pQ r r.2.2.2) s true).2 with
 |false=>exact z
 |true=>exact Ae hn z ..
theorem BH {n:Nat}(hn:128≤n)(l:List ae)(d:Int)(p:aD):∀(q:List Int){m:List Bytes}(r:Int×Int×Int×Int),aC n (.sl .str) m→aC n (.sl .str) (gC l d p q m r).2.1
 |[],m,r,z=>z
 |b::q,m,r,z=>by
  rw [gC]
  cases (bl l m d r (descOf p b)).2.2 with
  |false=>exact z
  |true=>exact BH hn l d p q _ (DT hn z ..)
theorem wH {n:Nat}(hn:128≤n){m:List Bytes}(z:aC n (.sl .str) m)(l:List ae)(d:Int)(r:Int×Int×Int×Int)(p:aD):aC n (.sl .str) (oY l m d r p).1:=by
 unfold oY
 cases !dV r|| !cd p with
 |true=>exact z
 |false=>exact BH hn _ _ _ _ _ z
theorem uN (l:List ae)(m:List Bytes)(d:Int)(r:Int×Int×Int×Int)(p:aD):(oY l m d r p).2.2.1.2.2.2.length≤p.2.2.2.length:=by
 unfold oY
 cases !dV r|| !cd p with
 |true=>exact Nat.le_refl _
 |false=>show (p.2.2.2.drop _).length≤_;rw [List.length_drop];omega
theorem FZ (l:List ae)(m:List Bytes)(d:Int):∀(k:Nat)(s:List Stream×ax×aD),(cK l m d k s).2.2.1.2.2.2=s.2.1.2.2.2∧(cK l m d k s).1≤k
 |0,s=>⟨rfl,Nat.le_refl _⟩
 |k+1,s=>by
  rw [cK]
  cases (jy l m d s.2.1.2.2.1).2.2 with
  |false=>exact ⟨rfl,Nat.zero_le _⟩
  |true=>
   have:=FZ l m d k (qW l m d s)
   simp only [Bool.not_true,cond_false]
   exact ⟨this.1,by omega⟩
theorem Lm {n:Nat}(hn:128≤n){l:List ae}{m:List Bytes}{d:Int}{rx:ax}{pl:aD}{st:List Stream}(c:Int)(zm:aC n (.sl .str) m)(zr:aC n aA rx)(zp:aC n aU pl)(zs:aC n (.sl az) st):
 aC n (.sl .str) (n9 l m d rx pl st c).1∧aC n aA (n9 l m d rx pl st c).2.1∧aC (n+322000) aU (n9 l m d rx pl st c).2.2.1∧aC (n+322000) (.sl az) (n9 l m d rx pl st c).2.2.2.1∧0≤(n9 l m d rx pl st c).2.2.2.2∧(n9 l m d rx pl st c).2.2.2.2≤1000:=by
 unfold n9
 cases hc: !LO rx||(!cd pl|| !bn c 0 1000) with
 |true=>exact ⟨zm,zr,zp.mono (by omega),zs.mono (by omega),Int.le_refl _,by show (0:Int)≤1000;omega⟩
 |false=>
  have hi:bn c 0 1000=true:=by
   cases h:bn c 0 1000 with
   |true=>rfl
   |false=>rw [h] at hc;simp at hc
  have h:=bL.1 hi
  have z:=vS (l:=l) (m:=m) (d:=d) c.toNat (s:=(st,rx,pl)) (n:=n) ⟨zs,zp.2.2.2.1⟩
  have hx:=FZ l m d c.toNat (st,rx,pl)
  refine ⟨wH hn zm ..,⟨?_, ?_, ?_, ?_⟩,⟨trivial,trivial,trivial, ?_,fun _ _=>trivial⟩,z.st.mono (by omega),by show (0:Int)≤((cK l m d c.toNat (st,rx,pl)).1:Int);omega,by show ((cK l m d c.toNat (st,rx,pl)).1:Int)≤1000;omega⟩
  ·exact ⟨trivial,trivial,trivial,trivial⟩
  ·exact ⟨trivial,trivial,trivial⟩
  ·exact ⟨trivial,trivial,trivial⟩
  ·have e:=congrArg (fun q=>aC n aA (rx.1,rx.2.1,rx.2.2.1,q)) hx.1
   exact (e.mpr zr).2.2.2
  ·have:=uN l m d (cK l m d c.toNat (st,rx,pl)).2.2.1.1 (cK l m d c.toNat (st,rx,pl)).2.2.2
   have h2:=z.pl
   show (oY l m d (cK l m d c.toNat (st,rx,pl)).2.2.1.1 (cK l m d c.toNat (st,rx,pl)).2.2.2).2.2.1.2.2.2.length≤_
   omega
theorem H9 {n:Nat}(hn:128≤n){h:Host}(i:Nat)(c:Int)(z:aC n a8 h):aC (n+322000) a8 (rY h i c).2:=by
 unfold rY
 cases h1:h.2.2.2.1[i]? with|none=>exact z.mono (by omega)|some rx=> ?_
 cases h2:h.2.2.2.2.1[i]? with|none=>exact z.mono (by omega)|some pl=> ?_
 have zr:=z.2.2.2.1.2 _ (List.mem_of_getElem? h1)
 have zp:=z.2.2.2.2.1.2 _ (List.mem_of_getElem? h2)
 have hp:=Lm hn (l:=h.2.1) (d:=0) c z.1 zr zp z.2.2.2.2.2.2.2.2.2.1
 have z':aC (n+322000) a8 h:=z.mono (by omega)
 exact ⟨hp.1.mono (by omega),z'.2.1,z'.2.2.1,nM z'.2.2.2.1 (hp.2.1.mono (by omega)),nM z'.2.2.2.2.1 hp.2.2.1,z'.2.2.2.2.2.1,z'.2.2.2.2.2.2.1,z'.2.2.2.2.2.2.2.1,z'.2.2.2.2.2.2.2.2.1,hp.2.2.2.1,z'.2.2.2.2.2.2.2.2.2.2⟩
theorem UJ {n:Nat}(hn:1000≤n){h:Host}(i:Nat)(z:aC n a8 h):aC n a8 (xq h i):=by
 unfold xq qq
 have h4:=l6 (cJ i+128) 384 4 (by omega)
 have hf:=uN h.2.1 (mA h.2.1 h.1 0 (cJ i) (qy 128) false).1 0 (cJ i,4,0,0) (dU (cJ i+128) 384 4).1
 refine ⟨wH (by omega) (Ae (by omega) z.1 ..) ..,z.2.1,z.2.2.1,nM z.2.2.2.1 ?_,nM z.2.2.2.2.1 ?_,z.2.2.2.2.2⟩
 ·refine ⟨⟨trivial,trivial,trivial,trivial⟩,⟨trivial,trivial,trivial⟩,⟨trivial,trivial,trivial⟩,⟨⟨trivial,trivial,trivial,trivial,trivial,trivial,trivial,trivial,trivial,trivial,trivial,trivial,trivial,trivial,trivial, ?_⟩,trivial,trivial⟩,trivial,trivial⟩
  exact Nat.zero_le _
 ·exact ⟨trivial,trivial,trivial,by show List.length _≤_;omega,fun _ _=>trivial⟩
end
end Go.Pu
end
section
namespace Go.Pu
open Go.Dn
set_option linter.unusedSimpArgs false
set_option linter.unusedVariables false
noncomputable section
def Eb (g:Nat→Host→Host):Nat→Host→Host
 |0,h=>h
 |k+1,h=>g k (Eb g k h)
structure sz (a b:Host):Prop where
 maps:b.2.1=a.2.1
 tx:b.2.2.1=a.2.2.1
 rx:b.2.2.2.1.length=a.2.2.2.1.length
 pl:b.2.2.2.2.1.length=a.2.2.2.2.1.length
 vec:b.2.2.2.2.2.1=a.2.2.2.2.2.1
 pol:b.2.2.2.2.2.2.1=a.2.2.2.2.2.2.1
 ret:b.2.2.2.2.2.2.2.2.2.2.2.2.2.1=a.2.2.2.2.2.2.2.2.2.2.2.2.2.1
theorem sz.refl (a:Host):sz a a:=⟨rfl,rfl,rfl,rfl,rfl,rfl,rfl⟩
theorem sz.trans {a b c:Host}(h:sz a b)(k:sz b c):sz a c:=⟨k.1.trans h.1,k.2.trans h.2,k.3.trans h.3,k.4.trans h.4,k.5.trans h.5,k.6.trans h.6,k.7.trans h.7⟩
theorem FY (h:Host)(i:Nat)(c:Int):sz h (rY h i c).2:=by
 unfold rY
 cases h1:h.2.2.2.1[i]? with|none=>exact sz.refl h|some rx=> ?_
 cases h2:h.2.2.2.2.1[i]? with|none=>exact sz.refl h|some pl=> ?_
 exact ⟨rfl,rfl,List.length_set ..,List.length_set ..,rfl,rfl,rfl⟩
def gq (h:Host)(k:Nat):Host:=Eb (fun i s=>(rY s i 1000).2) k h
theorem rX {n:Nat}(hn:128≤n){h:Host}(z:aC n a8 h):∀k,sz h (gq h k)∧aC (n+322000*k) a8 (gq h k)
 |0=>⟨sz.refl h,z⟩
 |k+1=>by
  have i:=rX hn z k
  exact ⟨i.1.trans (FY ..),(H9 (by omega) k 1000 i.2).mono (by omega)⟩
def Qw (h:Host)(l:List Int):Host:=(h.1,h.2.1,h.2.2.1,h.2.2.2.1,h.2.2.2.2.1,h.2.2.2.2.2.1,h.2.2.2.2.2.2.1,h.2.2.2.2.2.2.2.1,h.2.2.2.2.2.2.2.2.1,h.2.2.2.2.2.2.2.2.2.1,h.2.2.2.2.2.2.2.2.2.2.1,h.2.2.2.2.2.2.2.2.2.2.2.1,h.2.2.2.2.2.2.2.2.2.2.2.2.1,h.2.2.2.2.2.2.2.2.2.2.2.2.2.1++l,h.2.2.2.2.2.2.2.2.2.2.2.2.2.2)
def Ek (h:Host):Host:=(h.1,h.2.1,(xI.1,xI.2.1,xI.2.2.1,h.2.2.1.2.2.2),h.2.2.2)
def qU (h:Host)(i:Nat)(dr:Int):Host:=
 ((qq h.2.1 h.1 i).1,h.2.1,h.2.2.1,h.2.2.2.1.set i ((qq h.2.1 h.1 i).2.1,(xw i).2.1,(xw i).2.2.1,(xw i).2.2.2.1,(xw i).2.2.2.2.1,dr),h.2.2.2.2.1.set i (qq h.2.1 h.1 i).2.2.1,h.2.2.2.2.2)
theorem PU {h:Host}{i:Nat}{x:ax}(hx:h.2.2.2.1[i]?=some x):xq h i=qU h i x.2.2.2.2.2:=by
 unfold xq qU;rw [hx];rfl
theorem K9 (h:Host){i:Nat}(x:ax)(hi:i<h.2.2.2.1.length):xq (h.1,h.2.1,h.2.2.1,h.2.2.2.1.set i x,h.2.2.2.2) i=qU h i x.2.2.2.2.2:=by
 unfold xq qU
 simp only [List.getElem?_set_self hi,List.set_set];rfl
def zl (x:ax):Int:=bif x.2.2.2.2.1 then IntKind.wrap .i64 (x.2.2.2.2.2+x.2.2.2.1.2.2) else x.2.2.2.2.2
def sf (i:Nat)(h:Host):Host:=
 match h.2.2.2.1[i]?,h.2.2.2.2.2.1[i]? with
 |some x,some v=>((qU h i (zl x)).1,h.2.1,h.2.2.1,(qU h i (zl x)).2.2.2.1,(qU h i (zl x)).2.2.2.2.1,h.2.2.2.2.2.1.set i (v.1,v.2.1,0,0,false,false),h.2.2.2.2.2.2.1.set i false,h.2.2.2.2.2.2.2)
 |_,_=>h
structure Qn (k:Nat) (a b:Host):Prop where
 mem:b.1.length=a.1.length
 maps:b.2.1=a.2.1
 rx:b.2.2.2.1.length=a.2.2.2.1.length
 pl:b.2.2.2.2.1.length=a.2.2.2.2.1.length
 vec:b.2.2.2.2.2.1.length=a.2.2.2.2.2.1.length
 vecs:∀j,k≤j→b.2.2.2.2.2.1[j]?=a.2.2.2.2.2.1[j]?
 pol:b.2.2.2.2.2.2.1.length=a.2.2.2.2.2.2.1.length
theorem Pq (l:List ae)(m:List Bytes)(d:Int)(r:Int×Int×Int×Int)(p:aD):(oY l m d r p).1.length=m.length:=by
 unfold oY
 cases !dV r|| !cd p with
 |true=>rfl
 |false=>exact (wG ..).1
theorem K8 (l:List ae)(m:List Bytes)(i:Nat):(qq l m i).1.length=m.length:=by
 unfold qq
 rw [Pq,vU]
theorem F8 (i:Nat)(h:Host):Qn (i+1) h (sf i h):=by
 unfold sf
 cases h1:h.2.2.2.1[i]? with|none=>exact ⟨rfl,rfl,rfl,rfl,rfl,fun _ _=>rfl,rfl⟩|some x=> ?_
 cases h2:h.2.2.2.2.2.1[i]? with|none=>exact ⟨rfl,rfl,rfl,rfl,rfl,fun _ _=>rfl,rfl⟩|some v=> ?_
 have e1:(qU h i (zl x)).1.length=h.1.length:=K8 h.2.1 h.1 i
 exact ⟨e1,rfl,List.length_set ..,List.length_set ..,List.length_set ..,fun j hj=>List.getElem?_set_ne (by omega),List.length_set ..⟩
def bH (h:Host)(k:Nat):Host:=Eb sf k h
theorem nn (h:Host):∀k,Qn k h (bH h k)
 |0=>⟨rfl,rfl,rfl,rfl,rfl,fun _ _=>rfl,rfl⟩
 |k+1=>by
  have a:=nn h k
  have b:=F8 k (bH h k)
  exact ⟨b.mem.trans a.mem,b.maps.trans a.maps,b.rx.trans a.rx,b.pl.trans a.pl,b.vec.trans a.vec,fun j hj=>(b.vecs j hj).trans (a.vecs j (by omega)),b.pol.trans a.pol⟩
theorem K7 {n:Nat}(hn:1000≤n){h:Host}(i:Nat)(d:Int)(z:aC n a8 h):aC n a8 (qU h i d):=by
 unfold qU qq
 have h4:=l6 (cJ i+128) 384 4 (by omega)
 have hf:=uN h.2.1 (mA h.2.1 h.1 0 (cJ i) (qy 128) false).1 0 (cJ i,4,0,0) (dU (cJ i+128) 384 4).1
 refine ⟨wH (by omega) (Ae (by omega) z.1 ..) ..,z.2.1,z.2.2.1,nM z.2.2.2.1 ?_,nM z.2.2.2.2.1 ?_,z.2.2.2.2.2⟩
 ·refine ⟨⟨trivial,trivial,trivial,trivial⟩,⟨trivial,trivial,trivial⟩,⟨trivial,trivial,trivial⟩,⟨⟨trivial,trivial,trivial,trivial,trivial,trivial,trivial,trivial,trivial,trivial,trivial,trivial,trivial,trivial,trivial, ?_⟩,trivial,trivial⟩,trivial,trivial⟩
  exact Nat.zero_le _
 ·exact ⟨trivial,trivial,trivial,by show List.length _≤_;omega,fun _ _=>trivial⟩
theorem Ih {n:Nat}(hn:1000≤n){h:Host}(i:Nat)(z:aC n a8 h):aC n a8 (sf i h):=by
 unfold sf
 cases h1:h.2.2.2.1[i]? with|none=>exact z|some x=> ?_
 cases h2:h.2.2.2.2.2.1[i]? with|none=>exact z|some v=> ?_
 have zo:=K7 hn i (zl x) z
 exact ⟨zo.1,z.2.1,z.2.2.1,zo.2.2.2.1,zo.2.2.2.2.1,nM z.2.2.2.2.2.1 ⟨trivial,trivial,trivial,trivial,trivial,trivial⟩,nM z.2.2.2.2.2.2.1 trivial,z.2.2.2.2.2.2.2⟩
theorem oz {n:Nat}(hn:1000≤n){h:Host}(z:aC n a8 h):∀k,aC n a8 (bH h k)
 |0=>z
 |k+1=>Ih hn k (oz hn z k)
def Ii (W:List cq)(i:Nat)(s:Host):Host:=match W[i]? with|some x=>Qw s [x.1]|none=>s
def polled (h:Host):Host:=gq h h.2.2.2.1.length
def returned (h:Host)(k:Nat):Host:=Eb (Ii h.2.2.1.2.2.1) k (polled h)
structure UO (a b:Host):Prop where
 e:b=(a.1,a.2.1,a.2.2.1,a.2.2.2.1,a.2.2.2.2.1,a.2.2.2.2.2.1,a.2.2.2.2.2.2.1,a.2.2.2.2.2.2.2.1,a.2.2.2.2.2.2.2.2.1,a.2.2.2.2.2.2.2.2.2.1,a.2.2.2.2.2.2.2.2.2.2.1,a.2.2.2.2.2.2.2.2.2.2.2.1,a.2.2.2.2.2.2.2.2.2.2.2.2.1,b.2.2.2.2.2.2.2.2.2.2.2.2.2.1,a.2.2.2.2.2.2.2.2.2.2.2.2.2.2)
theorem nP {n:Nat}{h:Host}(z:aC n a8 (polled h)):∀k,UO (polled h) (returned h k)∧(returned h k).2.2.2.2.2.2.2.2.2.2.2.2.2.1.length≤n+k
 |0=>⟨⟨rfl⟩,by have:=z.2.2.2.2.2.2.2.2.2.2.2.2.2.1.1;exact Nat.le_trans this (by omega)⟩
 |k+1=>by
  have i:=nP z k
  have e:returned h (k+1)=Ii h.2.2.1.2.2.1 k (returned h k):=rfl
  rw [e]
  unfold Ii
  cases h.2.2.1.2.2.1[k]? with
  |none=>exact ⟨i.1,Nat.le_trans i.2 (by omega)⟩
  |some x=>
   refine ⟨⟨?_⟩, ?_⟩
   ·show Qw _ _=_
    have e:=i.1.e
    generalize returned h k=r at e⊢
    rw [e];rfl
   ·show (_++[_]).length≤_
    rw [List.length_append,List.length_singleton];omega
theorem DX {n:Nat}{h:Host}(z:aC n a8 (polled h))(k:Nat):aC (n+k) a8 (returned h k):=by
 have i:=nP z k
 have z':aC (n+k) a8 (polled h):=z.mono (by omega)
 rw [i.1.e]
 exact ⟨z'.1,z'.2.1,z'.2.2.1,z'.2.2.2.1,z'.2.2.2.2.1,z'.2.2.2.2.2.1,z'.2.2.2.2.2.2.1,z'.2.2.2.2.2.2.2.1,z'.2.2.2.2.2.2.2.2.1,z'.2.2.2.2.2.2.2.2.2.1,z'.2.2.2.2.2.2.2.2.2.2.1,z'.2.2.2.2.2.2.2.2.2.2.2.1,z'.2.2.2.2.2.2.2.2.2.2.2.2.1,⟨i.2,fun _ _=>trivial⟩,z'.2.2.2.2.2.2.2.2.2.2.2.2.2.2⟩
theorem GG {n:Nat}(hn:1000≤n){h:Host}(z:aC n a8 h):aC n a8 (Ek h):=by
 have h4:=l6 256 128 8 (by omega)
 exact ⟨z.1,z.2.1,⟨⟨trivial,trivial,trivial,trivial⟩,⟨trivial,trivial,trivial,by show List.length (dU 256 128 8).1.2.2.2≤n;omega,fun _ _=>trivial⟩,⟨Nat.zero_le _,fun x hx=>by cases hx⟩,trivial⟩,z.2.2.2⟩
def mT (h:Host):Host:=Ek (returned h h.2.2.1.2.2.1.length)
def tq (h:Host):Host:=bif s6 h then bH (mT h) h.2.2.2.1.length else h
theorem uT {h:Host}(hb:s6 h=true):th h=true:=by
 simp only [s6,Bool.and_eq_true] at hb
 exact hb.2.2.2.2.1
theorem sV {n:Nat}(hn:1000≤n){h:Host}(z:aC n a8 h)(hl:h.2.2.2.1.length≤2):aC (n+644000+h.2.2.1.2.2.1.length) a8 (mT h):=by
 have hp:=rX (by omega) z h.2.2.2.1.length
 exact GG (by omega) (DX (hp.2.mono (by omega)) _)
theorem Ig {n:Nat}(hn:1000≤n){h:Host}(z:aC n a8 h):aC (n+644000+n) a8 (tq h):=by
 unfold tq
 cases hb:s6 h with
 |false=>exact z.mono (by omega)
 |true=>
  have hl:=qo (uT hb)
  have hw:h.2.2.1.2.2.1.length≤n:=z.2.2.1.2.2.1.1
  exact (oz (by omega) (sV hn z hl.1) _).mono (by omega)
theorem aaC {R:Type}(l:List ae)(X:List Bytes)(q:ax)(P:aD)(o:List Bytes×(Int×Int×Int×Int)×aD×Int)(k:ax×aD→List Bytes×(Int×Int×Int×Int)×aD×Int→Option R)(h:cD l X 0 q.1 P=some o):(aa (cD l X 0 (q,P).1.1 (q,P).2) fun r17=>k (q,P) r17)=k (q,P) o:=by
 show aa (cD l X 0 q.1 P) (fun r17=>k (q,P) r17)=k (q,P) o
 rw [h,ab]
theorem BP {R:Type}(l:List ae)(m:List Bytes)(i:Nat)(hi:i≤8)(hl:l.length≤1000000000)(hm:m.length≤1000000000)(k:ax×aD→List Bytes×(Int×Int×Int×Int)×aD×Int→Option R):
 (aa (ix (i:Int)) fun r13=>aa (iu 0 128) fun r14=>aa (fz l m 0 r13 r14) fun r15=>aa (mD (i:Int)) fun r16=>aa (cD l r15.1 0 r16.1.1 r16.2) fun r17=>k r16 r17)=k (xw i,(dU (cJ i+128) 384 4).1) (qq l m i):=by
 have hb:cJ i=1280+(i:Int)*1792:=rfl
 have hb2:cJ i≤9223372036854775807:=by omega
 have hz:iu 0 128=some (qy 128):=Px 128 (by omega)
 have hf:=Fp l (mA l m 0 (cJ i) (qy 128) false).1 0 (cJ i,4,0,0) (dU (cJ i+128) 384 4).1 hl (by rw [vU];exact hm) (Nat.le_trans (l6 (cJ i+128) 384 4 (by omega)) (by omega))
 rw [Fm i hi,ab,hz,ab,Bc l m 0 (cJ i) (qy 128) hl hm hb2,ab,KD i hi,ab]
 exact aaC l _ (xw i) _ (qq l m i) k hf
theorem Bd (K:Int→Host→Option Host)(s0 B:Host)(N:Nat)(hN:N≤2)(h1:s0.2.2.2.1.length=N)(h2:s0.2.2.2.2.1.length=N)(h3:s0.2.2.2.2.2.1.length=N)(h4:s0.2.2.2.2.2.2.1.length=N)(z:aC 900000000 a8 s0):
 aq (dQ K (N:Int) B) fuel (0,s0)=K (N:Int) (bH s0 N):=by
 refine ck (fun i=>((i:Int),bH s0 i)) N (by omega) (fun i nx hi=> ?_) (fun nx=> ?_)
 ·have kr:=nn s0 i
  have zr:=oz (by omega) z i
  have z1:(bH s0 i).1.length≤1000000000:=Nat.le_trans zr.1.1 (by omega)
  have z2:(bH s0 i).2.1.length≤1000000000:=Nat.le_trans zr.2.1.1 (by omega)
  have i1:i<(bH s0 i).2.2.2.1.length:=by rw [kr.rx,h1];exact hi
  have i2:i<(bH s0 i).2.2.2.2.1.length:=by rw [kr.pl,h2];exact hi
  have i3:i<(bH s0 i).2.2.2.2.2.1.length:=by rw [kr.vec,h3];exact hi
  have i4:i<(bH s0 i).2.2.2.2.2.2.1.length:=by rw [kr.pol,h4];exact hi
  rw [show bH s0 (i+1)=sf i (bH s0 i) from rfl]
  generalize bH s0 i=s at z1 z2 i1 i2 i3 i4⊢
  unfold sf zl qU
  simp only [List.getElem?_eq_getElem i1,List.getElem?_eq_getElem i3]
  simp only [dQ]
  rw [decide_eq_true (by omega),cond_true]
  simp only [ay i1,ab]
  rw [BP s.2.1 s.1 i (by omega) z2 z1,BP s.2.1 s.1 i (by omega) z2 z1]
  generalize xw i=q
  generalize qq s.2.1 s.1 i=o
  simp only [ay i1,ay i2,ay i3,ay i4,ab]
  rw [wrap64 (n:=(i:Int)+1) (by omega) (by omega),Int.toNat_natCast]
  cases s.2.2.2.1[i].2.2.2.2.1<;>rfl
 simp only [dQ]
 rw [decide_eq_false (by omega),cond_false]
theorem vm {h:Host}{n:Nat}(hq:sz h (polled h))(hz:aC n a8 (polled h)):(mT h).2.2.2.1.length=h.2.2.2.1.length∧(mT h).2.2.2.2.1.length=h.2.2.2.2.1.length∧(mT h).2.2.2.2.2.1=h.2.2.2.2.2.1∧(mT h).2.2.2.2.2.2.1=h.2.2.2.2.2.2.1:=by
 have er:=(nP hz h.2.2.1.2.2.1.length).1.e
 refine ⟨?_, ?_, ?_, ?_⟩
 ·show (returned h h.2.2.1.2.2.1.length).2.2.2.1.length=_
  rw [er];exact hq.rx
 ·show (returned h h.2.2.1.2.2.1.length).2.2.2.2.1.length=_
  rw [er];exact hq.pl
 ·show (returned h h.2.2.1.2.2.1.length).2.2.2.2.2.1=_
  rw [er];exact hq.vec
 ·show (returned h h.2.2.1.2.2.1.length).2.2.2.2.2.2.1=_
  rw [er];exact hq.pol
theorem Bb (h:Host)(k:uI h)(z:aC 100000000 a8 h):iq h=some (tq h):=by
 have hfu:=bz
 unfold iq tq
 rw [Dq h (z.mono (by omega)),ab,MD h k,ab]
 cases hb:s6 h with|false=>rfl|true=> ?_
 have hl:=qo (uT hb)
 have hw:h.2.2.1.2.2.1.length≤100000000:=z.2.2.1.2.2.1.1
 have hp:=rX (n:=100000000) (by omega) z
 simp only [Bool.not_true,cond_false,cond_true]
 refine ck (fun i=>((i:Int),gq h i)) h.2.2.2.1.length (by omega) (fun i nx hi=> ?_) (fun nx=> ?_)
 ·simp only [hG]
  rw [decide_eq_true (by omega),cond_true,Dv (gq h i) i 1000 (by rw [(hp i).1.rx];exact hi) (by rw [(hp i).1.pl];omega) ((hp i).2.mono (by omega)),ab,wrap64 (by omega) (by omega)];rfl
 simp only [hG]
 rw [decide_eq_false (by omega),cond_false]
 have hq:=hp h.2.2.2.1.length
 have hr:=nP (n:=100000000+322000*h.2.2.2.1.length) hq.2
 have e1:(gq h h.2.2.2.1.length).2.2.1.2.2.1=h.2.2.1.2.2.1:=by rw [hq.1.tx]
 rw [e1]
 refine ck (fun i=>((i:Int),returned h i)) h.2.2.1.2.2.1.length (by omega) (fun i nx hi=> ?_) (fun nx=> ?_)
 ·have hri:=(hr i).2
  simp only [gi]
  rw [decide_eq_true (by omega),cond_true,ay hi,ab,au (by rw [List.length_singleton];omega),wrap64 (by omega) (by omega)]
  rw [show returned h (i+1)=Ii h.2.2.1.2.2.1 i (returned h i) from rfl,Ii,List.getElem?_eq_getElem hi];rfl
 simp only [gi]
 rw [decide_eq_false (by omega),cond_false]
 simp only [KH,ab]
 have hE:=sV (n:=100000000) (by omega) z hl.1
 have hk:=vm hq.1 hq.2
 have eN:((List.length (returned h h.2.2.1.2.2.1.length).2.2.2.1:Nat):Int)=(h.2.2.2.1.length:Int):=congrArg Nat.cast hk.1
 rw [eN]
 exact Bd _ (mT h) _ h.2.2.2.1.length hl.1 hk.1 (hk.2.1.trans hl.2.1) (by rw [hk.2.2.1];exact hl.2.2.1) (by rw [hk.2.2.2];exact hl.2.2.2) (hE.mono (by omega))
theorem Br (K:Int→Host→Option Host)(h s0 B:Host)(N:Nat)(hN:N≤2)(h1:s0.2.2.2.1.length=N)(h2:s0.2.2.2.2.1.length=N)(h3:s0.2.2.2.2.2.1=h.2.2.2.2.2.1)(h5:h.2.2.2.2.2.1.length=N)(h4:s0.2.2.2.2.2.2.1.length=N)(z:aC 900000000 a8 s0):
 aq (dX K h B) fuel (0,s0)=K (N:Int) (bH s0 N):=by
 refine ck (fun i=>((i:Int),bH s0 i)) N (by omega) (fun i nx hi=> ?_) (fun nx=> ?_)
 ·have kr:=nn s0 i
  have zr:=oz (by omega) z i
  have z1:(bH s0 i).1.length≤1000000000:=Nat.le_trans zr.1.1 (by omega)
  have z2:(bH s0 i).2.1.length≤1000000000:=Nat.le_trans zr.2.1.1 (by omega)
  have i1:i<(bH s0 i).2.2.2.1.length:=by rw [kr.rx,h1];exact hi
  have iN:(bH s0 i).2.2.2.1.length=N:=by rw [kr.rx,h1]
  have i2:i<(bH s0 i).2.2.2.2.1.length:=by rw [kr.pl,h2];exact hi
  have i3:i<(bH s0 i).2.2.2.2.2.1.length:=by rw [kr.vec,h3,h5];exact hi
  have i4:i<(bH s0 i).2.2.2.2.2.2.1.length:=by rw [kr.pol,h4];exact hi
  have i5:i<h.2.2.2.2.2.1.length:=by rw [h5];exact hi
  have iv:(bH s0 i).2.2.2.2.2.1[i]=h.2.2.2.2.2.1[i]:=by
   have:=kr.vecs i (Nat.le_refl _)
   rw [List.getElem?_eq_getElem i3,h3,List.getElem?_eq_getElem i5] at this
   exact Option.some.inj this
  rw [show bH s0 (i+1)=sf i (bH s0 i) from rfl]
  generalize bH s0 i=s at z1 z2 iN i1 i2 i3 i4 iv⊢
  have g1:=List.getElem?_eq_getElem i1
  unfold sf
  rw [g1,List.getElem?_eq_getElem i3]
  simp only [dX]
  rw [decide_eq_true (by omega),cond_true]
  simp only [ay i1,ab]
  have o1:=Gl s i (by omega) i1 i2 z2 z1
  rw [PU g1] at o1
  have o2:=fun x:ax=>Gl (s.1,s.2.1,s.2.2.1,s.2.2.2.1.set i x,s.2.2.2.2) i (by omega) (by rw [List.length_set];exact i1) i2 z2 z1
  simp only [K9 s _ i1] at o2
  rw [Int.toNat_natCast,wrap64 (n:=(i:Int)+1) (by omega) (by omega),o1,o2,ab,ab]
  simp only [ay i5,ab,iv]
  have j3:∀d,i<(qU s i d).2.2.2.2.2.1.length:=fun d=>i3
  have j4:∀d,i<(qU s i d).2.2.2.2.2.2.1.length:=fun d=>i4
  simp only [ay (j3 _),ay (j4 _),ab]
  unfold zl
  cases s.2.2.2.1[i].2.2.2.2.1<;>rfl
 have kN:=(nn s0 N).rx
 simp only [dX]
 rw [decide_eq_false (by omega),cond_false]
theorem Bp (h:Host)(k:uI h)(z:aC 100000000 a8 h):mi h=some (tq h):=by
 have hfu:=bz
 unfold mi tq
 rw [D6 h (z.mono (by omega)),ab,Ny h k,ab]
 cases hb:s6 h with|false=>rfl|true=> ?_
 have hl:=qo (uT hb)
 have hw:h.2.2.1.2.2.1.length≤100000000:=z.2.2.1.2.2.1.1
 have hp:=rX (n:=100000000) (by omega) z
 simp only [Bool.not_true,cond_false,cond_true]
 refine ck (fun i=>((i:Int),gq h i)) h.2.2.2.1.length (by omega) (fun i nx hi=> ?_) (fun nx=> ?_)
 ·have h1:i<(gq h i).2.2.2.1.length:=by rw [(hp i).1.rx];exact hi
  have h2:i<(gq h i).2.2.2.2.1.length:=by rw [(hp i).1.pl];omega
  have zi:aC 500000000 a8 (gq h i):=(hp i).2.mono (by omega)
  have hz2:(gq h i).2.1.length≤500000000:=zi.2.1.1
  have hz1:(gq h i).1.length≤500000000:=zi.1.1
  have em:=(hp i).1.maps
  rw [show gq h (i+1)=(rY (gq h i) i 1000).2 from rfl]
  generalize gq h i=s at h1 h2 zi hz1 hz2 em⊢
  have hpl:s.2.2.2.2.1[i].2.2.2.length≤500000000:=(zi.2.2.2.2.1.2 _ (List.getElem_mem h2)).2.2.2.1
  simp only [ia]
  rw [decide_eq_true (by omega),cond_true,←em]
  simp only [ay h1,ay h2,ab,NC s.2.1 s.1 0 _ _ _ 1000 (show s.2.1.length≤1000000000 by omega) (show s.1.length≤1000000000 by omega) hpl zi.2.2.2.2.2.2.2.2.2.1,Int.toNat_natCast,rY,List.getElem?_eq_getElem h1,List.getElem?_eq_getElem h2]
  rw [wrap64 (by omega) (by omega)];rfl
 simp only [ia]
 rw [decide_eq_false (by omega),cond_false]
 have hq:=hp h.2.2.2.1.length
 have hr:=nP (n:=100000000+322000*h.2.2.2.1.length) hq.2
 refine ck (fun i=>((i:Int),returned h i)) h.2.2.1.2.2.1.length (by omega) (fun i nx hi=> ?_) (fun nx=> ?_)
 ·have hri:=(hr i).2
  simp only [gu]
  rw [decide_eq_true (by omega),cond_true,ay hi,ab,au (by rw [List.length_singleton];omega),wrap64 (by omega) (by omega)]
  rw [show returned h (i+1)=Ii h.2.2.1.2.2.1 i (returned h i) from rfl,Ii,List.getElem?_eq_getElem hi];rfl
 simp only [gu]
 rw [decide_eq_false (by omega),cond_false]
 simp only [Lw,ab]
 have hE:=sV (n:=100000000) (by omega) z hl.1
 have hk:=vm hq.1 hq.2
 have ex:mT h=((returned h h.2.2.1.2.2.1.length).1,(returned h h.2.2.1.2.2.1.length).2.1,(xI.1,xI.2.1,xI.2.2.1,h.2.2.1.2.2.2),(returned h h.2.2.1.2.2.1.length).2.2.2):=by
  have et:(returned h h.2.2.1.2.2.1.length).2.2.1=h.2.2.1:=by
   rw [(hr h.2.2.1.2.2.1.length).1.e];exact hq.1.tx
  unfold mT Ek
  rw [et]
 rw [←ex]
 exact Br _ h (mT h) _ h.2.2.2.1.length hl.1 hk.1 (hk.2.1.trans hl.2.1) hk.2.2.1 hl.2.2.1 (by rw [hk.2.2.2];exact hl.2.2.2) (hE.mono (by omega))
end
end Go.Pu
end
section
namespace Go.Pu
open Go.Dn
noncomputable section
theorem uw {R:Type}(K:Int→Bytes→Option R):∀(n:Nat)(v:Int)(s:Bytes)(m:Nat),0≤v→v≤1000000000000000→v<10^n→s.length+n≤1000→n<m→∃s':Bytes,s'.length≤1000∧∃v',aq (ji K) m (v,s)=K v' s'
 |0,v,s,m,h0,_,h1,hs,hm=>by
  have hv:v=0:=by simp at h1;omega
  subst hv
  cases m with
  |zero=>omega
  |succ m=>exact ⟨s,by omega,0,by rw [aq];rfl⟩
 |n+1,v,s,m,h0,hb,h1,hs,hm=>by
  cases m with
  |zero=>omega
  |succ m=>
   rw [aq]
   simp only [ji]
   by_cases hv:v>0
   ·have hq:Int.tdiv v 10=v/10:=Int.tdiv_eq_ediv_of_nonneg h0
    rw [decide_eq_true hv]
    simp only [cond_true]
    rw [if_neg (by omega),au (by simp [bytesOf];omega),if_neg (by omega),hq,wrap64 (n:=v/10) (by omega) (by omega)]
    exact uw K n (v/10) _ m (by omega) (by omega) (by rw [Int.pow_succ] at h1;omega) (by simp [bytesOf];omega) (by omega)
   ·rw [decide_eq_false hv]
    exact ⟨s,by omega,v,rfl⟩
theorem Bf (k:Int)(h1:1≤k)(h2:k≤1000000000000000):∃s,aE k=some s:=by
 have hfu:=bz
 unfold aE
 rw [decide_eq_false (by omega)]
 simp only [cond_false]
 obtain ⟨s,hs,v,h⟩:=uw (fun (_:Int) (y2:Bytes)=>room (List.length ([109]:Bytes)+List.length y2) (some (([109]:Bytes)++y2))) 16 k [] fuel (by omega) h2 (by omega) (by simp) (by omega)
 rw [h,au (by simp;omega)]
 exact ⟨_,rfl⟩
def Qi (k:Int):Bytes:=(aE k).getD []
theorem ek (k:Int)(h1:1≤k)(h2:k≤1000000000000000):aE k=some (Qi k):=by
 obtain ⟨s,hs⟩:=Bf k h1 h2
 rw [Qi,hs];rfl
def jE:(t:CT)→t.D→Nat
 | .int _,_=>1
 | .bool,_=>1
 | .str,_=>1
 | .sl e,xs=>(xs.map (jE e)).sum
 | .pair a b,x=>jE a x.1+jE b x.2
def TY {α:Type}(f:α→Int→α)(c:α→Nat):List α→Int→List α
 |[],_=>[]
 |x::xs,k=>f x k::TY f c xs (k+c x)
def mk:(t:CT)→t.D→Int→t.D
 | .int _,_,k=>k
 | .bool,_,k=>Int.tmod k 3==0
 | .str,_,k=>Qi k
 | .sl e,xs,k=>TY (mk e) (jE e) xs k
 | .pair a b,x,k=>(mk a x.1 k,mk b x.2 (k+jE a x.1))
def aK:(t:CT)→t.D→Nat
 | .int _,_=>0
 | .bool,_=>0
 | .str,_=>0
 | .sl e,xs=>jE (.sl e) xs
 | .pair a b,x=>aK a x.1+aK b x.2
def rR:(t:CT)→t.D→Int→t.D
 | .int _,x,_=>x
 | .bool,x,_=>x
 | .str,x,_=>x
 | .sl e,xs,k=>mk (.sl e) xs k
 | .pair a b,x,k=>(rR a x.1 k,rR b x.2 (k+aK a x.1))
theorem wP {k:IntKind}(x k':Int):mk (.int k) x k'=k':=rfl
theorem tZ (x:Bool)(k:Int):mk .bool x k=(Int.tmod k 3==0):=rfl
theorem wQ (x:Bytes)(k:Int):mk .str x k=Qi k:=rfl
theorem qp {a b:CT}(x:a.D×b.D)(k:Int):mk (.pair a b) x k=(mk a x.1 k,mk b x.2 (k+jE a x.1)):=rfl
theorem eA {k:IntKind}(x:Int):jE (.int k) x=1:=rfl
theorem cW (x:Bool):jE .bool x=1:=rfl
theorem eB (x:Bytes):jE .str x=1:=rfl
theorem cX {a b:CT}(x:a.D×b.D):jE (.pair a b) x=jE a x.1+jE b x.2:=rfl
theorem ky {k:IntKind}(x k':Int):rR (.int k) x k'=x:=rfl
theorem gH (x:Bool)(k:Int):rR .bool x k=x:=rfl
theorem kz (x:Bytes)(k:Int):rR .str x k=x:=rfl
theorem adI {e:CT}(x:List e.D)(k:Int):rR (.sl e) x k=mk (.sl e) x k:=rfl
theorem gI {a b:CT}(x:a.D×b.D)(k:Int):rR (.pair a b) x k=(rR a x.1 k,rR b x.2 (k+aK a x.1)):=rfl
theorem gA {k:IntKind}(x:Int):aK (.int k) x=0:=rfl
theorem eo (x:Bool):aK .bool x=0:=rfl
theorem gB (x:Bytes):aK .str x=0:=rfl
theorem aaN {e:CT}(x:List e.D):aK (.sl e) x=jE (.sl e) x:=rfl
theorem eu {a b:CT}(x:a.D×b.D):aK (.pair a b) x=aK a x.1+aK b x.2:=rfl
theorem UF:¬(3:Int)=0:=by omega
theorem iS {n:Int}(h:¬n<0):decide (n<0)=false:=decide_eq_false h
theorem gh {α:Type}{l:List α}{i:Nat}(x:α)(h:i<l.length):idx (l.set i x) (i:Int)=some x:=by
 rw [ya,List.getElem?_set_self h]
theorem BZ {e:CT}{T:((List e.D×Int×Int×List e.D)→Option (Int×List e.D))→(List e.D×Int×Int×List e.D)→Option (Int×List e.D)}
 (hs:∀(l:List e.D)(i:Nat)(hi:i<l.length)(k:Int) nx,1≤k→k+jE e l[i]≤1000000000000000→l.length≤1000000000000→aC 1000000000000 e l[i]→
  T nx (l,k,(i:Int),l)=nx (l.set i (mk e l[i] k),k+jE e l[i],(i:Int)+1,l.set i (mk e l[i] k)))
 (hf:∀(l:List e.D)(k:Int) nx,T nx (l,k,(l.length:Int),l)=some (k,l)):
 ∀(xs pre:List e.D)(k:Int)(n:Nat),1≤k→k+jE (.sl e) xs≤1000000000000000→pre.length+xs.length≤1000000000000→(∀x∈xs,aC 1000000000000 e x)→xs.length<n→
  aq T n (pre++xs,k,(pre.length:Int),pre++xs)=some (k+jE (.sl e) xs,pre++mk (.sl e) xs k)
 |[],pre,k,n,_,_,_,_,hn=>by
  cases n with
  |zero=>omega
  |succ n=>
   rw [aq,List.append_nil,hf]
   simp [jE,mk,TY]
 |x::xs,pre,k,n,h1,h2,h3,h4,hn=>by
  cases n with
  |zero=>omega
  |succ n=>
   have hc:jE (.sl e) (x::xs)=jE e x+jE (.sl e) xs:=by simp [jE]
   have hi:pre.length<(pre++x::xs).length:=by simp
   have hx:(pre++x::xs)[pre.length]=x:=by simp
   simp only [List.length_cons] at h3 hn
   rw [aq,hs _ pre.length hi k _ h1 (by rw [hx];omega) (by simp;omega) (by rw [hx];exact h4 x (by simp)),hx]
   have hset:(pre++x::xs).set pre.length (mk e x k)=(pre++[mk e x k])++xs:=by
    rw [List.set_append_right _ _ (Nat.le_refl _),Nat.sub_self,List.set_cons_zero,List.append_assoc];rfl
   have hl:((pre.length:Int)+1)=(((pre++[mk e x k]).length:Nat):Int):=by simp
   rw [hset,hl,BZ hs hf xs _ _ n (by omega) (by omega) (by simp;omega) (fun y hy=>h4 y (by simp [hy])) (by omega)]
   rw [hc]
   congr 1
   refine Prod.ext (by simp only;omega) ?_
   simp only [mk,TY,List.append_assoc,List.singleton_append]
theorem BN {e:CT}{T:List e.D→((Int×Int)→Option Int)→(Int×Int)→Option Int}
 (hs:∀(l:List e.D)(i:Nat)(hi:i<l.length)(x:e.D)(k:Int) nx,l[i]=mk e x k→1≤k→k+jE e x≤1000000000000000→l.length≤1000000000000→aC 1000000000000 e x→
  T l nx (k,(i:Int))=nx (k+jE e x,(i:Int)+1))
 (hf:∀(l:List e.D)(k:Int) nx,T l nx (k,(l.length:Int))=some k):
 ∀(xs pre:List e.D)(k:Int)(n:Nat),1≤k→k+jE (.sl e) xs≤1000000000000000→pre.length+xs.length≤1000000000000→(∀x∈xs,aC 1000000000000 e x)→xs.length<n→
  aq (T (pre++mk (.sl e) xs k)) n (k,(pre.length:Int))=some (k+jE (.sl e) xs)
 |[],pre,k,n,_,_,_,_,hn=>by
  cases n with
  |zero=>omega
  |succ n=>
   have:pre++mk (.sl e) ([]:List e.D) k=pre:=by simp [mk,TY]
   rw [aq,this,hf]
   simp [jE]
 |x::xs,pre,k,n,h1,h2,h3,h4,hn=>by
  cases n with
  |zero=>omega
  |succ n=>
   have hc:jE (.sl e) (x::xs)=jE e x+jE (.sl e) xs:=by simp [jE]
   have hm:pre++mk (.sl e) (x::xs) k=(pre++[mk e x k])++mk (.sl e) xs (k+jE e x):=by simp [mk,TY]
   have hlen:∀(ys:List e.D)(k:Int),(mk (.sl e) ys k).length=ys.length:=by
    intro ys
    induction ys with
    |nil=>intro k;rfl
    |cons y ys ih=>intro k;have:=ih (k+jE e y);simp only [mk,TY,List.length_cons] at this⊢;omega
   simp only [List.length_cons] at h3 hn
   rw [aq,hm,hs _ pre.length (by simp) x k _ (by simp) h1 (by omega) (by have:=hlen xs (k+jE e x);simp;omega) (h4 x (by simp))]
   have hl:((pre.length:Int)+1)=(((pre++[mk e x k]).length:Nat):Int):=by simp
   rw [hl,BN hs hf xs _ _ n (by omega) (by omega) (by simp;omega) (fun y hy=>h4 y (by simp [hy])) (by omega),hc]
   congr 1
   omega
def GM (t:CT)(mark:t.D→Int→Option (Int×t.D)):Prop:=∀(a:t.D)(_:aC 1000000000000 t a)(k:Int)(_:1≤k)(_:k+jE t a≤1000000000000000),mark a k=some (k+jE t a,mk t a k)
def GL (t:CT)(held:t.D→Int→Option Int):Prop:=∀(a:t.D)(_:aC 1000000000000 t a)(k:Int)(_:1≤k)(_:k+jE t a≤1000000000000000),held (mk t a k) k=some (k+jE t a)
theorem DE {e:CT}{T:((List e.D×Int×Int×List e.D)→Option (Int×List e.D))→(List e.D×Int×Int×List e.D)→Option (Int×List e.D)}
 (hs:∀(l:List e.D)(i:Nat)(hi:i<l.length)(k:Int) nx,1≤k→k+jE e l[i]≤1000000000000000→l.length≤1000000000000→aC 1000000000000 e l[i]→
  T nx (l,k,(i:Int),l)=nx (l.set i (mk e l[i] k),k+jE e l[i],(i:Int)+1,l.set i (mk e l[i] k)))
 (hf:∀(l:List e.D)(k:Int) nx,T nx (l,k,(l.length:Int),l)=some (k,l)):GM (.sl e) (fun a k=>aq T fuel (a,k,0,a)):=by
 have hfu:=bz
 intro a h k h1 h2
 have hl:a.length≤1000000000000:=h.1
 exact BZ hs hf a [] k fuel h1 h2 (by simp;omega) h.2 (by omega)
theorem DD {e:CT}{H:List e.D→((Int×Int)→Option Int)→(Int×Int)→Option Int}
 (gs:∀(l:List e.D)(i:Nat)(hi:i<l.length)(x:e.D)(k:Int) nx,l[i]=mk e x k→1≤k→k+jE e x≤1000000000000000→l.length≤1000000000000→aC 1000000000000 e x→
  H l nx (k,(i:Int))=nx (k+jE e x,(i:Int)+1))
 (gf:∀(l:List e.D)(k:Int) nx,H l nx (k,(l.length:Int))=some k):GL (.sl e) (fun a k=>aq (H a) fuel (k,0)):=by
 have hfu:=bz
 intro a h k h1 h2
 have hl:a.length≤1000000000000:=h.1
 exact BN gs gf a [] k fuel h1 h2 (by simp;omega) h.2 (by omega)
def O3 (t:CT)(mark:t.D→Int→Option (Int×t.D)):Prop:=∀(a:t.D)(_:aC 1000000000000 t a)(k:Int)(_:1≤k)(_:k+aK t a≤1000000000000000),mark a k=some (k+aK t a,rR t a k)
def O2 (t:CT)(held:t.D→Int→Option Int):Prop:=∀(a:t.D)(_:aC 1000000000000 t a)(k:Int)(_:1≤k)(_:k+aK t a≤1000000000000000),held (rR t a k) k=some (k+aK t a)
theorem GM.top {e:CT}{mark:List e.D→Int→Option (Int×List e.D)}(h:GM (.sl e) mark):O3 (.sl e) mark:=h
theorem GL.top {e:CT}{held:List e.D→Int→Option Int}(h:GL (.sl e) held):O2 (.sl e) held:=h
def OkW:{t:CT}→GP FM t→Prop
 |_,.sl (e:=e) m=>GM (.sl e) m
 |_,.pair a b=>OkW a∧OkW b
 |_,_=>True
theorem D1 {α R:Type}{f:Int→Option Bytes}(hf:∀k,1≤k→k≤1000000000000000→f k=some (Qi k)){l:List α}{i:Nat}(hi:i<l.length):∀{t:CT}(n:GP FM t)(_:OkW n)(g:α→t.D)(s:α→t.D→α)(_:∀y v,g (s y v)=v)(_:∀y v w,s (s y v) w=s y w)(x:α)(k:Int)(K:List α→Int→Option R),1≤k→k+jE t (g x)≤1000000000000000→aC 1000000000000 t (g x)→
 tw f (i:Int) n g s (l.set i x) (l.set i x) k K=K (l.set i (s x (mk t (g x) k))) (k+jE t (g x))
 |_,.int _,_,g,s,_,_,x,k,K,h1,h2,_=>by
  simp only [eA] at h2⊢
  rw [tw,gh x hi,ab,ab,Int.toNat_natCast,List.set_set,wrap64 (by omega) (by omega)];rfl
 |_,.bool,_,g,s,_,_,x,k,K,h1,h2,_=>by
  simp only [cW] at h2⊢
  rw [tw,gh x hi,ab,ab,Int.toNat_natCast,List.set_set,wrap64 (by omega) (by omega)];rfl
 |_,.str,_,g,s,_,_,x,k,K,h1,h2,_=>by
  simp only [eB] at h2⊢
  rw [tw,hf k h1 (by omega),ab,gh x hi,ab,ab,Int.toNat_natCast,List.set_set,wrap64 (by omega) (by omega)];rfl
 |_,.sl m,hn,g,s,_,_,x,k,K,h1,h2,h3=>by
  rw [tw,gh x hi,ab,ab,hn (g x) h3 k h1 h2,ab,Int.toNat_natCast,List.set_set]
 |_,.pair (a:=ca) (b:=cb) a b,hn,g,s,l1,l2,x,k,K,h1,h2,h3=>by
  rw [cX] at h2⊢
  have e1:=D1 (R:=R) hf hi a hn.1 (fun y=>(g y).1) (fun y v=>s y (v,(g y).2)) (fun y v=>by simp only [l1]) (fun y v w=>by simp only [l1,l2]) x k
  rw [tw,e1 _ h1 (by show k+((jE ca (g x).1:Nat):Int)≤_;omega) h3.1]
  have e2:=D1 (R:=R) hf hi b hn.2 (fun y=>(g y).2) (fun y v=>s y ((g y).1,v)) (fun y v=>by simp only [l1]) (fun y v w=>by simp only [l1,l2]) (s x (mk ca (g x).1 k,(g x).2)) (k+jE ca (g x).1) K (by omega) (by simp only [l1];omega) (by simp only [l1];exact h3.2)
  rw [e2]
  simp only [l1,l2,qp]
  congr 1
  omega
theorem xo {e:CT}(n:GP FM e){T:((List e.D×Int×Int×List e.D)→Option (Int×List e.D))→(List e.D×Int×Int×List e.D)→Option (Int×List e.D)}{f:Int→Option Bytes}(hf:∀k,1≤k→k≤1000000000000000→f k=some (Qi k))(hn:OkW n)
 (he:∀(l:List e.D)(k i:Int) nx,T nx (l,k,i,l)=cond (decide (i<(l.length:Int))) (tw f i n (fun y=>y) (fun _ v=>v) l l k (fun L k'=>nx (L,k',IntKind.wrap .i64 (i+1),L))) (some (k,l))):GM (.sl e) (fun a k=>aq T fuel (a,k,0,a)):=by
 refine DE (fun l i hi k nx h1 h2 h3 hx=> ?_) (fun l k nx=> ?_)
 ·have hl:l=l.set i l[i]:=(List.set_getElem_self hi).symm
  rw [he,decide_eq_true (by omega),cond_true]
  conv=>lhs;rw [hl]
  rw [D1 hf hi n hn (fun y=>y) (fun _ v=>v) (fun _ _=>rfl) (fun _ _ _=>rfl) l[i] k _ h1 h2 hx]
  rw [wrap64 (by omega) (by omega)]
 ·rw [he,decide_eq_false (by omega)];rfl
def OkV:{t:CT}→GP FH t→Prop
 |_,.sl (e:=e) m=>GL (.sl e) m
 |_,.pair a b=>OkV a∧OkV b
 |_,_=>True
theorem D0 {α R:Type}{f:Int→Option Bytes}(hf:∀k,1≤k→k≤1000000000000000→f k=some (Qi k)){v:List α}{i:Nat}(hi:i<v.length)(bad:Int→Option R):∀{t:CT}(n:GP FH t)(_:OkV n)(g:α→t.D)(K:Int→Option R)(x:t.D)(k:Int),1≤k→k+jE t x≤1000000000000000→aC 1000000000000 t x→g v[i]=mk t x k→
 tu f (i:Int) v bad n g K k=K (k+jE t x)
 |_,.int _,_,g,K,x,k,h1,h2,_,h4=>by
  simp only [eA] at h2⊢
  have h5:g v[i]=k:=h4
  rw [tu,ay hi,ab,h5,bne_self_eq_false,cond_false,wrap64 (by omega) (by omega)];rfl
 |_,.bool,_,g,K,x,k,h1,h2,_,h4=>by
  simp only [cW] at h2⊢
  have h5:g v[i]=(Int.tmod k 3==0):=h4
  rw [tu,ay hi,ab,h5,beq_self_eq_true,Bool.not_true,cond_false,wrap64 (by omega) (by omega)];rfl
 |_,.str,_,g,K,x,k,h1,h2,_,h4=>by
  simp only [eB] at h2⊢
  have h5:g v[i]=Qi k:=h4
  rw [tu,ay hi,ab,hf k h1 (by omega),ab,h5,beq_self_eq_true,Bool.not_true,cond_false,wrap64 (by omega) (by omega)];rfl
 |_,.sl m,hn,g,K,x,k,h1,h2,h3,h4=>by
  rw [tu,ay hi,ab,h4,hn x h3 k h1 h2,ab,decide_eq_false (by omega),cond_false]
 |_,.pair a b,hn,g,K,x,k,h1,h2,h3,h4=>by
  rw [cX] at h2⊢
  rw [qp] at h4
  rw [tu,D0 hf hi bad a hn.1 _ _ x.1 k h1 (by omega) h3.1 (by simp only [h4]),D0 hf hi bad b hn.2 _ _ x.2 _ (by omega) (by omega) h3.2 (by simp only [h4])]
  congr 1
  omega
theorem xn {e:CT}(n:GP FH e){H:List e.D→((Int×Int)→Option Int)→(Int×Int)→Option Int}{bad:List e.D→Int→Int→Option Int}{f:Int→Option Bytes}(hf:∀k,1≤k→k≤1000000000000000→f k=some (Qi k))(hn:OkV n)
 (he:∀(l:List e.D)(k i:Int) nx,H l nx (k,i)=cond (decide (i<(l.length:Int))) (tu f i l (bad l i) n (fun y=>y) (fun k'=>nx (k',IntKind.wrap .i64 (i+1))) k) (some k)):GL (.sl e) (fun a k=>aq (H a) fuel (k,0)):=by
 refine DD (fun l i hi x k nx hm h1 h2 h3 hx=> ?_) (fun l k nx=> ?_)
 ·rw [he,decide_eq_true (by omega),cond_true,D0 hf hi _ n hn _ _ x k h1 h2 hx hm,wrap64 (by omega) (by omega)]
 ·rw [he,decide_eq_false (by omega)];rfl
theorem xY:∀{t:CT}{x:t.D},aK t x≤jE t x
 | .int _,_=>by simp [aK]
 | .bool,_=>by simp [aK]
 | .str,_=>by simp [aK]
 | .sl _,_=>Nat.le_refl _
 | .pair a b,x=>by simp only [aK,jE];exact Nat.add_le_add xY xY
def wt:CT→Nat
 | .sl e=>wt e
 | .pair a b=>wt a+wt b
 |_=>1
theorem G5:∀{t:CT}{x:t.D},jE t x≤wt t*(eW t x+1)
 | .int _,_=>by simp [jE,wt]
 | .bool,_=>by simp [jE,wt]
 | .str,_=>by simp [jE,wt]
 | .sl e,xs=>by
   have h:∀l:List e.D,(l.map (jE e)).sum≤wt e*((l.map (eW e)).sum+l.length):=by
    intro l
    induction l with
    |nil=>simp
    |cons y l ih=>
     have:=G5 (t:=e) (x:=y)
     simp only [List.map_cons,List.sum_cons,List.length_cons]
     have e1:wt e*(eW e y+(l.map (eW e)).sum+(l.length+1))=wt e*(eW e y+1)+wt e*((l.map (eW e)).sum+l.length):=by
      rw [←Nat.mul_add];congr 1;omega
     omega
   have h1:=h xs
   simp only [jE,wt,eW]
   refine Nat.le_trans h1 (Nat.mul_le_mul_left _ (by omega))
 | .pair a b,x=>by
   have h1:=G5 (t:=a) (x:=x.1)
   have h2:=G5 (t:=b) (x:=x.2)
   simp only [jE,wt,eW]
   rw [Nat.add_mul]
   exact Nat.add_le_add (Nat.le_trans h1 (Nat.mul_le_mul_left _ (by omega))) (Nat.le_trans h2 (Nat.mul_le_mul_left _ (by omega)))
def IQ (n:Nat):CT→Nat
 | .sl e=>n*IQ n e
 | .pair a b=>IQ n a+IQ n b
 |_=>1
theorem vg {n:Nat}:∀{t:CT}{x:t.D},aC n t x→jE t x≤IQ n t
 | .int _,_,_=>by simp [jE,IQ]
 | .bool,_,_=>by simp [jE,IQ]
 | .str,_,_=>by simp [jE,IQ]
 | .sl e,xs,h=>by
   have h1:∀l:List e.D,(∀x∈l,aC n e x)→(l.map (jE e)).sum≤l.length*IQ n e:=by
    intro l
    induction l with
    |nil=>simp
    |cons y l ih=>
     intro hl
     have:=vg (hl y (by simp))
     have:=ih (fun x hx=>hl x (by simp [hx]))
     simp only [List.map_cons,List.sum_cons,List.length_cons,Nat.add_mul,Nat.one_mul]
     omega
   simp only [jE,IQ]
   exact Nat.le_trans (h1 xs h.2) (Nat.mul_le_mul_right _ h.1)
 | .pair a b,x,h=>by
   simp only [jE,IQ]
   exact Nat.add_le_add (vg h.1) (vg h.2)
end
end Go.Pu
end
section
namespace Go.Pu
open Go.Dn
set_option linter.unusedVariables false
set_option linter.unusedSimpArgs false
set_option maxRecDepth 100000
set_option maxHeartbeats 4000000
theorem u0:GM (.sl .str) jh:=by
 refine DE (e:= .str) (T:=dw (fun _ y _ z=>some (y,z))) (fun l i hi k nx h1 h2 h3 hx=> ?_) (fun l k nx=> ?_)
 ·try simp only [cX,eA,cW,eB,Int.natCast_add,Int.natCast_one,←Int.add_assoc] at h2
  simp only [dw]
  rw [decide_eq_true (by omega)]
  simp (disch:=omega) only [cond_true,ay hi,ab,gh,List.length_set,List.set_set,Int.toNat_natCast,wrap64,if_neg,UF,ek]
  try simp only [qp,wP,tZ,wQ,cX,eA,cW,eB,Int.natCast_add,Int.natCast_one,←Int.add_assoc]
 ·simp only [dw]
  rw [decide_eq_false (by omega)];rfl
theorem B6:O3 (.sl .str) ku:=by
 intro a h k h1 h2
 simp (disch:=omega) only [ku,ab,u0.top a h]
theorem FI:GM (.sl ar) lR
 :=xo (e:=ar) (T:=iD (fun _ y _ z=>some (y,z))) (f:=aE) (.pair (.int _) (.pair (.int _) (.pair (.int _) .bool))) ek ⟨trivial,⟨trivial,⟨trivial,trivial⟩⟩⟩ (fun l k i nx=>by kernel_rfl)
theorem rT:GM (.sl (.int .i64)) cw:=by
 refine DE (e:=(.int .i64)) (T:=fC (fun _ y _ z=>some (y,z))) (fun l i hi k nx h1 h2 h3 hx=> ?_) (fun l k nx=> ?_)
 ·try simp only [cX,eA,cW,eB,Int.natCast_add,Int.natCast_one,←Int.add_assoc] at h2
  simp only [fC]
  rw [decide_eq_true (by omega)]
  simp (disch:=omega) only [cond_true,ay hi,ab,gh,List.length_set,List.set_set,Int.toNat_natCast,wrap64,if_neg,UF,ek]
  try simp only [qp,wP,tZ,wQ,cX,eA,cW,eB,Int.natCast_add,Int.natCast_one,←Int.add_assoc]
 ·simp only [fC]
  rw [decide_eq_false (by omega)];rfl
theorem xX (a:aD):aK aU a=0+(0+(0+(aK (.sl (.int .i64)) a.2.2.2))):=rfl
theorem JI (a:aD)(k:Int):rR aU a k=(a.1,a.2.1,a.2.2.1,rR (.sl (.int .i64)) a.2.2.2 (k)):=by
 simp only [gI,ky,gH,kz,eu,gA,eo,gB,Int.natCast_add,Int.natCast_zero,Int.add_zero,←Int.add_assoc]
theorem PK:O3 aU ng:=by
 intro a h k h1 h2
 rw [xX] at h2
 simp (disch:=omega) only [ng,ab,rT.top _ h.2.2.2]
 rw [JI,xX]
 refine congrArg some (Prod.ext (by simp only;omega) ?_)
 first|rfl|simp only [gI,ky,gH,kz,eu,gA,eo,gB,Int.natCast_add,Int.natCast_zero,Int.add_zero,←Int.add_assoc]
theorem M1:GM (.sl bG) pz
 :=xo (e:=bG) (T:=lV (fun _ y _ z=>some (y,z))) (f:=aE) (.pair (.int _) (.pair (.int _) (.sl (e:=(.int .i64)) cw))) ek ⟨trivial,⟨trivial,rT⟩⟩ (fun l k i nx=>by kernel_rfl)
theorem rj (a:bu):aK aY a=(0+(0+(0+0)))+(aK aU a.2.1+(aK (.sl bG) a.2.2.1+(0))):=rfl
theorem zU (a:bu)(k:Int):rR aY a k=(a.1,rR aU a.2.1 (k),rR (.sl bG) a.2.2.1 (k+((aK aU a.2.1:Nat):Int)),a.2.2.2):=by
 simp only [gI,ky,gH,kz,eu,gA,eo,gB,Int.natCast_add,Int.natCast_zero,Int.add_zero,←Int.add_assoc]
theorem HY:O3 aY jj:=by
 intro a h k h1 h2
 rw [rj] at h2
 simp (disch:=omega) only [jj,ab,PK _ h.2.1,M1.top _ h.2.2.1]
 rw [zU,rj]
 refine congrArg some (Prod.ext (by simp only;omega) ?_)
 first|rfl|simp only [gI,ky,gH,kz,eu,gA,eo,gB,Int.natCast_add,Int.natCast_zero,Int.add_zero,←Int.add_assoc]
theorem FJ:GM (.sl aA) lU
 :=xo (e:=aA) (T:=iE (fun _ y _ z=>some (y,z))) (f:=aE) (.pair (.pair (.int _) (.pair (.int _) (.pair (.int _) (.int _)))) (.pair (.pair (.int _) (.pair (.int _) (.int _))) (.pair (.pair (.int _) (.pair (.int _) (.int _))) (.pair (.pair (.pair (.int _) (.pair (.int _) (.pair (.int _) (.pair (.int _) (.pair (.int _) (.pair (.int _) (.pair (.int _) (.pair (.int _) (.pair (.int _) (.pair (.int _) (.pair (.int _) (.pair (.int _) (.pair (.int _) (.pair (.int _) (.pair (.int _) .str))))))))))))))) (.pair (.int _) (.int _))) (.pair .bool (.int _)))))) ek ⟨⟨trivial,⟨trivial,⟨trivial,trivial⟩⟩⟩,⟨⟨trivial,⟨trivial,trivial⟩⟩,⟨⟨trivial,⟨trivial,trivial⟩⟩,⟨⟨⟨trivial,⟨trivial,⟨trivial,⟨trivial,⟨trivial,⟨trivial,⟨trivial,⟨trivial,⟨trivial,⟨trivial,⟨trivial,⟨trivial,⟨trivial,⟨trivial,⟨trivial,trivial⟩⟩⟩⟩⟩⟩⟩⟩⟩⟩⟩⟩⟩⟩⟩,⟨trivial,trivial⟩⟩,⟨trivial,trivial⟩⟩⟩⟩⟩ (fun l k i nx=>by kernel_rfl)
theorem MZ:GM (.sl aU) px
 :=xo (e:=aU) (T:=lS (fun _ y _ z=>some (y,z))) (f:=aE) (.pair (.int _) (.pair (.int _) (.pair (.int _) (.sl (e:=(.int .i64)) cw)))) ek ⟨trivial,⟨trivial,⟨trivial,rT⟩⟩⟩ (fun l k i nx=>by kernel_rfl)
theorem HS:GM (.sl aJ) mJ
 :=xo (e:=aJ) (T:=jC (fun _ y _ z=>some (y,z))) (f:=aE) (.pair (.int _) (.pair (.int _) (.pair (.int _) (.pair (.int _) (.pair .bool .bool))))) ek ⟨trivial,⟨trivial,⟨trivial,⟨trivial,⟨trivial,trivial⟩⟩⟩⟩⟩ (fun l k i nx=>by kernel_rfl)
theorem MY:GM (.sl .bool) pw:=by
 refine DE (e:= .bool) (T:=eI (fun _ y _ z=>some (y,z))) (fun l i hi k nx h1 h2 h3 hx=> ?_) (fun l k nx=> ?_)
 ·try simp only [cX,eA,cW,eB,Int.natCast_add,Int.natCast_one,←Int.add_assoc] at h2
  simp only [eI]
  rw [decide_eq_true (by omega)]
  simp (disch:=omega) only [cond_true,ay hi,ab,gh,List.length_set,List.set_set,Int.toNat_natCast,wrap64,if_neg,UF,ek]
  try simp only [qp,wP,tZ,wQ,cX,eA,cW,eB,Int.natCast_add,Int.natCast_one,←Int.add_assoc]
 ·simp only [eI]
  rw [decide_eq_false (by omega)];rfl
theorem tM (a:Filter):aK bV a=0+(0+(aK (.sl (.int .i64)) a.2.2)):=rfl
theorem B0 (a:Filter)(k:Int):rR bV a k=(a.1,a.2.1,rR (.sl (.int .i64)) a.2.2 (k)):=by
 simp only [gI,ky,gH,kz,eu,gA,eo,gB,Int.natCast_add,Int.natCast_zero,Int.add_zero,←Int.add_assoc]
theorem KY:O3 bV kt:=by
 intro a h k h1 h2
 rw [tM] at h2
 simp (disch:=omega) only [kt,ab,rT.top _ h.2.2]
 rw [B0,tM]
 refine congrArg some (Prod.ext (by simp only;omega) ?_)
 first|rfl|simp only [gI,ky,gH,kz,eu,gA,eo,gB,Int.natCast_add,Int.natCast_zero,Int.add_zero,←Int.add_assoc]
theorem M0:GM (.sl bR) py
 :=xo (e:=bR) (T:=lT (fun _ y _ z=>some (y,z))) (f:=aE) (.pair (.int _) (.pair (.int _) (.pair (.int _) (.pair (.int _) (.pair (.int _) (.pair (.int _) (.pair (.int _) (.pair (.int _) (.int _))))))))) ek ⟨trivial,⟨trivial,⟨trivial,⟨trivial,⟨trivial,⟨trivial,⟨trivial,⟨trivial,trivial⟩⟩⟩⟩⟩⟩⟩⟩ (fun l k i nx=>by kernel_rfl)
theorem M3:GM (.sl a9) pA
 :=xo (e:=a9) (T:=lW (fun _ y _ z=>some (y,z))) (f:=aE) (.pair (.int _) (.pair (.pair (.int _) (.pair (.int _) (.pair (.int _) (.pair (.int _) (.int _))))) (.int _))) ek ⟨trivial,⟨⟨trivial,⟨trivial,⟨trivial,⟨trivial,trivial⟩⟩⟩⟩,trivial⟩⟩ (fun l k i nx=>by kernel_rfl)
theorem DH:O3 (.sl a9) gn:=by
 intro a h k h1 h2
 simp (disch:=omega) only [gn,ab,M3.top a h]
theorem tN (a:di):aK cL a=0+(aK (.sl (.int .i64)) a.2):=rfl
theorem B4 (a:di)(k:Int):rR cL a k=(a.1,rR (.sl (.int .i64)) a.2 (k)):=by
 simp only [gI,ky,gH,kz,eu,gA,eo,gB,Int.natCast_add,Int.natCast_zero,Int.add_zero,←Int.add_assoc]
theorem KZ:O3 cL kv:=by
 intro a h k h1 h2
 rw [tN] at h2
 simp (disch:=omega) only [kv,ab,rT.top _ h.2]
 rw [B4,tN]
 refine congrArg some (Prod.ext (by simp only;omega) ?_)
 first|rfl|simp only [gI,ky,gH,kz,eu,gA,eo,gB,Int.natCast_add,Int.natCast_zero,Int.add_zero,←Int.add_assoc]
theorem p4 (a:bw):aK bm a=aK (.sl bR) a.1+(aK (.sl a9) a.2.1+(aK cL a.2.2)):=rfl
theorem xm (a:bw)(k:Int):rR bm a k=(rR (.sl bR) a.1 (k),rR (.sl a9) a.2.1 (k+((aK (.sl bR) a.1:Nat):Int)),rR cL a.2.2 (k+((aK (.sl bR) a.1:Nat):Int)+((aK (.sl a9) a.2.1:Nat):Int))):=by
 simp only [gI,ky,gH,kz,eu,gA,eo,gB,Int.natCast_add,Int.natCast_zero,Int.add_zero,←Int.add_assoc]
theorem FU:O3 bm hZ:=by
 intro a h k h1 h2
 rw [p4] at h2
 simp (disch:=omega) only [hZ,ab,M0.top _ h.1,DH _ h.2.1,KZ _ h.2.2]
 rw [xm,p4]
 refine congrArg some (Prod.ext (by simp only;omega) ?_)
 first|rfl|simp only [gI,ky,gH,kz,eu,gA,eo,gB,Int.natCast_add,Int.natCast_zero,Int.add_zero,←Int.add_assoc]
theorem HR:GM (.sl az) mI
 :=xo (e:=az) (T:=jB (fun _ y _ z=>some (y,z))) (f:=aE) (.pair (.pair (.int _) (.pair (.int _) (.pair (.int _) (.pair (.int _) (.int _))))) (.pair (.int _) (.pair .str .bool))) ek ⟨⟨trivial,⟨trivial,⟨trivial,⟨trivial,trivial⟩⟩⟩⟩,⟨trivial,⟨trivial,trivial⟩⟩⟩ (fun l k i nx=>by kernel_rfl)
theorem xW (a:Host):aK a8 a=aK (.sl .str) a.1+(aK (.sl ar) a.2.1+(aK aY a.2.2.1+(aK (.sl aA) a.2.2.2.1+(aK (.sl aU) a.2.2.2.2.1+(aK (.sl aJ) a.2.2.2.2.2.1+(aK (.sl .bool) a.2.2.2.2.2.2.1+(aK bV a.2.2.2.2.2.2.2.1+(aK bm a.2.2.2.2.2.2.2.2.1+(aK (.sl az) a.2.2.2.2.2.2.2.2.2.1+(0+(aK (.sl .str) a.2.2.2.2.2.2.2.2.2.2.2.1+(aK (.sl (.int .i64)) a.2.2.2.2.2.2.2.2.2.2.2.2.1+(aK (.sl (.int .i64)) a.2.2.2.2.2.2.2.2.2.2.2.2.2.1+((0+(0+(0+(0+0)))))))))))))))))):=rfl
theorem JH (a:Host)(k:Int):rR a8 a k=(rR (.sl .str) a.1 (k),rR (.sl ar) a.2.1 (k+((aK (.sl .str) a.1:Nat):Int)),rR aY a.2.2.1 (k+((aK (.sl .str) a.1:Nat):Int)+((aK (.sl ar) a.2.1:Nat):Int)),rR (.sl aA) a.2.2.2.1 (k+((aK (.sl .str) a.1:Nat):Int)+((aK (.sl ar) a.2.1:Nat):Int)+((aK aY a.2.2.1:Nat):Int)),rR (.sl aU) a.2.2.2.2.1 (k+((aK (.sl .str) a.1:Nat):Int)+((aK (.sl ar) a.2.1:Nat):Int)+((aK aY a.2.2.1:Nat):Int)+((aK (.sl aA) a.2.2.2.1:Nat):Int)),rR (.sl aJ) a.2.2.2.2.2.1 (k+((aK (.sl .str) a.1:Nat):Int)+((aK (.sl ar) a.2.1:Nat):Int)+((aK aY a.2.2.1:Nat):Int)+((aK (.sl aA) a.2.2.2.1:Nat):Int)+((aK (.sl aU) a.2.2.2.2.1:Nat):Int)),rR (.sl .bool) a.2.2.2.2.2.2.1 (k+((aK (.sl .str) a.1:Nat):Int)+((aK (.sl ar) a.2.1:Nat):Int)+((aK aY a.2.2.1:Nat):Int)+((aK (.sl aA) a.2.2.2.1:Nat):Int)+((aK (.sl aU) a.2.2.2.2.1:Nat):Int)+((aK (.sl aJ) a.2.2.2.2.2.1:Nat):Int)),rR bV a.2.2.2.2.2.2.2.1 (k+((aK (.sl .str) a.1:Nat):Int)+((aK (.sl ar) a.2.1:Nat):Int)+((aK aY a.2.2.1:Nat):Int)+((aK (.sl aA) a.2.2.2.1:Nat):Int)+((aK (.sl aU) a.2.2.2.2.1:Nat):Int)+((aK (.sl aJ) a.2.2.2.2.2.1:Nat):Int)+((aK (.sl .bool) a.2.2.2.2.2.2.1:Nat):Int)),rR bm a.2.2.2.2.2.2.2.2.1 (k+((aK (.sl .str) a.1:Nat):Int)+((aK (.sl ar) a.2.1:Nat):Int)+((aK aY a.2.2.1:Nat):Int)+((aK (.sl aA) a.2.2.2.1:Nat):Int)+((aK (.sl aU) a.2.2.2.2.1:Nat):Int)+((aK (.sl aJ) a.2.2.2.2.2.1:Nat):Int)+((aK (.sl .bool) a.2.2.2.2.2.2.1:Nat):Int)+((aK bV a.2.2.2.2.2.2.2.1:Nat):Int)),rR (.sl az) a.2.2.2.2.2.2.2.2.2.1 (k+((aK (.sl .str) a.1:Nat):Int)+((aK (.sl ar) a.2.1:Nat):Int)+((aK aY a.2.2.1:Nat):Int)+((aK (.sl aA) a.2.2.2.1:Nat):Int)+((aK (.sl aU) a.2.2.2.2.1:Nat):Int)+((aK (.sl aJ) a.2.2.2.2.2.1:Nat):Int)+((aK (.sl .bool) a.2.2.2.2.2.2.1:Nat):Int)+((aK bV a.2.2.2.2.2.2.2.1:Nat):Int)+((aK bm a.2.2.2.2.2.2.2.2.1:Nat):Int)),a.2.2.2.2.2.2.2.2.2.2.1,rR (.sl .str) a.2.2.2.2.2.2.2.2.2.2.2.1 (k+((aK (.sl .str) a.1:Nat):Int)+((aK (.sl ar) a.2.1:Nat):Int)+((aK aY a.2.2.1:Nat):Int)+((aK (.sl aA) a.2.2.2.1:Nat):Int)+((aK (.sl aU) a.2.2.2.2.1:Nat):Int)+((aK (.sl aJ) a.2.2.2.2.2.1:Nat):Int)+((aK (.sl .bool) a.2.2.2.2.2.2.1:Nat):Int)+((aK bV a.2.2.2.2.2.2.2.1:Nat):Int)+((aK bm a.2.2.2.2.2.2.2.2.1:Nat):Int)+((aK (.sl az) a.2.2.2.2.2.2.2.2.2.1:Nat):Int)),rR (.sl (.int .i64)) a.2.2.2.2.2.2.2.2.2.2.2.2.1 (k+((aK (.sl .str) a.1:Nat):Int)+((aK (.sl ar) a.2.1:Nat):Int)+((aK aY a.2.2.1:Nat):Int)+((aK (.sl aA) a.2.2.2.1:Nat):Int)+((aK (.sl aU) a.2.2.2.2.1:Nat):Int)+((aK (.sl aJ) a.2.2.2.2.2.1:Nat):Int)+((aK (.sl .bool) a.2.2.2.2.2.2.1:Nat):Int)+((aK bV a.2.2.2.2.2.2.2.1:Nat):Int)+((aK bm a.2.2.2.2.2.2.2.2.1:Nat):Int)+((aK (.sl az) a.2.2.2.2.2.2.2.2.2.1:Nat):Int)+((aK (.sl .str) a.2.2.2.2.2.2.2.2.2.2.2.1:Nat):Int)),rR (.sl (.int .i64)) a.2.2.2.2.2.2.2.2.2.2.2.2.2.1 (k+((aK (.sl .str) a.1:Nat):Int)+((aK (.sl ar) a.2.1:Nat):Int)+((aK aY a.2.2.1:Nat):Int)+((aK (.sl aA) a.2.2.2.1:Nat):Int)+((aK (.sl aU) a.2.2.2.2.1:Nat):Int)+((aK (.sl aJ) a.2.2.2.2.2.1:Nat):Int)+((aK (.sl .bool) a.2.2.2.2.2.2.1:Nat):Int)+((aK bV a.2.2.2.2.2.2.2.1:Nat):Int)+((aK bm a.2.2.2.2.2.2.2.2.1:Nat):Int)+((aK (.sl az) a.2.2.2.2.2.2.2.2.2.1:Nat):Int)+((aK (.sl .str) a.2.2.2.2.2.2.2.2.2.2.2.1:Nat):Int)+((aK (.sl (.int .i64)) a.2.2.2.2.2.2.2.2.2.2.2.2.1:Nat):Int)),a.2.2.2.2.2.2.2.2.2.2.2.2.2.2):=by
 simp only [gI,ky,gH,kz,eu,gA,eo,gB,Int.natCast_add,Int.natCast_zero,Int.add_zero,←Int.add_assoc]
theorem JK:O3 a8 jQ:=by
 intro a h k h1 h2
 rw [xW] at h2
 simp (disch:=omega) only [jQ,ab,B6 _ h.1,u0.top _ h.1,FI.top _ h.2.1,HY _ h.2.2.1,FJ.top _ h.2.2.2.1,MZ.top _ h.2.2.2.2.1,HS.top _ h.2.2.2.2.2.1,MY.top _ h.2.2.2.2.2.2.1,KY _ h.2.2.2.2.2.2.2.1,FU _ h.2.2.2.2.2.2.2.2.1,HR.top _ h.2.2.2.2.2.2.2.2.2.1,B6 _ h.2.2.2.2.2.2.2.2.2.2.2.1,u0.top _ h.2.2.2.2.2.2.2.2.2.2.2.1,rT.top _ h.2.2.2.2.2.2.2.2.2.2.2.2.1,rT.top _ h.2.2.2.2.2.2.2.2.2.2.2.2.2.1]
 rw [JH,xW]
 refine congrArg some (Prod.ext (by simp only;omega) ?_)
 first|rfl|simp only [gI,ky,gH,kz,eu,gA,eo,gB,Int.natCast_add,Int.natCast_zero,Int.add_zero,←Int.add_assoc]
theorem uQ:GL (.sl .str) jf:=by
 refine DD (e:= .str) (H:=fun v=>dv (fun y _=>some y) (fun _ y _=>some y) v 0) (fun l i hi x k nx hm h1 h2 h3 hx=> ?_) (fun l k nx=> ?_)
 ·try simp only [cX,eA,cW,eB,Int.natCast_add,Int.natCast_one,←Int.add_assoc] at h2
  try simp only [qp,wP,tZ,wQ,cX,eA,cW,eB,Int.natCast_add,Int.natCast_one,←Int.add_assoc] at hm
  simp only [dv]
  rw [decide_eq_true (by omega)]
  simp (disch:=omega) only [cond_true,ay hi,hm,ab,bne_self_eq_false,beq_self_eq_true,Bool.not_true,cond_false,wrap64,if_neg,UF,iS,ek]
  try simp only [cX,eA,cW,eB,Int.natCast_add,Int.natCast_one,←Int.add_assoc]
 ·simp only [dv]
  rw [decide_eq_false (by omega)];rfl
theorem BO:O2 (.sl .str) kq:=by
 intro a h k h1 h2
 simp (disch:=omega) only [kq,ab,uQ.top a h,iS,cond_false]
theorem Fh:GL (.sl ar) lL
 :=xn (e:=ar) (H:=fun v=>iB (fun y _=>some y) (fun _ y _=>some y) v 0) (bad:=fun _ i k=>some (-1)) (f:=aE) (.pair (.int _) (.pair (.int _) (.pair (.int _) .bool))) ek ⟨trivial,⟨trivial,⟨trivial,trivial⟩⟩⟩ (fun l k i nx=>by kernel_rfl)
theorem rm:GL (.sl (.int .i64)) cv:=by
 refine DD (e:=(.int .i64)) (H:=fun v=>fB (fun y _=>some y) (fun _ y _=>some y) v 0) (fun l i hi x k nx hm h1 h2 h3 hx=> ?_) (fun l k nx=> ?_)
 ·try simp only [cX,eA,cW,eB,Int.natCast_add,Int.natCast_one,←Int.add_assoc] at h2
  try simp only [qp,wP,tZ,wQ,cX,eA,cW,eB,Int.natCast_add,Int.natCast_one,←Int.add_assoc] at hm
  simp only [fB]
  rw [decide_eq_true (by omega)]
  simp (disch:=omega) only [cond_true,ay hi,hm,ab,bne_self_eq_false,beq_self_eq_true,Bool.not_true,cond_false,wrap64,if_neg,UF,iS,ek]
  try simp only [cX,eA,cW,eB,Int.natCast_add,Int.natCast_one,←Int.add_assoc]
 ·simp only [fB]
  rw [decide_eq_false (by omega)];rfl
theorem Pv:O2 aU nf:=by
 intro a h k h1 h2
 rw [xX] at h2
 rw [JI]
 simp (disch:=omega) only [nf,ab,rm.top _ h.2.2.2,iS,cond_false]
 rw [xX]
 refine congrArg some (by omega)
theorem Mv:GL (.sl bG) pr
 :=xn (e:=bG) (H:=fun v=>lP (fun y _=>some y) (fun _ y _=>some y) v 0) (bad:=fun _ i k=>some (-1)) (f:=aE) (.pair (.int _) (.pair (.int _) (.sl (e:=(.int .i64)) cv))) ek ⟨trivial,⟨trivial,rm⟩⟩ (fun l k i nx=>by kernel_rfl)
theorem Ht:O2 aY jg:=by
 intro a h k h1 h2
 rw [rj] at h2
 rw [zU]
 simp (disch:=omega) only [jg,ab,Pv _ h.2.1,Mv.top _ h.2.2.1,iS,cond_false]
 rw [rj]
 refine congrArg some (by omega)
theorem Fi:GL (.sl aA) lO
 :=xn (e:=aA) (H:=fun v=>iC (fun y _=>some y) (fun _ y _=>some y) v 0) (bad:=fun _ i k=>some (-1)) (f:=aE) (.pair (.pair (.int _) (.pair (.int _) (.pair (.int _) (.int _)))) (.pair (.pair (.int _) (.pair (.int _) (.int _))) (.pair (.pair (.int _) (.pair (.int _) (.int _))) (.pair (.pair (.pair (.int _) (.pair (.int _) (.pair (.int _) (.pair (.int _) (.pair (.int _) (.pair (.int _) (.pair (.int _) (.pair (.int _) (.pair (.int _) (.pair (.int _) (.pair (.int _) (.pair (.int _) (.pair (.int _) (.pair (.int _) (.pair (.int _) .str))))))))))))))) (.pair (.int _) (.int _))) (.pair .bool (.int _)))))) ek ⟨⟨trivial,⟨trivial,⟨trivial,trivial⟩⟩⟩,⟨⟨trivial,⟨trivial,trivial⟩⟩,⟨⟨trivial,⟨trivial,trivial⟩⟩,⟨⟨⟨trivial,⟨trivial,⟨trivial,⟨trivial,⟨trivial,⟨trivial,⟨trivial,⟨trivial,⟨trivial,⟨trivial,⟨trivial,⟨trivial,⟨trivial,⟨trivial,⟨trivial,trivial⟩⟩⟩⟩⟩⟩⟩⟩⟩⟩⟩⟩⟩⟩⟩,⟨trivial,trivial⟩⟩,⟨trivial,trivial⟩⟩⟩⟩⟩ (fun l k i nx=>by kernel_rfl)
theorem Mt:GL (.sl aU) po
 :=xn (e:=aU) (H:=fun v=>lM (fun y _=>some y) (fun _ y _=>some y) v 0) (bad:=fun _ i k=>some (-1)) (f:=aE) (.pair (.int _) (.pair (.int _) (.pair (.int _) (.sl (e:=(.int .i64)) cv)))) ek ⟨trivial,⟨trivial,⟨trivial,rm⟩⟩⟩ (fun l k i nx=>by kernel_rfl)
theorem Hr:GL (.sl aJ) mH
 :=xn (e:=aJ) (H:=fun v=>jA (fun y _=>some y) (fun _ y _=>some y) v 0) (bad:=fun _ i k=>some (-1)) (f:=aE) (.pair (.int _) (.pair (.int _) (.pair (.int _) (.pair (.int _) (.pair .bool .bool))))) ek ⟨trivial,⟨trivial,⟨trivial,⟨trivial,⟨trivial,trivial⟩⟩⟩⟩⟩ (fun l k i nx=>by kernel_rfl)
theorem Ms:GL (.sl .bool) pn:=by
 refine DD (e:= .bool) (H:=fun v=>eH (fun y _=>some y) (fun _ y _=>some y) v 0) (fun l i hi x k nx hm h1 h2 h3 hx=> ?_) (fun l k nx=> ?_)
 ·try simp only [cX,eA,cW,eB,Int.natCast_add,Int.natCast_one,←Int.add_assoc] at h2
  try simp only [qp,wP,tZ,wQ,cX,eA,cW,eB,Int.natCast_add,Int.natCast_one,←Int.add_assoc] at hm
  simp only [eH]
  rw [decide_eq_true (by omega)]
  simp (disch:=omega) only [cond_true,ay hi,hm,ab,bne_self_eq_false,beq_self_eq_true,Bool.not_true,cond_false,wrap64,if_neg,UF,iS,ek]
  try simp only [cX,eA,cW,eB,Int.natCast_add,Int.natCast_one,←Int.add_assoc]
 ·simp only [eH]
  rw [decide_eq_false (by omega)];rfl
theorem Ku:O2 bV ko:=by
 intro a h k h1 h2
 rw [tM] at h2
 rw [B0]
 simp (disch:=omega) only [ko,ab,rm.top _ h.2.2,iS,cond_false]
 rw [tM]
 refine congrArg some (by omega)
theorem Mu:GL (.sl bR) pq
 :=xn (e:=bR) (H:=fun v=>lN (fun y _=>some y) (fun _ y _=>some y) v 0) (bad:=fun _ i k=>some (-1)) (f:=aE) (.pair (.int _) (.pair (.int _) (.pair (.int _) (.pair (.int _) (.pair (.int _) (.pair (.int _) (.pair (.int _) (.pair (.int _) (.int _))))))))) ek ⟨trivial,⟨trivial,⟨trivial,⟨trivial,⟨trivial,⟨trivial,⟨trivial,⟨trivial,trivial⟩⟩⟩⟩⟩⟩⟩⟩ (fun l k i nx=>by kernel_rfl)
theorem Mw:GL (.sl a9) pt
 :=xn (e:=a9) (H:=fun v=>lQ (fun y _=>some y) (fun _ y _=>some y) v 0) (bad:=fun _ i k=>some (-1)) (f:=aE) (.pair (.int _) (.pair (.pair (.int _) (.pair (.int _) (.pair (.int _) (.pair (.int _) (.int _))))) (.int _))) ek ⟨trivial,⟨⟨trivial,⟨trivial,⟨trivial,⟨trivial,trivial⟩⟩⟩⟩,trivial⟩⟩ (fun l k i nx=>by kernel_rfl)
theorem Dp:O2 (.sl a9) gm:=by
 intro a h k h1 h2
 simp (disch:=omega) only [gm,ab,Mw.top a h,iS,cond_false]
theorem Kv:O2 cL ks:=by
 intro a h k h1 h2
 rw [tN] at h2
 rw [B4]
 simp (disch:=omega) only [ks,ab,rm.top _ h.2,iS,cond_false]
 rw [tN]
 refine congrArg some (by omega)
theorem Fk:O2 bm hY:=by
 intro a h k h1 h2
 rw [p4] at h2
 rw [xm]
 simp (disch:=omega) only [hY,ab,Mu.top _ h.1,Dp _ h.2.1,Kv _ h.2.2,iS,cond_false]
 rw [p4]
 refine congrArg some (by omega)
theorem Hq:GL (.sl az) mG
 :=xn (e:=az) (H:=fun v=>jz (fun y _=>some y) (fun _ y _=>some y) v 0) (bad:=fun _ i k=>some (-1)) (f:=aE) (.pair (.pair (.int _) (.pair (.int _) (.pair (.int _) (.pair (.int _) (.int _))))) (.pair (.int _) (.pair .str .bool))) ek ⟨⟨trivial,⟨trivial,⟨trivial,⟨trivial,trivial⟩⟩⟩⟩,⟨trivial,⟨trivial,trivial⟩⟩⟩ (fun l k i nx=>by kernel_rfl)
theorem Pt:O2 a8 gS:=by
 intro a h k h1 h2
 rw [xW] at h2
 rw [JH]
 simp (disch:=omega) only [gS,ab,BO _ h.1,uQ.top _ h.1,Fh.top _ h.2.1,Ht _ h.2.2.1,Fi.top _ h.2.2.2.1,Mt.top _ h.2.2.2.2.1,Hr.top _ h.2.2.2.2.2.1,Ms.top _ h.2.2.2.2.2.2.1,Ku _ h.2.2.2.2.2.2.2.1,Fk _ h.2.2.2.2.2.2.2.2.1,Hq.top _ h.2.2.2.2.2.2.2.2.2.1,BO _ h.2.2.2.2.2.2.2.2.2.2.2.1,uQ.top _ h.2.2.2.2.2.2.2.2.2.2.2.1,rm.top _ h.2.2.2.2.2.2.2.2.2.2.2.2.1,rm.top _ h.2.2.2.2.2.2.2.2.2.2.2.2.2.1,iS,cond_false]
 rw [xW]
 refine congrArg some (by omega)
end Go.Pu
end
section
namespace Go.Pu
open Go.Dn
set_option linter.unusedSimpArgs false
set_option linter.unusedVariables false
theorem zF (a:Host)(ha:kL a8 a):g4 a=some true:=by
 unfold g4
 refine (P8 a ha).use (by omega) (by omega) fun hl=> ?_
 have hA:aC 1048576 a8 a:=wm (by omega)
 have hz:uI a:=My (by omega)
 have hs:=Bp a hz (hA.mono (by omega))
 have hi:=Bb a hz (hA.mono (by omega))
 have hR:aC 2741152 a8 (tq a):=Ig (by omega) hA
 generalize tq a=r at hs hi hR
 have c1:aK a8 a≤IQ 1048576 a8:=Nat.le_trans xY (vg hA)
 have c2:aK a8 r≤IQ 2741152 a8:=Nat.le_trans xY (vg hR)
 have b1:IQ 1048576 a8≤900000000000000:=by decide
 have b2:IQ 2741152 a8≤900000000000000:=by decide
 have m1:=JK a (hA.mono (by omega)) 1 (by omega) (by omega)
 have m2:=JK r (hR.mono (by omega)) 1 (by omega) (by omega)
 have m3:∀t,t=rR a8 r 1→gS t 1=some (1+(aK a8 r:Int)):=by rintro _ rfl;exact Pt r (hR.mono (by omega)) 1 (by omega) (by omega)
 simp (disch:=omega) only [Qe a hA,ab,hs,hi,Jr r (hR.mono (by omega)),Jr a (hA.mono (by omega)),beq_self_eq_true,bne_self_eq_false,Bool.not_true,cond_false,m1,m2,iS]
 rw [m3]
 ·simp (disch:=omega) only [ab,iS,cond_false,bne_self_eq_false]
 ·rfl
end Go.Pu
end
