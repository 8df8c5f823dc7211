import Derived.Test.YtmpbhbfdoopggaaGreatPuX1
section
/- CardOk: the program's and the reference's answers are one. -/
namespace Go.Pu
open Go.Dn
set_option linter.unusedSimpArgs false
set_option linter.unusedVariables false
noncomputable section
def MA (v:Int)(b:Bytes):Bytes:=((dc v++dc (b.length:Int))++b)++dc (tx ((dc v++dc (b.length:Int))++b))
def dE (v:Int)(b:Bytes):Bytes×Bool:=bif bp v 0 1000000&&decide (b.length≤84) then (MA v b,true) else ([],false)
theorem KA (v:Int)(b:Bytes)(h:b.length≤1000000000):la v b=some (dE v b):=by
 have l1:=bX v
 have l2:=bX (b.length:Int)
 unfold la dE
 rw [wrap64 (by omega) (by omega)]
 simp only [bc,ab]
 cases bp v 0 1000000 with
 |false=>rfl
 |true=>
  by_cases hb:b.length≤84
  ·have l3:=bX (tx ((dc v++dc (b.length:Int))++b))
   rw [decide_eq_false (show¬((b.length:Int)+12>96) by omega),decide_eq_true hb]
   simp only [Bool.not_true,cond_false,ab,Bool.and_self,cond_true,n9]
   rw [aA (by omega),aA (by simp only [List.length_append];omega),MY _ (by simp only [List.length_append];omega)]
   simp only [ab,n9]
   rw [aA (by simp only [List.length_append];omega)];rfl
  ·rw [decide_eq_true (show ((b.length:Int)+12>96) by omega),decide_eq_false hb];rfl
theorem JI (v:Int)(b:Bytes)(h:b.length≤1000000000):kl v b=some (dE v b):=by
 have l1:=bX v
 have l2:=bX (b.length:Int)
 unfold kl dE
 rw [wrap64 (by omega) (by omega)]
 simp only [bI,ab]
 cases bp v 0 1000000 with
 |false=>rfl
 |true=>
  by_cases hb:b.length≤84
  ·have l3:=bX (tx ((dc v++dc (b.length:Int))++b))
   rw [decide_eq_false (show¬(12+(b.length:Int)>96) by omega),decide_eq_true hb]
   simp only [Bool.not_true,cond_false,ab,Bool.and_self,cond_true,s8]
   rw [aA (by omega),aA (by simp only [List.length_append];omega),MB _ (by simp only [List.length_append];omega)]
   simp only [ab,s8]
   rw [aA (by simp only [List.length_append];omega)];rfl
  ·rw [decide_eq_true (show (12+(b.length:Int)>96) by omega),decide_eq_false hb];rfl
def L3 (s:Bytes)(n:Nat):Int:=bif (dE (cX s 0) ((s.take (8+n)).drop 8)).2&&((dE (cX s 0) ((s.take (8+n)).drop 8)).1==s.take (12+n)) then cX s 0 else-1
def iD (s:Bytes):Int:=if 0≤cX s 4∧cX s 4≤(s.length:Int)-12 then L3 s (cX s 4).toNat else-1
theorem CV (s:Bytes)(a:Int): -1≤cX s a∧cX s a≤4294967295:=by
 unfold cX
 cases bG s a 4 with
 |false=>simp only [cond_false];omega
 |true=>
  have b0:=bD s a.toNat
  have b1:=bD s (a.toNat+1)
  have b2:=bD s (a.toNat+2)
  have b3:=bD s (a.toNat+3)
  simp only [cond_true]
  omega
theorem IH {s:Bytes}{n:Nat}(h:¬n≤84)(hs:n+12≤s.length):L3 s n= -1:=by
 have:(dE (cX s 0) ((s.take (8+n)).drop 8)).2=false:=by
  unfold dE
  rw [decide_eq_false (by simp only [List.length_drop,List.length_take];omega),Bool.and_false];rfl
 unfold L3
 rw [this];rfl
theorem G1 (s:Bytes)(h:s.length≤1000000000):dT s=some (iD s):=by
 unfold dT iD
 have hg:=CV s 4
 simp only [Iv s _ h,bc,ab]
 rw [wrap64 (n:=cX s 4+12) (by omega) (by omega),wrap64 (n:=8+cX s 4) (by omega) (by omega)]
 generalize cX s 4=n at hg
 by_cases hc:0≤n∧n≤(s.length:Int)-12
 ·rw [if_pos hc]
  obtain ⟨m,rfl⟩:=Int.eq_ofNat_of_zero_le hc.1
  by_cases h84:m≤84
  ·have e1:bp (m:Int) 0 84=true:=bf.2 (by omega)
   have e2:sub s 8 (8+(m:Int))=some ((s.take (8+m)).drop 8):=by
    unfold sub;rw [if_pos (by omega)];rfl
   have e3:sub s 0 ((m:Int)+12)=some (s.take (12+m)):=by
    unfold sub;rw [if_pos (by omega),show ((m:Int)+12).toNat=12+m by omega];rfl
   rw [e1,decide_eq_false (show¬((m:Int)+12>(s.length:Int)) by omega),e2,e3]
   simp only [Bool.not_true,cond_false,ab,Int.toNat_natCast]
   rw [KA _ _ (by simp only [List.length_drop,List.length_take];omega)]
   unfold L3
   simp only [ab]
   cases (dE (cX s 0) ((s.take (8+m)).drop 8)).2<;>cases ((dE (cX s 0) ((s.take (8+m)).drop 8)).1==s.take (12+m))<;>rfl
  ·have e1:bp (m:Int) 0 84=false:=by rw [Bool.eq_false_iff,ne_eq,bf];omega
   rw [e1,Int.toNat_natCast,IH h84 (by omega)];rfl
 ·rw [if_neg hc]
  by_cases hb:bp n 0 84=true
  ·have:=bf.1 hb
   rw [hb,decide_eq_true (show n+12>(s.length:Int) by omega)];rfl
  ·have hb':bp n 0 84=false:=by simpa using hb
   rw [hb'];rfl
theorem GM (s:Bytes)(h:s.length≤1000000000):dM s=some (iD s):=by
 unfold dM iD
 have hg:=CV s 4
 simp only [HF s _ h,ab]
 rw [wrap64 (n:=12+cX s 4) (by omega) (by omega),wrap64 (n:=8+cX s 4) (by omega) (by omega),wrap64 (n:=(s.length:Int)-12) (by omega) (by omega)]
 generalize cX s 4=n at hg
 by_cases hc:0≤n∧n≤(s.length:Int)-12
 ·rw [if_pos hc]
  obtain ⟨m,rfl⟩:=Int.eq_ofNat_of_zero_le hc.1
  have e2:sub s 8 (8+(m:Int))=some ((s.take (8+m)).drop 8):=by
   unfold sub;rw [if_pos (by omega)];rfl
  have e3:sub s 0 (12+(m:Int))=some (s.take (12+m)):=by
   unfold sub;rw [if_pos (by omega),show (12+(m:Int)).toNat=12+m by omega];rfl
  rw [decide_eq_false (show¬((m:Int)<0) by omega),decide_eq_false (show¬((m:Int)>(s.length:Int)-12) by omega),e2,e3]
  simp only [cond_false,ab,Int.toNat_natCast]
  rw [JI _ _ (by simp only [List.length_drop,List.length_take];omega)]
  unfold L3
  simp only [ab]
  cases (dE (cX s 0) ((s.take (8+m)).drop 8)).2<;>cases ((dE (cX s 0) ((s.take (8+m)).drop 8)).1==s.take (12+m))<;>rfl
 ·rw [if_neg hc]
  by_cases h0:n<0
  ·rw [decide_eq_true h0];rfl
  ·rw [decide_eq_false h0,decide_eq_true (show n>(s.length:Int)-12 by omega)];rfl
def re (f:List Bytes):Bool:=((f.length:Int)==2)&&((((f.getD 0 []).length:Int)==96)&&(((f.getD 1 []).length:Int)==96))
theorem zh {f:List Bytes}(h:re f=true):f=[f.getD 0 [],f.getD 1 []]∧(f.getD 0 []).length=96∧(f.getD 1 []).length=96:=by
 simp only [re,Bool.and_eq_true,beq_iff_eq] at h
 match f,h with
 |[a,b],h=>
  have h1:(a.length:Int)=96:=h.2.1
  have h2:(b.length:Int)=96:=h.2.2
  exact ⟨rfl,by show a.length=96;omega,by show b.length=96;omega⟩
theorem zI (f:List Bytes):m6 f=some (re f):=by
 unfold m6 re
 match f with
 |[]=>rfl
 |[a]=>rfl
 |[a,b]=>
  have i0:idx [a,b] 0=some a:=rfl
  have i1:idx [a,b] 1=some b:=rfl
  rw [i0,i1]
  simp only [ab,aN,cF];rfl
 |a::b::c::r=>
  have:(((a::b::c::r).length:Int)==2)=false:=by simp only [List.length_cons,beq_eq_false_iff_ne];omega
  rw [this];rfl
theorem HD (f:List Bytes):p7 f=some (re f):=zI f
def pR (f:List Bytes):Int:=bif re f then (if iD (f.getD 0 [])<0∧iD (f.getD 1 [])<0 then-1 else if iD (f.getD 1 [])>iD (f.getD 0 []) then 1 else 0) else-1
theorem Kt (f:List Bytes):l8 f=some (pR f):=by
 unfold l8 pR
 rw [zI,ab]
 cases hf:re f with
 |false=>rfl
 |true=>
  obtain ⟨e,l0,l1⟩:=zh hf
  generalize f.getD 0 []=a at*
  generalize f.getD 1 []=b at*
  subst e
  have i0:idx [a,b] 0=some a:=rfl
  have i1:idx [a,b] 1=some b:=rfl
  simp only [Bool.not_true,cond_false,cond_true,i0,i1,ab,G1 a (by omega),G1 b (by omega)]
  by_cases p:iD a<0<;>by_cases q:iD b<0<;>by_cases r:iD b>iD a<;>simp [p,q,r]
theorem JC (f:List Bytes):lK f=some (pR f):=by
 unfold lK pR
 rw [HD,ab]
 cases hf:re f with
 |false=>rfl
 |true=>
  obtain ⟨e,l0,l1⟩:=zh hf
  generalize f.getD 0 []=a at*
  generalize f.getD 1 []=b at*
  subst e
  have i0:idx [a,b] 0=some a:=rfl
  have i1:idx [a,b] 1=some b:=rfl
  simp only [Bool.not_true,cond_false,cond_true,i0,i1,ab,GM a (by omega),GM b (by omega)]
  by_cases r:iD b>iD a
  ·have r':¬iD a≥iD b:=by omega
   by_cases p:iD a<0<;>by_cases q:iD b<0<;>simp [p,q,r,r']
  ·have r':iD a≥iD b:=by omega
   by_cases p:iD a<0<;>by_cases q:iD b<0<;>simp [p,q,r,r']
def qZ (c:Int×Int×Int×Int):Bool:=bp c.1 0 1125899906842624&&(bp c.2.1 0 1048575&&(bp c.2.2.1 0 67108864&&bp c.2.2.2 0 1099511627776))
theorem zH (c:Int×Int×Int×Int):mZ c=some (qZ c):=by
 simp only [mZ,bc,ab,aN,cF,qZ]
theorem HC (c:Int×Int×Int×Int):pZ c=some (qZ c):=zH c
def Aa (c:gC)(i:Nat):Bool:=(c.1[i]?.all Jz)&&AQ (c.1[i]?.map (·.2.2.2.2.2.2.2.1)) (c.2.2.1[i]?.map (·.1))
def JU (c:gC):Bool:=((c.1.length:Int)==(c.2.2.1.length:Int))&&((c.2.1.length:Int)==(c.2.2.1.length:Int))
def Nj (c:gC):Bool:=(ga c.2.2.1).2&&(JU c&&(EZ c.2.1 (ga c.2.2.1).1&&((!decide (pR c.2.2.2.1<0)&&qZ c.2.2.2.2.1)&&((List.range c.1.length).all (Aa c)&&(List.range c.1.length).all (Q7 c.2.1)))))
structure X7 (c:gC):Prop where
 h0:c.1.length≤1000000000
 f0:c.2.1.length≤1000000000
 m:∀m∈c.2.2.1,m.1.2.2.length≤1000000000
 h1:∀h∈c.1,Em h
theorem HU {c:gC}(h:JU c=true):c.1.length=c.2.2.1.length∧c.2.1.length=c.2.2.1.length:=by
 unfold JU at h
 simp only [Bool.and_eq_true,beq_iff_eq] at h
 omega
theorem Ol {c:gC}(i:Nat)(hi:i<c.1.length)(hj:i<c.2.2.1.length):Aa c i=(Jz c.1[i]&&AQ c.1[i].2.2.2.2.2.2.2.1 c.2.2.1[i].1):=by
 unfold Aa
 rw [List.getElem?_eq_getElem hi,List.getElem?_eq_getElem hj]
 congr 1
 apply AR
 rw [rX];simp
theorem SL:∀(l:List Nat)(p q:Nat→Bool),l.all (fun x=>p x&&q x)=(l.all p&&l.all q):=by
 intro l p q
 induction l with
 |nil=>rfl
 |cons x l ih=>simp only [List.all_cons,ih];cases p x<;>cases q x<;>cases l.all p<;>rfl
end
end Go.Pu
end
section
namespace Go.Pu
open Go.Dn
set_option linter.unusedSimpArgs false
set_option linter.unusedVariables false
noncomputable section
theorem map_take {α β:Type}(f:α→β)(l:List α)(i:Nat)(hi:i<l.length):(l.take i).map f++[f l[i]]=(l.take (i+1)).map f:=by
 rw [List.take_succ_eq_append_getElem hi,List.map_append];rfl
theorem XB {α:Type}(x:α)(i:Nat):List.replicate i x++[x]=List.replicate (i+1) x:=by
 rw [←List.replicate_append_replicate];rfl
theorem vx (m:ar)(h:m.1.2.2.length≤1000000000):ic m=some m:=by
 simp only [ic,rj _ h,ab]
theorem vH (m:ar)(h:m.1.2.2.length≤1000000000):nk m=some m:=by
 simp only [nk,rH _ h,ab]
theorem yu (l:List ar)(h:l.length≤1000000000)(hx:∀m∈l,m.1.2.2.length≤1000000000):ku l=some l:=by
 unfold ku
 refine (fX (fun i=>(l.take i,(i:Int))) l.length (by omega) (fun i nx hi=> ?_) (fun nx=> ?_))
 ·simp only [gn]
  rw [decide_eq_true (by omega),aC hi,wrap64 (by omega) (by omega)]
  simp only [cond_true,ab,vx _ (hx _ (List.getElem_mem hi))]
  rw [aA (by simp;omega),←List.take_succ_eq_append_getElem hi];rfl
 ·simp only [gn]
  rw [decide_eq_false (by omega),List.take_length];rfl
theorem Om {c:gC}(h:Nj c=true):c.1.length=c.2.2.1.length∧c.2.1.length=c.2.2.1.length:=by
 unfold Nj at h
 simp only [Bool.and_eq_true] at h
 exact HU h.2.1
end
end Go.Pu
end
section
namespace Go.Pu
open Go.Dn
set_option linter.unusedSimpArgs false
set_option linter.unusedVariables false
noncomputable section
def sT (s:Bytes):Prop:=∀x∈s,x=0
theorem B4 {s:Bytes}(h:sT s):s=List.replicate s.length 0:=List.eq_replicate_iff.2 ⟨rfl,h⟩
theorem yn (n:Nat):sT (mG n):=by
 intro x hx
 simp only [mG,bytesOf,List.map_replicate] at hx
 exact (List.mem_replicate.1 hx).2
theorem Md {s t:Bytes}(h:sT s)(k:sT t)(e:s.length=t.length):s=t:=by rw [B4 h,B4 k,e]
theorem Xv {x:Bytes}{o:Nat}{t:Bytes}(hx:sT x)(ht:sT t)(h:o+t.length≤x.length):pD x o t=x:=by
 refine Md (fun y hy=> ?_) hx (zB h)
 unfold pD at hy
 rcases List.mem_append.1 hy with g|g
 ·exact hx y (List.mem_of_mem_take g)
 ·rcases List.mem_append.1 g with g|g
  ·exact ht y g
  ·exact hx y (List.mem_of_mem_drop g)
theorem L9:∀(n:Nat){m:List Bytes}{a:Nat}{s:Bytes},oZ m→(∀x∈m,sT x)→sT s→a+s.length≤128*m.length→lH n m a s=m
 |0,m,a,s,_,_,_,_=>rfl
 |n+1,m,a,s,hp,hm,hs,hl=>by
  rw [lH]
  by_cases h0:s.length=0
  ·rw [if_pos h0]
  ·rw [if_neg h0]
   obtain ⟨h1,h2,_⟩:=qE hp h0 hl
   have ho:pD (m[a/128]'h1) (a%128) (s.take (128-a%128))=m[a/128]'h1:=
    Xv (hm _ (List.getElem_mem h1)) (fun y hy=>hs y (List.mem_of_mem_take hy)) (by rw [h2,List.length_take];omega)
   rw [bl h1,ho,List.set_getElem_self]
   exact L9 n hp hm (fun y hy=>hs y (List.mem_of_mem_drop hy)) (by rw [List.length_drop];omega)
theorem Nf {m:List Bytes}{s:Bytes}(a:Int)(hm:∀x∈m,sT x)(hs:sT s):(iC m a s).1=m:=by
 unfold iC
 cases hw:cq m a (s.length:Int) with|false=>rfl|true=> ?_
 simp only [cq,Bool.and_eq_true,decide_eq_true_eq] at hw
 exact L9 s.length (pF.1 hw.1) hm hs (by omega)
theorem No:∀(q:List (Int×Int)){m:List Bytes}{s:Bytes},(∀x∈m,sT x)→sT s→xL q m s=m
 |[],m,s,_,_=>rfl
 |p::q,m,s,hm,hs=>by
  rw [xL,Nf _ hm (fun y hy=>hs y (List.mem_of_mem_take hy))]
  exact No q hm (fun y hy=>hs y (List.mem_of_mem_drop hy))
theorem Xy {m:List Bytes}{s:Bytes}(hm:∀x∈m,sT x)(hs:sT s)(l:List ai)(d a:Int)(w:Bool):(lA l m d a s w).1=m:=by
 unfold lA
 cases (ed l m d a (s.length:Int) w).2 with
 |false=>rfl
 |true=>exact No _ hm hs
def kX (n:Nat):List Bytes:=List.replicate n (mG 128)
theorem QT {n:Nat}:∀x∈kX n,sT x:=fun x hx=>by rw [(List.mem_replicate.1 hx).2];exact yn 128
theorem JY (n:Nat):aH (n+128) (.sl .str) (kX n):=⟨by simp [kX],fun x hx=>by rw [(List.mem_replicate.1 hx).2];show (mG 128).length≤_;rw [zV];omega⟩
theorem zv (n:Nat):kX (n+1)=kX n++[mG 128]:=List.replicate_succ'
theorem E4 (n:Nat)(h:n≤64):gH (n:Int)=some (kX n):=by
 have hz:mq 0 128=some (mG 128):=MD 128 (by omega)
 unfold gH
 rw [bI,ab,show bp (n:Int) 0 64=true from bf.2 (by omega)]
 simp only [Bool.not_true,cond_false]
 refine fX (fun i=>((i:Int),kX i)) n (by omega) (fun i nx hi=> ?_) (fun nx=> ?_)
 ·simp only [gm]
  rw [decide_eq_true (by omega),cond_true,hz,ab,aA (by simp [kX];omega),wrap64 (by omega) (by omega),zv];rfl
 ·simp only [gm]
  rw [decide_eq_false (by omega),cond_false]
theorem FU (n:Nat)(h:n≤64):hC (n:Int)=some (kX n):=by
 have hz:fC 128 0=some (mG 128):=DX 128 (by omega)
 unfold hC
 refine fX (fun i=>((i:Int),kX i)) n (by omega) (fun i nx hi=> ?_) (fun nx=> ?_)
 ·simp only [gA]
  rw [decide_eq_true (show (i:Int)<n by omega),cond_true,decide_eq_true (by omega),ab,cond_true,hz,ab,aA (by simp [kX];omega),wrap64 (by omega) (by omega),zv];rfl
 ·simp only [gA]
  rw [decide_eq_false (show¬(n:Int)<n by omega),cond_false,ab,cond_false]
def qn (a b:Int):Vector×Bool:=bif ml (a,b,0,0,false,false) then ((a,b,0,0,false,false),true) else ((0,0,0,0,false,false),false)
theorem E5 (a b:Int):ko a b=some (qn a b):=by
 unfold ko qn
 rw [E8,ab]
 cases ml (a,b,0,0,false,false)<;>rfl
theorem FV (a b:Int):ld a b=some (qn a b):=by
 unfold ld qn
 rw [xW,ab]
 cases ml (a,b,0,0,false,false)<;>rfl
def iY (i:Nat):List ai:=(List.range i).map fun (p:Nat)=>(0,(p:Int),37-(p:Int), !bp (p:Int) 2 9)
theorem xv (i:Nat):iY (i+1)=iY i++[(0,(i:Int),37-(i:Int), !bp (i:Int) 2 9)]:=by
 simp [iY,List.range_succ]
theorem pw (i:Nat):(iY i).length=i:=by simp [iY]
def Nm:Host:=(([]:List Bytes),([]:List ai),((0,0,0,0),(0,0,0,([]:List Int)),([]:List fZ),0),([]:List bg),([]:List aY),([]:List Vector),([]:List Bool),(0,false,([]:List Int)),(([]:List bM),([]:List Slot),([]:Bytes),([]:List Int)),([]:List Stream),false,([]:List Bytes),([]:List Int),([]:List Int),0,0,0,0,0)
def GK (f:Filter)(s:aD)(c:Bool)(i:Nat):Host:=(kX 38,iY i,Eh,([]:List bg),([]:List aY),([]:List Vector),([]:List Bool),f,s,([]:List Stream),c,([]:List Bytes),([]:List Int),([]:List Int),0,0,0,0,0)
def qI:List Bytes×(Int×Int×Int×Int)×aY×Int:=qJ (iY 38) (kX 38) 0 (vm 0).1 (cD (cx 0+128) 384 4).1
def C2 (f:Filter)(s:aD)(c:Bool)(v:Vector):Host:=(qI.1,iY 38,Eh,[(qI.2.1,(vm 0).2)],[qI.2.2.1],[v],[false],f,s,([]:List Stream),c,([]:List Bytes),([]:List Int),([]:List Int),0,0,0,0,0)
def g5 (f:Filter)(s:aD)(c:Bool)(a b:Int):Host×Bool:=
 bif ei f&&(fW s 1&&(qn a b).2) then (C2 f s c (qn a b).1,true) else (Nm,false)
theorem Hw {n:Nat}(hn:1000≤n):aH n (.sl .str) qI.1∧qI.2.2.1.2.2.2.length≤n:=by
 have h5:=kY (cx 0+128) 384 4 (by omega)
 have hm:aH n (.sl .str) (kX 38):=(JY 38).mono (by omega)
 unfold qI
 generalize (cD (cx 0+128) 384 4).1=P at h5⊢
 generalize kX 38=m at hm⊢
 generalize (vm 0).1=q
 exact ⟨zd (by omega) hm ..,Nat.le_trans (xa ..) (by omega)⟩
theorem Hz {n:Nat}(hn:1000≤n){f:Filter}{s:aD}(zf:aH n cn f)(zs:aH n aK s)(c:Bool)(v:Vector):aH n bB (C2 f s c v):=by
 have h4:=kY 256 128 8 (by omega)
 have hf:=Hw hn
 unfold C2
 generalize qI=o at hf⊢
 refine ⟨hf.1,⟨by show (iY 38).length≤n;rw [pw];omega,fun _ _=>⟨trivial,trivial,trivial,trivial⟩⟩, ?_, ?_, ?_, ?_, ?_,zf,zs,⟨Nat.zero_le _,fun x hx=>by cases hx⟩,trivial,⟨Nat.zero_le _,fun x hx=>by cases hx⟩,⟨Nat.zero_le _,fun x hx=>by cases hx⟩,⟨Nat.zero_le _,fun x hx=>by cases hx⟩,trivial,trivial,trivial,trivial,trivial⟩
 ·exact ⟨⟨trivial,trivial,trivial,trivial⟩,⟨trivial,trivial,trivial,by show List.length (cD 256 128 8).1.2.2.2≤n;omega,fun _ _=>trivial⟩,⟨Nat.zero_le _,fun x hx=>by cases hx⟩,trivial⟩
 ·refine ⟨by show 1≤n;omega,fun x hx=> ?_⟩
  rw [List.mem_singleton.1 hx]
  exact ⟨⟨trivial,trivial,trivial,trivial⟩,⟨trivial,trivial,trivial⟩,⟨trivial,trivial,trivial⟩,⟨⟨trivial,trivial,trivial,trivial,trivial,trivial,trivial,trivial,trivial,trivial,trivial,trivial,trivial,trivial,trivial,Nat.zero_le _⟩,trivial,trivial⟩,trivial,trivial⟩
 ·refine ⟨by show 1≤n;omega,fun x hx=> ?_⟩
  rw [List.mem_singleton.1 hx]
  exact ⟨trivial,trivial,trivial,hf.2,fun _ _=>trivial⟩
 ·exact ⟨by show 1≤n;omega,fun x hx=>by rw [List.mem_singleton.1 hx];exact ⟨trivial,trivial,trivial,trivial,trivial,trivial⟩⟩
 ·exact ⟨by show 1≤n;omega,fun x hx=>trivial⟩
theorem Hy (n:Nat):aH n bB Nm:=
 ⟨⟨Nat.zero_le _,fun x hx=>by cases hx⟩,⟨Nat.zero_le _,fun x hx=>by cases hx⟩,⟨⟨trivial,trivial,trivial,trivial⟩,⟨trivial,trivial,trivial,Nat.zero_le _,fun _ _=>trivial⟩,⟨Nat.zero_le _,fun x hx=>by cases hx⟩,trivial⟩,⟨Nat.zero_le _,fun x hx=>by cases hx⟩,⟨Nat.zero_le _,fun x hx=>by cases hx⟩,⟨Nat.zero_le _,fun x hx=>by cases hx⟩,⟨Nat.zero_le _,fun x hx=>trivial⟩,⟨trivial,trivial,Nat.zero_le _,fun _ _=>trivial⟩,⟨⟨Nat.zero_le _,fun x hx=>by cases hx⟩,⟨Nat.zero_le _,fun x hx=>by cases hx⟩,Nat.zero_le _,⟨Nat.zero_le _,fun x hx=>trivial⟩⟩,⟨Nat.zero_le _,fun x hx=>by cases hx⟩,trivial,⟨Nat.zero_le _,fun x hx=>by cases hx⟩,⟨Nat.zero_le _,fun x hx=>trivial⟩,⟨Nat.zero_le _,fun x hx=>trivial⟩,trivial,trivial,trivial,trivial,trivial⟩
theorem C5 (f:Filter)(s:aD)(c:Bool)(a b:Int)(hf:f.2.2.length≤1000000000)(h1:s.1.length≤1000000000)(h2:s.2.1.length≤1000000000)(h3:s.2.2.2.length≤1000000000):mS 1 f s c a b=some (g5 f s c a b):=by
 have hfu:=bj
 unfold mS g5
 rw [E5,ab,bI,ab,show bp (1:Int) 1 2=true from bf.2 (by omega),s7 f hf,Be s 1 h1 h2 h3]
 simp only [Bool.not_true,cond_false,ab]
 cases ei f with|false=>rfl|true=> ?_
 cases fW s 1 with|false=>rfl|true=> ?_
 generalize qn a b=v
 cases hv:v.2 with|false=>rfl|true=> ?_
 have hm:gH 38=some (kX 38):=E4 38 (by omega)
 simp only [Bool.not_true,cond_false,ab,Bool.and_true,cond_true,hm,HO,rj f hf,yv s h1 h2 h3]
 refine fX (fun i=>((i:Int),GK f s c i)) 38 (by omega) (fun i nx hi=> ?_) (fun nx=> ?_)
 ·have hl:=pw i
  simp only [jl]
  rw [decide_eq_true (by omega),cond_true,bI,ab,aA (by show (iY i).length+1≤_;omega),wrap64 (n:=(i:Int)+1) (by omega) (by omega),wrap64 (n:=37-(i:Int)) (by omega) (by omega)]
  show nx ((i:Int)+1,kX 38,iY i++_,_)=nx (((i+1:Nat):Int),kX 38,iY (i+1),_)
  rw [xv];rfl
 simp only [jl]
 rw [decide_eq_false (by omega),cond_false]
 have hrx:nI 0=some (vm 0,(cD (cx 0+128) 384 4).1):=HK 0 (by omega)
 have h38:=pw 38
 have hfill:fO (iY 38) (kX 38) 0 (vm 0).1 (cD (cx 0+128) 384 4).1=some qI:=JF _ _ _ _ _ (by omega) (by rw [kX,List.length_replicate];omega) (Nat.le_trans (kY (cx 0+128) 384 4 (by omega)) (by omega))
 obtain ⟨g,hg⟩:∃g,fuel=g+2:=⟨fuel-2,by omega⟩
 unfold GK C2
 generalize (cD (cx 0+128) 384 4).1=P at hrx hfill
 generalize vm 0=q at hrx hfill⊢
 generalize qI=o at hfill⊢
 generalize kX 38=m at hfill⊢
 generalize iY 38=l at hfill⊢
 rw [hg,aj,h9]
 rw [decide_eq_true (by omega),cond_true,hrx,ab]
 have h2:fO l m 0 (q,P).1.1 (q,P).2=some o:=hfill
 simp only [h2,ab,hfill]
 rw [aA (by simp),aA (by simp),aA (by simp),aA (by simp),aj,h9,wrap64 (by omega) (by omega),decide_eq_false (by omega),cond_false];rfl
theorem DZ (f:Filter)(s:aD)(c:Bool)(a b:Int)(hf:f.2.2.length≤1000000000)(h1:s.1.length≤1000000000)(h2:s.2.1.length≤1000000000)(h3:s.2.2.2.length≤1000000000):m8 1 f s c a b=some (g5 f s c a b):=by
 have hfu:=bj
 unfold m8 g5
 rw [FV,ab,bc,ab,show bp (1:Int) 1 2=true from bf.2 (by omega),ti f hf,BP s 1 h1 h2 h3]
 simp only [Bool.not_true,cond_false,ab]
 cases ei f with|false=>rfl|true=> ?_
 cases fW s 1 with|false=>rfl|true=> ?_
 generalize qn a b=v
 cases hv:v.2 with|false=>rfl|true=> ?_
 have hm:hC 38=some (kX 38):=FU 38 (by omega)
 simp only [Bool.not_true,cond_false,ab,Bool.and_true,cond_true,hm,IB,rH f hf,yJ s h1 h2 h3]
 refine fX (fun i=>((i:Int),GK f s c i)) 38 (by omega) (fun i nx hi=> ?_) (fun nx=> ?_)
 ·have hl:=pw i
  simp only [jz]
  rw [decide_eq_true (by omega),cond_true,bc,ab,aA (by show (iY i).length+1≤_;omega),wrap64 (n:=(i:Int)+1) (by omega) (by omega),wrap64 (n:=37-(i:Int)) (by omega) (by omega)]
  show nx ((i:Int)+1,kX 38,iY i++_,_)=nx (((i+1:Nat):Int),kX 38,iY (i+1),_)
  rw [xv];rfl
 simp only [jz]
 rw [decide_eq_false (by omega),cond_false]
 have h38:=pw 38
 have hmem:(kX 38).length≤1000000000:=by rw [kX,List.length_replicate];omega
 have ho:xD (iY 38) (kX 38) 0=qI:=by
  unfold xD qI
  rw [Xy QT (yn 128)];rfl
 have e1:(vm 0).2=((cx 0+64,4,0),(cx 0+64,4,0),((0,0,0,0,0,0,0,0,0,0,0,0,0,0,0,([]:Bytes)),0,0),false,0):=rfl
 have hop:=KB (kX 38,iY 38,Eh,[((0,0,0,0),(0,0,0),(0,0,0),((0,0,0,0,0,0,0,0,0,0,0,0,0,0,0,([]:Bytes)),0,0),false,0)],[(0,0,0,([]:List Int))],[v.1],[false],f,s,([]:List Stream),c,([]:List Bytes),([]:List Int),([]:List Int),0,0,0,0,0) 0 (by omega) (Nat.lt_succ_self 0) (Nat.lt_succ_self 0) (by show (iY 38).length≤_;omega) hmem
 unfold DC at hop
 simp only [ho,List.set_cons_zero,List.getElem?_cons_zero,show ((0:Nat):Int)=0 from rfl] at hop
 obtain ⟨g,hg⟩:∃g,fuel=g+2:=⟨fuel-2,by omega⟩
 unfold GK C2
 rw [e1]
 generalize cx 0=bb at hop⊢
 generalize qI=o at hop⊢
 generalize kX 38=m at hop⊢
 generalize iY 38=l at hop⊢
 rw [hg,aj,iw]
 rw [decide_eq_true (by omega),cond_true]
 simp only
 rw [aA (by simp),aA (by simp),aA (by simp),aA (by simp)]
 simp only [List.nil_append]
 rw [hop,ab,aj,iw,wrap64 (by omega) (by omega),decide_eq_false (by omega),cond_false]
def I0:gC:=(([]:List Host),([]:List au),([]:List ar),([]:List Bytes),(0,0,0,0),([]:List Int),([]:List Bytes))
def Bs (st:aD)(c:Bool)(bk:Int×Int×Int)(x:ar)(s:List Host×List au):Except (Option (gC×Bool)) (List Host×List au):=
 if (g5 x.1 st c 1 2).2=true then .ok (s.1++[(g5 x.1 st c 1 2).1],s.2++[((s.2.length:Int),(s.2.length:Int)+1,bk,true,0,0)]) else .error (some (I0,false))
def pB (ms:List ar)(st:aD)(c:Bool)(bk:Int×Int×Int)(f:List Bytes)(t:Int):Option (gC×Bool):=
 bif (ga ms).2&&(ot bk&&(!decide (pR f<0)&&qZ (0,0,t,0))) then
  tT (Bs st c bk) (fun s=>some ((s.1,s.2,ms,f,(0,0,t,0),([]:List Int),([]:List Bytes)),true)) ms ([],[])
 else some (I0,false)
theorem C4 (ms:List ar)(st:aD)(c:Bool)(bk:Int×Int×Int)(f:List Bytes)(t:Int)(hm:ms.length≤1000000000)(hx:∀m∈ms,m.1.2.2.length≤1000000000)(hf:f.length≤1000000000)(h1:st.1.length≤1000000000)(h2:st.2.1.length≤1000000000)(h3:st.2.2.2.length≤1000000000):km ms st c bk f t=pB ms st c bk f t:=by
 have hfu:=bj
 unfold km pB
 simp only [yu ms hm hx,nH,vy f hf,C7 ms hx,E3,JC,HC,ab]
 cases hp:(ga ms).2 with|false=>rfl|true=> ?_
 cases ot bk with|false=>rfl|true=> ?_
 cases decide (pR f<0) with|true=>rfl|false=> ?_
 cases qZ (0,0,t,0) with|false=>rfl|true=> ?_
 have h3':=rD hp
 simp only [Bool.not_true,cond_false,ab,Bool.and_true,Bool.not_false,cond_true]
 refine k7 ms (fun s i=>(((i:Int),s.1,s.2,ms,f,(0,0,t,0),([]:List Int),([]:List Bytes)):Int×gC)) (fun i s=>s.1.length=i∧s.2.length=i) (Bs st c bk) _ (by omega) (fun i hi s nx hI=> ?_) (fun i hi s s' hI he=> ?_) (fun s nx hI=> ?_) ([],[]) ⟨rfl,rfl⟩
 ·simp only [jk]
  rw [decide_eq_true (by omega),cond_true,aC hi,ab,C5 _ st c 1 2 (hx _ (List.getElem_mem hi)) h1 h2 h3,ab]
  unfold Bs
  cases hb:(g5 ms[i].1 st c 1 2).2 with
  |false=>rfl
  |true=>
   rw [if_pos rfl]
   simp only [Bool.not_true,cond_false]
   rw [aA (by rw [List.length_singleton];omega),aA (by rw [List.length_singleton];omega),wrap64 (by omega) (by omega),hI.2];rfl
 ·unfold Bs at he
  split at he
  ·injection he with he
   rw [←he]
   simp [hI.1,hI.2]
  ·cases he
 ·simp only [jk]
  rw [decide_eq_false (by omega),cond_false]
theorem DY (ms:List ar)(st:aD)(c:Bool)(bk:Int×Int×Int)(f:List Bytes)(t:Int)(hm:ms.length≤1000000000)(hx:∀m∈ms,m.1.2.2.length≤1000000000)(hf:f.length≤1000000000)(h1:st.1.length≤1000000000)(h2:st.2.1.length≤1000000000)(h3:st.2.2.2.length≤1000000000):m7 ms st c bk f t=pB ms st c bk f t:=by
 have hfu:=bj
 unfold m7 pB
 rw [D0 ms hx,ab,k6 (by omega)]
 simp only [xT,Kt,zH,ab]
 cases hp:(ga ms).2 with|false=>rfl|true=> ?_
 cases ot bk with|false=>rfl|true=> ?_
 cases decide (pR f<0) with|true=>rfl|false=> ?_
 cases qZ (0,0,t,0) with|false=>rfl|true=> ?_
 have h3':=rD hp
 simp only [Bool.not_true,cond_false,ab,Bool.and_true,Bool.not_false,cond_true,List.nil_append]
 refine k7 ms (fun s i=>(((i:Int),s.1,s.2,ms.take i,f,(0,0,t,0),([]:List Int),([]:List Bytes)):Int×gC)) (fun i s=>s.1.length=i∧s.2.length=i) (Bs st c bk) _ (by omega) (fun i hi s nx hI=> ?_) (fun i hi s s' hI he=> ?_) (fun s nx hI=> ?_) ([],[]) ⟨rfl,rfl⟩
 ·simp only [jy]
  rw [decide_eq_true (by omega),cond_true,aC hi,ab,DZ _ st c 1 2 (hx _ (List.getElem_mem hi)) h1 h2 h3,ab]
  unfold Bs
  cases hb:(g5 ms[i].1 st c 1 2).2 with
  |false=>rfl
  |true=>
   rw [if_pos rfl]
   simp only [Bool.not_true,cond_false]
   rw [aA (by rw [List.length_singleton];omega),aA (by rw [List.length_singleton];omega),ab,vH _ (hx _ (List.getElem_mem hi)),ab,aA (by rw [List.length_singleton,List.length_take];omega),wrap64 (by omega) (by omega),hI.2,List.take_succ_eq_append_getElem hi];rfl
 ·unfold Bs at he
  split at he
  ·injection he with he
   rw [←he]
   simp [hI.1,hI.2]
  ·cases he
 ·simp only [jy]
  rw [decide_eq_false (by omega),cond_false,List.take_length]
structure IP (n:Nat) (c:gC):Prop where
 hosts:c.1.length≤3
 hs:∀h∈c.1,aH n bB h
 rest:aH n (.pair (.sl ao) (.pair (.sl aw) (.pair (.sl .str) (.pair (.pair (.int .i64) (.pair (.int .i64) (.pair (.int .i64) (.int .i64)))) (.pair (.sl (.int .i64)) (.sl .str)))))) c.2
theorem Cd (n:Nat):IP n I0:=⟨Nat.zero_le _,(fun x hx=>by cases hx),⟨Nat.zero_le _,fun x hx=>by cases hx⟩,⟨Nat.zero_le _,fun x hx=>by cases hx⟩,⟨Nat.zero_le _,fun x hx=>by cases hx⟩,⟨trivial,trivial,trivial,trivial⟩,⟨Nat.zero_le _,fun _ _=>trivial⟩,⟨Nat.zero_le _,fun x hx=>by cases hx⟩⟩
theorem Bt {n:Nat}(hn:1000≤n){f:Filter}{s:aD}(zf:aH n cn f)(zs:aH n aK s)(c:Bool)(a b:Int):aH n bB (g5 f s c a b).1:=by
 unfold g5
 cases ei f&&(fW s 1&&(qn a b).2) with
 |true=>exact Hz hn zf zs c _
 |false=>exact Hy n
theorem zz {n:Nat}(hn:1000≤n){ms:List ar}{st:aD}(c:Bool)(bk:Int×Int×Int){f:List Bytes}(t:Int)(zm:aH n (.sl aw) ms)(zs:aH n aK st)(zf:aH n (.sl .str) f):∀(l:List ar)(s:List Host×List au),(∀x∈l,aH n cn x.1)→s.1.length+l.length≤3→s.2.length=s.1.length→(∀h∈s.1,aH n bB h)→
 ∃r,tT (Bs st c bk) (fun s=>some ((s.1,s.2,ms,f,(0,0,t,0),([]:List Int),([]:List Bytes)),true)) l s=some r∧IP n r.1
 |[],s,_,h3,he,hh=>⟨_,rfl,by simp at h3;exact h3,hh,⟨Nat.le_trans (Nat.le_of_eq he) (by simp at h3;omega),fun _ _=>⟨trivial,trivial,⟨trivial,trivial,trivial⟩,trivial,trivial,trivial⟩⟩,zm,zf,⟨trivial,trivial,trivial,trivial⟩,⟨Nat.zero_le _,fun _ _=>trivial⟩,⟨Nat.zero_le _,fun x hx=>by cases hx⟩⟩
 |x::l,s,hl,h3,he,hh=>by
  rw [tT]
  unfold Bs
  by_cases hb:(g5 x.1 st c 1 2).2=true
  ·rw [if_pos hb]
   refine zz hn c bk t zm zs zf l _ (fun y hy=>hl y (by simp [hy])) ?_ ?_ (fun h hh2=> ?_)
   ·simp only [List.length_append,List.length_cons,List.length_nil] at h3⊢;omega
   ·simp [he]
   ·rcases List.mem_append.1 hh2 with g|g
    ·exact hh h g
    ·rw [List.mem_singleton.1 g];exact Bt hn (hl x (by simp)) zs c 1 2
  ·rw [if_neg hb]
   exact ⟨_,rfl,Cd n⟩
theorem FC {n:Nat}(hn:1000≤n){ms:List ar}{st:aD}(c:Bool)(bk:Int×Int×Int){f:List Bytes}(t:Int)(zm:aH n (.sl aw) ms)(zs:aH n aK st)(zf:aH n (.sl .str) f):∃r,pB ms st c bk f t=some r∧IP n r.1:=by
 unfold pB
 cases hq:(ga ms).2&&(ot bk&&(!decide (pR f<0)&&qZ (0,0,t,0))) with
 |false=>exact ⟨_,rfl,Cd n⟩
 |true=>
  simp only [Bool.and_eq_true] at hq
  have h3:=rD hq.1
  exact zz hn c bk t zm zs zf ms ([],[]) (fun x hx=>(zm.2 x hx).1) (by simpa using h3) rfl (fun h hh=>by cases hh)
end
end Go.Pu
end
section
namespace Go.Pu
open Go.Dn
noncomputable section
theorem sF {R:Type}(K:Int→Bytes→Option R):∀(n:Nat)(v:Int)(s:Bytes)(m:Nat),0≤v→v≤1000000000000000→v<10^n→s.length+n≤1000→n<m→∃s':Bytes,s'.length≤1000∧∃v',aj (il K) m (v,s)=K v' s'
 |0,v,s,m,h0,_,h1,hs,hm=>by
  have hv:v=0:=by simp at h1;omega
  subst hv
  cases m with
  |zero=>omega
  |succ m=>exact ⟨s,by omega,0,by rw [aj];rfl⟩
 |n+1,v,s,m,h0,hb,h1,hs,hm=>by
  cases m with
  |zero=>omega
  |succ m=>
   rw [aj]
   simp only [il]
   by_cases hv:v>0
   ·have hq:Int.tdiv v 10=v/10:=Int.tdiv_eq_ediv_of_nonneg h0
    rw [decide_eq_true hv]
    simp only [cond_true]
    rw [if_neg (by omega),aA (by simp [bytesOf];omega),if_neg (by omega),hq,wrap64 (n:=v/10) (by omega) (by omega)]
    exact sF K n (v/10) _ m (by omega) (by omega) (by rw [Int.pow_succ] at h1;omega) (by simp [bytesOf];omega) (by omega)
   ·rw [decide_eq_false hv]
    exact ⟨s,by omega,v,rfl⟩
theorem yy (k:Int)(h1:1≤k)(h2:k≤1000000000000000):∃s,az k=some s:=by
 have hfu:=bj
 unfold az
 rw [decide_eq_false (by omega)]
 simp only [cond_false]
 obtain ⟨s,hs,v,h⟩:=sF (fun (_:Int) (y2:Bytes)=>room (List.length ([109]:Bytes)+List.length y2) (some (([109]:Bytes)++y2))) 16 k [] fuel (by omega) h2 (by omega) (by simp) (by omega)
 rw [h,aA (by simp;omega)]
 exact ⟨_,rfl⟩
def Na (k:Int):Bytes:=(az k).getD []
theorem cl (k:Int)(h1:1≤k)(h2:k≤1000000000000000):az k=some (Na k):=by
 obtain ⟨s,hs⟩:=yy k h1 h2
 rw [Na,hs];rfl
def hG:(t:CT)→t.D→Nat
 | .int _,_=>1
 | .bool,_=>1
 | .str,_=>1
 | .sl e,xs=>(xs.map (hG e)).sum
 | .pair a b,x=>hG a x.1+hG b x.2
def QU {α:Type}(f:α→Int→α)(c:α→Nat):List α→Int→List α
 |[],_=>[]
 |x::xs,k=>f x k::QU f c xs (k+c x)
def mk:(t:CT)→t.D→Int→t.D
 | .int _,_,k=>k
 | .bool,_,k=>Int.tmod k 3==0
 | .str,_,k=>Na k
 | .sl e,xs,k=>QU (mk e) (hG e) xs k
 | .pair a b,x,k=>(mk a x.1 k,mk b x.2 (k+hG a x.1))
def b8:(t:CT)→t.D→Nat
 | .int _,_=>0
 | .bool,_=>0
 | .str,_=>0
 | .sl e,xs=>hG (.sl e) xs
 | .pair a b,x=>b8 a x.1+b8 b x.2
def vC:(t:CT)→t.D→Int→t.D
 | .int _,x,_=>x
 | .bool,x,_=>x
 | .str,x,_=>x
 | .sl e,xs,k=>mk (.sl e) xs k
 | .pair a b,x,k=>(vC a x.1 k,vC b x.2 (k+b8 a x.1))
theorem uJ {k:IntKind}(x k':Int):mk (.int k) x k'=k':=rfl
theorem sk (x:Bool)(k:Int):mk .bool x k=(Int.tmod k 3==0):=rfl
theorem uK (x:Bytes)(k:Int):mk .str x k=Na k:=rfl
theorem oK {a b:CT}(x:a.D×b.D)(k:Int):mk (.pair a b) x k=(mk a x.1 k,mk b x.2 (k+hG a x.1)):=rfl
theorem dH {k:IntKind}(x:Int):hG (.int k) x=1:=rfl
theorem cB (x:Bool):hG .bool x=1:=rfl
theorem dI (x:Bytes):hG .str x=1:=rfl
theorem cC {a b:CT}(x:a.D×b.D):hG (.pair a b) x=hG a x.1+hG b x.2:=rfl
theorem si {k:IntKind}(x k':Int):vC (.int k) x k'=x:=rfl
theorem py (x:Bool)(k:Int):vC .bool x k=x:=rfl
theorem sj (x:Bytes)(k:Int):vC .str x k=x:=rfl
theorem aav {e:CT}(x:List e.D)(k:Int):vC (.sl e) x k=mk (.sl e) x k:=rfl
theorem pz {a b:CT}(x:a.D×b.D)(k:Int):vC (.pair a b) x k=(vC a x.1 k,vC b x.2 (k+b8 a x.1)):=rfl
theorem pg {k:IntKind}(x:Int):b8 (.int k) x=0:=rfl
theorem nq (x:Bool):b8 .bool x=0:=rfl
theorem ph (x:Bytes):b8 .str x=0:=rfl
theorem XQ {e:CT}(x:List e.D):b8 (.sl e) x=hG (.sl e) x:=rfl
theorem nr {a b:CT}(x:a.D×b.D):b8 (.pair a b) x=b8 a x.1+b8 b x.2:=rfl
theorem Rn:¬(3:Int)=0:=by omega
theorem pT {n:Int}(h:¬n<0):decide (n<0)=false:=decide_eq_false h
theorem fg {α:Type}{l:List α}{i:Nat}(x:α)(h:i<l.length):idx (l.set i x) (i:Int)=some x:=by
 rw [vM,List.getElem?_set_self h]
theorem zu {e:CT}{T:((List e.D×Int×Int×List e.D)→Option (Int×List e.D))→(List e.D×Int×Int×List e.D)→Option (Int×List e.D)}
 (hs:∀(l:List e.D)(i:Nat)(hi:i<l.length)(k:Int) nx,1≤k→k+hG e l[i]≤1000000000000000→l.length≤1000000000000→aH 1000000000000 e l[i]→
  T nx (l,k,(i:Int),l)=nx (l.set i (mk e l[i] k),k+hG e l[i],(i:Int)+1,l.set i (mk e l[i] k)))
 (hf:∀(l:List e.D)(k:Int) nx,T nx (l,k,(l.length:Int),l)=some (k,l)):
 ∀(xs pre:List e.D)(k:Int)(n:Nat),1≤k→k+hG (.sl e) xs≤1000000000000000→pre.length+xs.length≤1000000000000→(∀x∈xs,aH 1000000000000 e x)→xs.length<n→
  aj T n (pre++xs,k,(pre.length:Int),pre++xs)=some (k+hG (.sl e) xs,pre++mk (.sl e) xs k)
 |[],pre,k,n,_,_,_,_,hn=>by
  cases n with
  |zero=>omega
  |succ n=>
   rw [aj,List.append_nil,hf]
   simp [hG,mk,QU]
 |x::xs,pre,k,n,h1,h2,h3,h4,hn=>by
  cases n with
  |zero=>omega
  |succ n=>
   have hc:hG (.sl e) (x::xs)=hG e x+hG (.sl e) xs:=by simp [hG]
   have hi:pre.length<(pre++x::xs).length:=by simp
   have hx:(pre++x::xs)[pre.length]=x:=by simp
   simp only [List.length_cons] at h3 hn
   rw [aj,hs _ pre.length hi k _ h1 (by rw [hx];omega) (by simp;omega) (by rw [hx];exact h4 x (by simp)),hx]
   have hset:(pre++x::xs).set pre.length (mk e x k)=(pre++[mk e x k])++xs:=by
    rw [List.set_append_right _ _ (Nat.le_refl _),Nat.sub_self,List.set_cons_zero,List.append_assoc];rfl
   have hl:((pre.length:Int)+1)=(((pre++[mk e x k]).length:Nat):Int):=by simp
   rw [hset,hl,zu hs hf xs _ _ n (by omega) (by omega) (by simp;omega) (fun y hy=>h4 y (by simp [hy])) (by omega)]
   rw [hc]
   congr 1
   refine Prod.ext (by simp only;omega) ?_
   simp only [mk,QU,List.append_assoc,List.singleton_append]
theorem zl {e:CT}{T:List e.D→((Int×Int)→Option Int)→(Int×Int)→Option Int}
 (hs:∀(l:List e.D)(i:Nat)(hi:i<l.length)(x:e.D)(k:Int) nx,l[i]=mk e x k→1≤k→k+hG e x≤1000000000000000→l.length≤1000000000000→aH 1000000000000 e x→
  T l nx (k,(i:Int))=nx (k+hG e x,(i:Int)+1))
 (hf:∀(l:List e.D)(k:Int) nx,T l nx (k,(l.length:Int))=some k):
 ∀(xs pre:List e.D)(k:Int)(n:Nat),1≤k→k+hG (.sl e) xs≤1000000000000000→pre.length+xs.length≤1000000000000→(∀x∈xs,aH 1000000000000 e x)→xs.length<n→
  aj (T (pre++mk (.sl e) xs k)) n (k,(pre.length:Int))=some (k+hG (.sl e) xs)
 |[],pre,k,n,_,_,_,_,hn=>by
  cases n with
  |zero=>omega
  |succ n=>
   have:pre++mk (.sl e) ([]:List e.D) k=pre:=by simp [mk,QU]
   rw [aj,this,hf]
   simp [hG]
 |x::xs,pre,k,n,h1,h2,h3,h4,hn=>by
  cases n with
  |zero=>omega
  |succ n=>
   have hc:hG (.sl e) (x::xs)=hG e x+hG (.sl e) xs:=by simp [hG]
   have hm:pre++mk (.sl e) (x::xs) k=(pre++[mk e x k])++mk (.sl e) xs (k+hG e x):=by simp [mk,QU]
   have hlen:∀(ys:List e.D)(k:Int),(mk (.sl e) ys k).length=ys.length:=by
    intro ys
    induction ys with
    |nil=>intro k;rfl
    |cons y ys ih=>intro k;have:=ih (k+hG e y);simp only [mk,QU,List.length_cons] at this⊢;omega
   simp only [List.length_cons] at h3 hn
   rw [aj,hm,hs _ pre.length (by simp) x k _ (by simp) h1 (by omega) (by have:=hlen xs (k+hG e x);simp;omega) (h4 x (by simp))]
   have hl:((pre.length:Int)+1)=(((pre++[mk e x k]).length:Nat):Int):=by simp
   rw [hl,zl hs hf xs _ _ n (by omega) (by omega) (by simp;omega) (fun y hy=>h4 y (by simp [hy])) (by omega),hc]
   congr 1
   omega
def zZ (t:CT)(mark:t.D→Int→Option (Int×t.D)):Prop:=∀(a:t.D)(_:aH 1000000000000 t a)(k:Int)(_:1≤k)(_:k+hG t a≤1000000000000000),mark a k=some (k+hG t a,mk t a k)
def zY (t:CT)(held:t.D→Int→Option Int):Prop:=∀(a:t.D)(_:aH 1000000000000 t a)(k:Int)(_:1≤k)(_:k+hG t a≤1000000000000000),held (mk t a k) k=some (k+hG t a)
theorem Bm {e:CT}{T:((List e.D×Int×Int×List e.D)→Option (Int×List e.D))→(List e.D×Int×Int×List e.D)→Option (Int×List e.D)}
 (hs:∀(l:List e.D)(i:Nat)(hi:i<l.length)(k:Int) nx,1≤k→k+hG e l[i]≤1000000000000000→l.length≤1000000000000→aH 1000000000000 e l[i]→
  T nx (l,k,(i:Int),l)=nx (l.set i (mk e l[i] k),k+hG e l[i],(i:Int)+1,l.set i (mk e l[i] k)))
 (hf:∀(l:List e.D)(k:Int) nx,T nx (l,k,(l.length:Int),l)=some (k,l)):zZ (.sl e) (fun a k=>aj T fuel (a,k,0,a)):=by
 have hfu:=bj
 intro a h k h1 h2
 have hl:a.length≤1000000000000:=h.1
 exact zu hs hf a [] k fuel h1 h2 (by simp;omega) h.2 (by omega)
theorem Bl {e:CT}{H:List e.D→((Int×Int)→Option Int)→(Int×Int)→Option Int}
 (gs:∀(l:List e.D)(i:Nat)(hi:i<l.length)(x:e.D)(k:Int) nx,l[i]=mk e x k→1≤k→k+hG e x≤1000000000000000→l.length≤1000000000000→aH 1000000000000 e x→
  H l nx (k,(i:Int))=nx (k+hG e x,(i:Int)+1))
 (gf:∀(l:List e.D)(k:Int) nx,H l nx (k,(l.length:Int))=some k):zY (.sl e) (fun a k=>aj (H a) fuel (k,0)):=by
 have hfu:=bj
 intro a h k h1 h2
 have hl:a.length≤1000000000000:=h.1
 exact zl gs gf a [] k fuel h1 h2 (by simp;omega) h.2 (by omega)
def Rh (t:CT)(mark:t.D→Int→Option (Int×t.D)):Prop:=∀(a:t.D)(_:aH 1000000000000 t a)(k:Int)(_:1≤k)(_:k+b8 t a≤1000000000000000),mark a k=some (k+b8 t a,vC t a k)
def Yg (t:CT)(held:t.D→Int→Option Int):Prop:=∀(a:t.D)(_:aH 1000000000000 t a)(k:Int)(_:1≤k)(_:k+b8 t a≤1000000000000000),held (vC t a k) k=some (k+b8 t a)
theorem zZ.top {e:CT}{mark:List e.D→Int→Option (Int×List e.D)}(h:zZ (.sl e) mark):Rh (.sl e) mark:=h
theorem zY.top {e:CT}{held:List e.D→Int→Option Int}(h:zY (.sl e) held):Yg (.sl e) held:=h
def XK:{t:CT}→Eo FM t→Prop
 |_,.sl (e:=e) m=>zZ (.sl e) m
 |_,.pair a b=>XK a∧XK b
 |_,_=>True
theorem BL {α R:Type}{f:Int→Option Bytes}(hf:∀k,1≤k→k≤1000000000000000→f k=some (Na k)){l:List α}{i:Nat}(hi:i<l.length):∀{t:CT}(n:Eo FM t)(_:XK n)(g:α→t.D)(s:α→t.D→α)(_:∀y v,g (s y v)=v)(_:∀y v w,s (s y v) w=s y w)(x:α)(k:Int)(K:List α→Int→Option R),1≤k→k+hG t (g x)≤1000000000000000→aH 1000000000000 t (g x)→
 pJ f (i:Int) n g s (l.set i x) (l.set i x) k K=K (l.set i (s x (mk t (g x) k))) (k+hG t (g x))
 |_,.int _,_,g,s,_,_,x,k,K,h1,h2,_=>by
  simp only [dH] at h2⊢
  rw [pJ,fg x hi,ab,ab,Int.toNat_natCast,List.set_set,wrap64 (by omega) (by omega)];rfl
 |_,.bool,_,g,s,_,_,x,k,K,h1,h2,_=>by
  simp only [cB] at h2⊢
  rw [pJ,fg x hi,ab,ab,Int.toNat_natCast,List.set_set,wrap64 (by omega) (by omega)];rfl
 |_,.str,_,g,s,_,_,x,k,K,h1,h2,_=>by
  simp only [dI] at h2⊢
  rw [pJ,hf k h1 (by omega),ab,fg x hi,ab,ab,Int.toNat_natCast,List.set_set,wrap64 (by omega) (by omega)];rfl
 |_,.sl m,hn,g,s,_,_,x,k,K,h1,h2,h3=>by
  rw [pJ,fg x hi,ab,ab,hn (g x) h3 k h1 h2,ab,Int.toNat_natCast,List.set_set]
 |_,.pair (a:=ca) (b:=cb) a b,hn,g,s,l1,l2,x,k,K,h1,h2,h3=>by
  rw [cC] at h2⊢
  have e1:=BL (R:=R) hf hi a hn.1 (fun y=>(g y).1) (fun y v=>s y (v,(g y).2)) (fun y v=>by simp only [l1]) (fun y v w=>by simp only [l1,l2]) x k
  rw [pJ,e1 _ h1 (by show k+((hG ca (g x).1:Nat):Int)≤_;omega) h3.1]
  have e2:=BL (R:=R) hf hi b hn.2 (fun y=>(g y).2) (fun y v=>s y ((g y).1,v)) (fun y v=>by simp only [l1]) (fun y v w=>by simp only [l1,l2]) (s x (mk ca (g x).1 k,(g x).2)) (k+hG ca (g x).1) K (by omega) (by simp only [l1];omega) (by simp only [l1];exact h3.2)
  rw [e2]
  simp only [l1,l2,oK]
  congr 1
  omega
theorem ru {e:CT}(n:Eo FM e){T:((List e.D×Int×Int×List e.D)→Option (Int×List e.D))→(List e.D×Int×Int×List e.D)→Option (Int×List e.D)}{f:Int→Option Bytes}(hf:∀k,1≤k→k≤1000000000000000→f k=some (Na k))(hn:XK n)
 (he:∀(l:List e.D)(k i:Int) nx,T nx (l,k,i,l)=cond (decide (i<(l.length:Int))) (pJ f i n (fun y=>y) (fun _ v=>v) l l k (fun L k'=>nx (L,k',IntKind.wrap .i64 (i+1),L))) (some (k,l))):zZ (.sl e) (fun a k=>aj T fuel (a,k,0,a)):=by
 refine Bm (fun l i hi k nx h1 h2 h3 hx=> ?_) (fun l k nx=> ?_)
 ·have hl:l=l.set i l[i]:=(List.set_getElem_self hi).symm
  rw [he,decide_eq_true (by omega),cond_true]
  conv=>lhs;rw [hl]
  rw [BL hf hi n hn (fun y=>y) (fun _ v=>v) (fun _ _=>rfl) (fun _ _ _=>rfl) l[i] k _ h1 h2 hx]
  rw [wrap64 (by omega) (by omega)]
 ·rw [he,decide_eq_false (by omega)];rfl
def XJ:{t:CT}→Eo FH t→Prop
 |_,.sl (e:=e) m=>zY (.sl e) m
 |_,.pair a b=>XJ a∧XJ b
 |_,_=>True
theorem BK {α R:Type}{f:Int→Option Bytes}(hf:∀k,1≤k→k≤1000000000000000→f k=some (Na k)){v:List α}{i:Nat}(hi:i<v.length)(bad:Int→Option R):∀{t:CT}(n:Eo FH t)(_:XJ n)(g:α→t.D)(K:Int→Option R)(x:t.D)(k:Int),1≤k→k+hG t x≤1000000000000000→aH 1000000000000 t x→g v[i]=mk t x k→
 pH f (i:Int) v bad n g K k=K (k+hG t x)
 |_,.int _,_,g,K,x,k,h1,h2,_,h4=>by
  simp only [dH] at h2⊢
  have h5:g v[i]=k:=h4
  rw [pH,aC hi,ab,h5,bne_self_eq_false,cond_false,wrap64 (by omega) (by omega)];rfl
 |_,.bool,_,g,K,x,k,h1,h2,_,h4=>by
  simp only [cB] at h2⊢
  have h5:g v[i]=(Int.tmod k 3==0):=h4
  rw [pH,aC hi,ab,h5,beq_self_eq_true,Bool.not_true,cond_false,wrap64 (by omega) (by omega)];rfl
 |_,.str,_,g,K,x,k,h1,h2,_,h4=>by
  simp only [dI] at h2⊢
  have h5:g v[i]=Na k:=h4
  rw [pH,aC hi,ab,hf k h1 (by omega),ab,h5,beq_self_eq_true,Bool.not_true,cond_false,wrap64 (by omega) (by omega)];rfl
 |_,.sl m,hn,g,K,x,k,h1,h2,h3,h4=>by
  rw [pH,aC hi,ab,h4,hn x h3 k h1 h2,ab,decide_eq_false (by omega),cond_false]
 |_,.pair a b,hn,g,K,x,k,h1,h2,h3,h4=>by
  rw [cC] at h2⊢
  rw [oK] at h4
  rw [pH,BK hf hi bad a hn.1 _ _ x.1 k h1 (by omega) h3.1 (by simp only [h4]),BK hf hi bad b hn.2 _ _ x.2 _ (by omega) (by omega) h3.2 (by simp only [h4])]
  congr 1
  omega
theorem rr {e:CT}(n:Eo FH e){H:List e.D→((Int×Int)→Option Int)→(Int×Int)→Option Int}{bad:List e.D→Int→Int→Option Int}{f:Int→Option Bytes}(hf:∀k,1≤k→k≤1000000000000000→f k=some (Na k))(hn:XJ n)
 (he:∀(l:List e.D)(k i:Int) nx,H l nx (k,i)=cond (decide (i<(l.length:Int))) (pH f i l (bad l i) n (fun y=>y) (fun k'=>nx (k',IntKind.wrap .i64 (i+1))) k) (some k)):zY (.sl e) (fun a k=>aj (H a) fuel (k,0)):=by
 refine Bl (fun l i hi x k nx hm h1 h2 h3 hx=> ?_) (fun l k nx=> ?_)
 ·rw [he,decide_eq_true (by omega),cond_true,BK hf hi _ n hn _ _ x k h1 h2 hx hm,wrap64 (by omega) (by omega)]
 ·rw [he,decide_eq_false (by omega)];rfl
theorem rU:∀{t:CT}{x:t.D},b8 t x≤hG t x
 | .int _,_=>by simp [b8]
 | .bool,_=>by simp [b8]
 | .str,_=>by simp [b8]
 | .sl _,_=>Nat.le_refl _
 | .pair a b,x=>by simp only [b8,hG];exact Nat.add_le_add rU rU
def wt:CT→Nat
 | .sl e=>wt e
 | .pair a b=>wt a+wt b
 |_=>1
theorem EF:∀{t:CT}{x:t.D},hG t x≤wt t*(mi t x+1)
 | .int _,_=>by simp [hG,wt]
 | .bool,_=>by simp [hG,wt]
 | .str,_=>by simp [hG,wt]
 | .sl e,xs=>by
   have h:∀l:List e.D,(l.map (hG e)).sum≤wt e*((l.map (mi e)).sum+l.length):=by
    intro l
    induction l with
    |nil=>simp
    |cons y l ih=>
     have:=EF (t:=e) (x:=y)
     simp only [List.map_cons,List.sum_cons,List.length_cons]
     have e1:wt e*(mi e y+(l.map (mi e)).sum+(l.length+1))=wt e*(mi e y+1)+wt e*((l.map (mi e)).sum+l.length):=by
      rw [←Nat.mul_add];congr 1;omega
     omega
   have h1:=h xs
   simp only [hG,wt,mi]
   refine Nat.le_trans h1 (Nat.mul_le_mul_left _ (by omega))
 | .pair a b,x=>by
   have h1:=EF (t:=a) (x:=x.1)
   have h2:=EF (t:=b) (x:=x.2)
   simp only [hG,wt,mi]
   rw [Nat.add_mul]
   exact Nat.add_le_add (Nat.le_trans h1 (Nat.mul_le_mul_left _ (by omega))) (Nat.le_trans h2 (Nat.mul_le_mul_left _ (by omega)))
def yT (n:Nat):CT→Nat
 | .sl e=>n*yT n e
 | .pair a b=>yT n a+yT n b
 |_=>1
theorem ou {n:Nat}:∀{t:CT}{x:t.D},aH n t x→hG t x≤yT n t
 | .int _,_,_=>by simp [hG,yT]
 | .bool,_,_=>by simp [hG,yT]
 | .str,_,_=>by simp [hG,yT]
 | .sl e,xs,h=>by
   have h1:∀l:List e.D,(∀x∈l,aH n e x)→(l.map (hG e)).sum≤l.length*yT n e:=by
    intro l
    induction l with
    |nil=>simp
    |cons y l ih=>
     intro hl
     have:=ou (hl y (by simp))
     have:=ih (fun x hx=>hl x (by simp [hx]))
     simp only [List.map_cons,List.sum_cons,List.length_cons,Nat.add_mul,Nat.one_mul]
     omega
   simp only [hG,yT]
   exact Nat.le_trans (h1 xs h.2) (Nat.mul_le_mul_right _ h.1)
 | .pair a b,x,h=>by
   simp only [hG,yT]
   exact Nat.add_le_add (ou h.1) (ou h.2)
theorem Gg {n:Nat}{e:CT}:∀{xs:List e.D},(∀x∈xs,aH n e x)→hG (.sl e) xs≤xs.length*yT n e
 |[],_=>by simp [hG]
 |y::l,h=>by
  have h1:=ou (h y (by simp))
  have h2:=Gg (xs:=l) (fun x hx=>h x (by simp [hx]))
  simp only [hG,List.map_cons,List.sum_cons,List.length_cons,Nat.add_mul,Nat.one_mul] at h2⊢
  omega
end
end Go.Pu
end
section
namespace Go.Pu
open Go.Dn
set_option linter.unusedVariables false
set_option linter.unusedSimpArgs false
set_option maxRecDepth 100000
set_option maxHeartbeats 4000000
theorem lZ:zZ (.sl (.int .i64)) aP:=by
 refine Bm (e:=(.int .i64)) (T:=eJ (fun _ y _ z=>some (y,z))) (fun l i hi k nx h1 h2 h3 hx=> ?_) (fun l k nx=> ?_)
 ·try simp only [cC,dH,cB,dI,Int.natCast_add,Int.natCast_one,←Int.add_assoc] at h2
  simp only [eJ]
  rw [decide_eq_true (by omega)]
  simp (disch:=omega) only [cond_true,aC hi,ab,fg,List.length_set,List.set_set,Int.toNat_natCast,wrap64,if_neg,Rn,cl]
  try simp only [oK,uJ,sk,uK,cC,dH,cB,dI,Int.natCast_add,Int.natCast_one,←Int.add_assoc]
 ·simp only [eJ]
  rw [decide_eq_false (by omega)];rfl
theorem vg:zZ (.sl aw) gu
 :=ru (e:=aw) (T:=gS (fun _ y _ z=>some (y,z))) (f:=az) (.pair (.pair (.int _) (.pair .bool (.sl (e:=(.int .i64)) aP))) (.pair (.int _) (.pair (.int _) (.int _)))) cl ⟨⟨trivial,⟨trivial,lZ⟩⟩,⟨trivial,⟨trivial,trivial⟩⟩⟩ (fun l k i nx=>by kernel_rfl)
theorem Dp:zZ (.sl bt) gU
 :=ru (e:=bt) (T:=kS (fun _ y _ z=>some (y,z))) (f:=az) (.pair (.int _) (.pair (.int _) (.pair (.int _) (.pair (.int _) (.pair (.int _) (.pair (.int _) (.pair (.int _) (.pair (.int _) (.int _))))))))) cl ⟨trivial,⟨trivial,⟨trivial,⟨trivial,⟨trivial,⟨trivial,⟨trivial,⟨trivial,trivial⟩⟩⟩⟩⟩⟩⟩⟩ (fun l k i nx=>by kernel_rfl)
theorem Dr:zZ (.sl aQ) gW
 :=ru (e:=aQ) (T:=kV (fun _ y _ z=>some (y,z))) (f:=az) (.pair (.int _) (.pair (.pair (.int _) (.pair (.int _) (.pair (.int _) (.pair (.int _) (.int _))))) (.int _))) cl ⟨trivial,⟨⟨trivial,⟨trivial,⟨trivial,⟨trivial,trivial⟩⟩⟩⟩,trivial⟩⟩ (fun l k i nx=>by kernel_rfl)
theorem Bp:Rh (.sl aQ) fu:=by
 intro a h k h1 h2
 simp (disch:=omega) only [fu,ab,Dr.top a h]
theorem yU (a:c9):b8 cK a=0+(b8 (.sl (.int .i64)) a.2):=rfl
theorem HY (a:c9)(k:Int):vC cK a k=(a.1,vC (.sl (.int .i64)) a.2 (k)):=by
 simp only [pz,si,py,sj,nr,pg,nq,ph,Int.natCast_add,Int.natCast_zero,Int.add_zero,←Int.add_assoc]
theorem H8:Rh cK ju:=by
 intro a h k h1 h2
 rw [yU] at h2
 simp (disch:=omega) only [ju,ab,lZ.top _ h.2]
 rw [HY,yU]
 refine congrArg some (Prod.ext (by simp only;omega) ?_)
 first|rfl|simp only [pz,si,py,sj,nr,pg,nq,ph,Int.natCast_add,Int.natCast_zero,Int.add_zero,←Int.add_assoc]
theorem u4 (a:aD):b8 aK a=b8 (.sl bt) a.1+(b8 (.sl aQ) a.2.1+(b8 cK a.2.2)):=rfl
theorem Dk (a:aD)(k:Int):vC aK a k=(vC (.sl bt) a.1 (k),vC (.sl aQ) a.2.1 (k+((b8 (.sl bt) a.1:Nat):Int)),vC cK a.2.2 (k+((b8 (.sl bt) a.1:Nat):Int)+((b8 (.sl aQ) a.2.1:Nat):Int))):=by
 simp only [pz,si,py,sj,nr,pg,nq,ph,Int.natCast_add,Int.natCast_zero,Int.add_zero,←Int.add_assoc]
theorem Dy:Rh aK gx:=by
 intro a h k h1 h2
 rw [u4] at h2
 simp (disch:=omega) only [gx,ab,Dp.top _ h.1,Bp _ h.2.1,H8 _ h.2.2]
 rw [Dk,u4]
 refine congrArg some (Prod.ext (by simp only;omega) ?_)
 first|rfl|simp only [pz,si,py,sj,nr,pg,nq,ph,Int.natCast_add,Int.natCast_zero,Int.add_zero,←Int.add_assoc]
theorem nY:zZ (.sl .str) bW:=by
 refine Bm (e:= .str) (T:=cZ (fun _ y _ z=>some (y,z))) (fun l i hi k nx h1 h2 h3 hx=> ?_) (fun l k nx=> ?_)
 ·try simp only [cC,dH,cB,dI,Int.natCast_add,Int.natCast_one,←Int.add_assoc] at h2
  simp only [cZ]
  rw [decide_eq_true (by omega)]
  simp (disch:=omega) only [cond_true,aC hi,ab,fg,List.length_set,List.set_set,Int.toNat_natCast,wrap64,if_neg,Rn,cl]
  try simp only [oK,uJ,sk,uK,cC,dH,cB,dI,Int.natCast_add,Int.natCast_one,←Int.add_assoc]
 ·simp only [cZ]
  rw [decide_eq_false (by omega)];rfl
theorem xy:Rh (.sl .str) gR:=by
 intro a h k h1 h2
 simp (disch:=omega) only [gR,ab,nY.top a h]
theorem Dm:zZ (.sl aB) gv
 :=ru (e:=aB) (T:=gT (fun _ y _ z=>some (y,z))) (f:=az) (.pair (.int _) (.pair (.int _) (.pair (.int _) .bool))) cl ⟨trivial,⟨trivial,⟨trivial,trivial⟩⟩⟩ (fun l k i nx=>by kernel_rfl)
theorem J4:zZ (.sl df) kT
 :=ru (e:=df) (T:=kU (fun _ y _ z=>some (y,z))) (f:=az) (.pair (.int _) (.pair (.int _) (.sl (e:=(.int .i64)) aP))) cl ⟨trivial,⟨trivial,lZ⟩⟩ (fun l k i nx=>by kernel_rfl)
theorem Dq:zZ (.sl ba) gw
 :=ru (e:=ba) (T:=gV (fun _ y _ z=>some (y,z))) (f:=az) (.pair (.pair (.int _) (.pair (.int _) (.pair (.int _) (.int _)))) (.pair (.pair (.int _) (.pair (.int _) (.int _))) (.pair (.pair (.int _) (.pair (.int _) (.int _))) (.pair (.pair (.pair (.int _) (.pair (.int _) (.pair (.int _) (.pair (.int _) (.pair (.int _) (.pair (.int _) (.pair (.int _) (.pair (.int _) (.pair (.int _) (.pair (.int _) (.pair (.int _) (.pair (.int _) (.pair (.int _) (.pair (.int _) (.pair (.int _) .str))))))))))))))) (.pair (.int _) (.int _))) (.pair .bool (.int _)))))) cl ⟨⟨trivial,⟨trivial,⟨trivial,trivial⟩⟩⟩,⟨⟨trivial,⟨trivial,trivial⟩⟩,⟨⟨trivial,⟨trivial,trivial⟩⟩,⟨⟨⟨trivial,⟨trivial,⟨trivial,⟨trivial,⟨trivial,⟨trivial,⟨trivial,⟨trivial,⟨trivial,⟨trivial,⟨trivial,⟨trivial,⟨trivial,⟨trivial,⟨trivial,trivial⟩⟩⟩⟩⟩⟩⟩⟩⟩⟩⟩⟩⟩⟩⟩,⟨trivial,trivial⟩⟩,⟨trivial,trivial⟩⟩⟩⟩⟩ (fun l k i nx=>by kernel_rfl)
theorem J3:zZ (.sl cc) kQ
 :=ru (e:=cc) (T:=kR (fun _ y _ z=>some (y,z))) (f:=az) (.pair (.int _) (.pair (.int _) (.pair (.int _) (.sl (e:=(.int .i64)) aP)))) cl ⟨trivial,⟨trivial,⟨trivial,lZ⟩⟩⟩ (fun l k i nx=>by kernel_rfl)
theorem Ft:zZ (.sl bh) im
 :=ru (e:=bh) (T:=iJ (fun _ y _ z=>some (y,z))) (f:=az) (.pair (.int _) (.pair (.int _) (.pair (.int _) (.pair (.int _) (.pair .bool .bool))))) cl ⟨trivial,⟨trivial,⟨trivial,⟨trivial,⟨trivial,trivial⟩⟩⟩⟩⟩ (fun l k i nx=>by kernel_rfl)
theorem J1:zZ (.sl .bool) kO:=by
 refine Bm (e:= .bool) (T:=dR (fun _ y _ z=>some (y,z))) (fun l i hi k nx h1 h2 h3 hx=> ?_) (fun l k nx=> ?_)
 ·try simp only [cC,dH,cB,dI,Int.natCast_add,Int.natCast_one,←Int.add_assoc] at h2
  simp only [dR]
  rw [decide_eq_true (by omega)]
  simp (disch:=omega) only [cond_true,aC hi,ab,fg,List.length_set,List.set_set,Int.toNat_natCast,wrap64,if_neg,Rn,cl]
  try simp only [oK,uJ,sk,uK,cC,dH,cB,dI,Int.natCast_add,Int.natCast_one,←Int.add_assoc]
 ·simp only [dR]
  rw [decide_eq_false (by omega)];rfl
theorem Fs:zZ (.sl bd) ik
 :=ru (e:=bd) (T:=iI (fun _ y _ z=>some (y,z))) (f:=az) (.pair (.pair (.int _) (.pair (.int _) (.pair (.int _) (.pair (.int _) (.int _))))) (.pair (.int _) (.pair .str .bool))) cl ⟨⟨trivial,⟨trivial,⟨trivial,⟨trivial,trivial⟩⟩⟩⟩,⟨trivial,⟨trivial,trivial⟩⟩⟩ (fun l k i nx=>by kernel_rfl)
theorem J2:zZ (.sl bB) nS
 :=ru (e:=bB) (T:=kP (fun _ y _ z=>some (y,z))) (f:=az) (.pair (.sl (e:= .str) bW) (.pair (.sl (e:=aB) gv) (.pair (.pair (.pair (.int _) (.pair (.int _) (.pair (.int _) (.int _)))) (.pair (.pair (.int _) (.pair (.int _) (.pair (.int _) (.sl (e:=(.int .i64)) aP)))) (.pair (.sl (e:=df) kT) (.int _)))) (.pair (.sl (e:=ba) gw) (.pair (.sl (e:=cc) kQ) (.pair (.sl (e:=bh) im) (.pair (.sl (e:= .bool) kO) (.pair (.pair (.int _) (.pair .bool (.sl (e:=(.int .i64)) aP))) (.pair (.pair (.sl (e:=bt) gU) (.pair (.sl (e:=aQ) gW) (.pair .str (.sl (e:=(.int .i64)) aP)))) (.pair (.sl (e:=bd) ik) (.pair .bool (.pair (.sl (e:= .str) bW) (.pair (.sl (e:=(.int .i64)) aP) (.pair (.sl (e:=(.int .i64)) aP) (.pair (.int _) (.pair (.int _) (.pair (.int _) (.pair (.int _) (.int _))))))))))))))))))) cl ⟨nY,⟨Dm,⟨⟨⟨trivial,⟨trivial,⟨trivial,trivial⟩⟩⟩,⟨⟨trivial,⟨trivial,⟨trivial,lZ⟩⟩⟩,⟨J4,trivial⟩⟩⟩,⟨Dq,⟨J3,⟨Ft,⟨J1,⟨⟨trivial,⟨trivial,lZ⟩⟩,⟨⟨Dp,⟨Dr,⟨trivial,lZ⟩⟩⟩,⟨Fs,⟨trivial,⟨nY,⟨lZ,⟨lZ,⟨trivial,⟨trivial,⟨trivial,⟨trivial,trivial⟩⟩⟩⟩⟩⟩⟩⟩⟩⟩⟩⟩⟩⟩⟩⟩⟩⟩ (fun l k i nx=>by kernel_rfl)
theorem sB:zZ (.sl ao) dz
 :=ru (e:=ao) (T:=cS (fun _ y _ z=>some (y,z))) (f:=az) (.pair (.int _) (.pair (.int _) (.pair (.pair (.int _) (.pair (.int _) (.int _))) (.pair .bool (.pair (.int _) (.int _)))))) cl ⟨trivial,⟨trivial,⟨⟨trivial,⟨trivial,trivial⟩⟩,⟨trivial,⟨trivial,trivial⟩⟩⟩⟩⟩ (fun l k i nx=>by kernel_rfl)
theorem vK (a:gC):b8 mN a=b8 (.sl bB) a.1+(b8 (.sl ao) a.2.1+(b8 (.sl aw) a.2.2.1+(b8 (.sl .str) a.2.2.2.1+((0+(0+(0+0)))+(b8 (.sl (.int .i64)) a.2.2.2.2.2.1+(b8 (.sl .str) a.2.2.2.2.2.2)))))):=rfl
theorem GS (a:gC)(k:Int):vC mN a k=(vC (.sl bB) a.1 (k),vC (.sl ao) a.2.1 (k+((b8 (.sl bB) a.1:Nat):Int)),vC (.sl aw) a.2.2.1 (k+((b8 (.sl bB) a.1:Nat):Int)+((b8 (.sl ao) a.2.1:Nat):Int)),vC (.sl .str) a.2.2.2.1 (k+((b8 (.sl bB) a.1:Nat):Int)+((b8 (.sl ao) a.2.1:Nat):Int)+((b8 (.sl aw) a.2.2.1:Nat):Int)),a.2.2.2.2.1,vC (.sl (.int .i64)) a.2.2.2.2.2.1 (k+((b8 (.sl bB) a.1:Nat):Int)+((b8 (.sl ao) a.2.1:Nat):Int)+((b8 (.sl aw) a.2.2.1:Nat):Int)+((b8 (.sl .str) a.2.2.2.1:Nat):Int)),vC (.sl .str) a.2.2.2.2.2.2 (k+((b8 (.sl bB) a.1:Nat):Int)+((b8 (.sl ao) a.2.1:Nat):Int)+((b8 (.sl aw) a.2.2.1:Nat):Int)+((b8 (.sl .str) a.2.2.2.1:Nat):Int)+((b8 (.sl (.int .i64)) a.2.2.2.2.2.1:Nat):Int))):=by
 simp only [pz,si,py,sj,nr,pg,nq,ph,Int.natCast_add,Int.natCast_zero,Int.add_zero,←Int.add_assoc]
theorem ML:Rh mN lW:=by
 intro a h k h1 h2
 rw [vK] at h2
 simp (disch:=omega) only [lW,ab,J2.top _ h.1,sB.top _ h.2.1,vg.top _ h.2.2.1,xy _ h.2.2.2.1,nY.top _ h.2.2.2.1,lZ.top _ h.2.2.2.2.2.1,xy _ h.2.2.2.2.2.2,nY.top _ h.2.2.2.2.2.2]
 rw [GS,vK]
 refine congrArg some (Prod.ext (by simp only;omega) ?_)
 first|rfl|simp only [pz,si,py,sj,nr,pg,nq,ph,Int.natCast_add,Int.natCast_zero,Int.add_zero,←Int.add_assoc]
theorem mR:zY (.sl (.int .i64)) aS:=by
 refine Bl (e:=(.int .i64)) (H:=fun v=>eI (fun y _=>some y) (fun _ y _=>some y) v 0) (fun l i hi x k nx hm h1 h2 h3 hx=> ?_) (fun l k nx=> ?_)
 ·try simp only [cC,dH,cB,dI,Int.natCast_add,Int.natCast_one,←Int.add_assoc] at h2
  try simp only [oK,uJ,sk,uK,cC,dH,cB,dI,Int.natCast_add,Int.natCast_one,←Int.add_assoc] at hm
  simp only [eI]
  rw [decide_eq_true (by omega)]
  simp (disch:=omega) only [cond_true,aC hi,hm,ab,bne_self_eq_false,beq_self_eq_true,Bool.not_true,cond_false,wrap64,if_neg,Rn,pT,cl]
  try simp only [cC,dH,cB,dI,Int.natCast_add,Int.natCast_one,←Int.add_assoc]
 ·simp only [eI]
  rw [decide_eq_false (by omega)];rfl
theorem nD:zY (.sl .str) bV:=by
 refine Bl (e:= .str) (H:=fun v=>cY (fun y _=>some y) (fun _ y _=>some y) v 0) (fun l i hi x k nx hm h1 h2 h3 hx=> ?_) (fun l k nx=> ?_)
 ·try simp only [cC,dH,cB,dI,Int.natCast_add,Int.natCast_one,←Int.add_assoc] at h2
  try simp only [oK,uJ,sk,uK,cC,dH,cB,dI,Int.natCast_add,Int.natCast_one,←Int.add_assoc] at hm
  simp only [cY]
  rw [decide_eq_true (by omega)]
  simp (disch:=omega) only [cond_true,aC hi,hm,ab,bne_self_eq_false,beq_self_eq_true,Bool.not_true,cond_false,wrap64,if_neg,Rn,pT,cl]
  try simp only [cC,dH,cB,dI,Int.natCast_add,Int.natCast_one,←Int.add_assoc]
 ·simp only [cY]
  rw [decide_eq_false (by omega)];rfl
theorem CZ:zY (.sl aB) gq
 :=rr (e:=aB) (H:=fun v=>gP (fun y _=>some y) (fun _ y _=>some y) v 0) (bad:=fun _ i k=>some (-1)) (f:=az) (.pair (.int _) (.pair (.int _) (.pair (.int _) .bool))) cl ⟨trivial,⟨trivial,⟨trivial,trivial⟩⟩⟩ (fun l k i nx=>by kernel_rfl)
theorem Jv:zY (.sl df) kK
 :=rr (e:=df) (H:=fun v=>kL (fun y _=>some y) (fun _ y _=>some y) v 0) (bad:=fun _ i k=>some (-1)) (f:=az) (.pair (.int _) (.pair (.int _) (.sl (e:=(.int .i64)) aS))) cl ⟨trivial,⟨trivial,mR⟩⟩ (fun l k i nx=>by kernel_rfl)
theorem C0:zY (.sl ba) gr
 :=rr (e:=ba) (H:=fun v=>gQ (fun y _=>some y) (fun _ y _=>some y) v 0) (bad:=fun _ i k=>some (-1)) (f:=az) (.pair (.pair (.int _) (.pair (.int _) (.pair (.int _) (.int _)))) (.pair (.pair (.int _) (.pair (.int _) (.int _))) (.pair (.pair (.int _) (.pair (.int _) (.int _))) (.pair (.pair (.pair (.int _) (.pair (.int _) (.pair (.int _) (.pair (.int _) (.pair (.int _) (.pair (.int _) (.pair (.int _) (.pair (.int _) (.pair (.int _) (.pair (.int _) (.pair (.int _) (.pair (.int _) (.pair (.int _) (.pair (.int _) (.pair (.int _) .str))))))))))))))) (.pair (.int _) (.int _))) (.pair .bool (.int _)))))) cl ⟨⟨trivial,⟨trivial,⟨trivial,trivial⟩⟩⟩,⟨⟨trivial,⟨trivial,trivial⟩⟩,⟨⟨trivial,⟨trivial,trivial⟩⟩,⟨⟨⟨trivial,⟨trivial,⟨trivial,⟨trivial,⟨trivial,⟨trivial,⟨trivial,⟨trivial,⟨trivial,⟨trivial,⟨trivial,⟨trivial,⟨trivial,⟨trivial,⟨trivial,trivial⟩⟩⟩⟩⟩⟩⟩⟩⟩⟩⟩⟩⟩⟩⟩,⟨trivial,trivial⟩⟩,⟨trivial,trivial⟩⟩⟩⟩⟩ (fun l k i nx=>by kernel_rfl)
theorem Jt:zY (.sl cc) kG
 :=rr (e:=cc) (H:=fun v=>kH (fun y _=>some y) (fun _ y _=>some y) v 0) (bad:=fun _ i k=>some (-1)) (f:=az) (.pair (.int _) (.pair (.int _) (.pair (.int _) (.sl (e:=(.int .i64)) aS)))) cl ⟨trivial,⟨trivial,⟨trivial,mR⟩⟩⟩ (fun l k i nx=>by kernel_rfl)
theorem E1:zY (.sl bh) ij
 :=rr (e:=bh) (H:=fun v=>iH (fun y _=>some y) (fun _ y _=>some y) v 0) (bad:=fun _ i k=>some (-1)) (f:=az) (.pair (.int _) (.pair (.int _) (.pair (.int _) (.pair (.int _) (.pair .bool .bool))))) cl ⟨trivial,⟨trivial,⟨trivial,⟨trivial,⟨trivial,trivial⟩⟩⟩⟩⟩ (fun l k i nx=>by kernel_rfl)
theorem Jr:zY (.sl .bool) kC:=by
 refine Bl (e:= .bool) (H:=fun v=>dQ (fun y _=>some y) (fun _ y _=>some y) v 0) (fun l i hi x k nx hm h1 h2 h3 hx=> ?_) (fun l k nx=> ?_)
 ·try simp only [cC,dH,cB,dI,Int.natCast_add,Int.natCast_one,←Int.add_assoc] at h2
  try simp only [oK,uJ,sk,uK,cC,dH,cB,dI,Int.natCast_add,Int.natCast_one,←Int.add_assoc] at hm
  simp only [dQ]
  rw [decide_eq_true (by omega)]
  simp (disch:=omega) only [cond_true,aC hi,hm,ab,bne_self_eq_false,beq_self_eq_true,Bool.not_true,cond_false,wrap64,if_neg,Rn,pT,cl]
  try simp only [cC,dH,cB,dI,Int.natCast_add,Int.natCast_one,←Int.add_assoc]
 ·simp only [dQ]
  rw [decide_eq_false (by omega)];rfl
theorem Ju:zY (.sl bt) kI
 :=rr (e:=bt) (H:=fun v=>kJ (fun y _=>some y) (fun _ y _=>some y) v 0) (bad:=fun _ i k=>some (-1)) (f:=az) (.pair (.int _) (.pair (.int _) (.pair (.int _) (.pair (.int _) (.pair (.int _) (.pair (.int _) (.pair (.int _) (.pair (.int _) (.int _))))))))) cl ⟨trivial,⟨trivial,⟨trivial,⟨trivial,⟨trivial,⟨trivial,⟨trivial,⟨trivial,trivial⟩⟩⟩⟩⟩⟩⟩⟩ (fun l k i nx=>by kernel_rfl)
theorem Jw:zY (.sl aQ) kM
 :=rr (e:=aQ) (H:=fun v=>kN (fun y _=>some y) (fun _ y _=>some y) v 0) (bad:=fun _ i k=>some (-1)) (f:=az) (.pair (.int _) (.pair (.pair (.int _) (.pair (.int _) (.pair (.int _) (.pair (.int _) (.int _))))) (.int _))) cl ⟨trivial,⟨⟨trivial,⟨trivial,⟨trivial,⟨trivial,trivial⟩⟩⟩⟩,trivial⟩⟩ (fun l k i nx=>by kernel_rfl)
theorem E0:zY (.sl bd) ig
 :=rr (e:=bd) (H:=fun v=>iG (fun y _=>some y) (fun _ y _=>some y) v 0) (bad:=fun _ i k=>some (-1)) (f:=az) (.pair (.pair (.int _) (.pair (.int _) (.pair (.int _) (.pair (.int _) (.int _))))) (.pair (.int _) (.pair .str .bool))) cl ⟨⟨trivial,⟨trivial,⟨trivial,⟨trivial,trivial⟩⟩⟩⟩,⟨trivial,⟨trivial,trivial⟩⟩⟩ (fun l k i nx=>by kernel_rfl)
theorem Js:zY (.sl bB) nR
 :=rr (e:=bB) (H:=fun v=>kE (fun y _=>some y) (fun _ y _=>some y) v 0) (bad:=fun _ i k=>some (-1)) (f:=az) (.pair (.sl (e:= .str) bV) (.pair (.sl (e:=aB) gq) (.pair (.pair (.pair (.int _) (.pair (.int _) (.pair (.int _) (.int _)))) (.pair (.pair (.int _) (.pair (.int _) (.pair (.int _) (.sl (e:=(.int .i64)) aS)))) (.pair (.sl (e:=df) kK) (.int _)))) (.pair (.sl (e:=ba) gr) (.pair (.sl (e:=cc) kG) (.pair (.sl (e:=bh) ij) (.pair (.sl (e:= .bool) kC) (.pair (.pair (.int _) (.pair .bool (.sl (e:=(.int .i64)) aS))) (.pair (.pair (.sl (e:=bt) kI) (.pair (.sl (e:=aQ) kM) (.pair .str (.sl (e:=(.int .i64)) aS)))) (.pair (.sl (e:=bd) ig) (.pair .bool (.pair (.sl (e:= .str) bV) (.pair (.sl (e:=(.int .i64)) aS) (.pair (.sl (e:=(.int .i64)) aS) (.pair (.int _) (.pair (.int _) (.pair (.int _) (.pair (.int _) (.int _))))))))))))))))))) cl ⟨nD,⟨CZ,⟨⟨⟨trivial,⟨trivial,⟨trivial,trivial⟩⟩⟩,⟨⟨trivial,⟨trivial,⟨trivial,mR⟩⟩⟩,⟨Jv,trivial⟩⟩⟩,⟨C0,⟨Jt,⟨E1,⟨Jr,⟨⟨trivial,⟨trivial,mR⟩⟩,⟨⟨Ju,⟨Jw,⟨trivial,mR⟩⟩⟩,⟨E0,⟨trivial,⟨nD,⟨mR,⟨mR,⟨trivial,⟨trivial,⟨trivial,⟨trivial,trivial⟩⟩⟩⟩⟩⟩⟩⟩⟩⟩⟩⟩⟩⟩⟩⟩⟩⟩ (fun l k i nx=>by kernel_rfl)
theorem sz:zY (.sl ao) dy
 :=rr (e:=ao) (H:=fun v=>cR (fun y _=>some y) (fun _ y _=>some y) v 0) (bad:=fun _ i k=>some (-1)) (f:=az) (.pair (.int _) (.pair (.int _) (.pair (.pair (.int _) (.pair (.int _) (.int _))) (.pair .bool (.pair (.int _) (.int _)))))) cl ⟨trivial,⟨trivial,⟨⟨trivial,⟨trivial,trivial⟩⟩,⟨trivial,⟨trivial,trivial⟩⟩⟩⟩⟩ (fun l k i nx=>by kernel_rfl)
theorem CY:zY (.sl aw) kF
 :=rr (e:=aw) (H:=fun v=>gO (fun y _=>some y) (fun _ y _=>some y) v 0) (bad:=fun _ i k=>some (-1)) (f:=az) (.pair (.pair (.int _) (.pair .bool (.sl (e:=(.int .i64)) aS))) (.pair (.int _) (.pair (.int _) (.int _)))) cl ⟨⟨trivial,⟨trivial,mR⟩⟩,⟨trivial,⟨trivial,trivial⟩⟩⟩ (fun l k i nx=>by kernel_rfl)
theorem C3:Yg (.sl .str) kD:=by
 intro a h k h1 h2
 simp (disch:=omega) only [kD,ab,nD.top a h,pT,cond_false]
theorem My:Yg mN fQ:=by
 intro a h k h1 h2
 rw [vK] at h2
 rw [GS]
 simp (disch:=omega) only [fQ,ab,Js.top _ h.1,sz.top _ h.2.1,CY.top _ h.2.2.1,C3 _ h.2.2.2.1,nD.top _ h.2.2.2.1,mR.top _ h.2.2.2.2.2.1,C3 _ h.2.2.2.2.2.2,nD.top _ h.2.2.2.2.2.2,pT,cond_false]
 rw [vK]
 refine congrArg some (by omega)
end Go.Pu
end
section
namespace Go.Pu
open Go.Dn
set_option linter.unusedSimpArgs false
set_option linter.unusedVariables false
theorem Br (a:List ar)(b:aD)(c:Bool)(d:Int×Int×Int)(f:List Bytes)(t:Int)(ha:og (.sl aw) a)(hb:og aK b)(hc:og .bool c)(hd:og (.pair (.int .i64) (.pair (.int .i64) (.int .i64))) d)(hf:og (.sl .str) f)(ht:og (.int .i64) t):iE a b c d f t=some true:=by
 unfold iE
 refine (D9 a ha).use (by omega) (by omega) fun hl=> ?_
 refine (Ea b hb).use (by omega) (by omega) fun hl2=> ?_
 refine (KI f hf).use (by omega) (by omega) fun hl3=> ?_
 have hA:aH 1048576 (.sl aw) a:=qy (by omega)
 have hB:aH 1048576 aK b:=qy (by omega)
 have hF:aH 1048576 (.sl .str) f:=qy (by omega)
 obtain ⟨r,hr,hz⟩:=FC (n:=1048576) (by omega) c d t hA hB hF
 have l1:a.length≤1048576:=hA.1
 have l2:∀m∈a,m.1.2.2.length≤1000000000:=fun m hm=>Nat.le_trans (hA.2 m hm).1.2.2.1 (by omega)
 have l3:f.length≤1048576:=hF.1
 have l4:b.1.length≤1048576:=hB.1.1
 have l5:b.2.1.length≤1048576:=hB.2.1.1
 have l6:b.2.2.2.length≤1048576:=hB.2.2.2.1
 have hs:=DY a b c d f t (by omega) l2 (by omega) (by omega) (by omega) (by omega)
 have hi:=C4 a b c d f t (by omega) l2 (by omega) (by omega) (by omega) (by omega)
 rw [hr] at hs hi
 have hR:aH 1048576 mN r.1:=⟨⟨Nat.le_trans hz.hosts (by omega),hz.hs⟩,hz.rest⟩
 have c1:b8 (.sl aw) a≤yT 1048576 (.sl aw):=Nat.le_trans rU (ou hA)
 have c2:b8 aK b≤yT 1048576 aK:=Nat.le_trans rU (ou hB)
 have c3:b8 (.sl .str) f≤yT 1048576 (.sl .str):=Nat.le_trans rU (ou hF)
 have b1:yT 1048576 (.sl aw)≤90000000000000:=by decide
 have b2:yT 1048576 aK≤90000000000000:=by decide
 have b3:yT 1048576 (.sl .str)≤90000000000000:=by decide
 have b4:yT 1048576 bB≤90000000000000:=by decide
 have c4:b8 mN r.1≤500000000000000:=by
  have e1:b8 mN r.1≤hG (.sl bB) r.1.1+hG (.pair (.sl ao) (.pair (.sl aw) (.pair (.sl .str) (.pair (.pair (.int .i64) (.pair (.int .i64) (.pair (.int .i64) (.int .i64)))) (.pair (.sl (.int .i64)) (.sl .str)))))) r.1.2:=rU
  have e2:=Gg (e:=bB) hz.hs
  have e3:=ou hz.rest
  have e4:yT 1048576 (.pair (.sl ao) (.pair (.sl aw) (.pair (.sl .str) (.pair (.pair (.int .i64) (.pair (.int .i64) (.pair (.int .i64) (.int .i64)))) (.pair (.sl (.int .i64)) (.sl .str))))))≤90000000000000:=by decide
  have e5:r.1.1.length*yT 1048576 bB≤3*90000000000000:=Nat.mul_le_mul hz.hosts b4
  omega
 have m1:=vg.top a (hA.mono (by omega)) 1 (by omega) (by omega)
 have m2:=Dy b (hB.mono (by omega)) (1+(b8 (.sl aw) a:Int)) (by omega) (by omega)
 have m3:=xy f (hF.mono (by omega)) (1+(b8 (.sl aw) a:Int)+(b8 aK b:Int)) (by omega) (by omega)
 have m4:=ML r.1 (hR.mono (by omega)) 1 (by omega) (by omega)
 have m5:∀t,t=vC mN r.1 1→fQ t 1=some (1+(b8 mN r.1:Int)):=by rintro _ rfl;exact My r.1 (hR.mono (by omega)) 1 (by omega) (by omega)
 have t1:fR d=some d:=rfl
 simp (disch:=omega) only [Ed a hA,Eg b hB,LY f hF,t1,ab,hs,hi,Mq r.1 (hR.mono (by omega)),u5 a (hA.mono (by omega)),u6 b (hB.mono (by omega)),CH f (hF.mono (by omega)),beq_self_eq_true,bne_self_eq_false,Bool.not_true,cond_false,m1,m2,m3,m4,pT]
 rw [m5]
 ·simp (disch:=omega) only [ab,pT,cond_false,bne_self_eq_false]
 ·rfl
end Go.Pu
end
