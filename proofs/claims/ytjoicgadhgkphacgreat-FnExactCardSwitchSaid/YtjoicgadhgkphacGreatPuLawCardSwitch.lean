import Derived.Test.YtjoicgadhgkphacGreatPuX1
namespace Go.Pu
open Go.Dn
set_option linter.unusedSimpArgs false
set_option linter.unusedVariables false
noncomputable section
/- Steering of packets: rules, the table, the spread. -/
def sV (f:Filter)(p:aO):Bool:=iE f&&(((p.1==f.1)||((p.1==281474976710655)||f.2.1))&&((p.2.2.1== -1)||hasB f.2.2 p.2.2.1))
theorem MN (f:Filter)(p:aO)(h:f.2.2.length≤1000000000):tT f p=some (sV f p):=by simp only[tT,xv f h,xw f.2.2 _ h,ab,sV];cases iE f<;>cases p.1==f.1<;>cases p.1==281474976710655<;>cases f.2.1<;>cases p.2.2.1== -1<;>rfl
theorem NS (f:Filter)(p:aO)(h:f.2.2.length≤1000000000):uk f p=some (sV f p):=by simp only[uk,yb f h,yc f.2.2 _ h,ab,sV];cases iE f<;>cases p.1==f.1<;>cases p.1==281474976710655<;>cases f.2.1<;>cases p.2.2.1== -1<;>rfl
def preB (a b n:Int):Bool:=Int.fdiv a (2^(min (Int.toNat (aq (32-n))) (IntKind.bits .i64)))==Int.fdiv b (2^(min (Int.toNat (aq (32-n))) (IntKind.bits .i64)))
theorem IM {r:dX}(h:vw r=true):0≤r.2.2.2.1∧r.2.2.2.1≤32:=by rw[←bW];unfold vw at h;simp only[gU,cc,ab,aZ]at h;cases hp:cx r.2.2.2.1 0 32 with|true=>rfl|false=>rw[hp]at h;revert h;cases cx r.1 0 1000<;>cases r.2.1 !=0<;>cases r.2.1 !=6<;>cases r.2.1 !=17<;>cases cx r.2.2.1 0 4294967295<;>simp
def T3 (r:dX)(p:aO):Bool:=preB r.2.2.1 p.2.2.2.2.2.2.1 r.2.2.2.1&&(cx p.2.2.2.2.2.2.2.2.2.2.1 r.2.2.2.2.1 r.2.2.2.2.2.1&&((r.2.2.2.2.2.2.1== -2)||(r.2.2.2.2.2.2.1==p.2.2.1)))
def zj (r:dX)(p:aO):Bool:=vw r&&(dW p&&(((r.2.1==0)||(r.2.1==p.2.2.2.2.2.2.2.2.1))&&T3 r p))
theorem Yu (a b n:Int)(h0:0≤n)(h1:n≤32):kO a b n=some (preB a b n):=by unfold kO preB;rw[ao (by rw[wrap64 (n:=32-n) (by omega) (by omega)];omega),ao (by rw[wrap64 (n:=32-n) (by omega) (by omega)];omega)]
theorem Sy (r:dX)(p:aO):mO r p=some (zj r p):=by
 unfold mO zj;rw[UW,ab];cases hr:vw r with|false=>rfl|true=>?_
 have hp:=IM hr;simp only[mH,Yu _ _ _ hp.1 hp.2,cC,ab,T3];cases dW p<;>cases r.2.1==0<;>cases r.2.1==p.2.2.2.2.2.2.2.2.1<;>cases preB r.2.2.1 p.2.2.2.2.2.2.1 r.2.2.2.1<;>cases cx p.2.2.2.2.2.2.2.2.2.2.1 r.2.2.2.2.1 r.2.2.2.2.2.1<;>cases r.2.2.2.2.2.2.1== -2<;>rfl
theorem Tt (r:dX)(p:aO):nq r p=some (zj r p):=by
 unfold nq zj;rw[G1,ab];cases hr:vw r with|false=>rfl|true=>?_
 have hp:=IM hr;have hw:¬aq (32-r.2.2.2.1)<0:=by rw[wrap64 (n:=32-r.2.2.2.1) (by omega) (by omega)];omega
 simp only[nh,tL,ao hw,cc,ab,T3];rw[show(Int.fdiv r.2.2.1 (2^(min (Int.toNat (aq (32-r.2.2.2.1))) (IntKind.bits .i64)))==Int.fdiv p.2.2.2.2.2.2.1 (2^(min (Int.toNat (aq (32-r.2.2.2.1))) (IntKind.bits .i64))))=preB r.2.2.1 p.2.2.2.2.2.2.1 r.2.2.2.1 from rfl];cases dW p<;>cases r.2.1==0<;>cases r.2.1==p.2.2.2.2.2.2.2.2.1<;>cases preB r.2.2.1 p.2.2.2.2.2.2.1 r.2.2.2.1<;>cases cx p.2.2.2.2.2.2.2.2.2.2.1 r.2.2.2.2.1 r.2.2.2.2.2.1<;>cases r.2.2.2.2.2.2.1== -2<;>rfl
def DK:dX:=(0,0,0,0,0,0,0,0,0)
def tM (l:List dX)(p:aO):Nat→Int
 |0=> -1
 |i+1=>bif zj (l.getD i DK) p&&(decide (tM l p i<0)||decide ((l.getD i DK).1<(l.getD (tM l p i).toNat DK).1)) then(i:Int) else tM l p i
theorem EC (l:List dX)(p:aO):∀i,tM l p i= -1∨∃n:Nat,tM l p i=(n:Int)∧n<i
 |0=> .inl rfl
 |i+1=>by rw[tM];cases zj (l.getD i DK) p&&(decide (tM l p i<0)||decide ((l.getD i DK).1<(l.getD (tM l p i).toNat DK).1))with|true=>exact .inr ⟨i,rfl,by omega⟩|false=>rcases EC l p i with h|⟨n,h,hn⟩;exact .inl h;exact .inr ⟨n,h,by omega⟩
theorem HX {R:Type}(l:List dX)(p:aO)(i:Nat)(hi:i<l.length)(nx:Int×Int→Option R): (aa (cond (zj l[i] p) (cond (decide (tM l p i<0)) (some true) (aa (idx l (tM l p i)) λx4=>some (decide (l[i].1<x4.1)))) (some false)) λq5=>cond q5 (nx ((i:Int),((i+1:Nat):Int))) (nx (tM l p i,((i+1:Nat):Int))))=nx (tM l p (i+1),((i+1:Nat):Int)):=by
 rw[tM,bM hi];cases zj l[i] p with|false=>rfl|true=>?_
 rcases EC l p i with h|⟨n,h,hn⟩;rw[h];rfl;have hl:n<l.length:=by omega
 rw[h,ae (show¬(n:Int)<0 by omega),aX hl];simp only[ai,af,ab,ax,bM hl,a9,cY];cases decide (l[i].1<l[n].1)<;>rfl
def wR (l:List dX)(p:aO):Int:=bif tK l then tM l p l.length else-1
theorem F1 (l:List dX)(p:aO)(h:wR l p≥0):∃n:Nat,wR l p=(n:Int)∧n<l.length:=by unfold wR at h⊢;cases hr:tK l with|false=>rw[hr]at h;simp at h|true=>rw[hr]at h;simp only[ai]at h⊢;rcases EC l p l.length with g|g;omega;exact g
theorem St (l:List dX)(p:aO)(h:l.length≤1000000000):sc l p=some (wR l p):=by
 unfold sc wR;rw[Ir l h,ab];cases tK l with|false=>rfl|true=>?_
 simp only[al,af,ai];refine de (λi=>(tM l p i,(i:Int))) l.length (by omega) (λi nx hi=>?_) (λnx=>?_);simp only[mJ];rw[ah (by omega),aX hi,wrap64 (n:=(i:Int)+1) (by omega) (by omega)];simp only[ai,ab,Sy];exact HX l p i hi nx;simp only[mJ];rw[ae (by omega)];rfl
theorem Tq (l:List dX)(p:aO)(h:l.length≤1000000000):sL l p=some (wR l p):=by
 have hfu:=dI;unfold sL wR;cases hr:tK l with
 |false=>
  obtain⟨f,hf⟩:∃f,fuel=f+1:=⟨fuel-1,by omega⟩
  rw[hf,aH];simp only[jV,Ac l h,hr,ab];cases decide ((0:Int)<(l.length:Int))<;>rfl
 |true=>simp only[ai];refine de (λi=>(tM l p i,(i:Int))) l.length (by omega) (λi nx hi=>?_) (λnx=>?_);simp only[jV,Ac l h,hr];rw[ah (by omega),aX hi,wrap64 (n:=(i:Int)+1) (by omega) (by omega)];simp only[ai,ab,Tt];exact HX l p i hi nx;simp only[jV];rw[ae (by omega)];rfl
def lj (p:aO):Int×Int×Int×Int×Int:=(p.2.2.2.2.2.2.2.2.1,p.2.2.2.2.2.2.1,p.2.2.2.2.2.2.2.1,p.2.2.2.2.2.2.2.2.2.1,p.2.2.2.2.2.2.2.2.2.2.1)
theorem MR (p:aO):sW p=some (lj p):=rfl
theorem NV (p:aO):tk p=some (lj p):=rfl
def amH:Slot:=(0,(0,0,0,0,0),0)
def rO (s:dv)(q:Int)(p:aO):Int:=
 bif !fF s q|| !dW p then-1 else
 bif decide (wR s.1 p≥0) then(bif (s.1.getD (wR s.1 p).toNat DK).2.2.2.2.2.2.2.1==1 then-1 else(s.1.getD (wR s.1 p).toNat DK).2.2.2.2.2.2.2.2) else
 bif decide (findF s.2.1 (lj p)≥0) then(s.2.1.getD (findF s.2.1 (lj p)).toNat amH).2.2 else Af s.2.2 q (lj p)
theorem SG (s:dv)(q:Int)(p:aO)(h1:s.1.length≤1000000000)(h2:s.2.1.length≤1000000000)(h3:s.2.2.2.length≤1000000000):mR s q p=some (rO s q p):=by
 unfold mR rO;rw[B3 s q h1 h2 h3,ab,mH,ab];cases fF s q with|false=>rfl|true=>?_
 cases dW p with|false=>rfl|true=>?_
 simp only[al,af,ab,bK,St s.1 p h1,MR,KD s.2.1 _ h2,MX s.2.2 q _ h3];cases hd:decide (wR s.1 p≥0)with
 |true=>obtain⟨n,hn,hl⟩:=F1 s.1 p (dy hd);simp only[ai,hn,aX hl,ab,ax,bM hl];cases s.1[n].2.2.2.2.2.2.2.1==1<;>rfl
 |false=>
  simp only[af];cases hd2:decide (findF s.2.1 (lj p)≥0)with
  |true=>obtain⟨n,hn,hl⟩:=F0 s.2.1 (lj p) (dy hd2);simp only[ai,hn,aX hl,ab,ax,bM hl]
  |false=>rfl
theorem Tx (s:dv)(q:Int)(p:aO)(h1:s.1.length≤1000000000)(h2:s.2.1.length≤1000000000)(h3:s.2.2.2.length≤1000000000):nu s q p=some (rO s q p):=by
 unfold nu rO;rw[Cx s q h1 h2 h3,ab,nh,ab];cases fF s q with|false=>rfl|true=>?_
 cases dW p with|false=>rfl|true=>?_
 simp only[al,af,ab,bK,Tq s.1 p h1,NV,Lc s.2.1 _,N0 s.2.2 q _ h3];cases hd:decide (wR s.1 p≥0)with
 |true=>obtain⟨n,hn,hl⟩:=F1 s.1 p (dy hd);simp only[ai,hn,aX hl,ab,ax,bM hl];cases s.1[n].2.2.2.2.2.2.2.1==1<;>rfl
 |false=>
  simp only[af];cases hd2:decide (findF s.2.1 (lj p)≥0)with
  |true=>obtain⟨n,hn,hl⟩:=F0 s.2.1 (lj p) (dy hd2);simp only[ai,hn,aX hl,ab,ax,bM hl]
  |false=>rfl
def Pv (d:Ip):Bool:=cx d.1 0 255&&(cx d.2.2.1 0 255&&(cx d.2.2.2.1 0 255&&(cx d.2.1 0 65535&&(cx d.2.2.2.2.1 0 4294967295&&(cx d.2.2.2.2.2.1 0 4294967295&&decide ((d.2.2.2.2.2.2.length:Int)≤380))))))
theorem NX (d:Ip):Ad d=some (Pv d):=by simp only[Ad,cc,ab,aZ,cF,Pv]
theorem UN (d:Ip):C0 d=some (Pv d):=NX d
def Gq (d:Ip):Bytes:=((((((bs2 69 (eo d.1)++db (20+(d.2.2.2.2.2.2.length:Int)))++db d.2.1)++db 16384)++bs2 (eo d.2.2.1) (eo d.2.2.2.1))++db 0)++eB d.2.2.2.2.1)++eB d.2.2.2.2.2.1
theorem Gr (d:Ip):(Gq d).length≤20:=by have:=br (20+(d.2.2.2.2.2.2.length:Int));have:=br d.2.1;have:=br 16384;have:=br 0;have:=cA d.2.2.2.2.1;have:=cA d.2.2.2.2.2.1;simp only[Gq,ak,Js];omega
def Gp (d:Ip):Bytes:=Ck (Gq d) 10 (db (OR (Gq d)))
theorem P9 (d:Ip):sN d=some (bif Pv d then(Gp d,true) else([],false)):=by
 unfold sN;rw[NX,ab];cases hd:Pv d with|false=>rfl|true=>?_
 have hn:(d.2.2.2.2.2.2.length:Int)≤380:=by simp only[Pv,aj,aK]at hd;omega
 have:=br (20+(d.2.2.2.2.2.2.length:Int));have:=br d.2.1;have:=br 16384;have:=br 0;have:=cA d.2.2.2.2.1;have:=cA d.2.2.2.2.2.1;have hl:=Gr d;have e:∀x y,(bytesOf [x,y]).length=2:=λ_ _=>rfl;rw[wrap64 (n:=20+(d.2.2.2.2.2.2.length:Int)) (by omega) (by omega)];simp only[ky,je,ab,al,af,ai];rw[aJ (by simp only[ak,e];omega),aJ (by simp only[ak,e];omega),aJ (by simp only[ak,e];omega),aJ (by simp only[ak,e];omega),aJ (by simp only[ak,e];omega),aJ (by simp only[ak,e];omega),aJ (by simp only[ak,e];omega)];have hp:((((((bytesOf [69,eo d.1]++db (20+(d.2.2.2.2.2.2.length:Int)))++db d.2.1)++db 16384)++bytesOf [eo d.2.2.1,eo d.2.2.2.1])++db 0)++eB d.2.2.2.2.1)++eB d.2.2.2.2.2.1=Gq d:=rfl;rw[hp,K9 _ (by omega),ab,Er _ _ _ (by omega)];rfl
theorem Pj (d:Ip):sf d=some (bif Pv d then(Gp d,true) else([],false)):=by
 unfold sf;rw[UN,ab];cases hd:Pv d with|false=>rfl|true=>?_
 have hn:(d.2.2.2.2.2.2.length:Int)≤380:=by simp only[Pv,aj,aK]at hd;omega
 have:=br (20+(d.2.2.2.2.2.2.length:Int));have:=br d.2.1;have:=br 16384;have:=br 0;have:=cA d.2.2.2.2.1;have:=cA d.2.2.2.2.2.1;have hl:=Gr d;have hw:=br (OR (Gq d));have e:∀x y,(bytesOf [x,y]).length=2:=λ_ _=>rfl;rw[wrap64 (n:=20+(d.2.2.2.2.2.2.length:Int)) (by omega) (by omega)];simp only[pa,pb,ab,al,af,ai];rw[aJ (by simp only[ak,e];omega),aJ (by simp only[ak,e];omega),aJ (by simp only[ak,e];omega),aJ (by simp only[ak,e];omega),aJ (by simp only[ak,e];omega),aJ (by simp only[ak,e];omega),aJ (by simp only[ak,e];omega)];have hp:((((((bytesOf [69,eo d.1]++db (20+(d.2.2.2.2.2.2.length:Int)))++db d.2.1)++db 16384)++bytesOf [eo d.2.2.1,eo d.2.2.2.1])++db 0)++eB d.2.2.2.2.1)++eB d.2.2.2.2.2.1=Gq d:=rfl;rw[hp,Rb _ (by omega),ab,KG _ _ _ (by omega) (by omega)];rfl
def Oz (d:Ip):Bytes×Bool:=bif Pv d then(Gp d++d.2.2.2.2.2.2,true) else([],false)
theorem C2 (d:Ip):(Gp d).length≤20:=by unfold Gp;rw[NB];exact Gr d
theorem VK (d:Ip):qS d=some (Oz d):=by
 unfold qS Oz;rw[P9,ab];cases hd:Pv d with|false=>rfl|true=>?_
 have hn:(d.2.2.2.2.2.2.length:Int)≤380:=by simp only[Pv,aj,aK]at hd;omega
 have:=C2 d;simp only[ai,al,af];rw[aJ (by omega)]
theorem UM (d:Ip):pO d=some (Oz d):=by
 unfold pO Oz;rw[Pj,ab];cases hd:Pv d with|false=>rfl|true=>?_
 have hn:(d.2.2.2.2.2.2.length:Int)≤380:=by simp only[Pv,aj,aK]at hd;omega
 have:=C2 d;simp only[ai,al,af];rw[aJ (by omega)]
def Oy (n:Nat):Bytes:=bytesOf (List.replicate n (0:Int))
theorem Ds (n:Nat):(Oy n).length=n:=by simp[Oy,bytesOf]
theorem VL (n:Nat)(h:n≤1000000000):uw (n:Int) 0=some (Oy n):=by unfold uw;rw[ay (by omega),aJ (by rw[ax];omega),ax];refine de (λi=>(List.replicate n (0:Int),(i:Int))) n (by omega) (λi nx hi=>?_) (λnx=>?_);simp only[oS];rw[ah (by omega),aX (by simpa using hi),wrap64 (by omega) (by omega)];simp only[ai,ab,ax,List.set_replicate_self];rfl;simp only[oS];rw[ae (by omega)];rfl
theorem Yv (n:Nat)(h:n≤1000000000):vQ 0 (n:Int)=some (Oy n):=by unfold vQ;rw[ay (by omega),aJ (by rw[ax];omega),ax];refine de (λi=>(List.replicate n (0:Int),(i:Int))) n (by omega) (λi nx hi=>?_) (λnx=>?_);simp only[qc];rw[ah (by simp;omega),aX (by simpa using hi),wrap64 (by omega) (by omega)];simp only[ai,ab,ax,List.set_replicate_self];rfl;simp only[qc];rw[ae (by simp)];rfl
def pad (s:Bytes):Bytes:=if s.length<46 then s++Oy (46-s.length) else s
theorem Rt (s:Bytes):(pad s).length=max 46 s.length:=by unfold pad;split;simp only[ak,Ds];omega;omega
theorem YZ (s:Bytes)(h:s.length≤1000000000):uu s=some (pad s):=by unfold uu pad;by_cases hc:s.length<46;rw[ah (by omega),ay hc,wrap64 (by omega) (by omega),show(46:Int)-(s.length:Int)=((46-s.length:Nat):Int) by omega,VL _ (by omega)];simp only[ai,ab];rw[aJ (by rw[Ds];omega)];rw[ae (by omega),ao hc];rfl
theorem Yt (s:Bytes)(h:s.length≤1000000000):tX s=some (pad s):=by unfold tX pad;by_cases hc:s.length<46;rw[ae (by omega),ay hc,wrap64 (by omega) (by omega),show(46:Int)-(s.length:Int)=((46-s.length:Nat):Int) by omega,Yv _ (by omega)];simp only[af,ab];rw[aJ (by rw[Ds];omega)];rw[ah (by omega),ao hc];rfl
def wx (e:Hq):Bool:=cx e.1 0 281474976710655&&(cx e.2.1 0 281474976710655&&(cx e.2.2.1 (-1) 4095&&(cx e.2.2.2.1 1536 65535&&((e.2.2.2.1 !=33024)&&cx (e.2.2.2.2.length:Int) 46 400))))
theorem Dp (e:Hq):rN e=some (wx e):=by simp only[rN,cc,ab,aZ,cF,wx]
theorem Il (e:Hq):uX e=some (wx e):=Dp e
def ZC (a:Int):Bytes:=(gz a).getD []
theorem wj (a:Int):gz a=some (ZC a)∧(ZC a).length≤6:=by
 have h:∃x,gz a=some x∧x.length≤6:=by unfold gz;rw[ao (by omega)];simp only[ky,je,ab];have h1:=br (Int.fdiv a (2^(min (Int.toNat 32) (IntKind.bits .i64))));have h2:=cA (aq (BitVec.toNat (BitVec.ofInt (IntKind.bits .i64) a&&&BitVec.ofInt (IntKind.bits .i64) 4294967295)));rw[aJ (by omega)];exact⟨_,rfl,by simp only[ak];omega⟩
 obtain⟨x,hx,hl⟩:=h;unfold ZC;rw[hx];exact⟨rfl,hl⟩
theorem Ys (a:Int):sr a=some (ZC a):=(wj a).1
def Mp (e:Hq):Bytes:=(bif decide (e.2.2.1≥0) then(((ZC e.1++ZC e.2.1)++db 33024)++db e.2.2.1) else ZC e.1++ZC e.2.1)++db e.2.2.2.1++e.2.2.2.2
theorem Ul (e:Hq):(Mp e).length≤18+e.2.2.2.2.length:=by have:=(wj e.1).2;have:=(wj e.2.1).2;have:=br 33024;have:=br e.2.2.1;have:=br e.2.2.2.1;unfold Mp;cases decide (e.2.2.1≥0)<;>simp only[ai,af,ak]<;>omega
def O4 (e:Hq):Bytes×Bool:=bif wx e then(Mp e,true) else([],false)
theorem YY (e:Hq):sI e=some (O4 e):=by
 unfold sI O4;rw[Dp,ab];cases he:wx e with|false=>rfl|true=>?_
 have hn:(e.2.2.2.2.length:Int)≤400:=by simp only[wx,aj,bW]at he;omega
 have:=(wj e.1).2;have:=(wj e.2.1).2;have:=br 33024;have:=br e.2.2.1;have:=br e.2.2.2.1;simp only[(wj _).1,ky,ab,al,af,ai,Mp];rw[aJ (by omega)];cases decide (e.2.2.1≥0)with|true=>simp only[ai];rw[aJ (by simp only[ak];omega),aJ (by simp only[ak];omega),aJ (by simp only[ak];omega),aJ (by simp only[ak];omega)]|false=>simp only[af];rw[aJ (by simp only[ak];omega),aJ (by simp only[ak];omega)]
theorem Yr (e:Hq):rY e=some (O4 e):=by
 unfold rY O4;rw[Il,ab];cases he:wx e with|false=>rfl|true=>?_
 have hn:(e.2.2.2.2.length:Int)≤400:=by simp only[wx,aj,bW]at he;omega
 have:=(wj e.1).2;have:=(wj e.2.1).2;have:=br 33024;have:=br e.2.2.1;have:=br e.2.2.2.1;simp only[Ys,pa,ab,al,af,ai,Mp];rw[aJ (by omega)];cases decide (e.2.2.1≥0)with|true=>simp only[ai];rw[aJ (by omega),aJ (by simp only[ak];omega),aJ (by simp only[ak];omega),aJ (by simp only[ak];omega)];simp only[aG]|false=>simp only[af];rw[aJ (by simp only[ak];omega),aJ (by simp only[ak];omega)]
def YU (p:aO):Bytes×Bool:=wI p.2.2.2.2.2.2.1 p.2.2.2.2.2.2.2.1 p.2.2.2.2.2.2.2.2
def XZ (p:aO):Bytes×Bool:=Oz (p.2.2.2.1,p.2.2.2.2.1,p.2.2.2.2.2.1,p.2.2.2.2.2.2.2.2.1,p.2.2.2.2.2.2.1,p.2.2.2.2.2.2.2.1,(YU p).1)
def aaX (p:aO):Bytes×Bool:=O4 (p.1,p.2.1,p.2.2.1,2048,pad (XZ p).1)
def eh (p:aO):Bytes×Bool:=bif dW p then aaX p else([],false)
theorem KJ (p:aO):(XZ p).1.length≤360:=by have h1:=YV p.2.2.2.2.2.2.1 p.2.2.2.2.2.2.2.1 p.2.2.2.2.2.2.2.2;unfold XZ Oz;cases Pv (p.2.2.2.1,p.2.2.2.2.1,p.2.2.2.2.2.1,p.2.2.2.2.2.2.2.2.1,p.2.2.2.2.2.2.1,p.2.2.2.2.2.2.2.1,(YU p).1)with|false=>exact dM _|true=>have h2:=C2 (p.2.2.2.1,p.2.2.2.2.1,p.2.2.2.2.2.1,p.2.2.2.2.2.2.2.2.1,p.2.2.2.2.2.2.1,p.2.2.2.2.2.2.2.1,(YU p).1);have h3:(YU p).1.length≤340:=h1;simp only[ai,ak];omega
theorem IZ (p:aO):kQ p=some (eh p):=by have hl:=KJ p;unfold kQ eh;simp only[nh,zw,VK,ab];rw[show(Oz (p.2.2.2.1,p.2.2.2.2.1,p.2.2.2.2.2.1,p.2.2.2.2.2.2.2.2.1,p.2.2.2.2.2.2.1,p.2.2.2.2.2.2.2.1,(wI p.2.2.2.2.2.2.1 p.2.2.2.2.2.2.2.1 p.2.2.2.2.2.2.2.2).1))=XZ p from rfl,YZ _ (by omega),ab,YY];cases dW p<;>rfl
theorem Io (p:aO):kH p=some (eh p):=by have hl:=KJ p;unfold kH eh;simp only[mH,yZ,UM,ab];rw[show(Oz (p.2.2.2.1,p.2.2.2.2.1,p.2.2.2.2.2.1,p.2.2.2.2.2.2.2.2.1,p.2.2.2.2.2.2.1,p.2.2.2.2.2.2.2.1,(wI p.2.2.2.2.2.2.1 p.2.2.2.2.2.2.2.1 p.2.2.2.2.2.2.2.2).1))=XZ p from rfl,Yt _ (by omega),ab,Yr];cases dW p<;>rfl
theorem Ik {p:aO}(h:dW p=true):(eh p).2=true:=by
 have hl:=KJ p;have hh:yp p=true:=by simp only[dW,aj]at h;exact h.1
 have hp:=Rt (XZ p).1;unfold eh aaX O4;rw[h,ai];have:wx (p.1,p.2.1,p.2.2.1,2048,pad (XZ p).1)=true:=by simp only[yp,aj]at hh;simp only[wx,aj];refine⟨hh.1,hh.2.1,hh.2.2.1,by decide,by decide,bW.2 ?_⟩;omega
 rw[this];rfl
theorem CY (p:aO):(eh p).1.length≤378:=by have hl:=KJ p;have hp:=Rt (XZ p).1;unfold eh aaX O4;cases dW p with|false=>exact dM _|true=>cases wx (p.1,p.2.1,p.2.2.1,2048,pad (XZ p).1)with|false=>exact dM _|true=>have:=Ul (p.1,p.2.1,p.2.2.1,2048,pad (XZ p).1);simp only[ai]at this⊢;omega
def fcs (c:Int):Bytes:=bytesOf [eo c,eo (Int.fdiv c (2^(min (Int.toNat 8) (IntKind.bits .i64)))),eo (Int.fdiv c (2^(min (Int.toNat 16) (IntKind.bits .i64)))),eo (Int.fdiv c (2^(min (Int.toNat 24) (IntKind.bits .i64))))]
def wq (s:Bytes):Bytes:=s++fcs (H4 s)
theorem Ym (c:Int):(fcs c).length=4:=rfl
theorem RI (s:Bytes)(h:s.length≤1000000000):rl s=some (wq s):=by unfold rl;rw[RG s h,ab,ao (by omega),ao (by omega),ao (by omega)];exact aJ (by show s.length+4≤_;omega)
theorem Re (s:Bytes)(h:s.length≤1000000000):p7 s=some (wq s):=by unfold p7;rw[Rc s h,ab,ao (by omega),ao (by omega),ao (by omega)];exact aJ (by show s.length+4≤_;omega)
def eF (p:aO):Bool:=dW p&&decide ((p.2.2.2.2.2.2.2.2.2.2.2.2.2.2.2.length:Int)≤128)
theorem vB (p:aO):gT p=some (eF p):=by simp only[gT,nh,ab,aZ,cF,eF]
theorem uV (p:aO):gP p=some (eF p):=by simp only[gP,mH,ab,aZ,cF,eF]
def xt (p:aO):Bytes×Bool:=bif eF p then(wq (eh p).1,true) else([],false)
theorem Tr (p:aO):oJ p=some (xt p):=by have hl:=CY p;simp only[oJ,vB,IZ,RI _ (show(eh p).1.length≤1000000000 by omega),ab,xt];cases eF p<;>rfl
theorem Sv (p:aO):ox p=some (xt p):=by
 have hl:=CY p;simp only[ox,uV,Io,Re _ (show(eh p).1.length≤1000000000 by omega),ab,xt];cases hp:eF p with
 |false=>rfl
 |true=>
  have:dW p=true:=by simp only[eF,aj]at hp;exact hp.1
  rw[Ik this];rfl
theorem CX (p:aO):(xt p).1.length≤382:=by have hl:=CY p;unfold xt;cases eF p with|false=>exact dM _|true=>simp only[ai,wq,ak,Ym];omega
theorem G9 {p:aO}(h:dW p=true):p.2.2.2.2.2.2.2.2.2.2.2.2.2.2.2.length≤320:=by
 have hh:yp p=true:=by simp only[dW,aj]at h;exact h.1
 exact Cn (BR hh)
theorem BO {s:Bytes}{a:Int}(h0:0≤a)(h:a+2≤(s.length:Int)):0≤cB s a∧cB s a≤65535:=by have h1:=dc s a.toNat;have h2:=dc s (a.toNat+1);unfold cB dE;rw[ah ⟨h0,h⟩];simp only[ai];omega
theorem BP {s:Bytes}{a:Int}(h0:0≤a)(h:a+4≤(s.length:Int)):0≤dZ s a∧dZ s a≤4294967295:=by have h1:=dc s a.toNat;have h2:=dc s (a.toNat+1);have h3:=dc s (a.toNat+2);have h4:=dc s (a.toNat+3);unfold dZ dE;rw[ah ⟨h0,h⟩];simp only[ai];omega
theorem U5 {x y:Int}(hx:0≤x∧x≤65535)(hy:0≤y∧y≤4294967295):aq (BitVec.toNat (BitVec.ofInt (IntKind.bits .i64) (aq (x*2^(min (Int.toNat 32) (IntKind.bits .i64))))|||BitVec.ofInt (IntKind.bits .i64) y))=x*4294967296+y:=by have e:(2:Int)^(min (Int.toNat 32) (IntKind.bits .i64))=4294967296:=rfl;obtain⟨x,rfl⟩:=aM hx.1;obtain⟨y,rfl⟩:=aM hy.1;rw[e,wrap64 (n:=(x:Int)*4294967296) (by omega) (by omega),show(x:Int)*4294967296=((2^32*x:Nat):Int) by omega,Bk x 32 y (by omega) (by omega)];omega
theorem Rm {x y:Int}(hx:0≤x∧x≤65535)(hy:0≤y∧y≤4294967295):aq (aq (x*2^(min (Int.toNat 32) (IntKind.bits .i64)))+y)=x*4294967296+y:=by have e:(2:Int)^(min (Int.toNat 32) (IntKind.bits .i64))=4294967296:=rfl;rw[e,wrap64 (n:=x*4294967296) (by omega) (by omega),wrap64 (by omega) (by omega)]
theorem Es {α:Type}{l:List α}{n:Int}(h0:0≤n)(h1:n≤(l.length:Int)):sub l 0 n=some (l.take n.toNat):=by unfold sub;rw[ay (by omega)];simp
theorem wo {α:Type}{l:List α}(k:Nat)(h:k≤l.length){a:Int}(ha:a=(k:Int)):sub l a (l.length:Int)=some (l.drop k):=by unfold sub;rw[ay (by omega)];subst ha;simp
theorem RN {α:Type}{l:List α}(k:Nat){a n:Int}(ha:a=(k:Int))(h0:a≤n)(h1:n≤(l.length:Int)):sub l a n=some ((l.take n.toNat).drop k):=by unfold sub;rw[ay (by omega)];subst ha;simp
def xl (s:Bytes):Bytes×Bool:=bif decide ((s.length:Int)<4) then([],false) else bif wq (s.take ((s.length:Int)-4).toNat)==s then(s.take ((s.length:Int)-4).toNat,true) else([],false)
theorem P6 (s:Bytes)(h:s.length≤1000000000):sJ s=some (xl s):=by unfold sJ xl;rw[wrap64 (n:=(s.length:Int)-4) (by omega) (by omega)];by_cases h4:(s.length:Int)<4;rw[ah h4];rfl;rw[ae h4,Es (by omega) (by omega)];simp only[af,ab,RI _ (show(s.take ((s.length:Int)-4).toNat).length≤1000000000 by rw[bf];omega)];cases wq (s.take ((s.length:Int)-4).toNat)==s<;>rfl
theorem Pf (s:Bytes)(h:s.length≤1000000000):rZ s=some (xl s):=by unfold rZ xl;rw[wrap64 (n:=(s.length:Int)-4) (by omega) (by omega)];by_cases h4:(s.length:Int)<4;rw[ah (show(s.length:Int)-4<0 by omega),ah h4];rfl;rw[ae (show¬(s.length:Int)-4<0 by omega),ae h4,Es (by omega) (by omega)];simp only[af,ab,Re _ (show(s.take ((s.length:Int)-4).toNat).length≤1000000000 by rw[bf];omega)];cases wq (s.take ((s.length:Int)-4).toNat)==s<;>rfl
def Uk:Hq:=(0,0,0,0,([]:Bytes))
def Rl (s:Bytes)(a:Int):Int:=cB s a*4294967296+dZ s (a+2)
def Mi (s:Bytes):Hq:=(Rl s 0,Rl s 6,cB s 14,cB s 16,s.drop 18)
def Av (s:Bytes):Hq:=(Rl s 0,Rl s 6, -1,cB s 12,s.drop 14)
def qO (s:Bytes):Hq×Bool:=bif decide ((s.length:Int)<18) then(Uk,false) else
 bif cB s 12==33024 then(bif wx (Mi s) then(Mi s,true) else(Uk,false)) else bif wx (Av s) then(Av s,true) else(Uk,false)
theorem Ld (s:Bytes)(h:s.length≤1000000000):sO s=some (qO s):=by unfold sO qO;by_cases h8:(s.length:Int)<18;rw[ah h8];rfl;rw[ae h8];simp only[af,rM s _ h,uK s _ h,ab];rw[ao (by omega),ao (by omega),wo (l:=s) 14 (by omega) (show(14:Int)=((14:Nat):Int) from rfl),ab,wo (l:=s) 18 (by omega) (show(18:Int)=((18:Nat):Int) from rfl)];rw[Rm (BO (s:=s) (a:=0) (by omega) (by omega)) (BP (s:=s) (a:=2) (by omega) (by omega)),Rm (BO (s:=s) (a:=6) (by omega) (by omega)) (BP (s:=s) (a:=8) (by omega) (by omega))];simp only[ab,Dp];rw[show((cB s 0*4294967296+dZ s 2,cB s 6*4294967296+dZ s 8,cB s 14,cB s 16,s.drop 18):Hq)=Mi s from rfl,show((cB s 0*4294967296+dZ s 2,cB s 6*4294967296+dZ s 8, -1,cB s 12,s.drop 14):Hq)=Av s from rfl];cases cB s 12==33024<;>cases wx (Mi s)<;>cases wx (Av s)<;>rfl
theorem KE (s:Bytes)(h:s.length≤1000000000):sg s=some (qO s):=by
 unfold sg qO;by_cases h4:(s.length:Int)<14;rw[ah h4,ah (show(s.length:Int)<18 by omega)];rfl;rw[ae h4];simp only[af,zQ s _ h,wS s _ h,ab];rw[ao (by omega),ao (by omega),wo (l:=s) 14 (by omega) (show(14:Int)=((14:Nat):Int) from rfl),ab];rw[U5 (BO (s:=s) (a:=0) (by omega) (by omega)) (BP (s:=s) (a:=2) (by omega) (by omega)),U5 (BO (s:=s) (a:=6) (by omega) (by omega)) (BP (s:=s) (a:=8) (by omega) (by omega))];simp only[ab,Il];rw[show((cB s 0*4294967296+dZ s 2,cB s 6*4294967296+dZ s 8, -1,cB s 12,s.drop 14):Hq)=Av s from rfl];by_cases h8:(s.length:Int)<18;have hB:wx (Av s)=false:=by
  unfold wx Av;have:cx ((s.drop 14).length:Int) 46 400=false:=by rw[Bool.eq_false_iff,ne_eq,bW,bd];omega
  simp only[this,gi]
 rw[ah h8,ae (show¬(s.length:Int)≥18 by omega),hB];cases cB s 12==33024<;>rfl;rw[ae h8,ah (show(s.length:Int)≥18 by omega),wo (l:=s) 18 (by omega) (show(18:Int)=((18:Nat):Int) from rfl)];simp only[ab];rw[show((cB s 0*4294967296+dZ s 2,cB s 6*4294967296+dZ s 8,cB s 14,cB s 16,s.drop 18):Hq)=Mi s from rfl];cases cB s 12==33024<;>cases wx (Mi s)<;>cases wx (Av s)<;>rfl
def ip0:Ip:=(0,0,0,0,0,0,([]:Bytes))
def B9 (s:Bytes):Ip:=((bV s 1:Int),cB s 4,(bV s 8:Int),(bV s 9:Int),dZ s 12,dZ s 16,(s.take (cB s 2).toNat).drop 20)
def uj (s:Bytes):Ip×Bool:=bif decide ((s.length:Int)<20)||(decide (cB s 2<20)||decide (cB s 2>(s.length:Int))) then(ip0,false) else
 bif (Oz (B9 s)).2&&((Oz (B9 s)).1==s.take (cB s 2).toNat) then(B9 s,true) else(ip0,false)
theorem NZ (s:Bytes)(h:s.length≤1000000000):uv s=some (uj s):=by
 unfold uv uj;simp only[rM s _ h,uK s _ h,ab];by_cases h1:(s.length:Int)<20;rw[ah h1];rfl;by_cases h2:cB s 2<20;rw[ae h1,ah h2];rfl;by_cases h3:cB s 2>(s.length:Int);rw[ae h1,ae h2,ah h3];rfl;rw[ae h1,ae h2,ae h3];have b1:=iy (s[1]'(by omega));have b8:=iy (s[8]'(by omega));have b9:=iy (s[9]'(by omega));have i1:idx s 1=some (s[1]'(by omega)):=aX (i:=1) (by omega);have i8:idx s 8=some (s[8]'(by omega)):=aX (i:=8) (by omega);have i9:idx s 9=some (s[9]'(by omega)):=aX (i:=9) (by omega);simp only[af,ab,bK,i1,i8,i9];rw[RN (l:=s) 20 (show(20:Int)=((20:Nat):Int) from rfl) (by omega) (by omega),Es (by omega) (by omega),fE (n:=(s[1]'(by omega)).toNat) (by omega),fE (n:=(s[8]'(by omega)).toNat) (by omega),fE (n:=(s[9]'(by omega)).toNat) (by omega)];have e:(((s[1]'(by omega)).toNat:Int),cB s 4,((s[8]'(by omega)).toNat:Int),((s[9]'(by omega)).toNat:Int),dZ s 12,dZ s 16,(s.take (cB s 2).toNat).drop 20)=B9 s:=by simp only[B9,bV,bM (show 1<s.length by omega),bM (show 8<s.length by omega),bM (show 9<s.length by omega)]
 simp only[ab,e,VK];cases (Oz (B9 s)).2<;>cases (Oz (B9 s)).1==s.take (cB s 2).toNat<;>rfl
theorem MU (s:Bytes)(h:s.length≤1000000000):tY s=some (uj s):=by
 unfold tY uj;simp only[zQ s _ h,wS s _ h,ab];by_cases h1:(s.length:Int)<20;rw[ah h1];rfl;by_cases h2:cB s 2<20;rw[ae h1,ah h2];rfl;by_cases h3:cB s 2>(s.length:Int);rw[ae h1,ae h2,ah h3];rfl;rw[ae h1,ae h2,ae h3];have b1:=iy (s[1]'(by omega));have b8:=iy (s[8]'(by omega));have b9:=iy (s[9]'(by omega));have i1:idx s 1=some (s[1]'(by omega)):=aX (i:=1) (by omega);have i8:idx s 8=some (s[8]'(by omega)):=aX (i:=8) (by omega);have i9:idx s 9=some (s[9]'(by omega)):=aX (i:=9) (by omega);simp only[af,ab,bK,i1,i8,i9];rw[RN (l:=s) 20 (show(20:Int)=((20:Nat):Int) from rfl) (by omega) (by omega),Es (by omega) (by omega),fE (n:=(s[1]'(by omega)).toNat) (by omega),fE (n:=(s[8]'(by omega)).toNat) (by omega),fE (n:=(s[9]'(by omega)).toNat) (by omega)];have e:(((s[1]'(by omega)).toNat:Int),cB s 4,((s[8]'(by omega)).toNat:Int),((s[9]'(by omega)).toNat:Int),dZ s 12,dZ s 16,(s.take (cB s 2).toNat).drop 20)=B9 s:=by simp only[B9,bV,bM (show 1<s.length by omega),bM (show 8<s.length by omega),bM (show 9<s.length by omega)]
 simp only[ab,e,UM];cases (Oz (B9 s)).2<;>cases (Oz (B9 s)).1==s.take (cB s 2).toNat<;>rfl
def ae2:cI:=(0,0,0,0,0,0,0,([]:Bytes))
def GV (k:Int)(s:Bytes):cI:=(k,cB s 0,cB s 2,dZ s 4,dZ s 8,(bV s 13:Int),cB s 14,s.drop 20)
def K5 (k:Int)(s:Bytes):cI:=(k,cB s 0,cB s 2,0,0,0,0,s.drop 8)
def vo (a b k:Int)(s:Bytes):cI×Bool:=
 bif (k==6)&&decide ((s.length:Int)≥20) then(bif (wI a b (GV k s)).2&&((wI a b (GV k s)).1==s) then(GV k s,true) else(ae2,false)) else
 bif (k==17)&&decide ((s.length:Int)≥8) then(bif (wI a b (K5 k s)).2&&((wI a b (K5 k s)).1==s) then(K5 k s,true) else(ae2,false)) else(ae2,false)
theorem Lf (a b k:Int)(s:Bytes)(h:s.length≤1000000000):lL a b k s=some (vo a b k s):=by
 unfold lL vo;simp only[rM s _ h,uK s _ h,ab];rw[show(aa (cond (k==6) (some (decide ((s.length:Int)≥20))) (some false)):(Bool→Option (cI×Bool))→Option (cI×Bool))=λK=>K ((k==6)&&decide ((s.length:Int)≥20)) from by funext K;cases k==6<;>rfl];rw[show(aa (cond (k==17) (some (decide ((s.length:Int)≥8))) (some false)):(Bool→Option (cI×Bool))→Option (cI×Bool))=λK=>K ((k==17)&&decide ((s.length:Int)≥8)) from by funext K;cases k==17<;>rfl];simp only;cases h1:(k==6)&&decide ((s.length:Int)≥20)with
 |true=>
  simp only[aj,aK]at h1;have bb:=iy (s[13]'(by omega));have i:idx s 13=some (s[13]'(by omega)):=aX (i:=13) (by omega);have e:(k,cB s 0,cB s 2,dZ s 4,dZ s 8,((s[13]'(by omega)).toNat:Int),cB s 14,s.drop 20)=GV k s:=by simp only[GV,bV,bM (show 13<s.length by omega)]
  simp only[ai,i,ab];rw[wo (l:=s) 20 (by omega) (show(20:Int)=((20:Nat):Int) from rfl),fE (n:=(s[13]'(by omega)).toNat) (by omega)];simp only[ab,e,zw];cases (wI a b (GV k s)).2<;>cases (wI a b (GV k s)).1==s<;>rfl
 |false=>simp only[af];cases h2:(k==17)&&decide ((s.length:Int)≥8)with|false=>rfl|true=>simp only[aj,aK]at h2;rw[wo (l:=s) 8 (by omega) (show(8:Int)=((8:Nat):Int) from rfl)];simp only[ai,ab,show((k,cB s 0,cB s 2,0,0,0,0,s.drop 8):cI)=K5 k s from rfl,zw];cases (wI a b (K5 k s)).2<;>cases (wI a b (K5 k s)).1==s<;>rfl
theorem KF (a b k:Int)(s:Bytes)(h:s.length≤1000000000):ly a b k s=some (vo a b k s):=by
 unfold ly vo;simp only[zQ s _ h,wS s _ h,ab];rw[show(aa (cond (k==6) (some (decide ((s.length:Int)≥20))) (some false)):(Bool→Option (cI×Bool))→Option (cI×Bool))=λK=>K ((k==6)&&decide ((s.length:Int)≥20)) from by funext K;cases k==6<;>rfl];rw[show(aa (cond (k==17) (some (decide ((s.length:Int)≥8))) (some false)):(Bool→Option (cI×Bool))→Option (cI×Bool))=λK=>K ((k==17)&&decide ((s.length:Int)≥8)) from by funext K;cases k==17<;>rfl];simp only;cases h1:(k==6)&&decide ((s.length:Int)≥20)with
 |true=>
  simp only[aj,aK]at h1;have bb:=iy (s[13]'(by omega));have i:idx s 13=some (s[13]'(by omega)):=aX (i:=13) (by omega);have e:(k,cB s 0,cB s 2,dZ s 4,dZ s 8,((s[13]'(by omega)).toNat:Int),cB s 14,s.drop 20)=GV k s:=by simp only[GV,bV,bM (show 13<s.length by omega)]
  simp only[ai,i,ab];rw[wo (l:=s) 20 (by omega) (show(20:Int)=((20:Nat):Int) from rfl),fE (n:=(s[13]'(by omega)).toNat) (by omega)];simp only[ab,e,yZ];cases (wI a b (GV k s)).2<;>cases (wI a b (GV k s)).1==s<;>rfl
 |false=>simp only[af];cases h2:(k==17)&&decide ((s.length:Int)≥8)with|false=>rfl|true=>simp only[aj,aK]at h2;rw[wo (l:=s) 8 (by omega) (show(8:Int)=((8:Nat):Int) from rfl)];simp only[ai,ab,show((k,cB s 0,cB s 2,0,0,0,0,s.drop 8):cI)=K5 k s from rfl,yZ];cases (wI a b (K5 k s)).2<;>cases (wI a b (K5 k s)).1==s<;>rfl
def ZD:aO:=(0,0,0,0,0,0,0,0,0,0,0,0,0,0,0,([]:Bytes))
def GM (s:Bytes):aO×Int:=
 let e:=qO s
 bif !e.2||(e.1.2.2.2.1 !=2048) then(ZD,2) else
 let i:=uj e.1.2.2.2.2
 bif !i.2 then(ZD,3) else
 let g:=vo i.1.2.2.2.2.1 i.1.2.2.2.2.2.1 i.1.2.2.2.1 i.1.2.2.2.2.2.2
 bif !g.2 then(ZD,4) else
 bif !dW (e.1.1,e.1.2.1,e.1.2.2.1,i.1.1,i.1.2.1,i.1.2.2.1,i.1.2.2.2.2.1,i.1.2.2.2.2.2.1,g.1) then(ZD,5) else
 ((e.1.1,e.1.2.1,e.1.2.2.1,i.1.1,i.1.2.1,i.1.2.2.1,i.1.2.2.2.2.1,i.1.2.2.2.2.2.1,g.1),0)
theorem Ci (s:Bytes):(qO s).1.2.2.2.2.length≤s.length:=by
 unfold qO;cases decide ((s.length:Int)<18)with|true=>simp[Uk]|false=>?_
 cases cB s 12==33024<;>cases wx (Mi s)<;>cases wx (Av s)<;>simp[Uk,Mi,Av]
theorem DH (s:Bytes):(uj s).1.2.2.2.2.2.2.length≤s.length:=by
 unfold uj;cases decide ((s.length:Int)<20)||(decide (cB s 2<20)||decide (cB s 2>(s.length:Int)))with|true=>simp[ip0]|false=>?_
 cases (Oz (B9 s)).2&&((Oz (B9 s)).1==s.take (cB s 2).toNat)with|false=>simp[ip0]|true=>simp[B9];omega
theorem Tw (s:Bytes)(h:s.length≤1000000000):rh s=some (GM s):=by
 have h1:=Ci s;unfold rh GM;rw[Ld s h,ab];generalize qO s=e at h1⊢;have h2:=DH e.1.2.2.2.2;simp only;cases e.2 with|false=>rfl|true=>?_
 cases e.1.2.2.2.1 !=2048 with|true=>rfl|false=>?_
 simp only[al,af,ab,bK,NZ _ (show e.1.2.2.2.2.length≤1000000000 by omega)];generalize uj e.1.2.2.2.2=i at h2⊢;cases i.2 with|false=>rfl|true=>?_
 simp only[al,af,ab,Lf _ _ _ _ (show i.1.2.2.2.2.2.2.length≤1000000000 by omega)];generalize vo i.1.2.2.2.2.1 i.1.2.2.2.2.2.1 i.1.2.2.2.1 i.1.2.2.2.2.2.2=g;cases g.2 with|false=>rfl|true=>?_
 simp only[al,af,ab,nh];cases dW (e.1.1,e.1.2.1,e.1.2.2.1,i.1.1,i.1.2.1,i.1.2.2.1,i.1.2.2.2.2.1,i.1.2.2.2.2.2.1,g.1)<;>rfl
theorem SC (s:Bytes)(h:s.length≤1000000000):p5 s=some (GM s):=by
 have h1:=Ci s;unfold p5 GM;rw[KE s h,ab];generalize qO s=e at h1⊢;have h2:=DH e.1.2.2.2.2;simp only;cases e.2 with|false=>rfl|true=>?_
 cases e.1.2.2.2.1 !=2048 with|true=>rfl|false=>?_
 simp only[al,af,ab,bK,MU _ (show e.1.2.2.2.2.length≤1000000000 by omega)];generalize uj e.1.2.2.2.2=i at h2⊢;cases i.2 with|false=>rfl|true=>?_
 simp only[al,af,ab,KF _ _ _ _ (show i.1.2.2.2.2.2.2.length≤1000000000 by omega)];generalize vo i.1.2.2.2.2.1 i.1.2.2.2.2.2.1 i.1.2.2.2.1 i.1.2.2.2.2.2.2=g;cases g.2 with|false=>rfl|true=>?_
 simp only[al,af,ab,mH];cases dW (e.1.1,e.1.2.1,e.1.2.2.1,i.1.1,i.1.2.1,i.1.2.2.1,i.1.2.2.2.2.1,i.1.2.2.2.2.2.1,g.1)<;>rfl
def w6 (s:Bytes):aO×Int:=
 let c:=xl s
 bif !c.2 then(ZD,1) else
 let r:=GM c.1
 bif r.2 !=0 then(ZD,r.2) else
 bif !eF r.1 then(ZD,5) else(r.1,0)
theorem EM (s:Bytes):(xl s).1.length≤s.length:=by
 unfold xl;cases decide ((s.length:Int)<4)with|true=>simp|false=>?_
 cases wq (s.take ((s.length:Int)-4).toNat)==s with|false=>simp|true=>simp;omega
theorem Tv (s:Bytes)(h:s.length≤1000000000):rf s=some (w6 s):=by
 have h1:=EM s;unfold rf w6;rw[P6 s h,ab];generalize xl s=c at h1⊢;simp only;cases c.2 with|false=>rfl|true=>?_
 simp only[al,af,ab,Tw _ (show c.1.length≤1000000000 by omega)];generalize GM c.1=r;cases r.2 !=0 with|true=>rfl|false=>?_
 simp only[af,ab,vB];cases eF r.1<;>rfl
theorem SB (s:Bytes)(h:s.length≤1000000000):p4 s=some (w6 s):=by
 have h1:=EM s;unfold p4 w6;rw[Pf s h,ab];generalize xl s=c at h1⊢;simp only;cases c.2 with|false=>rfl|true=>?_
 simp only[al,af,ab,SC _ (show c.1.length≤1000000000 by omega)];generalize GM c.1=r;cases r.2 !=0 with|true=>rfl|false=>?_
 simp only[af,ab,uV];cases eF r.1<;>rfl
def Ej {α:Type}(a b:α):Bool:= @decide (a=b) (Classical.propDecidable _)
theorem zK {α:Type}{a b:α}:Ej a b=true↔a=b:=by unfold Ej;exact @decide_eq_true_iff _ (Classical.propDecidable _)
theorem Ku {α:Type}{a b:α}{x:Bool}(h:x=true↔a=b):x=Ej a b:=by rw[bX,zK];exact h
theorem amL {α:Type}[BEq α][LawfulBEq α](a b:α):(a==b)=Ej a b:=Ku aW
theorem T8 {α β:Type}(a b:α)(c d:β):Ej (a,c) (b,d)=(Ej a b&&Ej c d):=by rw[bX];simp only[aj,zK,Prod.mk.injEq]
theorem Mj {α β:Type}(a b:α×β):Ej a b=(Ej a.1 b.1&&Ej a.2 b.2):=T8 a.1 b.1 a.2 b.2
theorem T9 {α:Type}{a b:α}(h:a=b):Ej a b=true:=zK.2 h
theorem Sd {α:Type}{a b:α}(h:¬a=b):Ej a b=false:=by rw[Bool.eq_false_iff,ne_eq,zK];exact h
theorem Uj {α R:Type}{T:(Int→Option R)→Int→Option R}{fin hit:Option R}(p:α→α→Bool)(hp:∀x y,p x y=true↔x=y)(a b:List α)(hl:a.length=b.length)(h:a.length≤1000000000)(hs:∀i (hi:i<a.length) nx,T nx (i:Int)=cond (!(p a[i] (b[i]'(hl▸hi)))) hit (nx ((i+1:Nat):Int)))(hf:∀nx,T nx (a.length:Int)=fin): aH T fuel 0=cond (Ej a b) fin hit:=by
 have hq:∀i,i<a.length→i<b.length:=λi hi=>hl▸hi;rw[eM (fin:=fin) (hit:=hit) (λi=>Ej a[i]? b[i]?) a.length (by omega) ?hs hf]
 case hs=>
  intro i nx hi
  rw[hs i hi,List.getElem?_eq_getElem hi,List.getElem?_eq_getElem (hq i hi)]
  have:p a[i] (b[i]'(hq i hi))=Ej (some a[i]) (some (b[i]'(hq i hi))):=Ku (by rw[hp,aS])
  rw[this]
 congr 1;apply Ku;rw[aU];constructor;intro k;apply List.ext_getElem?;intro i;by_cases hi:i<a.length;exact zK.1 (k i (cw.2 hi));rw[List.getElem?_eq_none (by omega),List.getElem?_eq_none (by omega)];rintro rfl i _;exact T9 rfl
theorem Yj {α:Type}{T:(Int→Option Bool)→Int→Option Bool}(p:α→α→Bool)(hp:∀x y,p x y=true↔x=y)(a b:List α)(h:a.length≤1000000000)(hs:a.length=b.length→∀i (hi:i<a.length)(hi':i<b.length) nx,T nx (i:Int)=cond (!(p a[i] b[i])) (some false) (nx ((i+1:Nat):Int)))(hf:∀nx,T nx (a.length:Int)=some true): cond ((a.length:Int) !=(b.length:Int)) (some false) (aH T fuel 0)=some (Ej a b):=by by_cases hl:a.length=b.length;rw[Uj p hp a b hl h (λi hi nx=>hs hl i hi (hl▸hi) nx) hf];rw[show((a.length:Int) !=(b.length:Int))=false by simp[hl]];cases Ej a b<;>rfl;rw[Sd (λe=>hl (by rw[e]))];rw[show((a.length:Int) !=(b.length:Int))=true by simp;omega];rfl
theorem UL (a b:List Int)(h:a.length≤1000000000):ng a b=some (Ej a b):=by unfold ng;refine Yj (λx y=>x==y) (λx y=>aW) a b h (λhl i hi hi' nx=>?_) (λnx=>?_);simp only[jt];rw[ah (by omega),aX hi,aX hi',wrap64 (by omega) (by omega)];rfl;simp only[jt];rw[ae (by omega)];rfl
theorem BV (a b:Filter)(h:a.2.2.length≤1000000000):oF a b=some (Ej a b):=by simp only[oF,UL _ _ h,ab,aZ,cF,Mj a b,Mj a.2 b.2,amL]
theorem tz (l:List Bytes)(h:l.length≤1000000000):ff l=some l:=by simp only[ff,dR h,bm]
theorem yY (f:Filter)(h:f.2.2.length≤1000000000):kN f=some f:=by simp only[kN,lS _ h,ab]
theorem zu (f:Filter)(h:f.2.2.length≤1000000000):rn f=some f:=by simp only[rn,dR h,bm]
theorem D5 (l:List Stream)(h:l.length≤1000000000):m5 l=some l:=by simp only[m5,dR h,bm]
theorem Hy (t:List Slot)(h:t.length≤1000000000):qa t=some t:=by simp only[qa,dR h,bm]
theorem Gf (s:fK)(h:s.2.length≤1000000000):oE s=some s:=by simp only[oE,lS _ h,ab]
theorem Hx (s:dv)(h1:s.1.length≤1000000000)(h2:s.2.1.length≤1000000000)(h3:s.2.2.2.length≤1000000000):lC s=some s:=by simp only[lC,dR h1,Hy _ h2,Gf _ h3,ab,bm]
theorem HM (t:List Slot)(h:t.length≤1000000000):uy t=some t:=by simp only[uy,dR h,bm]
theorem HL (s:dv)(h1:s.1.length≤1000000000)(h2:s.2.1.length≤1000000000)(h3:s.2.2.2.length≤1000000000):uz s=some s:=by simp only[uz,dR h1,HM _ h2,dR h3,ab,bm]
theorem IT (l:List fJ)(i:Nat)(hi:i<l.length):l.take i++[(l[i].1,l[i].2.1,l[i].2.2)]=l.take (i+1):=(bh hi).symm
theorem KC (l:List fJ)(h:l.length≤1000000000)(hx:∀x∈l,x.2.2.length≤1000000000):sq l=some l:=by unfold sq;refine(de (λi=>(l.take i,(i:Int))) l.length (by omega) (λi nx hi=>?_) (λnx=>?_));simp only[mZ];rw[ah (by omega),aX hi,wrap64 (by omega) (by omega)];simp only[ai,ab,lS _ (hx _ (aL hi))];rw[aJ (by simp;omega),IT l i hi];rfl;simp only[mZ];rw[ae (by omega),cn];rfl
structure aaz (t:ew):Prop where
 p:t.2.1.2.2.2.length≤1000000000
 w:t.2.2.1.length≤1000000000
 x:∀x∈t.2.2.1,x.2.2.length≤1000000000
theorem Pg (t:ew)(z:aaz t):vP t=some t:=by simp only[vP,yO _ z.p,KC _ z.w z.x,ab]
theorem P7 (t:ew)(z:aaz t):uB t=some t:=by have h:=z.w;unfold uB;simp only[Bh _ z.p,ab];refine(de (λi=>((i:Int),t.1,t.2.1,t.2.2.1.take i,t.2.2.2)) t.2.2.1.length (by omega) (λi nx hi=>?_) (λnx=>?_));simp only[oU];rw[ah (by omega),aX hi,wrap64 (by omega) (by omega)];simp only[ai,ab,dR (z.x _ (aL hi)),bm];rw[aJ (by simp;omega),IT _ i hi];rfl;simp only[oU];rw[ae (by omega),cn];rfl
theorem ZB {h:Host}(z:bJ 1000000000 cv h):aaz h.2.2.1:=⟨z.2.2.1.2.1.2.2.2.1,z.2.2.1.2.2.1.1,λx hx=>(z.2.2.1.2.2.1.2 x hx).2.2.1⟩
theorem BT (h:Host)(z:bJ 1000000000 cv h):nT h=some h:=by have hp:h.2.2.2.2.1.length≤1000000000:=z.2.2.2.2.1.1;have hm:h.1.length≤1000000000:=z.1.1;unfold nT;simp only[k5 _ (show h.1.length≤1073741824 by omega),p9,dR z.2.1.1,Pg _ (ZB z),dR z.2.2.2.1.1,ab,bm];refine(de (λi=>((i:Int),h.1,h.2.1,h.2.2.1,h.2.2.2.1,h.2.2.2.2.1.take i,h.2.2.2.2.2)) h.2.2.2.2.1.length (by omega) (λi nx hi=>?_) (λnx=>?_));simp only[mX];rw[ah (by omega),aX hi,wrap64 (by omega) (by omega)];simp only[ai,ab,yO _ (z.2.2.2.2.1.2 _ (aL hi)).2.2.2.1];rw[aJ (by simp;omega),←bh hi];rfl;simp only[mX];rw[ae (by omega),cn];simp only[af,dR z.2.2.2.2.2.1.1,dR z.2.2.2.2.2.2.1.1,yY _ z.2.2.2.2.2.2.2.1.2.2.1,Hx _ z.2.2.2.2.2.2.2.2.1.1.1 z.2.2.2.2.2.2.2.2.1.2.1.1 z.2.2.2.2.2.2.2.2.1.2.2.2.1,D5 _ z.2.2.2.2.2.2.2.2.2.1.1,tz _ z.2.2.2.2.2.2.2.2.2.2.2.1.1,lS _ z.2.2.2.2.2.2.2.2.2.2.2.2.1.1,lS _ z.2.2.2.2.2.2.2.2.2.2.2.2.2.1.1,ab,bm]
theorem Cq (h:Host)(z:bJ 1000000000 cv h):rq h=some h:=by have hp:h.2.2.2.2.1.length≤1000000000:=z.2.2.2.2.1.1;have hm:h.1.length≤1000000000:=z.1.1;unfold rq;simp only[pc _ (show h.1.length≤1073741824 by omega),dR z.2.1.1,P7 _ (ZB z),dR z.2.2.2.1.1,ab,bm];refine(de (λi=>((i:Int),h.1,h.2.1,h.2.2.1,h.2.2.2.1,h.2.2.2.2.1.take i,h.2.2.2.2.2)) h.2.2.2.2.1.length (by omega) (λi nx hi=>?_) (λnx=>?_));simp only[oV];rw[ah (by omega),aX hi,wrap64 (by omega) (by omega)];simp only[ai,ab,Bh _ (z.2.2.2.2.1.2 _ (aL hi)).2.2.2.1];rw[aJ (by simp;omega),←bh hi];rfl;simp only[oV];rw[ae (by omega),cn];simp only[af,dR z.2.2.2.2.2.1.1,dR z.2.2.2.2.2.2.1.1,zu _ z.2.2.2.2.2.2.2.1.2.2.1,HL _ z.2.2.2.2.2.2.2.2.1.1.1 z.2.2.2.2.2.2.2.2.1.2.1.1 z.2.2.2.2.2.2.2.2.1.2.2.2.1,dR z.2.2.2.2.2.2.2.2.2.1.1,dR z.2.2.2.2.2.2.2.2.2.2.2.1.1,dR z.2.2.2.2.2.2.2.2.2.2.2.2.1.1,dR z.2.2.2.2.2.2.2.2.2.2.2.2.2.1.1,ab,bm]
theorem QC:∀l:List fJ,(dS l).length≤gA (.sl dA) l
 |[]=>by simp[dS]
 |x::l=>by have:=QC l;simp only[dS,gA,List.flatMap_cons,ak,cq,List.sum_cons,bj]at this⊢;omega
def body (p:aO):Bytes:=p.2.2.2.2.2.2.2.2.2.2.2.2.2.2.2
theorem Gt {n:Nat}{t:CT}{l:List t.D}{i:Nat}{x:t.D}(z:bJ n (.sl t) l)(hx:bJ n t x):bJ n (.sl t) (l.set i x):=by refine⟨?_,λy hy=>?_⟩;show(l.set i x).length≤n;rw[aY];exact z.1;rcases List.mem_or_eq_of_mem_set hy with h|h;exact z.2 y h;rw[h];exact hx
theorem Tc {n:Nat}(hn:128≤n){m:List Bytes}(h:xW m):bJ n (.sl .str) m:=⟨a7 h.2 (by omega),λx hx=>a7 (Nat.le_of_eq (h.1 x hx)) hn⟩
theorem Ox {n:Nat}(hn:128≤n){m:List Bytes}(z:bJ n (.sl .str) m)(a:Int)(s:Bytes):bJ n (.sl .str) (rA m a s).1:=by
 unfold rA;cases hw:dY m a (s.length:Int)with|false=>exact z|true=>?_
 simp only[dY,aj,aK]at hw;exact Tc hn (ym s.length (zY.1 hw.1) (by omega)).1
theorem ND {n:Nat}(hn:128≤n):∀(q:List (Int×Int)){m:List Bytes}(s:Bytes),bJ n (.sl .str) m→bJ n (.sl .str) (KY q m s)
 |[],m,s,z=>z
 |p::q,m,s,z=>ND hn q _ (Ox hn z _ _)
theorem NF {n:Nat}(hn:128≤n){m:List Bytes}(z:bJ n (.sl .str) m)(l:List aN)(d a:Int)(s:Bytes)(w:Bool):bJ n (.sl .str) (pH l m d a s w).1:=by unfold pH;cases (kf l m d a (s.length:Int) w).2 with|false=>exact z|true=>exact ND hn _ _ z
def bO (l:List aN)(m:List Bytes)(d:Int)(r:Int×Int×Int×Int):Bytes×(Int×Int×Int×Int)×Bool:=
 bif !pE r||(qR r==0) then([],r,false) else
 bif !(FQ l m d (vz r r.2.2.1) 16).2 then([],r,false) else
 ((FQ l m d (vz r r.2.2.1) 16).1,(r.1,r.2.1,Int.tmod (r.2.2.1+1) (2*r.2.1),r.2.2.2),true)
theorem Cy (l:List aN)(m:List Bytes)(d:Int)(r:Int×Int×Int×Int)(hl:l.length≤1000000000)(hm:m.length≤1000000000):oo l m d r=some (bO l m d r):=by
 have hA:=Co r r.2.2.1;unfold oo bO;simp only[zv,G2,ab,I3,DM l m d _ 16 hl hm (show vz r r.2.2.1≤9223372036854775807 by omega)];cases hb:pE r with|false=>rfl|true=>?_
 have h:=En hb;cases qR r==0 with|true=>rfl|false=>?_
 simp only[al,af,ab,bK];cases (FQ l m d (vz r r.2.2.1) 16).2 with|false=>rfl|true=>?_
 simp only[al,af];rw[wrap64 (n:=2*r.2.1) (by omega) (by omega),ao (by omega),wrap64 (n:=r.2.2.1+1) (by omega) (by omega)]
theorem KI (l:List aN)(m:List Bytes)(d:Int)(r:Int×Int×Int×Int)(hl:l.length≤1000000000)(hm:m.length≤1000000000):si l m d r=some (bO l m d r):=by have hA:=Co r r.2.2.1;rw[←Cy l m d r hl hm];unfold si oo;simp only[zv,G2,I3,B1,MZ,SE,ab,MP l m d _ 16 hl hm (show vz r r.2.2.1≤9223372036854775807 by omega),DM l m d _ 16 hl hm (show vz r r.2.2.1≤9223372036854775807 by omega)]
theorem AL (l:List aN)(m:List Bytes)(d:Int)(r:Int×Int×Int×Int):(bO l m d r).1.length≤100000000:=by
 unfold bO;cases !pE r||(qR r==0)with|true=>exact dM _|false=>?_
 cases (FQ l m d (vz r r.2.2.1) 16).2 with|false=>exact dM _|true=>exact T5 ..
def ZA:Int×Int×Int×Int×Int×Int:=(0,0,0,0,0,0)
def yQ (s:Bytes):Int×Int×Int×Int×Int×Int:=((bV s 0:Int),(bV s 1:Int),cB s 2,dZ s 4,cB s 8,cB s 10)
def dz (s:Bytes):(Int×Int×Int×Int×Int×Int)×Bool:=
 bif ((s.length:Int) !=16) then(ZA,false) else bif !(Ks (yQ s)==s) then(ZA,false) else(yQ s,true)
theorem NT (s:Bytes)(h:s.length≤1000000000):kR s=some (dz s):=by
 unfold kR dz;cases hn:(s.length:Int) !=16 with|true=>rfl|false=>?_
 have hl:s.length=16:=by
  have:((s.length:Int)==16)=true:=by simpa using hn
  have:=dy this;omega
 have b0:=iy (s[0]'(by omega));have b1:=iy (s[1]'(by omega));have i0:idx s 0=some (s[0]'(by omega)):=aX (i:=0) (by omega);have i1:idx s 1=some (s[1]'(by omega)):=aX (i:=1) (by omega);have e:(((s[0]'(by omega)).toNat:Int),((s[1]'(by omega)).toNat:Int),cB s 2,dZ s 4,cB s 8,cB s 10)=yQ s:=by simp only[yQ,bV,bM (show 0<s.length by omega),bM (show 1<s.length by omega)]
 simp only[af,i0,i1,ab,rM s _ h,uK s _ h];rw[fE (n:=(s[0]'(by omega)).toNat) (by omega),fE (n:=(s[1]'(by omega)).toNat) (by omega),e,RH,ab];cases Ks (yQ s)==s<;>rfl
theorem UG (s:Bytes)(h:s.length≤1000000000):oy s=some (dz s):=by rw[←NT s h];unfold oy kR;simp only[rM s _ h,uK s _ h,zQ s _ h,wS s _ h,Yq,RH]
theorem FO {s:Bytes}(h:(dz s).2=true):yR (dz s).1=true:=by
 unfold dz at h⊢;cases hn:(s.length:Int) !=16 with|true=>rw[hn]at h;cases h|false=>?_
 cases he:Ks (yQ s)==s with|false=>rw[hn,he]at h;cases h|true=>?_
 simp only[af,al];cases hd:yR (yQ s)with
 |true=>rfl
 |false=>
  have:Ks (yQ s)=[]:=by unfold Ks;rw[hd];rfl
  rw[this]at he;cases s with|nil=>simp at hn|cons x y=>cases he
def Sb (v:Vector):Bool:=bif decide (v.2.2.1≥1) then(bif decide (v.2.2.1≥v.1) then true else decide (v.2.2.2.1≥v.2.1)) else false
theorem Rd (v:Vector):wV v=some (Sb v):=by
 unfold wV Sb;cases decide (v.2.2.1≥1)with|false=>rfl|true=>?_
 cases decide (v.2.2.1≥v.1)<;>rfl
theorem YX (v:Vector):pF v=some (Sb v):=Rd v
def EL (v:Vector):Vector:=bif Sb v&& !v.2.2.2.2.1 then(v.1,v.2.1,v.2.2.1,v.2.2.2.1,v.2.2.2.2.1,true) else v
theorem Sp (v:Vector):ua v=some (EL v):=by
 unfold ua EL;rw[Rd,ab];cases Sb v with|false=>rfl|true=>?_
 cases v.2.2.2.2.1<;>rfl
theorem Tn (v:Vector):sS v=some (EL v):=by obtain⟨a,b,c,d,e,f⟩:=v;unfold sS EL;rw[YX,ab];cases f<;>cases Sb (a,b,c,d,e,_)<;>cases e<;>rfl
def upM (n:Int):Int:=if 1000000<aq (n+1) then 1000000 else aq (n+1)
theorem Zr (n:Int):(if aq (n+1)<1000000 then aq (n+1) else 1000000)=upM n:=by unfold upM;split<;>split<;>omega
def evV (v:Vector):Vector:=bif sU v then EL (v.1,v.2.1,upM v.2.2.1,v.2.2.2) else v
theorem So (v:Vector):rV v=some (evV v):=by unfold rV evV;rw[Gk,ab,Sp,ab];cases sU v<;>rfl
theorem Tm (v:Vector):sF v=some (evV v):=by unfold sF evV;rw[Bq,ab,Zr,Tn,ab];cases sU v<;>rfl
structure uM (k:Nat) (a b:Host):Prop where
 mem:b.1.length=a.1.length
 maps:b.2.1=a.2.1
 tx:b.2.2.1=a.2.2.1
 rx:b.2.2.2.1.length=a.2.2.2.1.length
 rxs:∀j,k≤j→b.2.2.2.1[j]?=a.2.2.2.1[j]?
 pl:b.2.2.2.2.1.length=a.2.2.2.2.1.length
 vec:b.2.2.2.2.2.1.length=a.2.2.2.2.2.1.length
 vecs:∀j,k≤j→b.2.2.2.2.2.1[j]?=a.2.2.2.2.2.1[j]?
 pol:b.2.2.2.2.2.2.1.length=a.2.2.2.2.2.2.1.length
 flt:b.2.2.2.2.2.2.2.1=a.2.2.2.2.2.2.2.1
 ste:b.2.2.2.2.2.2.2.2.1=a.2.2.2.2.2.2.2.2.1
theorem uM.refl (k:Nat)(a:Host):uM k a a:=⟨rfl,rfl,rfl,rfl,λ_ _=>rfl,rfl,rfl,λ_ _=>rfl,rfl,rfl,rfl⟩
theorem uM.trans {k:Nat}{a b c:Host}(h:uM k a b)(g:uM k b c):uM k a c:=⟨g.mem.trans h.mem,g.maps.trans h.maps,g.tx.trans h.tx,g.rx.trans h.rx,λj hj=>(g.rxs j hj).trans (h.rxs j hj),g.pl.trans h.pl,g.vec.trans h.vec,λj hj=>(g.vecs j hj).trans (h.vecs j hj),g.pol.trans h.pol,g.flt.trans h.flt,g.ste.trans h.ste⟩
theorem uM.up {k m:Nat}{a b:Host}(h:uM k a b)(hk:k≤m):uM m a b:=⟨h.mem,h.maps,h.tx,h.rx,λj hj=>h.rxs j (by omega),h.pl,h.vec,λj hj=>h.vecs j (by omega),h.pol,h.flt,h.ste⟩
theorem Zs {n:Nat}{l:List Vector}{i:Nat}{v:Vector}(z:bJ n (.sl cl) l):bJ n (.sl cl) (l.set i v):=Gt z ⟨trivial,trivial,trivial,trivial,trivial,trivial⟩
def uO (x:Int×Int×Int×Int×Int):Bool:=cx x.1 0 65535&&(cx x.2.1 0 65535&&(cx x.2.2.1 0 65535&&(cx x.2.2.2.1 0 65535&&cx x.2.2.2.2 0 4294967295)))
theorem CZ (x:Int×Int×Int×Int×Int):iG x=some (uO x):=by simp only[iG,cC,ab,aZ,cF,uO]
theorem To (x:Int×Int×Int×Int×Int):lI x=some (uO x):=CZ x
def Ht (x:Int×Int×Int×Int×Int)(p:Int):Bytes:=bif uO x&&cx p 0 1 then((((db x.1++db x.2.1)++db x.2.2.1)++db x.2.2.2.1)++eB x.2.2.2.2)++eB p else []
theorem MQ (x:Int×Int×Int×Int×Int)(p:Int):ib x p=some (Ht x p):=by
 have h1:=br x.1;have h2:=br x.2.1;have h3:=br x.2.2.1;have h4:=br x.2.2.2.1;have h5:=cA x.2.2.2.2;have h6:=cA p;unfold ib Ht;simp only[CZ,cC,ab,pa,pb];cases uO x with|false=>rfl|true=>?_
 cases cx p 0 1 with|false=>rfl|true=>?_
 simp only[al,af,ab,dK,ai];rw[aJ (by omega),aJ (by simp only[ak];omega),aJ (by simp only[ak];omega),aJ (by simp only[ak];omega),aJ (by simp only[ak];omega)]
theorem VG (x:Int×Int×Int×Int×Int)(p:Int):lr x p=some (Ht x p):=MQ x p
def w4 (l:List aN)(m:List Bytes)(d:Int)(q:Int×Int×Int)(x:Int×Int×Int×Int×Int):List Bytes×(Int×Int×Int)×Bool:=
 bif !eP q|| !uO x then(m,q,false) else
 bif !(pH l m d (vA q) (Ht x (vp q)) true).2 then(m,q,false) else
 ((pH l m d (vA q) (Ht x (vp q)) true).1,(q.1,q.2.1,Int.tmod (q.2.2+1) (2*q.2.1)),true)
theorem US (l:List aN)(m:List Bytes)(d:Int)(q:Int×Int×Int)(x:Int×Int×Int×Int×Int)(hl:l.length≤1000000000)(hm:m.length≤1000000000):kn l m d q x=some (w4 l m d q x):=by
 unfold kn w4;simp only[Iq,CZ,ab,k5 m (show m.length≤1073741824 by omega),Sz,MQ];cases hq:eP q with|false=>rfl|true=>?_
 have h:=oe hq;have hs:=K7 hq;cases uO x with|false=>rfl|true=>?_
 simp only[al,af,ab,bK,SF q hq,BU l m d _ _ hl hm (show vA q≤9223372036854775807 by unfold vA;omega)];cases hp:(pH l m d (vA q) (Ht x (vp q)) true).2 with|false=>simp only[di,ai,Tg hp]|true=>simp only[al,af];rw[wrap64 (n:=2*q.2.1) (by omega) (by omega),ao (by omega),wrap64 (n:=q.2.2+1) (by omega) (by omega)]
theorem VQ (l:List aN)(m:List Bytes)(d:Int)(q:Int×Int×Int)(x:Int×Int×Int×Int×Int)(hl:l.length≤1000000000)(hm:m.length≤1000000000):kA l m d q x=some (w4 l m d q x):=by
 unfold kA w4;simp only[I1,To,ab,pc m (show m.length≤1073741824 by omega),VG];cases hq:eP q with|false=>rfl|true=>?_
 have h:=oe hq;have hs:=K7 hq;cases uO x with|false=>rfl|true=>?_
 have e:aq (q.1+aq (16*Int.tmod q.2.2 q.2.1))=vA q:=by rw[wrap64 (n:=16*Int.tmod q.2.2 q.2.1) (by omega) (by omega),wrap64 (by omega) (by omega)];unfold vA;omega
 simp only[al,af,ab,bK,Tu q hq,e,Cr l m d _ _ hl hm (show vA q≤9223372036854775807 by unfold vA;omega)];rw[ao (by omega)];cases hp:(pH l m d (vA q) (Ht x (vp q)) true).2 with|false=>rfl|true=>simp only[al,af];rw[wrap64 (n:=2*q.2.1) (by omega) (by omega),ao (by omega),wrap64 (n:=q.2.2+1) (by omega) (by omega)]
theorem Tf {n:Nat}(hn:128≤n){m:List Bytes}(z:bJ n (.sl .str) m)(l:List aN)(d:Int)(q:Int×Int×Int)(x:Int×Int×Int×Int×Int):bJ n (.sl .str) (w4 l m d q x).1∧(w4 l m d q x).1.length=m.length:=by
 unfold w4;cases !eP q|| !uO x with|true=>exact⟨z,rfl⟩|false=>?_
 cases (pH l m d (vA q) (Ht x (vp q)) true).2 with|false=>exact⟨z,rfl⟩|true=>exact⟨NF hn z ..,w5 ..⟩
theorem Rx {l:List aN}{m:List Bytes}{d:Int}{q:Int×Int×Int}{x:Int×Int×Int×Int×Int}(h:eP q=true):eP (w4 l m d q x).2.1=true∧(w4 l m d q x).2.1.1=q.1∧(w4 l m d q x).2.1.2.1=q.2.1:=by
 have hq:=oe h;unfold w4;cases !eP q|| !uO x with|true=>exact⟨h,rfl,rfl⟩|false=>?_
 cases (pH l m d (vA q) (Ht x (vp q)) true).2 with|false=>exact⟨h,rfl,rfl⟩|true=>refine⟨?_,rfl,rfl⟩;have e:=RU (a:=q.2.2+1) (b:=2*q.2.1) (by omega) (by omega);simp only[af,al,eP,aj,bW]at h⊢;refine⟨h.1,h.2.1,?_⟩;rw[Aa h.2.1];omega
def gN (l:List aN)(m:List Bytes)(d:Int)(q:bn)(k:Bytes)(s:Bytes):List Bytes×(Int×Int×Int)×Bool:=
 bif !(dz s).2||(((dz s).1.1 !=3)||decide ((dz s).1.2.2.1<((eh q.2.2.2.1.1).1.length:Int))) then(m,q.2.1,false) else
 bif !(pH l m d (dz s).1.2.2.2.1 (eh q.2.2.2.1.1).1 true).2 then(m,q.2.1,false) else
 w4 l (pH l m d (dz s).1.2.2.2.1 (eh q.2.2.2.1.1).1 true).1 d q.2.1 ((dz s).1.2.2.2.2.2,((eh q.2.2.2.1.1).1.length:Int),q.2.2.2.1.2.1,q.2.2.2.1.2.2,pN k (lV (lj q.2.2.2.1.1)))
theorem Ty (l:List aN)(m:List Bytes)(d:Int)(q:bn)(k s:Bytes)(hl:l.length≤1000000000)(hm:m.length≤1000000000)(hs:s.length≤1000000000):sR l m d q s k=some (gN l m d q k s):=by
 unfold sR gN;have hok:=FO (s:=s);simp only[NT s hs,IZ,ab,pc m (show m.length≤1073741824 by omega)];generalize dz s=x at hok⊢;cases hx:x.2 with|false=>rfl|true=>?_
 have hd:=hok hx;simp only[yR,aj,bW]at hd;cases x.1.1 !=3 with|true=>rfl|false=>?_
 cases decide (x.1.2.2.1<((eh q.2.2.2.1.1).1.length:Int))with|true=>rfl|false=>?_
 simp only[al,af,ab,bK,Cr l m d _ _ hl hm (show x.1.2.2.2.1≤9223372036854775807 by omega)];cases (pH l m d x.1.2.2.2.1 (eh q.2.2.2.1.1).1 true).2 with|false=>rfl|true=>?_
 simp only[al,af,NV,ab,Cs,VQ l _ d _ _ hl (show(pH l m d x.1.2.2.2.1 (eh q.2.2.2.1.1).1 true).1.length≤1000000000 by rw[w5];exact hm)]
theorem SH (l:List aN)(m:List Bytes)(d:Int)(q:bn)(k s:Bytes)(hl:l.length≤1000000000)(hm:m.length≤1000000000)(hs:s.length≤1000000000)(hh:dW q.2.2.2.1.1=true):∃b,qe l m d q k s=some (b,gN l m d q k s)∧(b=false→gN l m d q k s=(m,q.2.1,false)):=by
 unfold qe gN;have hok:=FO (s:=s);simp only[UG s hs,Io,ab,Ik hh];generalize dz s=x at hok⊢;cases hx:x.2 with|false=>exact⟨false,rfl,λ_=>rfl⟩|true=>?_
 have hd:=hok hx;simp only[yR,aj,bW]at hd;cases x.1.1 !=3 with|true=>exact⟨false,rfl,λ_=>rfl⟩|false=>?_
 cases decide (x.1.2.2.1<((eh q.2.2.2.1.1).1.length:Int))with|true=>exact⟨false,rfl,λ_=>rfl⟩|false=>?_
 simp only[al,af,ab,bK,BU l m d _ _ hl hm (show x.1.2.2.2.1≤9223372036854775807 by omega)];cases (pH l m d x.1.2.2.2.1 (eh q.2.2.2.1.1).1 true).2 with|false=>exact⟨false,rfl,λ_=>rfl⟩|true=>?_
 simp only[al,af,MR,ab,BW,US l _ d _ _ hl (show(pH l m d x.1.2.2.2.1 (eh q.2.2.2.1.1).1 true).1.length≤1000000000 by rw[w5];exact hm)];exact⟨true,rfl,λh=>by cases h⟩
theorem TA {n:Nat}(hn:128≤n){l:List aN}{m:List Bytes}{d:Int}{q:bn}{k s:Bytes}(z:bJ n (.sl .str) m)(hq:eP q.2.1=true): bJ n (.sl .str) (gN l m d q k s).1∧(gN l m d q k s).1.length=m.length∧eP (gN l m d q k s).2.1=true∧(gN l m d q k s).2.1.1=q.2.1.1∧(gN l m d q k s).2.1.2.1=q.2.1.2.1:=by
 unfold gN;cases !(dz s).2||(((dz s).1.1 !=3)||decide ((dz s).1.2.2.1<((eh q.2.2.2.1.1).1.length:Int)))with|true=>exact⟨z,rfl,hq,rfl,rfl⟩|false=>?_
 cases (pH l m d (dz s).1.2.2.2.1 (eh q.2.2.2.1.1).1 true).2 with|false=>exact⟨z,rfl,hq,rfl,rfl⟩|true=>?_
 have h1:=NF hn z l d (dz s).1.2.2.2.1 (eh q.2.2.2.1.1).1 true;have h2:=w5 l m d (dz s).1.2.2.2.1 (eh q.2.2.2.1.1).1 true;generalize (pH l m d (dz s).1.2.2.2.1 (eh q.2.2.2.1.1).1 true).1=w at h1 h2;have h3:=Tf hn h1 l d q.2.1 ((dz s).1.2.2.2.2.2,((eh q.2.2.2.1.1).1.length:Int),q.2.2.2.1.2.1,q.2.2.2.1.2.2,pN k (lV (lj q.2.2.2.1.1)));have h4:=Rx (l:=l) (m:=w) (d:=d) (x:=((dz s).1.2.2.2.2.2,((eh q.2.2.2.1.1).1.length:Int),q.2.2.2.1.2.1,q.2.2.2.1.2.2,pN k (lV (lj q.2.2.2.1.1)))) hq;exact⟨h3.1,h3.2.trans h2,h4⟩
def gu (l:List aN)(m:List Bytes)(d:Int)(q:bn)(k:Bytes):List Bytes×bn:=
 bif !HJ q||(!q.2.2.2.2.1||((k.length:Int) !=16)) then(m,q) else
 bif (bO l m d q.1).2.2&&(gN l m d q k (bO l m d q.1).1).2.2 then
  ((gN l m d q k (bO l m d q.1).1).1,(bO l m d q.1).2.1,(gN l m d q k (bO l m d q.1).1).2.1,q.2.2.1,ae5,false,q.2.2.2.2.2)
 else(m,(bO l m d q.1).2.1,q.2.1,q.2.2.1,ae5,false,aq (q.2.2.2.2.2+q.2.2.2.1.2.2))
theorem Of {l:List aN}{m:List Bytes}{d:Int}{r:Int×Int×Int×Int}(h:(bO l m d r).2.2=false):(bO l m d r).2.1=r:=by
 unfold bO at h⊢;cases hc: !pE r||(qR r==0)with|true=>rfl|false=>?_
 cases hd:(FQ l m d (vz r r.2.2.1) 16).2 with|false=>rfl|true=>rw[hc,hd]at h;cases h
theorem xb {q:bn}(h:HJ q=true):eP q.2.1=true∧(q.2.2.2.2.1=true→dW q.2.2.2.1.1=true):=by unfold HJ at h;simp only[aj]at h;refine⟨h.1.2.1,λhh=>?_⟩;have h2:=h.2;rw[hh]at h2;simp only[ai,aj]at h2;exact h2.1
theorem IY (l:List aN)(m:List Bytes)(d:Int)(q:bn)(k:Bytes)(hl:l.length≤1000000000)(hm:m.length≤1000000000):mz l m d q k=some (gu l m d q k):=by
 have ht:=AL l m d q.1;unfold mz gu;simp only[Qa,ab,pc m (show m.length≤1073741824 by omega),Cy l m d q.1 hl hm,Ty l m d q k _ hl hm (show(bO l m d q.1).1.length≤1000000000 by omega)];cases HJ q with|false=>rfl|true=>?_
 cases q.2.2.2.2.1 with|false=>rfl|true=>?_
 cases (k.length:Int) !=16 with|true=>rfl|false=>?_
 simp only[al,af,ab,bK];cases (bO l m d q.1).2.2 with|false=>rfl|true=>?_
 cases (gN l m d q k (bO l m d q.1).1).2.2<;>rfl
theorem Im (l:List aN)(m:List Bytes)(d:Int)(q:bn)(k:Bytes)(hl:l.length≤1000000000)(hm:m.length≤1000000000):lX l m d q k=some (gu l m d q k):=by
 have ht:=AL l m d q.1;have hno:=Of (l:=l) (m:=m) (d:=d) (r:=q.1);unfold lX gu;simp only[Pn,ab,k5 m (show m.length≤1073741824 by omega),KI l m d q.1 hl hm];cases hr:HJ q with|false=>rfl|true=>?_
 cases hh:q.2.2.2.2.1 with|false=>rfl|true=>?_
 cases (k.length:Int) !=16 with|true=>rfl|false=>?_
 obtain⟨b,hb,hb2⟩:=SH l m d q k (bO l m d q.1).1 hl hm (by omega) ((xb hr).2 hh);simp only[al,af,ab,bK,hb];generalize gN l m d q k (bO l m d q.1).1=s at hb hb2⊢;cases hk:(bO l m d q.1).2.2 with|false=>rw[hno hk];rfl|true=>?_
 cases b with|true=>cases hs:s.2.2<;>rfl|false=>rw[hb2 rfl];rfl
theorem Ie {n:Nat}(hn:128≤n){l:List aN}{m:List Bytes}{d:Int}{q:bn}{k:Bytes}(z:bJ n (.sl .str) m)(zq:bJ n bt q): bJ n (.sl .str) (gu l m d q k).1∧(gu l m d q k).1.length=m.length∧bJ n bt (gu l m d q k).2∧(HJ q=true→eP (gu l m d q k).2.2.1=true∧(gu l m d q k).2.2.1.2.1=q.2.1.2.1):=by
 unfold gu;cases hc: !HJ q||(!q.2.2.2.2.1||((k.length:Int) !=16))with|true=>exact⟨z,rfl,zq,λh=>⟨(xb h).1,rfl⟩⟩|false=>?_
 simp only[ei,fP]at hc;have hq:=(xb hc.1).1;have hs:=TA hn (l:=l) (d:=d) (k:=k) (s:=(bO l m d q.1).1) z hq;have e0:bJ n bt ((bO l m d q.1).2.1,(gN l m d q k (bO l m d q.1).1).2.1,q.2.2.1,ae5,false,q.2.2.2.2.2):=⟨⟨trivial,trivial,trivial,trivial⟩,⟨trivial,trivial,trivial⟩,⟨trivial,trivial,trivial⟩,⟨⟨trivial,trivial,trivial,trivial,trivial,trivial,trivial,trivial,trivial,trivial,trivial,trivial,trivial,trivial,trivial,dM _⟩,trivial,trivial⟩,trivial,trivial⟩
 cases (bO l m d q.1).2.2&&(gN l m d q k (bO l m d q.1).1).2.2 with|true=>exact⟨hs.1,hs.2.1,e0,λ_=>⟨hs.2.2.1,hs.2.2.2.2⟩⟩|false=>exact⟨z,rfl,⟨⟨trivial,trivial,trivial,trivial⟩,⟨trivial,trivial,trivial⟩,⟨trivial,trivial,trivial⟩,⟨⟨trivial,trivial,trivial,trivial,trivial,trivial,trivial,trivial,trivial,trivial,trivial,trivial,trivial,trivial,trivial,dM _⟩,trivial,trivial⟩,trivial,trivial⟩,λ_=>⟨hq,rfl⟩⟩
theorem Ig {s:Bytes}{a:Nat}:cB s (a:Int)=bif decide (a+2≤s.length) then((bV s a*256+bV s (a+1):Nat):Int) else-1:=by unfold cB dE;rw[ax,show decide ((0:Int)≤a∧(a:Int)+2≤(s.length:Int))=decide (a+2≤s.length) from decide_eq_decide.2 (by omega)]
theorem MD {s t:Bytes}{a:Nat}(hl:s.length=t.length)(h0:bV s a=bV t a)(h1:bV s (a+1)=bV t (a+1)):cB s (a:Int)=cB t (a:Int):=by rw[Ig,Ig,hl,h0,h1]
def tN (s:Bytes):Nat:=bif cB s 12==33024 then 18 else 14
def Gs (s:Bytes):Nat:=bV s (tN s+9)
def Zc (k:Nat):Nat:=bif (k:Int)==6 then 16 else 6
def Qi (s:Bytes):Nat:=tN s+10
def HR (s:Bytes):Nat:=tN s+20+Zc (Gs s)
theorem Zd (k:Nat):Zc k=16∧k=6∨Zc k=6∧k≠6:=by unfold Zc;by_cases h:k=6;subst h;exact .inl ⟨rfl,rfl⟩;exact .inr ⟨by rw[show((k:Int)==6)=false from by rw[ch];omega];rfl,h⟩
theorem TV (s:Bytes):tN s=18∧(cB s 12==33024)=true∨tN s=14∧(cB s 12==33024)=false:=by unfold tN;cases cB s 12==33024 with|true=>exact .inl ⟨rfl,rfl⟩|false=>exact .inr ⟨rfl,rfl⟩
def HU (s t:Bytes):Prop:=s.length=t.length∧∀i,i<Qi t∨(Qi t+2≤i∧i<HR t)∨HR t+2≤i→bV s i=bV t i
theorem Nx (t:Bytes):(tN t=14∨tN t=18)∧Qi t=tN t+10∧tN t+26≤HR t∧HR t≤tN t+36∧(HR t=tN t+36∧Gs t=6∨HR t=tN t+26∧Gs t≠6):=by have h1:=TV t;have h2:=Zd (Gs t);unfold Qi HR;omega
theorem HU.body {s t:Bytes}(h:HU s t):tN s=tN t:=by have:=Nx t;unfold tN;have e:cB s ((12:Nat):Int)=cB t ((12:Nat):Int):=MD h.1 (h.2 _ (by omega)) (h.2 _ (by omega));rw[show(12:Int)=((12:Nat):Int) from rfl,e]
theorem HU.kind {s t:Bytes}(h:HU s t):Gs s=Gs t:=by have:=Nx t;unfold Gs;rw[h.body,h.2 _ (by omega)]
theorem HU.au1 {s t:Bytes}(h:HU s t):Qi s=Qi t∧HR s=HR t:=by unfold Qi HR;rw[h.body,h.kind];exact⟨rfl,rfl⟩
structure OC (n:Nat) (h:Host):Prop where
 z:bJ n cv h
 t:h.2.2.1.2.1.2.2.2.length+(dS h.2.2.1.2.2.1).length≤n
theorem OC.mono {n m:Nat}{h:Host}(k:OC n h)(hn:n≤m):OC m h:=⟨k.z.mono hn,a7 k.t hn⟩
theorem OC.sz {n:Nat}{h:Host}(k:OC n h)(hn:n≤1000000000):Jl h:=by have z:bJ 1000000000 cv h:=k.z.mono hn;exact⟨z.1.1,z.2.1.1,z.2.2.1.2.2.1.1,a7 k.t hn,z.2.2.2.2.2.2.2.1.2.2.1,z.2.2.2.2.2.2.2.2.1.1.1,z.2.2.2.2.2.2.2.2.1.2.1.1,z.2.2.2.2.2.2.2.2.1.2.2.2.1,λp hp=>(z.2.2.2.2.1.2 p hp).2.2.2.1⟩
theorem OC.of {h:Host}(k:gA cv h≤1048576):OC 1048576 h:=by
 refine⟨yg k,?_⟩;have hb:=QC h.2.2.1.2.2.1;have h1:gA fO h.2.2.1≤gA cv h:=by simp only[gA];omega
 have hp:h.2.2.1.2.1.2.2.2.length+gA (.sl dA) h.2.2.1.2.2.1≤gA fO h.2.2.1:=by simp only[gA];omega
 omega
theorem SN {n k:Nat}{t:CT}{l q:List t.D}(z:bJ n (.sl t) l)(hq:∀y∈q,bJ n t y)(hk:q.length≤k):bJ (n+k) (.sl t) (l++q):=by refine⟨?_,λy hy=>?_⟩;show(l++q).length≤n+k;have:=z.1;rw[ak];omega;rcases ar.1 hy with h|h;exact(z.2 y h).mono (by omega);exact(hq y h).mono (by omega)
def Yk (k:Nat)(h:Host):Host:=
 match h.2.2.2.2.2.1[k]? with
 |some v=>(h.1,h.2.1,h.2.2.1,h.2.2.2.1,h.2.2.2.2.1,h.2.2.2.2.2.1.set k (evV v),h.2.2.2.2.2.2)
 |none=>h
def Lu (k:Nat):Nat→Host→Host
 |0,h=>h
 |i+1,h=>Yk k (Lu k i h)
theorem Um (k:Nat)(h:Host):uM (k+1) h (Yk k h):=by unfold Yk;cases h.2.2.2.2.2.1[k]? with|none=>exact uM.refl _ _|some v=>exact⟨rfl,rfl,rfl,rfl,λ_ _=>rfl,rfl,aY ..,λj hj=>List.getElem?_set_ne (by omega),rfl,rfl,rfl⟩
theorem BJ (k:Nat)(h:Host):∀i,uM (k+1) h (Lu k i h)
 |0=>uM.refl _ _
 |i+1=>(BJ k h i).trans (Um k _)
theorem Yl {n:Nat}(k:Nat){h:Host}(z:bJ n cv h):bJ n cv (Yk k h):=by unfold Yk;cases h.2.2.2.2.2.1[k]? with|none=>exact z|some v=>exact⟨z.1,z.2.1,z.2.2.1,z.2.2.2.1,z.2.2.2.2.1,Zs z.2.2.2.2.2.1,z.2.2.2.2.2.2⟩
theorem Q3 {n:Nat}(k:Nat){h:Host}(z:bJ n cv h):∀i,bJ n cv (Lu k i h)
 |0=>z
 |i+1=>Yl k (Q3 k z i)
theorem Pc (h:Host)(k:Nat)(b:Int)(h1:k<h.2.2.2.1.length)(h2:k<h.2.2.2.2.2.1.length)(hq:eP h.2.2.2.1[k].2.1=true)(hb:0≤b∧b≤31):jA h (k:Int) b=some ((),Lu k ((h.2.2.2.1[k].2.1.2.2-b)%(2*h.2.2.2.1[k].2.1.2.1)).toNat h):=by
 have hfu:=dI;have q:=oe hq;unfold jA;rw[aX h1,ab];generalize h.2.2.2.1[k]=x at q⊢;rw[wrap64 (n:=x.2.1.2.2-b) (by omega) (by omega),wrap64 (n:=2*x.2.1.2.1) (by omega) (by omega),IB _ _ (by omega) (by omega),ab];have hm:0≤(x.2.1.2.2-b)%(2*x.2.1.2.1)∧(x.2.1.2.2-b)%(2*x.2.1.2.1)<32:=by have g1:=dB (x.2.1.2.2-b) (show 2*x.2.1.2.1≠0 by omega);have g2:=cG (x.2.1.2.2-b) (show 0<2*x.2.1.2.1 by omega);omega
 generalize (x.2.1.2.2-b)%(2*x.2.1.2.1)=c at hm⊢;obtain⟨c,rfl⟩:=aM hm.1;rw[ax];have e0:((c:Int),h)=(((c:Int)-((0:Nat):Int)),Lu k 0 h):=by simp[Lu]
 rw[e0];refine de (λi=>((c:Int)-(i:Int),Lu k i h)) c (by omega) (λi nx hi=>?_) (λnx=>?_);have kk:=BJ k h i;have i1:k<(Lu k i h).2.2.2.2.2.1.length:=by rw[kk.vec];exact h2
 rw[show Lu k (i+1) h=Yk k (Lu k i h) from rfl];generalize Lu k i h=s at i1⊢;simp only[lA,Yk];rw[ah (by omega),ai,List.getElem?_eq_getElem i1];simp only[aX i1,ab,So,ax];rw[wrap64 (by omega) (by omega),show(c:Int)-(i:Int)-1=(c:Int)-((i+1:Nat):Int) by omega];simp only[lA];rw[ae (by omega),af]
theorem P4 (h:Host)(k:Nat)(b:Int)(h1:k<h.2.2.2.1.length)(h2:k<h.2.2.2.2.2.1.length)(hq:eP h.2.2.2.1[k].2.1=true)(hb:0≤b∧b≤31):jY h (k:Int) b=some ((),Lu k ((h.2.2.2.1[k].2.1.2.2-b)%(2*h.2.2.2.1[k].2.1.2.1)).toNat h):=by
 have hfu:=dI;have q:=oe hq;unfold jY;rw[aX h1,ab,ab];generalize h.2.2.2.1[k]=x at q⊢;have em:aq (BitVec.toNat (BitVec.ofInt (IntKind.bits .i64) (x.2.1.2.2-b)&&&BitVec.ofInt (IntKind.bits .i64) (2*x.2.1.2.1-1)))=(x.2.1.2.2-b)%(2*x.2.1.2.1):=by
  have key:∀j:Nat,j<63→2*x.2.1.2.1=2^j→aq (BitVec.toNat (BitVec.ofInt (IntKind.bits .i64) (x.2.1.2.2-b)&&&BitVec.ofInt (IntKind.bits .i64) (2*x.2.1.2.1-1)))=(x.2.1.2.2-b)%(2*x.2.1.2.1):=by intro j hj e;have:=yM (x.2.1.2.2-b) j hj;rw[←e]at this;rw[this];have g1:=dB (x.2.1.2.2-b) (show 2*x.2.1.2.1≠0 by omega);have g2:=cG (x.2.1.2.2-b) (show 0<2*x.2.1.2.1 by omega);exact wrap64 (by omega) (by omega)
  rcases q.2.2.1 with e|e|e|e;exact key 2 (by omega) (by rw[e];rfl);exact key 3 (by omega) (by rw[e];rfl);exact key 4 (by omega) (by rw[e];rfl);exact key 5 (by omega) (by rw[e];rfl)
 rw[wrap64 (n:=x.2.1.2.2-b) (by omega) (by omega),wrap64 (n:=2*x.2.1.2.1) (by omega) (by omega),wrap64 (n:=2*x.2.1.2.1-1) (by omega) (by omega),em];have hm:0≤(x.2.1.2.2-b)%(2*x.2.1.2.1)∧(x.2.1.2.2-b)%(2*x.2.1.2.1)<32:=by have g1:=dB (x.2.1.2.2-b) (show 2*x.2.1.2.1≠0 by omega);have g2:=cG (x.2.1.2.2-b) (show 0<2*x.2.1.2.1 by omega);omega
 generalize (x.2.1.2.2-b)%(2*x.2.1.2.1)=c at hm⊢;obtain⟨c,rfl⟩:=aM hm.1;rw[ax];refine de (λi=>((i:Int),Lu k i h)) c (by omega) (λi nx hi=>?_) (λnx=>?_);have kk:=BJ k h i;have i1:k<(Lu k i h).2.2.2.2.2.1.length:=by rw[kk.vec];exact h2
 rw[show Lu k (i+1) h=Yk k (Lu k i h) from rfl];generalize Lu k i h=s at i1⊢;simp only[lN,Yk];rw[ah (by omega),ai,List.getElem?_eq_getElem i1];simp only[aX i1,ab,Tm,ax];rw[wrap64 (by omega) (by omega)];rfl;simp only[lN];rw[ae (by omega),af]
def DJ (h:Host)(k:Nat)(f:List Bytes×bn):Host:=(f.1,h.2.1,h.2.2.1,h.2.2.2.1.set k f.2,h.2.2.2.2)
def Ho (h:Host)(k:Nat)(b:Int)(f:List Bytes×bn):Host:=Lu k ((f.2.2.1.2.2-b)%(2*f.2.2.1.2.1)).toNat (DJ h k f)
theorem Ov {h:Host}{k:Nat}{b:Int}{f:List Bytes×bn}(hf:f.1.length=h.1.length):uM (k+1) h (Ho h k b f):=by
 have a:uM (k+1) h (DJ h k f):=⟨hf,rfl,rfl,aY ..,λj hj=>List.getElem?_set_ne (by omega),rfl,rfl,λ_ _=>rfl,rfl,rfl,rfl⟩
 exact a.trans (BJ k (DJ h k f) _)
theorem Qu {n:Nat}{h:Host}{k:Nat}{b:Int}{f:List Bytes×bn}(z:bJ n cv h)(h1:bJ n (.sl .str) f.1)(h2:bJ n bt f.2):bJ n cv (Ho h k b f):=by
 have a:bJ n cv (DJ h k f):=⟨h1,z.2.1,z.2.2.1,Gt z.2.2.2.1 h2,z.2.2.2.2⟩
 exact Q3 k a _
theorem Mz {l:List aN}{m:List Bytes}{d:Int}{q:bn}{k:Bytes}:(gu l m d q k).1.length=m.length:=by
 have hs:(gN l m d q k (bO l m d q.1).1).1.length=m.length:=by
  unfold gN;cases !(dz (bO l m d q.1).1).2||(((dz (bO l m d q.1).1).1.1 !=3)||decide ((dz (bO l m d q.1).1).1.2.2.1<((eh q.2.2.2.1.1).1.length:Int)))with|true=>rfl|false=>?_
  cases (pH l m d (dz (bO l m d q.1).1).1.2.2.2.1 (eh q.2.2.2.1.1).1 true).2 with|false=>rfl|true=>?_
  have h2:=w5 l m d (dz (bO l m d q.1).1).1.2.2.2.1 (eh q.2.2.2.1.1).1 true;simp only[af,al];unfold w4;cases !eP q.2.1|| !uO ((dz (bO l m d q.1).1).1.2.2.2.2.2,((eh q.2.2.2.1.1).1.length:Int),q.2.2.2.1.2.1,q.2.2.2.1.2.2,pN k (lV (lj q.2.2.2.1.1)))with|true=>exact h2|false=>?_
  cases (pH l (pH l m d (dz (bO l m d q.1).1).1.2.2.2.1 (eh q.2.2.2.1.1).1 true).1 d (vA q.2.1) (Ht ((dz (bO l m d q.1).1).1.2.2.2.2.2,((eh q.2.2.2.1.1).1.length:Int),q.2.2.2.1.2.1,q.2.2.2.1.2.2,pN k (lV (lj q.2.2.2.1.1))) (vp q.2.1)) true).2 with|false=>exact h2|true=>exact(w5 ..).trans h2
 unfold gu;cases !HJ q||(!q.2.2.2.2.1||((k.length:Int) !=16))with|true=>rfl|false=>?_
 cases (bO l m d q.1).2.2&&(gN l m d q k (bO l m d q.1).1).2.2 with|true=>exact hs|false=>rfl
theorem Bd {h:Host}(hb:tO h=true):∀i (hi:i<h.2.2.2.1.length),HJ h.2.2.2.1[i]=true:=by simp only[tO,NK,aj]at hb;exact λi hi=>aU.1 hb.2.2.2.2.2.2.1.1 _ (aL hi)
theorem D0 {h:Host}{k:Nat}{b:Int}{f:List Bytes×bn}(h1:k<h.2.2.2.1.length)(h2:k<h.2.2.2.2.2.1.length)(hq:eP f.2.2.1=true)(hb:0≤b∧b≤31): jA (f.1,h.2.1,h.2.2.1,h.2.2.2.1.set k f.2,h.2.2.2.2) (k:Int) b=some ((),Ho h k b f)∧jY (f.1,h.2.1,h.2.2.1,h.2.2.2.1.set k f.2,h.2.2.2.2) (k:Int) b=some ((),Ho h k b f):=by
 have h3:k<(DJ h k f).2.2.2.1.length:=by show k<(h.2.2.2.1.set k f.2).length;rw[aY];exact h1
 have e:(DJ h k f).2.2.2.1[k]=f.2:=List.getElem_set_self _;have a:=Pc (DJ h k f) k b h3 h2 (by rw[e];exact hq) hb;have c:=P4 (DJ h k f) k b h3 h2 (by rw[e];exact hq) hb;rw[e]at a c;exact⟨a,c⟩
def II (a b:aO):Bool:=(ot a b).getD false
theorem VP (a b:aO):ot a b=some (II a b):=rfl
theorem UR (a b:aO):sj a b=some (II a b):=by unfold sj II ot;simp only[dr,dq]
def ae3 (s:gD)(p:aO):Bool:=(p.2.2.2.2.2.2.2.2.2.2.2.1==Int.tmod (aq (s.1.2.2.2.2.2.2.2.2.2.2.2.1+(s.1.2.2.2.2.2.2.2.2.2.2.2.2.2.2.2.length:Int))) 4294967296)&&(p.2.2.2.2.1==Int.tmod (aq (s.1.2.2.2.2.1+s.2.2)) 65536)
def IU (s:gD)(p:aO):Bool:=decide (1≤s.2.1)&&(cx s.2.2 1 320&&(decide ((s.1.2.2.2.2.2.2.2.2.2.2.2.2.2.2.2.length:Int)=s.2.1*s.2.2)&&(cx (p.2.2.2.2.2.2.2.2.2.2.2.2.2.2.2.length:Int) 1 s.2.1&&decide ((s.1.2.2.2.2.2.2.2.2.2.2.2.2.2.2.2.length:Int)+(p.2.2.2.2.2.2.2.2.2.2.2.2.2.2.2.length:Int)≤320))))
def UB (s:gD)(p:aO):Bool:=dW s.1&&(eF p&&(II s.1 p&&((p.2.2.2.2.2.2.2.2.1==6)&&((s.1.2.2.2.2.2.2.2.2.2.2.2.2.2.1==16)&&yU p.2.2.2.2.2.2.2.2.2.2.2.2.2.1))))
def D2 (s:gD)(p:aO):Bool:=UB s p&&(IU s p&&ae3 s p)
theorem Ch {p:aO}(h:eF p=true)(h6:(p.2.2.2.2.2.2.2.2.1==6)=true):cx p.2.2.2.2.2.2.2.2.2.2.2.2.2.1 0 31=true:=by simp only[eF,dW,aj]at h;exact Dl (BR h.1.1) h6
theorem Bl {p:aO}(h:eF p=true):p.2.2.2.2.2.2.2.2.2.2.2.2.2.2.2.length≤128:=by simp only[eF,aj,aK]at h;omega
theorem K8 (s:gD)(p:aO):qT s p=some (D2 s p):=by
 unfold qT D2 UB;rw[nh,ab,vB,ab,VP,ab];cases hs:dW s.1 with|false=>rfl|true=>?_
 cases hp:eF p with|false=>rfl|true=>?_
 cases II s.1 p with|false=>rfl|true=>?_
 cases h6:p.2.2.2.2.2.2.2.2.1==6 with|false=>simp only[bne,h6];rfl|true=>?_
 cases h16:s.1.2.2.2.2.2.2.2.2.2.2.2.2.2.1==16 with|false=>simp only[bne,h6,h16];rfl|true=>?_
 have hf:=Ch hp h6;have hsl:=G9 hs;have hpl:=Bl hp;simp only[bne,h6,h16,al,af,ab,F3 _ hf,a9];cases yU p.2.2.2.2.2.2.2.2.2.2.2.2.2.1 with|false=>rfl|true=>?_
 simp only[al,af,cc,ab,a9,aZ];have hsz:(bif !cx s.2.1 1 320 then some true else bif !cx s.2.2 1 320 then some true else bif !((s.1.2.2.2.2.2.2.2.2.2.2.2.2.2.2.2.length:Int)==aq (s.2.1*s.2.2)) then some true else bif !cx (p.2.2.2.2.2.2.2.2.2.2.2.2.2.2.2.length:Int) 1 s.2.1 then some true else some (decide (aq ((s.1.2.2.2.2.2.2.2.2.2.2.2.2.2.2.2.length:Int)+(p.2.2.2.2.2.2.2.2.2.2.2.2.2.2.2.length:Int))>320)))=some (!IU s p):=by
  unfold IU;generalize s.1.2.2.2.2.2.2.2.2.2.2.2.2.2.2.2.length=n at hsl⊢;generalize p.2.2.2.2.2.2.2.2.2.2.2.2.2.2.2.length=m at hpl⊢;rw[wrap64 (n:=(n:Int)+(m:Int)) (by omega) (by omega)];cases h2:cx s.2.2 1 320 with
  |false=>cases cx s.2.1 1 320<;>cases decide (1≤s.2.1)<;>rfl
  |true=>
   have h2':=bW.1 h2;by_cases h1:1≤s.2.1;rw[ah h1];by_cases h3:s.2.1≤320;have hb:s.2.1*s.2.2≤320*320:=Int.mul_le_mul h3 h2'.2 (by omega) (by omega);have hb0:0≤s.2.1*s.2.2:=Int.mul_nonneg (by omega) (by omega);rw[bW.2 ⟨h1,h3⟩,wrap64 (n:=s.2.1*s.2.2) (by omega) (by omega)];by_cases h4:(n:Int)=s.2.1*s.2.2;rw[show((n:Int)==s.2.1*s.2.2)=true from by rw[aW];exact h4,ah h4];cases cx (m:Int) 1 s.2.1 with|false=>rfl|true=>by_cases h5:(n:Int)+(m:Int)≤320;rw[ah h5,ae (show¬(n:Int)+(m:Int)>320 by omega)];rfl;rw[ae h5,ah (show(n:Int)+(m:Int)>320 by omega)];rfl
   rw[show((n:Int)==s.2.1*s.2.2)=false from by rw[ch];exact h4,ae h4];rfl;have hb:321*1≤s.2.1*s.2.2:=Int.mul_le_mul (by omega) (by omega) (by omega) (by omega);rw[show cx s.2.1 1 320=false from by rw[Bool.eq_false_iff];intro hc;have:=bW.1 hc;omega,ae (show¬(n:Int)=s.2.1*s.2.2 by omega)];rfl;rw[ae h1,show cx s.2.1 1 320=false from by rw[Bool.eq_false_iff];intro hc;have:=bW.1 hc;omega];rfl
 simp only[bne,aZ]at hsz⊢;rw[cL hsz];cases IU s p with|false=>rfl|true=>?_
 rw[ao (by omega),ao (by omega)];simp only[al,af,aZ,ab,cF,a9];rfl
theorem Ra (s:gD)(p:aO):pP s p=some (D2 s p):=by
 unfold pP D2 UB;rw[mH,ab,uV,ab,UR,ab];cases hs:dW s.1 with|false=>rfl|true=>?_
 cases hp:eF p with|false=>rfl|true=>?_
 cases II s.1 p with|false=>rfl|true=>?_
 cases h6:p.2.2.2.2.2.2.2.2.1==6 with|false=>simp only[bne,h6];rfl|true=>?_
 cases h16:s.1.2.2.2.2.2.2.2.2.2.2.2.2.2.1==16 with|false=>simp only[bne,h6,h16];rfl|true=>?_
 have hf:=Ch hp h6;have hsl:=G9 hs;have hpl:=Bl hp;simp only[bne,h6,h16,al,af,ab,F2 _ hf,a9];cases yU p.2.2.2.2.2.2.2.2.2.2.2.2.2.1 with|false=>rfl|true=>?_
 simp only[al,af,cC,ab,a9];rw[ao (show¬(4294967296:Nat)=0 by omega),ao (show¬(65536:Nat)=0 by omega)];simp only[aZ,cF];rw[show((p.2.2.2.2.2.2.2.2.2.2.2.1==Int.tmod (aq (s.1.2.2.2.2.2.2.2.2.2.2.2.1+(s.1.2.2.2.2.2.2.2.2.2.2.2.2.2.2.2.length:Int))) 4294967296)&&(p.2.2.2.2.1==Int.tmod (aq (s.1.2.2.2.2.1+s.2.2)) 65536))=ae3 s p from rfl];unfold IU;generalize ae3 s p=q;generalize s.1.2.2.2.2.2.2.2.2.2.2.2.2.2.2.2.length=n at hsl⊢;generalize p.2.2.2.2.2.2.2.2.2.2.2.2.2.2.2.length=m at hpl⊢;rw[wrap64 (n:=(n:Int)+(m:Int)) (by omega) (by omega)];by_cases h1:s.2.1<1;rw[ah h1,ae (show¬1≤s.2.1 by omega)];rfl;rw[ae h1,ah (show 1≤s.2.1 by omega)];cases h2:cx s.2.2 1 320 with|false=>rfl|true=>?_
 have h2':=bW.1 h2;simp only[al,af,ab,a9];rw[ao (by omega),ao (by omega)];have e1:Int.tmod (n:Int) s.2.2=(n:Int)%s.2.2:=cU (by omega);have e2:Int.tdiv (n:Int) s.2.2=(n:Int)/s.2.2:=Int.tdiv_eq_ediv_of_nonneg (by omega);have hdm:=Int.emod_add_mul_ediv (n:Int) s.2.2;have hq0:0≤(n:Int)/s.2.2:=Int.ediv_nonneg (by omega) (by omega);have hq1:(n:Int)/s.2.2≤(n:Int):=Int.ediv_le_self _ (by omega);rw[e1,e2,wrap64 (n:=(n:Int)/s.2.2) (by omega) (by omega)];by_cases h3:(n:Int)=s.2.1*s.2.2;have h4:(n:Int)%s.2.2=0:=by rw[h3];exact Int.mul_emod_left ..
 have h5:(n:Int)/s.2.2=s.2.1:=by rw[h3];exact Int.mul_ediv_cancel _ (by omega)
 rw[h4,h5,ah h3];simp only[dr,al,af,ab,a9];cases cx (m:Int) 1 s.2.1 with|false=>rfl|true=>?_
 cases decide ((n:Int)+(m:Int)≤320)<;>rfl;rw[ae h3];cases h4:(n:Int)%s.2.2==0 with
 |false=>rfl
 |true=>
  have h4':(n:Int)%s.2.2=0:=by simpa using h4
  have h5:((n:Int)/s.2.2==s.2.1)=false:=by rw[ch];intro h5;rw[h4',h5]at hdm;exact h3 (by rw[Int.mul_comm];omega)
  simp only[al,af,h5,di,ab,ai];rfl
def M4 (s:gD)(p:aO):gD:=bif D2 s p then((s.1.1,s.1.2.1,s.1.2.2.1,s.1.2.2.2.1,s.1.2.2.2.2.1,s.1.2.2.2.2.2.1,s.1.2.2.2.2.2.2.1,s.1.2.2.2.2.2.2.2.1,s.1.2.2.2.2.2.2.2.2.1,s.1.2.2.2.2.2.2.2.2.2.1,s.1.2.2.2.2.2.2.2.2.2.2.1,s.1.2.2.2.2.2.2.2.2.2.2.2.1,s.1.2.2.2.2.2.2.2.2.2.2.2.2.1,p.2.2.2.2.2.2.2.2.2.2.2.2.2.1,s.1.2.2.2.2.2.2.2.2.2.2.2.2.2.2.1,s.1.2.2.2.2.2.2.2.2.2.2.2.2.2.2.2++p.2.2.2.2.2.2.2.2.2.2.2.2.2.2.2),s.2.1,aq (s.2.2+1)) else s
theorem QD {s:gD}{p:aO}(h:D2 s p=true):s.1.2.2.2.2.2.2.2.2.2.2.2.2.2.2.2.length+p.2.2.2.2.2.2.2.2.2.2.2.2.2.2.2.length≤320:=by simp only[D2,IU,aj,aK]at h;have:=h.2.1.2.2.2.2;omega
theorem NY (s:gD)(p:aO):xc s p=some (M4 s p):=by
 unfold xc M4;rw[K8,ab];cases h:D2 s p with|false=>rfl|true=>?_
 have:=QD h;simp only[al,af,ai];rw[aJ (by omega)]
theorem UO (s:gD)(p:aO):zS s p=some (M4 s p):=by rw[←NY];unfold zS xc;rw[Ra,K8]
def singleR (p:aO):gD:=(p,(p.2.2.2.2.2.2.2.2.2.2.2.2.2.2.2.length:Int),1)
theorem Po (p:aO):zb p=some (singleR p):=rfl
theorem Qb (p:aO):zz p=some (singleR p):=rfl
def Gb (q:bn)(s:gD):bn:=(q.1,q.2.1,q.2.2.1,s,true,q.2.2.2.2.2)
def iw (l:List aN)(m:List Bytes)(d:Int)(q:bn)(k:Bytes)(p:aO)(c:Bool):List Bytes×bn:=
 bif !HJ q||(!eF p||((k.length:Int) !=16)) then(m,q) else
 bif c&&(q.2.2.2.2.1&&D2 q.2.2.2.1 p) then(m,q.1,q.2.1,q.2.2.1,M4 q.2.2.2.1 p,q.2.2.2.2) else
 bif c then((gu l m d q k).1,Gb (gu l m d q k).2 (singleR p)) else gu l (gu l m d q k).1 d (Gb (gu l m d q k).2 (singleR p)) k
theorem Pd (l:List aN)(m:List Bytes)(d:Int)(q:bn)(k:Bytes)(p:aO)(c:Bool)(hl:l.length≤1000000000)(hm:m.length≤1000000000):ko l m d q k p c=some (iw l m d q k p c):=by
 unfold ko iw Gb;simp only[Pn,uV,ab,k5 m (show m.length≤1073741824 by omega),Ra,UO,Im l m d q k hl hm,Po,Im l (gu l m d q k).1 d _ k hl (show(gu l m d q k).1.length≤1000000000 by rw[Mz];exact hm)];cases HJ q with|false=>rfl|true=>?_
 cases eF p with|false=>rfl|true=>?_
 cases (k.length:Int) !=16 with|true=>rfl|false=>?_
 cases c with|false=>rfl|true=>?_
 cases q.2.2.2.2.1 with|false=>rfl|true=>?_
 cases D2 q.2.2.2.1 p<;>rfl
theorem P5 (l:List aN)(m:List Bytes)(d:Int)(q:bn)(k:Bytes)(p:aO)(c:Bool)(hl:l.length≤1000000000)(hm:m.length≤1000000000):kB l m d q k p c=some (iw l m d q k p c):=by
 unfold kB iw Gb;simp only[Qa,vB,ab,pc m (show m.length≤1073741824 by omega),K8,NY,IY l m d q k hl hm,Qb,IY l (gu l m d q k).1 d _ k hl (show(gu l m d q k).1.length≤1000000000 by rw[Mz];exact hm)];cases HJ q with|false=>rfl|true=>?_
 cases eF p with|false=>rfl|true=>?_
 cases (k.length:Int) !=16 with|true=>rfl|false=>?_
 cases c with|false=>rfl|true=>?_
 cases q.2.2.2.2.1 with|false=>rfl|true=>?_
 cases D2 q.2.2.2.1 p<;>rfl
theorem MA {l:List aN}{m:List Bytes}{d:Int}{q:bn}{k:Bytes}(h:eP q.2.1=true):eP (gu l m d q k).2.2.1=true:=by
 unfold gu;cases !HJ q||(!q.2.2.2.2.1||((k.length:Int) !=16))with|true=>exact h|false=>?_
 have hs:eP (gN l m d q k (bO l m d q.1).1).2.1=true:=by
  unfold gN;cases !(dz (bO l m d q.1).1).2||(((dz (bO l m d q.1).1).1.1 !=3)||decide ((dz (bO l m d q.1).1).1.2.2.1<((eh q.2.2.2.1.1).1.length:Int)))with|true=>exact h|false=>?_
  cases (pH l m d (dz (bO l m d q.1).1).1.2.2.2.1 (eh q.2.2.2.1.1).1 true).2 with|false=>exact h|true=>?_
  exact(Rx h).1
 cases (bO l m d q.1).2.2&&(gN l m d q k (bO l m d q.1).1).2.2 with|true=>exact hs|false=>exact h
theorem Sn {n:Nat}{q:bn}{s:gD}(h:s.1.2.2.2.2.2.2.2.2.2.2.2.2.2.2.2.length≤n):bJ n bt (Gb q s):=⟨⟨trivial,trivial,trivial,trivial⟩,⟨trivial,trivial,trivial⟩,⟨trivial,trivial,trivial⟩,⟨⟨trivial,trivial,trivial,trivial,trivial,trivial,trivial,trivial,trivial,trivial,trivial,trivial,trivial,trivial,trivial,h⟩,trivial,trivial⟩,trivial,trivial⟩
theorem AR {n:Nat}(hn:1000≤n){l:List aN}{m:List Bytes}{d:Int}{q:bn}{k:Bytes}{p:aO}{c:Bool}(z:bJ n (.sl .str) m)(zq:bJ n bt q)(hq:eP q.2.1=true): bJ n (.sl .str) (iw l m d q k p c).1∧(iw l m d q k p c).1.length=m.length∧bJ n bt (iw l m d q k p c).2∧eP (iw l m d q k p c).2.2.1=true:=by
 unfold iw;cases hc: !HJ q||(!eF p||((k.length:Int) !=16))with|true=>exact⟨z,rfl,zq,hq⟩|false=>?_
 simp only[ei,fP]at hc;have hp:=Bl hc.2.1;cases hj:c&&(q.2.2.2.2.1&&D2 q.2.2.2.1 p)with|true=>simp only[aj]at hj;have:=QD hj.2.2;refine⟨z,rfl,⟨⟨trivial,trivial,trivial,trivial⟩,⟨trivial,trivial,trivial⟩,⟨trivial,trivial,trivial⟩,⟨?_,trivial,trivial⟩,trivial,trivial⟩,hq⟩;refine⟨trivial,trivial,trivial,trivial,trivial,trivial,trivial,trivial,trivial,trivial,trivial,trivial,trivial,trivial,trivial,?_⟩;unfold M4;rw[hj.2.2];show List.length (q.2.2.2.1.1.2.2.2.2.2.2.2.2.2.2.2.2.2.2.2++p.2.2.2.2.2.2.2.2.2.2.2.2.2.2.2)≤n;rw[ak];omega|false=>have hf:=Ie (show 128≤n by omega) (l:=l) (d:=d) (k:=k) z zq;have hfq:=MA (l:=l) (m:=m) (d:=d) (k:=k) hq;have hh:bJ n bt (Gb (gu l m d q k).2 (singleR p)):=Sn (by show p.2.2.2.2.2.2.2.2.2.2.2.2.2.2.2.length≤n;omega);cases c with|true=>exact⟨hf.1,hf.2.1,hh,hfq⟩|false=>have hf2:=Ie (show 128≤n by omega) (l:=l) (d:=d) (k:=k) hf.1 hh;exact⟨hf2.1,hf2.2.1.trans hf.2.1,hf2.2.2.1,MA (q:=Gb (gu l m d q k).2 (singleR p)) hfq⟩
theorem NM {r:dX}(h:vw r=true):0≤r.2.2.2.2.2.2.2.2:=by
 by_cases h0:0≤r.2.2.2.2.2.2.2.2;exact h0;exfalso;have e:∀b:Int,cx r.2.2.2.2.2.2.2.2 0 b=false:=λb=>by rw[Bool.eq_false_iff];intro hc;have:=bW.1 hc;omega
 have e1:(r.2.2.2.2.2.2.2.2==0)=false:=by rw[ch];omega
 revert h;unfold vw;have z:∀c:Bool,(bif c then false else false)=false:=by intro c;cases c<;>rfl
 simp only[gU,cc,ab,aZ,e,e1,dq,z,af];intro h;cases h
theorem I7 {s:dv}{q:Int}{p:aO}:rO s q p= -1∨∃n:Nat,rO s q p=(n:Int)∧(n:Int)<q:=by
 unfold rO;cases hb: !fF s q|| !dW p with|true=>exact .inl rfl|false=>?_
 simp only[ei,fP]at hb;have hs:=hb.1;simp only[fF,aj]at hs;simp only[af];cases hd:decide (wR s.1 p≥0)with
 |true=>obtain⟨n,hn,hl⟩:=F1 s.1 p (dy hd);simp only[ai,hn,ax,bM hl];cases s.1[n].2.2.2.2.2.2.2.1==1 with|true=>exact .inl rfl|false=>have h1:=aU.1 hs.1.2 _ (aL hl);have h2:=hs.1.1.1.1;simp only[tK,aj]at h2;have h3:=NM (aU.1 h2.1 _ (aL hl));simp only[aR,cV]at h1;exact .inr ⟨s.1[n].2.2.2.2.2.2.2.2.toNat,by simp only[af];omega,by omega⟩
 |false=>
  simp only[af];cases hd2:decide (findF s.2.1 (lj p)≥0)with
  |true=>obtain⟨n,hn,hl⟩:=F0 s.2.1 (lj p) (dy hd2);simp only[ai,hn,ax,bM hl];have h1:=aU.1 hs.2 _ (aL hl);have h2:=hs.1.1.1.2;simp only[mD,aj,aW]at h2;have h3:=aU.1 h2.2 n (cw.2 (by omega));unfold jT IV at h3;rw[rL hl]at h3;simp only[aj,bW]at h3;simp only[aR,cV]at h1;exact .inr ⟨s.2.1[n].2.2.toNat,by omega,by omega⟩
  |false=>
   simp only[af];unfold Af;cases hc: !oY s.2.2 q||decide (tu s.2.2 (lj p)<0)with|true=>exact .inl rfl|false=>?_
   simp only[ei,fP,cV]at hc;obtain⟨n,hn,hl⟩:=CS s.2.2 (lj p) hc.2;have h1:=hc.1;simp only[oY,aj]at h1;have h2:=bW.1 (aU.1 h1.2 _ (aL hl));simp only[af,hn,ax,bM hl];exact .inr ⟨s.2.2.2[n].toNat,by omega,by omega⟩
def yP (h:Host)(a b c d:Int):Host:=(h.1,h.2.1,h.2.2.1,h.2.2.2.1,h.2.2.2.2.1,h.2.2.2.2.2.1,h.2.2.2.2.2.2.1,h.2.2.2.2.2.2.2.1,h.2.2.2.2.2.2.2.2.1,h.2.2.2.2.2.2.2.2.2.1,h.2.2.2.2.2.2.2.2.2.2.1,h.2.2.2.2.2.2.2.2.2.2.2.1,h.2.2.2.2.2.2.2.2.2.2.2.2.1,h.2.2.2.2.2.2.2.2.2.2.2.2.2.1,aq (h.2.2.2.2.2.2.2.2.2.2.2.2.2.2.1+1),a,b,c,d)
def qQ (h:Host)(x:Bytes):Host:=
 bif !tO h then h else
 bif (w6 x).2 !=0 then yP h (aq (h.2.2.2.2.2.2.2.2.2.2.2.2.2.2.2.1+1)) h.2.2.2.2.2.2.2.2.2.2.2.2.2.2.2.2.1 h.2.2.2.2.2.2.2.2.2.2.2.2.2.2.2.2.2.1 h.2.2.2.2.2.2.2.2.2.2.2.2.2.2.2.2.2.2 else
 bif !sV h.2.2.2.2.2.2.2.1 (w6 x).1 then yP h h.2.2.2.2.2.2.2.2.2.2.2.2.2.2.2.1 (aq (h.2.2.2.2.2.2.2.2.2.2.2.2.2.2.2.2.1+1)) h.2.2.2.2.2.2.2.2.2.2.2.2.2.2.2.2.2.1 h.2.2.2.2.2.2.2.2.2.2.2.2.2.2.2.2.2.2 else
 bif rO h.2.2.2.2.2.2.2.2.1 (h.2.2.2.1.length:Int) (w6 x).1== -1 then yP h h.2.2.2.2.2.2.2.2.2.2.2.2.2.2.2.1 h.2.2.2.2.2.2.2.2.2.2.2.2.2.2.2.2.1 (aq (h.2.2.2.2.2.2.2.2.2.2.2.2.2.2.2.2.2.1+1)) h.2.2.2.2.2.2.2.2.2.2.2.2.2.2.2.2.2.2 else
 match h.2.2.2.1[(rO h.2.2.2.2.2.2.2.2.1 (h.2.2.2.1.length:Int) (w6 x).1).toNat]? with
 |some q=>Ho (yP h h.2.2.2.2.2.2.2.2.2.2.2.2.2.2.2.1 h.2.2.2.2.2.2.2.2.2.2.2.2.2.2.2.2.1 h.2.2.2.2.2.2.2.2.2.2.2.2.2.2.2.2.2.1 (aq (h.2.2.2.2.2.2.2.2.2.2.2.2.2.2.2.2.2.2+1))) (rO h.2.2.2.2.2.2.2.2.1 (h.2.2.2.1.length:Int) (w6 x).1).toNat q.2.1.2.2 (iw h.2.1 h.1 0 q h.2.2.2.2.2.2.2.2.1.2.2.1 (w6 x).1 h.2.2.2.2.2.2.2.2.2.2.1)
 |none=>h
theorem KH (h:Host)(x:Bytes)(k:OC 900000000 h)(hx:x.length≤1000000000):mL h x=some (qQ h x):=by
 have z:=k.z;have z1:h.1.length≤900000000:=z.1.1;have z2:h.2.1.length≤900000000:=z.2.1.1;have zf:h.2.2.2.2.2.2.2.1.2.2.length≤900000000:=z.2.2.2.2.2.2.2.1.2.2.1;have s1:h.2.2.2.2.2.2.2.2.1.1.length≤900000000:=z.2.2.2.2.2.2.2.2.1.1.1;have s2:h.2.2.2.2.2.2.2.2.1.2.1.length≤900000000:=z.2.2.2.2.2.2.2.2.1.2.1.1;have s3:h.2.2.2.2.2.2.2.2.1.2.2.2.length≤900000000:=z.2.2.2.2.2.2.2.2.1.2.2.2.1;unfold mL qQ;rw[BT h (z.mono (by omega)),ab,MS h (k.sz (by omega)),ab];cases hb:tO h with|false=>rfl|true=>?_
 have hl:=xV (by simp only[tO,aj]at hb;exact hb.2.2.2.2.1:yH h=true);have hr:=Bd hb;simp only[al,af,SB x hx,ab,MN h.2.2.2.2.2.2.2.1 _ (show h.2.2.2.2.2.2.2.1.2.2.length≤1000000000 by omega),SG h.2.2.2.2.2.2.2.2.1 _ _ (show h.2.2.2.2.2.2.2.2.1.1.length≤1000000000 by omega) (show h.2.2.2.2.2.2.2.2.1.2.1.length≤1000000000 by omega) (show h.2.2.2.2.2.2.2.2.1.2.2.2.length≤1000000000 by omega)];generalize w6 x=f;cases f.2 !=0 with|true=>rfl|false=>?_
 cases sV h.2.2.2.2.2.2.2.1 f.1 with|false=>rfl|true=>?_
 simp only[al,af];have hst:=I7 (s:=h.2.2.2.2.2.2.2.2.1) (q:=(h.2.2.2.1.length:Int)) (p:=f.1);generalize rO h.2.2.2.2.2.2.2.2.1 (h.2.2.2.1.length:Int) f.1=r at hst⊢;rcases hst with rfl|⟨n,rfl,hn⟩;rfl;have i1:n<h.2.2.2.1.length:=by omega
 have i2:n<h.2.2.2.2.2.1.length:=by omega
 have hq:=(xb (hr n i1)).1;have hqi:=oe hq;have ha:=AR (show 1000≤900000000 by omega) (l:=h.2.1) (d:=0) (k:=h.2.2.2.2.2.2.2.2.1.2.2.1) (p:=f.1) (c:=h.2.2.2.2.2.2.2.2.2.2.1) z.1 (z.2.2.2.1.2 _ (aL i1)) hq;have ev:=D0 (h:=yP h h.2.2.2.2.2.2.2.2.2.2.2.2.2.2.2.1 h.2.2.2.2.2.2.2.2.2.2.2.2.2.2.2.2.1 h.2.2.2.2.2.2.2.2.2.2.2.2.2.2.2.2.2.1 (aq (h.2.2.2.2.2.2.2.2.2.2.2.2.2.2.2.2.2.2+1))) (k:=n) (b:=h.2.2.2.1[n].2.1.2.2) (f:=iw h.2.1 h.1 0 h.2.2.2.1[n] h.2.2.2.2.2.2.2.2.1.2.2.1 f.1 h.2.2.2.2.2.2.2.2.2.2.1) i1 i2 ha.2.2.2 (by omega);rw[show((n:Int)== -1)=false from by rw[ch];omega,ax,List.getElem?_eq_getElem i1];simp only[af,aX i1,ab,Pd h.2.1 h.1 0 _ _ _ _ (show h.2.1.length≤1000000000 by omega) (show h.1.length≤1000000000 by omega)];rw[show(jA ((iw h.2.1 h.1 0 h.2.2.2.1[n] h.2.2.2.2.2.2.2.2.1.2.2.1 f.1 h.2.2.2.2.2.2.2.2.2.2.1).1,h.2.1,h.2.2.1,h.2.2.2.1.set n (iw h.2.1 h.1 0 h.2.2.2.1[n] h.2.2.2.2.2.2.2.2.1.2.2.1 f.1 h.2.2.2.2.2.2.2.2.2.2.1).2,h.2.2.2.2.1,h.2.2.2.2.2.1,h.2.2.2.2.2.2.1,h.2.2.2.2.2.2.2.1,h.2.2.2.2.2.2.2.2.1,h.2.2.2.2.2.2.2.2.2.1,h.2.2.2.2.2.2.2.2.2.2.1,h.2.2.2.2.2.2.2.2.2.2.2.1,h.2.2.2.2.2.2.2.2.2.2.2.2.1,h.2.2.2.2.2.2.2.2.2.2.2.2.2.1,aq (h.2.2.2.2.2.2.2.2.2.2.2.2.2.2.1+1),h.2.2.2.2.2.2.2.2.2.2.2.2.2.2.2.1,h.2.2.2.2.2.2.2.2.2.2.2.2.2.2.2.2.1,h.2.2.2.2.2.2.2.2.2.2.2.2.2.2.2.2.2.1,aq (h.2.2.2.2.2.2.2.2.2.2.2.2.2.2.2.2.2.2+1)) (n:Int) h.2.2.2.1[n].2.1.2.2)=_ from ev.1,ab]
theorem Lg (h:Host)(x:Bytes)(k:OC 900000000 h)(hx:x.length≤1000000000):nk h x=some (qQ h x):=by
 have z:=k.z;have z1:h.1.length≤900000000:=z.1.1;have z2:h.2.1.length≤900000000:=z.2.1.1;have zf:h.2.2.2.2.2.2.2.1.2.2.length≤900000000:=z.2.2.2.2.2.2.2.1.2.2.1;have s1:h.2.2.2.2.2.2.2.2.1.1.length≤900000000:=z.2.2.2.2.2.2.2.2.1.1.1;have s2:h.2.2.2.2.2.2.2.2.1.2.1.length≤900000000:=z.2.2.2.2.2.2.2.2.1.2.1.1;have s3:h.2.2.2.2.2.2.2.2.1.2.2.2.length≤900000000:=z.2.2.2.2.2.2.2.2.1.2.2.2.1;unfold nk qQ;rw[Cq h (z.mono (by omega)),ab,NW h (k.sz (by omega)),ab];cases hb:tO h with|false=>rfl|true=>?_
 have hl:=xV (by simp only[tO,aj]at hb;exact hb.2.2.2.2.1:yH h=true);have hr:=Bd hb;simp only[al,af,Tv x hx,ab,NS h.2.2.2.2.2.2.2.1 _ (show h.2.2.2.2.2.2.2.1.2.2.length≤1000000000 by omega),Tx h.2.2.2.2.2.2.2.2.1 _ _ (show h.2.2.2.2.2.2.2.2.1.1.length≤1000000000 by omega) (show h.2.2.2.2.2.2.2.2.1.2.1.length≤1000000000 by omega) (show h.2.2.2.2.2.2.2.2.1.2.2.2.length≤1000000000 by omega)];generalize w6 x=f;cases f.2 !=0 with|true=>rfl|false=>?_
 cases sV h.2.2.2.2.2.2.2.1 f.1 with|false=>rfl|true=>?_
 simp only[al,af];have hst:=I7 (s:=h.2.2.2.2.2.2.2.2.1) (q:=(h.2.2.2.1.length:Int)) (p:=f.1);generalize rO h.2.2.2.2.2.2.2.2.1 (h.2.2.2.1.length:Int) f.1=r at hst⊢;rcases hst with rfl|⟨n,rfl,hn⟩;rfl;have i1:n<h.2.2.2.1.length:=by omega
 have i2:n<h.2.2.2.2.2.1.length:=by omega
 have hq:=(xb (hr n i1)).1;have hqi:=oe hq;have ha:=AR (show 1000≤900000000 by omega) (l:=h.2.1) (d:=0) (k:=h.2.2.2.2.2.2.2.2.1.2.2.1) (p:=f.1) (c:=h.2.2.2.2.2.2.2.2.2.2.1) z.1 (z.2.2.2.1.2 _ (aL i1)) hq;have ev:=D0 (h:=yP h h.2.2.2.2.2.2.2.2.2.2.2.2.2.2.2.1 h.2.2.2.2.2.2.2.2.2.2.2.2.2.2.2.2.1 h.2.2.2.2.2.2.2.2.2.2.2.2.2.2.2.2.2.1 (aq (h.2.2.2.2.2.2.2.2.2.2.2.2.2.2.2.2.2.2+1))) (k:=n) (b:=h.2.2.2.1[n].2.1.2.2) (f:=iw h.2.1 h.1 0 h.2.2.2.1[n] h.2.2.2.2.2.2.2.2.1.2.2.1 f.1 h.2.2.2.2.2.2.2.2.2.2.1) i1 i2 ha.2.2.2 (by omega);rw[show((n:Int)== -1)=false from by rw[ch];omega,ae (show¬(n:Int)<0 by omega),ax,List.getElem?_eq_getElem i1];simp only[af,aX i1,ab,P5 h.2.1 h.1 0 _ _ _ _ (show h.2.1.length≤1000000000 by omega) (show h.1.length≤1000000000 by omega)];rw[show(jY ((iw h.2.1 h.1 0 h.2.2.2.1[n] h.2.2.2.2.2.2.2.2.1.2.2.1 f.1 h.2.2.2.2.2.2.2.2.2.2.1).1,h.2.1,h.2.2.1,h.2.2.2.1.set n (iw h.2.1 h.1 0 h.2.2.2.1[n] h.2.2.2.2.2.2.2.2.1.2.2.1 f.1 h.2.2.2.2.2.2.2.2.2.2.1).2,h.2.2.2.2.1,h.2.2.2.2.2.1,h.2.2.2.2.2.2.1,h.2.2.2.2.2.2.2.1,h.2.2.2.2.2.2.2.2.1,h.2.2.2.2.2.2.2.2.2.1,h.2.2.2.2.2.2.2.2.2.2.1,h.2.2.2.2.2.2.2.2.2.2.2.1,h.2.2.2.2.2.2.2.2.2.2.2.2.1,h.2.2.2.2.2.2.2.2.2.2.2.2.2.1,aq (h.2.2.2.2.2.2.2.2.2.2.2.2.2.2.1+1),h.2.2.2.2.2.2.2.2.2.2.2.2.2.2.2.1,h.2.2.2.2.2.2.2.2.2.2.2.2.2.2.2.2.1,h.2.2.2.2.2.2.2.2.2.2.2.2.2.2.2.2.2.1,aq (h.2.2.2.2.2.2.2.2.2.2.2.2.2.2.2.2.2.2+1)) (n:Int) h.2.2.2.1[n].2.1.2.2)=_ from ev.2,ab]
theorem NJ {n:Nat}(hn:1000≤n){h:Host}(x:Bytes)(k:OC n h):OC n (qQ h x)∧(qQ h x).2.2.1=h.2.2.1∧(qQ h x).2.2.2.2.1.length=h.2.2.2.2.1.length:=by
 have z:=k.z;have zc:∀a b c d,OC n (yP h a b c d):=λa b c d=>⟨⟨z.1,z.2.1,z.2.2.1,z.2.2.2.1,z.2.2.2.2.1,z.2.2.2.2.2.1,z.2.2.2.2.2.2.1,z.2.2.2.2.2.2.2.1,z.2.2.2.2.2.2.2.2.1,z.2.2.2.2.2.2.2.2.2.1,z.2.2.2.2.2.2.2.2.2.2.1,z.2.2.2.2.2.2.2.2.2.2.2.1,z.2.2.2.2.2.2.2.2.2.2.2.2.1,z.2.2.2.2.2.2.2.2.2.2.2.2.2.1,trivial,trivial,trivial,trivial,trivial⟩,k.t⟩
 unfold qQ;cases hb:tO h with|false=>exact⟨k,rfl,rfl⟩|true=>?_
 have hr:=Bd hb;generalize w6 x=f;cases f.2 !=0 with|true=>exact⟨zc ..,rfl,rfl⟩|false=>?_
 cases sV h.2.2.2.2.2.2.2.1 f.1 with|false=>exact⟨zc ..,rfl,rfl⟩|true=>?_
 simp only[al,af];generalize rO h.2.2.2.2.2.2.2.2.1 (h.2.2.2.1.length:Int) f.1=r;cases r== -1 with|true=>exact⟨zc ..,rfl,rfl⟩|false=>?_
 simp only[af];cases hq:h.2.2.2.1[r.toNat]? with|none=>exact⟨k,rfl,rfl⟩|some q=>?_
 obtain⟨hi,hqe⟩:=List.getElem?_eq_some_iff.1 hq;have hqd:=(xb (hr _ hi)).1;rw[hqe]at hqd;have ha:=AR hn (l:=h.2.1) (d:=0) (k:=h.2.2.2.2.2.2.2.2.1.2.2.1) (p:=f.1) (c:=h.2.2.2.2.2.2.2.2.2.2.1) z.1 (z.2.2.2.1.2 _ (List.mem_of_getElem? hq)) hqd;have zc':=zc h.2.2.2.2.2.2.2.2.2.2.2.2.2.2.2.1 h.2.2.2.2.2.2.2.2.2.2.2.2.2.2.2.2.1 h.2.2.2.2.2.2.2.2.2.2.2.2.2.2.2.2.2.1 (aq (h.2.2.2.2.2.2.2.2.2.2.2.2.2.2.2.2.2.2+1));have kk:=Ov (h:=yP h h.2.2.2.2.2.2.2.2.2.2.2.2.2.2.2.1 h.2.2.2.2.2.2.2.2.2.2.2.2.2.2.2.2.1 h.2.2.2.2.2.2.2.2.2.2.2.2.2.2.2.2.2.1 (aq (h.2.2.2.2.2.2.2.2.2.2.2.2.2.2.2.2.2.2+1))) (k:=r.toNat) (b:=q.2.1.2.2) (f:=iw h.2.1 h.1 0 q h.2.2.2.2.2.2.2.2.1.2.2.1 f.1 h.2.2.2.2.2.2.2.2.2.2.1) ha.2.1;exact⟨⟨Qu zc'.z ha.1 ha.2.2.1,by rw[kk.tx];exact k.t⟩,kk.tx,kk.pl⟩
def Yn:aE:=(0,0,(0,0,0),false,0,0)
def zJ (b:Int×Int×Int):Bool:=cx b.1 0 10000&&(cx b.2.1 0 100000&&cx b.2.2 0 b.2.1)
def F7 (n:Int)(f:aE):Bool:=cx f.1 0 7&&(cx f.2.1 1 (aq (n-1))&&(zJ f.2.2.1&&(cx f.2.2.2.2.1 0 1000000000000&&cx f.2.2.2.2.2 0 1000000000000)))
def Ur (f g:aE):Bool:=(g.1==f.1)||(g.2.1==f.2.1)
def fnB (l:List aE)(n:Int)(i:Nat):Bool:=F7 n (l.getD i Yn)&&(List.range i).all (λj=> !(Ur (l.getD i Yn) (l.getD j Yn)))
def iX (l:List aE)(ps:List Port):Bool:=fb ps&&(List.range l.length).all (fnB l (ps.length:Int))
theorem GY (b:Int×Int×Int):sH b=some (zJ b):=by simp only[sH,cc,ab,aZ,cF,zJ]
theorem Pe (b:Int×Int×Int):wy b=some (zJ b):=GY b
theorem HN (l:List aE)(ps:List Port)(h:l.length≤1000000000)(h1:ps.length≤1000000000)(h2:∀p∈ps,p.2.1.length≤1000000000):nj l ps=some (iX l ps):=by
 unfold nj iX;rw[eM (hit:=some false) (fin:=some true) (fnB l (ps.length:Int)) l.length (by omega) (λi nx hi=>?hs) (λnx=>?hf)]
 case hs=>
  simp only[ju]
  rw[ah (by omega),aX hi,wrap64 (n:=(i:Int)+1) (by omega) (by omega)]
  simp only[ai,ab,cc,GY,aZ,cT]
  rw[eM (hit:=some false) (fin:=nx ((i:Int)+1)) (λj=> !(Ur l[i] (l.getD j Yn))) i (by omega) (λj nx' hj=>?hs2) (λnx'=>?hf2)]
  case hs2=>
   have hjl:j<l.length:=by omega
   simp only[iQ]
   rw[ah (by omega),aX hjl,wrap64 (n:=(j:Int)+1) (by omega) (by omega)]
   simp only[ai,ab,aZ,cT,bM hjl,c8];rfl
  case hf2=>
   simp only[iQ]
   rw[ae (by omega)];rfl
  simp only[fnB,bM hi]
  rw[show(!cx l[i].1 0 7||(!cx l[i].2.1 1 (aq ((ps.length:Int)-1))||(!zJ l[i].2.2.1||(!cx l[i].2.2.2.2.1 0 1000000000000|| !cx l[i].2.2.2.2.2 0 1000000000000))))= !F7 (ps.length:Int) l[i] by unfold F7;simp only[fG]]
  cases F7 (ps.length:Int) l[i]<;>cases (List.range i).all (λj=> !(Ur l[i] (l.getD j Yn)))<;>rfl
 case hf=>
  simp only[ju]
  rw[ae (by omega)];rfl
 simp only[Ab ps h1 h2,ab];cases fb ps<;>cases (List.range l.length).all (fnB l (ps.length:Int))<;>rfl
theorem Hz (l:List aE)(ps:List Port)(h:l.length≤1000000000)(h1:ps.length≤1000000000)(h2:∀p∈ps,p.2.1.length≤1000000000):mK l ps=some (iX l ps):=by
 unfold mK iX;rw[eM (hit:=some false) (fin:=some true) (fnB l (ps.length:Int)) l.length (by omega) (λi nx hi=>?hs) (λnx=>?hf)]
 case hs=>
  simp only[jm]
  rw[ah (by omega),aX hi,wrap64 (n:=(i:Int)+1) (by omega) (by omega),N8 l i (by omega)]
  simp only[ai,ab,cC,Pe,aZ,cT]
  have hti:(l.take i).length=i:=by simp;omega
  rw[hti,eM (hit:=some false) (fin:=nx ((i:Int)+1)) (λj=> !(Ur l[i] (l.getD j Yn))) i (by omega) (λj nx' hj=>?hs2) (λnx'=>?hf2)]
  case hs2=>
   have hjl:j<l.length:=by omega
   have hjt:j<(l.take i).length:=by omega
   simp only[jn]
   rw[ah (by omega),aX hjt,wrap64 (n:=(j:Int)+1) (by omega) (by omega),List.getElem_take]
   simp only[ai,ab,aZ,cT,bM hjl,c8];rfl
  case hf2=>
   simp only[jn]
   rw[ae (by omega)];rfl
  simp only[fnB,bM hi]
  rw[show(!cx l[i].1 0 7||(!cx l[i].2.1 1 (aq ((ps.length:Int)-1))||(!zJ l[i].2.2.1||(!cx l[i].2.2.2.2.1 0 1000000000000|| !cx l[i].2.2.2.2.2 0 1000000000000))))= !F7 (ps.length:Int) l[i] by unfold F7;simp only[fG]]
  cases F7 (ps.length:Int) l[i]<;>cases (List.range i).all (λj=> !(Ur l[i] (l.getD j Yn)))<;>rfl
 case hf=>
  simp only[jm]
  rw[ae (by omega)];rfl
 simp only[zR ps h1 h2,ab];cases fb ps<;>cases (List.range l.length).all (fnB l (ps.length:Int))<;>rfl
def wF (l:List aE)(i:Nat):Bool:=((l.getD i Yn).1==(i:Int))&&((l.getD i Yn).2.1==(i:Int)+1)
theorem Pk (l:List aE)(h:l.length≤1000000000):qb l=some ((List.range l.length).all (wF l)):=by
 unfold qb;rw[eM (hit:=some false) (fin:=some true) (wF l) l.length (by omega) (λi nx hi=>?hs) (λnx=>?hf)]
 case hs=>
  simp only[lD]
  rw[ah (by omega),aX hi,wrap64 (n:=(i:Int)+1) (by omega) (by omega)]
  simp only[ai,ab,aZ,cT,bne,wF,bM hi]
  cases l[i].1==(i:Int)<;>cases l[i].2.1==(i:Int)+1<;>rfl
 case hf=>
  simp only[lD]
  rw[ae (by omega)];rfl
 cases (List.range l.length).all (wF l)<;>rfl
theorem Lb (a b:Filter)(h:a.2.2.length≤1000000000):pg a b=some (Ej a b):=BV a b h
theorem F8:∀(ms:List bl)(i:Nat)(s:List Int×List Port),Lx i s→ms.all pA=true→Lx (i+ms.length) (ms.foldl AJ s)
 |[],i,s,h,_=>h
 |m::ms,i,s,h,hm=>by rw[bD,aj]at hm;have hu:=xf m.1.2.2 s.1;have hl:=wX hm.1;have:=F8 ms (i+1) (AJ s m) (h.port hm.1 _ (by omega)) hm.2;rw[List.foldl_cons,bj,show i+(ms.length+1)=i+1+ms.length by omega];exact this
theorem Nz {ms:List bl}(h:(fC ms).2=true):ms.length≤3:=by unfold fC at h;cases hq:cx (ms.length:Int) 1 3&&(ms.all pA&&fb (wg ms))with|false=>rw[hq]at h;cases h|true=>simp only[aj]at hq;have:=bW.1 hq.1;omega
theorem zZ (ms:List bl):(fC ms).1.length≤1000000000∧∀p∈(fC ms).1,p.2.1.length≤1000000000:=by unfold fC;cases hc:cx (ms.length:Int) 1 3&&(ms.all pA&&fb (wg ms))with|false=>exact⟨by simp,by simp⟩|true=>simp only[aj,bW]at hc;have:=F8 ms 0 ([0],[]) ⟨by simp,rfl,by simp⟩ hc.2.1;rw[bU]at this;exact zo this (by omega)
def Yp (v:Int)(b:Bytes):Bytes:=((eB v++eB (b.length:Int))++b)++eB (H4 ((eB v++eB (b.length:Int))++b))
def iu (v:Int)(b:Bytes):Bytes×Bool:=bif cx v 0 1000000&&decide (b.length≤84) then(Yp v b,true) else([],false)
theorem VN (v:Int)(b:Bytes)(h:b.length≤1000000000):ra v b=some (iu v b):=by have l1:=cA v;have l2:=cA (b.length:Int);unfold ra iu;rw[wrap64 (by omega) (by omega)];simp only[cc,ab];cases cx v 0 1000000 with|false=>rfl|true=>by_cases hb:b.length≤84;have l3:=cA (H4 ((eB v++eB (b.length:Int))++b));rw[ae (show¬((b.length:Int)+12>96) by omega),ah hb];simp only[al,af,ab,dK,ai,je];rw[aJ (by omega),aJ (by simp only[ak];omega),RG _ (by simp only[ak];omega)];simp only[ab,je];rw[aJ (by simp only[ak];omega)];rfl;rw[ah (show((b.length:Int)+12>96) by omega),ae hb];rfl
theorem UQ (v:Int)(b:Bytes)(h:b.length≤1000000000):pW v b=some (iu v b):=by have l1:=cA v;have l2:=cA (b.length:Int);unfold pW iu;rw[wrap64 (by omega) (by omega)];simp only[cC,ab];cases cx v 0 1000000 with|false=>rfl|true=>by_cases hb:b.length≤84;have l3:=cA (H4 ((eB v++eB (b.length:Int))++b));rw[ae (show¬(12+(b.length:Int)>96) by omega),ah hb];simp only[al,af,ab,dK,ai,pb];rw[aJ (by omega),aJ (by simp only[ak];omega),Rc _ (by simp only[ak];omega)];simp only[ab,pb];rw[aJ (by simp only[ak];omega)];rfl;rw[ah (show(12+(b.length:Int)>96) by omega),ae hb];rfl
def XW (s:Bytes)(n:Nat):Int:=bif (iu (dZ s 0) ((s.take (8+n)).drop 8)).2&&((iu (dZ s 0) ((s.take (8+n)).drop 8)).1==s.take (12+n)) then dZ s 0 else-1
def nC (s:Bytes):Int:=if 0≤dZ s 4∧dZ s 4≤(s.length:Int)-12 then XW s (dZ s 4).toNat else-1
theorem ME (s:Bytes)(a:Int): -1≤dZ s a∧dZ s a≤4294967295:=by unfold dZ;cases dE s a 4 with|false=>simp only[af];omega|true=>have b0:=dc s a.toNat;have b1:=dc s (a.toNat+1);have b2:=dc s (a.toNat+2);have b3:=dc s (a.toNat+3);simp only[ai];omega
theorem TH {s:Bytes}{n:Nat}(h:¬n≤84)(hs:n+12≤s.length):XW s n= -1:=by
 have:(iu (dZ s 0) ((s.take (8+n)).drop 8)).2=false:=by unfold iu;rw[ae (by simp only[bd,bf];omega),gi];rfl
 unfold XW;rw[this];rfl
theorem RK (s:Bytes)(h:s.length≤1000000000):iR s=some (nC s):=by
 unfold iR nC;have hg:=ME s 4;simp only[uK s _ h,cc,ab];rw[wrap64 (n:=dZ s 4+12) (by omega) (by omega),wrap64 (n:=8+dZ s 4) (by omega) (by omega)];generalize dZ s 4=n at hg;by_cases hc:0≤n∧n≤(s.length:Int)-12;rw[ay hc];obtain⟨m,rfl⟩:=aM hc.1;by_cases h84:m≤84;have e1:cx (m:Int) 0 84=true:=bW.2 (by omega);have e2:sub s 8 (8+(m:Int))=some ((s.take (8+m)).drop 8):=by unfold sub;rw[ay (by omega)];rfl
 have e3:sub s 0 ((m:Int)+12)=some (s.take (12+m)):=by unfold sub;rw[ay (by omega),show((m:Int)+12).toNat=12+m by omega];rfl
 rw[e1,ae (show¬((m:Int)+12>(s.length:Int)) by omega),e2,e3];simp only[al,af,ab,ax];rw[VN _ _ (by simp only[bd,bf];omega)];unfold XW;simp only[ab];cases (iu (dZ s 0) ((s.take (8+m)).drop 8)).2<;>cases ((iu (dZ s 0) ((s.take (8+m)).drop 8)).1==s.take (12+m))<;>rfl;have e1:cx (m:Int) 0 84=false:=by rw[Bool.eq_false_iff,ne_eq,bW];omega
 rw[e1,ax,TH h84 (by omega)];rfl;rw[ao hc];by_cases hb:cx n 0 84=true;have:=bW.1 hb;rw[hb,ah (show n+12>(s.length:Int) by omega)];rfl;have hb':cx n 0 84=false:=by simpa using hb
 rw[hb'];rfl
theorem Rg (s:Bytes)(h:s.length≤1000000000):iH s=some (nC s):=by
 unfold iH nC;have hg:=ME s 4;simp only[wS s _ h,ab];rw[wrap64 (n:=12+dZ s 4) (by omega) (by omega),wrap64 (n:=8+dZ s 4) (by omega) (by omega),wrap64 (n:=(s.length:Int)-12) (by omega) (by omega)];generalize dZ s 4=n at hg;by_cases hc:0≤n∧n≤(s.length:Int)-12;rw[ay hc];obtain⟨m,rfl⟩:=aM hc.1;have e2:sub s 8 (8+(m:Int))=some ((s.take (8+m)).drop 8):=by unfold sub;rw[ay (by omega)];rfl
 have e3:sub s 0 (12+(m:Int))=some (s.take (12+m)):=by unfold sub;rw[ay (by omega),show(12+(m:Int)).toNat=12+m by omega];rfl
 rw[ae (show¬((m:Int)<0) by omega),ae (show¬((m:Int)>(s.length:Int)-12) by omega),e2,e3];simp only[af,ab,ax];rw[UQ _ _ (by simp only[bd,bf];omega)];unfold XW;simp only[ab];cases (iu (dZ s 0) ((s.take (8+m)).drop 8)).2<;>cases ((iu (dZ s 0) ((s.take (8+m)).drop 8)).1==s.take (12+m))<;>rfl;rw[ao hc];by_cases h0:n<0;rw[ah h0];rfl;rw[ae h0,ah (show n>(s.length:Int)-12 by omega)];rfl
def yV (f:List Bytes):Bool:=((f.length:Int)==2)&&((((f.getD 0 []).length:Int)==96)&&(((f.getD 1 []).length:Int)==96))
theorem Ib {f:List Bytes}(h:yV f=true):f=[f.getD 0 [],f.getD 1 []]∧(f.getD 0 []).length=96∧(f.getD 1 []).length=96:=by simp only[yV,aj,aW]at h;match f,h with|[a,b],h=>have h1:(a.length:Int)=96:=h.2.1;have h2:(b.length:Int)=96:=h.2.2;exact⟨rfl,by show a.length=96;omega,by show b.length=96;omega⟩
theorem IX (f:List Bytes):ur f=some (yV f):=by
 unfold ur yV;match f with
 |[]=>rfl
 |[a]=>rfl
 |[a,b]=>have i0:idx [a,b] 0=some a:=rfl;have i1:idx [a,b] 1=some b:=rfl;rw[i0,i1];simp only[ab,aZ,cF];rfl
 |a::b::c::r=>
  have:(((a::b::c::r).length:Int)==2)=false:=by simp only[bj,ch];omega
  rw[this];rfl
theorem Su (f:List Bytes):xy f=some (yV f):=IX f
def rE (f:List Bytes):Int:=bif yV f then(if nC (f.getD 0 [])<0∧nC (f.getD 1 [])<0 then-1 else if nC (f.getD 1 [])>nC (f.getD 0 []) then 1 else 0) else-1
theorem VD (f:List Bytes):sG f=some (rE f):=by unfold sG rE;rw[IX,ab];cases hf:yV f with|false=>rfl|true=>obtain⟨e,l0,l1⟩:=Ib hf;generalize f.getD 0 []=a at*;generalize f.getD 1 []=b at*;subst e;have i0:idx [a,b] 0=some a:=rfl;have i1:idx [a,b] 1=some b:=rfl;simp only[al,af,ai,i0,i1,ab,RK a (by omega),RK b (by omega)];by_cases p:nC a<0<;>by_cases q:nC b<0<;>by_cases r:nC b>nC a<;>simp[p,q,r]
theorem UE (f:List Bytes):rX f=some (rE f):=by
 unfold rX rE;rw[Su,ab];cases hf:yV f with
 |false=>rfl
 |true=>
  obtain⟨e,l0,l1⟩:=Ib hf;generalize f.getD 0 []=a at*;generalize f.getD 1 []=b at*;subst e;have i0:idx [a,b] 0=some a:=rfl;have i1:idx [a,b] 1=some b:=rfl;simp only[al,af,ai,i0,i1,ab,Rg a (by omega),Rg b (by omega)];by_cases r:nC b>nC a;have r':¬nC a≥nC b:=by omega
  by_cases p:nC a<0<;>by_cases q:nC b<0<;>simp[p,q,r,r'];have r':nC a≥nC b:=by omega
  by_cases p:nC a<0<;>by_cases q:nC b<0<;>simp[p,q,r,r']
def xm (c:Int×Int×Int×Int):Bool:=cx c.1 0 1125899906842624&&(cx c.2.1 0 1048575&&(cx c.2.2.1 0 67108864&&cx c.2.2.2 0 1099511627776))
theorem IW (c:Int×Int×Int×Int):um c=some (xm c):=by simp only[um,cc,ab,aZ,cF,xm]
theorem Sr (c:Int×Int×Int×Int):xx c=some (xm c):=IW c
def xj (c:dj)(i:Nat):Bool:=(c.1[i]?.all tO)&&Ej (c.1[i]?.map (·.2.2.2.2.2.2.2.1)) (c.2.2.1[i]?.map (·.1))
def Cb (c:dj):Bool:=((c.1.length:Int)==(c.2.2.1.length:Int))&&((c.2.1.length:Int)==(c.2.2.1.length:Int))
def wN (c:dj):Bool:=(fC c.2.2.1).2&&(Cb c&&(iX c.2.1 (fC c.2.2.1).1&&((!decide (rE c.2.2.2.1<0)&&xm c.2.2.2.2.1)&&((List.range c.1.length).all (xj c)&&(List.range c.1.length).all (wF c.2.1)))))
structure OB (c:dj):Prop where
 h0:c.1.length≤1000000000
 f0:c.2.1.length≤1000000000
 m:∀m∈c.2.2.1,m.1.2.2.length≤1000000000
 h1:∀h∈c.1,Jl h
theorem C3 {c:dj}(h:Cb c=true):c.1.length=c.2.2.1.length∧c.2.1.length=c.2.2.1.length:=by unfold Cb at h;simp only[aj,aW]at h;omega
theorem EK {c:dj}(i:Nat)(hi:i<c.1.length)(hj:i<c.2.2.1.length):xj c i=(tO c.1[i]&&Ej c.1[i].2.2.2.2.2.2.2.1 c.2.2.1[i].1):=by unfold xj;rw[List.getElem?_eq_getElem hi,List.getElem?_eq_getElem hj];congr 1;apply Ku;rw[zK];simp
theorem TS:∀(l:List Nat)(p q:Nat→Bool),l.all (λx=>p x&&q x)=(l.all p&&l.all q):=by intro l p q;induction l with|nil=>rfl|cons x l ih=>simp only[bD,ih];cases p x<;>cases q x<;>cases l.all p<;>rfl
theorem VE (c:dj)(z:OB c):wk c=some (wN c):=by
 have hp:=zZ c.2.2.1;unfold wk wN;simp only[DN _ z.m,HN _ _ z.f0 hp.1 hp.2,VD,IW,ab,aZ,cT,bne];rw[show((!((c.1.length:Int)==(c.2.2.1.length:Int)))||((!((c.2.1.length:Int)==(c.2.2.1.length:Int)))||((!iX c.2.1 (fC c.2.2.1).1)||(decide (rE c.2.2.2.1<0)|| !xm c.2.2.2.2.1))))= !(Cb c&&(iX c.2.1 (fC c.2.2.1).1&&(!decide (rE c.2.2.2.1<0)&&xm c.2.2.2.2.1))) by unfold Cb;simp only[fG,Bool.or_assoc,c8]];cases (fC c.2.2.1).2 with|false=>rfl|true=>?_
 cases hl:Cb c with|false=>rfl|true=>?_
 cases iX c.2.1 (fC c.2.2.1).1 with|false=>rfl|true=>?_
 cases (!decide (rE c.2.2.2.1<0)&&xm c.2.2.2.2.1)with|false=>rfl|true=>?_
 have hL:=C3 hl;have h0:=z.h0;simp only[al,cY,Bool.and_true,af,a9];rw[eM (hit:=some false) (fin:=some true) (λi=>xj c i&&wF c.2.1 i) c.2.2.1.length (by omega) (λi nx hi=>?hs) (λnx=>?hf)]
 case hs=>
  have q1:i<c.1.length:=by omega
  have q2:i<c.2.1.length:=by omega
  have hm:=aL q1
  rw[EK i q1 hi]
  simp only[qU]
  rw[ah (by omega),aX q1,aX hi,aX q2,wrap64 (n:=(i:Int)+1) (by omega) (by omega)]
  simp only[ai,ab,NW _ (z.h1 _ hm),Lb _ _ (z.h1 _ hm).f1,aZ,cT,bne,wF,bM q2]
  cases tO c.1[i]<;>cases Ej c.1[i].2.2.2.2.2.2.2.1 c.2.2.1[i].1<;>cases c.2.1[i].1==(i:Int)<;>cases c.2.1[i].2.1==(i:Int)+1<;>rfl
 case hf=>
  simp only[qU]
  rw[ae (by omega)];rfl
 rw[TS,←hL.1];cases (List.range c.1.length).all (xj c)<;>cases (List.range c.1.length).all (wF c.2.1)<;>rfl
theorem UF (c:dj)(z:OB c):vM c=some (wN c):=by
 have hp:=zZ c.2.2.1;unfold vM wN;simp only[DC _ z.m,Hz _ _ z.f0 hp.1 hp.2,Pk _ z.f0,UE,Sr,ab,aZ,cT,cF,bne];rw[show((!((c.1.length:Int)==(c.2.2.1.length:Int)))|| !((c.2.1.length:Int)==(c.2.2.1.length:Int)))= !(Cb c) by unfold Cb;simp only[fG]];cases (fC c.2.2.1).2 with|false=>rfl|true=>?_
 cases hl:Cb c with|false=>rfl|true=>?_
 have hL:=C3 hl;have h0:=z.h0;simp only[al,cY,af,a9];have hd:decide (rE c.2.2.2.1≥0)= !decide (rE c.2.2.2.1<0):=by by_cases h:rE c.2.2.2.1<0;rw[ah h,ae (by omega)];rfl;rw[ae h,ah (by omega)];rfl
 rw[hd,eM (hit:=some false) (fin:=some (iX c.2.1 (fC c.2.2.1).1&&((List.range c.2.1.length).all (wF c.2.1)&&(!decide (rE c.2.2.2.1<0)&&xm c.2.2.2.2.1)))) (xj c) c.1.length (by omega) (λi nx hi=>?hs) (λnx=>?hf)]
 case hs=>
  have q1:i<c.2.2.1.length:=by omega
  have hm:=aL hi
  rw[EK i hi q1]
  simp only[pQ]
  rw[ah (by omega),aX hi,aX q1,wrap64 (n:=(i:Int)+1) (by omega) (by omega)]
  simp only[ai,ab,MS _ (z.h1 _ hm),BV _ _ (z.h1 _ hm).f1,aZ,cT]
  cases tO c.1[i]<;>cases Ej c.1[i].2.2.2.2.2.2.2.1 c.2.2.1[i].1<;>rfl
 case hf=>
  simp only[pQ]
  rw[ae (by omega)];rfl
 rw[hL.2,←hL.1];cases (List.range c.1.length).all (xj c)<;>cases (List.range c.1.length).all (wF c.2.1)<;>cases iX c.2.1 (fC c.2.2.1).1<;>cases (!decide (rE c.2.2.2.1<0)&&xm c.2.2.2.2.1)<;>rfl
theorem map_take {α β:Type}(f:α→β)(l:List α)(i:Nat)(hi:i<l.length):(l.take i).map f++[f l[i]]=(l.take (i+1)).map f:=by rw[bh hi,List.map_append];rfl
theorem D4 (m:bl)(h:m.1.2.2.length≤1000000000):mY m=some m:=by simp only[mY,yY _ h,ab]
theorem Ed (m:bl)(h:m.1.2.2.length≤1000000000):uC m=some m:=by simp only[uC,zu _ h,ab]
theorem Hw (l:List bl)(h:l.length≤1000000000)(hx:∀m∈l,m.1.2.2.length≤1000000000):p8 l=some l:=by unfold p8;refine(de (λi=>(l.take i,(i:Int))) l.length (by omega) (λi nx hi=>?_) (λnx=>?_));simp only[lB];rw[ah (by omega),aX hi,wrap64 (by omega) (by omega)];simp only[ai,ab,D4 _ (hx _ (aL hi))];rw[aJ (by simp;omega),←bh hi];rfl;simp only[lB];rw[ae (by omega),cn];rfl
theorem BS (l:List aE)(h:l.length≤1000000000):ks l=some l:=by simp only[ks,dR h,bm]
structure rT (ps:List Port):Prop where
 n:ps.length≤1000000000
 v:∀p∈ps,p.2.1.length≤1000000000
def MF (ps:List Port)(e:Int)(p:aO):Bool:=fb ps&&(dW p&&cx e 0 ((ps.length:Int)-1))
def Ls (x:Port)(p:aO):Int:=bif p.2.2.1== -1 then x.2.2.1 else p.2.2.1
def ik (ps:List Port)(e:Int)(p:aO):Int:=
 bif !MF ps e p then-1 else
 bif !hasB (ps.getD e.toNat ij).2.1 (Ls (ps.getD e.toNat ij) p)||((e !=0)&&((ps.getD e.toNat ij).2.2.2&&((ps.getD e.toNat ij).1 !=p.2.1))) then-1 else Ls (ps.getD e.toNat ij) p
theorem Qj {p:aO}(h:dW p=true):(decide (p.2.2.1<0))=(p.2.2.1== -1):=by simp only[dW,yp,aj,bW]at h;have:=h.1.2.2.1;rw[bX,aK,aW];omega
theorem Gg (ps:List Port)(e:Int)(p:aO)(z:rT ps):lW ps e p=some (ik ps e p):=by
 have hn:=z.n;unfold lW ik MF;rw[zR ps hn z.v,ab];cases hp:fb ps with|false=>rfl|true=>?_
 rw[mH,ab];cases hs:dW p with|false=>rfl|true=>?_
 rw[wrap64 (n:=(ps.length:Int)-1) (by omega) (by omega),cC];cases he:cx e 0 ((ps.length:Int)-1)with|false=>rfl|true=>?_
 have h1:=bW.1 he;obtain⟨e,rfl⟩:=aM h1.1;have hl:e<ps.length:=by omega
 have hv:=z.v _ (aL hl);simp only[al,af,ab,dK,aX hl,ax,bM hl,xw _ _ hv,Ls];cases p.2.2.1== -1<;>simp only[ai,af]<;>cases hasB ps[e].2.1 p.2.2.1<;>cases hasB ps[e].2.1 ps[e].2.2.1<;>cases (e:Int) !=0<;>cases ps[e].2.2.2<;>cases ps[e].1 !=p.2.1<;>rfl
theorem G0 (ps:List Port)(e:Int)(p:aO)(z:rT ps):my ps e p=some (ik ps e p):=by
 have hn:=z.n;unfold my ik MF;rw[Ab ps hn z.v,ab];cases hp:fb ps with|false=>rfl|true=>?_
 rw[nh,ab];cases hs:dW p with|false=>rfl|true=>?_
 rw[wrap64 (n:=(ps.length:Int)-1) (by omega) (by omega),cc];cases he:cx e 0 ((ps.length:Int)-1)with|false=>rfl|true=>?_
 have h1:=bW.1 he;obtain⟨e,rfl⟩:=aM h1.1;have hl:e<ps.length:=by omega
 have hv:=z.v _ (aL hl);rw[Qj hs];simp only[al,af,ab,dK,aX hl,ax,bM hl,yc _ _ hv,Ls];cases p.2.2.1== -1<;>simp only[ai,af]<;>cases hasB ps[e].2.1 p.2.2.1<;>cases hasB ps[e].2.1 ps[e].2.2.1<;>cases (e:Int) !=0<;>cases ps[e].2.2.2<;>cases ps[e].1 !=p.2.1<;>rfl
def wC (ps:List Port)(o v:Int)(p:aO):aO:=
 bif fb ps&&(cx o 0 ((ps.length:Int)-1)&&(hasB (ps.getD o.toNat ij).2.1 v&&dW p)) then
  (bif v==(ps.getD o.toNat ij).2.2.1 then(p.1,p.2.1, -1,p.2.2.2) else(p.1,p.2.1,v,p.2.2.2)) else ZD
theorem Ts (ps:List Port)(o v:Int)(p:aO)(z:rT ps):nm ps o v p=some (wC ps o v p):=by
 have hn:=z.n;unfold nm wC;rw[Ab ps hn z.v,ab];cases hp:fb ps with|false=>rfl|true=>?_
 rw[wrap64 (n:=(ps.length:Int)-1) (by omega) (by omega),cc];cases he:cx o 0 ((ps.length:Int)-1)with|false=>rfl|true=>?_
 have h1:=bW.1 he;obtain⟨o,rfl⟩:=aM h1.1;have hl:o<ps.length:=by omega
 have hv:=z.v _ (aL hl);simp only[al,af,ab,a9,aX hl,ax,bM hl,yc _ _ hv,nh];cases hasB ps[o].2.1 v<;>cases dW p<;>cases v==ps[o].2.2.1<;>rfl
theorem Sx (ps:List Port)(o v:Int)(p:aO)(z:rT ps):mM ps o v p=some (wC ps o v p):=by
 have hn:=z.n;unfold mM wC;rw[zR ps hn z.v,ab];cases hp:fb ps with|false=>rfl|true=>?_
 rw[wrap64 (n:=(ps.length:Int)-1) (by omega) (by omega),cC];cases he:cx o 0 ((ps.length:Int)-1)with|false=>rfl|true=>?_
 have h1:=bW.1 he;obtain⟨o,rfl⟩:=aM h1.1;have hl:o<ps.length:=by omega
 have hv:=z.v _ (aL hl);simp only[al,af,ab,a9,aX hl,ax,bM hl,xw _ _ hv,mH];cases hasB ps[o].2.1 v<;>cases dW p<;>cases v==ps[o].2.2.1<;>rfl
def AA (ps:List Port)(e v:Int)(j:Nat):Bool:=((j:Int) !=e)&&hasB (ps.getD j ij).2.1 v
def fS (l:List Nat):List Int:=l.map Int.ofNat
def TT (p:aO):Bool:=p.1==281474976710655
theorem Dx {q:Nat→Bool}(l:List Nat)(i:Nat)(hi:i<l.length):(l.take (i+1)).filter q=bif q l[i] then(l.take i).filter q++[l[i]] else(l.take i).filter q:=by rw[bh hi,List.filter_append];cases hq:q l[i]<;>simp[hq]
theorem FZ {q:Nat→Bool}(l:List Nat)(i:Nat):((l.take i).filter q).length≤l.length:=a7 (List.length_filter_le _ _) (by simp;omega)
theorem Gi (ps:List Port)(e v:Int)(l:List Nat)(hl:l.length≤1000000000)(hb:∀j∈l,j<ps.length)(z:rT ps): aH (ed (λ(y7:List Int) (y8:Int)=>some y7) ps e v (fS l) ((fS l).length:Int)) fuel (([]:List Int),0)=some (fS (l.filter (AA ps e v))):=by
 refine de (λi=>(fS ((l.take i).filter (AA ps e v)),(i:Int))) l.length (by omega) (λi nx hi=>?_) (λnx=>?_);have hj:=hb _ (aL hi);have hv:=z.v _ (aL hj);have hi2:i<(fS l).length:=by simpa[fS]using hi
 have e1:(fS l)[i]'hi2=(l[i]:Int):=by simp[fS]
 have hf:=FZ (q:=AA ps e v) l i;simp only[ed];rw[ah (by simpa[fS]using hi),aX hi2,e1,wrap64 (by omega) (by omega)];simp only[ai,ab,aX hj,xw _ _ hv];rw[Dx l i hi,AA,bM hj];have hr:∀k:Option (List Int),room (List.length (fS ((l.take i).filter (AA ps e v)))+List.length ([(l[i]:Int)])) k=k:=λk=>aJ (by simp only[fS,cK,dh];omega);cases (l[i]:Int) !=e with|false=>rfl|true=>cases hasB ps[l[i]].2.1 v with|false=>rfl|true=>simp only[ai,ab,dK];rw[hr];simp[fS]
 simp only[ed];rw[ae (by simp[fS]),cn];rfl
def uU (ps:List Port)(p:aO):Nat→Nat
 |0=>0
 |i+1=>bif (ps.getD (i+1) ij).1==p.1 then i+1 else uU ps p i
def rz (ps:List Port)(e:Int)(p:aO):List Nat:=
 (List.range ps.length).filter λj=>AA ps e (ik ps e p) j&&((j==uU ps p (ps.length-1))||TT p)
def Ah (ps:List Port)(e:Int)(p:aO):List Int:=bif decide (ik ps e p<0) then [] else fS (rz ps e p)
theorem N2 (ps:List Port)(e:Int)(p:aO)(z:rT ps):lM ps e p=some (Ah ps e p):=by
 have hn:=z.n;unfold lM Ah;rw[G0 ps e p z,ab];cases hd:decide (ik ps e p<0)with|true=>rfl|false=>?_
 have hp:fb ps=true:=by cases hp:fb ps with|true=>rfl|false=>unfold ik MF at hd;rw[hp]at hd;simp at hd
 have h1:1≤ps.length:=by simp only[fb,aj,bW]at hp;omega
 simp only[af];refine de (λi=>((uU ps p i:Int),((i+1:Nat):Int))) (ps.length-1) (by omega) (λi nx hi=>?_) (λnx=>?_);have hj:i+1<ps.length:=by omega
 simp only[iU];rw[ah (by omega),aX hj,wrap64 (by omega) (by omega),uU,bM hj];simp only[ai,ab];cases ps[i+1].1==p.1<;>rfl
 ·simp only[iU];rw[ae (by omega),af];generalize hv:ik ps e p=v;have hsw:rz ps e p=(List.range ps.length).filter λj=>AA ps e v j&&((j==uU ps p (ps.length-1))||TT p):=by rw[rz,hv]
  rw[hsw];generalize hq:(λj=>AA ps e v j&&((j==uU ps p (ps.length-1))||TT p))=q;refine de (λi=>(fS (((List.range ps.length).take i).filter q),(i:Int))) ps.length (by omega) (λi nx hi=>?_) (λnx=>?_)
  ·have hvv:=z.v _ (aL hi);have hi2:i<(List.range ps.length).length:=by simpa using hi
   have hf:=FZ (q:=q) (List.range ps.length) i;simp only[ie];rw[ah (by omega),aX hi,wrap64 (by omega) (by omega)];simp only[ai,ab,yc _ _ hvv];rw[Dx (List.range ps.length) i hi2,List.getElem_range];have eq:q i=(((i:Int) !=e)&&hasB ps[i].2.1 v&&(((i:Int)==(uU ps p (ps.length-1):Int))||(p.1==281474976710655))):=by rw[←hq];simp only[AA,bM hi,TT];congr 2;rw[bX,aW,aW];omega
   have hr:∀k:Option (List Int),room (List.length (fS (((List.range ps.length).take i).filter q))+List.length ([(i:Int)])) k=k:=λk=>aJ (by simp only[fS,cK,dh];rw[List.length_range]at hf;omega);rw[eq];cases (i:Int) !=e with|false=>rfl|true=>?_
   cases hasB ps[i].2.1 v with|false=>rfl|true=>?_
   simp only[ai,ab,a9];cases ((i:Int)==(uU ps p (ps.length-1):Int))<;>cases p.1==281474976710655<;>simp only[ai,af,ab,bK,Bool.or_true,Bool.true_or]<;>first|rfl|(rw[hr];simp[fS])
  simp only[ie];rw[ae (by omega),bp (by simp)];rfl
theorem Ia (q:Nat→Bool):∀l:List Nat,(xr q l= -1∧∀j∈l,q j=false)∨∃j∈l,q j=true∧xr q l=(j:Int)
 |[]=> .inl ⟨rfl,by simp⟩
 |j::l=>by rw[xr];cases hj:q j with|true=>exact .inr ⟨j,by simp,hj,rfl⟩|false=>simp only[af];rcases Ia q l with⟨h1,h2⟩|⟨k,h1,h2,h3⟩;exact .inl ⟨h1,by intro k hk;rcases bE.1 hk with rfl|hk;exact hj;exact h2 k hk⟩;exact .inr ⟨k,by simp[h1],h2,h3⟩
theorem Gc {ps:List Port}{p:aO}:∀i,(∀j,1≤j→j≤i→((ps.getD j ij).1==p.1)=false)→uU ps p i=0
 |0,_=>rfl
 |i+1,h=>by rw[uU,h (i+1) (by omega) (by omega)];exact Gc i λj h1 h2=>h j h1 (by omega)
theorem Ij {ps:List Port}{p:aO}{k:Nat}(hk:1≤k)(h:((ps.getD k ij).1==p.1)=true):∀i,k≤i→(∀j,1≤j→j≤i→((ps.getD j ij).1==p.1)=true→j=k)→uU ps p i=k
 |0,hi,_=>by omega
 |i+1,hi,hu=>by rw[uU];by_cases he:k=i+1;rw[←he,h];rfl;cases hq:(ps.getD (i+1) ij).1==p.1 with|true=>have:=hu (i+1) (by omega) (by omega) hq;omega|false=>exact Ij hk h i (by omega) λj h1 h2=>hu j h1 (by omega)
theorem Rn {ps:List Port}(hp:fb ps=true){i j:Nat}(h1:1≤i)(hij:i<j)(hj:j<ps.length):((ps.getD i ij).1==(ps.getD j ij).1)=false:=by simp only[fb,aj,aU,cw,Cj,aR]at hp;have:=(hp.2 j hj).2 i hij;simp only[Bool.and_eq_false_iff,bne_eq_false_iff_eq]at this;rcases this with h|h;omega;exact h
theorem filter_one {q:Nat→Bool}{k n:Nat}(hk:k<n):(List.range n).filter (λj=>q j&&(j==k))=[k].filter q:=by
 have h1:(List.range n).filter (λj=>j==k)=[k]:=by
  induction n with
  |zero=>omega
  |succ n ih=>
   rw[List.range_succ,List.filter_append];by_cases he:k=n;subst he;have:(List.range k).filter (λj=>j==k)=[]:=by rw[List.filter_eq_nil_iff];intro j hj;have:=cw.1 hj;simp;omega
   rw[this];simp;rw[ih (by omega)];have:([n]:List Nat).filter (λj=>j==k)=[]:=by simp;omega
   rw[this];rfl
 have h2:(λj=>q j&&(j==k))=λj=>q j&&(λj=>j==k) j:=rfl;rw[h2,←List.filter_filter,h1]
theorem MY (ps:List Port)(e:Int)(p:aO)(z:rT ps):lz ps e p=some (Ah ps e p):=by
 have hn:=z.n;unfold lz Ah;rw[Gg ps e p z,ab];cases hd:decide (ik ps e p<0)with|true=>rfl|false=>?_
 have hp:fb ps=true:=by cases hp:fb ps with|true=>rfl|false=>unfold ik MF at hd;rw[hp]at hd;simp at hd
 have h1:1≤ps.length∧ps.length≤8:=by simp only[fb,aj,bW]at hp;omega
 have hmac:∀j,j<ps.length→(ps.getD j ij).1≤281474976710654:=by intro j hj;simp only[fb,aj,aU,cw,Cj,El,iE,bW]at hp;exact(hp.2 j hj).1.1.2.1.2
 simp only[af,M0 ps p.1 hn,ab];generalize hv:ik ps e p=v;have hsw:rz ps e p=(List.range ps.length).filter λj=>AA ps e v j&&((j==uU ps p (ps.length-1))||TT p):=by rw[rz,hv]
 rw[hsw];have hbcase:TT p=true→∀j,j<ps.length→((ps.getD j ij).1==p.1)=false:=by
  intro hb j hj;have:=hmac j hj;have hb:p.1=281474976710655:=by simpa[TT]using hb
  rw[hb,ch];omega
 rcases Ia (λj=>(j !=0)&&((ps.getD j ij).1==p.1)) (List.range' 0 ps.length)with⟨hf,hno⟩|⟨k,hk,hq,hf⟩;have hno:∀j,1≤j→j<ps.length→((ps.getD j ij).1==p.1)=false:=by intro j h2 h3;have:=hno j (by simp;omega);simp only[Bool.and_eq_false_iff,bne_eq_false_iff_eq]at this;rcases this with h|h;omega;exact h
 have hh:uU ps p (ps.length-1)=0:=Gc _ λj h2 h3=>hno j h2 (by omega);rw[hf,show decide ((-1:Int)≥0)=false from rfl,af,hh];rw[show(p.1==281474976710655)=TT p from rfl];cases hb:TT p with|true=>simp only[ai,Bool.or_true,Bool.and_true];refine de (λi=>(fS (List.range i),(i:Int))) ps.length (by omega) (λi nx hi=>?_) (λnx=>?_);simp only[ic];rw[ah (by omega),aJ (by simp only[fS,cK,List.length_range,dh];omega),wrap64 (by omega) (by omega),List.range_succ];simp only[ai,fS,List.map_append];rfl;simp only[ic];rw[ae (by omega),af];exact Gi ps e v (List.range ps.length) (by simp;omega) (λj hj=>cw.1 hj) z|false=>simp only[af,Bool.or_false];rw[filter_one (by omega)];exact Gi ps e v [0] (by simp) (by simp;omega) z
 have hkl:k<ps.length:=by simp at hk;omega
 simp only[aj,bne_iff_ne]at hq;have hb:TT p=false:=by cases hb:TT p with|false=>rfl|true=>rw[hbcase hb k hkl]at hq;cases hq.2
 have hh:uU ps p (ps.length-1)=k:=Ij (by omega) hq.2 _ (by omega) λj h2 h3 h4=>by rcases Nat.lt_trichotomy j k with g|g|g;have:=Rn hp h2 g hkl;have a:=aW.1 h4;have b:=aW.1 hq.2;rw[a,b]at this;simp at this;exact g;have:=Rn hp (show 1≤k by omega) g (show j<ps.length by omega);have a:=aW.1 h4;have b:=aW.1 hq.2;rw[a,b]at this;simp at this
 rw[hf,ah (by omega),ai,hh,hb];simp only[Bool.or_false];rw[filter_one hkl];exact Gi ps e v [k] (by simp) (by simp;omega) z
theorem DS {ps:List Port}{e:Int}{p:aO}:∀j∈rz ps e p,j<ps.length:=λj hj=>cw.1 (List.mem_filter.1 hj).1
theorem zC (ps:List Port)(e:Int)(p:aO):(rz ps e p).length≤ps.length:=a7 (List.length_filter_le _ _) (by simp)
theorem Rv (ms:List bl):rT (fC ms).1:=⟨(zZ ms).1,(zZ ms).2⟩
theorem KB (c:dj)(z:bJ 1000000000 dQ c):so c=some c:=by have h0:c.1.length≤1000000000:=z.1.1;unfold so;simp only[BS _ z.2.1.1,Hw _ z.2.2.1.1 (λm hm=>(z.2.2.1.2 m hm).1.2.2.1),uY,tz _ z.2.2.2.1.1,lS _ z.2.2.2.2.2.1.1,tz _ z.2.2.2.2.2.2.1,ab];refine(de (λi=>((i:Int),c.1.take i,c.2)) c.1.length (by omega) (λi nx hi=>?_) (λnx=>?_));simp only[mW];rw[ah (by omega),aX hi,wrap64 (by omega) (by omega)];simp only[ai,ab,BT _ (z.1.2 _ (aL hi))];rw[aJ (by simp;omega),←bh hi];rfl;simp only[mW];rw[ae (by omega),cn];rfl
theorem La (c:dj)(z:bJ 1000000000 dQ c):uD c=some c:=by have h0:c.1.length≤1000000000:=z.1.1;have h1:c.2.2.1.length≤1000000000:=z.2.2.1.1;unfold uD;simp only[dR z.2.1.1,dR z.2.2.2.1.1,dR z.2.2.2.2.2.1.1,dR z.2.2.2.2.2.2.1,bm];refine(de (λi=>((i:Int),c.1.take i,c.2.1,([]:List bl),c.2.2.2)) c.1.length (by omega) (λi nx hi=>?_) (λnx=>?_));simp only[oW];rw[ah (by omega),aX hi,wrap64 (by omega) (by omega)];simp only[ai,ab,Cq _ (z.1.2 _ (aL hi))];rw[aJ (by simp;omega),←bh hi];rfl;simp only[oW];rw[ae (by omega),cn];refine(de (λi=>((i:Int),c.1,c.2.1,c.2.2.1.take i,c.2.2.2)) c.2.2.1.length (by omega) (λi nx hi=>?_) (λnx=>?_));simp only[oX];rw[ah (by omega),aX hi,wrap64 (by omega) (by omega)];simp only[ai,ab,Ed _ (z.2.2.1.2 _ (aL hi)).1.2.2.1];rw[aJ (by simp;omega),←bh hi];rfl;simp only[oX];rw[ae (by omega),cn];rfl
structure CK (n:Nat) (c:dj):Prop where
 z:bJ n dQ c
 h:∀x∈c.1,OC n x
theorem CK.mono {n m:Nat}{c:dj}(k:CK n c)(hn:n≤m):CK m c:=⟨k.z.mono hn,λx hx=>(k.h x hx).mono hn⟩
theorem CK.sz {n:Nat}{c:dj}(k:CK n c)(hn:n≤1000000000):OB c:=by have z:bJ 1000000000 dQ c:=k.z.mono hn;exact⟨z.1.1,z.2.1.1,λm hm=>(z.2.2.1.2 m hm).1.2.2.1,λx hx=>(k.h x hx).sz hn⟩
theorem CK.of {c:dj}(k:gA dQ c≤1048576):CK 1048576 c:=by
 refine⟨yg k,λh hh=>OC.of ?_⟩;have h1:=Bj (gA cv) c.1 h hh;have h2:(c.1.map (gA cv)).sum≤gA dQ c:=by show _≤(c.1.length+(c.1.map (gA cv)).sum)+_;omega
 omega
theorem xk {c:dj}(h:wN c=true):(fC c.2.2.1).1.length=c.1.length+1∧(fC c.2.2.1).1.length≤8∧c.1.length≤3:=by unfold wN at h;simp only[aj]at h;have hl:=(C3 h.2.1).1;have h2:=h.1;have h3:=Nz h2;unfold fC at h2⊢;cases hc:cx (c.2.2.1.length:Int) 1 3&&(c.2.2.1.all pA&&fb (wg c.2.2.1))with|false=>rw[hc]at h2;cases h2|true=>simp only[aj]at hc;have:=(F8 c.2.2.1 0 ([0],[]) ⟨by simp,rfl,by simp⟩ hc.2.1).2.1;have h8:=hc.2.2;simp only[fb,aj,bW]at h8;simp only[ai];refine⟨?_,by omega,by omega⟩;simp only[wg,bj];rw[this,hl];omega
def aap (c:dj)(f:Bytes):dj:=(c.1,c.2.1,c.2.2.1,c.2.2.2.1,c.2.2.2.2.1,c.2.2.2.2.2.1,c.2.2.2.2.2.2++[f])
def amG (c:dj)(k:Nat)(h:Host):dj:=(c.1.set k h,c.2)
def cf (ps:List Port)(v:Int)(p:aO)(c:dj)(j:Nat):dj:=
 bif j==0 then aap c (xt (wC ps (j:Int) v p)).1 else
 match c.1[j-1]? with
 |some h=>amG c (j-1) (qQ h (xt (wC ps (j:Int) v p)).1)
 |none=>c
theorem YW {n:Nat}{c:dj}{k:Nat}{h:Host}(z:CK n c)(zh:OC n h):CK n (amG c k h):=by refine⟨⟨Gt z.z.1 zh.z,z.z.2⟩,λx hx=>?_⟩;rcases List.mem_or_eq_of_mem_set hx with g|g;exact z.h x g;rw[g];exact zh
theorem XY {n:Nat}{c:dj}{f:Bytes}(z:CK n c)(hf:f.length≤n):CK (n+1) (aap c f):=by have z':=z.mono (show n≤n+1 by omega);refine⟨⟨z'.z.1,z'.z.2.1,z'.z.2.2.1,z'.z.2.2.2.1,z'.z.2.2.2.2.1,z'.z.2.2.2.2.2.1,?_⟩,z'.h⟩;exact SN (t:=.str) (k:=1) z.z.2.2.2.2.2.2 (λy hy=>by rw[ec.1 hy];exact hf) (by simp)
theorem VS {n:Nat}(hn:1000≤n){ps:List Port}{v:Int}{p:aO}{c:dj}{j:Nat}(z:CK n c):CK (n+1) (cf ps v p c j)∧(cf ps v p c j).1.length=c.1.length:=by have hf:=CX (wC ps (j:Int) v p);unfold cf;cases j==0 with|true=>exact⟨XY z (by omega),rfl⟩|false=>simp only[af];cases hx:c.1[j-1]? with|none=>exact⟨z.mono (by omega),rfl⟩|some h=>have hr:=NJ hn (xt (wC ps (j:Int) v p)).1 (z.h h (List.mem_of_getElem? hx));exact⟨(YW z hr.1).mono (by omega),aY ..⟩
def Ea (ps:List Port)(v:Int)(p:aO)(c:dj)(l:List Nat):dj:=l.foldl (cf ps v p) c
theorem Eo {ps:List Port}{v:Int}{p:aO}:∀(l:List Nat){c:dj}{n:Nat},1000≤n→CK n c→CK (n+l.length) (Ea ps v p c l)∧(Ea ps v p c l).1.length=c.1.length
 |[],c,n,_,z=>⟨z,rfl⟩
 |j::l,c,n,hn,z=>by have h1:=VS (ps:=ps) (v:=v) (p:=p) (j:=j) hn z;have:=Eo (ps:=ps) (v:=v) (p:=p) l (show 1000≤n+1 by omega) h1.1;exact⟨this.1.mono (by simp only[bj];omega),this.2.trans h1.2⟩
theorem IP (ps:List Port)(v:Int)(p:aO)(c:dj)(l:List Nat)(i:Nat)(hi:i<l.length):Ea ps v p c (l.take (i+1))=cf ps v p (Ea ps v p c (l.take i)) l[i]:=by rw[bh hi,Ea,List.foldl_append];rfl
theorem DA {R:Type}(K:dj→Option R)(ps:List Port)(v:Int)(p:aO)(c B:dj)(l:List Nat)(hl:l.length≤8)(hj:∀j∈l,j≤c.1.length)(z:CK 800000000 c)(zp:rT ps): aH (g7 (λ(_:Int) (y16:dj)=>K y16) ps v (fS l) ((fS l).length:Int) p B) fuel (0,c)=K (Ea ps v p c l):=by
 refine de (λi=>((i:Int),Ea ps v p c (l.take i))) l.length (by omega) (λi nx hi=>?_) (λnx=>?_);have hi2:i<(fS l).length:=by simpa[fS]using hi
 have e1:(fS l)[i]'hi2=(l[i]:Int):=by simp[fS]
 have hz:=Eo (ps:=ps) (v:=v) (p:=p) (l.take i) (by omega) z;have hzz:=hz.1.mono (show 800000000+(l.take i).length≤900000000 by rw[bf];omega);have hji:=hj _ (aL hi);have hfr:=CX (wC ps (l[i]:Int) v p);rw[IP ps v p c l i hi];have hn:=hz.2;generalize Ea ps v p c (l.take i)=W at hn hzz⊢;have hw:W.2.2.2.2.2.2.length≤900000000:=hzz.z.2.2.2.2.2.2.1;simp only[g7];rw[ah (by simpa[fS]using hi),aX hi2,e1,wrap64 (n:=(i:Int)+1) (by omega) (by omega)];simp only[ai,ab,Sx ps _ v p zp,Sv,cf];have hcl:c.1.length≤800000000:=z.z.1.1;by_cases h0:l[i]=0;rw[show((l[i]:Int)==0)=true from by simp[h0],show(l[i]==0)=true from by simp[h0]];simp only[ai];rw[aJ (by simp only[dh];omega)];rfl;rw[show((l[i]:Int)==0)=false from by simp[h0],show(l[i]==0)=false from by simp[h0]];have hk:l[i]-1<W.1.length:=by omega
 rw[wrap64 (n:=(l[i]:Int)-1) (by omega) (by omega),show(l[i]:Int)-1=((l[i]-1:Nat):Int) by omega];simp only[af,aX hk,ab,KH _ _ (hzz.h _ (aL hk)) (a7 hfr (by omega)),ax,List.getElem?_eq_getElem hk];rfl;simp only[g7];rw[ae (by simp[fS]),af,cn]
theorem DL {R:Type}(K:dj→Option R)(ps:List Port)(v:Int)(p:aO)(c:dj)(l:List Nat)(hl:l.length≤8)(hj:∀j∈l,j≤c.1.length)(z:CK 800000000 c)(zp:rT ps): aH (iV (λ(_:Int) (y15:dj)=>K y15) ps (fS l) v p) fuel (0,c)=K (Ea ps v p c l):=by
 refine de (λi=>((i:Int),Ea ps v p c (l.take i))) l.length (by omega) (λi nx hi=>?_) (λnx=>?_);have hi2:i<(fS l).length:=by simpa[fS]using hi
 have e1:(fS l)[i]'hi2=(l[i]:Int):=by simp[fS]
 have hz:=Eo (ps:=ps) (v:=v) (p:=p) (l.take i) (by omega) z;have hzz:=hz.1.mono (show 800000000+(l.take i).length≤900000000 by rw[bf];omega);have hji:=hj _ (aL hi);have hfr:=CX (wC ps (l[i]:Int) v p);rw[IP ps v p c l i hi];have hn:=hz.2;generalize Ea ps v p c (l.take i)=W at hn hzz⊢;have hw:W.2.2.2.2.2.2.length≤900000000:=hzz.z.2.2.2.2.2.2.1;simp only[iV];rw[ah (by simpa[fS]using hi),aX hi2,e1,wrap64 (n:=(i:Int)+1) (by omega) (by omega)];simp only[ai,ab,Ts ps _ v p zp,Tr,cf];have hcl:c.1.length≤800000000:=z.z.1.1;by_cases h0:l[i]=0;rw[show((l[i]:Int)==0)=true from by simp[h0],show(l[i]==0)=true from by simp[h0]];simp only[ai];rw[aJ (by simp only[dh];omega)];rfl;rw[show((l[i]:Int)==0)=false from by simp[h0],show(l[i]==0)=false from by simp[h0]];have hk:l[i]-1<W.1.length:=by omega
 rw[wrap64 (n:=(l[i]:Int)-1) (by omega) (by omega),show(l[i]:Int)-1=((l[i]-1:Nat):Int) by omega];simp only[af,aX hk,ab,Lg _ _ (hzz.h _ (aL hk)) (a7 hfr (by omega)),ax,List.getElem?_eq_getElem hk];rfl;simp only[iV];rw[ae (by simp[fS]),af,cn]
def vE (c:dj)(e:Int)(p:aO):dj:=
 bif decide (ik (fC c.2.2.1).1 e p<0) then c else Ea (fC c.2.2.1).1 (ik (fC c.2.2.1).1 e p) p c (rz (fC c.2.2.1).1 e p)
def ry (c:dj)(e:Int)(p:aO):dj:=bif wN c&&eF p then vE c e p else c
theorem N1 (c:dj)(e:Int)(p:aO)(k:CK 800000000 c)(h:wN c=true):rr c e p=some ((),vE c e p):=by have z9:bJ 1000000000 dQ c:=k.z.mono (by omega);have hn:=xk h;have zp:=Rv c.2.2.1;unfold rr vE;simp only[DN _ (λm hm=>(z9.2.2.1.2 m hm).1.2.2.1),ab,G0 _ e p zp,N2 _ e p zp];generalize (fC c.2.2.1).1=ps at hn zp⊢;unfold Ah;cases decide (ik ps e p<0)with|true=>exact DL (λc=>some ((),c)) ps (ik ps e p) p c [] (by simp) (by simp) k zp|false=>exact DL (λc=>some ((),c)) ps (ik ps e p) p c (rz ps e p) (by have:=zC ps e p;omega) (λj hj=>by have:=DS j hj;omega) k zp
theorem GZ (c:dj)(e:Int)(p:aO)(k:CK 800000000 c):oK c e p=some (ry c e p):=by
 unfold oK ry;simp only[La c (k.z.mono (by omega)),VE c (k.sz (by omega)),vB,ab];cases h:wN c with|false=>rfl|true=>?_
 cases eF p with|false=>rfl|true=>?_
 simp only[ai,ab,dK,N1 c e p k h]
theorem Ge (c:dj)(e:Int)(p:aO)(k:CK 800000000 c):kI c e p=some (ry c e p):=by
 have z9:bJ 1000000000 dQ c:=k.z.mono (by omega);unfold kI ry;simp only[KB c z9,UF c (k.sz (by omega)),uV,ab];cases h:wN c with|false=>rfl|true=>?_
 cases eF p with|false=>rfl|true=>?_
 have hn:=xk h;have zp:=Rv c.2.2.1;unfold vE;simp only[al,af,ab,dK,ai,DC _ (λm hm=>(z9.2.2.1.2 m hm).1.2.2.1),Gg _ e p zp,MY _ e p zp];generalize (fC c.2.2.1).1=ps at hn zp⊢;unfold Ah;cases decide (ik ps e p<0)with|true=>exact DA (λc=>some c) ps (ik ps e p) p c _ [] (by simp) (by simp) k zp|false=>exact DA (λc=>some c) ps (ik ps e p) p c _ (rz ps e p) (by have:=zC ps e p;omega) (λj hj=>by have:=DS j hj;omega) k zp
theorem N9 {n:Nat}(hn:1000≤n){c:dj}{e:Int}{p:aO}(z:CK n c)(h:wN c=true):CK (n+8) (vE c e p)∧(vE c e p).1.length=c.1.length:=by have h3:=xk h;unfold vE;generalize (fC c.2.2.1).1=ps at h3⊢;cases decide (ik ps e p<0)with|true=>exact⟨z.mono (by omega),rfl⟩|false=>have h8:=zC ps e p;have:=Eo (ps:=ps) (v:=ik ps e p) (p:=p) (rz ps e p) hn z;exact⟨this.1.mono (by omega),this.2⟩
theorem Ha {n:Nat}(hn:1000≤n){c:dj}(e:Int)(p:aO)(z:CK n c):CK (n+8) (ry c e p)∧(ry c e p).1.length=c.1.length:=by
 unfold ry;cases h:wN c with|false=>exact⟨z.mono (by omega),rfl⟩|true=>?_
 cases eF p with|false=>exact⟨z.mono (by omega),rfl⟩|true=>exact N9 hn z h
theorem AB {R:Type}(K:Int→Bytes→Option R):∀(n:Nat)(v:Int)(s:Bytes)(m:Nat),0≤v→v≤1000000000000000→v<10^n→s.length+n≤1000→n<m→∃s':Bytes,s'.length≤1000∧∃v',aH (nb K) m (v,s)=K v' s'
 |0,v,s,m,h0,_,h1,hs,hm=>by
  have hv:v=0:=by simp at h1;omega
  subst hv;cases m with|zero=>omega|succ m=>exact⟨s,by omega,0,by rw[aH];rfl⟩
 |n+1,v,s,m,h0,hb,h1,hs,hm=>by cases m with|zero=>omega|succ m=>rw[aH];simp only[nb];by_cases hv:v>0;have hq:Int.tdiv v 10=v/10:=Int.tdiv_eq_ediv_of_nonneg h0;rw[ah hv];simp only[ai];rw[ao (by omega),aJ (by simp[bytesOf];omega),ao (by omega),hq,wrap64 (n:=v/10) (by omega) (by omega)];exact AB K n (v/10) _ m (by omega) (by omega) (by rw[Int.pow_succ]at h1;omega) (by simp[bytesOf];omega) (by omega);rw[ae hv];exact⟨s,by omega,v,rfl⟩
theorem HC (k:Int)(h1:1≤k)(h2:k≤1000000000000000):∃s,bu k=some s:=by have hfu:=dI;unfold bu;rw[ae (by omega)];simp only[af];obtain⟨s,hs,v,h⟩:=AB (λ(_:Int) (y2:Bytes)=>room (List.length ([109]:Bytes)+List.length y2) (some (([109]:Bytes)++y2))) 16 k [] fuel (by omega) h2 (by omega) (by simp) (by omega);rw[h,aJ (by simp;omega)];exact⟨_,rfl⟩
def Zp (k:Int):Bytes:=(bu k).getD []
theorem fL (k:Int)(h1:1≤k)(h2:k≤1000000000000000):bu k=some (Zp k):=by obtain⟨s,hs⟩:=HC k h1 h2;rw[Zp,hs];rfl
def lQ:(t:CT)→t.D→Nat
 | .int _,_=>1
 | .bool,_=>1
 | .str,_=>1
 | .sl e,xs=>(xs.map (lQ e)).sum
 | .pair a b,x=>lQ a x.1+lQ b x.2
def mkL {α:Type}(f:α→Int→α)(c:α→Nat):List α→Int→List α
 |[],_=>[]
 |x::xs,k=>f x k::mkL f c xs (k+c x)
def mk:(t:CT)→t.D→Int→t.D
 | .int _,_,k=>k
 | .bool,_,k=>Int.tmod k 3==0
 | .str,_,k=>Zp k
 | .sl e,xs,k=>mkL (mk e) (lQ e) xs k
 | .pair a b,x,k=>(mk a x.1 k,mk b x.2 (k+lQ a x.1))
def gV:(t:CT)→t.D→Nat
 | .int _,_=>0
 | .bool,_=>0
 | .str,_=>0
 | .sl e,xs=>lQ (.sl e) xs
 | .pair a b,x=>gV a x.1+gV b x.2
def Lv:(t:CT)→t.D→Int→t.D
 | .int _,x,_=>x
 | .bool,x,_=>x
 | .str,x,_=>x
 | .sl e,xs,k=>mk (.sl e) xs k
 | .pair a b,x,k=>(Lv a x.1 k,Lv b x.2 (k+gV a x.1))
theorem C8 {k:IntKind}(x k':Int):mk (.int k) x k'=k':=rfl
theorem zW (x:Bool)(k:Int):mk .bool x k=(Int.tmod k 3==0):=rfl
theorem C9 (x:Bytes)(k:Int):mk .str x k=Zp k:=rfl
theorem we {a b:CT}(x:a.D×b.D)(k:Int):mk (.pair a b) x k=(mk a x.1 k,mk b x.2 (k+lQ a x.1)):=rfl
theorem iz {k:IntKind}(x:Int):lQ (.int k) x=1:=rfl
theorem fW (x:Bool):lQ .bool x=1:=rfl
theorem iA (x:Bytes):lQ .str x=1:=rfl
theorem fX {a b:CT}(x:a.D×b.D):lQ (.pair a b) x=lQ a x.1+lQ b x.2:=rfl
theorem Rq {k:IntKind}(x k':Int):Lv (.int k) x k'=x:=rfl
theorem Nd (x:Bool)(k:Int):Lv .bool x k=x:=rfl
theorem Rr (x:Bytes)(k:Int):Lv .str x k=x:=rfl
theorem Nf {a b:CT}(x:a.D×b.D)(k:Int):Lv (.pair a b) x k=(Lv a x.1 k,Lv b x.2 (k+gV a x.1)):=rfl
theorem LL {k:IntKind}(x:Int):gV (.int k) x=0:=rfl
theorem H0 (x:Bool):gV .bool x=0:=rfl
theorem LM (x:Bytes):gV .str x=0:=rfl
theorem H2 {a b:CT}(x:a.D×b.D):gV (.pair a b) x=gV a x.1+gV b x.2:=rfl
theorem ne3:¬(3:Int)=0:=by omega
theorem xn {n:Int}(h:¬n<0):decide (n<0)=false:=ae h
theorem kl {α:Type}{l:List α}{i:Nat}(x:α)(h:i<l.length):idx (l.set i x) (i:Int)=some x:=by rw[Q7,List.getElem?_set_self h]
theorem IA {e:CT}{T:((List e.D×Int×Int×List e.D)→Option (Int×List e.D))→(List e.D×Int×Int×List e.D)→Option (Int×List e.D)}
 (hs:∀(l:List e.D)(i:Nat)(hi:i<l.length)(k:Int) nx,1≤k→k+lQ e l[i]≤1000000000000000→l.length≤1000000000000→bJ 1000000000000 e l[i]→
  T nx (l,k,(i:Int),l)=nx (l.set i (mk e l[i] k),k+lQ e l[i],(i:Int)+1,l.set i (mk e l[i] k)))
 (hf:∀(l:List e.D)(k:Int) nx,T nx (l,k,(l.length:Int),l)=some (k,l)):
 ∀(xs pre:List e.D)(k:Int)(n:Nat),1≤k→k+lQ (.sl e) xs≤1000000000000000→pre.length+xs.length≤1000000000000→(∀x∈xs,bJ 1000000000000 e x)→xs.length<n→
  aH T n (pre++xs,k,(pre.length:Int),pre++xs)=some (k+lQ (.sl e) xs,pre++mk (.sl e) xs k)
 |[],pre,k,n,_,_,_,_,hn=>by cases n with|zero=>omega|succ n=>rw[aH,bc,hf];simp[lQ,mk,mkL]
 |x::xs,pre,k,n,h1,h2,h3,h4,hn=>by
  cases n with
  |zero=>omega
  |succ n=>
   have hc:lQ (.sl e) (x::xs)=lQ e x+lQ (.sl e) xs:=by simp[lQ]
   have hi:pre.length<(pre++x::xs).length:=by simp
   have hx:(pre++x::xs)[pre.length]=x:=by simp
   simp only[bj]at h3 hn;rw[aH,hs _ pre.length hi k _ h1 (by rw[hx];omega) (by simp;omega) (by rw[hx];exact h4 x (by simp)),hx];have hset:(pre++x::xs).set pre.length (mk e x k)=(pre++[mk e x k])++xs:=by rw[List.set_append_right _ _ (aV _),gr,List.set_cons_zero,aG];rfl
   have hl:((pre.length:Int)+1)=(((pre++[mk e x k]).length:Nat):Int):=by simp
   rw[hset,hl,IA hs hf xs _ _ n (by omega) (by omega) (by simp;omega) (λy hy=>h4 y (by simp[hy])) (by omega)];rw[hc];congr 1;refine Prod.ext (by simp only;omega) ?_;simp only[mk,mkL,aG,List.singleton_append]
theorem Ii {e:CT}{T:List e.D→((Int×Int)→Option Int)→(Int×Int)→Option Int}
 (hs:∀(l:List e.D)(i:Nat)(hi:i<l.length)(x:e.D)(k:Int) nx,l[i]=mk e x k→1≤k→k+lQ e x≤1000000000000000→l.length≤1000000000000→bJ 1000000000000 e x→
  T l nx (k,(i:Int))=nx (k+lQ e x,(i:Int)+1))
 (hf:∀(l:List e.D)(k:Int) nx,T l nx (k,(l.length:Int))=some k):
 ∀(xs pre:List e.D)(k:Int)(n:Nat),1≤k→k+lQ (.sl e) xs≤1000000000000000→pre.length+xs.length≤1000000000000→(∀x∈xs,bJ 1000000000000 e x)→xs.length<n→
  aH (T (pre++mk (.sl e) xs k)) n (k,(pre.length:Int))=some (k+lQ (.sl e) xs)
 |[],pre,k,n,_,_,_,_,hn=>by
  cases n with
  |zero=>omega
  |succ n=>
   have:pre++mk (.sl e) ([]:List e.D) k=pre:=by simp[mk,mkL]
   rw[aH,this,hf];simp[lQ]
 |x::xs,pre,k,n,h1,h2,h3,h4,hn=>by
  cases n with
  |zero=>omega
  |succ n=>
   have hc:lQ (.sl e) (x::xs)=lQ e x+lQ (.sl e) xs:=by simp[lQ]
   have hm:pre++mk (.sl e) (x::xs) k=(pre++[mk e x k])++mk (.sl e) xs (k+lQ e x):=by simp[mk,mkL]
   have hlen:∀(ys:List e.D)(k:Int),(mk (.sl e) ys k).length=ys.length:=by intro ys;induction ys with|nil=>intro k;rfl|cons y ys ih=>intro k;have:=ih (k+lQ e y);simp only[mk,mkL,bj]at this⊢;omega
   simp only[bj]at h3 hn;rw[aH,hm,hs _ pre.length (by simp) x k _ (by simp) h1 (by omega) (by have:=hlen xs (k+lQ e x);simp;omega) (h4 x (by simp))];have hl:((pre.length:Int)+1)=(((pre++[mk e x k]).length:Nat):Int):=by simp
   rw[hl,Ii hs hf xs _ _ n (by omega) (by omega) (by simp;omega) (λy hy=>h4 y (by simp[hy])) (by omega),hc];congr 1;omega
def Jn (t:CT)(mark:t.D→Int→Option (Int×t.D)):Prop:=∀(a:t.D)(_:bJ 1000000000000 t a)(k:Int)(_:1≤k)(_:k+lQ t a≤1000000000000000),mark a k=some (k+lQ t a,mk t a k)
def Jm (t:CT)(held:t.D→Int→Option Int):Prop:=∀(a:t.D)(_:bJ 1000000000000 t a)(k:Int)(_:1≤k)(_:k+lQ t a≤1000000000000000),held (mk t a k) k=some (k+lQ t a)
theorem KN {e:CT}{T:((List e.D×Int×Int×List e.D)→Option (Int×List e.D))→(List e.D×Int×Int×List e.D)→Option (Int×List e.D)}(hs:∀(l:List e.D)(i:Nat)(hi:i<l.length)(k:Int) nx,1≤k→k+lQ e l[i]≤1000000000000000→l.length≤1000000000000→bJ 1000000000000 e l[i]→ T nx (l,k,(i:Int),l)=nx (l.set i (mk e l[i] k),k+lQ e l[i],(i:Int)+1,l.set i (mk e l[i] k)))(hf:∀(l:List e.D)(k:Int) nx,T nx (l,k,(l.length:Int),l)=some (k,l)):Jn (.sl e) (λa k=>aH T fuel (a,k,0,a)):=by have hfu:=dI;intro a h k h1 h2;have hl:a.length≤1000000000000:=h.1;exact IA hs hf a [] k fuel h1 h2 (by simp;omega) h.2 (by omega)
theorem KM {e:CT}{H:List e.D→((Int×Int)→Option Int)→(Int×Int)→Option Int}(gs:∀(l:List e.D)(i:Nat)(hi:i<l.length)(x:e.D)(k:Int) nx,l[i]=mk e x k→1≤k→k+lQ e x≤1000000000000000→l.length≤1000000000000→bJ 1000000000000 e x→ H l nx (k,(i:Int))=nx (k+lQ e x,(i:Int)+1))(gf:∀(l:List e.D)(k:Int) nx,H l nx (k,(l.length:Int))=some k):Jm (.sl e) (λa k=>aH (H a) fuel (k,0)):=by have hfu:=dI;intro a h k h1 h2;have hl:a.length≤1000000000000:=h.1;exact Ii gs gf a [] k fuel h1 h2 (by simp;omega) h.2 (by omega)
def MtM (t:CT)(mark:t.D→Int→Option (Int×t.D)):Prop:=∀(a:t.D)(_:bJ 1000000000000 t a)(k:Int)(_:1≤k)(_:k+gV t a≤1000000000000000),mark a k=some (k+gV t a,Lv t a k)
def MtH (t:CT)(held:t.D→Int→Option Int):Prop:=∀(a:t.D)(_:bJ 1000000000000 t a)(k:Int)(_:1≤k)(_:k+gV t a≤1000000000000000),held (Lv t a k) k=some (k+gV t a)
theorem Jn.top {e:CT}{mark:List e.D→Int→Option (Int×List e.D)}(h:Jn (.sl e) mark):MtM (.sl e) mark:=h
theorem Jm.top {e:CT}{held:List e.D→Int→Option Int}(h:Jm (.sl e) held):MtH (.sl e) held:=h
def OkW:{t:CT}→OE FM t→Prop
 |_,.sl (e:=e) m=>Jn (.sl e) m
 |_,.pair a b=>OkW a∧OkW b
 |_,_=>True
theorem K4 {α R:Type}{f:Int→Option Bytes}(hf:∀k,1≤k→k≤1000000000000000→f k=some (Zp k)){l:List α}{i:Nat}(hi:i<l.length):∀{t:CT}(n:OE FM t)(_:OkW n)(g:α→t.D)(s:α→t.D→α)(_:∀y v,g (s y v)=v)(_:∀y v w,s (s y v) w=s y w)(x:α)(k:Int)(K:List α→Int→Option R),1≤k→k+lQ t (g x)≤1000000000000000→bJ 1000000000000 t (g x)→
 xa f (i:Int) n g s (l.set i x) (l.set i x) k K=K (l.set i (s x (mk t (g x) k))) (k+lQ t (g x))
 |_,.int _,_,g,s,_,_,x,k,K,h1,h2,_=>by simp only[iz]at h2⊢;rw[xa,kl x hi,ab,ab,ax,List.set_set,wrap64 (by omega) (by omega)];rfl
 |_,.bool,_,g,s,_,_,x,k,K,h1,h2,_=>by simp only[fW]at h2⊢;rw[xa,kl x hi,ab,ab,ax,List.set_set,wrap64 (by omega) (by omega)];rfl
 |_,.str,_,g,s,_,_,x,k,K,h1,h2,_=>by simp only[iA]at h2⊢;rw[xa,hf k h1 (by omega),ab,kl x hi,ab,ab,ax,List.set_set,wrap64 (by omega) (by omega)];rfl
 |_,.sl m,hn,g,s,_,_,x,k,K,h1,h2,h3=>by rw[xa,kl x hi,ab,ab,hn (g x) h3 k h1 h2,ab,ax,List.set_set]
 |_,.pair (a:=ca) (b:=cb) a b,hn,g,s,l1,l2,x,k,K,h1,h2,h3=>by rw[fX]at h2⊢;have e1:=K4 (R:=R) hf hi a hn.1 (λy=>(g y).1) (λy v=>s y (v,(g y).2)) (λy v=>by simp only[l1]) (λy v w=>by simp only[l1,l2]) x k;rw[xa,e1 _ h1 (by show k+((lQ ca (g x).1:Nat):Int)≤_;omega) h3.1];have e2:=K4 (R:=R) hf hi b hn.2 (λy=>(g y).2) (λy v=>s y ((g y).1,v)) (λy v=>by simp only[l1]) (λy v w=>by simp only[l1,l2]) (s x (mk ca (g x).1 k,(g x).2)) (k+lQ ca (g x).1) K (by omega) (by simp only[l1];omega) (by simp only[l1];exact h3.2);rw[e2];simp only[l1,l2,we];congr 1;omega
theorem zl {e:CT}(n:OE FM e){T:((List e.D×Int×Int×List e.D)→Option (Int×List e.D))→(List e.D×Int×Int×List e.D)→Option (Int×List e.D)}{f:Int→Option Bytes}(hf:∀k,1≤k→k≤1000000000000000→f k=some (Zp k))(hn:OkW n)(he:∀(l:List e.D)(k i:Int) nx,T nx (l,k,i,l)=cond (decide (i<(l.length:Int))) (xa f i n (λy=>y) (λ_ v=>v) l l k (λL k'=>nx (L,k',aq (i+1),L))) (some (k,l))):Jn (.sl e) (λa k=>aH T fuel (a,k,0,a)):=by
 refine KN (λl i hi k nx h1 h2 h3 hx=>?_) (λl k nx=>?_)
 ·have hl:l=l.set i l[i]:=(List.set_getElem_self hi).symm;rw[he,ah (by omega),ai];conv=>lhs;rw[hl]
  rw[K4 hf hi n hn (λy=>y) (λ_ v=>v) (λ_ _=>rfl) (λ_ _ _=>rfl) l[i] k _ h1 h2 hx];rw[wrap64 (by omega) (by omega)]
 rw[he,ae (by omega)];rfl
def OkV:{t:CT}→OE FH t→Prop
 |_,.sl (e:=e) m=>Jm (.sl e) m
 |_,.pair a b=>OkV a∧OkV b
 |_,_=>True
theorem K3 {α R:Type}{f:Int→Option Bytes}(hf:∀k,1≤k→k≤1000000000000000→f k=some (Zp k)){v:List α}{i:Nat}(hi:i<v.length)(bad:Int→Option R):∀{t:CT}(n:OE FH t)(_:OkV n)(g:α→t.D)(K:Int→Option R)(x:t.D)(k:Int),1≤k→k+lQ t x≤1000000000000000→bJ 1000000000000 t x→g v[i]=mk t x k→
 w9 f (i:Int) v bad n g K k=K (k+lQ t x)
 |_,.int _,_,g,K,x,k,h1,h2,_,h4=>by simp only[iz]at h2⊢;have h5:g v[i]=k:=h4;rw[w9,aX hi,ab,h5,ez,af,wrap64 (by omega) (by omega)];rfl
 |_,.bool,_,g,K,x,k,h1,h2,_,h4=>by simp only[fW]at h2⊢;have h5:g v[i]=(Int.tmod k 3==0):=h4;rw[w9,aX hi,ab,h5,dr,al,af,wrap64 (by omega) (by omega)];rfl
 |_,.str,_,g,K,x,k,h1,h2,_,h4=>by simp only[iA]at h2⊢;have h5:g v[i]=Zp k:=h4;rw[w9,aX hi,ab,hf k h1 (by omega),ab,h5,dr,al,af,wrap64 (by omega) (by omega)];rfl
 |_,.sl m,hn,g,K,x,k,h1,h2,h3,h4=>by rw[w9,aX hi,ab,h4,hn x h3 k h1 h2,ab,ae (by omega),af]
 |_,.pair a b,hn,g,K,x,k,h1,h2,h3,h4=>by rw[fX]at h2⊢;rw[we]at h4;rw[w9,K3 hf hi bad a hn.1 _ _ x.1 k h1 (by omega) h3.1 (by simp only[h4]),K3 hf hi bad b hn.2 _ _ x.2 _ (by omega) (by omega) h3.2 (by simp only[h4])];congr 1;omega
theorem zk {e:CT}(n:OE FH e){H:List e.D→((Int×Int)→Option Int)→(Int×Int)→Option Int}{bad:List e.D→Int→Int→Option Int}{f:Int→Option Bytes}(hf:∀k,1≤k→k≤1000000000000000→f k=some (Zp k))(hn:OkV n)(he:∀(l:List e.D)(k i:Int) nx,H l nx (k,i)=cond (decide (i<(l.length:Int))) (w9 f i l (bad l i) n (λy=>y) (λk'=>nx (k',aq (i+1))) k) (some k)):Jm (.sl e) (λa k=>aH (H a) fuel (k,0)):=by refine KM (λl i hi x k nx hm h1 h2 h3 hx=>?_) (λl k nx=>?_);rw[he,ah (by omega),ai,K3 hf hi _ n hn _ _ x k h1 h2 hx hm,wrap64 (by omega) (by omega)];rw[he,ae (by omega)];rfl
theorem Eh:∀{t:CT}{x:t.D},gV t x≤lQ t x
 | .int _,_=>by simp[gV]
 | .bool,_=>by simp[gV]
 | .str,_=>by simp[gV]
 | .sl _,_=>aV _
 | .pair a b,x=>by simp only[gV,lQ];exact Nat.add_le_add Eh Eh
def wt:CT→Nat
 | .sl e=>wt e
 | .pair a b=>wt a+wt b
 |_=>1
theorem Jv:∀{t:CT}{x:t.D},lQ t x≤wt t*(gA t x+1)
 | .int _,_=>by simp[lQ,wt]
 | .bool,_=>by simp[lQ,wt]
 | .str,_=>by simp[lQ,wt]
 | .sl e,xs=>by
  have h:∀l:List e.D,(l.map (lQ e)).sum≤wt e*((l.map (gA e)).sum+l.length):=by
   intro l;induction l with
   |nil=>simp
   |cons y l ih=>
    have:=Jv (t:=e) (x:=y);simp only[cq,List.sum_cons,bj];have e1:wt e*(gA e y+(l.map (gA e)).sum+(l.length+1))=wt e*(gA e y+1)+wt e*((l.map (gA e)).sum+l.length):=by rw[←Nat.mul_add];congr 1;omega
    omega
  have h1:=h xs;simp only[lQ,wt,gA];refine a7 h1 (Nat.mul_le_mul_left _ (by omega))
 | .pair a b,x=>by have h1:=Jv (t:=a) (x:=x.1);have h2:=Jv (t:=b) (x:=x.2);simp only[lQ,wt,gA];rw[bF];exact Nat.add_le_add (a7 h1 (Nat.mul_le_mul_left _ (by omega))) (a7 h2 (Nat.mul_le_mul_left _ (by omega)))
def QA (n:Nat):CT→Nat
 | .sl e=>n*QA n e
 | .pair a b=>QA n a+QA n b
 |_=>1
theorem BC {n:Nat}:∀{t:CT}{x:t.D},bJ n t x→lQ t x≤QA n t
 | .int _,_,_=>by simp[lQ,QA]
 | .bool,_,_=>by simp[lQ,QA]
 | .str,_,_=>by simp[lQ,QA]
 | .sl e,xs,h=>by
  have h1:∀l:List e.D,(∀x∈l,bJ n e x)→(l.map (lQ e)).sum≤l.length*QA n e:=by intro l;induction l with|nil=>simp|cons y l ih=>intro hl;have:=BC (hl y (by simp));have:=ih (λx hx=>hl x (by simp[hx]));simp only[cq,List.sum_cons,bj,bF,dk];omega
  simp only[lQ,QA];exact a7 (h1 xs h.2) (bC _ h.1)
 | .pair a b,x,h=>by simp only[lQ,QA];exact Nat.add_le_add (BC h.1) (BC h.2)
theorem QE {n:Nat}{e:CT}:∀{xs:List e.D},(∀x∈xs,bJ n e x)→lQ (.sl e) xs≤xs.length*QA n e
 |[],_=>by simp[lQ]
 |y::l,h=>by have h1:=BC (h y (by simp));have h2:=QE (xs:=l) (λx hx=>h x (by simp[hx]));simp only[lQ,cq,List.sum_cons,bj,bF,dk]at h2⊢;omega
theorem T0 {c:dj}(z:bJ 1100000 dQ c)(h:c.1.length≤3):gV dQ c≤600000000000000:=by
 have e1:gV dQ c≤lQ (.sl cv) c.1+lQ (.pair (.sl aC) (.pair (.sl bq) (.pair (.sl .str) (.pair eY (.pair (.sl (.int .i64)) (.sl .str)))))) c.2:=Eh;have e2:=QE (e:=cv) z.1.2;have e3:=BC z.2;have b4:QA 1100000 cv≤99000000000000:=by decide
 have e4:QA 1100000 (.pair (.sl aC) (.pair (.sl bq) (.pair (.sl .str) (.pair eY (.pair (.sl (.int .i64)) (.sl .str))))))≤99000000000000:=by decide
 have e5:c.1.length*QA 1100000 cv≤3*99000000000000:=Nat.mul_le_mul h b4;omega
theorem Oa {c:dj}{e:Int}{p:aO}(z:CK 1048576 c)(hc:gV dQ c≤600000000000000):gV dQ (ry c e p)≤600000000000000:=by
 have h:=Ha (by omega) e p z;cases hb:wN c with
 |true=>exact T0 (h.1.z.mono (by omega)) (by have:=(xk hb).2.2;omega)
 |false=>
  have:ry c e p=c:=by unfold ry;rw[hb];rfl
  rw[this];exact hc
theorem LJ {c:dj}(h:gA dQ c≤1048576):gV dQ c≤600000000000000:=by
 have c0:lQ dQ c≤wt dQ*(gA dQ c+1):=Jv;have w0:wt dQ≤1000:=by decide
 have c2:lQ dQ c≤1000*(gA dQ c+1):=a7 c0 (bC _ w0);have c1:gV dQ c≤lQ dQ c:=Eh;omega
end
end Go.Pu
section
namespace Go.Pu
open Go.Dn
set_option linter.unusedVariables false
set_option linter.unusedSimpArgs false
set_option maxRecDepth 100000
set_option maxHeartbeats 4000000
theorem ui:Jn (.sl (.int .i64)) cQ:=by
 refine KN (e:=(.int .i64)) (T:=jG (λ_ y _ z=>some (y,z))) (λl i hi k nx h1 h2 h3 hx=>?_) (λl k nx=>?_)
 ·try simp only[fX,iz,fW,iA,bP,bQ,←cz]at h2
  simp only[jG];rw[ah (by omega)];simp (disch:=omega) only[ai,aX hi,ab,kl,aY,List.set_set,ax,wrap64,ao,ne3,fL];try simp only[we,C8,zW,C9,fX,iz,fW,iA,bP,bQ,←cz]
 simp only[jG];rw[ae (by omega)];rfl
theorem vn:Jn (.sl .str) fj:=by
 refine KN (e:=.str) (T:=gI (λ_ y _ z=>some (y,z))) (λl i hi k nx h1 h2 h3 hx=>?_) (λl k nx=>?_)
 ·try simp only[fX,iz,fW,iA,bP,bQ,←cz]at h2
  simp only[gI];rw[ah (by omega)];simp (disch:=omega) only[ai,aX hi,ab,kl,aY,List.set_set,ax,wrap64,ao,ne3,fL];try simp only[we,C8,zW,C9,fX,iz,fW,iA,bP,bQ,←cz]
 simp only[gI];rw[ae (by omega)];rfl
theorem Nh:Jn (.sl bg) lG:=zl (e:=bg) (T:=mi (λ_ y _ z=>some (y,z))) (f:=bu) (.pair (.int _) (.pair (.int _) (.pair (.int _) .bool))) fL ⟨trivial,⟨trivial,⟨trivial,trivial⟩⟩⟩ (λl k i nx=>by kernel_rfl)
theorem Vf:Jn (.sl dA) qC:=zl (e:=dA) (T:=qD (λ_ y _ z=>some (y,z))) (f:=bu) (.pair (.int _) (.pair (.int _) (.sl (e:=(.int .i64)) cQ))) fL ⟨trivial,⟨trivial,ui⟩⟩ (λl k i nx=>by kernel_rfl)
theorem Ni:Jn (.sl bt) lH:=zl (e:=bt) (T:=mj (λ_ y _ z=>some (y,z))) (f:=bu) (.pair (.pair (.int _) (.pair (.int _) (.pair (.int _) (.int _)))) (.pair (.pair (.int _) (.pair (.int _) (.int _))) (.pair (.pair (.int _) (.pair (.int _) (.int _))) (.pair (.pair (.pair (.int _) (.pair (.int _) (.pair (.int _) (.pair (.int _) (.pair (.int _) (.pair (.int _) (.pair (.int _) (.pair (.int _) (.pair (.int _) (.pair (.int _) (.pair (.int _) (.pair (.int _) (.pair (.int _) (.pair (.int _) (.pair (.int _) .str))))))))))))))) (.pair (.int _) (.int _))) (.pair .bool (.int _)))))) fL ⟨⟨trivial,⟨trivial,⟨trivial,trivial⟩⟩⟩,⟨⟨trivial,⟨trivial,trivial⟩⟩,⟨⟨trivial,⟨trivial,trivial⟩⟩,⟨⟨⟨trivial,⟨trivial,⟨trivial,⟨trivial,⟨trivial,⟨trivial,⟨trivial,⟨trivial,⟨trivial,⟨trivial,⟨trivial,⟨trivial,⟨trivial,⟨trivial,⟨trivial,trivial⟩⟩⟩⟩⟩⟩⟩⟩⟩⟩⟩⟩⟩⟩⟩,⟨trivial,trivial⟩⟩,⟨trivial,trivial⟩⟩⟩⟩⟩ (λl k i nx=>by kernel_rfl)
theorem Vd:Jn (.sl dF) qy:=zl (e:=dF) (T:=qz (λ_ y _ z=>some (y,z))) (f:=bu) (.pair (.int _) (.pair (.int _) (.pair (.int _) (.sl (e:=(.int .i64)) cQ)))) fL ⟨trivial,⟨trivial,⟨trivial,ui⟩⟩⟩ (λl k i nx=>by kernel_rfl)
theorem PI:Jn (.sl cl) nd:=zl (e:=cl) (T:=nI (λ_ y _ z=>some (y,z))) (f:=bu) (.pair (.int _) (.pair (.int _) (.pair (.int _) (.pair (.int _) (.pair .bool .bool))))) fL ⟨trivial,⟨trivial,⟨trivial,⟨trivial,⟨trivial,trivial⟩⟩⟩⟩⟩ (λl k i nx=>by kernel_rfl)
theorem Vb:Jn (.sl .bool) qu:=by
 refine KN (e:=.bool) (T:=iL (λ_ y _ z=>some (y,z))) (λl i hi k nx h1 h2 h3 hx=>?_) (λl k nx=>?_)
 ·try simp only[fX,iz,fW,iA,bP,bQ,←cz]at h2
  simp only[iL];rw[ah (by omega)];simp (disch:=omega) only[ai,aX hi,ab,kl,aY,List.set_set,ax,wrap64,ao,ne3,fL];try simp only[we,C8,zW,C9,fX,iz,fW,iA,bP,bQ,←cz]
 simp only[iL];rw[ae (by omega)];rfl
theorem Ve:Jn (.sl dw) qA:=zl (e:=dw) (T:=qB (λ_ y _ z=>some (y,z))) (f:=bu) (.pair (.int _) (.pair (.int _) (.pair (.int _) (.pair (.int _) (.pair (.int _) (.pair (.int _) (.pair (.int _) (.pair (.int _) (.int _))))))))) fL ⟨trivial,⟨trivial,⟨trivial,⟨trivial,⟨trivial,⟨trivial,⟨trivial,⟨trivial,trivial⟩⟩⟩⟩⟩⟩⟩⟩ (λl k i nx=>by kernel_rfl)
theorem Vg:Jn (.sl cS) qE:=zl (e:=cS) (T:=qF (λ_ y _ z=>some (y,z))) (f:=bu) (.pair (.int _) (.pair (.pair (.int _) (.pair (.int _) (.pair (.int _) (.pair (.int _) (.int _))))) (.int _))) fL ⟨trivial,⟨⟨trivial,⟨trivial,⟨trivial,⟨trivial,trivial⟩⟩⟩⟩,trivial⟩⟩ (λl k i nx=>by kernel_rfl)
theorem PH:Jn (.sl cu) na:=zl (e:=cu) (T:=nH (λ_ y _ z=>some (y,z))) (f:=bu) (.pair (.pair (.int _) (.pair (.int _) (.pair (.int _) (.pair (.int _) (.int _))))) (.pair (.int _) (.pair .str .bool))) fL ⟨⟨trivial,⟨trivial,⟨trivial,⟨trivial,trivial⟩⟩⟩⟩,⟨trivial,⟨trivial,trivial⟩⟩⟩ (λl k i nx=>by kernel_rfl)
theorem Vc:Jn (.sl cv) u9:=zl (e:=cv) (T:=qw (λ_ y _ z=>some (y,z))) (f:=bu) (.pair (.sl (e:=.str) fj) (.pair (.sl (e:=bg) lG) (.pair (.pair (.pair (.int _) (.pair (.int _) (.pair (.int _) (.int _)))) (.pair (.pair (.int _) (.pair (.int _) (.pair (.int _) (.sl (e:=(.int .i64)) cQ)))) (.pair (.sl (e:=dA) qC) (.int _)))) (.pair (.sl (e:=bt) lH) (.pair (.sl (e:=dF) qy) (.pair (.sl (e:=cl) nd) (.pair (.sl (e:=.bool) qu) (.pair (.pair (.int _) (.pair .bool (.sl (e:=(.int .i64)) cQ))) (.pair (.pair (.sl (e:=dw) qA) (.pair (.sl (e:=cS) qE) (.pair .str (.sl (e:=(.int .i64)) cQ)))) (.pair (.sl (e:=cu) na) (.pair .bool (.pair (.sl (e:=.str) fj) (.pair (.sl (e:=(.int .i64)) cQ) (.pair (.sl (e:=(.int .i64)) cQ) (.pair (.int _) (.pair (.int _) (.pair (.int _) (.pair (.int _) (.int _))))))))))))))))))) fL ⟨vn,⟨Nh,⟨⟨⟨trivial,⟨trivial,⟨trivial,trivial⟩⟩⟩,⟨⟨trivial,⟨trivial,⟨trivial,ui⟩⟩⟩,⟨Vf,trivial⟩⟩⟩,⟨Ni,⟨Vd,⟨PI,⟨Vb,⟨⟨trivial,⟨trivial,ui⟩⟩,⟨⟨Ve,⟨Vg,⟨trivial,ui⟩⟩⟩,⟨PH,⟨trivial,⟨vn,⟨ui,⟨ui,⟨trivial,⟨trivial,⟨trivial,⟨trivial,trivial⟩⟩⟩⟩⟩⟩⟩⟩⟩⟩⟩⟩⟩⟩⟩⟩⟩⟩ (λl k i nx=>by kernel_rfl)
theorem Aq:Jn (.sl aC) im:=zl (e:=aC) (T:=gx (λ_ y _ z=>some (y,z))) (f:=bu) (.pair (.int _) (.pair (.int _) (.pair (.pair (.int _) (.pair (.int _) (.int _))) (.pair .bool (.pair (.int _) (.int _)))))) fL ⟨trivial,⟨trivial,⟨⟨trivial,⟨trivial,trivial⟩⟩,⟨trivial,⟨trivial,trivial⟩⟩⟩⟩⟩ (λl k i nx=>by kernel_rfl)
theorem Ng:Jn (.sl bq) qx:=zl (e:=bq) (T:=mh (λ_ y _ z=>some (y,z))) (f:=bu) (.pair (.pair (.int _) (.pair .bool (.sl (e:=(.int .i64)) cQ))) (.pair (.int _) (.pair (.int _) (.int _)))) fL ⟨⟨trivial,⟨trivial,ui⟩⟩,⟨trivial,⟨trivial,trivial⟩⟩⟩ (λl k i nx=>by kernel_rfl)
theorem Np:MtM (.sl .str) qv:=by intro a h k h1 h2;simp (disch:=omega) only[qv,ab,vn.top a h]
theorem Eg (a:dj):gV dQ a=gV (.sl cv) a.1+(gV (.sl aC) a.2.1+(gV (.sl bq) a.2.2.1+(gV (.sl .str) a.2.2.2.1+((0+(0+(0+0)))+(gV (.sl (.int .i64)) a.2.2.2.2.2.1+(gV (.sl .str) a.2.2.2.2.2.2)))))):=rfl
theorem Ro (a:dj)(k:Int):Lv dQ a k=(Lv (.sl cv) a.1 (k),Lv (.sl aC) a.2.1 (k+((gV (.sl cv) a.1:Nat):Int)),Lv (.sl bq) a.2.2.1 (k+((gV (.sl cv) a.1:Nat):Int)+((gV (.sl aC) a.2.1:Nat):Int)),Lv (.sl .str) a.2.2.2.1 (k+((gV (.sl cv) a.1:Nat):Int)+((gV (.sl aC) a.2.1:Nat):Int)+((gV (.sl bq) a.2.2.1:Nat):Int)),a.2.2.2.2.1,Lv (.sl (.int .i64)) a.2.2.2.2.2.1 (k+((gV (.sl cv) a.1:Nat):Int)+((gV (.sl aC) a.2.1:Nat):Int)+((gV (.sl bq) a.2.2.1:Nat):Int)+((gV (.sl .str) a.2.2.2.1:Nat):Int)),Lv (.sl .str) a.2.2.2.2.2.2 (k+((gV (.sl cv) a.1:Nat):Int)+((gV (.sl aC) a.2.1:Nat):Int)+((gV (.sl bq) a.2.2.1:Nat):Int)+((gV (.sl .str) a.2.2.2.1:Nat):Int)+((gV (.sl (.int .i64)) a.2.2.2.2.2.1:Nat):Int))):=by simp only[Nf,Rq,Nd,Rr,H2,LL,H0,LM,bP,Int.natCast_zero,Int.add_zero,←cz]
theorem Rs:MtM dQ n4:=by intro a h k h1 h2;rw[Eg]at h2;simp (disch:=omega) only[n4,ab,Vc.top _ h.1,Aq.top _ h.2.1,Ng.top _ h.2.2.1,Np _ h.2.2.2.1,vn.top _ h.2.2.2.1,ui.top _ h.2.2.2.2.2.1,Np _ h.2.2.2.2.2.2,vn.top _ h.2.2.2.2.2.2];rw[Ro,Eg];refine congrArg some (Prod.ext (by simp only;omega) ?_);first|rfl|simp only[Nf,Rq,Nd,Rr,H2,LL,H0,LM,bP,Int.natCast_zero,Int.add_zero,←cz]
theorem tS:Jm (.sl (.int .i64)) cP:=by
 refine KM (e:=(.int .i64)) (H:=λv=>jF (λy _=>some y) (λ_ y _=>some y) v 0) (λl i hi x k nx hm h1 h2 h3 hx=>?_) (λl k nx=>?_)
 ·try simp only[fX,iz,fW,iA,bP,bQ,←cz]at h2
  try simp only[we,C8,zW,C9,fX,iz,fW,iA,bP,bQ,←cz]at hm
  simp only[jF];rw[ah (by omega)];simp (disch:=omega) only[ai,aX hi,hm,ab,ez,dr,al,af,wrap64,ao,ne3,xn,fL];try simp only[fX,iz,fW,iA,bP,bQ,←cz]
 simp only[jF];rw[ae (by omega)];rfl
theorem uS:Jm (.sl .str) fi:=by
 refine KM (e:=.str) (H:=λv=>gH (λy _=>some y) (λ_ y _=>some y) v 0) (λl i hi x k nx hm h1 h2 h3 hx=>?_) (λl k nx=>?_)
 ·try simp only[fX,iz,fW,iA,bP,bQ,←cz]at h2
  try simp only[we,C8,zW,C9,fX,iz,fW,iA,bP,bQ,←cz]at hm
  simp only[gH];rw[ah (by omega)];simp (disch:=omega) only[ai,aX hi,hm,ab,ez,dr,al,af,wrap64,ao,ne3,xn,fL];try simp only[fX,iz,fW,iA,bP,bQ,←cz]
 simp only[gH];rw[ae (by omega)];rfl
theorem MJ:Jm (.sl bg) lE:=zk (e:=bg) (H:=λv=>me (λy _=>some y) (λ_ y _=>some y) v 0) (bad:=λ_ i k=>some (-1)) (f:=bu) (.pair (.int _) (.pair (.int _) (.pair (.int _) .bool))) fL ⟨trivial,⟨trivial,⟨trivial,trivial⟩⟩⟩ (λl k i nx=>by kernel_rfl)
theorem Uy:Jm (.sl dA) qp:=zk (e:=dA) (H:=λv=>qq (λy _=>some y) (λ_ y _=>some y) v 0) (bad:=λ_ i k=>some (-1)) (f:=bu) (.pair (.int _) (.pair (.int _) (.sl (e:=(.int .i64)) cP))) fL ⟨trivial,⟨trivial,tS⟩⟩ (λl k i nx=>by kernel_rfl)
theorem MK:Jm (.sl bt) lF:=zk (e:=bt) (H:=λv=>mf (λy _=>some y) (λ_ y _=>some y) v 0) (bad:=λ_ i k=>some (-1)) (f:=bu) (.pair (.pair (.int _) (.pair (.int _) (.pair (.int _) (.int _)))) (.pair (.pair (.int _) (.pair (.int _) (.int _))) (.pair (.pair (.int _) (.pair (.int _) (.int _))) (.pair (.pair (.pair (.int _) (.pair (.int _) (.pair (.int _) (.pair (.int _) (.pair (.int _) (.pair (.int _) (.pair (.int _) (.pair (.int _) (.pair (.int _) (.pair (.int _) (.pair (.int _) (.pair (.int _) (.pair (.int _) (.pair (.int _) (.pair (.int _) .str))))))))))))))) (.pair (.int _) (.int _))) (.pair .bool (.int _)))))) fL ⟨⟨trivial,⟨trivial,⟨trivial,trivial⟩⟩⟩,⟨⟨trivial,⟨trivial,trivial⟩⟩,⟨⟨trivial,⟨trivial,trivial⟩⟩,⟨⟨⟨trivial,⟨trivial,⟨trivial,⟨trivial,⟨trivial,⟨trivial,⟨trivial,⟨trivial,⟨trivial,⟨trivial,⟨trivial,⟨trivial,⟨trivial,⟨trivial,⟨trivial,trivial⟩⟩⟩⟩⟩⟩⟩⟩⟩⟩⟩⟩⟩⟩⟩,⟨trivial,trivial⟩⟩,⟨trivial,trivial⟩⟩⟩⟩⟩ (λl k i nx=>by kernel_rfl)
theorem Uw:Jm (.sl dF) ql:=zk (e:=dF) (H:=λv=>qm (λy _=>some y) (λ_ y _=>some y) v 0) (bad:=λ_ i k=>some (-1)) (f:=bu) (.pair (.int _) (.pair (.int _) (.pair (.int _) (.sl (e:=(.int .i64)) cP)))) fL ⟨trivial,⟨trivial,⟨trivial,tS⟩⟩⟩ (λl k i nx=>by kernel_rfl)
theorem Pa:Jm (.sl cl) m9:=zk (e:=cl) (H:=λv=>nG (λy _=>some y) (λ_ y _=>some y) v 0) (bad:=λ_ i k=>some (-1)) (f:=bu) (.pair (.int _) (.pair (.int _) (.pair (.int _) (.pair (.int _) (.pair .bool .bool))))) fL ⟨trivial,⟨trivial,⟨trivial,⟨trivial,⟨trivial,trivial⟩⟩⟩⟩⟩ (λl k i nx=>by kernel_rfl)
theorem Uu:Jm (.sl .bool) qh:=by
 refine KM (e:=.bool) (H:=λv=>iK (λy _=>some y) (λ_ y _=>some y) v 0) (λl i hi x k nx hm h1 h2 h3 hx=>?_) (λl k nx=>?_)
 ·try simp only[fX,iz,fW,iA,bP,bQ,←cz]at h2
  try simp only[we,C8,zW,C9,fX,iz,fW,iA,bP,bQ,←cz]at hm
  simp only[iK];rw[ah (by omega)];simp (disch:=omega) only[ai,aX hi,hm,ab,ez,dr,al,af,wrap64,ao,ne3,xn,fL];try simp only[fX,iz,fW,iA,bP,bQ,←cz]
 simp only[iK];rw[ae (by omega)];rfl
theorem Ux:Jm (.sl dw) qn:=zk (e:=dw) (H:=λv=>qo (λy _=>some y) (λ_ y _=>some y) v 0) (bad:=λ_ i k=>some (-1)) (f:=bu) (.pair (.int _) (.pair (.int _) (.pair (.int _) (.pair (.int _) (.pair (.int _) (.pair (.int _) (.pair (.int _) (.pair (.int _) (.int _))))))))) fL ⟨trivial,⟨trivial,⟨trivial,⟨trivial,⟨trivial,⟨trivial,⟨trivial,⟨trivial,trivial⟩⟩⟩⟩⟩⟩⟩⟩ (λl k i nx=>by kernel_rfl)
theorem Uz:Jm (.sl cS) qs:=zk (e:=cS) (H:=λv=>qt (λy _=>some y) (λ_ y _=>some y) v 0) (bad:=λ_ i k=>some (-1)) (f:=bu) (.pair (.int _) (.pair (.pair (.int _) (.pair (.int _) (.pair (.int _) (.pair (.int _) (.int _))))) (.int _))) fL ⟨trivial,⟨⟨trivial,⟨trivial,⟨trivial,⟨trivial,trivial⟩⟩⟩⟩,trivial⟩⟩ (λl k i nx=>by kernel_rfl)
theorem O9:Jm (.sl cu) m8:=zk (e:=cu) (H:=λv=>nE (λy _=>some y) (λ_ y _=>some y) v 0) (bad:=λ_ i k=>some (-1)) (f:=bu) (.pair (.pair (.int _) (.pair (.int _) (.pair (.int _) (.pair (.int _) (.int _))))) (.pair (.int _) (.pair .str .bool))) fL ⟨⟨trivial,⟨trivial,⟨trivial,⟨trivial,trivial⟩⟩⟩⟩,⟨trivial,⟨trivial,trivial⟩⟩⟩ (λl k i nx=>by kernel_rfl)
theorem Uv:Jm (.sl cv) u7:=zk (e:=cv) (H:=λv=>qj (λy _=>some y) (λ_ y _=>some y) v 0) (bad:=λ_ i k=>some (-1)) (f:=bu) (.pair (.sl (e:=.str) fi) (.pair (.sl (e:=bg) lE) (.pair (.pair (.pair (.int _) (.pair (.int _) (.pair (.int _) (.int _)))) (.pair (.pair (.int _) (.pair (.int _) (.pair (.int _) (.sl (e:=(.int .i64)) cP)))) (.pair (.sl (e:=dA) qp) (.int _)))) (.pair (.sl (e:=bt) lF) (.pair (.sl (e:=dF) ql) (.pair (.sl (e:=cl) m9) (.pair (.sl (e:=.bool) qh) (.pair (.pair (.int _) (.pair .bool (.sl (e:=(.int .i64)) cP))) (.pair (.pair (.sl (e:=dw) qn) (.pair (.sl (e:=cS) qs) (.pair .str (.sl (e:=(.int .i64)) cP)))) (.pair (.sl (e:=cu) m8) (.pair .bool (.pair (.sl (e:=.str) fi) (.pair (.sl (e:=(.int .i64)) cP) (.pair (.sl (e:=(.int .i64)) cP) (.pair (.int _) (.pair (.int _) (.pair (.int _) (.pair (.int _) (.int _))))))))))))))))))) fL ⟨uS,⟨MJ,⟨⟨⟨trivial,⟨trivial,⟨trivial,trivial⟩⟩⟩,⟨⟨trivial,⟨trivial,⟨trivial,tS⟩⟩⟩,⟨Uy,trivial⟩⟩⟩,⟨MK,⟨Uw,⟨Pa,⟨Uu,⟨⟨trivial,⟨trivial,tS⟩⟩,⟨⟨Ux,⟨Uz,⟨trivial,tS⟩⟩⟩,⟨O9,⟨trivial,⟨uS,⟨tS,⟨tS,⟨trivial,⟨trivial,⟨trivial,⟨trivial,trivial⟩⟩⟩⟩⟩⟩⟩⟩⟩⟩⟩⟩⟩⟩⟩⟩⟩⟩ (λl k i nx=>by kernel_rfl)
theorem Ap:Jm (.sl aC) il:=zk (e:=aC) (H:=λv=>gw (λy _=>some y) (λ_ y _=>some y) v 0) (bad:=λ_ i k=>some (-1)) (f:=bu) (.pair (.int _) (.pair (.int _) (.pair (.pair (.int _) (.pair (.int _) (.int _))) (.pair .bool (.pair (.int _) (.int _)))))) fL ⟨trivial,⟨trivial,⟨⟨trivial,⟨trivial,trivial⟩⟩,⟨trivial,⟨trivial,trivial⟩⟩⟩⟩⟩ (λl k i nx=>by kernel_rfl)
theorem MI:Jm (.sl bq) qk:=zk (e:=bq) (H:=λv=>md (λy _=>some y) (λ_ y _=>some y) v 0) (bad:=λ_ i k=>some (-1)) (f:=bu) (.pair (.pair (.int _) (.pair .bool (.sl (e:=(.int .i64)) cP))) (.pair (.int _) (.pair (.int _) (.int _)))) fL ⟨⟨trivial,⟨trivial,tS⟩⟩,⟨trivial,⟨trivial,trivial⟩⟩⟩ (λl k i nx=>by kernel_rfl)
theorem MM:MtH (.sl .str) qi:=by intro a h k h1 h2;simp (disch:=omega) only[qi,ab,uS.top a h,xn,af]
theorem Yo:MtH dQ k8:=by intro a h k h1 h2;rw[Eg]at h2;rw[Ro];simp (disch:=omega) only[k8,ab,Uv.top _ h.1,Ap.top _ h.2.1,MI.top _ h.2.2.1,MM _ h.2.2.2.1,uS.top _ h.2.2.2.1,tS.top _ h.2.2.2.2.2.1,MM _ h.2.2.2.2.2.2,uS.top _ h.2.2.2.2.2.2,xn,af];rw[Eg];refine congrArg some (by omega)
end Go.Pu
end
namespace Go.Pu
open Go.Dn
set_option linter.unusedSimpArgs false
set_option linter.unusedVariables false
noncomputable section
theorem D3 (a:dj)(e:Int)(p:aO)(ha:kh dQ a)(he:kh (.int .i64) e)(hp:kh cd p):kt a e p=some true:=by
 unfold kt;refine(Zg a ha).use (by omega) (by omega) λhl=>?_;refine(Jb p hp).use (by omega) (by omega) λhl2=>?_;have hA:bJ 1048576 dQ a:=yg (by omega);have hP:bJ 1048576 cd p:=yg (by omega);have hz:CK 1048576 a:=CK.of (by omega);have hs:=GZ a e p (hz.mono (by omega));have hi:=Ge a e p (hz.mono (by omega));have hR:=(Ha (by omega) e p hz).1.z;have c1:=LJ (c:=a) (by omega);have c2:=Oa (e:=e) (p:=p) hz c1;generalize ry a e p=r at hs hi hR c2;have m1:=Rs a (hA.mono (by omega)) 1 (by omega) (by omega);have m2:=Rs r (hR.mono (by omega)) 1 (by omega) (by omega);have m3:∀t,t=Lv dQ r 1→k8 t 1=some (1+(gV dQ r:Int)):=by rintro _ rfl;exact Yo r (hR.mono (by omega)) 1 (by omega) (by omega)
 simp (disch:=omega) only[Zk a hA,Dr p hP,ab,hs,hi,QZ r (hR.mono (by omega)),QZ a (hA.mono (by omega)),dr,ez,al,af,m1,m2,xn];rw[m3];simp (disch:=omega) only[ab,xn,af,ez];rfl
end
end Go.Pu
