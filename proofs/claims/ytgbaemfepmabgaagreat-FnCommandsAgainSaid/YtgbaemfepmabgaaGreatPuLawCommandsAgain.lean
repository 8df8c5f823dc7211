import Derived.Test.YtgbaemfepmabgaaGreatPure
import Derived.Test.YtgbaemfepmabgaaGreatPuX1
namespace Go.Pu
open Go.Dn
set_option linter.unusedSimpArgs false
set_option linter.unusedVariables false
noncomputable section
/- CardOk: the program's and the reference's answers are one. -/
def Co (v:Int)(b:Bytes):Bytes:=((dU v++dU (b.length:Int))++b)++dU (wq ((dU v++dU (b.length:Int))++b))
def ca (v:Int)(b:Bytes):Bytes×Bool:=bif cx v 0 1000000&&decide (b.length≤84) then(Co v b,true) else([],false)
theorem zo (v:Int)(b:Bytes)(h:b.length≤1000000000):hC v b=some (ca v b):=by have l1:=cZ v;have l2:=cZ (b.length:Int);unfold hC ca;rw[wrap64 (by omega) (by omega)];simp only[ch,ae];cases cx v 0 1000000 with|false=>rfl|true=>by_cases hb:b.length≤84;have l3:=cZ (wq ((dU v++dU (b.length:Int))++b));rw[af (show¬((b.length:Int)+12>96) by omega),ai hb];simp only[ax,ak,ae,df,ah,iC];rw[aW (by omega),aW (by simp only[aj];omega),IM _ (by simp only[aj];omega)];simp only[ae,iC];rw[aW (by simp only[aj];omega)];rfl;rw[ai (show((b.length:Int)+12>96) by omega),af hb];rfl
theorem LI (v:Int)(b:Bytes)(h:b.length≤1000000000):mn v b=some (ca v b):=by have l1:=cZ v;have l2:=cZ (b.length:Int);unfold mn ca;rw[wrap64 (by omega) (by omega)];simp only[cX,ae];cases cx v 0 1000000 with|false=>rfl|true=>by_cases hb:b.length≤84;have l3:=cZ (wq ((dU v++dU (b.length:Int))++b));rw[af (show¬(12+(b.length:Int)>96) by omega),ai hb];simp only[ax,ak,ae,df,ah,yw];rw[aW (by omega),aW (by simp only[aj];omega),Oe _ (by simp only[aj];omega)];simp only[ae,yw];rw[aW (by simp only[aj];omega)];rfl;rw[ai (show(12+(b.length:Int)>96) by omega),af hb];rfl
def KI (s:Bytes)(n:Nat):Int:=bif (ca (eA s 0) ((s.take (8+n)).drop 8)).2&&((ca (eA s 0) ((s.take (8+n)).drop 8)).1==s.take (12+n)) then eA s 0 else-1
def jA (s:Bytes):Int:=if 0≤eA s 4∧eA s 4≤(s.length:Int)-12 then KI s (eA s 4).toNat else-1
theorem D8 (s:Bytes)(a:Int): -1≤eA s a∧eA s a≤4294967295:=by unfold eA;cases dC s a 4 with|false=>simp only[ak];omega|true=>have b0:=dP s a.toNat;have b1:=dP s (a.toNat+1);have b2:=dP s (a.toNat+2);have b3:=dP s (a.toNat+3);simp only[ah];omega
theorem KJ {s:Bytes}{n:Nat}(h:¬n≤84)(hs:n+12≤s.length):KI s n= -1:=by
 have:(ca (eA s 0) ((s.take (8+n)).drop 8)).2=false:=by unfold ca;rw[af (by simp only[aZ,bh];omega),eU];rfl
 unfold KI;rw[this];rfl
theorem IQ (s:Bytes)(h:s.length≤1000000000):gp s=some (jA s):=by
 unfold gp jA;have hg:=D8 s 4;simp only[Kx s _ h,ch,ae];rw[wrap64 (n:=eA s 4+12) (by omega) (by omega),wrap64 (n:=8+eA s 4) (by omega) (by omega)];generalize eA s 4=n at hg;by_cases hc:0≤n∧n≤(s.length:Int)-12;rw[ar hc];obtain⟨m,rfl⟩:=bJ hc.1;by_cases h84:m≤84;have e1:cx (m:Int) 0 84=true:=bq.2 (by omega);have e2:sub s 8 (8+(m:Int))=some ((s.take (8+m)).drop 8):=by unfold sub;rw[ar (by omega)];rfl
 have e3:sub s 0 ((m:Int)+12)=some (s.take (12+m)):=by unfold sub;rw[ar (by omega),show((m:Int)+12).toNat=12+m by omega];rfl
 rw[e1,af (show¬((m:Int)+12>(s.length:Int)) by omega),e2,e3];simp only[ax,ak,ae,aS];rw[zo _ _ (by simp only[aZ,bh];omega)];unfold KI;simp only[ae];cases (ca (eA s 0) ((s.take (8+m)).drop 8)).2<;>cases ((ca (eA s 0) ((s.take (8+m)).drop 8)).1==s.take (12+m))<;>rfl;have e1:cx (m:Int) 0 84=false:=by rw[Bool.eq_false_iff,ne_eq,bq];omega
 rw[e1,aS,KJ h84 (by omega)];rfl;rw[aq hc];by_cases hb:cx n 0 84=true;have:=bq.1 hb;rw[hb,ai (show n+12>(s.length:Int) by omega)];rfl;have hb':cx n 0 84=false:=by simpa using hb
 rw[hb'];rfl
theorem Ir (s:Bytes)(h:s.length≤1000000000):gi s=some (jA s):=by
 unfold gi jA;have hg:=D8 s 4;simp only[Ju s _ h,ae];rw[wrap64 (n:=12+eA s 4) (by omega) (by omega),wrap64 (n:=8+eA s 4) (by omega) (by omega),wrap64 (n:=(s.length:Int)-12) (by omega) (by omega)];generalize eA s 4=n at hg;by_cases hc:0≤n∧n≤(s.length:Int)-12;rw[ar hc];obtain⟨m,rfl⟩:=bJ hc.1;have e2:sub s 8 (8+(m:Int))=some ((s.take (8+m)).drop 8):=by unfold sub;rw[ar (by omega)];rfl
 have e3:sub s 0 (12+(m:Int))=some (s.take (12+m)):=by unfold sub;rw[ar (by omega),show(12+(m:Int)).toNat=12+m by omega];rfl
 rw[af (show¬((m:Int)<0) by omega),af (show¬((m:Int)>(s.length:Int)-12) by omega),e2,e3];simp only[ak,ae,aS];rw[LI _ _ (by simp only[aZ,bh];omega)];unfold KI;simp only[ae];cases (ca (eA s 0) ((s.take (8+m)).drop 8)).2<;>cases ((ca (eA s 0) ((s.take (8+m)).drop 8)).1==s.take (12+m))<;>rfl;rw[aq hc];by_cases h0:n<0;rw[ai h0];rfl;rw[af h0,ai (show n>(s.length:Int)-12 by omega)];rfl
def qy (f:List Bytes):Bool:=((f.length:Int)==2)&&((((f.getD 0 []).length:Int)==96)&&(((f.getD 1 []).length:Int)==96))
theorem AM {f:List Bytes}(h:qy f=true):f=[f.getD 0 [],f.getD 1 []]∧(f.getD 0 []).length=96∧(f.getD 1 []).length=96:=by simp only[qy,ab,aM]at h;match f,h with|[a,b],h=>have h1:(a.length:Int)=96:=h.2.1;have h2:(b.length:Int)=96:=h.2.2;exact⟨rfl,by show a.length=96;omega,by show b.length=96;omega⟩
theorem Bo (f:List Bytes):oK f=some (qy f):=by
 unfold oK qy;match f with
 |[]=>rfl
 |[a]=>rfl
 |[a,b]=>have i0:idx [a,b] 0=some a:=rfl;have i1:idx [a,b] 1=some b:=rfl;rw[i0,i1];simp only[ae,ba,cF];rfl
 |a::b::c::r=>
  have:(((a::b::c::r).length:Int)==2)=false:=by simp only[bO,cU];omega
  rw[this];rfl
theorem Jt (f:List Bytes):rn f=some (qy f):=Bo f
def jh (f:List Bytes):Int:=bif qy f then(if jA (f.getD 0 [])<0∧jA (f.getD 1 [])<0 then-1 else if jA (f.getD 1 [])>jA (f.getD 0 []) then 1 else 0) else-1
theorem MD (f:List Bytes):nK f=some (jh f):=by unfold nK jh;rw[Bo,ae];cases hf:qy f with|false=>rfl|true=>obtain⟨e,l0,l1⟩:=AM hf;generalize f.getD 0 []=a at*;generalize f.getD 1 []=b at*;subst e;have i0:idx [a,b] 0=some a:=rfl;have i1:idx [a,b] 1=some b:=rfl;simp only[ax,ak,ah,i0,i1,ae,IQ a (by omega),IQ b (by omega)];by_cases p:jA a<0<;>by_cases q:jA b<0<;>by_cases r:jA b>jA a<;>simp[p,q,r]
theorem LC (f:List Bytes):nA f=some (jh f):=by
 unfold nA jh;rw[Jt,ae];cases hf:qy f with
 |false=>rfl
 |true=>
  obtain⟨e,l0,l1⟩:=AM hf;generalize f.getD 0 []=a at*;generalize f.getD 1 []=b at*;subst e;have i0:idx [a,b] 0=some a:=rfl;have i1:idx [a,b] 1=some b:=rfl;simp only[ax,ak,ah,i0,i1,ae,Ir a (by omega),Ir b (by omega)];by_cases r:jA b>jA a;have r':¬jA a≥jA b:=by omega
  by_cases p:jA a<0<;>by_cases q:jA b<0<;>simp[p,q,r,r'];have r':jA a≥jA b:=by omega
  by_cases p:jA a<0<;>by_cases q:jA b<0<;>simp[p,q,r,r']
def nd (c:Int×Int×Int×Int):Bool:=cx c.1 0 1125899906842624&&(cx c.2.1 0 1048575&&(cx c.2.2.1 0 67108864&&cx c.2.2.2 0 1099511627776))
theorem Bn (c:Int×Int×Int×Int):oJ c=some (nd c):=by simp only[oJ,ch,ae,ba,cF,nd]
theorem Js (c:Int×Int×Int×Int):rl c=some (nd c):=Bn c
def ux (c:dL)(i:Nat):Bool:=(c.1[i]?.all wz)&&zQ (c.1[i]?.map (·.2.2.2.2.2.2.2.1)) (c.2.2.1[i]?.map (·.1))
def yC (c:dL):Bool:=((c.1.length:Int)==(c.2.2.1.length:Int))&&((c.2.1.length:Int)==(c.2.2.1.length:Int))
def wo (c:dL):Bool:=(c9 c.2.2.1).2&&(yC c&&(jI c.2.1 (c9 c.2.2.1).1&&((!decide (jh c.2.2.2.1<0)&&nd c.2.2.2.2.1)&&((List.range c.1.length).all (ux c)&&(List.range c.1.length).all (rA c.2.1)))))
structure F9 (c:dL):Prop where
 h0:c.1.length≤1000000000
 f0:c.2.1.length≤1000000000
 m:∀m∈c.2.2.1,m.1.2.2.length≤1000000000
 h1:∀h∈c.1,Ga h
theorem AY {c:dL}(h:yC c=true):c.1.length=c.2.2.1.length∧c.2.1.length=c.2.2.1.length:=by unfold yC at h;simp only[ab,aM]at h;omega
theorem xG {c:dL}(i:Nat)(hi:i<c.1.length)(hj:i<c.2.2.1.length):ux c i=(wz c.1[i]&&zQ c.1[i].2.2.2.2.2.2.2.1 c.2.2.1[i].1):=by unfold ux;rw[List.getElem?_eq_getElem hi,List.getElem?_eq_getElem hj];congr 1;apply Ch;rw[s8];simp
theorem Eh (c:dL)(z:F9 c):n8 c=some (wo c):=by
 have hp:=Kg c.2.2.1;unfold n8 wo;simp only[sI _ z.m,z0 _ _ z.f0 hp.1 hp.2,GX _ z.f0,LC,Js,ae,ba,cT,cF,bne];rw[show((!((c.1.length:Int)==(c.2.2.1.length:Int)))|| !((c.2.1.length:Int)==(c.2.2.1.length:Int)))= !(yC c) by unfold yC;simp only[Bool.not_and]];cases (c9 c.2.2.1).2 with|false=>rfl|true=>?_
 cases hl:yC c with|false=>rfl|true=>?_
 have hL:=AY hl;have h0:=z.h0;simp only[ax,cH,ak,bn];have hd:decide (jh c.2.2.2.1≥0)= !decide (jh c.2.2.2.1<0):=by by_cases h:jh c.2.2.2.1<0;rw[ai h,af (by omega)];rfl;rw[af h,ai (by omega)];rfl
 rw[hd,eC (hit:=some false) (fin:=some (jI c.2.1 (c9 c.2.2.1).1&&((List.range c.2.1.length).all (rA c.2.1)&&(!decide (jh c.2.2.2.1<0)&&nd c.2.2.2.2.1)))) (ux c) c.1.length (by omega) (λi nx hi=>?hs) (λnx=>?hf)]
 case hs=>
  have q1:i<c.2.2.1.length:=by omega
  have hm:=aY hi
  rw[xG i hi q1]
  simp only[mj]
  rw[ai (by omega),bH hi,bH q1,wrap64 (n:=(i:Int)+1) (by omega) (by omega)]
  simp only[ah,ae,LG _ (z.h1 _ hm),Cv _ _ (z.h1 _ hm).f1,ba,cT]
  cases wz c.1[i]<;>cases zQ c.1[i].2.2.2.2.2.2.2.1 c.2.2.1[i].1<;>rfl
 case hf=>
  simp only[mj]
  rw[af (by omega)];rfl
 rw[hL.2,←hL.1];cases (List.range c.1.length).all (ux c)<;>cases (List.range c.1.length).all (rA c.2.1)<;>cases jI c.2.1 (c9 c.2.2.1).1<;>cases (!decide (jh c.2.2.2.1<0)&&nd c.2.2.2.2.1)<;>rfl
theorem map_take {α β:Type}(f:α→β)(l:List α)(i:Nat)(hi:i<l.length):(l.take i).map f++[f l[i]]=(l.take (i+1)).map f:=by rw[bC hi,List.map_append];rfl
theorem ot (m:aJ)(h:m.1.2.2.length≤1000000000):fE m=some m:=by simp only[fE,gR _ h,ae]
theorem xl (m:aJ)(h:m.1.2.2.length≤1000000000):oZ m=some m:=by simp only[oZ,pJ _ h,ae]
theorem tD (l:List aJ)(h:l.length≤1000000000)(hx:∀m∈l,m.1.2.2.length≤1000000000):jN l=some l:=by unfold jN;refine(ie (λi=>(l.take i,(i:Int))) l.length (by omega) (λi nx hi=>?_) (λnx=>?_));simp only[js];rw[ai (by omega),bH hi,wrap64 (by omega) (by omega)];simp only[ah,ae,ot _ (hx _ (aY hi))];rw[aW (by simp;omega),←bC hi];rfl;simp only[js];rw[af (by omega),da];rfl
theorem uH (l:List aO)(h:l.length≤1000000000):iw l=some l:=by simp only[iw,fM h,bm]
theorem Gz {c:dL}(h:wo c=true):c.1.length=c.2.2.1.length∧c.2.1.length=c.2.2.1.length:=by unfold wo at h;simp only[ab]at h;exact AY h.2.1
def tP (s:Bytes):Prop:=∀x∈s,x=0
theorem Dd {s:Bytes}(h:tP s):s=List.replicate s.length 0:=List.eq_replicate_iff.2 ⟨rfl,h⟩
theorem zN (n:Nat):tP (re n):=by intro x hx;simp only[re,bytesOf,List.map_replicate]at hx;exact(List.mem_replicate.1 hx).2
theorem NT {s t:Bytes}(h:tP s)(k:tP t)(e:s.length=t.length):s=t:=by rw[Dd h,Dd k,e]
theorem Wu {x:Bytes}{o:Nat}{t:Bytes}(hx:tP x)(ht:tP t)(h:o+t.length≤x.length):tF x o t=x:=by refine NT (λy hy=>?_) hx (Bh h);unfold tF at hy;rcases al.1 hy with g|g;exact hx y (List.mem_of_mem_take g);rcases al.1 g with g|g;exact ht y g;exact hx y (List.mem_of_mem_drop g)
theorem NK:∀(n:Nat){m:List Bytes}{a:Nat}{s:Bytes},sM m→(∀x∈m,tP x)→tP s→a+s.length≤128*m.length→qK n m a s=m
 |0,m,a,s,_,_,_,_=>rfl
 |n+1,m,a,s,hp,hm,hs,hl=>by rw[qK];by_cases h0:s.length=0;rw[ar h0];rw[aq h0];obtain⟨h1,h2,_⟩:=uj hp h0 hl;have ho:tF (m[a/128]'h1) (a%128) (s.take (128-a%128))=m[a/128]'h1:=Wu (hm _ (aY h1)) (λy hy=>hs y (List.mem_of_mem_take hy)) (by rw[h2,bh];omega);rw[db h1,ho,List.set_getElem_self];exact NK n hp hm (λy hy=>hs y (List.mem_of_mem_drop hy)) (by rw[aZ];omega)
theorem O2 {m:List Bytes}{s:Bytes}(a:Int)(hm:∀x∈m,tP x)(hs:tP s):(n0 m a s).1=m:=by
 unfold n0;cases hw:jC m a (s.length:Int)with|false=>rfl|true=>?_
 simp only[jC,ab,aI]at hw;exact NK s.length (ni.1 hw.1) hm hs (by omega)
theorem Pj:∀(q:List (Int×Int)){m:List Bytes}{s:Bytes},(∀x∈m,tP x)→tP s→Al q m s=m
 |[],m,s,_,_=>rfl
 |p::q,m,s,hm,hs=>by rw[Al,O2 _ hm (λy hy=>hs y (List.mem_of_mem_take hy))];exact Pj q hm (λy hy=>hs y (List.mem_of_mem_drop hy))
theorem Wv {m:List Bytes}{s:Bytes}(hm:∀x∈m,tP x)(hs:tP s)(l:List aQ)(d a:Int)(w:Bool):(pF l m d a s w).1=m:=by unfold pF;cases (kW l m d a (s.length:Int) w).2 with|false=>rfl|true=>exact Pj _ hm hs
def pQ (n:Nat):List Bytes:=List.replicate n (re 128)
theorem R6 {n:Nat}:∀x∈pQ n,tP x:=λx hx=>by rw[(List.mem_replicate.1 hx).2];exact zN 128
theorem JL (n:Nat):pQ (n+1)=pQ n++[re 128]:=List.replicate_succ'
theorem zp (n:Nat)(h:n≤64):hH (n:Int)=some (pQ n):=by have hz:dq 128 0=some (re 128):=zn 128 (by omega);unfold hH;refine ie (λi=>((i:Int),pQ i)) n (by omega) (λi nx hi=>?_) (λnx=>?_);simp only[jy];rw[ai (show(i:Int)<n by omega),ah,ai (by omega),ae,ah,hz,ae,aW (by simp[pQ];omega),wrap64 (by omega) (by omega),JL];rfl;simp only[jy];rw[af (show¬(n:Int)<n by omega),ak,ae,ak]
def ng (a b:Int):Vector×Bool:=bif jz (a,b,0,0,false,false) then((a,b,0,0,false,false),true) else((0,0,0,0,false,false),false)
theorem zq (a b:Int):mM a b=some (ng a b):=by unfold mM ng;rw[zv,ae];cases jz (a,b,0,0,false,false)<;>rfl
def kH (i:Nat):List aQ:=(List.range i).map λ(p:Nat)=>(0,(p:Int),37-(p:Int), !cx (p:Int) 2 9)
theorem yI (i:Nat):kH (i+1)=kH i++[(0,(i:Int),37-(i:Int), !cx (i:Int) 2 9)]:=by simp[kH,List.range_succ]
theorem qU (i:Nat):(kH i).length=i:=by simp[kH]
def UH:Host:=(([]:List Bytes),([]:List aQ),((0,0,0,0),(0,0,0,([]:List Int)),([]:List mZ),0),([]:List dG),([]:List du),([]:List Vector),([]:List Bool),(0,false,([]:List Int)),(([]:List kL),([]:List Slot),([]:Bytes),([]:List Int)),([]:List Stream),false,([]:List Bytes),([]:List Int),([]:List Int),0,0,0,0,0)
def Ef (f:Filter)(s:cd)(c:Bool)(i:Nat):Host:=(pQ 38,kH i,w8,([]:List dG),([]:List du),([]:List Vector),([]:List Bool),f,s,([]:List Stream),c,([]:List Bytes),([]:List Int),([]:List Int),0,0,0,0,0)
def AJ:List Bytes×(Int×Int×Int×Int)×du×Int:=pn (kH 38) (pQ 38) 0 (Mv 0).1 (gY (gB 0+128) 384 4).1
def Pb (f:Filter)(s:cd)(c:Bool)(v:Vector):Host:=(AJ.1,kH 38,w8,[(AJ.2.1,(Mv 0).2)],[AJ.2.2.1],[v],[false],f,s,([]:List Stream),c,([]:List Bytes),([]:List Int),([]:List Int),0,0,0,0,0)
def gX (f:Filter)(s:cd)(c:Bool)(a b:Int):Host×Bool:=
 bif cQ f&&(dK s 1&&(ng a b).2) then(Pb f s c (ng a b).1,true) else(UH,false)
theorem wI (f:Filter)(s:cd)(c:Bool)(a b:Int)(hf:f.2.2.length≤1000000000)(h1:s.1.length≤1000000000)(h2:s.2.1.length≤1000000000)(h3:s.2.2.2.length≤1000000000):ky 1 f s c a b=some (gX f s c a b):=by
 have hfu:=ee;unfold ky gX;rw[zq,ae,ch,ae,show cx (1:Int) 1 2=true from bq.2 (by omega),rK f hf,vf s 1 h1 h2 h3];simp only[ax,ak,ae];cases cQ f with|false=>rfl|true=>?_
 cases dK s 1 with|false=>rfl|true=>?_
 generalize ng a b=v;cases hv:v.2 with|false=>rfl|true=>?_
 have hm:hH 38=some (pQ 38):=zp 38 (by omega);simp only[ax,ak,ae,eB,ah,hm,Bt,pJ f hf,tI s h1 h2 h3];refine ie (λi=>((i:Int),Ef f s c i)) 38 (by omega) (λi nx hi=>?_) (λnx=>?_);have hl:=qU i;simp only[iM];rw[ai (by omega),ah,ch,ae,aW (by show(kH i).length+1≤_;omega),wrap64 (n:=(i:Int)+1) (by omega) (by omega),wrap64 (n:=37-(i:Int)) (by omega) (by omega)];show nx ((i:Int)+1,pQ 38,kH i++_,_)=nx (((i+1:Nat):Int),pQ 38,kH (i+1),_);rw[yI];rfl;simp only[iM];rw[af (by omega),ak];have h38:=qU 38;have hmem:(pQ 38).length≤1000000000:=by rw[pQ,List.length_replicate];omega
 have ho:pE (kH 38) (pQ 38) 0=AJ:=by unfold pE AJ;rw[Wv R6 (zN 128)];rfl
 have e1:(Mv 0).2=((gB 0+64,4,0),(gB 0+64,4,0),((0,0,0,0,0,0,0,0,0,0,0,0,0,0,0,([]:Bytes)),0,0),false,0):=rfl;have hop:=FU (pQ 38,kH 38,w8,[((0,0,0,0),(0,0,0),(0,0,0),((0,0,0,0,0,0,0,0,0,0,0,0,0,0,0,([]:Bytes)),0,0),false,0)],[(0,0,0,([]:List Int))],[v.1],[false],f,s,([]:List Stream),c,([]:List Bytes),([]:List Int),([]:List Int),0,0,0,0,0) 0 (by omega) (Nat.lt_succ_self 0) (Nat.lt_succ_self 0) (by show(kH 38).length≤_;omega) hmem;unfold IC at hop;simp only[ho,List.set_cons_zero,List.getElem?_cons_zero,show((0:Nat):Int)=0 from rfl]at hop;obtain⟨g,hg⟩:∃g,fuel=g+2:=⟨fuel-2,by omega⟩
 unfold Ef Pb;rw[e1];generalize gB 0=bb at hop⊢;generalize AJ=o at hop⊢;generalize pQ 38=m at hop⊢;generalize kH 38=l at hop⊢;rw[hg,bc,hG];rw[ai (by omega),ah];simp only;rw[aW (by simp),aW (by simp),aW (by simp),aW (by simp)];simp only[bm];rw[hop,ae,bc,hG,wrap64 (by omega) (by omega),af (by omega),ak]
def Lb:dL:=(([]:List Host),([]:List aO),([]:List aJ),([]:List Bytes),(0,0,0,0),([]:List Int),([]:List Bytes))
def Ah (st:cd)(c:Bool)(bk:Int×Int×Int)(x:aJ)(s:List Host×List aO):Except (Option (dL×Bool)) (List Host×List aO):=
 if(gX x.1 st c 1 2).2=true then .ok (s.1++[(gX x.1 st c 1 2).1],s.2++[((s.2.length:Int),(s.2.length:Int)+1,bk,true,0,0)]) else .error (some (Lb,false))
def mE (ms:List aJ)(st:cd)(c:Bool)(bk:Int×Int×Int)(f:List Bytes)(t:Int):Option (dL×Bool):=
 bif (c9 ms).2&&(me bk&&(!decide (jh f<0)&&nd (0,0,t,0))) then
  rH (Ah st c bk) (λs=>some ((s.1,s.2,ms,f,(0,0,t,0),([]:List Int),([]:List Bytes)),true)) ms ([],[])
 else some (Lb,false)
theorem FR (ms:List aJ)(st:cd)(c:Bool)(bk:Int×Int×Int)(f:List Bytes)(t:Int)(hm:ms.length≤1000000000)(hx:∀m∈ms,m.1.2.2.length≤1000000000)(hf:f.length≤1000000000)(h1:st.1.length≤1000000000)(h2:st.2.1.length≤1000000000)(h3:st.2.2.2.length≤1000000000):kx ms st c bk f t=mE ms st c bk f t:=by
 have hfu:=ee;unfold kx mE;rw[FV ms hx,ae,fM (by omega)];simp only[zm,MD,Bn,ae];cases hp:(c9 ms).2 with|false=>rfl|true=>?_
 cases me bk with|false=>rfl|true=>?_
 cases decide (jh f<0)with|true=>rfl|false=>?_
 cases nd (0,0,t,0)with|false=>rfl|true=>?_
 have h3':=Fx hp;simp only[ax,ak,ae,eB,bZ,ah,bm];refine og ms (λs i=>(((i:Int),s.1,s.2,ms.take i,f,(0,0,t,0),([]:List Int),([]:List Bytes)):Int×dL)) (λi s=>s.1.length=i∧s.2.length=i) (Ah st c bk) _ (by omega) (λi hi s nx hI=>?_) (λi hi s s' hI he=>?_) (λs nx hI=>?_) ([],[]) ⟨rfl,rfl⟩;simp only[lx];rw[ai (by omega),ah,bH hi,ae,wI _ st c 1 2 (hx _ (aY hi)) h1 h2 h3,ae];unfold Ah;cases hb:(gX ms[i].1 st c 1 2).2 with|false=>rfl|true=>rw[ar rfl];simp only[ax,ak];rw[aW (by rw[cE];omega),aW (by rw[cE];omega),ae,xl _ (hx _ (aY hi)),ae,aW (by rw[cE,bh];omega),wrap64 (by omega) (by omega),hI.2,bC hi];rfl
 unfold Ah at he;split at he;injection he with he;rw[←he];simp[hI.1,hI.2];cases he;simp only[lx];rw[af (by omega),ak,da]
def Ends {α:Type}(o:Option α)(P:α→Prop):Prop:=∃x,o=some x∧P x
theorem Ends.pure {α:Type}{x:α}{P:α→Prop}(h:P x):Ends (some x) P:=⟨x,rfl,h⟩
theorem Ends.bind {α R:Type}{o:Option α}{P:α→Prop}{k:α→Option R}{Q:R→Prop}(h:Ends o P)(hk:∀x,P x→Ends (k x) Q):Ends (aa o k) Q:=by obtain⟨x,rfl,hx⟩:=h;exact hk x hx
theorem Ends.mono {α:Type}{o:Option α}{P Q:α→Prop}(h:Ends o P)(hq:∀x,P x→Q x):Ends o Q:=by obtain⟨x,hx,hp⟩:=h;exact⟨x,hx,hq x hp⟩
theorem Ends.cond {α:Type}{c:Bool}{a b:Option α}{P:α→Prop}(h1:c=true→Ends a P)(h2:c=false→Ends b P):Ends (cond c a b) P:=by cases c with|true=>exact h1 rfl|false=>exact h2 rfl
theorem Ends.NN {α:Type}{p:Prop}[Decidable p]{a:Option α}{P:α→Prop}(h:¬p)(ha:Ends a P):Ends (if p then none else a) P:=by rw[aq h];exact ha
theorem Ends.room {α:Type}{n:Nat}{k:Option α}{P:α→Prop}(h:n≤1073741824)(hk:Ends k P):Ends (room n k) P:=by rw[aW h];exact hk
theorem Ends.of {α:Type}{o:Option α}{x:α}{P:α→Prop}(h:o=some x)(hp:P x):Ends o P:=⟨x,h,hp⟩
theorem Ends.iter {σ R:Type}{T:(σ→Option R)→σ→Option R}{Q:R→Prop}(I:σ→Prop)(m:σ→Nat)(hs:∀x nx,I x→(∀y,I y→m y<m x→Ends (nx y) Q)→Ends (T nx x) Q): ∀n x,I x→m x<n→Ends (bc T n x) Q:=by intro n;induction n with|zero=>intro x _ h;omega|succ n ih=>intro x hx hm;rw[bc];exact hs x _ hx λy hy hlt=>ih y hy (by omega)
theorem Ends.sL {σ R:Type}{T:(σ→Option R)→σ→Option R}{Q:R→Prop}(I:σ→Prop)(m:σ→Nat){x:σ}(hx:I x)(hm:m x≤1000000000000)(hs:∀x nx,I x→(∀y,I y→m y<m x→Ends (nx y) Q)→Ends (T nx x) Q):Ends (bc T fuel x) Q:=Ends.iter I m hs fuel x hx (by have:=ee;omega)
theorem Ends.idx {α R:Type}{xs:List α}{i:Int}{k:α→Option R}{Q:R→Prop}(h0:0≤i)(h1:i<(xs.length:Int))(hk:∀(h:i.toNat<xs.length),Ends (k xs[i.toNat]) Q):Ends (aa (idx xs i) k) Q:=by
 obtain⟨n,rfl⟩:=bJ h0;have hn:n<xs.length:=by omega
 rw[bH hn,ae];exact hk (by simpa using hn)
abbrev oz:=List Int×Int×Int
def Cu (c:oz):Prop:=0≤c.2.1∧c.2.1≤(c.1.length:Int)∧c.1.length≤1048576
theorem K3 (x y:Int)(n:Nat)(hy:(BitVec.ofInt (IntKind.bits .i64) y).toNat=n)(hn:n<9223372036854775808):0≤aw (BitVec.toNat (BitVec.ofInt (IntKind.bits .i64) x&&&BitVec.ofInt (IntKind.bits .i64) y))∧aw (BitVec.toNat (BitVec.ofInt (IntKind.bits .i64) x&&&BitVec.ofInt (IntKind.bits .i64) y))≤n:=by
 have h:(BitVec.ofInt (IntKind.bits .i64) x&&&BitVec.ofInt (IntKind.bits .i64) y).toNat≤n:=by rw[BitVec.toNat_and,hy];exact Nat.and_le_right
 generalize (BitVec.ofInt (IntKind.bits .i64) x&&&BitVec.ofInt (IntKind.bits .i64) y).toNat=k at h;rw[wrap64 (by omega) (by omega)];omega
theorem Sf {a:List Int}(ha:a.length≤1048576):Ends (qq a) Cu:=by
 unfold qq;refine Ends.sL (λx=>0≤x.2∧x.2≤4000) (λx=>(4000-x.2).toNat) ⟨by omega,by omega⟩ (by simp) λx nx hx hn=>?_;unfold pM;refine Ends.bind (P:=λb=>b=true→x.2<(a.length:Int)∧x.2<4000) (Ends.cond (λh=>Ends.pure λh2=>⟨bD h,bD h2⟩) λh=>Ends.pure λh2=>by cases h2) λq hq=>?_;refine Ends.cond (λh=>?_) (λh=>Ends.pure ⟨dS _,by simp,ha⟩);have hq:=hq h;refine Ends.idx hx.1 hq.1 λ_=>hn _ ⟨?_,?_⟩ ?_;all_goals simp only[wrap64 (n:=x.2+1) (by omega) (by omega)]
 all_goals omega
theorem s7 {c:oz}(h:Cu c):Ends (fw c) λr=>(0≤r.1∧r.1≤255)∧Cu r.2:=by
 unfold fw;refine Ends.NN (by decide) (Ends.NN (by decide) (Ends.cond (λh1=>?_) λh1=>?_))
 ·have h1:=bD h1;refine Ends.idx h.1 h1 λ_=>Ends.pure ⟨K3 _ 255 255 rfl (by decide),?_⟩;refine⟨?_,?_,h.2.2⟩;all_goals simp only[wrap64 (n:=c.2.1+1) (by have:=h.1;omega) (by have:=h.2.2;omega)]
  have:=h.1;omega;omega
 exact Ends.pure ⟨K3 _ 255 255 rfl (by decide),h.1,h.2.1,h.2.2⟩
theorem dD {c:oz}(h:Cu c){n:Int}(hn:0<n):Ends (bG c n) λr=>(0≤r.1∧r.1<n)∧Cu r.2:=by unfold bG;rw[af (by omega)];simp only[ak];refine Ends.cond (λh1=>?_) λh1=>?_;refine(s7 h).bind λr hr=>Ends.NN (by omega) (Ends.pure ⟨⟨Int.tmod_nonneg _ hr.1.1,Int.tmod_lt_of_pos _ hn⟩,hr.2⟩);refine(s7 h).bind λr2 h2=>(s7 h2.2).bind λr3 h3=>(s7 h3.2).bind λr4 h4=>(s7 h4.2).bind λr5 h5=>Ends.NN (by omega) (Ends.pure ⟨⟨Int.tmod_nonneg _ ?_,Int.tmod_lt_of_pos _ hn⟩,h5.2⟩);have a2:=h2.1;have a3:=h3.1;have a4:=h4.1;have a5:=h5.1;rw[wrap64 (n:=r2.1*16777216) (by omega) (by omega),wrap64 (n:=r3.1*65536) (by omega) (by omega),wrap64 (n:=r4.1*256) (by omega) (by omega)];rw[wrap64 (n:=r2.1*16777216+r3.1*65536) (by omega) (by omega)];rw[wrap64 (n:=r2.1*16777216+r3.1*65536+r4.1*256) (by omega) (by omega)];rw[wrap64 (by omega) (by omega)];omega
theorem K5 {c:oz}(h:Cu c)(n:Int):Ends (bG c n) λr=>(0≤r.1∧(r.1<n∨r.1=0))∧Cu r.2:=by
 rcases Int.lt_or_le 0 n with hn|hn;exact(dD h hn).mono λr hr=>⟨⟨hr.1.1,Or.inl hr.1.2⟩,hr.2⟩
 unfold bG;rw[ai hn];exact Ends.pure ⟨⟨dS _,Or.inr rfl⟩,h⟩
theorem lp {c:oz}(h:Cu c)(n:Int):Ends (dr c n) λr=>Cu r.2:=by unfold dr;exact(K5 h n).bind λr hr=>Ends.pure hr.2
theorem eW {c:oz}(h:Cu c){l:List Int}{P:Int→Prop}(hl:0<l.length)(hp:∀x∈l,P x):Ends (bN c l) λr=>P r.1∧Cu r.2:=by unfold bN;exact(dD h (by omega)).bind λr hr=>Ends.idx hr.1.1 hr.1.2 λhi=>Ends.pure ⟨hp _ (aY hi),hr.2⟩
theorem tt {c:oz}(h:Cu c)(n:Int):Ends (fy c n) λr=>(r.1.length≤5000∧(0≤n→n≤5000→(r.1.length:Int)=n)∧(n≤0→r.1=[]))∧Cu r.2:=by
 have key:∀v:Int,v≤5000→∀Q:(Bytes×oz)→Prop,(∀x c,((x.length:Int)=v∨(v≤0∧x=[]))→Cu c→Q (bytesOf x,c))→Ends (bc (iR (λy _ z=>some (bytesOf y,z)) v) fuel (([]:List Int),0,c)) Q:=by
  intro v hv Q hQ;refine Ends.sL (λx=>(x.1.length:Int)=x.2.1∧(x.2.1≤v∨x.2.1=0)∧Cu x.2.2) (λx=>(v-x.2.1).toNat) ⟨rfl,Or.inr rfl,h⟩ (by simp;omega) λx nx hx hn=>?_;unfold iR;refine Ends.cond (λh1=>?_) λh1=>Ends.pure (hQ _ _ ?_ hx.2.2)
  ·have h1:=bD h1;refine(s7 hx.2.2).bind λr hr=>Ends.room (by simp;omega) (hn _ ⟨?_,?_,hr.2⟩ ?_);all_goals simp only[wrap64 (n:=x.2.1+1) (by omega) (by omega)]
   simp;omega;omega;omega
  have h1:=of_decide_eq_false h1;rcases hx.2.1 with h2|h2;exact Or.inl (by omega);rcases Int.lt_or_le 0 v with h3|h3;omega;exact Or.inr ⟨h3,bt (by omega)⟩
 have hb:∀x:List Int,(bytesOf x).length=x.length:=λx=>by simp[bytesOf]
 unfold fy;refine Ends.cond (λh1=>?_) λh1=>?_;have h1:=bD h1;refine key 5000 (by omega) _ λx c hx hc=>⟨⟨by rw[hb];rcases hx with hx|hx<;>omega,λ_ _=>by omega,λ_=>by omega⟩,hc⟩
 have h1:=of_decide_eq_false h1;refine key n (by omega) _ λx c hx hc=>⟨⟨?_,λh0 _=>?_,λh0=>?_⟩,hc⟩
 rw[hb];rcases hx with hx|hx;omega;rw[hx.2];simp;rw[hb];rcases hx with hx|hx;omega;rw[hx.2];simp;omega;rcases hx with hx|hx;have:x=[]:=bt (by omega);rw[this];rfl;rw[hx.2];rfl
theorem Lz {c:oz}(h:Cu c):Ends (oR c) λr=>(167772161≤r.1∧r.1≤167772163)∧Cu r.2:=by unfold oR;refine(dD h (by decide)).bind λr hr=>Ends.pure ⟨?_,hr.2⟩;have:=hr.1;simp only[wrap64 (n:=167772161+r.1) (by omega) (by omega)];omega
theorem Jl {c:oz}(h:Cu c):Ends (nU c) λr=>(0≤r.1∧r.1≤31)∧Cu r.2:=by unfold nU;exact(eW (P:=λx=>0≤x∧x≤31) h (by decide) (by decide)).bind λr hr=>Ends.pure hr
theorem Sx {c:oz}(h:Cu c){m:Int}(h0:0≤m)(h1:m≤320):Ends (lD c m) λr=>(lN r.1=true∧(r.1.2.2.2.2.2.2.2.length:Int)≤m)∧Cu r.2:=by
 unfold lD;refine(dD h (by decide)).bind λr1 p1=>(dD p1.2 (by decide)).bind λr2 p2=>?_;refine(eW (P:=λx=>0≤x∧x≤4294967295) p2.2 (by simp) ?_).bind λr3 p3=>?_;have:=p2.1;intro x hx;simp only[bg,List.not_mem_nil,or_false]at hx;omega;refine(eW (P:=λx=>0≤x∧x≤4294967295) p3.2 (by decide) (by decide)).bind λr4 p4=>(Jl p4.2).bind λr5 p5=>?_;refine(eW (P:=λx=>0≤x∧x≤65535) p5.2 (by decide) (by decide)).bind λr6 p6=>?_;rw[wrap64 (n:=m+1) (by omega) (by omega)];refine(dD p6.2 (by omega)).bind λr7 p7=>(tt p7.2 r7.1).bind λr8 p8=>(lp p8.2 4).bind λr9 p9=>?_;have a1:=p1.1;have a7:=p7.1;have a8:=p8.1.2.1 a7.1 (by omega);rw[wrap64 (n:=1000+r1.1) (by omega) (by omega)];refine Ends.cond (λ_=>Ends.pure ⟨⟨Mz (by omega) (by omega) (by omega),?_⟩,p9⟩) λ_=>Ends.pure ⟨⟨FF (by omega) (by omega) p3.1 p4.1 p5.1 p6.1 (by omega),?_⟩,p9⟩;all_goals show(r8.1.length:Int)≤m
 all_goals omega
theorem Kb {c:oz}(h:Cu c){m:Int}(h0:0≤m)(h1:m≤320):Ends (hY c m) λr=>(jk r.1=true∧(r.1.2.2.2.2.2.2.2.2.2.2.2.2.2.2.2.length:Int)≤m∧(r.1.2.2.2.2.2.2.2.2.1=6∨r.1.2.2.2.2.2.2.2.2.1=17))∧Cu r.2:=by
 unfold hY;refine(eW (P:=λx=>0≤x∧x≤281474976710655) h (by decide) (by decide)).bind λr1 p1=>?_;refine(eW (P:=λx=>0≤x∧x≤281474976710655) p1.2 (by decide) (by decide)).bind λr2 p2=>?_;refine(eW (P:=λx=> -1≤x∧x≤4095) p2.2 (by decide) (by decide)).bind λr3 p3=>?_;refine(eW (P:=λx=>0≤x∧x≤255) p3.2 (by decide) (by decide)).bind λr4 p4=>?_;refine(eW (P:=λx=>0≤x∧x≤65535) p4.2 (by decide) (by decide)).bind λr5 p5=>?_;refine(eW (P:=λx=>0≤x∧x≤255) p5.2 (by decide) (by decide)).bind λr6 p6=>?_;refine(Lz p6.2).bind λr7 p7=>?_;refine(Sx p7.2 (m:=if 128<m then 128 else m) (by split<;>omega) (by split<;>omega)).bind λr8 p8=>?_;have hh:∀g:dB,lN g=true→mY (r1.1,r2.1,r3.1,r4.1,r5.1,r6.1,r7.1,167772161,g)=true:=λg hg=>Ly p1.1 p2.1 p3.1 p4.1 p5.1 p6.1 (by have:=p7.1;omega) (by omega) hg;have hk:∀g:dB,lN g=true→g.1=6∨g.1=17:=by intro g hg;unfold lN at hg;simp only[ab]at hg;have h2:=hg.2.2.2;cases h17:g.1==17 with|true=>exact Or.inr (by simpa using h17)|false=>rw[h17]at h2;simp only[ak,ab]at h2;exact Or.inl (by simpa using h2.1)
 have hl:(r8.1.2.2.2.2.2.2.2.length:Int)≤128∧(r8.1.2.2.2.2.2.2.2.length:Int)≤m:=by have:=p8.1.2;split at this<;>omega
 have short:∀c':oz,Cu c'→Ends (some ((r1.1,r2.1,r3.1,r4.1,r5.1,r6.1,r7.1,(167772161:Int),r8.1),c')) λr:bf×oz=>(jk r.1=true∧(r.1.2.2.2.2.2.2.2.2.2.2.2.2.2.2.2.length:Int)≤m∧(r.1.2.2.2.2.2.2.2.2.1=6∨r.1.2.2.2.2.2.2.2.2.1=17))∧Cu r.2:=by intro c' hc';refine Ends.pure ⟨⟨?_,hl.2,hk _ p8.1.1⟩,hc'⟩;unfold jk;rw[hh _ p8.1.1,bn];have:decide ((r8.1.2.2.2.2.2.2.2.length:Int)≤128)=true:=ai hl.1;show(decide ((r8.1.2.2.2.2.2.2.2.length:Int)≤128)||_)=true;rw[this,eY]
 refine Ends.cond (λk1=>Ends.cond (λk2=>Ends.cond (λk3=>?_) λ_=>short _ p8.2) λ_=>short _ p8.2) λ_=>short _ p8.2;have k3:=bD k3;refine(lp p8.2 2).bind λr9 p9=>Ends.cond (λ_=>?_) λ_=>short _ p9;rw[wrap64 (n:=m-128) (by omega) (by omega),wrap64 (n:=m-128+1) (by omega) (by omega)];refine(dD p9 (by omega)).bind λr10 p10=>?_;have a10:=p10.1;rw[wrap64 (n:=128+r10.1) (by omega) (by omega)];refine(tt p10.2 _).bind λr11 p11=>?_;have a11:=p11.1.2.1 (by omega) (by omega);have hs:=Ks p8.1.1 (x:=r11.1) (by omega);refine Ends.pure ⟨⟨?_,by show(r11.1.length:Int)≤m;omega,Or.inl (by simpa using k1)⟩,p11.2⟩;unfold jk;rw[hh _ hs,bn];rw[yn _ (vZ p8.1.1 k1)]at k2;show(_||(r8.1.1==6)&&vG r8.1.2.2.2.2.2.1)=true;rw[k1,k2,df,Bool.or_true]
def Plain (p:bf):Prop:=mY p=true∧p.2.2.2.2.2.2.2.2.2.2.2.2.2.2.2.length≤40
theorem Plain.ok {p:bf}(h:Plain p):qk p=true:=(Fp p).2 ⟨h.1,by have:=h.2;omega⟩
theorem uY {c:oz}(h:Cu c):Ends (hY c 40) λr=>Plain r.1∧Cu r.2:=(Kb h (by omega) (by omega)).mono λr hr=>⟨⟨by have:=hr.1.1;unfold jk at this;simp only[ab]at this;exact this.1,by have:=hr.1.2.1;omega⟩,hr.2⟩
theorem LY {R:Type}{Q:R→Prop}{k0:List bf→oz→bf→Option R}{l:List bf}{z n:Int}{c:oz}{p:bf}(hl:l.length≤1000)(hc:Cu c)(hp:Plain p)(hk:∀c' p',Cu c'→Plain p'→Ends (k0 (l++[p]) c' p') Q):Ends (ia k0 l z n c p) Q:=by
 unfold ia;have hi:=Oy (Ed hp.1);have hs:=uG hp.1;refine Ends.room (by simp;omega) (Ends.NN (by decide) (Ends.cond (λh6=>?_) λ_=>hk _ _ hc ⟨tf hp.1 hi hs,hp.2⟩));have h6:p.2.2.2.2.2.2.2.2.1=6:=by simpa using h6
 refine(lp hc 8).bind λr hr=>Ends.cond (λ_=>Ends.NN (by decide) (hk _ _ hr ⟨tf hp.1 hi ?_,hp.2⟩)) λ_=>hk _ _ hr ⟨tf hp.1 hi hs,hp.2⟩;have k:=My hs h6;have hlen:p.2.2.2.2.2.2.2.2.2.2.2.2.2.2.2.length≤320:=by have:=hp.2;omega
 exact FE hs h6 (L9 k.2.2.1 hlen) k.2.2.2.2.1 hlen
theorem LX {R:Type}{Q:R→Prop}{k0:List bf→oz→bf→Option R}{l:List bf}{z n:Int}{c:oz}{p:bf}(hl:l.length≤1000)(hz:1≤z∧z≤40)(hc:Cu c)(hp:Plain p)(hk:∀q c' p',Plain q→Cu c'→Plain p'→Ends (k0 (l++[q]) c' p') Q):Ends (hZ k0 l z n c p) Q:=by
 unfold hZ;refine Ends.cond (λh6=>?_) λ_=>LY hl hc hp λc' p' h1 h2=>hk _ _ _ hp h1 h2;have h6:p.2.2.2.2.2.2.2.2.1=6:=by simpa using h6
 refine(eW (P:=λx=>0≤x∧x≤31) hc (by decide) (by decide)).bind λr8 p8=>(tt p8.2 z).bind λr9 p9=>?_;have a9:=p9.1.2.1 (by omega) (by omega);have hs:=uG hp.1;have hq:Plain (p.1,p.2.1,p.2.2.1,p.2.2.2.1,p.2.2.2.2.1,p.2.2.2.2.2.1,p.2.2.2.2.2.2.1,p.2.2.2.2.2.2.2.1,p.2.2.2.2.2.2.2.2.1,p.2.2.2.2.2.2.2.2.2.1,p.2.2.2.2.2.2.2.2.2.2.1,p.2.2.2.2.2.2.2.2.2.2.2.1,p.2.2.2.2.2.2.2.2.2.2.2.2.1,r8.1,p.2.2.2.2.2.2.2.2.2.2.2.2.2.2.1,r9.1):=⟨tf hp.1 (Ed hp.1) (FE hs h6 (My hs h6).2.2.1 p8.1 (by omega)),by show r9.1.length≤40;omega⟩
 exact LY hl p9.2 hq λc' p' h1 h2=>hk _ _ _ hq h1 h2
theorem Pc {R:Type}{Q:R→Prop}{k0:List bf→Int→oz→bf→Option R}{l:List bf}{z n:Int}{c:oz}{p:bf}(hl:l.length≤1000)(hz:1≤z∧z≤40)(hc:Cu c)(hp:Plain p)(hk:∀q z' c' p',Plain q→(1≤z'∧z'≤40)→Cu c'→Plain p'→Ends (k0 (l++[q]) z' c' p') Q):Ends (iT k0 l z n c p) Q:=by unfold iT;refine(lp hc 6).bind λr6 p6=>Ends.cond (λ_=>?_) λ_=>LX hl hz p6 hp λq c' p' h1 h2 h3=>hk _ _ _ _ h1 hz h2 h3;refine(dD p6 (by decide)).bind λr7 p7=>?_;have a7:=p7.1;rw[wrap64 (n:=1+r7.1) (by omega) (by omega)];exact LX hl (by omega) p7.2 hp λq c' p' h1 h2 h3=>hk _ _ _ _ h1 (by omega) h2 h3
theorem VF {R:Type}{Q:R→Prop}{k0:List bf→Int→Int→oz→bf→Option R}{l:List bf}{z n:Int}{c:oz}{p:bf}(hl:l.length≤1000)(hz:1≤z∧z≤40)(hn:0<n∧n≤1000)(hc:Cu c)(hp:Plain p)(hk:∀q z' c' p',Plain q→(1≤z'∧z'≤40)→Cu c'→Plain p'→Ends (k0 (l++[q]) z' (n-1) c' p') Q):Ends (lE k0 l z n c p) Q:=by unfold lE;have e:aw (n-1)=n-1:=wrap64 (by omega) (by omega);refine(lp hc 5).bind λr4 p4=>Ends.cond (λ_=>?_) λ_=>?_;refine(uY p4).bind λr5 p5=>Pc hl hz p5.2 p5.1 λq z' c' p' h1 h2 h3 h4=>?_;unfold iS;rw[e];exact hk _ _ _ _ h1 h2 h3 h4;refine Pc hl hz p4 hp λq z' c' p' h1 h2 h3 h4=>?_;unfold iS;rw[e];exact hk _ _ _ _ h1 h2 h3 h4
theorem Ot {c:oz}(h:Cu c){m:Int}(h0:0<m)(h1:m≤100):Ends (oS c m) λr=>((∀p∈r.1,Plain p)∧0<r.1.length∧(r.1.length:Int)≤m)∧Cu r.2:=by unfold oS;refine(uY h).bind λr1 p1=>(dD p1.2 (by decide)).bind λr2 p2=>(dD p2.2 h0).bind λr3 p3=>?_;have a2:=p2.1;have a3:=p3.1;rw[wrap64 (n:=r2.1*8) (by omega) (by omega),wrap64 (n:=8+r2.1*8) (by omega) (by omega),wrap64 (n:=1+r3.1) (by omega) (by omega)];refine Ends.sL (λx=>(∀p∈x.1,Plain p)∧(1≤x.2.1∧x.2.1≤40)∧0≤x.2.2.1∧(x.1.length:Int)+x.2.2.1=1+r3.1∧Cu x.2.2.2.1∧Plain x.2.2.2.2) (λx=>x.2.2.1.toNat) ⟨by simp,(by dsimp only;omega),(by dsimp only;omega),by simp,p3.2,p1.1⟩ (by simp;omega) λx nx hx hn=>?_;unfold ov;refine Ends.cond (λk=>?_) λk=>?_;have k:=bD k;refine VF (by omega) hx.2.1 (by omega) hx.2.2.2.2.1 hx.2.2.2.2.2 λq z' c' p' h1 h2 h3 h4=>hn _ ⟨?_,h2,?_,?_,h3,h4⟩ ?_;intro y hy;rcases al.1 hy with hy|hy;exact hx.1 y hy;simp only[bz]at hy;rw[hy];exact h1;show 0≤x.2.2.1-1;omega;show((x.1++[q]).length:Int)+(x.2.2.1-1)=1+r3.1;have:=hx.2.2.2.1;simp;omega;show(x.2.2.1-1).toNat<x.2.2.1.toNat;omega;have k:=of_decide_eq_false k;have:=hx.2.2.2.1;have:=hx.2.2.1;exact Ends.pure ⟨⟨hx.1,(by dsimp only;omega),(by dsimp only;omega)⟩,hx.2.2.2.2.1⟩
theorem Ri {c:oz}(h:Cu c):Ends (qs c) λr=>r.1.length=16∧Cu r.2:=by unfold qs;exact(tt h 16).bind λr hr=>Ends.pure ⟨by have:=hr.1.2.1 (by omega) (by omega);omega,hr.2⟩
structure pR (s:cd):Prop where
 r:s.1.length≤100
 t:s.2.1.length≤100
 k:s.2.2.1.length=16
 p:s.2.2.2.length≤100
theorem DX {c:oz}(h:Cu c):Ends (mS c) λr=>(r.1.1=2∧(r.1.2.2=[7]∨r.1.2.2=[]))∧Cu r.2:=by unfold mS;exact(lp h 4).bind λr1 p1=>(lp p1 2).bind λr2 p2=>Ends.cond (λ_=>Ends.pure ⟨⟨rfl,Or.inl rfl⟩,p2⟩) λ_=>Ends.pure ⟨⟨rfl,Or.inr rfl⟩,p2⟩
theorem R5:dQ (kH 38)=true:=by decide+kernel
structure Made (f:Filter) (s:cd) (c:Bool) (k:Nat) (h:Host):Prop where
 mem:dm h.1=true
 ml:h.1.length=38
 maps:h.2.1=kH 38
 tx:h.2.2.1=w8
 rx:h.2.2.2.1.length=k
 rxs:∀r∈h.2.2.2.1,BD 0 r∧r.2.2.2.2.1=false
 pl:h.2.2.2.2.1.length=k
 pls:∀p∈h.2.2.2.2.1,dy p=true∧p.2.2.2.length≤1000
 vec:h.2.2.2.2.2.1.length=k
 vecs:∀v∈h.2.2.2.2.2.1,jz v=true
 pol:h.2.2.2.2.2.2.1.length=k
 rest:h.2.2.2.2.2.2.2=(f,s,([]:List Stream),c,([]:List Bytes),([]:List Int),([]:List Int),0,0,0,0,0)
theorem FJ {α:Type}(l:List α)(x y:α):(l++[x]).set l.length y=l++[y]:=by simp
theorem Ou {n:Nat}(h:n≤64):dm (pQ n)=true:=ni.2 ⟨λx hx=>by rw[(List.mem_replicate.1 hx).2];exact wh 128,by simp[pQ];exact h⟩
theorem JH {f:Filter}{s:cd}{c:Bool}{k:Nat}{h:Host}(m:Made f s c k h)(hk:k≤8){v:Vector}(hv:jz v=true):Ends (mU (h.1,h.2.1,h.2.2.1,h.2.2.2.1++[((0,0,0,0),(0,0,0),(0,0,0),((0,0,0,0,0,0,0,0,0,0,0,0,0,0,0,([]:Bytes)),0,0),false,0)],h.2.2.2.2.1++[(0,0,0,([]:List Int))],h.2.2.2.2.2.1++[v],h.2.2.2.2.2.2.1++[false],h.2.2.2.2.2.2.2) (k:Int)) λr=>Made f s c (k+1) r.2:=by
 refine Ends.of (FU _ k hk (by simp[m.rx]) (by simp[m.pl]) (by show h.2.1.length≤_;rw[m.maps,qU];omega) (by show h.1.length≤_;rw[m.ml];omega)) ?_;have o:=J5 m.mem h.2.1 hk;have e1:(h.2.2.2.1++[(((0,0,0,0),(0,0,0),(0,0,0),((0,0,0,0,0,0,0,0,0,0,0,0,0,0,0,([]:Bytes)),0,0),false,0):dG)])[k]?=some ((0,0,0,0),(0,0,0),(0,0,0),((0,0,0,0,0,0,0,0,0,0,0,0,0,0,0,([]:Bytes)),0,0),false,0):=by rw[←m.rx];simp
 have e2:∀y:dG,(h.2.2.2.1++[(((0,0,0,0),(0,0,0),(0,0,0),((0,0,0,0,0,0,0,0,0,0,0,0,0,0,0,([]:Bytes)),0,0),false,0):dG)]).set k y=h.2.2.2.1++[y]:=λy=>by rw[←m.rx];exact FJ _ _ _
 have e3:∀y:du,(h.2.2.2.2.1++[(((0,0,0,([]:List Int))):du)]).set k y=h.2.2.2.2.1++[y]:=λy=>by rw[←m.pl];exact FJ _ _ _
 unfold IC;simp only[e1,e2,e3];have hp:(pE h.2.1 h.1 k).2.2.1.2.2.2.length≤1000:=by unfold pE;exact bL (GL ..) (ry _ _ _ (by omega))
 refine⟨o.1,?_,m.maps,m.tx,by show(_++[_]).length=_;rw[aj,m.rx];rfl,?_,by show(_++[_]).length=_;rw[aj,m.pl];rfl,?_,by show(_++[_]).length=_;rw[aj,m.vec];rfl,?_,by show(_++[_]).length=_;rw[aj,m.pol];rfl,m.rest⟩;show(pE h.2.1 h.1 k).1.length=38;rw[J4,m.ml];intro r hr;rcases al.1 hr with hr|hr;exact m.rxs r hr;rw[bz.1 hr];exact⟨Mw hk o.2.1 ⟨dS _,dS _⟩,rfl⟩;intro p hp';rcases al.1 hp' with hp'|hp';exact m.pls p hp';rw[bz.1 hp'];exact⟨o.2.2,hp⟩;intro w hw;rcases al.1 hw with hw|hw;exact m.vecs w hw;rw[bz.1 hw];exact hv
structure wj (h:Host):Prop where
 Qs:Good 0 h
 sz:HV 2000 h
 maps:∀m∈h.2.1,m.2.2.1<(h.1.length:Int)
 led:h.2.2.1.2.2.1=[]∧h.2.2.2.2.2.2.2.2.2.2.2.1=[]∧h.2.2.2.2.2.2.2.2.2.2.2.2.1=[]∧h.2.2.2.2.2.2.2.2.2.2.2.2.2.1=[]
theorem Hf {f:Filter}{s:cd}{c:Bool}{k:Nat}{h:Host}(m:Made f s c k h)(hk:1≤k∧k≤2)(hf:cQ f=true)(hf2:f.2.2.length≤1000)(hs:dK s (k:Int)=true)(hz:pR s):wj h:=by have h4:=ry 256 128 8 (by omega);obtain⟨m1,m2,m3,m4,m5,m6,m7,m8,m9,m10,m11,m12⟩:=m;obtain⟨mem,maps,tx,rx,pl,vec,pol,rest⟩:=h;simp only at m1 m2 m3 m4 m5 m6 m7 m8 m9 m10 m11 m12;subst m12 m3 m4;refine⟨⟨m1,R5,SF 0 (by omega),hf,?_,by show dK s (rx.length:Int)=true;rw[m5];exact hs,λr hr=>(m6 r hr).1,λp hp=>(m8 p hp).1,m10,?_⟩,⟨?_,?_⟩,?_,⟨rfl,rfl,rfl,rfl⟩⟩;unfold uR;simp only[ab,bq,aM];omega;intro x hx;simp only[fZ,bg,List.not_mem_nil,or_false,or_self]at hx;omega;have hm:=(ni.1 m1).1;refine⟨⟨by show mem.length≤2000;omega,λx hx=>by show x.length≤2000;rw[hm x hx];omega⟩,⟨by show(kH 38).length≤2000;rw[qU];omega,λ_ _=>⟨trivial,trivial,trivial,trivial⟩⟩,?_,?_,?_,?_,?_,⟨trivial,trivial,by show f.2.2.length≤2000;omega,λ_ _=>trivial⟩,?_,⟨cl _,λx hx=>by cases hx⟩,trivial,⟨cl _,λx hx=>by cases hx⟩,⟨cl _,λx hx=>by cases hx⟩,⟨cl _,λx hx=>by cases hx⟩,trivial,trivial,trivial,trivial,trivial⟩;exact⟨⟨trivial,trivial,trivial,trivial⟩,⟨trivial,trivial,trivial,by show List.length (gY 256 128 8).1.2.2.2≤2000;omega,λ_ _=>trivial⟩,⟨cl _,λx hx=>by cases hx⟩,trivial⟩;refine⟨by show rx.length≤2000;omega,λx hx=>?_⟩;have e:=(m6 x hx).1.free (m6 x hx).2;refine⟨⟨trivial,trivial,trivial,trivial⟩,⟨trivial,trivial,trivial⟩,⟨trivial,trivial,trivial⟩,?_,trivial,trivial⟩;rw[e];exact⟨⟨trivial,trivial,trivial,trivial,trivial,trivial,trivial,trivial,trivial,trivial,trivial,trivial,trivial,trivial,trivial,cl _⟩,trivial,trivial⟩;exact⟨by show pl.length≤2000;omega,λx hx=>⟨trivial,trivial,trivial,by have:=(m8 x hx).2;show x.2.2.2.length≤2000;omega,λ_ _=>trivial⟩⟩;exact⟨by show vec.length≤2000;omega,λx hx=>⟨trivial,trivial,trivial,trivial,trivial,trivial⟩⟩;exact⟨by show pol.length≤2000;omega,λx hx=>trivial⟩;exact⟨⟨by have:=hz.r;show s.1.length≤2000;omega,λ_ _=>⟨trivial,trivial,trivial,trivial,trivial,trivial,trivial,trivial,trivial⟩⟩,⟨by have:=hz.t;show s.2.1.length≤2000;omega,λ_ _=>⟨trivial,⟨trivial,trivial,trivial,trivial,trivial⟩,trivial⟩⟩,by have:=hz.k;show s.2.2.1.length≤2000;omega,by have:=hz.p;show s.2.2.2.length≤2000;omega,λ_ _=>trivial⟩;show List.length (gY 256 128 8).1.2.2.2+0≤2000;omega;intro m hm;have hm:m∈kH 38:=hm;simp only[kH,List.mem_map,bw]at hm;obtain⟨i,hi,rfl⟩:=hm;show 37-(i:Int)<(mem.length:Int);omega
theorem JZ {a b:Int}(h:(ng a b).2=true):jz (ng a b).1=true:=by unfold ng at h⊢;cases hv:jz (a,b,0,0,false,false)with|false=>rw[hv]at h;cases h|true=>exact hv
theorem Hs (q:Int)(f:Filter)(s:cd)(c:Bool)(a b:Int)(hf:f.2.2.length≤1000)(hs:pR s):Ends (ky q f s c a b) λr=>(r.2=true→wj r.1)∧((1≤q∧q≤2)→cQ f=true→dK s q=true→(ng a b).2=true→r.2=true):=by
 have z1:=hs.r;have z2:=hs.t;have z3:=hs.p;unfold ky;rw[zq,ae,ch,ae];refine Ends.bind (P:=λx=>(x=false→(1≤q∧q≤2)∧cQ f=true∧dK s q=true∧(ng a b).2=true)∧(x=true→(1≤q∧q≤2)→cQ f=true→dK s q=true→(ng a b).2=true→False)) ?_ λx hx=>Ends.cond (λhx2=>Ends.pure ⟨(λh=>by cases h),λg1 g2 g3 g4=>(hx.2 hx2 g1 g2 g3 g4).elim⟩) λh=>?_;refine Ends.cond (λk=>Ends.pure ⟨(λh=>by cases h),λ_ g1 _ _ _=>by rw[bq.2 g1]at k;cases k⟩) λh1=>?_;rw[rK f (by omega),ae];refine Ends.cond (λk=>Ends.pure ⟨(λh=>by cases h),λ_ _ g2 _ _=>by rw[g2]at k;cases k⟩) λh2=>?_;rw[vf s q (by omega) (by omega) (by omega),ae];refine Ends.cond (λk=>Ends.pure ⟨(λh=>by cases h),λ_ _ _ g3 _=>by rw[g3]at k;cases k⟩) λh3=>Ends.pure ⟨λh4=>?_,λk _ _ _ g4=>by rw[g4]at k;cases k⟩;exact⟨bq.1 (by simpa using h1),by simpa using h2,by simpa using h3,by simpa using h4⟩;obtain⟨hq,h1,h2,h3⟩:=hx.1 h;have hm:hH 38=some (pQ 38):=zp 38 (by omega);rw[hm,ae,Bt,ae,pJ f (by omega),ae,tI s (by omega) (by omega) (by omega),ae];have hv:=JZ h3;refine Ends.sL (λx=>0≤x.1∧x.1≤38∧x.2=Ef f s c x.1.toNat) (λx=>(38-x.1).toNat) ⟨by simp,by simp,rfl⟩ (by simp) λx nx hx hn=>?_;obtain⟨i,y⟩:=x;obtain⟨x1,x2,x3⟩:=hx;simp only at x1 x2 x3;unfold iM;refine Ends.cond (λk=>?_) λk=>?_;have k:=bD k;have hl:=qU i.toNat;simp only at k;rw[ch,ae];simp only;rw[wrap64 (n:=i+1) (by omega) (by omega),wrap64 (n:=37-i) (by omega) (by omega)];subst x3;refine Ends.room (by show(kH i.toNat).length+1≤_;omega) (hn _ ⟨by show 0≤i+1;omega,by show i+1≤38;omega,?_⟩ (by show(38-(i+1)).toNat<(38-i).toNat;omega));have e:(i+1).toNat=i.toNat+1:=by omega
 show(pQ 38,kH i.toNat++_,_)=Ef f s c (i+1).toNat;rw[e];unfold Ef;rw[yI,show((i.toNat:Nat):Int)=i by omega];have k:=of_decide_eq_false k;simp only at k;have e:i.toNat=38:=by omega
 rw[e]at x3;have hm0:Made f s c 0 y:=by rw[x3];exact⟨Ou (by omega),by show(pQ 38).length=38;simp[pQ],rfl,rfl,rfl,(λ_ hr=>by cases hr),rfl,(λ_ hr=>by cases hr),rfl,(λ_ hr=>by cases hr),rfl,rfl⟩
 simp only;refine Ends.sL (λx=>0≤x.1∧x.1≤q∧Made f s c x.1.toNat x.2) (λx=>(q-x.1).toNat) ⟨by simp,by show(0:Int)≤q;omega,hm0⟩ (by simp;omega) λx nx hx hn=>?_;obtain⟨i,y⟩:=x;obtain⟨x1,x2,m⟩:=hx;simp only at x1 x2 m;unfold hG;refine Ends.cond (λk=>?_) λk=>Ends.pure ⟨λ_=>?_,λ_ _ _ _=>rfl⟩;have k:=bD k;simp only at k;have l1:=m.rx;have l2:=m.pl;have l3:=m.vec;have l4:=m.pol;refine Ends.room (by simp;omega) (Ends.room (by simp;omega) (Ends.room (by simp;omega) (Ends.room (by simp;omega) ?_)));have ho:=JH m (by omega) hv;rw[show((i.toNat:Nat):Int)=i by omega]at ho;refine ho.bind λr hr=>?_;simp only;rw[wrap64 (n:=i+1) (by omega) (by omega)];refine hn _ ⟨by show 0≤i+1;omega,by show i+1≤q;omega,?_⟩ (by show(q-(i+1)).toNat<(q-i).toNat;omega);show Made f s c (i+1).toNat r.2;rw[show(i+1).toNat=i.toNat+1 by omega];exact hr;have k:=of_decide_eq_false k;simp only at k;have hi:i=q:=by omega
 subst hi;exact Hf m (by omega) h1 hf (by rw[show((i.toNat:Nat):Int)=i by omega];exact h2) hs
def PZ (a:Act):Prop:=a.2.1.2.2.2.2.2.2.2.2.2.2.2.2.2.2.2.length≤1000∧a.2.2.2.2.1.length≤382∧0≤a.1∧a.1≤6
theorem uS (n x:Int)(h0:0≤n)(h1:n≤1000000):Ends (dq n x) λr=>(r.length:Int)=n:=by unfold dq;rw[ar ⟨h0,dS _⟩];refine Ends.room (by omega) (Ends.sL (λy=>(y.1.length:Int)=n∧0≤y.2∧y.2≤n) (λy=>(n-y.2).toNat) ⟨by simp;omega,by simp,h0⟩ (by simp;omega) λy nx hy hn=>?_);unfold iQ;refine Ends.cond (λk=>?_) λk=>Ends.pure (by simp[bytesOf];exact hy.1);have k:=bD k;rw[wrap64 (n:=y.2+1) (by omega) (by omega)];refine Ends.idx hy.2.1 (by omega) λ_=>Ends.idx hy.2.1 (by omega) λ_=>hn _ ⟨?_,?_,?_⟩ ?_;show((List.set _ _ _).length:Int)=n;rw[aG];exact hy.1;show 0≤y.2+1;omega;show y.2+1≤n;omega;show(n-(y.2+1)).toNat<(n-y.2).toNat;omega
theorem wB:k5=some (List.replicate 8 (0,(0,0,0,0,0),0)):=by unfold k5;rw[ar (by decide),aW (by decide)];rfl
theorem Ha {k:Bytes}(hk:k.length=16):dK (([]:List kL),List.replicate 8 (0,(0,0,0,0,0),0),k,[0]) 1=true:=by
 have ht:rO (List.replicate 8 (0,(0,0,0,0,0),0))=true:=by decide+kernel
 have hs:o4 (k,[0]) 1=true:=by unfold o4;simp only[hk];decide+kernel
 unfold dK;rw[show sS ([]:List kL)=true from rfl,ht,hs];rfl
structure so (n:Int) (c:dL):Prop where
 ports:(c9 c.2.2.1).2=true
 len:c.1.length=c.2.2.1.length∧c.2.1.length=c.2.2.1.length
 fns:jI c.2.1 (c9 c.2.2.1).1=true
 boot:¬jh c.2.2.2.1<0
 clock:nd c.2.2.2.2.1=true
 host:∀(i:Nat)(h:Host)(b:aJ),c.1[i]?=some h→c.2.2.1[i]?=some b→Good n h∧h.2.2.2.2.2.2.2.1=b.1
 place:∀i,i<c.1.length→rA c.2.1 i=true
 boxn:∀b∈c.2.2.1,b.2.1≤n∧b.2.2.2≤n
 fnn:∀f∈c.2.1,f.2.2.2.2.1≤n∧f.2.2.2.2.2≤n
theorem so.mono {n m:Int}{c:dL}(g:so n c)(h:n≤m):so m c:=⟨g.ports,g.len,g.fns,g.boot,g.clock,λi a b h1 h2=>⟨(g.host i a b h1 h2).1.mono h,(g.host i a b h1 h2).2⟩,g.place,λb hb=>⟨by have:=(g.boxn b hb).1;omega,by have:=(g.boxn b hb).2;omega⟩,λf hf=>⟨by have:=(g.fnn f hf).1;omega,by have:=(g.fnn f hf).2;omega⟩⟩
theorem so.ok {n:Int}{c:dL}(g:so n c)(hn:n≤1000000000000):wo c=true:=by
 unfold wo;rw[g.ports,g.fns,g.clock,af g.boot];simp only[bZ,bn];rw[ab,ab,ay,ay];refine⟨?_,?_,?_⟩;unfold yC;rw[g.len.1,g.len.2];simp;intro i hi;have hi:=bw.1 hi;have hj:i<c.2.2.1.length:=by have:=g.len.1;omega
 rw[xG i hi hj];have q:=g.host i _ _ (List.getElem?_eq_getElem hi) (List.getElem?_eq_getElem hj);rw[q.1.ok hn,DS q.2];rfl;intro i hi;exact g.place i (bw.1 hi)
theorem Bw:∀(ms:List aJ)(s:List Int×List Port),(ms.foldl sm s).2.length=s.2.length+ms.length
 |[],s=>rfl
 |m::ms,s=>by rw[cm,Bw ms];show(s.2++[_]).length+_=_;rw[aj,cE,bO];omega
theorem jb {ms:List aJ}(h:(c9 ms).2=true):(c9 ms).1=jv ms∧(jv ms).length=ms.length+1∧kK (jv ms)=true∧(∀m∈ms,fj m=true)∧1≤ms.length∧ms.length≤3:=by unfold c9 at h⊢;cases hq:cx (ms.length:Int) 1 3&&(ms.all fj&&kK (jv ms))with|false=>rw[hq]at h;cases h|true=>simp only[ab,bq,ay]at hq;refine⟨rfl,?_,hq.2.2,hq.2.1,by omega,by omega⟩;unfold jv;rw[bO,Bw];simp
structure I0 (k:Int) (b:aJ):Prop where
 Pd:b.1.1=k
 vl:b.1.2.2=[7]∨b.1.2.2=[]
 last:0≤b.2.1∧b.2.1≤4
 done:0≤b.2.2.2∧b.2.2.2≤3
theorem Qg {c:oz}(h:Cu c):Ends (qu c) λr=>((r.1.1.2.2=[7]∨r.1.1.2.2=[])∧(0≤r.1.2.1∧r.1.2.1≤4)∧0≤r.1.2.2.2∧r.1.2.2.2≤3)∧Cu r.2:=by unfold qu;refine(DX h).bind λr1 p1=>(dD p1.2 (by decide)).bind λr2 p2=>(dD p2.2 (by decide)).bind λr3 p3=>(dD p3.2 (by decide)).bind λr4 p4=>Ends.pure ⟨⟨p1.1.2,?_,?_⟩,p4.2⟩;have:=p2.1;show 0≤r2.1∧r2.1≤4;omega;have:=p4.1;show 0≤r4.1∧r4.1≤3;omega
theorem D9 {α:Type}{P:Nat→α→Prop}{l:List α}{a:α}(h:∀i b,l[i]?=some b→P i b)(ha:P l.length a):∀i b,(l++[a])[i]?=some b→P i b:=by
 intro i b hb;rcases bl i l.length with hi|hi;rw[List.getElem?_append_left hi]at hb;exact h i b hb;rw[List.getElem?_append_right hi]at hb;obtain⟨hj,hb⟩:=List.getElem?_eq_some_iff.1 hb;have e:i=l.length:=by simp at hj;omega
 subst e;simp at hb;rw[←hb];exact ha
theorem La {c:oz}(h:Cu c):Ends (nY c) λr=>((1≤r.1.length∧r.1.length≤3)∧∀(i:Nat)(b:aJ),r.1[i]?=some b→I0 (2*((i:Int)+1)) b)∧Cu r.2:=by unfold nY;refine(dD h (n:=3) (by decide)).bind λr1 p1=>?_;have hp:=p1.1;rw[wrap64 (n:=1+r1.1) (by omega) (by omega)];refine Ends.sL (λx=>0≤x.2.1∧(x.1.length:Int)+x.2.1=1+r1.1∧(∀(i:Nat)(b:aJ),x.1[i]?=some b→I0 (2*((i:Int)+1)) b)∧Cu x.2.2) (λx=>x.2.1.toNat) ⟨by show 0≤1+r1.1;omega,by simp,by intro i b hb;simp at hb,p1.2⟩ (by show(1+r1.1).toNat≤_;omega) λx nx hx hn=>?_;obtain⟨l,n,c'⟩:=x;obtain⟨x1,x2,x3,x4⟩:=hx;simp only at x1 x2 x3 x4;unfold nt;refine Ends.cond (λk=>?_) λk=>?_;have k:=bD k;simp only at k⊢;refine(Qg x4).bind λr2 p2=>Ends.room (by simp;omega) ?_;rw[wrap64 (n:=(l.length:Int)+1) (by omega) (by omega),wrap64 (n:=2*((l.length:Int)+1)) (by omega) (by omega),wrap64 (n:=n-1) (by omega) (by omega)];refine hn _ ⟨by show 0≤n-1;omega,by show((l++[_]).length:Int)+(n-1)=_;simp;omega,D9 x3 ⟨rfl,p2.1.1,p2.1.2.1,p2.1.2.2⟩,p2.2⟩ (by show(n-1).toNat<n.toNat;omega);have k:=of_decide_eq_false k;simp only at k⊢;exact Ends.pure ⟨⟨⟨by show 1≤l.length;omega,by show l.length≤3;omega⟩,x3⟩,x4⟩
theorem Jq {v:Int}{b:Bytes}:(ca v b).1.length≤96:=by unfold ca;cases hq:cx v 0 1000000&&decide (b.length≤84)with|false=>simp|true=>simp only[ab,aI]at hq;show(Co v b).length≤96;unfold Co;have h4:∀v,(dU v).length≤4:=cZ;have a:=h4 v;have b1:=h4 (b.length:Int);have c:=h4 (wq ((dU v++dU (b.length:Int))++b));simp only[aj];omega
theorem yu {c:oz}(h:Cu c):Ends (k8 c) λr=>r.1.length≤96∧Cu r.2:=by unfold k8;refine(eW (P:=λ_=>True) h (by decide) (by simp)).bind λr1 p1=>(dD p1.2 (by decide)).bind λr2 p2=>(tt p2.2 r2.1).bind λr3 p3=>?_;rw[zo _ _ (by have:=p3.1.1;omega),ae];exact Ends.pure ⟨Jq,p3.2⟩
theorem GN {c:oz}(h:Cu c):Ends (nW c) λr=>(r.1.length=2∧∀x∈r.1,x.length=96)∧Cu r.2:=by
 unfold nW;refine Ends.sL (λx=>0≤x.1∧x.1≤2∧(x.2.2.length:Int)=x.1∧(∀y∈x.2.2,y.length=96)∧Cu x.2.1) (λx=>(2-x.1).toNat) ⟨by simp,by simp,by simp,by simp,h⟩ (by simp) λx nx hx hn=>?_;obtain⟨i,c',l⟩:=x;obtain⟨x1,x2,x3,x4,x5⟩:=hx;simp only at x1 x2 x3 x4 x5;unfold nn;refine Ends.cond (λk=>?_) λk=>?_;have k:=bD k;simp only at k⊢;refine(yu x5).bind λr1 p1=>(lp p1.2 _).bind λr2 p2=>?_;have fin:∀(s t:Bytes)(c2:oz),s.length+t.length=96→Cu c2→Ends (Go.Dn.room (List.length s+List.length t) (Go.Dn.room (List.length l+List.length [(s++t)]) (nx (aw (i+1),c2,l++[(s++t)])))) (λr=>(r.1.length=2∧∀x∈r.1,x.length=96)∧Cu r.2):=by intro s t c2 hs hc;refine Ends.room (by omega) (Ends.room (by simp;omega) ?_);rw[wrap64 (n:=i+1) (by omega) (by omega)];refine hn _ ⟨by show 0≤i+1;omega,by show i+1≤2;omega,by show((l++[_]).length:Int)=i+1;simp;omega,?_,hc⟩ (by show(2-(i+1)).toNat<(2-i).toNat;omega);intro y hy;rcases al.1 hy with hy|hy;exact x4 y hy;rw[bz.1 hy,aj];exact hs
 refine Ends.cond (λ_=>?_) λ_=>?_;refine(tt p2 30).bind λr3 p3=>?_;have e:=p3.1.2.1 (by omega) (by omega);rw[wrap64 (n:=96-(r3.1.length:Int)) (by omega) (by omega)];exact(uS _ 255 (by omega) (by omega)).bind λr4 p4=>fin _ _ _ (by omega) p3.2;have e:=p1.1;rw[wrap64 (n:=96-(r1.1.length:Int)) (by omega) (by omega)];exact(uS _ 255 (by omega) (by omega)).bind λr4 p4=>fin _ _ _ (by omega) p2;have k:=of_decide_eq_false k;simp only at k⊢;exact Ends.pure ⟨⟨by show l.length=2;omega,x4⟩,x5⟩
theorem Ai {f:Filter}{s:cd}{c:Bool}{a b:Int}(hf:f.2.2.length≤1000)(hs:pR s)(h:(gX f s c a b).2=true):wj (gX f s c a b).1∧(gX f s c a b).1.2.2.2.2.2.2.2.1=f:=by refine⟨?_,?_⟩;obtain⟨x,e,hx⟩:=Hs 1 f s c a b hf hs;rw[wI f s c a b (by omega) (by have:=hs.r;omega) (by have:=hs.t;omega) (by have:=hs.p;omega)]at e;have e:=bu e;rw[e]at h⊢;exact hx.1 h;unfold gX at h⊢;cases hq:cQ f&&(dK s 1&&(ng a b).2)with|true=>rfl|false=>rw[hq]at h;cases h
def pC (bk:Int×Int×Int)(n:Nat):List aO:=(List.range n).map λ(i:Nat)=>((i:Int),(i:Int)+1,bk,true,0,0)
theorem pD (bk:Int×Int×Int)(n:Nat):(pC bk n).length=n:=by simp[pC]
theorem Fo (bk:Int×Int×Int)(n:Nat):pC bk (n+1)=pC bk n++[((n:Int),(n:Int)+1,bk,true,0,0)]:=by simp[pC,List.range_succ]
theorem uc (bk:Int×Int×Int){n i:Nat}(h:i<n):(pC bk n).getD i O9=((i:Int),(i:Int)+1,bk,true,0,0):=by rw[db (by rw[pD];exact h)];simp[pC]
structure wi (c:dL):Prop where
 ports:(c9 c.2.2.1).2=true
 box:∀(i:Nat)(b:aJ),c.2.2.1[i]?=some b→I0 (2*((i:Int)+1)) b
 len:c.1.length=c.2.2.1.length
 host:∀(i:Nat)(h:Host)(b:aJ),c.1[i]?=some h→c.2.2.1[i]?=some b→wj h∧h.2.2.2.2.2.2.2.1=b.1
 fns:∃bk,me bk=true∧c.2.1=pC bk c.2.2.1.length
 flash:c.2.2.2.1.length=2∧∀x∈c.2.2.2.1,x.length=96
 boot:¬jh c.2.2.2.1<0
 clock:nd c.2.2.2.2.1=true
 rest:c.2.2.2.2.2=(([]:List Int),([]:List Bytes))
theorem wi.Qs {c:dL}(d:wi c):so 4 c:=by
 obtain⟨bk,hb,hf⟩:=d.fns;have p:=jb d.ports;refine⟨d.ports,⟨d.len,by rw[hf,pD]⟩,?_,d.boot,d.clock,λi h b h1 h2=>⟨(d.host i h b h1 h2).1.Qs.mono (by omega),(d.host i h b h1 h2).2⟩,?_,?_,?_⟩;unfold jI;rw[p.1,p.2.2.1,bn,ay,hf,pD];intro i hi;have hi:=bw.1 hi;unfold SK;rw[uc bk hi,p.2.1,ab];refine⟨?_,?_⟩;unfold D4;simp only[hb,ab,bq,bn];rw[wrap64 (by omega) (by omega)];push_cast;refine⟨⟨by omega,by omega⟩,⟨by omega,by omega⟩,⟨by decide,by decide⟩,by decide,by decide⟩;rw[ay];intro j hj;have hj:=bw.1 hj;rw[uc bk (by omega)];unfold Oc;simp only[aA,Bool.or_eq_false_iff,cU,ne_eq];omega;intro i hi;unfold rA;rw[hf,uc bk (by rw[←d.len];exact hi)];simp;·intro b hb;obtain⟨i,hi⟩:=List.getElem?_of_mem hb;have q:=d.box i b hi;exact⟨q.last.2,by have:=q.done.2;omega⟩
 intro f hh;rw[hf]at hh;simp only[pC,List.mem_map]at hh;obtain⟨i,_,rfl⟩:=hh;exact⟨by show(0:Int)≤4;omega,by show(0:Int)≤4;omega⟩
theorem Iz {st:cd}(hs:pR st){cb:Bool}{bk:Int×Int×Int}{f:List Bytes}{t:Int}{ms:List aJ}(hm:∀m∈ms,m.1.2.2.length≤1000):∀(l:List aJ)(k:Nat)(s:List Host×List aO),k≤ms.length→ms.drop k=l→s.1.length=k→s.2=pC bk k→(∀(i:Nat)(h:Host)(b:aJ),s.1[i]?=some h→ms[i]?=some b→wj h∧h.2.2.2.2.2.2.2.1=b.1)→∀x,rH (Ah st cb bk) (λs=>some ((s.1,s.2,ms,f,(0,0,t,0),([]:List Int),([]:List Bytes)),true)) l s=some (x,true)→
 ∃hs',x=(hs',pC bk ms.length,ms,f,(0,0,t,0),([]:List Int),([]:List Bytes))∧hs'.length=ms.length∧∀(i:Nat)(h:Host)(b:aJ),hs'[i]?=some h→ms[i]?=some b→wj h∧h.2.2.2.2.2.2.2.1=b.1
 |[],k,s,hk,hd,h1,h2,h3,x,hx=>by
  have e:k=ms.length:=by have:=aZ (i:=k) (l:=ms);rw[hd]at this;simp at this;omega
  subst e;rw[rH]at hx;have hx:=(Prod.mk.inj (bu hx)).1;exact⟨s.1,by rw[←hx,h2],h1,h3⟩
 |y::l,k,s,hk,hd,h1,h2,h3,x,hx=>by
  have hlt:k<ms.length:=by have:=aZ (i:=k) (l:=ms);rw[hd]at this;simp at this;omega
  have hy:=bj hlt;rw[hd]at hy;obtain⟨e1,e2⟩:=List.cons.inj hy;rw[rH]at hx;unfold Ah at hx;by_cases hb:(gX y.1 st cb 1 2).2=true;rw[ar hb]at hx;simp only at hx;have hf:=Ai (by rw[e1];exact hm _ (aY hlt)) hs hb;refine Iz hs hm l (k+1) _ (by omega) e2.symm (by simp[h1]) ?_ ?_ x hx;show s.2++[((s.2.length:Int),(s.2.length:Int)+1,bk,true,0,0)]=_;rw[h2,pD,Fo];intro i h b g1 g2;refine D9 (P:=λi h=>∀b,ms[i]?=some b→wj h∧h.2.2.2.2.2.2.2.1=b.1) (λi h g b g'=>h3 i h b g g') (λb g=>?_) i h g1 b g2;rw[h1,List.getElem?_eq_getElem hlt,←e1]at g;rw[←bu g];exact hf;rw[aq hb]at hx;simp at hx
theorem Bf {ms:List aJ}{st:cd}{cb:Bool}{bk:Int×Int×Int}{f:List Bytes}{t:Int}{x:dL}(hs:pR st)(hm:∀(i:Nat)(b:aJ),ms[i]?=some b→I0 (2*((i:Int)+1)) b)(hf:f.length=2∧∀y∈f,y.length=96)(h:mE ms st cb bk f t=some (x,true)):wi x:=by
 unfold mE at h;cases hq:(c9 ms).2&&(me bk&&(!decide (jh f<0)&&nd (0,0,t,0)))with
 |false=>rw[hq]at h;simp[Lb]at h
 |true=>
  rw[hq,ah]at h;simp only[ab,aA,decide_eq_false_iff_not]at hq;have hl:∀m∈ms,m.1.2.2.length≤1000:=by intro m hmm;obtain⟨i,hi⟩:=List.getElem?_of_mem hmm;rcases(hm i m hi).vl with e|e<;>rw[e]<;>simp
  obtain⟨hs',e,e1,e2⟩:=Iz hs hl ms 0 ([],[]) (by omega) rfl rfl rfl (λi h b g=>by simp at g) x h;rw[e];exact⟨hq.1,hm,e1,e2,⟨bk,hq.2.1,rfl⟩,hf,hq.2.2.1,hq.2.2.2,rfl⟩
theorem IA (st:cd)(cb:Bool)(bk:Int×Int×Int)(F:List Host×List aO→dL×Bool):∀(l:List aJ)(s:List Host×List aO),∃r,rH (Ah st cb bk) (λs=>some (F s)) l s=some r
 |[],s=>⟨_,rfl⟩
 |y::l,s=>by rw[rH];unfold Ah;by_cases hb:(gX y.1 st cb 1 2).2=true;rw[ar hb];exact IA st cb bk F l _;rw[aq hb];exact⟨_,rfl⟩
theorem Fm (ms:List aJ)(st:cd)(cb:Bool)(bk:Int×Int×Int)(f:List Bytes)(t:Int):∃r,mE ms st cb bk f t=some r:=by unfold mE;cases (c9 ms).2&&(me bk&&(!decide (jh f<0)&&nd (0,0,t,0)))with|false=>exact⟨_,rfl⟩|true=>exact IA st cb bk _ ms _
theorem Iy (st:cd)(cb:Bool)(bk:Int×Int×Int)(F:List Host×List aO→dL):∀(l:List aJ)(s:List Host×List aO),(∀y∈l,(gX y.1 st cb 1 2).2=true)→∃x,rH (Ah st cb bk) (λs=>some (F s,true)) l s=some (x,true)
 |[],s,_=>⟨_,rfl⟩
 |y::l,s,h=>by rw[rH];unfold Ah;rw[ar (h y (List.mem_cons_self ..))];exact Iy st cb bk F l _ λz hz=>h z (dg _ hz)
theorem Bq {ms:List aJ}{st:cd}(hs:pR st)(hm:∀(i:Nat)(b:aJ),ms[i]?=some b→I0 (2*((i:Int)+1)) b)(hl:ms.length≤3){f:List Bytes}(hf:f.length=2)(cb:Bool)(bk:Int×Int×Int)(t:Int):kx ms st cb bk f t=mE ms st cb bk f t:=by refine FR ms st cb bk f t (by omega) (λm hh=>?_) (by omega) (by have:=hs.r;omega) (by have:=hs.t;omega) (by have:=hs.p;omega);obtain⟨i,hi⟩:=List.getElem?_of_mem hh;rcases(hm i m hi).vl with e|e<;>rw[e]<;>simp
theorem V8 {R:Type}{Q:R→Prop}{k0:oz→Option R}{k1:oz→dL→Option R}{v:Int}{c:oz}{b2:dL}{st:cd}(hs:pR st)(hc:Cu c)(hk0:∀c',Cu c'→Ends (k0 c') Q)(hk1:∀c' x,Cu c'→wi x→Ends (k1 c' x) Q):Ends (jU k0 k1 v c b2 st) Q:=by unfold jU;refine(eW (P:=λ_=>True) hc (by decide) (by simp)).bind λr4 p4=>(eW (P:=λ_=>True) p4.2 (by decide) (by simp)).bind λr5 p5=>(La p5.2).bind λr6 p6=>(dD p6.2 (by decide)).bind λr7 p7=>(GN p7.2).bind λr8 p8=>(eW (P:=λ_=>True) p8.2 (by decide) (by simp)).bind λr9 p9=>?_;rw[Bq hs p6.1.2 p6.1.1.2 p8.1.1];obtain⟨⟨x,ok⟩,e⟩:=Fm r6.1 st (decide (r7.1>0)) (r4.1,2000,r5.1) r8.1 r9.1;rw[e,ae];refine Ends.cond (λk=>?_) λ_=>hk0 _ p9.2;have k:ok=true:=k;subst k;exact hk1 _ _ p9.2 (Bf hs p6.1.2 p8.1 e)
theorem Yu {R:Type}{Q:R→Prop}{k0:Int→oz→Option R}{k1:oz→dL→Option R}{v:Int}{c:oz}{b2:dL}(hv:0≤v∧v≤100)(hc:Cu c)(hk0:∀c',Cu c'→Ends (k0 (v+1) c') Q)(hk1:∀c' x,Cu c'→wi x→Ends (k1 c' x) Q):Ends (mV k0 k1 v c b2) Q:=by
 unfold mV;simp only[wB,ae];refine(Ri hc).bind λr2 p2=>(lp p2.2 4).bind λr3 p3=>?_;have k3:∀c',Cu c'→Ends (jT (λy12=>k0 y12 c') v c' b2) Q:=by intro c' hc';unfold jT;rw[wrap64 (by omega) (by omega)];exact hk0 _ hc'
 refine Ends.cond (λ_=>V8 ⟨by simp,by simp,p2.1,by simp⟩ p3 k3 λc' x h1 h2=>hk1 _ _ h1 h2) λ_=>V8 ⟨by simp,by simp,p2.1,by simp⟩ p3 k3 λc' x h1 h2=>hk1 _ _ h1 h2
theorem I9 {t u:Bytes}(ht:t.length=84)(hu:u.length=96):¬jh [(ca 1 []).1++t,u]<0:=by
 have e:(ca 1 []).1=[0,0,0,1,0,0,0,0]++dU (wq [0,0,0,1,0,0,0,0]):=by decide+kernel
 have el:(ca 1 []).1.length=12:=by rw[e];decide+kernel
 have hv:jA ((ca 1 []).1++t)=1:=by
  have g:∀a:Nat,a+4≤12→eA ((ca 1 []).1++t) (a:Int)=eA (ca 1 []).1 (a:Int):=by
   intro a ha;unfold eA dC cY;rw[ai (by rw[aj,el];omega),ai (by rw[el];omega)];have b:∀i,i<12→((ca 1 []).1++t).getD i 0=(ca 1 []).1.getD i 0:=by intro i hi;rw[List.getD_eq_getElem?_getD,List.getD_eq_getElem?_getD,List.getElem?_append_left (by omega)]
   simp only[aS];rw[b a (by omega),b (a+1) (by omega),b (a+2) (by omega),b (a+3) (by omega)]
  have g0:eA ((ca 1 []).1++t) 0=1:=(g 0 (by omega)).trans (by decide+kernel);have g4:eA ((ca 1 []).1++t) 4=0:=(g 4 (by omega)).trans (by decide+kernel);unfold jA;rw[g4,ar (by rw[aj,el];omega)];unfold KI;have t1:(((ca 1 []).1++t).take (8+(0:Int).toNat)).drop 8=[]:=by rw[bR (by rw[bh];simp;omega)]
  have t2:((ca 1 []).1++t).take (12+(0:Int).toNat)=(ca 1 []).1:=by rw[List.take_left' (by rw[el];rfl)]
  rw[t1,t2,g0];have o:(ca 1 []).2=true:=by decide+kernel
  rw[o,beq_self_eq_true];rfl
 unfold jh;have hf:qy [(ca 1 []).1++t,u]=true:=by unfold qy;show((((2:Nat):Int)==2)&&(((((ca 1 []).1++t).length:Int)==96)&&((u.length:Int)==96)))=true;rw[aj,el,ht,hu];rfl
 rw[hf,ah];have h0:List.getD [(ca 1 []).1++t,u] 0 []=(ca 1 []).1++t:=rfl;rw[h0,hv];split;omega;split<;>omega
theorem L7 {c:oz}(h:Cu c):Ends (qv c) λr=>wi r.1∧Cu r.2:=by
 unfold qv;refine Ends.sL (λx=>0≤x.1∧x.1≤4∧Cu x.2) (λx=>(4-x.1).toNat) ⟨by simp,by simp,h⟩ (by simp) λx nx hx hn=>?_;obtain⟨i,c'⟩:=x;obtain⟨x1,x2,x3⟩:=hx;simp only at x1 x2 x3;unfold pN;refine Ends.cond (λk=>?_) λk=>?_;have k:=bD k;simp only at k⊢;exact Yu ⟨by omega,by omega⟩ x3 (λc2 h2=>hn _ ⟨by show 0≤i+1;omega,by show i+1≤4;omega,h2⟩ (by show(4-(i+1)).toNat<(4-i).toNat;omega)) λc2 y h2 d=>Ends.pure ⟨d,h2⟩;have el:(ca 1 []).1.length=12:=by decide+kernel
 simp only[zo 1 [] (by simp),ae];rw[el,wrap64 (n:=96-((12:Nat):Int)) (by omega) (by omega)];refine(uS _ 255 (by omega) (by omega)).bind λr26 p26=>Ends.room (by omega) ((uS 96 255 (by omega) (by omega)).bind λr27 p27=>?_);simp only[wB,ae];refine(uS 16 5 (by omega) (by omega)).bind λr29 p29=>?_;have hs:pR (([]:List kL),List.replicate 8 (0,(0,0,0,0,0),0),r29,[0]):=⟨by simp,by simp,by show r29.length=16;omega,by simp⟩
 have hm:∀(j:Nat)(b:aJ),([((2,false,([]:List Int)),0,0,0),((4,false,([]:List Int)),0,0,0)]:List aJ)[j]?=some b→I0 (2*((j:Int)+1)) b:=by intro j b hb;match j with|0=>have e:=bu hb;rw[←e];exact⟨rfl,Or.inr rfl,⟨by decide,by decide⟩,by decide,by decide⟩|1=>have e:=bu hb;rw[←e];exact⟨rfl,Or.inr rfl,⟨by decide,by decide⟩,by decide,by decide⟩|j+2=>simp at hb
 have hb:=I9 (t:=r26) (u:=r27) (by omega) (by omega);rw[Bq hs hm (by simp) rfl];have e:∃x,mE ([((2,false,([]:List Int)),0,0,0),((4,false,([]:List Int)),0,0,0)]:List aJ) (([]:List kL),List.replicate 8 (0,(0,0,0,0,0),0),r29,[0]) true (100,2000,1000) [(ca 1 []).1++r26,r27] 1048576=some (x,true):=by
  unfold mE;have p1:(c9 [((2,false,([]:List Int)),0,0,0),((4,false,([]:List Int)),0,0,0)]).2=true:=by decide+kernel
  have p2:me (100,2000,1000)=true:=by decide+kernel
  have p3:nd (0,0,1048576,0)=true:=by decide+kernel
  rw[p1,p2,p3,af hb];refine Iy _ _ _ _ _ _ λy hy=>?_;have hst:=Ha (k:=r29) (by omega);have hv:(ng 1 2).2=true:=by decide+kernel
  have hf:cQ y.1=true:=by rcases bg.1 hy with e|hy;rw[e];decide+kernel;rw[bz.1 hy];decide+kernel
  unfold gX;rw[hf,hst,hv];rfl
 obtain⟨x,e⟩:=e;rw[e,ae];refine Ends.pure ⟨Bf hs hm ⟨rfl,?_⟩ e,x3⟩;intro y hy;rcases bg.1 hy with e|hy;rw[e,aj,el];omega;rw[bz.1 hy];omega
abbrev Ke:bf:=(0,0,0,0,0,0,0,0,0,0,0,0,0,0,0,([]:Bytes))
structure kG (n:Int) (a:cg):Prop where
 kind:0≤a.1∧a.1≤2
 fn:0≤a.2.1∧a.2.1<n
 act:PZ a.2.2.1
 ok:Ge a.2.2.1=true
 msg:0≤a.2.2.2.1.1∧a.2.2.2.1.1≤6
 img:a.2.2.2.2.1.length≤96
 part:0≤a.2.2.2.2.2∧a.2.2.2.2.2≤100
theorem kG.put {n:Int}{a:cg}(h:kG n a){x:Act}(h1:PZ x)(h2:Ge x=true):kG n (a.1,a.2.1,x,a.2.2.2):=⟨h.kind,h.fn,h1,h2,h.msg,h.img,h.part⟩
theorem I4 (p:bf)(s c:Int):Ge (0,p,s,c,([]:Bytes),0)=true:=rfl
theorem xy (b:Int):Ge (5,Ke,0,0,([]:Bytes),b)=true:=rfl
theorem I3 {f:Bytes}(h:f.length≤600):Ge (2,Ke,0,0,f,0)=true:=by unfold Ge Tr;simp only[ae];rw[show cx (2:Int) 0 6=true from bq.2 ⟨by omega,by omega⟩,af (by omega)];rfl
theorem lT {k:Int}(h:k=1∨k=3∨k=4∨k=6∨k=0):Ge (k,Ke,0,0,([]:Bytes),0)=true:=by rcases h with rfl|rfl|rfl|rfl|rfl<;>rfl
theorem iX {k b:Int}(h:0≤k∧k≤6):PZ (k,Ke,0,0,([]:Bytes),b):=⟨by simp,by simp,h.1,h.2⟩
theorem wE {c:oz}(h:Cu c)(p:bf){n:Int}(hn:0≤n∧n≤100):Ends (jV c p n) λr=>((0≤r.1.1∧r.1.1≤281474976710655)∧(r.1.2.1=99∨r.1.2.1=2*(n+1))∧r.1.2.2=p.2.2)∧Cu r.2:=by unfold jV;rw[wrap64 (n:=n+1) (by omega) (by omega),wrap64 (n:=2*(n+1)) (by omega) (by omega)];refine(lp h 12).bind λr1 p1=>Ends.cond (λ_=>(eW (P:=λx=>0≤x∧x≤281474976710655) p1 (by decide) (by decide)).bind λr2 p2=>Ends.pure ⟨⟨p2.1,Or.inl rfl,rfl⟩,p2.2⟩) λ_=>(eW (P:=λx=>0≤x∧x≤281474976710655) p1 (by decide) (by decide)).bind λr2 p2=>Ends.pure ⟨⟨p2.1,Or.inr rfl,rfl⟩,p2.2⟩
theorem Hj {c:oz}(h:Cu c):Ends (lG c) λr=>(0≤r.1.1∧r.1.1≤6)∧Cu r.2:=by unfold lG;refine(dD h (by decide)).bind λr1 p1=>(eW (P:=λ_=>True) p1.2 (by decide) (by simp)).bind λr2 p2=>(eW (P:=λ_=>True) p2.2 (by decide) (by simp)).bind λr3 p3=>Ends.pure ⟨?_,p3.2⟩;have:=p1.1;show 0≤r1.1∧r1.1≤6;omega
theorem xz {n:Int}{l:List cg}{a:cg}(h:kG n a):∀y∈l++[a],y∈l∨kG n y:=by intro y hy;rcases al.1 hy with hy|hy;exact Or.inl hy;rw[bz.1 hy];exact Or.inr h
theorem WD {R:Type}{Q:R→Prop}{k0:List cg→oz→cg→Option R}{v1 v9 v10 v30:Int}{v2 v63:Bool}{l:List cg}{ps:List bf}{c:oz}{a:cg}(hl:l.length≤1000)(hp:∀p∈ps,Plain p)(h9:0≤v9∧v9<(ps.length:Int))(h10:0≤v10∧v10≤100)(hc:Cu c)(ha:kG v1 a)(hk:∀l' c' a',l'.length≤l.length+1→(∀y∈l',y∈l∨kG v1 y)→Cu c'→kG v1 a'→Ends (k0 l' c' a') Q):Ends (eH k0 v1 v2 l ps v9 v10 v30 v63 c a) Q:=by have same:∀c' a',Cu c'→kG v1 a'→Ends (k0 l c' a') Q:=λc' a' h1 h2=>hk l c' a' (by omega) (λy hy=>Or.inl hy) h1 h2;unfold eH;refine Ends.cond (λ_=>?_) λ_=>?_;refine Ends.idx h9.1 h9.2 λhi=>(wE hc _ h10).bind λr8 p8=>(dD p8.2 (by decide)).bind λr9 p9=>(eW (P:=λ_=>True) p9.2 (by decide) (by simp)).bind λr10 p10=>Ends.room (by simp;omega) ?_;refine hk _ _ _ (by simp) (xz (ha.put ⟨?_,by simp,by simp,by simp⟩ (I4 ..))) p10.2 (ha.put (iX (by omega)) (lT (by omega)));show r8.1.2.2.2.2.2.2.2.2.2.2.2.2.2.2.2.length≤1000;rw[p8.1.2.2];have:=(hp _ (aY hi)).2;omega;refine Ends.cond (λ_=>same _ _ hc (ha.put (iX (by omega)) (lT (by omega)))) λ_=>?_;refine Ends.cond (λ_=>(dD hc (by decide)).bind λr11 p11=>same _ _ p11.2 (ha.put (iX (by omega)) (xy _))) λ_=>?_;refine Ends.cond (λ_=>same _ _ hc (ha.put (iX (by omega)) (lT (by omega)))) λ_=>?_;refine Ends.cond (λ_=>(Hj hc).bind λr12 p12=>same _ _ p12.2 ⟨by simp,ha.fn,ha.act,ha.ok,p12.1,ha.img,ha.part⟩) λ_=>?_;refine Ends.cond (λ_=>(lp hc 2).bind λr13 p13=>Ends.cond (λ_=>?_) λ_=>same _ _ p13 (ha.put (iX (by omega)) (lT (by omega)))) λ_=>same _ _ hc ha;refine(yu p13).bind λr14 p14=>(dD p14.2 (by decide)).bind λr15 p15=>same _ _ p15.2 ⟨by simp,ha.fn,iX (by omega),lT (by omega),ha.msg,p14.1,?_⟩;have:=p15.1;show 0≤r15.1∧r15.1≤100;omega
theorem c19 {R:Type}{Q:R→Prop}{k0:List cg→oz→cg→Option R}{v1 v9 v10 v30:Int}{v2 v46:Bool}{l:List cg}{ps:List bf}{c:oz}{a:cg}(hl:l.length≤1000)(hp:∀p∈ps,Plain p)(h9:0≤v9∧v9<(ps.length:Int))(h10:0≤v10∧v10≤100)(hc:Cu c)(ha:kG v1 a)(hk:∀l' c' a',l'.length≤l.length+1→(∀y∈l',y∈l∨kG v1 y)→Cu c'→kG v1 a'→Ends (k0 l' c' a') Q):Ends (eG k0 v1 v2 l ps v9 v10 v30 v46 c a) Q:=by unfold eG;refine Ends.cond (λ_=>?_) λ_=>?_;refine Ends.idx h9.1 h9.2 λhi=>(wE hc _ (n:=5) (by omega)).bind λr5 p5=>?_;have hf:=Jm r5.1;rw[Kw,ae];exact hk l _ _ (by omega) (λy hy=>Or.inl hy) p5.2 (ha.put ⟨by simp,hf,by simp,by simp⟩ (I3 (by omega)));exact Ends.cond (λ_=>WD hl hp h9 h10 hc ha hk) λ_=>Ends.cond (λ_=>WD hl hp h9 h10 hc ha hk) λ_=>Ends.cond (λ_=>WD hl hp h9 h10 hc ha hk) λ_=>WD hl hp h9 h10 hc ha hk
theorem c37 {R:Type}{Q:R→Prop}{k0:List cg→oz→Option R}{v1 v9:Int}{v2:Bool}{l:List cg}{ps:List bf}{c:oz}{a:cg}(hl:l.length≤1000)(h1:0<v1)(hc:Cu c)(ha:kG v1 a)(hk:∀l' c',l'.length≤l.length+3→(∀y∈l',y∈l∨kG v1 y)→Cu c'→Ends (k0 l' c') Q):Ends (eI k0 v1 v2 l ps v9 c a) Q:=by unfold eI;refine Ends.room (by simp;omega) ((lp hc 2).bind λr31 p31=>Ends.cond (λ_=>(dD p31 h1).bind λr32 p32=>Ends.room (by simp;omega) (Ends.room (by simp;omega) (hk _ _ (by simp) ?_ p32.2))) λ_=>hk _ _ (by simp) (xz ha) p31);intro y hy;rcases al.1 hy with hy|hy;rcases al.1 hy with hy|hy;exact xz ha y hy;rw[bz.1 hy];exact Or.inr ⟨by simp,p32.1,iX (by omega),xy _,by simp,by simp,by simp⟩;rw[bz.1 hy];exact Or.inr ⟨by simp,⟨by simp,h1⟩,iX (by omega),lT (by omega),by simp,by simp,by simp⟩
theorem c6 {R:Type}{Q:R→Prop}{k0:List cg→Int→oz→Option R}{v1 v9:Int}{v2:Bool}{l:List cg}{ps:List bf}{c:oz}(hl:l.length≤900)(h1:0<v1∧v1≤3)(hp:∀p∈ps,Plain p)(h9:0≤v9∧v9<(ps.length:Int))(hn:ps.length≤1000)(hc:Cu c)(hk:∀l' c',l'.length≤l.length+4→(∀y∈l',y∈l∨kG v1 y)→Cu c'→Ends (k0 l' (v9+1) c') Q):Ends (lH k0 v1 v2 l ps v9 c) Q:=by
 unfold lH;refine(dD hc h1.1).bind λr2 p2=>(dD p2.2 (by decide)).bind λr3 p3=>?_;have hf:=p2.1;have a0:kG v1 (0,r2.1,(0,Ke,0,0,([]:Bytes),0),(0,0,0),([]:Bytes),0):=⟨by simp,hf,iX (by omega),lT (by omega),by simp,by simp,by simp⟩
 have e:aw (v9+1)=v9+1:=wrap64 (by omega) (by omega);have go:∀(v46:Bool),Ends (eG (λy28 y29 y30=>eI (λy33 y34=>fU (λy35=>k0 y33 y35 y34) v1 v2 y33 ps v9 y34) v1 v2 y28 ps v9 y29 y30) v1 v2 l ps v9 r2.1 r3.1 v46 r3.2 (0,r2.1,(0,Ke,0,0,([]:Bytes),0),(0,0,0),([]:Bytes),0)) Q:=by intro v46;refine c19 (by omega) hp h9 ⟨hf.1,by omega⟩ p3.2 a0 λl1 c1 a1 g1 g2 g3 g4=>c37 (by omega) h1.1 g3 g4 λl2 c2 g5 g6 g7=>?_;unfold fU;rw[e];refine hk _ _ (by omega) (λy hy=>?_) g7;rcases g6 y hy with g|g;exact g2 y g;exact Or.inr g
 exact Ends.cond (λ_=>go _) λ_=>Ends.cond (λ_=>go _) λ_=>go _
theorem I5 {c:oz}(h:Cu c){n:Int}(hn:0<n∧n≤3)(b:Bool):Ends (o3 c n b) λr=>(r.1.length≤32∧∀a∈r.1,kG n a)∧Cu r.2:=by
 unfold o3;refine(Ot h (m:=8) (by omega) (by omega)).bind λr1 p1=>?_;have h8:=p1.1.2.2;refine Ends.sL (λx=>0≤x.2.1∧x.2.1≤(r1.1.length:Int)∧(x.1.length:Int)≤4*x.2.1∧(∀a∈x.1,kG n a)∧Cu x.2.2) (λx=>((r1.1.length:Int)-x.2.1).toNat) ⟨by simp,by simp,by simp,by simp,p1.2⟩ (by simp;omega) λx nx hx hnx=>?_;obtain⟨l,i,c'⟩:=x;obtain⟨x1,x2,x3,x4,x5⟩:=hx;simp only at x1 x2 x3 x4 x5;unfold ow;refine Ends.cond (λk=>?_) λk=>?_;have k:=bD k;simp only at k⊢;refine c6 (by omega) hn p1.1.1 ⟨x1,k⟩ (by omega) x5 λl' c2 g1 g2 g3=>hnx _ ⟨by show 0≤i+1;omega,by show i+1≤_;omega,by show(l'.length:Int)≤4*(i+1);omega,?_,g3⟩ (by show((r1.1.length:Int)-(i+1)).toNat<((r1.1.length:Int)-i).toNat;omega);intro a ha;rcases g2 a ha with g|g;exact x4 a g;exact g;simp only;have hl:l.length≤32:=by omega
 refine Ends.sL (λy=>0≤y.2∧y.2≤(y.1.length:Int)∧y.1.length=l.length∧∀a∈y.1,kG n a) (λy=>((y.1.length:Int)-y.2).toNat) ⟨by simp,by simp,rfl,x4⟩ (by simp;omega) λy ny hy hm=>?_;obtain⟨q,j⟩:=y;obtain⟨y1,y2,y3,y4⟩:=hy;simp only at y1 y2 y3 y4;unfold nr;refine Ends.cond (λk2=>?_) λk2=>Ends.pure ⟨⟨by show q.length≤32;omega,y4⟩,x5⟩;have k2:=bD k2;simp only at k2⊢;unfold np;have step:∀q':List cg,q'.length=l.length→(∀a∈q',kG n a)→Ends (kD (λy61=>ny (q',y61)) q' j c') (λr=>(r.1.length≤32∧∀a∈r.1,kG n a)∧Cu r.2):=by intro q' e1 e2;unfold kD;rw[wrap64 (n:=j+1) (by omega) (by omega)];exact hm _ ⟨by show 0≤j+1;omega,by show j+1≤(q'.length:Int);omega,e1,e2⟩ (by show((q'.length:Int)-(j+1)).toNat<((q.length:Int)-j).toNat;omega)
 refine Ends.bind (P:=λ_=>True) ?_ λz _=>?_;exact Ends.idx y1 k2 λ_=>Ends.cond (λ_=>Ends.idx y1 k2 λ_=>Ends.cond (λ_=>Ends.idx y1 k2 λ_=>Ends.pure trivial) λ_=>Ends.pure trivial) λ_=>Ends.pure trivial;unfold nq;refine Ends.cond (λ_=>Ends.idx y1 k2 λhi=>Ends.idx y1 k2 λ_=>step _ (by rw[aG];exact y3) ?_) λ_=>step q y3 y4;intro a ha;rcases List.mem_or_eq_of_mem_set ha with g|g;exact y4 a g;rw[g];exact(y4 _ (aY hi)).put (iX (by omega)) (lT (by omega))
theorem Je {a:List Int}(ha:a.length≤1048576):Ends (nN a) λr=>wi r.1∧r.2.length≤32∧∀x∈r.2,kG (r.1.1.length:Int) x:=by unfold nN;refine(Sf ha).bind λr1 p1=>(L7 p1).bind λr2 p2=>?_;have p:=jb p2.1.ports;have hl:=p2.1.len;exact(I5 p2.2 ⟨by omega,by omega⟩ false).bind λr3 p3=>Ends.pure ⟨p2.1,p3.1.1,p3.1.2⟩
theorem Od {α:Type}{l:List α}{k:Nat}(h:k<l.length)(x:α):idx (l.set k x) (k:Int)=some x:=by rw[xo,List.getElem?_set_self h]
theorem IJ {α:Type}(l:List α)(k:Nat)(x:α):(l.set k x).length=l.length:=aG ..
def n4 (f:Filter)(v:Int):Filter×Bool:=bif cQ f&&(!hasB f.2.2 v&&cQ (f.1,f.2.1,ins v f.2.2)) then((f.1,f.2.1,ins v f.2.2),true) else(f,false)
theorem Eg (f:Filter)(v:Int)(h:f.2.2.length≤100000000):oD f v=some (n4 f v):=by have hi:=Cy v f.2.2;simp only[oD,gR f (by omega),lL f (by omega),uI f.2.2 v (by omega),Cp f.2.2 v (by omega),lL (f.1,f.2.1,ins v f.2.2) (show(ins v f.2.2).length≤1000000000 by omega),ae,n4];cases cQ f<;>cases hasB f.2.2 v<;>cases cQ (f.1,f.2.1,ins v f.2.2)<;>rfl
theorem BE (f:Filter)(v:Int){n:Nat}(h:f.2.2.length≤n)(hn:8≤n):(n4 f v).1.2.2.length≤n:=by unfold n4;cases hc:cQ f&&(!hasB f.2.2 v&&cQ (f.1,f.2.1,ins v f.2.2))with|false=>exact h|true=>simp only[ab]at hc;have:=hc.2.2;simp only[cQ,ab,aI]at this;show(ins v f.2.2).length≤n;omega
def lV (f:Filter)(v:Int):Filter×Bool:=bif cQ f&&hasB f.2.2 v then((f.1,f.2.1,f.2.2.filter (λx=>x !=v)),true) else(f,false)
theorem DY (p:Int→Bool)(l:List Int)(i:Nat)(hi:i<l.length):(l.take (i+1)).filter p=bif p l[i] then(l.take i).filter p++[l[i]] else(l.take i).filter p:=by rw[bC hi,List.filter_append];cases hp:p l[i]<;>simp[hp]
theorem xd (p:Int→Bool)(l:List Int)(i:Nat):((l.take i).filter p).length≤l.length:=bL (List.length_filter_le _ _) (by simp;omega)
theorem Ct (f:Filter)(v:Int)(h:f.2.2.length≤1000000000):nB f v=some (lV f v):=by
 simp only[nB,gR f h,lL f h,uI f.2.2 v h,ae,lV];cases cQ f with|false=>rfl|true=>?_
 cases hasB f.2.2 v with|false=>rfl|true=>?_
 simp only[ax,ak,ae,df,ah];refine(ie (λi=>((i:Int),f.1,f.2.1,(f.2.2.take i).filter (λx=>x !=v))) f.2.2.length (by omega) (λi nx hi=>?_) (λnx=>?_));have hl:=xd (λx=>x !=v) f.2.2 i;simp only[kc];rw[ai (by omega),bH hi,wrap64 (by omega) (by omega),DY _ _ i hi];simp only[ah,ae];rw[aW (by simp only[cE];omega)];cases f.2.2[i] !=v<;>rfl;simp only[kc];rw[af (by omega),da];rfl
def fX (f:Filter)(m:Int×Int×Int):Filter×Int:=
 bif m.2.1==1 then(bif cQ (m.2.2,f.2) then((m.2.2,f.2),1) else(f,0))
 else bif m.2.1==2 then(bif (n4 f m.2.2).2 then((n4 f m.2.2).1,1) else(f,0))
 else bif m.2.1==3 then(bif (lV f m.2.2).2 then((lV f m.2.2).1,1) else(f,0))
 else bif m.2.1==4 then(f,f.1) else(f,0)
theorem Ei (f:Filter)(m:Int×Int×Int)(h:f.2.2.length≤100000000):oF f m=some (fX f m):=by simp only[oF,gR f (by omega),lL (m.2.2,f.2) (show f.2.2.length≤1000000000 by omega),Eg f _ h,Ct f _ (show f.2.2.length≤1000000000 by omega),ae,fX];cases m.2.1==1<;>cases m.2.1==2<;>cases m.2.1==3<;>cases m.2.1==4<;>cases cQ (m.2.2,f.2)<;>cases (n4 f m.2.2).2<;>cases (lV f m.2.2).2<;>rfl
theorem BL (f:Filter)(m:Int×Int×Int){n:Nat}(h:f.2.2.length≤n)(hn:8≤n):(fX f m).1.2.2.length≤n:=by
 have ha:=BE f m.2.2 h hn;have hd:(lV f m.2.2).1.2.2.length≤n:=by unfold lV;cases cQ f&&hasB f.2.2 m.2.2 with|false=>exact h|true=>exact bL (List.length_filter_le _ _) h
 unfold fX;cases m.2.1==1<;>cases m.2.1==2<;>cases m.2.1==3<;>cases m.2.1==4<;>cases cQ (m.2.2,f.2)<;>cases (n4 f m.2.2).2<;>cases (lV f m.2.2).2<;>first|exact h|exact ha|exact hd
def iq (b:aJ)(m:Int×Int×Int):aJ×Int:=
 bif fj b then(bif m.1==b.2.1 then(b,b.2.2.1) else bif m.1==b.2.1+1 then(((fX b.1 m).1,m.1,(fX b.1 m).2,b.2.2.2+1),(fX b.1 m).2) else(b, -1)) else(b, -1)
theorem E7 {b:aJ}(h:fj b=true):0≤b.2.1∧b.2.1≤1000000000000∧0≤b.2.2.2∧b.2.2.2≤1000000000000:=by simp only[fj,ab,bq]at h;omega
theorem GV (b:aJ)(m:Int×Int×Int)(h:b.1.2.2.length≤100000000):ir b m=some (iq b m):=by simp only[ir,ot b (by omega),Ej b (by omega),Ei b.1 m h,ae,iq,bne];cases hm:fj b with|false=>rfl|true=>have hin:=E7 hm;rw[wrap64 (n:=b.2.1+1) (by omega) (by omega),wrap64 (n:=b.2.2.2+1) (by omega) (by omega)];cases m.1==b.2.1<;>cases m.1==b.2.1+1<;>rfl
def kJ (ms:List aJ)(k:Nat)(m:Int×Int×Int):List aJ×Int:=
 match ms[k]? with
 |none=>(ms, -1)
 |some b=>bif (c9 (ms.set k (iq b m).1)).2 then(ms.set k (iq b m).1,(iq b m).2)
  else(ms.set k (b.1,m.1,0,aw (b.2.2.2+1)),0)
theorem wy (b:aJ)(m:Int×Int×Int){n:Nat}(h:b.1.2.2.length≤n)(hn:8≤n):(iq b m).1.1.2.2.length≤n:=by have:=BL b.1 m h hn;unfold iq;cases fj b<;>cases m.1==b.2.1<;>cases m.1==b.2.1+1<;>first|exact h|exact this
theorem ua {α:Type}{l:List α}{k:Nat}{x y:α}(h:y∈l.set k x):y∈l∨y=x:=List.mem_or_eq_of_mem_set h
theorem vJ (ms:List aJ)(k:Nat)(m:Int×Int×Int)(hk:k<ms.length)(hl:ms.length≤1000000000)(h:∀b∈ms,b.1.2.2.length≤100000000):jr ms (k:Int) m=some (kJ ms k m):=by
 have hb:=h _ (aY hk);have hp:∀b∈ms.set k (iq ms[k] m).1,b.1.2.2.length≤1000000000:=by intro b hb';rcases ua hb' with h1|rfl;have:=h b h1;omega;have:=wy ms[k] m hb (by omega);omega
 unfold jr kJ;simp only[tD ms hl (λb hb=>by have:=h b hb;omega),bH hk,GV _ m hb,ae,List.getElem?_eq_getElem hk,aS,sI _ hp,ot ms[k] (by omega)];have hs:∀x:aJ,k<(ms.set k x).length:=λx=>by rw[IJ];exact hk
 simp only[Od hk,ae,List.set_set];cases (c9 (ms.set k (iq ms[k] m).1)).2<;>rfl
theorem zS (ms:List aJ)(k:Nat)(m:Int×Int×Int):(kJ ms k m).1.length=ms.length:=by unfold kJ;split;rfl;rename_i b _;cases (c9 (ms.set k (iq b m).1)).2<;>exact IJ ..
theorem Gs (ms:List aJ)(k:Nat)(m:Int×Int×Int){n:Nat}(hn:8≤n)(h:∀b∈ms,b.1.2.2.length≤n):∀b∈(kJ ms k m).1,b.1.2.2.length≤n:=by
 intro b hb;unfold kJ at hb;split at hb;exact h b hb;rename_i b0 hb0;have h0:=h b0 (List.mem_of_getElem? hb0);cases hp:(c9 (ms.set k (iq b0 m).1)).2 with
 |true=>rw[hp]at hb;rcases ua hb with h1|rfl;exact h b h1;exact wy b0 m h0 hn
 |false=>rw[hp]at hb;rcases ua hb with h1|rfl;exact h b h1;exact h0
theorem Cq (c:dL)(z:oA 1000000000 rU c):nE c=some c:=by have h0:c.1.length≤1000000000:=z.1.1;unfold nE;simp only[uH _ z.2.1.1,tD _ z.2.2.1.1 (λm hm=>(z.2.2.1.2 m hm).1.2.2.1),px,ou _ z.2.2.2.1.1,jG _ z.2.2.2.2.2.1.1,ou _ z.2.2.2.2.2.2.1,ae];refine(ie (λi=>((i:Int),c.1.take i,c.2)) c.1.length (by omega) (λi nx hi=>?_) (λnx=>?_));simp only[kj];rw[ai (by omega),bH hi,wrap64 (by omega) (by omega)];simp only[ah,ae,Cr _ (z.1.2 _ (aY hi))];rw[aW (by simp;omega),←bC hi];rfl;simp only[kj];rw[af (by omega),da];rfl
def lP (h:Host)(f:Filter):Host:=(h.1,h.2.1,h.2.2.1,h.2.2.2.1,h.2.2.2.2.1,h.2.2.2.2.2.1,h.2.2.2.2.2.2.1,f,h.2.2.2.2.2.2.2.2)
def jY (c:dL)(a:Int)(m:Int×Int×Int):dL×Int:=
 bif wo c&&cx a 0 ((c.2.2.1.length:Int)-1) then
  (match c.1[a.toNat]?,(kJ c.2.2.1 a.toNat m).1[a.toNat]? with
  |some h,some b=>((c.1.set a.toNat (lP h b.1),c.2.1,(kJ c.2.2.1 a.toNat m).1,c.2.2.2),(kJ c.2.2.1 a.toNat m).2)
  |_,_=>(c, -1))
 else(c, -1)
theorem se (c:dL)(a:Int)(m:Int×Int×Int)(z:oA 100000000 rU c)(k:F9 c):fJ c a m=some (jY c a m):=by
 have z9:oA 1000000000 rU c:=z.mono (by omega);have hl:c.2.2.1.length≤100000000:=z.2.2.1.1;unfold fJ jY;simp only[Cq c z9,Eh c k,cX,ae,ba];rw[wrap64 (n:=(c.2.2.1.length:Int)-1) (by omega) (by omega)];cases hc:wo c with|false=>rfl|true=>?_
 cases ha:cx a 0 ((c.2.2.1.length:Int)-1)with|false=>rfl|true=>?_
 have hL:=Gz hc;have hin:=bq.1 ha;obtain⟨n,rfl⟩:=bJ hin.1;have hn:n<c.2.2.1.length:=by omega
 have hn1:n<c.1.length:=by omega
 have hb:=vJ c.2.2.1 n m hn (by omega) (λb hb=>(z.2.2.1.2 b hb).1.2.2.1);have hbl:=zS c.2.2.1 n m;have hbs:=Gs c.2.2.1 n m (n:=100000000) (by omega) (λb hb=>(z.2.2.1.2 b hb).1.2.2.1);have hn2:n<(kJ c.2.2.1 n m).1.length:=by omega
 have:=hbs _ (aY hn2);simp only[ax,ak,df,ah,hb,ae,bH hn2,bH hn1,gR (kJ c.2.2.1 n m).1[n].1 (by omega),aS,List.getElem?_eq_getElem hn1,List.getElem?_eq_getElem hn2];rfl
structure KL (n:Nat) (c:dL):Prop where
 z:oA n rU c
 h:∀x∈c.1,HV n x
theorem KL.mono {n m:Nat}{c:dL}(k:KL n c)(hn:n≤m):KL m c:=⟨k.z.mono hn,λx hx=>(k.h x hx).mono hn⟩
theorem KL.sz {n:Nat}{c:dL}(k:KL n c)(hn:n≤1000000000):F9 c:=by have z:oA 1000000000 rU c:=k.z.mono hn;exact⟨z.1.1,z.2.1.1,λm hm=>(z.2.2.1.2 m hm).1.2.2.1,λx hx=>(k.h x hx).sz hn⟩
theorem KL.of {c:dL}(k:Aw rU c≤1048576):KL 1048576 c:=by
 refine⟨vj k,λh hh=>HV.of ?_⟩;have h1:=ub (Aw jn) c.1 h hh;have h2:(c.1.map (Aw jn)).sum≤Aw rU c:=by show _≤(c.1.length+(c.1.map (Aw jn)).sum)+_;omega
 omega
def aad (c:dL)(k:Nat)(h:Host):dL:=(c.1.set k h,c.2)
theorem OL {n:Nat}{c:dL}{k:Nat}{h:Host}(z:KL n c)(zh:HV n h):KL n (aad c k h):=by refine⟨⟨E1 z.z.1 zh.z,z.z.2⟩,λx hx=>?_⟩;rcases List.mem_or_eq_of_mem_set hx with g|g;exact z.h x g;rw[g];exact zh
theorem Ea {n:Int}{h:Host}(g:Good n h){f:Filter}(hf:cQ f=true):Good n (lP h f):=⟨g.mem,g.maps,g.tx,hf,g.lens,g.ste,g.rx,g.pool,g.vec,g.KP⟩
def WC (s:List Int×List Port)(f:Filter):List Int×List Port:=(f.2.2.foldl na s.1,s.2++[(f.1,f.2.2.foldl na [0],0,true)])
theorem zz (ms:List aJ)(s:List Int×List Port):ms.foldl sm s=(ms.map (·.1)).foldl WC s:=by rw[List.foldl_map];rfl
theorem Fw {ms ns:List aJ}(h:ms.map (·.1)=ns.map (·.1)):jv ms=jv ns:=by unfold jv;rw[zz,zz,h]
theorem OM {ms:List aJ}{k:Nat}{b b':aJ}(hk:ms[k]?=some b)(h:b'.1=b.1):(ms.set k b').map (·.1)=ms.map (·.1):=by obtain⟨hlt,e⟩:=List.getElem?_eq_some_iff.1 hk;rw[List.map_set,h,←e,←List.getElem_map (f:=λx:aJ=>x.1) (h:=by rw[List.length_map];exact hlt),List.set_getElem_self]
theorem Hz {ms:List aJ}(h:(c9 ms).2=true){k:Nat}{b b':aJ}(hk:ms[k]?=some b)(hf:b'.1=b.1)(hm:fj b'=true):(c9 (ms.set k b')).2=true:=by
 have p:=jb h;unfold c9;rw[Fw (OM hk hf),aG,p.2.2.1,bq.2 ⟨by omega,by omega⟩];have:(ms.set k b').all fj=true:=by rw[ay];intro x hx;rcases List.mem_or_eq_of_mem_set hx with g|g;exact p.2.2.2.1 x g;rw[g];exact hm
 rw[this];rfl
theorem Gt {ms:List aJ}(h:(c9 ms).2=true){k:Nat}{b:aJ}(hk:ms[k]?=some b){m:Int×Int×Int}(hm:m.1=b.2.1+1){n:Int}(hn:b.2.1≤n∧b.2.2.2≤n)(hn2:n≤100000000000):∃b',kJ ms k m=(ms.set k b',b'.2.2.1)∧b'.2.1=m.1∧b'.2.2.2=b.2.2.2+1∧(c9 (ms.set k b')).2=true:=by
 have p:=jb h;have hb:fj b=true:=p.2.2.2.1 b (List.mem_of_getElem? hk);have hi:=E7 hb;have hh:iq b m=(((fX b.1 m).1,m.1,(fX b.1 m).2,b.2.2.2+1),(fX b.1 m).2):=by unfold iq;rw[hb,ah,show(m.1==b.2.1)=false from by rw[cU];omega,ak,show(m.1==b.2.1+1)=true from by rw[aM];exact hm,ah]
 unfold kJ;rw[hk];simp only[hh];cases hp:(c9 (ms.set k ((fX b.1 m).1,m.1,(fX b.1 m).2,b.2.2.2+1))).2 with|true=>exact⟨((fX b.1 m).1,m.1,(fX b.1 m).2,b.2.2.2+1),rfl,rfl,rfl,hp⟩|false=>refine⟨(b.1,m.1,0,b.2.2.2+1),?_,rfl,rfl,?_⟩;rw[ak,wrap64 (by omega) (by omega)];refine Hz h hk rfl ?_;unfold fj at hb⊢;simp only[ab,bq]at hb⊢;refine⟨hb.1,⟨?_,?_⟩,?_,?_⟩;show 0≤m.1;omega;show m.1≤_;omega;show 0≤b.2.2.2+1;omega;show b.2.2.2+1≤_;omega
theorem Gu {ms:List aJ}(h:(c9 ms).2=true){k:Nat}{b:aJ}(hk:ms[k]?=some b){m:Int×Int×Int}(hm:m.1=b.2.1):kJ ms k m=(ms,b.2.2.1):=by
 have p:=jb h;have hb:fj b=true:=p.2.2.2.1 b (List.mem_of_getElem? hk);have hh:iq b m=(b,b.2.2.1):=by unfold iq;rw[hb,ah,show(m.1==b.2.1)=true from by rw[aM];exact hm,ah]
 have hs:ms.set k b=ms:=by obtain⟨hlt,e⟩:=List.getElem?_eq_some_iff.1 hk;rw[←e,List.set_getElem_self]
 unfold kJ;rw[hk];simp only[hh];rw[hs,h,ah]
def lI (c:dL)(k:Nat)(h:Host)(b:aJ):dL:=(c.1.set k (lP h b.1),c.2.1,c.2.2.1.set k b,c.2.2.2)
theorem Lw {n m:Int}{c:dL}(g:so n c)(hm:n≤m){k:Nat}{h:Host}{b:aJ}(hh:c.1[k]?=some h)(hp:(c9 (c.2.2.1.set k b)).2=true)(h1:b.2.1≤m∧b.2.2.2≤m):so m (lI c k h b):=by
 have p:=jb hp;have q:=jb g.ports;obtain⟨hlt,_⟩:=List.getElem?_eq_some_iff.1 hh;have hk:k<c.2.2.1.length:=by have:=g.len.1;omega
 have hb:fj b=true:=p.2.2.2.1 b (List.mem_of_getElem? (List.getElem?_set_self hk));have hf:cQ b.1=true:=by unfold fj at hb;simp only[ab]at hb;exact hb.1
 have gh:∀h0,c.1[k]?=some h0→Good n h0:=λh0 e=>(g.host k h0 _ e (List.getElem?_eq_getElem hk)).1;refine⟨hp,⟨?_,?_⟩,?_,g.boot,g.clock,λi h' b' e1 e2=>?_,λi hi=>g.place i ?_,λx hx=>?_,λf hf=>⟨by have:=(g.fnn f hf).1;omega,by have:=(g.fnn f hf).2;omega⟩⟩;show(c.1.set k _).length=(c.2.2.1.set k b).length;rw[aG,aG];exact g.len.1;show c.2.1.length=(c.2.2.1.set k b).length;rw[aG];exact g.len.2;have e:=g.fns;unfold jI at e⊢;rw[q.1,q.2.2.1,q.2.1,bn]at e;show(kK (c9 (c.2.2.1.set k b)).1&&(List.range c.2.1.length).all (SK c.2.1 ((c9 (c.2.2.1.set k b)).1.length:Int)))=true;rw[p.1,p.2.2.1,bn,p.2.1,aG];exact e;have e1:(c.1.set k (lP h b.1))[i]?=some h':=e1;have e2:(c.2.2.1.set k b)[i]?=some b':=e2;by_cases hi:i=k;subst hi;rw[List.getElem?_set_self hlt]at e1;rw[List.getElem?_set_self hk]at e2;rw[←bu e1,←bu e2];exact⟨Ea ((gh h hh).mono hm) hf,rfl⟩;rw[List.getElem?_set_ne (bF hi)]at e1 e2;exact⟨(g.host i h' b' e1 e2).1.mono hm,(g.host i h' b' e1 e2).2⟩;have hi:i<(c.1.set k (lP h b.1)).length:=hi;rw[aG]at hi;exact hi;rcases List.mem_or_eq_of_mem_set hx with e|e;have:=g.boxn x e;omega;rw[e];exact h1
theorem SA {n:Nat}(hn:8≤n){c:dL}(z:KL n c){k:Nat}{h:Host}{b:aJ}(hh:c.1[k]?=some h)(hb:b.1.2.2.length≤8):KL n (lI c k h b):=by
 have zh:=z.h h (List.mem_of_getElem? hh);have zl:oA n il b.1:=⟨trivial,trivial,bL hb hn,λ_ _=>trivial⟩
 have y:=zh.z;have zf:HV n (lP h b.1):=⟨⟨y.1,y.2.1,y.2.2.1,y.2.2.2.1,y.2.2.2.2.1,y.2.2.2.2.2.1,y.2.2.2.2.2.2.1,zl,y.2.2.2.2.2.2.2.2⟩,zh.t⟩
 have s:=OL (k:=k) z zf;exact⟨⟨s.z.1,z.z.2.1,E1 z.z.2.2.1 ⟨zl,trivial,trivial,trivial⟩,z.z.2.2.2⟩,s.h⟩
theorem Dq {n:Int}{c:dL}(g:so n c)(hn:n≤100000000000){k:Nat}{b:aJ}(hk:c.2.2.1[k]?=some b){m:Int×Int×Int}(hm:m.1=b.2.1+1):∃h b',c.1[k]?=some h∧jY c (k:Int) m=(lI c k h b',b'.2.2.1)∧b'.2.1=m.1∧b'.2.2.2=b.2.2.2+1∧(c9 (c.2.2.1.set k b')).2=true∧so (n+1) (lI c k h b'):=by
 obtain⟨hlt,_⟩:=List.getElem?_eq_some_iff.1 hk;have hx:k<c.1.length:=by have:=g.len.1;omega
 have hbn:=g.boxn b (List.mem_of_getElem? hk);obtain⟨b',e1,e2,e3,e4⟩:=Gt g.ports hk hm hbn hn;refine⟨c.1[k],b',List.getElem?_eq_getElem hx,?_,e2,e3,e4,Lw g (by omega) (List.getElem?_eq_getElem hx) e4 ⟨by omega,by omega⟩⟩;unfold jY;rw[g.ok (by omega),bq.2 ⟨by omega,by omega⟩];simp only[df,ah,aS,e1];rw[List.getElem?_eq_getElem hx,List.getElem?_set_self hlt];rfl
theorem Dr {n:Int}{c:dL}(g:so n c)(hn:n≤100000000000){k:Nat}{b:aJ}(hk:c.2.2.1[k]?=some b){m:Int×Int×Int}{a:Int}(he:kJ c.2.2.1 k m=(c.2.2.1,a)):jY c (k:Int) m=(c,a):=by
 obtain⟨hlt,eb⟩:=List.getElem?_eq_some_iff.1 hk;have hx:k<c.1.length:=by have:=g.len.1;omega
 have hf:=(g.host k _ b (List.getElem?_eq_getElem hx) hk).2;unfold jY;rw[g.ok (by omega),bq.2 ⟨by omega,by omega⟩];simp only[df,ah,aS,he];rw[List.getElem?_eq_getElem hx,hk];simp only;have e:lP c.1[k] b.1=c.1[k]:=by rw[←hf];rfl
 rw[e,List.set_getElem_self]
theorem Lc {c:dL}(d:wi c):KL 2000 c:=by
 have p:=jb d.ports;obtain⟨bk,_,hf⟩:=d.fns;have hh:∀h∈c.1,wj h:=by intro h hh;obtain⟨i,hi⟩:=List.getElem?_of_mem hh;obtain⟨hlt,_⟩:=List.getElem?_eq_some_iff.1 hi;exact(d.host i h _ hi (List.getElem?_eq_getElem (by rw[←d.len];exact hlt))).1
 refine⟨⟨⟨by have:=d.len;omega,λh hx=>(hh h hx).sz.z⟩,⟨by rw[hf,pD];omega,λ_ _=>⟨trivial,trivial,⟨trivial,trivial,trivial⟩,trivial,trivial,trivial⟩⟩,⟨by omega,λb hb=>?_⟩,⟨by have:=d.flash.1;omega,λx hx=>by show x.length≤2000;rw[d.flash.2 x hx];omega⟩,⟨trivial,trivial,trivial,trivial⟩,?_,?_⟩,λh hx=>(hh h hx).sz⟩;obtain⟨i,hi⟩:=List.getElem?_of_mem hb;have q:=(d.box i b hi).vl;refine⟨⟨trivial,trivial,?_,λ_ _=>trivial⟩,trivial,trivial,trivial⟩;show b.1.2.2.length≤2000;rcases q with e|e<;>rw[e]<;>simp;rw[show c.2.2.2.2.2.1=[] from congrArg (·.1) d.rest];exact⟨cl _,λ_ _=>trivial⟩;rw[show c.2.2.2.2.2.2=[] from congrArg (·.2) d.rest];exact⟨cl _,λx hx=>by cases hx⟩
theorem Qd {a:List Int}{k:Bool→Option Bool}(ht:k true=some true)(hk:a.length≤1048576→Ends (k false) (λb=>b=true)):Ends (aa (uQ a) k) (λb=>b=true):=by unfold uQ;rw[ae];by_cases h:((a.length:Int))>1048576;rw[ai h,ht];exact Ends.pure rfl;rw[af h];exact hk (by omega)
theorem Ends.true {o:Option Bool}(h:Ends o (λb=>b=true)):o=some true:=by obtain⟨x,h1,rfl⟩:=h;exact h1
theorem K4 {a:List Int}(ha:I1 (.sl (.int .u8)) a)(hl:a.length≤1048576){i:Int}(h0:0≤i)(h1:i≤1000000):Ends (tj a i) λx=>0≤x∧x≤255:=by
 unfold tj;refine Ends.cond (λ_=>Ends.pure ⟨dS _,by omega⟩) λk=>?_;have k:((a.length:Int))≠0:=by simpa using k
 have m1:=Int.tmod_nonneg (a.length:Int) (a:=i*5+1) (by omega);have m2:=Int.tmod_lt_of_pos (i*5+1) (b:=(a.length:Int)) (by omega);rw[wrap64 (n:=i*5) (by omega) (by omega),wrap64 (n:=i*5+1) (by omega) (by omega)];refine Ends.NN k (Ends.idx m1 m2 λhi=>Ends.pure ?_);have hx:0≤a[(Int.tmod (i*5+1) (a.length:Int)).toNat]∧a[(Int.tmod (i*5+1) (a.length:Int)).toNat]≤255:=ha.2 _ (aY hi);rw[wrap64 (by omega) (by omega)];exact hx
theorem tS (a:List Int)(ha:I1 (.sl (.int .u8)) a):jO a=some true:=by
 refine Ends.true ?_;unfold jO;refine Qd rfl λhl=>?_;rw[ak];refine(Je hl).bind λr2 p2=>(K4 ha hl (i:=0) (by omega) (by omega)).bind λr3 p3=>?_;have d:=p2.1;generalize r2.1=c at d⊢;have p:=jb d.ports;have hn:((c.2.2.1.length:Int))≠0:=by omega
 have k0:=Int.tmod_nonneg (c.2.2.1.length:Int) p3.1;have k1:=Int.tmod_lt_of_pos r3 (b:=(c.2.2.1.length:Int)) (by omega);refine Ends.NN hn ?_;obtain⟨k,hk⟩:∃k:Nat,Int.tmod r3 (c.2.2.1.length:Int)=k:=⟨(Int.tmod r3 (c.2.2.1.length:Int)).toNat,by omega⟩
 rw[hk]at k0 k1⊢;have hlt:k<c.2.2.1.length:=by omega
 rw[bH hlt,ae];refine(K4 ha hl (i:=1) (by omega) (by omega)).bind λr5 p5=>Ends.NN (by decide) ((K4 ha hl (i:=2) (by omega) (by omega)).bind λr6 p6=>Ends.NN (by decide) ?_);have hg:=List.getElem?_eq_getElem hlt;generalize c.2.2.1[k]=b at hg⊢;have q:=d.box k b hg;have g:=d.Qs;have z:=Lc d;rw[wrap64 (n:=b.2.1+1) (by have:=q.last;omega) (by have:=q.last;omega)];generalize hm:((b.2.1+1,aw (1+Int.tmod r5 5),Int.tmod r6 12):Int×Int×Int)=m;have hm1:m.1=b.2.1+1:=by rw[←hm]
 obtain⟨h,b',eh,e1,e2,e3,e4,e5⟩:=Dq g (by omega) hg hm1;have pb:=jb e4;have hs:(c.2.2.1.set k b')[k]?=some b':=List.getElem?_set_self hlt;have hml:b'.1.2.2.length≤8:=pA (pb.2.2.2.1 b' (List.mem_of_getElem? hs));have zy:=SA (by omega) z eh hml;have ey:(lI c k h b').2.2.1=c.2.2.1.set k b':=rfl;have e6:=Dr e5 (by omega) (k:=k) (b:=b') (by rw[ey];exact hs) (m:=m) (Gu (by rw[ey];exact e4) (by rw[ey];exact hs) e2.symm);rw[se c _ m (z.z.mono (by omega)) (z.sz (by omega)),ae,e1];simp only;rw[se (lI c k h b') _ m (zy.z.mono (by omega)) (zy.sz (by omega)),ae,e6];have hi:idx (lI c k h b').2.2.1 (k:Int)=some b':=by rw[ey,xo];exact hs
 have hl2:(lI c k h b').2.2.1.length=c.2.2.1.length:=by rw[ey,aG]
 have hpo:=sI (lI c k h b').2.2.1 (λx hx=>bL (zy.z.2.2.1.2 x hx).1.2.2.1 (by omega));have hc:=Eh (lI c k h b') (zy.sz (by omega));rw[e5.ok (by omega)]at hc;have hx:idx c.2.2.1 (k:Int)=some b:=by rw[xo];exact hg
 have hp2:(c9 (lI c k h b').2.2.1).2=true:=by rw[ey];exact e4
 have hp1:(c9 (lI c k h b').2.2.1).1.length=c.2.2.1.length+1:=by rw[ey,pb.1,pb.2.1,aG]
 simp only[hl2,bne_self_eq_false,ak,ae,beq_self_eq_true,ah,hi,hx,hpo,hc,hp2,hp1];have w1:aw (b.2.2.2+1)=b.2.2.2+1:=wrap64 (by have:=q.done;omega) (by have:=q.done;omega);have w2:aw ((c.2.2.1.length:Int)+1)=(c.2.2.1.length:Int)+1:=wrap64 (by omega) (by omega);rw[w1,w2,e3,beq_self_eq_true,ah,show(((c.2.2.1.length+1:Nat):Int)==(c.2.2.1.length:Int)+1)=true from by rw[aM];push_cast;rfl,ah];exact Ends.pure rfl
end
end Go.Pu
