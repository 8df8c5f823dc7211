import Derived.KernelRfl
import Derived.Test.YtcmdhgbbpmnbpaaGreatPuX1
section
/- Frames built and packets split: the program's and the reference's are one. -/
namespace Go.Pu
open Go.Dn
set_option linter.unusedSimpArgs false
set_option linter.unusedVariables false
noncomputable section
def NF (d:Ip):Bool:=bp d.1 0 255&&(bp d.2.2.1 0 255&&(bp d.2.2.2.1 0 255&&(bp d.2.1 0 65535&&(bp d.2.2.2.2.1 0 4294967295&&(bp d.2.2.2.2.2.1 0 4294967295&&decide ((d.2.2.2.2.2.2.length:Int)≤380))))))
theorem Me (d:Ip):yO d=some (NF d):=by
 simp only [yO,bh,ab,aH,cF,NF]
theorem S2 (d:Ip):BQ d=some (NF d):=Me d
def E5 (d:Ip):Bytes:=((((((bs2 69 (IntKind.wrap .u8 d.1)++aF (20+(d.2.2.2.2.2.2.length:Int)))++aF d.2.1)++aF 16384)++bs2 (IntKind.wrap .u8 d.2.2.1) (IntKind.wrap .u8 d.2.2.2.1))++aF 0)++dF d.2.2.2.2.1)++dF d.2.2.2.2.2.1
theorem E6 (d:Ip):(E5 d).length≤20:=by
 have:=aA (20+(d.2.2.2.2.2.2.length:Int))
 have:=aA d.2.1
 have:=aA 16384
 have:=aA 0
 have:=bD d.2.2.2.2.1
 have:=bD d.2.2.2.2.2.1
 simp only [E5,List.length_append,HR];omega
def E4 (d:Ip):Bytes:=od (E5 d) 10 (aF (Gj (E5 d)))
theorem Om (d:Ip):qT d=some (bif NF d then (E4 d,true) else ([],false)):=by
 unfold qT
 rw [Me,ab]
 cases hd:NF d with|false=>rfl|true=> ?_
 have hn:(d.2.2.2.2.2.2.length:Int)≤380:=by simp only [NF,Bool.and_eq_true,decide_eq_true_eq] at hd;omega
 have:=aA (20+(d.2.2.2.2.2.2.length:Int))
 have:=aA d.2.1
 have:=aA 16384
 have:=aA 0
 have:=bD d.2.2.2.2.1
 have:=bD d.2.2.2.2.2.1
 have hl:=E6 d
 have e:∀x y,(bytesOf [x,y]).length=2:=fun _ _=>rfl
 rw [wrap64 (n:=20+(d.2.2.2.2.2.2.length:Int)) (by omega) (by omega)]
 simp only [dw,js,ab,Bool.not_true,cond_false,cond_true]
 rw [ao (by simp only [List.length_append,e];omega),ao (by simp only [List.length_append,e];omega),ao (by simp only [List.length_append,e];omega),ao (by simp only [List.length_append,e];omega),ao (by simp only [List.length_append,e];omega),ao (by simp only [List.length_append,e];omega),ao (by simp only [List.length_append,e];omega)]
 have hp:((((((bytesOf [69,IntKind.wrap .u8 d.1]++aF (20+(d.2.2.2.2.2.2.length:Int)))++aF d.2.1)++aF 16384)++bytesOf [IntKind.wrap .u8 d.2.2.1,IntKind.wrap .u8 d.2.2.2.1])++aF 0)++dF d.2.2.2.2.1)++dF d.2.2.2.2.2.1=E5 d:=rfl
 rw [hp,Bc _ (by omega),ab,uQ _ _ _ (by omega)];rfl
theorem Nu (d:Ip):qs d=some (bif NF d then (E4 d,true) else ([],false)):=by
 unfold qs
 rw [S2,ab]
 cases hd:NF d with|false=>rfl|true=> ?_
 have hn:(d.2.2.2.2.2.2.length:Int)≤380:=by simp only [NF,Bool.and_eq_true,decide_eq_true_eq] at hd;omega
 have:=aA (20+(d.2.2.2.2.2.2.length:Int))
 have:=aA d.2.1
 have:=aA 16384
 have:=aA 0
 have:=bD d.2.2.2.2.1
 have:=bD d.2.2.2.2.2.1
 have hl:=E6 d
 have hw:=aA (Gj (E5 d))
 have e:∀x y,(bytesOf [x,y]).length=2:=fun _ _=>rfl
 rw [wrap64 (n:=20+(d.2.2.2.2.2.2.length:Int)) (by omega) (by omega)]
 simp only [fB,tp,ab,Bool.not_true,cond_false,cond_true]
 rw [ao (by simp only [List.length_append,e];omega),ao (by simp only [List.length_append,e];omega),ao (by simp only [List.length_append,e];omega),ao (by simp only [List.length_append,e];omega),ao (by simp only [List.length_append,e];omega),ao (by simp only [List.length_append,e];omega),ao (by simp only [List.length_append,e];omega)]
 have hp:((((((bytesOf [69,IntKind.wrap .u8 d.1]++aF (20+(d.2.2.2.2.2.2.length:Int)))++aF d.2.1)++aF 16384)++bytesOf [IntKind.wrap .u8 d.2.2.1,IntKind.wrap .u8 d.2.2.2.1])++aF 0)++dF d.2.2.2.2.1)++dF d.2.2.2.2.2.1=E5 d:=rfl
 rw [hp,Dj _ (by omega),ab,vY _ _ _ (by omega) (by omega)];rfl
def J2 (d:Ip):Bytes×Bool:=bif NF d then (E4 d++d.2.2.2.2.2.2,true) else ([],false)
theorem BS (d:Ip):(E4 d).length≤20:=by unfold E4;rw [py];exact E6 d
theorem T1 (d:Ip):pD d=some (J2 d):=by
 unfold pD J2
 rw [Om,ab]
 cases hd:NF d with|false=>rfl|true=> ?_
 have hn:(d.2.2.2.2.2.2.length:Int)≤380:=by simp only [NF,Bool.and_eq_true,decide_eq_true_eq] at hd;omega
 have:=BS d
 simp only [cond_true,Bool.not_true,cond_false]
 rw [ao (by omega)]
theorem S1 (d:Ip):ov d=some (J2 d):=by
 unfold ov J2
 rw [Nu,ab]
 cases hd:NF d with|false=>rfl|true=> ?_
 have hn:(d.2.2.2.2.2.2.length:Int)≤380:=by simp only [NF,Bool.and_eq_true,decide_eq_true_eq] at hd;omega
 have:=BS d
 simp only [cond_true,Bool.not_true,cond_false]
 rw [ao (by omega)]
def MD (n:Nat):Bytes:=bytesOf (List.replicate n (0:Int))
theorem Cp (n:Nat):(MD n).length=n:=by simp [MD,bytesOf]
theorem T3 (n:Nat)(h:n≤1000000000):sJ (n:Int) 0=some (MD n):=by
 unfold sJ
 rw [if_pos (by omega),ao (by rw [Int.toNat_natCast];omega),Int.toNat_natCast]
 refine bz (fun i=>(List.replicate n (0:Int),(i:Int))) n (by omega) (fun i nx hi=> ?_) (fun nx=> ?_)
 ·simp only [nC]
  rw [decide_eq_true (by omega),ax (by simpa using hi),wrap64 (by omega) (by omega)]
  simp only [cond_true,ab,Int.toNat_natCast,List.set_replicate_self];rfl
 ·simp only [nC]
  rw [decide_eq_false (by omega)];rfl
theorem Wy (n:Nat)(h:n≤1000000000):uy 0 (n:Int)=some (MD n):=by
 unfold uy
 rw [if_pos (by omega),ao (by rw [Int.toNat_natCast];omega),Int.toNat_natCast]
 refine bz (fun i=>(List.replicate n (0:Int),(i:Int))) n (by omega) (fun i nx hi=> ?_) (fun nx=> ?_)
 ·simp only [oK]
  rw [decide_eq_true (by simp;omega),ax (by simpa using hi),wrap64 (by omega) (by omega)]
  simp only [cond_true,ab,Int.toNat_natCast,List.set_replicate_self];rfl
 ·simp only [oK]
  rw [decide_eq_false (by simp)];rfl
def pad (s:Bytes):Bytes:=if s.length<46 then s++MD (46-s.length) else s
theorem Jo (s:Bytes):(pad s).length=max 46 s.length:=by
 unfold pad
 split
 ·simp only [List.length_append,Cp];omega
 ·omega
theorem W8 (s:Bytes)(h:s.length≤1000000000):sD s=some (pad s):=by
 unfold sD pad
 by_cases hc:s.length<46
 ·rw [decide_eq_true (by omega),if_pos hc,wrap64 (by omega) (by omega),show (46:Int)-(s.length:Int)=((46-s.length:Nat):Int) by omega,T3 _ (by omega)]
  simp only [cond_true,ab]
  rw [ao (by rw [Cp];omega)]
 ·rw [decide_eq_false (by omega),if_neg hc];rfl
theorem Wx (s:Bytes)(h:s.length≤1000000000):sn s=some (pad s):=by
 unfold sn pad
 by_cases hc:s.length<46
 ·rw [decide_eq_false (by omega),if_pos hc,wrap64 (by omega) (by omega),show (46:Int)-(s.length:Int)=((46-s.length:Nat):Int) by omega,Wy _ (by omega)]
  simp only [cond_false,ab]
  rw [ao (by rw [Cp];omega)]
 ·rw [decide_eq_true (by omega),if_neg hc];rfl
def lI (e:Gi):Bool:=bp e.1 0 281474976710655&&(bp e.2.1 0 281474976710655&&(bp e.2.2.1 (-1) 4095&&(bp e.2.2.2.1 1536 65535&&((e.2.2.2.1 !=33024)&&bp (e.2.2.2.2.length:Int) 46 400))))
theorem Cj (e:Gi):qd e=some (lI e):=by
 simp only [qd,bh,ab,aH,cF,lI]
theorem G5 (e:Gi):tq e=some (lI e):=Cj e
def Q0 (a:Int):Bytes:=(dz a).getD []
theorem uP (a:Int):dz a=some (Q0 a)∧(Q0 a).length≤6:=by
 have h:∃x,dz a=some x∧x.length≤6:=by
  unfold dz
  rw [if_neg (by omega)]
  simp only [dw,js,ab]
  have h1:=aA (Int.fdiv a (2^(min (Int.toNat 32) (IntKind.bits .i64))))
  have h2:=bD (IntKind.wrap .i64 (BitVec.toNat (BitVec.ofInt (IntKind.bits .i64) a&&&BitVec.ofInt (IntKind.bits .i64) 4294967295)))
  rw [ao (by omega)]
  exact ⟨_,rfl,by simp only [List.length_append];omega⟩
 obtain ⟨x,hx,hl⟩:=h
 unfold Q0
 rw [hx]
 exact ⟨rfl,hl⟩
theorem Ww (a:Int):qx a=some (Q0 a):=(uP a).1
def GY (e:Gi):Bytes:=(bif decide (e.2.2.1≥0) then (((Q0 e.1++Q0 e.2.1)++aF 33024)++aF e.2.2.1) else Q0 e.1++Q0 e.2.1)++aF e.2.2.2.1++e.2.2.2.2
theorem SE (e:Gi):(GY e).length≤18+e.2.2.2.2.length:=by
 have:=(uP e.1).2
 have:=(uP e.2.1).2
 have:=aA 33024
 have:=aA e.2.2.1
 have:=aA e.2.2.2.1
 unfold GY
 cases decide (e.2.2.1≥0)<;>simp only [cond_true,cond_false,List.length_append]<;>omega
def KR (e:Gi):Bytes×Bool:=bif lI e then (GY e,true) else ([],false)
theorem W6 (e:Gi):qL e=some (KR e):=by
 unfold qL KR
 rw [Cj,ab]
 cases he:lI e with|false=>rfl|true=> ?_
 have hn:(e.2.2.2.2.length:Int)≤400:=by simp only [lI,Bool.and_eq_true,aQ] at he;omega
 have:=(uP e.1).2
 have:=(uP e.2.1).2
 have:=aA 33024
 have:=aA e.2.2.1
 have:=aA e.2.2.2.1
 simp only [(uP _).1,dw,ab,Bool.not_true,cond_false,cond_true,GY]
 rw [ao (by omega)]
 cases decide (e.2.2.1≥0) with
 |true=>
  simp only [cond_true]
  rw [ao (by simp only [List.length_append];omega),ao (by simp only [List.length_append];omega),ao (by simp only [List.length_append];omega),ao (by simp only [List.length_append];omega)]
 |false=>
  simp only [cond_false]
  rw [ao (by simp only [List.length_append];omega),ao (by simp only [List.length_append];omega)]
theorem Wu (e:Gi):qj e=some (KR e):=by
 unfold qj KR
 rw [G5,ab]
 cases he:lI e with|false=>rfl|true=> ?_
 have hn:(e.2.2.2.2.length:Int)≤400:=by simp only [lI,Bool.and_eq_true,aQ] at he;omega
 have:=(uP e.1).2
 have:=(uP e.2.1).2
 have:=aA 33024
 have:=aA e.2.2.1
 have:=aA e.2.2.2.1
 simp only [Ww,fB,ab,Bool.not_true,cond_false,cond_true,GY]
 rw [ao (by omega)]
 cases decide (e.2.2.1≥0) with
 |true=>
  simp only [cond_true]
  rw [ao (by omega),ao (by simp only [List.length_append];omega),ao (by simp only [List.length_append];omega),ao (by simp only [List.length_append];omega)]
  simp only [List.append_assoc]
 |false=>
  simp only [cond_false]
  rw [ao (by simp only [List.length_append];omega),ao (by simp only [List.length_append];omega)]
def W2 (p:aC):Bytes×Bool:=uZ p.2.2.2.2.2.2.1 p.2.2.2.2.2.2.2.1 p.2.2.2.2.2.2.2.2
def QU (p:aC):Bytes×Bool:=J2 (p.2.2.2.1,p.2.2.2.2.1,p.2.2.2.2.2.1,p.2.2.2.2.2.2.2.2.1,p.2.2.2.2.2.2.1,p.2.2.2.2.2.2.2.1,(W2 p).1)
def Wk (p:aC):Bytes×Bool:=KR (p.1,p.2.1,p.2.2.1,2048,pad (QU p).1)
def bn (p:aC):Bytes×Bool:=bif cu p then Wk p else ([],false)
theorem Ja (p:aC):(QU p).1.length≤360:=by
 have h1:=W3 p.2.2.2.2.2.2.1 p.2.2.2.2.2.2.2.1 p.2.2.2.2.2.2.2.2
 unfold QU J2
 cases NF (p.2.2.2.1,p.2.2.2.2.1,p.2.2.2.2.2.1,p.2.2.2.2.2.2.2.2.1,p.2.2.2.2.2.2.1,p.2.2.2.2.2.2.2.1,(W2 p).1) with
 |false=>exact Nat.zero_le _
 |true=>
  have h2:=BS (p.2.2.2.1,p.2.2.2.2.1,p.2.2.2.2.2.1,p.2.2.2.2.2.2.2.2.1,p.2.2.2.2.2.2.1,p.2.2.2.2.2.2.2.1,(W2 p).1)
  have h3:(W2 p).1.length≤340:=h1
  simp only [cond_true,List.length_append]
  omega
theorem yN (p:aC):da p=some (bn p):=by
 have hl:=Ja p
 unfold da bn
 simp only [s6,yc,T1,ab]
 rw [show (J2 (p.2.2.2.1,p.2.2.2.2.1,p.2.2.2.2.2.1,p.2.2.2.2.2.2.2.2.1,p.2.2.2.2.2.2.1,p.2.2.2.2.2.2.2.1,(uZ p.2.2.2.2.2.2.1 p.2.2.2.2.2.2.2.1 p.2.2.2.2.2.2.2.2).1))=QU p from rfl,W8 _ (by omega),ab,W6]
 cases cu p<;>rfl
theorem yD (p:aC):c8 p=some (bn p):=by
 have hl:=Ja p
 unfold c8 bn
 simp only [sX,xN,S1,ab]
 rw [show (J2 (p.2.2.2.1,p.2.2.2.2.1,p.2.2.2.2.2.1,p.2.2.2.2.2.2.2.2.1,p.2.2.2.2.2.2.1,p.2.2.2.2.2.2.2.1,(uZ p.2.2.2.2.2.2.1 p.2.2.2.2.2.2.2.1 p.2.2.2.2.2.2.2.2).1))=QU p from rfl,Wx _ (by omega),ab,Wu]
 cases cu p<;>rfl
theorem vj {p:aC}(h:cu p=true):(bn p).2=true:=by
 have hl:=Ja p
 have hh:vi p=true:=by simp only [cu,Bool.and_eq_true] at h;exact h.1
 have hp:=Jo (QU p).1
 unfold bn Wk KR
 rw [h,cond_true]
 have:lI (p.1,p.2.1,p.2.2.1,2048,pad (QU p).1)=true:=by
  simp only [vi,Bool.and_eq_true] at hh
  simp only [lI,Bool.and_eq_true]
  refine ⟨hh.1,hh.2.1,hh.2.2.1,by decide,by decide,aQ.2 ?_⟩
  omega
 rw [this];rfl
theorem sV (p:aC):(bn p).1.length≤378:=by
 have hl:=Ja p
 have hp:=Jo (QU p).1
 unfold bn Wk KR
 cases cu p with
 |false=>exact Nat.zero_le _
 |true=>
  cases lI (p.1,p.2.1,p.2.2.1,2048,pad (QU p).1) with
  |false=>exact Nat.zero_le _
  |true=>
   have:=SE (p.1,p.2.1,p.2.2.1,2048,pad (QU p).1)
   simp only [cond_true] at this⊢
   omega
def fcs (c:Int):Bytes:=bytesOf [IntKind.wrap .u8 c,IntKind.wrap .u8 (Int.fdiv c (2^(min (Int.toNat 8) (IntKind.bits .i64)))),IntKind.wrap .u8 (Int.fdiv c (2^(min (Int.toNat 16) (IntKind.bits .i64)))),IntKind.wrap .u8 (Int.fdiv c (2^(min (Int.toNat 24) (IntKind.bits .i64))))]
def Dy (s:Bytes):Bytes:=s++fcs (Sp s)
theorem Wn (c:Int):(fcs c).length=4:=rfl
theorem W7 (s:Bytes)(h:s.length≤1000000000):sI s=some (Dy s):=by
 unfold sI
 rw [W4 s h,ab,if_neg (by omega),if_neg (by omega),if_neg (by omega)]
 exact ao (by show s.length+4≤_;omega)
theorem Wv (s:Bytes)(h:s.length≤1000000000):sr s=some (Dy s):=by
 unfold sr
 rw [Wt s h,ab,if_neg (by omega),if_neg (by omega),if_neg (by omega)]
 exact ao (by show s.length+4≤_;omega)
def sA (p:aC):Bool:=cu p&&decide ((p.2.2.2.2.2.2.2.2.2.2.2.2.2.2.2.length:Int)≤128)
theorem Oo (p:aC):qU p=some (sA p):=by
 simp only [qU,s6,ab,aH,cF,sA]
theorem Nw (p:aC):qt p=some (sA p):=by
 simp only [qt,sX,ab,aH,cF,sA]
def rR (p:aC):Bytes×Bool:=bif sA p then (Dy (bn p).1,true) else ([],false)
theorem RN (p:aC):nt p=some (rR p):=by
 have hl:=sV p
 simp only [nt,Oo,yN,W7 _ (show (bn p).1.length≤1000000000 by omega),ab,rR]
 cases sA p<;>rfl
theorem QH (p:aC):m5 p=some (rR p):=by
 have hl:=sV p
 simp only [m5,Nw,yD,Wv _ (show (bn p).1.length≤1000000000 by omega),ab,rR]
 cases hp:sA p with
 |false=>rfl
 |true=>
  have:cu p=true:=by simp only [sA,Bool.and_eq_true] at hp;exact hp.1
  rw [vj this];rfl
theorem Qx (p:aC):(rR p).1.length≤382:=by
 have hl:=sV p
 unfold rR
 cases sA p with
 |false=>exact Nat.zero_le _
 |true=>simp only [cond_true,Dy,List.length_append,Wn];omega
def Fs (p:aC)(z:Int)(k:Nat):aC:=
 (p.1,p.2.1,p.2.2.1,p.2.2.2.1,Int.tmod (IntKind.wrap .i64 (p.2.2.2.2.1+(k:Int))) 65536,p.2.2.2.2.2.1,p.2.2.2.2.2.2.1,p.2.2.2.2.2.2.2.1,p.2.2.2.2.2.2.2.2.1,p.2.2.2.2.2.2.2.2.2.1,p.2.2.2.2.2.2.2.2.2.2.1,
   Int.tmod (IntKind.wrap .i64 (p.2.2.2.2.2.2.2.2.2.2.2.1+((k:Int)*z))) 4294967296,p.2.2.2.2.2.2.2.2.2.2.2.2.1,
   (bif decide (((k:Int)+1)*z<(p.2.2.2.2.2.2.2.2.2.2.2.2.2.2.2.length:Int)) then IntKind.wrap .i64 (BitVec.toNat (BitVec.ofInt (IntKind.bits .i64) p.2.2.2.2.2.2.2.2.2.2.2.2.2.1&&&~~~ BitVec.ofInt (IntKind.bits .i64) 9)) else p.2.2.2.2.2.2.2.2.2.2.2.2.2.1),
   p.2.2.2.2.2.2.2.2.2.2.2.2.2.2.1,(p.2.2.2.2.2.2.2.2.2.2.2.2.2.2.2.take (min ((k+1)*z.toNat) p.2.2.2.2.2.2.2.2.2.2.2.2.2.2.2.length)).drop (k*z.toNat))
def eh (n z:Nat):Nat:=(n+z-1)/z
def u0 (p:aC)(z:Int):List aC:=bif cu p&&bp z 1 128 then
    (bif (p.2.2.2.2.2.2.2.2.1 !=6)||decide ((p.2.2.2.2.2.2.2.2.2.2.2.2.2.2.2.length:Int)≤z) then [p] else (List.range (eh p.2.2.2.2.2.2.2.2.2.2.2.2.2.2.2.length z.toNat)).map (Fs p z)) else []
theorem Cb {n z k:Nat}(hz:0<z):k<eh n z↔k*z<n:=by
 unfold eh
 rw [Nat.lt_div_iff_mul_lt hz]
 omega
theorem w5 {p:aC}(h:cu p=true):p.2.2.2.2.2.2.2.2.2.2.2.2.2.2.2.length≤320:=by
 have hh:vi p=true:=by simp only [cu,Bool.and_eq_true] at h;exact h.1
 exact AY (ER hh)
theorem HB {b:Bytes}{k z:Nat}(hk:k*z<b.length)(hb:b.length≤320):sub b ((k*z:Nat):Int) ((min ((k+1)*z) b.length:Nat):Int)=some ((b.take (min ((k+1)*z) b.length)).drop (k*z)):=by
 have:k*z≤(k+1)*z:=Nat.mul_le_mul_right _ (by omega)
 unfold sub
 rw [if_pos (by omega),Int.toNat_natCast,Int.toNat_natCast]
theorem RP (p:aC)(z:Int):wX p z=some (u0 p z):=by
 unfold wX u0
 simp only [s6,bh,ab]
 cases hs:cu p with|false=>rfl|true=> ?_
 cases hz:bp z 1 128 with|false=>rfl|true=> ?_
 have hz':=aQ.1 hz
 have hb:=w5 hs
 simp only [Bool.not_true,cond_false,Bool.and_self,cond_true,ab,aH,cT]
 cases hq:(p.2.2.2.2.2.2.2.2.1 !=6)||decide ((p.2.2.2.2.2.2.2.2.2.2.2.2.2.2.2.length:Int)≤z) with
 |true=>simp only [cond_true,room,List.length_nil,List.length_singleton,List.nil_append];rfl
 |false=>
  simp only [cond_false]
  obtain ⟨m,rfl⟩:=Int.eq_ofNat_of_zero_le (show 0≤z by omega)
  have hN:∀k,k<eh p.2.2.2.2.2.2.2.2.2.2.2.2.2.2.2.length m↔k*m<p.2.2.2.2.2.2.2.2.2.2.2.2.2.2.2.length:=fun k=>Cb (by omega)
  have hcap:eh p.2.2.2.2.2.2.2.2.2.2.2.2.2.2.2.length m≤320:=by
   rcases Nat.lt_or_ge 320 (eh p.2.2.2.2.2.2.2.2.2.2.2.2.2.2.2.length m) with h|h
   ·have:=(hN 320).1 h
    have:320*1≤320*m:=Nat.mul_le_mul_left _ (by omega)
    omega
   ·exact h
  refine bz (fun k=>((List.range k).map (Fs p (m:Int)),(k:Int))) (eh p.2.2.2.2.2.2.2.2.2.2.2.2.2.2.2.length m) (by omega) (fun k nx hk=> ?_) (fun nx=> ?_)
  ·have hkm:=(hN k).1 hk
   have hk1:(k+1)*m=k*m+m:=by rw [Nat.add_mul,Nat.one_mul]
   have e1:(k:Int)*(m:Int)=((k*m:Nat):Int):=by push_cast;rfl
   have e2:((k:Int)+1)*(m:Int)=(((k+1)*m:Nat):Int):=by push_cast;rfl
   simp only [qW]
   rw [wrap64 (n:=(k:Int)+1) (by omega) (by omega),e1,e2,cA (n:=k*m) (by omega),cA (n:=(k+1)*m) (by omega),decide_eq_true (by omega),cond_true]
   have e3:(if (((k+1)*m:Nat):Int)<(p.2.2.2.2.2.2.2.2.2.2.2.2.2.2.2.length:Int) then (((k+1)*m:Nat):Int) else (p.2.2.2.2.2.2.2.2.2.2.2.2.2.2.2.length:Int))=((min ((k+1)*m) p.2.2.2.2.2.2.2.2.2.2.2.2.2.2.2.length:Nat):Int):=by split<;>omega
   rw [e3,HB hkm hb,ab,if_neg (by omega),if_neg (by omega)]
   rw [List.range_succ,List.map_append,List.map_singleton]
   simp only [Fs,e1,e2,Int.toNat_natCast]
   cases decide ((((k+1)*m:Nat):Int)<(p.2.2.2.2.2.2.2.2.2.2.2.2.2.2.2.length:Int)) with
   |true=>
    simp only [cond_true]
    rw [ao (by simp;omega)];rfl
   |false=>
    simp only [cond_false]
    rw [ao (by simp;omega)];rfl
  ·have hkm:¬eh p.2.2.2.2.2.2.2.2.2.2.2.2.2.2.2.length m*m<p.2.2.2.2.2.2.2.2.2.2.2.2.2.2.2.length:=fun h=>absurd ((hN _).2 h) (Nat.lt_irrefl _)
   have hub:eh p.2.2.2.2.2.2.2.2.2.2.2.2.2.2.2.length m*m≤320*128:=Nat.mul_le_mul hcap (by omega)
   have e1:((eh p.2.2.2.2.2.2.2.2.2.2.2.2.2.2.2.length m:Nat):Int)*(m:Int)=((eh p.2.2.2.2.2.2.2.2.2.2.2.2.2.2.2.length m*m:Nat):Int):=by push_cast;rfl
   simp only [qW]
   rw [e1,cA (by omega),decide_eq_false (by omega)];rfl
theorem QL (p:aC)(z:Int):we p z=some (u0 p z):=by
 unfold we u0
 simp only [sX,bm,ab]
 cases hs:cu p with|false=>rfl|true=> ?_
 cases hz:bp z 1 128 with|false=>rfl|true=> ?_
 have hz':=aQ.1 hz
 have hb:=w5 hs
 simp only [Bool.not_true,cond_false,Bool.and_self,cond_true,ab,aH,cT]
 cases hq:(p.2.2.2.2.2.2.2.2.1 !=6)||decide ((p.2.2.2.2.2.2.2.2.2.2.2.2.2.2.2.length:Int)≤z) with
 |true=>rfl
 |false=>
  simp only [cond_false]
  obtain ⟨m,rfl⟩:=Int.eq_ofNat_of_zero_le (show 0≤z by omega)
  have hN:∀k,k<eh p.2.2.2.2.2.2.2.2.2.2.2.2.2.2.2.length m↔k*m<p.2.2.2.2.2.2.2.2.2.2.2.2.2.2.2.length:=fun k=>Cb (by omega)
  have hcap:eh p.2.2.2.2.2.2.2.2.2.2.2.2.2.2.2.length m≤320:=by
   rcases Nat.lt_or_ge 320 (eh p.2.2.2.2.2.2.2.2.2.2.2.2.2.2.2.length m) with h|h
   ·have:=(hN 320).1 h
    have:320*1≤320*m:=Nat.mul_le_mul_left _ (by omega)
    omega
   ·exact h
  refine bz (fun k=>((List.range k).map (Fs p (m:Int)),(k:Int))) (eh p.2.2.2.2.2.2.2.2.2.2.2.2.2.2.2.length m) (by omega) (fun k nx hk=> ?_) (fun nx=> ?_)
  ·have hkm:=(hN k).1 hk
   have hk1:(k+1)*m=k*m+m:=by rw [Nat.add_mul,Nat.one_mul]
   have e1:(k:Int)*(m:Int)=((k*m:Nat):Int):=by push_cast;rfl
   have e2:((k:Int)+1)*(m:Int)=(((k+1)*m:Nat):Int):=by push_cast;rfl
   have hsub:=HB hkm hb
   simp only [qv]
   rw [wrap64 (n:=(k:Int)+1) (by omega) (by omega),e1,e2,cA (n:=k*m) (by omega),cA (n:=(k+1)*m) (by omega),decide_eq_true (by omega),cond_true]
   rw [List.range_succ,List.map_append,List.map_singleton]
   simp only [Fs,e1,e2,Int.toNat_natCast]
   by_cases hc:(((k+1)*m:Nat):Int)<(p.2.2.2.2.2.2.2.2.2.2.2.2.2.2.2.length:Int)
   ·rw [decide_eq_true hc]
    rw [show min ((k+1)*m) p.2.2.2.2.2.2.2.2.2.2.2.2.2.2.2.length=(k+1)*m by omega] at hsub⊢
    simp only [cond_true]
    rw [hsub,ab,if_neg (by omega),if_neg (by omega),ao (by simp;omega)];rfl
   ·rw [decide_eq_false hc]
    rw [show min ((k+1)*m) p.2.2.2.2.2.2.2.2.2.2.2.2.2.2.2.length=p.2.2.2.2.2.2.2.2.2.2.2.2.2.2.2.length by omega] at hsub⊢
    simp only [cond_false]
    rw [hsub,ab,if_neg (by omega),if_neg (by omega),ao (by simp;omega)];rfl
  ·have hkm:¬eh p.2.2.2.2.2.2.2.2.2.2.2.2.2.2.2.length m*m<p.2.2.2.2.2.2.2.2.2.2.2.2.2.2.2.length:=fun h=>absurd ((hN _).2 h) (Nat.lt_irrefl _)
   have hub:eh p.2.2.2.2.2.2.2.2.2.2.2.2.2.2.2.length m*m≤320*128:=Nat.mul_le_mul hcap (by omega)
   have e1:((eh p.2.2.2.2.2.2.2.2.2.2.2.2.2.2.2.length m:Nat):Int)*(m:Int)=((eh p.2.2.2.2.2.2.2.2.2.2.2.2.2.2.2.length m*m:Nat):Int):=by push_cast;rfl
   simp only [qv]
   rw [e1,cA (by omega),decide_eq_false (by omega)];rfl
theorem z8 (p:aC)(z:Int):(u0 p z).length≤320:=by
 unfold u0
 cases hs:cu p&&bp z 1 128 with|false=>exact Nat.zero_le _|true=> ?_
 simp only [Bool.and_eq_true,aQ] at hs
 have hb:=w5 hs.1
 cases (p.2.2.2.2.2.2.2.2.1 !=6)||decide ((p.2.2.2.2.2.2.2.2.2.2.2.2.2.2.2.length:Int)≤z) with
 |true=>simp only [cond_true,List.length_singleton];omega
 |false=>
  simp only [cond_true,cond_false,List.length_map,List.length_range]
  rcases Nat.lt_or_ge 320 (eh p.2.2.2.2.2.2.2.2.2.2.2.2.2.2.2.length z.toNat) with h|h
  ·have:=(Cb (by omega)).1 h
   have:320*1≤320*z.toNat:=Nat.mul_le_mul_left _ (by omega)
   omega
  ·exact h
def DC (acc:List Bytes)(p:aC):List Bytes:=bif (rR p).2 then acc++[(rR p).1] else acc
theorem DD (acc:List Bytes)(p:aC):(DC acc p).length≤acc.length+1:=by
 unfold DC;cases (rR p).2<;>simp
def yA (l:List aC):List Bytes:=l.foldl DC []
theorem Cw:∀(l:List aC)(acc:List Bytes),(l.foldl DC acc).length≤acc.length+l.length
 |[],acc=>by simp
 |p::l,acc=>by
  have:=Cw l (DC acc p)
  have:=DD acc p
  simp only [List.foldl_cons,List.length_cons];omega
theorem yY:∀(l:List aC)(acc:List Bytes),(∀x∈acc,x.length≤382)→∀x∈l.foldl DC acc,x.length≤382
 |[],acc,h=>h
 |p::l,acc,h=>by
  rw [List.foldl_cons]
  refine yY l _ (fun x hx=> ?_)
  unfold DC at hx
  cases hf:(rR p).2 with
  |false=>rw [hf] at hx;exact h x hx
  |true=>
   rw [hf] at hx
   simp only [cond_true,List.mem_append,List.mem_singleton] at hx
   rcases hx with hx|hx
   ·exact h x hx
   ·rw [hx];exact Qx p
theorem Oj (l:List aC)(h:l.length≤1000000000):qP l=some (yA l):=by
 unfold qP yA
 have:=vC (T:=iL (fun (y3:List Bytes) (_:Int)=>some y3) l) l (fun (s:List Bytes) i=>(s,(i:Int))) (fun i s=>s.length≤i) (fun p s=> .ok (DC s p)) (fun s=>some s) (by omega)
  (fun i hi s nx hI=> ?hs) (fun i hi s s' hI hg=> ?hn) (fun s nx hI=> ?hf) [] (by simp)
 case hs=>
  simp only [iL]
  rw [decide_eq_true (by omega),ax hi,wrap64 (n:=(i:Int)+1) (by omega) (by omega)]
  simp only [cond_true,ab,RN,DC]
  rw [ao (by simp;omega)]
  cases (rR l[i]).2<;>rfl
 case hn=>cases hg;have:=DD s l[i];omega
 case hf=>
  simp only [iL]
  rw [decide_eq_false (by omega)];rfl
 rw [AW] at this
 exact this
theorem Nr (l:List aC)(h:l.length≤1000000000):qn l=some (yA l):=by
 unfold qn yA
 have:=vC (T:=iq (fun (y3:List Bytes) (_:Int)=>some y3) l (l.length:Int)) l (fun (s:List Bytes) i=>(s,(i:Int))) (fun i s=>s.length≤i) (fun p s=> .ok (DC s p)) (fun s=>some s) (by omega)
  (fun i hi s nx hI=> ?hs) (fun i hi s s' hI hg=> ?hn) (fun s nx hI=> ?hf) [] (by simp)
 case hs=>
  simp only [iq]
  rw [decide_eq_true (by omega),ax hi,wrap64 (n:=(i:Int)+1) (by omega) (by omega)]
  simp only [cond_true,ab,QH,DC]
  rw [ao (by simp;omega)]
  cases (rR l[i]).2<;>rfl
 case hn=>cases hg;have:=DD s l[i];omega
 case hf=>
  simp only [iq]
  rw [decide_eq_false (by omega)];rfl
 rw [AW] at this
 exact this
def Hv (p:aC)(z:Int):List Bytes:=yA (u0 p z)
theorem Ua (p:aC)(z:Int):ny p z=some (Hv p z):=by
 have:=z8 p z
 simp only [ny,RP,Oj _ (show (u0 p z).length≤1000000000 by omega),ab];rfl
theorem S8 (p:aC)(z:Int):m8 p z=some (Hv p z):=by
 have:=z8 p z
 simp only [m8,QL,Nr _ (show (u0 p z).length≤1000000000 by omega),ab];rfl
theorem RG (p:aC)(z:Int):(Hv p z).length≤320∧∀x∈Hv p z,x.length≤382:=by
 have:=z8 p z
 have:=Cw (u0 p z) []
 exact ⟨by unfold Hv yA;simp only [List.length_nil] at this;omega,yY _ [] (by simp)⟩
end
end Go.Pu
end
section
namespace Go.Pu
open Go.Dn
set_option linter.unusedSimpArgs false
set_option linter.unusedVariables false
noncomputable section
theorem vg {s:Bytes}{a:Int}(h0:0≤a)(h:a+2≤(s.length:Int)):0≤aL s a∧aL s a≤65535:=by
 have h1:=bG s a.toNat;have h2:=bG s (a.toNat+1)
 unfold aL bU
 rw [decide_eq_true ⟨h0,h⟩]
 simp only [cond_true];omega
theorem vh {s:Bytes}{a:Int}(h0:0≤a)(h:a+4≤(s.length:Int)):0≤bW s a∧bW s a≤4294967295:=by
 have h1:=bG s a.toNat;have h2:=bG s (a.toNat+1);have h3:=bG s (a.toNat+2);have h4:=bG s (a.toNat+3)
 unfold bW bU
 rw [decide_eq_true ⟨h0,h⟩]
 simp only [cond_true];omega
theorem Tk {x y:Int}(hx:0≤x∧x≤65535)(hy:0≤y∧y≤4294967295):IntKind.wrap .i64 (BitVec.toNat (BitVec.ofInt (IntKind.bits .i64) (IntKind.wrap .i64 (x*2^(min (Int.toNat 32) (IntKind.bits .i64))))|||BitVec.ofInt (IntKind.bits .i64) y))=x*4294967296+y:=by
 have e:(2:Int)^(min (Int.toNat 32) (IntKind.bits .i64))=4294967296:=rfl
 obtain ⟨x,rfl⟩:=Int.eq_ofNat_of_zero_le hx.1
 obtain ⟨y,rfl⟩:=Int.eq_ofNat_of_zero_le hy.1
 rw [e,wrap64 (n:=(x:Int)*4294967296) (by omega) (by omega),show (x:Int)*4294967296=((2^32*x:Nat):Int) by omega,zV x 32 y (by omega) (by omega)]
 omega
theorem Py {x y:Int}(hx:0≤x∧x≤65535)(hy:0≤y∧y≤4294967295):IntKind.wrap .i64 (IntKind.wrap .i64 (x*2^(min (Int.toNat 32) (IntKind.bits .i64)))+y)=x*4294967296+y:=by
 have e:(2:Int)^(min (Int.toNat 32) (IntKind.bits .i64))=4294967296:=rfl
 rw [e,wrap64 (n:=x*4294967296) (by omega) (by omega),wrap64 (by omega) (by omega)]
theorem Dr {α:Type}{l:List α}{n:Int}(h0:0≤n)(h1:n≤(l.length:Int)):sub l 0 n=some (l.take n.toNat):=by
 unfold sub;rw [if_pos (by omega)];simp
theorem mi {α:Type}{l:List α}(k:Nat)(h:k≤l.length){a:Int}(ha:a=(k:Int)):sub l a (l.length:Int)=some (l.drop k):=by
 unfold sub;rw [if_pos (by omega)];subst ha;simp
theorem Bl {α:Type}{l:List α}(k:Nat){a n:Int}(ha:a=(k:Int))(h0:a≤n)(h1:n≤(l.length:Int)):sub l a n=some ((l.take n.toNat).drop k):=by
 unfold sub;rw [if_pos (by omega)];subst ha;simp
def SC:Gi:=(0,0,0,0,([]:Bytes))
def zd (s:Bytes)(a:Int):Int:=aL s a*4294967296+bW s (a+2)
def zH (s:Bytes):Gi:=(zd s 0,zd s 6,aL s 14,aL s 16,s.drop 18)
def rf (s:Bytes):Gi:=(zd s 0,zd s 6, -1,aL s 12,s.drop 14)
def cm (s:Bytes):Gi×Bool:=bif decide ((s.length:Int)<18) then (SC,false) else
 bif aL s 12==33024 then (bif lI (zH s) then (zH s,true) else (SC,false)) else bif lI (rf s) then (rf s,true) else (SC,false)
theorem JK (s:Bytes)(h:s.length≤1000000000):qV s=some (cm s):=by
 unfold qV cm
 by_cases h8:(s.length:Int)<18
 ·rw [decide_eq_true h8];rfl
 ·rw [decide_eq_false h8]
  simp only [cond_false,kb s _ h,qb s _ h,ab]
  rw [if_neg (by omega),if_neg (by omega),mi (l:=s) 14 (by omega) (show (14:Int)=((14:Nat):Int) from rfl),ab,mi (l:=s) 18 (by omega) (show (18:Int)=((18:Nat):Int) from rfl)]
  rw [Py (vg (s:=s) (a:=0) (by omega) (by omega)) (vh (s:=s) (a:=2) (by omega) (by omega)),Py (vg (s:=s) (a:=6) (by omega) (by omega)) (vh (s:=s) (a:=8) (by omega) (by omega))]
  simp only [ab,Cj]
  rw [show ((aL s 0*4294967296+bW s 2,aL s 6*4294967296+bW s 8,aL s 14,aL s 16,s.drop 18):Gi)=zH s from rfl,show ((aL s 0*4294967296+bW s 2,aL s 6*4294967296+bW s 8, -1,aL s 12,s.drop 14):Gi)=rf s from rfl]
  cases aL s 12==33024<;>cases lI (zH s)<;>cases lI (rf s)<;>rfl
theorem AA (s:Bytes)(h:s.length≤1000000000):mE s=some (cm s):=by
 unfold mE cm
 by_cases h4:(s.length:Int)<14
 ·rw [decide_eq_true h4,decide_eq_true (show (s.length:Int)<18 by omega)];rfl
 ·rw [decide_eq_false h4]
  simp only [cond_false,pZ s _ h,sW s _ h,ab]
  rw [if_neg (by omega),if_neg (by omega),mi (l:=s) 14 (by omega) (show (14:Int)=((14:Nat):Int) from rfl),ab]
  rw [Tk (vg (s:=s) (a:=0) (by omega) (by omega)) (vh (s:=s) (a:=2) (by omega) (by omega)),Tk (vg (s:=s) (a:=6) (by omega) (by omega)) (vh (s:=s) (a:=8) (by omega) (by omega))]
  simp only [ab,G5]
  rw [show ((aL s 0*4294967296+bW s 2,aL s 6*4294967296+bW s 8, -1,aL s 12,s.drop 14):Gi)=rf s from rfl]
  by_cases h8:(s.length:Int)<18
  ·have hB:lI (rf s)=false:=by
    unfold lI rf
    have:bp ((s.drop 14).length:Int) 46 400=false:=by
     rw [Bool.eq_false_iff,ne_eq,aQ,List.length_drop];omega
    simp only [this,Bool.and_false]
   rw [decide_eq_true h8,decide_eq_false (show¬(s.length:Int)≥18 by omega),hB]
   cases aL s 12==33024<;>rfl
  ·rw [decide_eq_false h8,decide_eq_true (show (s.length:Int)≥18 by omega),mi (l:=s) 18 (by omega) (show (18:Int)=((18:Nat):Int) from rfl)]
   simp only [ab]
   rw [show ((aL s 0*4294967296+bW s 2,aL s 6*4294967296+bW s 8,aL s 14,aL s 16,s.drop 18):Gi)=zH s from rfl]
   cases aL s 12==33024<;>cases lI (zH s)<;>cases lI (rf s)<;>rfl
def ip0:Ip:=(0,0,0,0,0,0,([]:Bytes))
def wi (s:Bytes):Ip:=((aD s 1:Int),aL s 4,(aD s 8:Int),(aD s 9:Int),bW s 12,bW s 16,(s.take (aL s 2).toNat).drop 20)
def fN (s:Bytes):Ip×Bool:=bif decide ((s.length:Int)<20)||(decide (aL s 2<20)||decide (aL s 2>(s.length:Int))) then (ip0,false) else
 bif (J2 (wi s)).2&&((J2 (wi s)).1==s.take (aL s 2).toNat) then (wi s,true) else (ip0,false)
theorem Mf (s:Bytes)(h:s.length≤1000000000):sE s=some (fN s):=by
 unfold sE fN
 simp only [kb s _ h,qb s _ h,ab]
 by_cases h1:(s.length:Int)<20
 ·rw [decide_eq_true h1];rfl
 by_cases h2:aL s 2<20
 ·rw [decide_eq_false h1,decide_eq_true h2];rfl
 by_cases h3:aL s 2>(s.length:Int)
 ·rw [decide_eq_false h1,decide_eq_false h2,decide_eq_true h3];rfl
 rw [decide_eq_false h1,decide_eq_false h2,decide_eq_false h3]
 have b1:=gk (s[1]'(by omega));have b8:=gk (s[8]'(by omega));have b9:=gk (s[9]'(by omega))
 have i1:idx s 1=some (s[1]'(by omega)):=ax (i:=1) (by omega)
 have i8:idx s 8=some (s[8]'(by omega)):=ax (i:=8) (by omega)
 have i9:idx s 9=some (s[9]'(by omega)):=ax (i:=9) (by omega)
 simp only [cond_false,ab,Bool.or_self,i1,i8,i9]
 rw [Bl (l:=s) 20 (show (20:Int)=((20:Nat):Int) from rfl) (by omega) (by omega),Dr (by omega) (by omega),cA (n:=(s[1]'(by omega)).toNat) (by omega),cA (n:=(s[8]'(by omega)).toNat) (by omega),cA (n:=(s[9]'(by omega)).toNat) (by omega)]
 have e:(((s[1]'(by omega)).toNat:Int),aL s 4,((s[8]'(by omega)).toNat:Int),((s[9]'(by omega)).toNat:Int),bW s 12,bW s 16,(s.take (aL s 2).toNat).drop 20)=wi s:=by
  simp only [wi,aD,bB (show 1<s.length by omega),bB (show 8<s.length by omega),bB (show 9<s.length by omega)]
 simp only [ab,e,T1]
 cases (J2 (wi s)).2<;>cases (J2 (wi s)).1==s.take (aL s 2).toNat<;>rfl
theorem Lk (s:Bytes)(h:s.length≤1000000000):so s=some (fN s):=by
 unfold so fN
 simp only [pZ s _ h,sW s _ h,ab]
 by_cases h1:(s.length:Int)<20
 ·rw [decide_eq_true h1];rfl
 by_cases h2:aL s 2<20
 ·rw [decide_eq_false h1,decide_eq_true h2];rfl
 by_cases h3:aL s 2>(s.length:Int)
 ·rw [decide_eq_false h1,decide_eq_false h2,decide_eq_true h3];rfl
 rw [decide_eq_false h1,decide_eq_false h2,decide_eq_false h3]
 have b1:=gk (s[1]'(by omega));have b8:=gk (s[8]'(by omega));have b9:=gk (s[9]'(by omega))
 have i1:idx s 1=some (s[1]'(by omega)):=ax (i:=1) (by omega)
 have i8:idx s 8=some (s[8]'(by omega)):=ax (i:=8) (by omega)
 have i9:idx s 9=some (s[9]'(by omega)):=ax (i:=9) (by omega)
 simp only [cond_false,ab,Bool.or_self,i1,i8,i9]
 rw [Bl (l:=s) 20 (show (20:Int)=((20:Nat):Int) from rfl) (by omega) (by omega),Dr (by omega) (by omega),cA (n:=(s[1]'(by omega)).toNat) (by omega),cA (n:=(s[8]'(by omega)).toNat) (by omega),cA (n:=(s[9]'(by omega)).toNat) (by omega)]
 have e:(((s[1]'(by omega)).toNat:Int),aL s 4,((s[8]'(by omega)).toNat:Int),((s[9]'(by omega)).toNat:Int),bW s 12,bW s 16,(s.take (aL s 2).toNat).drop 20)=wi s:=by
  simp only [wi,aD,bB (show 1<s.length by omega),bB (show 8<s.length by omega),bB (show 9<s.length by omega)]
 simp only [ab,e,S1]
 cases (J2 (wi s)).2<;>cases (J2 (wi s)).1==s.take (aL s 2).toNat<;>rfl
def acv:bw:=(0,0,0,0,0,0,0,([]:Bytes))
def FD (k:Int)(s:Bytes):bw:=(k,aL s 0,aL s 2,bW s 4,bW s 8,(aD s 13:Int),aL s 14,s.drop 20)
def JD (k:Int)(s:Bytes):bw:=(k,aL s 0,aL s 2,0,0,0,0,s.drop 8)
def lq (a b k:Int)(s:Bytes):bw×Bool:=
 bif (k==6)&&decide ((s.length:Int)≥20) then (bif (uZ a b (FD k s)).2&&((uZ a b (FD k s)).1==s) then (FD k s,true) else (acv,false)) else
 bif (k==17)&&decide ((s.length:Int)≥8) then (bif (uZ a b (JD k s)).2&&((uZ a b (JD k s)).1==s) then (JD k s,true) else (acv,false)) else (acv,false)
theorem JL (a b k:Int)(s:Bytes)(h:s.length≤1000000000):kO a b k s=some (lq a b k s):=by
 unfold kO lq
 simp only [kb s _ h,qb s _ h,ab]
 rw [show (aa (cond (k==6) (some (decide ((s.length:Int)≥20))) (some false)):(Bool→Option (bw×Bool))→Option (bw×Bool))=fun K=>K ((k==6)&&decide ((s.length:Int)≥20)) from by funext K;cases k==6<;>rfl]
 rw [show (aa (cond (k==17) (some (decide ((s.length:Int)≥8))) (some false)):(Bool→Option (bw×Bool))→Option (bw×Bool))=fun K=>K ((k==17)&&decide ((s.length:Int)≥8)) from by funext K;cases k==17<;>rfl]
 simp only
 cases h1:(k==6)&&decide ((s.length:Int)≥20) with
 |true=>
  simp only [Bool.and_eq_true,decide_eq_true_eq] at h1
  have bb:=gk (s[13]'(by omega))
  have i:idx s 13=some (s[13]'(by omega)):=ax (i:=13) (by omega)
  have e:(k,aL s 0,aL s 2,bW s 4,bW s 8,((s[13]'(by omega)).toNat:Int),aL s 14,s.drop 20)=FD k s:=by
   simp only [FD,aD,bB (show 13<s.length by omega)]
  simp only [cond_true,i,ab]
  rw [mi (l:=s) 20 (by omega) (show (20:Int)=((20:Nat):Int) from rfl),cA (n:=(s[13]'(by omega)).toNat) (by omega)]
  simp only [ab,e,yc]
  cases (uZ a b (FD k s)).2<;>cases (uZ a b (FD k s)).1==s<;>rfl
 |false=>
  simp only [cond_false]
  cases h2:(k==17)&&decide ((s.length:Int)≥8) with
  |false=>rfl
  |true=>
   simp only [Bool.and_eq_true,decide_eq_true_eq] at h2
   rw [mi (l:=s) 8 (by omega) (show (8:Int)=((8:Nat):Int) from rfl)]
   simp only [cond_true,ab,show ((k,aL s 0,aL s 2,0,0,0,0,s.drop 8):bw)=JD k s from rfl,yc]
   cases (uZ a b (JD k s)).2<;>cases (uZ a b (JD k s)).1==s<;>rfl
theorem I6 (a b k:Int)(s:Bytes)(h:s.length≤1000000000):kA a b k s=some (lq a b k s):=by
 unfold kA lq
 simp only [pZ s _ h,sW s _ h,ab]
 rw [show (aa (cond (k==6) (some (decide ((s.length:Int)≥20))) (some false)):(Bool→Option (bw×Bool))→Option (bw×Bool))=fun K=>K ((k==6)&&decide ((s.length:Int)≥20)) from by funext K;cases k==6<;>rfl]
 rw [show (aa (cond (k==17) (some (decide ((s.length:Int)≥8))) (some false)):(Bool→Option (bw×Bool))→Option (bw×Bool))=fun K=>K ((k==17)&&decide ((s.length:Int)≥8)) from by funext K;cases k==17<;>rfl]
 simp only
 cases h1:(k==6)&&decide ((s.length:Int)≥20) with
 |true=>
  simp only [Bool.and_eq_true,decide_eq_true_eq] at h1
  have bb:=gk (s[13]'(by omega))
  have i:idx s 13=some (s[13]'(by omega)):=ax (i:=13) (by omega)
  have e:(k,aL s 0,aL s 2,bW s 4,bW s 8,((s[13]'(by omega)).toNat:Int),aL s 14,s.drop 20)=FD k s:=by
   simp only [FD,aD,bB (show 13<s.length by omega)]
  simp only [cond_true,i,ab]
  rw [mi (l:=s) 20 (by omega) (show (20:Int)=((20:Nat):Int) from rfl),cA (n:=(s[13]'(by omega)).toNat) (by omega)]
  simp only [ab,e,xN]
  cases (uZ a b (FD k s)).2<;>cases (uZ a b (FD k s)).1==s<;>rfl
 |false=>
  simp only [cond_false]
  cases h2:(k==17)&&decide ((s.length:Int)≥8) with
  |false=>rfl
  |true=>
   simp only [Bool.and_eq_true,decide_eq_true_eq] at h2
   rw [mi (l:=s) 8 (by omega) (show (8:Int)=((8:Nat):Int) from rfl)]
   simp only [cond_true,ab,show ((k,aL s 0,aL s 2,0,0,0,0,s.drop 8):bw)=JD k s from rfl,xN]
   cases (uZ a b (JD k s)).2<;>cases (uZ a b (JD k s)).1==s<;>rfl
def pk0:aC:=(0,0,0,0,0,0,0,0,0,0,0,0,0,0,0,([]:Bytes))
def eM (s:Bytes):aC×Int:=
 let e:=cm s
 bif !e.2||(e.1.2.2.2.1 !=2048) then (pk0,2) else
 let i:=fN e.1.2.2.2.2
 bif !i.2 then (pk0,3) else
 let g:=lq i.1.2.2.2.2.1 i.1.2.2.2.2.2.1 i.1.2.2.2.1 i.1.2.2.2.2.2.2
 bif !g.2 then (pk0,4) else
 bif !cu (e.1.1,e.1.2.1,e.1.2.2.1,i.1.1,i.1.2.1,i.1.2.2.1,i.1.2.2.2.2.1,i.1.2.2.2.2.2.1,g.1) then (pk0,5) else
 ((e.1.1,e.1.2.1,e.1.2.2.1,i.1.1,i.1.2.1,i.1.2.2.1,i.1.2.2.2.2.1,i.1.2.2.2.2.2.1,g.1),0)
theorem wK (s:Bytes):(cm s).1.2.2.2.2.length≤s.length:=by
 unfold cm
 cases decide ((s.length:Int)<18) with|true=>simp [SC]|false=> ?_
 cases aL s 12==33024<;>cases lI (zH s)<;>cases lI (rf s)<;>simp [SC,zH,rf]
theorem CI (s:Bytes):(fN s).1.2.2.2.2.2.2.length≤s.length:=by
 unfold fN
 cases decide ((s.length:Int)<20)||(decide (aL s 2<20)||decide (aL s 2>(s.length:Int))) with|true=>simp [ip0]|false=> ?_
 cases (J2 (wi s)).2&&((J2 (wi s)).1==s.take (aL s 2).toNat) with
 |false=>simp [ip0]
 |true=>simp [wi];omega
theorem Cm (s:Bytes)(h:s.length≤1000000000):dT s=some (eM s):=by
 have h1:=wK s
 unfold dT eM
 rw [JK s h,ab]
 generalize cm s=e at h1⊢
 have h2:=CI e.1.2.2.2.2
 simp only
 cases e.2 with|false=>rfl|true=> ?_
 cases e.1.2.2.2.1 !=2048 with|true=>rfl|false=> ?_
 simp only [Bool.not_true,cond_false,ab,Bool.or_self,Mf _ (show e.1.2.2.2.2.length≤1000000000 by omega)]
 generalize fN e.1.2.2.2.2=i at h2⊢
 cases i.2 with|false=>rfl|true=> ?_
 simp only [Bool.not_true,cond_false,ab,JL _ _ _ _ (show i.1.2.2.2.2.2.2.length≤1000000000 by omega)]
 generalize lq i.1.2.2.2.2.1 i.1.2.2.2.2.2.1 i.1.2.2.2.1 i.1.2.2.2.2.2.2=g
 cases g.2 with|false=>rfl|true=> ?_
 simp only [Bool.not_true,cond_false,ab,s6]
 cases cu (e.1.1,e.1.2.1,e.1.2.2.1,i.1.1,i.1.2.1,i.1.2.2.1,i.1.2.2.2.2.1,i.1.2.2.2.2.2.1,g.1)<;>rfl
theorem BO (s:Bytes)(h:s.length≤1000000000):dQ s=some (eM s):=by
 have h1:=wK s
 unfold dQ eM
 rw [AA s h,ab]
 generalize cm s=e at h1⊢
 have h2:=CI e.1.2.2.2.2
 simp only
 cases e.2 with|false=>rfl|true=> ?_
 cases e.1.2.2.2.1 !=2048 with|true=>rfl|false=> ?_
 simp only [Bool.not_true,cond_false,ab,Bool.or_self,Lk _ (show e.1.2.2.2.2.length≤1000000000 by omega)]
 generalize fN e.1.2.2.2.2=i at h2⊢
 cases i.2 with|false=>rfl|true=> ?_
 simp only [Bool.not_true,cond_false,ab,I6 _ _ _ _ (show i.1.2.2.2.2.2.2.length≤1000000000 by omega)]
 generalize lq i.1.2.2.2.2.1 i.1.2.2.2.2.2.1 i.1.2.2.2.1 i.1.2.2.2.2.2.2=g
 cases g.2 with|false=>rfl|true=> ?_
 simp only [Bool.not_true,cond_false,ab,sX]
 cases cu (e.1.1,e.1.2.1,e.1.2.2.1,i.1.1,i.1.2.1,i.1.2.2.1,i.1.2.2.2.2.1,i.1.2.2.2.2.2.1,g.1)<;>rfl
end
end Go.Pu
end
section
namespace Go.Pu
open Go.Dn
set_option linter.unusedSimpArgs false
noncomputable section
end
end Go.Pu
end
section
namespace Go.Pu
open Go.Dn
set_option linter.unusedSimpArgs false
set_option linter.unusedVariables false
noncomputable section
theorem CZ (l:List Bytes)(h:l.length≤1000000000):fw l=some l:=by
 simp only [fw,cz h,List.nil_append]
theorem EU (f:Filter)(h:f.2.2.length≤1000000000):nd f=some f:=by
 simp only [nd,kV _ h,ab]
theorem FG (f:Filter)(h:f.2.2.length≤1000000000):sQ f=some f:=by
 simp only [sQ,cz h,List.nil_append]
theorem rT (l:List Stream)(h:l.length≤1000000000):fu l=some l:=by
 simp only [fu,cz h,List.nil_append]
theorem Gs (t:List Slot)(h:t.length≤1000000000):oI t=some t:=by
 simp only [oI,cz h,List.nil_append]
theorem EV (s:fU)(h:s.2.length≤1000000000):nf s=some s:=by
 simp only [nf,kV _ h,ab]
theorem Gr (s:cd)(h1:s.1.length≤1000000000)(h2:s.2.1.length≤1000000000)(h3:s.2.2.2.length≤1000000000):kE s=some s:=by
 simp only [kE,cz h1,Gs _ h2,EV _ h3,ab,List.nil_append]
theorem GH (t:List Slot)(h:t.length≤1000000000):sL t=some t:=by
 simp only [sL,cz h,List.nil_append]
theorem GG (s:cd)(h1:s.1.length≤1000000000)(h2:s.2.1.length≤1000000000)(h3:s.2.2.2.length≤1000000000):sN s=some s:=by
 simp only [sN,cz h1,GH _ h2,cz h3,ab,List.nil_append]
theorem Hw (l:List cy)(i:Nat)(hi:i<l.length):l.take i++[(l[i].1,l[i].2.1,l[i].2.2)]=l.take (i+1):=(List.take_succ_eq_append_getElem hi).symm
theorem Ax (l:List cy)(h:l.length≤1000000000)(hx:∀x∈l,x.2.2.length≤1000000000):mH l=some l:=by
 unfold mH
 refine (bz (fun i=>(l.take i,(i:Int))) l.length (by omega) (fun i nx hi=> ?_) (fun nx=> ?_))
 ·simp only [lT]
  rw [decide_eq_true (by omega),ax hi,wrap64 (by omega) (by omega)]
  simp only [cond_true,ab,kV _ (hx _ (List.getElem_mem hi))]
  rw [ao (by simp;omega),Hw l i hi];rfl
 ·simp only [lT]
  rw [decide_eq_false (by omega),List.take_length];rfl
structure Yw (t:aZ):Prop where
 p:t.2.1.2.2.2.length≤1000000000
 w:t.2.2.1.length≤1000000000
 x:∀x∈t.2.2.1,x.2.2.length≤1000000000
theorem EW (t:aZ)(z:Yw t):rl t=some t:=by
 simp only [rl,re _ z.p,Ax _ z.w z.x,ab]
theorem FI (t:aZ)(z:Yw t):pP t=some t:=by
 have h:=z.w
 unfold pP
 simp only [tt _ z.p,ab]
 refine (bz (fun i=>((i:Int),t.1,t.2.1,t.2.2.1.take i,t.2.2.2)) t.2.2.1.length (by omega) (fun i nx hi=> ?_) (fun nx=> ?_))
 ·simp only [nG]
  rw [decide_eq_true (by omega),ax hi,wrap64 (by omega) (by omega)]
  simp only [cond_true,ab,cz (z.x _ (List.getElem_mem hi)),List.nil_append]
  rw [ao (by simp;omega),Hw _ i hi];rfl
 ·simp only [nG]
  rw [decide_eq_false (by omega),List.take_length];rfl
theorem Xv {h:Host}(z:aK 1000000000 bf h):Yw h.2.2.1:=⟨z.2.2.1.2.1.2.2.2.1,z.2.2.1.2.2.1.1,fun x hx=>(z.2.2.1.2.2.1.2 x hx).2.2.1⟩
theorem ou (h:Host)(z:aK 1000000000 bf h):ff h=some h:=by
 have hp:h.2.2.2.2.1.length≤1000000000:=z.2.2.2.2.1.1
 have hm:h.1.length≤1000000000:=z.1.1
 unfold ff
 simp only [fc _ (show h.1.length≤1073741824 by omega),oH,cz z.2.1.1,EW _ (Xv z),cz z.2.2.2.1.1,ab,List.nil_append]
 refine (bz (fun i=>((i:Int),h.1,h.2.1,h.2.2.1,h.2.2.2.1,h.2.2.2.2.1.take i,h.2.2.2.2.2)) h.2.2.2.2.1.length (by omega) (fun i nx hi=> ?_) (fun nx=> ?_))
 ·simp only [lS]
  rw [decide_eq_true (by omega),ax hi,wrap64 (by omega) (by omega)]
  simp only [cond_true,ab,re _ (z.2.2.2.2.1.2 _ (List.getElem_mem hi)).2.2.2.1]
  rw [ao (by simp;omega),←List.take_succ_eq_append_getElem hi];rfl
 ·simp only [lS]
  rw [decide_eq_false (by omega),List.take_length]
  simp only [cond_false,cz z.2.2.2.2.2.1.1,cz z.2.2.2.2.2.2.1.1,EU _ z.2.2.2.2.2.2.2.1.2.2.1,Gr _ z.2.2.2.2.2.2.2.2.1.1.1 z.2.2.2.2.2.2.2.2.1.2.1.1 z.2.2.2.2.2.2.2.2.1.2.2.2.1,
   rT _ z.2.2.2.2.2.2.2.2.2.1.1,CZ _ z.2.2.2.2.2.2.2.2.2.2.2.1.1,kV _ z.2.2.2.2.2.2.2.2.2.2.2.2.1.1,kV _ z.2.2.2.2.2.2.2.2.2.2.2.2.2.1.1,ab,List.nil_append]
theorem pB (h:Host)(z:aK 1000000000 bf h):gL h=some h:=by
 have hp:h.2.2.2.2.1.length≤1000000000:=z.2.2.2.2.1.1
 have hm:h.1.length≤1000000000:=z.1.1
 unfold gL
 simp only [jm _ (show h.1.length≤1073741824 by omega),cz z.2.1.1,FI _ (Xv z),cz z.2.2.2.1.1,ab,List.nil_append]
 refine (bz (fun i=>((i:Int),h.1,h.2.1,h.2.2.1,h.2.2.2.1,h.2.2.2.2.1.take i,h.2.2.2.2.2)) h.2.2.2.2.1.length (by omega) (fun i nx hi=> ?_) (fun nx=> ?_))
 ·simp only [nH]
  rw [decide_eq_true (by omega),ax hi,wrap64 (by omega) (by omega)]
  simp only [cond_true,ab,tt _ (z.2.2.2.2.1.2 _ (List.getElem_mem hi)).2.2.2.1]
  rw [ao (by simp;omega),←List.take_succ_eq_append_getElem hi];rfl
 ·simp only [nH]
  rw [decide_eq_false (by omega),List.take_length]
  simp only [cond_false,cz z.2.2.2.2.2.1.1,cz z.2.2.2.2.2.2.1.1,FG _ z.2.2.2.2.2.2.2.1.2.2.1,GG _ z.2.2.2.2.2.2.2.2.1.1.1 z.2.2.2.2.2.2.2.2.1.2.1.1 z.2.2.2.2.2.2.2.2.1.2.2.2.1,
   cz z.2.2.2.2.2.2.2.2.2.1.1,cz z.2.2.2.2.2.2.2.2.2.2.2.1.1,cz z.2.2.2.2.2.2.2.2.2.2.2.2.1.1,cz z.2.2.2.2.2.2.2.2.2.2.2.2.2.1.1,ab,List.nil_append]
theorem OP:∀l:List cy,(aP l).length≤kR (.sl bJ) l
 |[]=>by simp [aP]
 |x::l=>by
  have:=OP l
  simp only [aP,kR,List.flatMap_cons,List.length_append,List.map_cons,List.sum_cons,List.length_cons] at this⊢
  omega
end
end Go.Pu
end
section
namespace Go.Pu
open Go.Dn
end Go.Pu
end
section
namespace Go.Pu
open Go.Dn
set_option linter.unusedSimpArgs false
set_option linter.unusedVariables false
noncomputable section
def VT (f:Int×Int×Int×Int×Int)(s:Stream):Bool:=decide (s.1=f)
def Da (l:List Stream)(f:Int×Int×Int×Int×Int):Int:=match l.findIdx? (VT f) with|some i=>(i:Int)|none=> -1
theorem Ub (l:List Stream)(f:Int×Int×Int×Int×Int)(h:l.length≤1000000000):ma l f=some (Da l f):=by
 unfold ma Da
 rw [yw (p:=VT f) (hit:=fun i=>some i) (fin:=some (-1)) l (by omega) (fun i hi nx=> ?hs) (fun nx=> ?hf)]
 case hs=>
  simp only [ie]
  rw [decide_eq_true (by omega),ax hi,wrap64 (by omega) (by omega)]
  simp only [cond_true,ab,Av,VT];rfl
 case hf=>
  simp only [ie]
  rw [decide_eq_false (by omega)];rfl
 cases l.findIdx? (VT f)<;>rfl
theorem Ta (l:List Stream)(f:Int×Int×Int×Int×Int)(h:l.length≤1000000000):lN l f=some (Da l f):=by
 unfold lN Da
 rw [yw (p:=VT f) (hit:=fun i=>some i) (fin:=some (-1)) l (by omega) (fun i hi nx=> ?hs) (fun nx=> ?hf)]
 case hs=>
  simp only [g9]
  rw [decide_eq_true (by omega),ax hi,wrap64 (by omega) (by omega)]
  simp only [cond_true,ab,Av,VT];rfl
 case hf=>
  simp only [g9]
  rw [decide_eq_false (by omega)];rfl
 cases l.findIdx? (VT f)<;>rfl
def Oy:Stream:=((0,0,0,0,0),0,([]:Bytes),false)
def body (p:aC):Bytes:=p.2.2.2.2.2.2.2.2.2.2.2.2.2.2.2
def udp (p:aC):Bytes:=aF ((body p).length:Int)++body p
def rN (p:aC)(b:Int):Bool:=IntKind.wrap .i64 (BitVec.toNat (BitVec.ofInt (IntKind.bits .i64) p.2.2.2.2.2.2.2.2.2.2.2.2.2.1&&&BitVec.ofInt (IntKind.bits .i64) b)) !=0
def kU (s:Stream)(p:aC):Int:=(s.2.1-p.2.2.2.2.2.2.2.2.2.2.2.1)%4294967296
def Xg (s:Stream)(p:aC):Stream:=(s.1,(s.2.1+((body p).length:Int)-kU s p)%4294967296,s.2.2.1++(body p).drop (kU s p).toNat,rN p 1)
def tc (l:List Stream)(p:aC):List Stream:=
 bif !cu p then l else
 match l.findIdx? (VT (mn p)) with
 |none=>
  bif p.2.2.2.2.2.2.2.2.1==17 then l++[(mn p,0,udp p,false)] else
  bif rN p 2 then l++[(mn p,Int.tmod (IntKind.wrap .i64 (p.2.2.2.2.2.2.2.2.2.2.2.1+1)) 4294967296,([]:Bytes),false)] else l
 |some i=>
  bif p.2.2.2.2.2.2.2.2.1==17 then l.set i ((l.getD i Oy).1,(l.getD i Oy).2.1,(l.getD i Oy).2.2.1++udp p,(l.getD i Oy).2.2.2) else
  bif rN p 2 then l else
  bif (l.getD i Oy).2.2.2||rN p 4 then l else
  bif decide (kU (l.getD i Oy) p≤((body p).length:Int)) then l.set i (Xg (l.getD i Oy) p) else l
theorem J5 (s:Stream)(p:aC):0≤kU s p∧kU s p<4294967296:=by unfold kU;omega
theorem Tn (x:Int):IntKind.wrap .i64 (BitVec.toNat (BitVec.ofInt (IntKind.bits .i64) x&&&BitVec.ofInt (IntKind.bits .i64) 4294967295))=x%4294967296:=by
 have:=u6 x 32 (by omega)
 rw [show ((2:Int)^32-1)=4294967295 from rfl,show ((2:Int)^32)=4294967296 from rfl] at this
 rw [this,wrap64 (by omega) (by omega)]
theorem VS (x:Int):IntKind.wrap .i64 x%4294967296=x%4294967296:=by
 have:=vJ x 32 (by omega)
 rwa [show ((2:Int)^32)=4294967296 from rfl] at this
theorem AZ {α:Type}(l:List α)(x y:α):(l++[x]).set l.length y=l++[y]:=by
 rw [List.set_append_right _ _ (Nat.le_refl _),Nat.sub_self,List.set_cons_zero]
theorem Pp {α:Type}{l:List α}{i:Nat}(h:i<l.length)(x:α):idx (l.set i x) (i:Int)=some x:=by
 rw [Di,List.getElem?_set_self h]
theorem sj {α:Type}(l:List α)(x:α):idx (l++[x]) (l.length:Int)=some x:=by
 rw [Di,List.getElem?_append_right (Nat.le_refl _),Nat.sub_self];rfl
theorem DL {p:aC}(h:cu p=true):(body p).length≤320:=w5 h
theorem I3 (l:List Stream)(p:aC)(h:aK 900000000 (.sl aE) l):sm l p=some (tc l p):=by
 have hl:l.length≤900000000:=h.1
 unfold sm tc
 simp only [rT l (by omega),sX,ab,Li,Ta l _ (show l.length≤1000000000 by omega),fB]
 cases hs:cu p with|false=>rfl|true=> ?_
 have hb:=DL hs
 have hw:=aA ((body p).length:Int)
 simp only [Bool.not_true,cond_false]
 rw [show p.2.2.2.2.2.2.2.2.2.2.2.2.2.2.2=body p from rfl]
 cases hf:l.findIdx? (VT (mn p)) with
 |none=>
  have e1:Da l (mn p)= -1:=by rw [Da,hf]
  simp only [e1,show decide ((-1:Int)<0)=true from rfl,cond_true]
  cases p.2.2.2.2.2.2.2.2.1==17 with
  |true=>
   simp only [cond_true]
   rw [ao (by simp;omega),sj,ab]
   simp only
   rw [ao (by omega),ao (by simp only [List.length_append,List.length_nil];omega),ab,Int.toNat_natCast]
   simp only [ab,sj,AZ,List.nil_append];rfl
  |false=>
   simp only [cond_false]
   rw [show (IntKind.wrap .i64 (BitVec.toNat (BitVec.ofInt (IntKind.bits .i64) p.2.2.2.2.2.2.2.2.2.2.2.2.2.1&&&BitVec.ofInt (IntKind.bits .i64) 2)) !=0)=rN p 2 from rfl]
   cases rN p 2 with
   |true=>
    simp only [cond_true]
    rw [if_neg (by omega),ao (by simp;omega)]
   |false=>rfl
 |some i=>
  obtain ⟨hi,_⟩:=List.findIdx?_eq_some_iff_getElem.1 hf
  have hd:(l[i].2.2.1).length≤900000000:=(h.2 _ (List.getElem_mem hi)).2.2.1
  have e1:Da l (mn p)=(i:Int):=by rw [Da,hf]
  simp only [e1,decide_eq_false (show¬(i:Int)<0 by omega),cond_false,ax hi,ab,bB hi,Int.toNat_natCast]
  cases p.2.2.2.2.2.2.2.2.1==17 with
  |true=>
   simp only [cond_true]
   rw [ao (by omega),ao (by simp only [List.length_append];omega)];rfl
  |false=>
   simp only [cond_false]
   rw [show (IntKind.wrap .i64 (BitVec.toNat (BitVec.ofInt (IntKind.bits .i64) p.2.2.2.2.2.2.2.2.2.2.2.2.2.1&&&BitVec.ofInt (IntKind.bits .i64) 2)) !=0)=rN p 2 from rfl,
    show (IntKind.wrap .i64 (BitVec.toNat (BitVec.ofInt (IntKind.bits .i64) p.2.2.2.2.2.2.2.2.2.2.2.2.2.1&&&BitVec.ofInt (IntKind.bits .i64) 4)) !=0)=rN p 4 from rfl,
    show (IntKind.wrap .i64 (BitVec.toNat (BitVec.ofInt (IntKind.bits .i64) p.2.2.2.2.2.2.2.2.2.2.2.2.2.1&&&BitVec.ofInt (IntKind.bits .i64) 1)) !=0)=rN p 1 from rfl]
   cases rN p 2 with|true=>rfl|false=> ?_
   simp only [cond_false]
   rw [show (aa (cond l[i].2.2.2 (some true) (some (rN p 4))):(Bool→Option (List Stream))→Option (List Stream))=fun K=>K (l[i].2.2.2||rN p 4) from by funext K;cases l[i].2.2.2<;>rfl]
   simp only
   cases l[i].2.2.2||rN p 4 with|true=>rfl|false=> ?_
   simp only [cond_false,BZ _ 4294967296 (by omega) (by omega),ab,VS]
   rw [show (l[i].2.1-p.2.2.2.2.2.2.2.2.2.2.2.1)%4294967296=kU l[i] p from rfl]
   have ha:=J5 l[i] p
   by_cases hq:kU l[i] p≤((body p).length:Int)
   ·rw [decide_eq_true hq,mi (l:=body p) (kU l[i] p).toNat (by omega) (by omega)]
    simp only [cond_true,ab]
    rw [ao (by rw [List.length_drop];omega)]
    simp only [Pp hi,ab,List.set_set]
    refine congrArg some (congrArg (l.set i) ?_)
    simp only [Xg]
    rw [show (IntKind.wrap .i64 (l[i].2.1+((body p).length:Int))-kU l[i] p)%4294967296=(l[i].2.1+((body p).length:Int)-kU l[i] p)%4294967296 from by
     rw [Int.sub_emod,VS,←Int.sub_emod]]
   ·rw [decide_eq_false hq];rfl
theorem JG (l:List Stream)(p:aC)(h:aK 900000000 (.sl aE) l):sC l p=some (tc l p):=by
 have hl:l.length≤900000000:=h.1
 unfold sC tc
 rw [cz (by omega)]
 simp only [List.nil_append,s6,ab,Md,Ub l _ (show l.length≤1000000000 by omega),dw]
 cases hs:cu p with|false=>rfl|true=> ?_
 have hb:=DL hs
 have hw:=aA ((body p).length:Int)
 simp only [Bool.not_true,cond_false]
 rw [show p.2.2.2.2.2.2.2.2.2.2.2.2.2.2.2=body p from rfl]
 cases hf:l.findIdx? (VT (mn p)) with
 |none=>
  have e1:Da l (mn p)= -1:=by rw [Da,hf]
  simp only [e1,show decide ((-1:Int)<0)=true from rfl,cond_true]
  cases p.2.2.2.2.2.2.2.2.1==17 with
  |true=>
   simp only [cond_true]
   rw [ao (by simp;omega),sj,ab]
   simp only
   rw [ao (by simp only [List.length_nil];omega),ao (by simp only [List.length_append,List.length_nil];omega),ab,Int.toNat_natCast]
   simp only [ab,sj,AZ,List.nil_append];rfl
  |false=>
   simp only [cond_false]
   rw [show (IntKind.wrap .i64 (BitVec.toNat (BitVec.ofInt (IntKind.bits .i64) p.2.2.2.2.2.2.2.2.2.2.2.2.2.1&&&BitVec.ofInt (IntKind.bits .i64) 2)) !=0)=rN p 2 from rfl]
   cases rN p 2 with
   |true=>
    simp only [cond_true]
    rw [if_neg (by omega),ao (by simp;omega)]
   |false=>rfl
 |some i=>
  obtain ⟨hi,_⟩:=List.findIdx?_eq_some_iff_getElem.1 hf
  have hd:(l[i].2.2.1).length≤900000000:=(h.2 _ (List.getElem_mem hi)).2.2.1
  have e1:Da l (mn p)=(i:Int):=by rw [Da,hf]
  simp only [e1,decide_eq_false (show¬(i:Int)<0 by omega),cond_false,ax hi,ab,bB hi,Int.toNat_natCast]
  cases p.2.2.2.2.2.2.2.2.1==17 with
  |true=>
   simp only [cond_true]
   rw [ao (by omega),ao (by simp only [List.length_append];omega),List.append_assoc];rfl
  |false=>
   simp only [cond_false]
   rw [show (IntKind.wrap .i64 (BitVec.toNat (BitVec.ofInt (IntKind.bits .i64) p.2.2.2.2.2.2.2.2.2.2.2.2.2.1&&&BitVec.ofInt (IntKind.bits .i64) 2)) !=0)=rN p 2 from rfl,
    show (IntKind.wrap .i64 (BitVec.toNat (BitVec.ofInt (IntKind.bits .i64) p.2.2.2.2.2.2.2.2.2.2.2.2.2.1&&&BitVec.ofInt (IntKind.bits .i64) 4)) !=0)=rN p 4 from rfl,
    show (IntKind.wrap .i64 (BitVec.toNat (BitVec.ofInt (IntKind.bits .i64) p.2.2.2.2.2.2.2.2.2.2.2.2.2.1&&&BitVec.ofInt (IntKind.bits .i64) 1)) !=0)=rN p 1 from rfl]
   cases rN p 2 with|true=>rfl|false=> ?_
   simp only [cond_false]
   rw [show (aa (cond l[i].2.2.2 (some true) (some (rN p 4))):(Bool→Option (List Stream))→Option (List Stream))=fun K=>K (l[i].2.2.2||rN p 4) from by funext K;cases l[i].2.2.2<;>rfl]
   simp only
   cases l[i].2.2.2||rN p 4 with|true=>rfl|false=> ?_
   simp only [cond_false,Tn,ab,VS]
   rw [show (l[i].2.1-p.2.2.2.2.2.2.2.2.2.2.2.1)%4294967296=kU l[i] p from rfl]
   have ha:=J5 l[i] p
   by_cases hq:kU l[i] p≤((body p).length:Int)
   ·rw [decide_eq_true hq,mi (l:=body p) (kU l[i] p).toNat (by omega) (by omega)]
    simp only [cond_true,ab]
    rw [ao (by rw [List.length_drop];omega)]
    simp only [Pp hi,ab,List.set_set,if_neg (show¬(4294967296:Nat)=0 by omega)]
    refine congrArg some (congrArg (l.set i) ?_)
    simp only [Xg]
    have e:Int.tmod (IntKind.wrap .i64 (IntKind.wrap .i64 (l[i].2.1%4294967296+((body p).length:Int))-kU l[i] p)) 4294967296=(l[i].2.1+((body p).length:Int)-kU l[i] p)%4294967296:=by
     rw [wrap64 (n:=l[i].2.1%4294967296+((body p).length:Int)) (by omega) (by omega),wrap64 (by omega) (by omega),Int.tmod_eq_emod_of_nonneg (by omega)]
     omega
    rw [e]
   ·rw [decide_eq_false hq];rfl
theorem IP {l:List Stream}{p:aC}{n:Nat}(h:aK n (.sl aE) l):aK (n+322) (.sl aE) (tc l p):=by
 have h':aK (n+322) (.sl aE) l:=h.mono (by omega)
 unfold tc
 cases hs:cu p with|false=>exact h'|true=> ?_
 have hb:=DL hs
 have hw:=aA ((body p).length:Int)
 have hu:(udp p).length≤322:=by simp only [udp,List.length_append];omega
 simp only [Bool.not_true,cond_false]
 have app:∀x:Stream,x.2.2.1.length≤n+322→aK (n+322) (.sl aE) (l++[x]):=by
  intro x hx
  refine ⟨?_,fun y hy=> ?_⟩
  ·have:l.length≤n:=h.1
   simp only [List.length_append,List.length_singleton];omega
  ·rcases List.mem_append.1 hy with g|g
   ·exact h'.2 y g
   ·rw [List.mem_singleton.1 g];exact ⟨⟨trivial,trivial,trivial,trivial,trivial⟩,trivial,hx,trivial⟩
 have put:∀(i:Nat)(x:Stream),x.2.2.1.length≤n+322→aK (n+322) (.sl aE) (l.set i x):=by
  intro i x hx
  refine ⟨?_,fun y hy=> ?_⟩
  ·show (l.set i x).length≤_
   rw [List.length_set];exact h'.1
  ·rcases List.mem_or_eq_of_mem_set hy with g|rfl
   ·exact h'.2 y g
   ·exact ⟨⟨trivial,trivial,trivial,trivial,trivial⟩,trivial,hx,trivial⟩
 split
 ·cases p.2.2.2.2.2.2.2.2.1==17 with
  |true=>exact app _ (show (udp p).length≤_ by omega)
  |false=>
   cases rN p 2 with
   |true=>exact app _ (Nat.zero_le _)
   |false=>exact h'
 ·rename_i i hf
  obtain ⟨hi,_⟩:=List.findIdx?_eq_some_iff_getElem.1 hf
  have hd:(l[i].2.2.1).length≤n:=(h.2 _ (List.getElem_mem hi)).2.2.1
  simp only [bB hi]
  cases p.2.2.2.2.2.2.2.2.1==17 with
  |true=>exact put _ _ (by simp only [List.length_append];omega)
  |false=>
   cases rN p 2 with|true=>exact h'|false=> ?_
   cases l[i].2.2.2||rN p 4 with|true=>exact h'|false=> ?_
   cases decide (kU l[i] p≤((body p).length:Int)) with
   |false=>exact h'
   |true=>exact put _ _ (by simp only [Xg,List.length_append,List.length_drop];omega)
end
end Go.Pu
end
section
namespace Go.Pu
open Go.Dn
set_option linter.unusedSimpArgs false
set_option linter.unusedVariables false
noncomputable section
theorem OO (p:aV)(i:Int):s9 p i= -1∨(0≤s9 p i∧s9 p i≤200000):=by
 unfold s9
 cases hp:du p with|false=>exact .inl rfl|true=> ?_
 cases hi:bp i 0 (p.2.2.1-1) with|false=>exact .inl rfl|true=> ?_
 have h:=Dl hp
 have h2:=aQ.1 hi
 have h3:0≤i*p.2.1:=Int.mul_nonneg h2.1 (by omega)
 have h4:i*p.2.1≤16*512:=Int.mul_le_mul (by omega) (by omega) (by omega) (by omega)
 simp only [Bool.not_true,Bool.or_self,cond_false]
 exact .inr (by omega)
def Qy (l:List ae)(m:List Bytes)(d a n:Int):Bool:=(il l m d a n).2&&((eM (il l m d a n).1).2==0)
theorem Wq {l:List ae}{m:List Bytes}{d n:Int}:Qy l m d (-1) n=false:=by
 unfold Qy il gD
 cases cD l&&(cR m&&bp n 0 4096) with|false=>rfl|true=> ?_
 simp only [cond_true]
 cases n==0 with
 |true=>simp only [cond_true,List.flatMap_nil];rfl
 |false=>rfl
def vy (l:List ae)(m:List Bytes)(d:Int)(s:List Stream×aw×aV):List Stream×aw×aV:=
 ((bif Qy l m d (s9 s.2.2 (mT l m d s.2.1.2.2.1).1.1) (mT l m d s.2.1.2.2.1).1.2.1 then tc s.1 (eM (il l m d (s9 s.2.2 (mT l m d s.2.1.2.2.1).1.1) (mT l m d s.2.1.2.2.1).1.2.1).1).1 else s.1),
   (s.2.1.1,s.2.1.2.1,(mT l m d s.2.1.2.2.1).2.1,s.2.1.2.2.2),(BJ s.2.2 [(mT l m d s.2.1.2.2.1).1.1]).1)
def dy (l:List ae)(m:List Bytes)(d:Int):Nat→List Stream×aw×aV→Nat×(List Stream×aw×aV)
 |0,s=>(0,s)
 |k+1,s=>bif !(mT l m d s.2.1.2.2.1).2.2 then (0,s) else ((dy l m d k (vy l m d s)).1+1,(dy l m d k (vy l m d s)).2)
structure xA (n:Nat) (s:List Stream×aw×aV):Prop where
 st:aK n (.sl aE) s.1
 pl:s.2.2.2.2.2.length≤n
theorem K4 (p:aV)(l:List Int):(BJ p l).1.2.2.2.length≤p.2.2.2.length+l.length:=by
 unfold BJ
 cases xJ p l with
 |false=>show p.2.2.2.length≤_;omega
 |true=>simp [Jq]
theorem xU {l:List ae}{m:List Bytes}{d:Int}{s:List Stream×aw×aV}{n:Nat}(h:xA n s):xA (n+322) (vy l m d s):=by
 refine ⟨?_, ?_⟩
 ·unfold vy
  cases Qy l m d (s9 s.2.2 (mT l m d s.2.1.2.2.1).1.1) (mT l m d s.2.1.2.2.1).1.2.1 with
  |false=>exact h.st.mono (by omega)
  |true=>exact IP h.st
 ·have:=K4 s.2.2 [(mT l m d s.2.1.2.2.1).1.1]
  have h2:=h.pl
  show (BJ s.2.2 [(mT l m d s.2.1.2.2.1).1.1]).1.2.2.2.length≤_
  simp only [List.length_singleton] at this;omega
theorem AB {R:Type}(K:List Stream→Int→aw→aV→Option R)(l:List ae)(m:List Bytes)(d:Int)(N:Nat)(hN:N≤1000)(B1:List Bytes)(B2:aw)(B3:aV)(hl:l.length≤1000000000)(hm:m.length≤1000000000):∀(k i:Nat)(s:List Stream×aw×aV)(f:Nat),i+k=N→k<f→xA (500000000+322*i) s→
 aq (gy K l d (N:Int) B1 B2 B3 m) f (s.1,(i:Int),s.2.1,s.2.2)=K (dy l m d k s).2.1 ((i+(dy l m d k s).1:Nat):Int) (dy l m d k s).2.2.1 (dy l m d k s).2.2.2
 |k,i,s,0,_,hf,_=>by omega
 |0,i,s,f+1,hi,hf,z=>by
  rw [aq]
  simp only [gy]
  rw [decide_eq_false (by omega),cond_false];rfl
 |k+1,i,s,f+1,hi,hf,z=>by
  have hst:aK 900000000 (.sl aE) s.1:=z.st.mono (by omega)
  have hpl:s.2.2.2.2.2.length≤900000000:=Nat.le_trans z.pl (by omega)
  rw [aq]
  simp only [gy]
  rw [decide_eq_true (by omega)]
  simp only [cond_true,S3 l m d _ hl hm,ab,dy]
  cases hnx:(mT l m d s.2.1.2.2.1).2.2 with
  |false=>rfl
  |true=>
   have key:=AB K l m d N hN B1 B2 B3 hl hm k (i+1) (vy l m d s) f (by omega) (by omega) ((xU z).st.mono (by omega)|>fun a=>⟨a,Nat.le_trans (xU z).pl (by omega)⟩)
   rw [show i+1+(dy l m d k (vy l m d s)).1=i+((dy l m d k (vy l m d s)).1+1) by omega] at key
   simp only [Bool.not_true,cond_false]
   rw [←key]
   unfold vy
   generalize mT l m d s.2.1.2.2.1=c
   have ha:=OO s.2.2 c.1.1
   have hd:=xF l m d (s9 s.2.2 c.1.1) c.1.2.1
   simp only [Ld _ _ (show s.2.2.2.2.2.length≤1000000000 by omega),uw l m d _ c.1.2.1 hl hm (show s9 s.2.2 c.1.1≤9223372036854775807 by omega),ab,BO _ (Nat.le_trans hd (by omega)),I3 _ _ hst,EX s.2.2 [c.1.1] (show s.2.2.2.2.2.length+1≤1000000000 by omega)]
   rw [wrap64 (n:=(i:Int)+1) (by omega) (by omega),show ((i+1:Nat):Int)=(i:Int)+1 by omega]
   unfold Qy
   cases (il l m d (s9 s.2.2 c.1.1) c.1.2.1).2<;>cases (eM (il l m d (s9 s.2.2 c.1.1) c.1.2.1).1).2==0<;>rfl
theorem Bg {R:Type}(K:List Stream→Int→aw→aV→Option R)(l:List ae)(m:List Bytes)(d:Int)(N:Nat)(hN:N≤1000)(B1:List Bytes)(B2:aw)(B3:aV)(hl:l.length≤1000000000)(hm:m.length≤1000000000):∀(k i:Nat)(s:List Stream×aw×aV)(f:Nat),i+k=N→k<f→xA (500000000+322*i) s→
 aq (gJ K l d (N:Int) m B1 B2 B3) f (s.1,(i:Int),s.2.1,s.2.2)=K (dy l m d k s).2.1 ((i+(dy l m d k s).1:Nat):Int) (dy l m d k s).2.2.1 (dy l m d k s).2.2.2
 |k,i,s,0,_,hf,_=>by omega
 |0,i,s,f+1,hi,hf,z=>by
  rw [aq]
  simp only [gJ]
  rw [decide_eq_false (by omega),cond_false];rfl
 |k+1,i,s,f+1,hi,hf,z=>by
  have hst:aK 900000000 (.sl aE) s.1:=z.st.mono (by omega)
  have hpl:s.2.2.2.2.2.length≤900000000:=Nat.le_trans z.pl (by omega)
  rw [aq]
  simp only [gJ]
  rw [decide_eq_true (by omega)]
  simp only [cond_true,T4 l m d _ hl hm,ab,dy]
  cases hnx:(mT l m d s.2.1.2.2.1).2.2 with
  |false=>rfl
  |true=>
   have key:=Bg K l m d N hN B1 B2 B3 hl hm k (i+1) (vy l m d s) f (by omega) (by omega) ((xU z).st.mono (by omega)|>fun a=>⟨a,Nat.le_trans (xU z).pl (by omega)⟩)
   rw [show i+1+(dy l m d k (vy l m d s)).1=i+((dy l m d k (vy l m d s)).1+1) by omega] at key
   simp only [Bool.not_true,cond_false]
   rw [←key]
   unfold vy
   generalize mT l m d s.2.1.2.2.1=c
   have ha:=OO s.2.2 c.1.1
   have hd:=xF l m d (s9 s.2.2 c.1.1) c.1.2.1
   simp only [Mc _ _ (show s.2.2.2.2.2.length≤1000000000 by omega),rH l m d _ c.1.2.1 hl hm (show s9 s.2.2 c.1.1≤9223372036854775807 by omega),ab,Cm _ (Nat.le_trans hd (by omega)),JG _ _ hst,FL s.2.2 [c.1.1] (show s.2.2.2.2.2.length+1≤1000000000 by omega)]
   rw [wrap64 (n:=(i:Int)+1) (by omega) (by omega),show ((i+1:Nat):Int)=(i:Int)+1 by omega]
   rcases ha with ha|ha
   ·rw [ha,Wq];rfl
   ·rw [decide_eq_true (show s9 s.2.2 c.1.1≥0 by omega)]
    unfold Qy
    cases (il l m d (s9 s.2.2 c.1.1) c.1.2.1).2<;>cases (eM (il l m d (s9 s.2.2 c.1.1) c.1.2.1).1).2==0<;>rfl
theorem AU {l:List ae}{m:List Bytes}{d:Int}:∀(k:Nat){s:List Stream×aw×aV}{n:Nat},xA n s→xA (n+322*k) (dy l m d k s).2
 |0,s,n,h=>h
 |k+1,s,n,h=>by
  rw [dy]
  cases (mT l m d s.2.1.2.2.1).2.2 with
  |false=>exact ⟨h.st.mono (by omega),Nat.le_trans h.pl (by omega)⟩
  |true=>
   have:=AU (l:=l) (m:=m) (d:=d) k (xU (l:=l) (m:=m) (d:=d) h)
   exact ⟨this.st.mono (by omega),Nat.le_trans this.pl (by omega)⟩
def iH (l:List ae)(m:List Bytes)(d:Int)(rx:aw)(pl:aV)(st:List Stream)(n:Int):List Bytes×aw×aV×List Stream×Int:=
 bif !GD rx||(!du pl|| !bp n 0 1000) then (m,rx,pl,st,0) else
 ((uq l m d (dy l m d n.toNat (st,rx,pl)).2.2.1.1 (dy l m d n.toNat (st,rx,pl)).2.2.2).1,
   ((uq l m d (dy l m d n.toNat (st,rx,pl)).2.2.1.1 (dy l m d n.toNat (st,rx,pl)).2.2.2).2.1,(dy l m d n.toNat (st,rx,pl)).2.2.1.2),
   (uq l m d (dy l m d n.toNat (st,rx,pl)).2.2.1.1 (dy l m d n.toNat (st,rx,pl)).2.2.2).2.2.1,(dy l m d n.toNat (st,rx,pl)).2.1,((dy l m d n.toNat (st,rx,pl)).1:Int))
theorem S4 (l:List ae)(m:List Bytes)(d:Int)(rx:aw)(pl:aV)(st:List Stream)(n:Int)(hl:l.length≤1000000000)(hm:m.length≤1000000000)(hp:pl.2.2.2.length≤500000000)(hs:aK 500000000 (.sl aE) st):oC l m d rx pl st n=some (iH l m d rx pl st n):=by
 have hfu:=bl
 have hsl:st.length≤500000000:=hs.1
 unfold oC iH
 simp only [fc m (show m.length≤1073741824 by omega),re pl (show pl.2.2.2.length≤1000000000 by omega),rT st (by omega),Nx,tj pl (show pl.2.2.2.length≤1000000000 by omega),bm,ab]
 cases GD rx with|false=>rfl|true=> ?_
 cases du pl with|false=>rfl|true=> ?_
 cases hn:bp n 0 1000 with|false=>rfl|true=> ?_
 have h:=aQ.1 hn
 obtain ⟨n,rfl⟩:=Int.eq_ofNat_of_zero_le h.1
 simp only [Bool.not_true,cond_false,ab,Bool.or_self,Int.toNat_natCast]
 have z:xA (500000000+322*0) (st,rx,pl):=⟨hs,hp⟩
 have hz:=AU (l:=l) (m:=m) (d:=d) n z
 refine (AB _ l m d n (by omega) _ _ _ hl hm n 0 (st,rx,pl) fuel (by omega) (by omega) z).trans ?_
 rw [Nat.zero_add]
 simp only [SY l m d _ _ hl hm (show (dy l m d n (st,rx,pl)).2.2.2.2.2.2.length≤1000000000 from Nat.le_trans hz.pl (by omega)),ab]
theorem T6 (l:List ae)(m:List Bytes)(d:Int)(rx:aw)(pl:aV)(st:List Stream)(n:Int)(hl:l.length≤1000000000)(hm:m.length≤1000000000)(hp:pl.2.2.2.length≤500000000)(hs:aK 500000000 (.sl aE) st):ly l m d rx pl st n=some (iH l m d rx pl st n):=by
 have hfu:=bl
 have hsl:st.length≤500000000:=hs.1
 unfold ly iH
 rw [cz (by omega)]
 simp only [List.nil_append,tt pl (show pl.2.2.2.length≤1000000000 by omega),jm m (show m.length≤1073741824 by omega),Oq,ua pl (show pl.2.2.2.length≤1000000000 by omega),bh,ab]
 cases GD rx with|false=>rfl|true=> ?_
 cases du pl with|false=>rfl|true=> ?_
 cases hn:bp n 0 1000 with|false=>rfl|true=> ?_
 have h:=aQ.1 hn
 obtain ⟨n,rfl⟩:=Int.eq_ofNat_of_zero_le h.1
 simp only [Bool.not_true,cond_false,ab,Bool.or_self,Int.toNat_natCast]
 have z:xA (500000000+322*0) (st,rx,pl):=⟨hs,hp⟩
 have hz:=AU (l:=l) (m:=m) (d:=d) n z
 refine (Bg _ l m d n (by omega) _ _ _ hl hm n 0 (st,rx,pl) fuel (by omega) (by omega) z).trans ?_
 rw [Nat.zero_add]
 simp only [TX l m d _ _ hl hm (show (dy l m d n (st,rx,pl)).2.2.2.2.2.2.length≤1000000000 from Nat.le_trans hz.pl (by omega)),ab]
end
end Go.Pu
end
section
namespace Go.Pu
open Go.Dn
set_option linter.unusedSimpArgs false
set_option linter.unusedVariables false
noncomputable section
end
end Go.Pu
end
section
namespace Go.Pu
open Go.Dn
set_option linter.unusedSimpArgs false
set_option linter.unusedVariables false
noncomputable section
theorem vo {n:Nat}{t:CT}{l:List t.D}{i:Nat}{x:t.D}(z:aK n (.sl t) l)(hx:aK n t x):aK n (.sl t) (l.set i x):=by
 refine ⟨?_,fun y hy=> ?_⟩
 ·show (l.set i x).length≤n
  rw [List.length_set];exact z.1
 ·rcases List.mem_or_eq_of_mem_set hy with h|h
  ·exact z.2 y h
  ·rw [h];exact hx
theorem Ru {n:Nat}(hn:128≤n){m:List Bytes}(h:wJ m):aK n (.sl .str) m:=
 ⟨Nat.le_trans h.2 (by omega),fun x hx=>Nat.le_trans (Nat.le_of_eq (h.1 x hx)) hn⟩
theorem MC {n:Nat}(hn:128≤n){m:List Bytes}(z:aK n (.sl .str) m)(a:Int)(s:Bytes):aK n (.sl .str) (pU m a s).1:=by
 unfold pU
 cases hw:cw m a (s.length:Int) with|false=>exact z|true=> ?_
 simp only [cw,Bool.and_eq_true,decide_eq_true_eq] at hw
 exact Ru hn (xd s.length (yI.1 hw.1) (by omega)).1
theorem LV {n:Nat}(hn:128≤n):∀(q:List (Int×Int)){m:List Bytes}(s:Bytes),aK n (.sl .str) m→aK n (.sl .str) (Jt q m s)
 |[],m,s,z=>z
 |p::q,m,s,z=>LV hn q _ (MC hn z _ _)
theorem Fv {n:Nat}(hn:128≤n){m:List Bytes}(z:aK n (.sl .str) m)(l:List ae)(d a:Int)(s:Bytes)(w:Bool):aK n (.sl .str) (lr l m d a s w).1:=by
 unfold lr
 cases (gD l m d a (s.length:Int) w).2 with
 |false=>exact z
 |true=>exact LV hn _ _ z
theorem Ju {n:Nat}(hn:128≤n){m:List Bytes}(z:aK n (.sl .str) m)(l:List ae)(d:Int)(r:Int×Int×Int×Int)(s:Bytes):aK n (.sl .str) (bL l m d r s).1:=by
 unfold bL
 cases (pW r==0)||((s.length:Int) !=16) with|true=>exact z|false=> ?_
 cases (lr l m d (kH r r.2.2.2) s true).2 with
 |false=>exact z
 |true=>exact Fv hn z ..
theorem GZ {n:Nat}(hn:128≤n)(l:List ae)(d:Int)(p:aV):∀(q:List Int){m:List Bytes}(r:Int×Int×Int×Int),aK n (.sl .str) m→aK n (.sl .str) (jF l d p q m r).2.1
 |[],m,r,z=>z
 |b::q,m,r,z=>by
  rw [jF]
  cases (bL l m d r (descOf p b)).2.2 with
  |false=>exact z
  |true=>exact GZ hn l d p q _ (Ju hn z ..)
theorem Qv {n:Nat}(hn:128≤n){m:List Bytes}(z:aK n (.sl .str) m)(l:List ae)(d:Int)(r:Int×Int×Int×Int)(p:aV):aK n (.sl .str) (uq l m d r p).1:=by
 unfold uq
 cases !bR r|| !du p with
 |true=>exact z
 |false=>exact GZ hn _ _ _ _ _ z
theorem Wp (l:List ae)(m:List Bytes)(d:Int)(r:Int×Int×Int×Int)(p:aV):(uq l m d r p).1.length=m.length:=by
 unfold uq
 cases !bR r|| !du p with
 |true=>rfl
 |false=>exact (BF ..).1
theorem Nf (l:List ae)(m:List Bytes)(d:Int)(r:Int×Int×Int×Int)(p:aV):(uq l m d r p).2.2.1.2.2.2.length≤p.2.2.2.length:=by
 unfold uq
 cases !bR r|| !du p with
 |true=>exact Nat.le_refl _
 |false=>show (p.2.2.2.drop _).length≤_;rw [List.length_drop];omega
theorem LQ (l:List ae)(m:List Bytes)(d:Int):∀(k:Nat)(s:List Stream×aw×aV),(dy l m d k s).2.2.1.2.2.2=s.2.1.2.2.2∧(dy l m d k s).1≤k
 |0,s=>⟨rfl,Nat.le_refl _⟩
 |k+1,s=>by
  rw [dy]
  cases (mT l m d s.2.1.2.2.1).2.2 with
  |false=>exact ⟨rfl,Nat.zero_le _⟩
  |true=>
   have:=LQ l m d k (vy l m d s)
   simp only [Bool.not_true,cond_false]
   exact ⟨this.1,by omega⟩
theorem Rz {n:Nat}(hn:128≤n){l:List ae}{m:List Bytes}{d:Int}{rx:aw}{pl:aV}{st:List Stream}(c:Int)(zm:aK n (.sl .str) m)(zr:aK n az rx)(zp:aK n a9 pl)(zs:aK n (.sl aE) st):
 aK n (.sl .str) (iH l m d rx pl st c).1∧aK n az (iH l m d rx pl st c).2.1∧aK (n+322000) a9 (iH l m d rx pl st c).2.2.1∧aK (n+322000) (.sl aE) (iH l m d rx pl st c).2.2.2.1∧0≤(iH l m d rx pl st c).2.2.2.2∧(iH l m d rx pl st c).2.2.2.2≤1000:=by
 unfold iH
 cases hc: !GD rx||(!du pl|| !bp c 0 1000) with
 |true=>exact ⟨zm,zr,zp.mono (by omega),zs.mono (by omega),Int.le_refl _,by show (0:Int)≤1000;omega⟩
 |false=>
  have hi:bp c 0 1000=true:=by
   cases h:bp c 0 1000 with
   |true=>rfl
   |false=>rw [h] at hc;simp at hc
  have h:=aQ.1 hi
  have z:=AU (l:=l) (m:=m) (d:=d) c.toNat (s:=(st,rx,pl)) (n:=n) ⟨zs,zp.2.2.2.1⟩
  have hx:=LQ l m d c.toNat (st,rx,pl)
  refine ⟨Qv hn zm ..,⟨?_, ?_, ?_, ?_⟩,⟨trivial,trivial,trivial, ?_,fun _ _=>trivial⟩,z.st.mono (by omega),by show (0:Int)≤((dy l m d c.toNat (st,rx,pl)).1:Int);omega,by show ((dy l m d c.toNat (st,rx,pl)).1:Int)≤1000;omega⟩
  ·exact ⟨trivial,trivial,trivial,trivial⟩
  ·exact ⟨trivial,trivial,trivial⟩
  ·exact ⟨trivial,trivial,trivial⟩
  ·have e:=congrArg (fun q=>aK n az (rx.1,rx.2.1,rx.2.2.1,q)) hx.1
   exact (e.mpr zr).2.2.2
  ·have:=Nf l m d (dy l m d c.toNat (st,rx,pl)).2.2.1.1 (dy l m d c.toNat (st,rx,pl)).2.2.2
   have h2:=z.pl
   show (uq l m d (dy l m d c.toNat (st,rx,pl)).2.2.1.1 (dy l m d c.toNat (st,rx,pl)).2.2.2).2.2.1.2.2.2.length≤_
   omega
end
end Go.Pu
end
section
namespace Go.Pu
open Go.Dn
set_option linter.unusedSimpArgs false
set_option linter.unusedVariables false
noncomputable section
def aB (l:List ae)(m:List Bytes)(d:Int)(r:Int×Int×Int×Int):Bytes×(Int×Int×Int×Int)×Bool:=
 bif !bR r||(aN r==0) then ([],r,false) else
 bif !(il l m d (kH r r.2.2.1) 16).2 then ([],r,false) else
 ((il l m d (kH r r.2.2.1) 16).1,(r.1,r.2.1,Int.tmod (r.2.2.1+1) (2*r.2.1),r.2.2.2),true)
theorem wV (l:List ae)(m:List Bytes)(d:Int)(r:Int×Int×Int×Int)(hl:l.length≤1000000000)(hm:m.length≤1000000000):kh l m d r=some (aB l m d r):=by
 have hA:=vD r r.2.2.1
 unfold kh aB
 simp only [pC,rJ,ab,Cn,rH l m d _ 16 hl hm (show kH r r.2.2.1≤9223372036854775807 by omega)]
 cases hb:bR r with|false=>rfl|true=> ?_
 have h:=pz hb
 cases aN r==0 with|true=>rfl|false=> ?_
 simp only [Bool.not_true,cond_false,ab,Bool.or_self]
 cases (il l m d (kH r r.2.2.1) 16).2 with|false=>rfl|true=> ?_
 simp only [Bool.not_true,cond_false]
 rw [wrap64 (n:=2*r.2.1) (by omega) (by omega),if_neg (by omega),wrap64 (n:=r.2.2.1+1) (by omega) (by omega)]
theorem AG (l:List ae)(m:List Bytes)(d:Int)(r:Int×Int×Int×Int)(hl:l.length≤1000000000)(hm:m.length≤1000000000):mG l m d r=some (aB l m d r):=by
 have hA:=vD r r.2.2.1
 rw [←wV l m d r hl hm]
 unfold mG kh
 simp only [pC,rJ,Cn,ri,tk,G8,ab,uw l m d _ 16 hl hm (show kH r r.2.2.1≤9223372036854775807 by omega),rH l m d _ 16 hl hm (show kH r r.2.2.1≤9223372036854775807 by omega)]
theorem ra (l:List ae)(m:List Bytes)(d:Int)(r:Int×Int×Int×Int):(aB l m d r).1.length≤100000000:=by
 unfold aB
 cases !bR r||(aN r==0) with|true=>exact Nat.zero_le _|false=> ?_
 cases (il l m d (kH r r.2.2.1) 16).2 with
 |false=>exact Nat.zero_le _
 |true=>exact xF ..
theorem ue {l:List ae}{m:List Bytes}{d:Int}{r:Int×Int×Int×Int}(h:(aB l m d r).2.2=true):
 bR (aB l m d r).2.1=true∧aN (aB l m d r).2.1=aN r-1∧(aB l m d r).2.1.1=r.1∧(aB l m d r).2.1.2.1=r.2.1∧(aB l m d r).2.1.2.2.2=r.2.2.2:=by
 unfold aB at h⊢
 cases hb:bR r with|false=>rw [hb] at h;cases h|true=> ?_
 cases hu:aN r==0 with|true=>rw [hb,hu] at h;cases h|false=> ?_
 cases hd:(il l m d (kH r r.2.2.1) 16).2 with|false=>rw [hb,hu,hd] at h;cases h|true=> ?_
 simp only [Bool.not_true,Bool.or_self,cond_false]
 have hr:=pz hb
 have hq:=hb
 simp only [bR,Bool.and_eq_true,decide_eq_true_eq] at hq
 have h1:=hq.2.2.2.2
 have hs:=hq.2.1
 have hu':aN r≠0:=by simpa using hu
 have e:Int.tmod (r.2.2.1+1) (2*r.2.1)=(r.2.2.1+1)%(2*r.2.1):=Int.tmod_eq_emod_of_nonneg (by omega)
 rw [e]
 unfold aN at h1 hu'⊢
 simp only [hs,if_true] at h1 hu'⊢
 have key:(r.2.2.2-(r.2.2.1+1)%(2*r.2.1))%(2*r.2.1)=(r.2.2.2-r.2.2.1)%(2*r.2.1)-1∧0≤(r.2.2.1+1)%(2*r.2.1)∧(r.2.2.1+1)%(2*r.2.1)≤2*r.2.1-1:=by
  rcases hr.2.2.1 with hn|hn|hn|hn<;>rw [hn] at h1 hu' hr⊢<;>omega
 refine ⟨?_,key.1,trivial,trivial,trivial⟩
 simp only [bR,aN,hs,if_true,Bool.and_eq_true,decide_eq_true_eq,aQ]
 refine ⟨by omega,trivial,by omega,by omega, ?_⟩
 rw [key.1];omega
theorem gC {r:Int×Int×Int×Int}(h:bR r=true):0≤aN r∧aN r≤16:=by
 have hr:=pz h
 have hq:=h
 simp only [bR,Bool.and_eq_true,decide_eq_true_eq] at hq
 refine ⟨?_,by have:=hq.2.2.2.2;omega⟩
 unfold aN
 rw [hq.2.1,if_pos rfl]
 exact Int.emod_nonneg _ (by omega)
def xg:Int×Int×Int×Int×Int×Int:=(0,0,0,0,0,0)
def xE (s:Bytes):Int×Int×Int×Int×Int×Int:=((aD s 0:Int),(aD s 1:Int),aL s 2,bW s 4,aL s 8,aL s 10)
def bA (s:Bytes):(Int×Int×Int×Int×Int×Int)×Bool:=
 bif ((s.length:Int) !=16) then (xg,false) else bif !(CY (xE s)==s) then (xg,false) else (xE s,true)
theorem FJ (s:Bytes)(h:s.length≤1000000000):gb s=some (bA s):=by
 unfold gb bA
 cases hn:(s.length:Int) !=16 with|true=>rfl|false=> ?_
 have hl:s.length=16:=by
  have:((s.length:Int)==16)=true:=by simpa using hn
  have:=of_decide_eq_true this
  omega
 have b0:=gk (s[0]'(by omega));have b1:=gk (s[1]'(by omega))
 have i0:idx s 0=some (s[0]'(by omega)):=ax (i:=0) (by omega)
 have i1:idx s 1=some (s[1]'(by omega)):=ax (i:=1) (by omega)
 have e:(((s[0]'(by omega)).toNat:Int),((s[1]'(by omega)).toNat:Int),aL s 2,bW s 4,aL s 8,aL s 10)=xE s:=by
  simp only [xE,aD,bB (show 0<s.length by omega),bB (show 1<s.length by omega)]
 simp only [cond_false,i0,i1,ab,kb s _ h,qb s _ h]
 rw [cA (n:=(s[0]'(by omega)).toNat) (by omega),cA (n:=(s[1]'(by omega)).toNat) (by omega),e,JI,ab]
 cases CY (xE s)==s<;>rfl
theorem Lf (s:Bytes)(h:s.length≤1000000000):jG s=some (bA s):=by
 rw [←FJ s h]
 unfold jG gb
 simp only [kb s _ h,qb s _ h,pZ s _ h,sW s _ h,Ps,JI]
theorem Ew {s:Bytes}(h:(bA s).2=true):mz (bA s).1=true:=by
 unfold bA at h⊢
 cases hn:(s.length:Int) !=16 with|true=>rw [hn] at h;cases h|false=> ?_
 cases he:CY (xE s)==s with|false=>rw [hn,he] at h;cases h|true=> ?_
 simp only [cond_false,Bool.not_true]
 cases hd:mz (xE s) with
 |true=>rfl
 |false=>
  have:CY (xE s)=[]:=by unfold CY;rw [hd];rfl
  rw [this] at he
  cases s with
  |nil=>simp at hn
  |cons x y=>cases he
def IS (x:Int×Int×Int×Int×Int×Int):Bool:=bif x.1==1 then (IntKind.wrap .i64 (BitVec.toNat (BitVec.ofInt (IntKind.bits .i64) x.2.1&&&BitVec.ofInt (IntKind.bits .i64) 1))) !=0 else false
def om (l:List ae)(m:List Bytes)(d:Int):Nat→List (Int×Int×Int×Int×Int×Int)→(Int×Int×Int×Int)→List (Int×Int×Int×Int×Int×Int)×(Int×Int×Int×Int)×Bool
 |0,acc,r=>(acc,r,true)
 |n+1,acc,r=>
  bif !(aB l m d r).2.2|| !(bA (aB l m d r).1).2 then ([],(r.1,r.2.1,r.2.2.2,r.2.2.2),false) else
  bif IS (bA (aB l m d r).1).1 then (acc++[(bA (aB l m d r).1).1],(aB l m d r).2.1,true) else
  om l m d n (acc++[(bA (aB l m d r).1).1]) (aB l m d r).2.1
def bj (l:List ae)(m:List Bytes)(d:Int)(r:Int×Int×Int×Int):List (Int×Int×Int×Int×Int×Int)×(Int×Int×Int×Int)×Bool:=
 bif !bR r||(aN r==0) then ([],r,false) else om l m d (aN r).toNat [] r
theorem zb {R:Type}(k0:List (Int×Int×Int×Int×Int×Int)→(Int×Int×Int×Int)→Option R)(k1:List (Int×Int×Int×Int×Int×Int)→Bool→List (Int×Int×Int×Int×Int×Int)→(Int×Int×Int×Int)→(Int×Int×Int×Int)→Option R)(K:List (Int×Int×Int×Int×Int×Int)×(Int×Int×Int×Int)×Bool→Option R)
 (h0:∀a r,k0 a r=K (a,r,true)) (l:List ae) (m:List Bytes) (d:Int) (B E:Int×Int×Int×Int) (h1:∀a r,k1 [] false a r E=K ([],E,false)) (hl:l.length≤1000000000) (hm:m.length≤1000000000):∀(n:Nat)(acc:List (Int×Int×Int×Int×Int×Int))(r:Int×Int×Int×Int)(f:Nat),
 n<f→bR r=true→(aN r).toNat=n→acc.length+n≤1000→E=(r.1,r.2.1,r.2.2.2,r.2.2.2)→aq (gz k0 k1 l d ([]:List (Int×Int×Int×Int×Int×Int)) false m B E) f (acc,r)=K (om l m d n acc r)
 |n,acc,r,0,hf,_,_,_,_=>by omega
 |0,acc,r,f+1,hf,hb,hu,ha,hE=>by
  rw [aq]
  simp only [gz,tk,ab]
  rw [decide_eq_false (by omega),cond_false,h0];rfl
 |n+1,acc,r,f+1,hf,hb,hu,ha,hE=>by
  have hlen:=ra l m d r
  have hk:=ue (l:=l) (m:=m) (d:=d) (r:=r)
  rw [aq]
  simp only [gz,tk,ab]
  rw [decide_eq_true (by omega),cond_true,AG l m d r hl hm,ab,om]
  generalize aB l m d r=t at hlen hk⊢
  cases ht:t.2.2 with
  |false=>simp only [Bool.not_false,cond_true,Bool.true_or,←hE,h1]
  |true=>
   have hk:=hk ht
   simp only [Bool.not_true,cond_false,Bool.false_or]
   rw [Lf _ (show t.1.length≤1000000000 by omega),ab]
   generalize bA t.1=x
   cases x.2 with
   |false=>simp only [Bool.not_false,cond_true,←hE,h1]
   |true=>
    simp only [Bool.not_true,cond_false]
    rw [ao (by rw [List.length_singleton];omega)]
    have e:(aa (cond (x.1.1==1) (some ((IntKind.wrap .i64 (BitVec.toNat (BitVec.ofInt (IntKind.bits .i64) x.1.2.1&&&BitVec.ofInt (IntKind.bits .i64) 1))) !=0)) (some false)):(Bool→Option R)→Option R)=fun K=>K (IS x.1):=by
     funext K;unfold IS;cases x.1.1==1<;>rfl
    rw [e]
    cases IS x.1 with
    |true=>simp only [cond_true,h0]
    |false=>
     simp only [cond_false]
     exact zb k0 k1 K h0 l m d B E h1 hl hm n _ _ f (by omega) hk.1 (by omega) (by simp;omega) (by rw [hE,hk.2.2.1,hk.2.2.2.1,hk.2.2.2.2])
theorem zn {R:Type}(k0:List (Int×Int×Int×Int×Int×Int)→(Int×Int×Int×Int)→Option R)(k1:List (Int×Int×Int×Int×Int×Int)→Bool→List (Int×Int×Int×Int×Int×Int)→(Int×Int×Int×Int)→(Int×Int×Int×Int)→Option R)(K:List (Int×Int×Int×Int×Int×Int)×(Int×Int×Int×Int)×Bool→Option R)
 (h0:∀a r,k0 a r=K (a,r,true)) (l:List ae) (m:List Bytes) (d:Int) (B:Int×Int×Int×Int) (h1:∀a r,k1 [] false a r r=K ([],r,false)) (hl:l.length≤1000000000) (hm:m.length≤1000000000):∀(n:Nat)(acc:List (Int×Int×Int×Int×Int×Int))(r:Int×Int×Int×Int)(f:Nat),
 n<f→bR r=true→(aN r).toNat=n→acc.length+n≤1000→aq (gK k0 k1 l d ([]:List (Int×Int×Int×Int×Int×Int)) false m B) f (acc,r)=K (om l m d n acc r)
 |n,acc,r,0,hf,_,_,_=>by omega
 |0,acc,r,f+1,hf,hb,hu,ha=>by
  rw [aq]
  simp only [gK,rJ,ab]
  rw [decide_eq_false (by omega),cond_false,h0];rfl
 |n+1,acc,r,f+1,hf,hb,hu,ha=>by
  have hlen:=ra l m d r
  have hk:=ue (l:=l) (m:=m) (d:=d) (r:=r)
  rw [aq]
  simp only [gK,rJ,ab]
  rw [decide_eq_true (by omega),cond_true,wV l m d r hl hm,ab,om]
  generalize aB l m d r=t at hlen hk⊢
  rw [FJ _ (show t.1.length≤1000000000 by omega),ab]
  generalize bA t.1=x
  cases ht:t.2.2 with
  |false=>simp only [Bool.not_false,cond_true,Bool.true_or,ab,h1]
  |true=>
   have hk:=hk ht
   simp only [Bool.not_true,cond_false,ab,Bool.false_or]
   cases x.2 with
   |false=>simp only [Bool.not_false,cond_true,h1]
   |true=>
    simp only [Bool.not_true,cond_false]
    rw [ao (by rw [List.length_singleton];omega)]
    have e:(aa (cond (x.1.1==1) (some ((IntKind.wrap .i64 (BitVec.toNat (BitVec.ofInt (IntKind.bits .i64) x.1.2.1&&&BitVec.ofInt (IntKind.bits .i64) 1))) !=0)) (some false)):(Bool→Option R)→Option R)=fun K=>K (IS x.1):=by
     funext K;unfold IS;cases x.1.1==1<;>rfl
    rw [e]
    cases IS x.1 with
    |true=>simp only [cond_true,h0]
    |false=>
     simp only [cond_false]
     exact zn k0 k1 K h0 l m d B h1 hl hm n _ _ f (by omega) hk.1 (by omega) (by simp;omega)
theorem Gt (l:List ae)(m:List Bytes)(d:Int)(r:Int×Int×Int×Int)(hl:l.length≤1000000000)(hm:m.length≤1000000000):oF l m d r=some (bj l m d r):=by
 have hfu:=bl
 unfold oF bj
 simp only [ri,tk,ab]
 cases hb:bR r with|false=>rfl|true=> ?_
 cases aN r==0 with|true=>rfl|false=> ?_
 have hu:=gC hb
 simp only [Bool.not_true,cond_false,ab,Bool.or_self]
 exact zb _ _ (fun x=>some x) (fun _ _=>rfl) l m d _ _ (fun _ _=>rfl) hl hm _ [] r fuel (by omega) hb rfl (by simp;omega) rfl
theorem GI (l:List ae)(m:List Bytes)(d:Int)(r:Int×Int×Int×Int)(hl:l.length≤1000000000)(hm:m.length≤1000000000):pN l m d r=some (bj l m d r):=by
 have hfu:=bl
 unfold pN bj
 simp only [pC,rJ,ab]
 cases hb:bR r with|false=>rfl|true=> ?_
 cases aN r==0 with|true=>rfl|false=> ?_
 have hu:=gC hb
 simp only [Bool.not_true,cond_false,ab,Bool.or_self]
 exact zn _ _ (fun x=>some x) (fun _ _=>rfl) l m d _ (fun _ _=>rfl) hl hm _ [] r fuel (by omega) hb rfl (by simp;omega)
end
end Go.Pu
end
section
namespace Go.Pu
open Go.Dn
set_option linter.unusedSimpArgs false
set_option linter.unusedVariables false
noncomputable section
def Qh (v:Vector):Bool:=bif decide (v.2.2.1≥1) then (bif decide (v.2.2.1≥v.1) then true else decide (v.2.2.2.1≥v.2.1)) else false
theorem Pr (v:Vector):vn v=some (Qh v):=by
 unfold vn Qh
 cases decide (v.2.2.1≥1) with|false=>rfl|true=> ?_
 cases decide (v.2.2.1≥v.1)<;>rfl
theorem W5 (v:Vector):n9 v=some (Qh v):=Pr v
def xD (v:Vector):Vector:=bif Qh v&& !v.2.2.2.2.1 then (v.1,v.2.1,v.2.2.1,v.2.2.2.1,v.2.2.2.2.1,true) else v
theorem BL (v:Vector):jl v=some (xD v):=by
 unfold jl xD
 rw [Pr,ab]
 cases Qh v with|false=>rfl|true=> ?_
 cases v.2.2.2.2.1<;>rfl
theorem Ci (v:Vector):gS v=some (xD v):=by
 obtain ⟨a,b,c,d,e,f⟩:=v
 unfold gS xD
 rw [W5,ab]
 cases f<;>cases Qh (a,b,c,d,e,_)<;>cases e<;>rfl
def upM (n:Int):Int:=if 1000000<IntKind.wrap .i64 (n+1) then 1000000 else IntKind.wrap .i64 (n+1)
theorem P1 (n:Int):(if IntKind.wrap .i64 (n+1)<1000000 then IntKind.wrap .i64 (n+1) else 1000000)=upM n:=by
 unfold upM;split<;>split<;>omega
def evV (v:Vector):Vector:=bif fa v then xD (v.1,v.2.1,upM v.2.2.1,v.2.2.2) else v
theorem QC (v:Vector):qi v=some (evV v):=by
 unfold qi evV
 rw [tn,ab,BL,ab]
 cases fa v<;>rfl
theorem RI (v:Vector):qK v=some (evV v):=by
 unfold qK evV
 rw [qc,ab,P1,Ci,ab]
 cases fa v<;>rfl
def Mq (v:Vector):Vector:=bif fa v then (bif decide (v.2.2.1>0) then xD (v.1,v.2.1,v.2.2.1,upM v.2.2.2.1,v.2.2.2.2) else xD v) else v
theorem QQ (v:Vector):nb v=some (Mq v):=by
 unfold nb Mq
 simp only [tn,ab,BL]
 cases fa v with|false=>rfl|true=> ?_
 cases decide (v.2.2.1>0)<;>rfl
theorem RU (v:Vector):nB v=some (Mq v):=by
 unfold nB Mq
 simp only [qc,ab,P1,Ci]
 cases fa v with|false=>rfl|true=> ?_
 cases decide (v.2.2.1>0)<;>rfl
def xz (v:Vector):Vector×Bool:=bif fa v&&v.2.2.2.2.2 then ((v.1,v.2.1,0,0,true,false),true) else (v,false)
theorem QO (v:Vector):jk v=some (xz v):=by
 unfold jk xz
 rw [tn,ab]
 cases fa v with|false=>rfl|true=> ?_
 cases v.2.2.2.2.2<;>rfl
theorem RS (v:Vector):jA v=some (xz v):=by
 unfold jA xz
 rw [qc,ab]
 cases fa v with|false=>rfl|true=> ?_
 cases v.2.2.2.2.2<;>rfl
def Bs (v:Vector):Vector:=bif fa v then xD (v.1,v.2.1,v.2.2.1,v.2.2.2.1,false,v.2.2.2.2.2) else v
theorem E0 (v:Vector):rk v=some (Bs v):=by
 unfold rk Bs
 rw [tn,ab,BL,ab]
 cases fa v<;>rfl
theorem FQ (v:Vector):rK v=some (Bs v):=by
 unfold rK Bs
 rw [qc,ab,Ci,ab]
 cases fa v<;>rfl
structure fS (k:Nat) (a b:Host):Prop where
 mem:b.1.length=a.1.length
 maps:b.2.1=a.2.1
 tx:b.2.2.1=a.2.2.1
 rx:b.2.2.2.1.length=a.2.2.2.1.length
 rxs:∀j,k≤j→b.2.2.2.1[j]?=a.2.2.2.1[j]?
 pl:b.2.2.2.2.1.length=a.2.2.2.2.1.length
 vec:b.2.2.2.2.2.1.length=a.2.2.2.2.2.1.length
 vecs:∀j,k≤j→b.2.2.2.2.2.1[j]?=a.2.2.2.2.2.1[j]?
 pol:b.2.2.2.2.2.2.1.length=a.2.2.2.2.2.2.1.length
 flt:b.2.2.2.2.2.2.2.1=a.2.2.2.2.2.2.2.1
 ste:b.2.2.2.2.2.2.2.2.1=a.2.2.2.2.2.2.2.2.1
theorem fS.refl (k:Nat)(a:Host):fS k a a:=⟨rfl,rfl,rfl,rfl,fun _ _=>rfl,rfl,rfl,fun _ _=>rfl,rfl,rfl,rfl⟩
theorem fS.trans {k:Nat}{a b c:Host}(h:fS k a b)(g:fS k b c):fS k a c:=
 ⟨g.mem.trans h.mem,g.maps.trans h.maps,g.tx.trans h.tx,g.rx.trans h.rx,fun j hj=>(g.rxs j hj).trans (h.rxs j hj),g.pl.trans h.pl,g.vec.trans h.vec,fun j hj=>(g.vecs j hj).trans (h.vecs j hj),g.pol.trans h.pol,g.flt.trans h.flt,g.ste.trans h.ste⟩
theorem fS.up {k m:Nat}{a b:Host}(h:fS k a b)(hk:k≤m):fS m a b:=
 ⟨h.mem,h.maps,h.tx,h.rx,fun j hj=>h.rxs j (by omega),h.pl,h.vec,fun j hj=>h.vecs j (by omega),h.pol,h.flt,h.ste⟩
def dg (g:Nat→Host→Host):Nat→Host→Host
 |0,h=>h
 |k+1,h=>g k (dg g k h)
theorem mh {g:Nat→Host→Host}(hg:∀k h,fS (k+1) h (g k h))(h:Host):∀k,fS k h (dg g k h)
 |0=>fS.refl 0 h
 |k+1=>((mh hg h k).up (by omega)).trans (hg k _)
theorem uc {g:Nat→Host→Host}{d n:Nat}(hn:1000≤n)(hg:∀k h m,1000≤m→aK m bf h→aK (m+d) bf (g k h)){h:Host}(z:aK n bf h):∀k,aK (n+d*k) bf (dg g k h)
 |0=>z
 |k+1=>(hg k _ _ (by omega) (uc hn hg z k)).mono (by rw [Nat.mul_add];omega)
def pT (i:Nat)(h:Host):Host:=
 match h.2.2.2.2.2.1[i]? with
 |some v=>(h.1,h.2.1,h.2.2.1,h.2.2.2.1,h.2.2.2.2.1,h.2.2.2.2.2.1.set i (Mq v),h.2.2.2.2.2.2)
 |none=>h
theorem w8 (i:Nat)(h:Host):fS (i+1) h (pT i h):=by
 unfold pT
 cases h.2.2.2.2.2.1[i]? with
 |none=>exact fS.refl _ _
 |some v=>exact ⟨rfl,rfl,rfl,rfl,fun _ _=>rfl,rfl,List.length_set ..,fun j hj=>List.getElem?_set_ne (by omega),rfl,rfl,rfl⟩
theorem Dx {n:Nat}{l:List Vector}{i:Nat}{v:Vector}(z:aK n (.sl aM) l):aK n (.sl aM) (l.set i v):=vo z ⟨trivial,trivial,trivial,trivial,trivial,trivial⟩
theorem R6 (i:Nat)(h:Host)(n:Nat)(hn:1000≤n)(z:aK n bf h):aK (n+0) bf (pT i h):=by
 unfold pT
 cases h.2.2.2.2.2.1[i]? with
 |none=>exact z
 |some v=>exact ⟨z.1,z.2.1,z.2.2.1,z.2.2.2.1,z.2.2.2.2.1,Dx z.2.2.2.2.2.1,z.2.2.2.2.2.2⟩
def yk (h:Host):Host:=bif dk h then dg pT h.2.2.2.2.2.1.length h else h
theorem VN {n:Nat}(hn:1000≤n){h:Host}(z:aK n bf h):aK n bf (yk h)∧(yk h).2.2.1=h.2.2.1:=by
 unfold yk
 cases dk h with
 |false=>exact ⟨z,rfl⟩
 |true=>exact ⟨(uc hn R6 z _).mono (by omega),(mh w8 h _).tx⟩
theorem Tb (h:Host)(k:DA h)(z:aK 1000000000 bf h):qq h=some (yk h):=by
 have hfu:=bl
 unfold qq yk
 rw [ou h z,ab,xM h k,ab]
 cases hb:dk h with|false=>rfl|true=> ?_
 have hv:h.2.2.2.2.2.1.length≤1000000000:=z.2.2.2.2.2.1.1
 simp only [Bool.not_true,cond_false,cond_true]
 refine bz (fun i=>((i:Int),dg pT i h)) h.2.2.2.2.2.1.length (by omega) (fun i nx hi=> ?_) (fun nx=> ?_)
 ·have kk:=mh w8 h i
  have i1:i<(dg pT i h).2.2.2.2.2.1.length:=by rw [kk.vec];exact hi
  rw [show dg pT (i+1) h=pT i (dg pT i h) from rfl]
  generalize dg pT i h=s at i1⊢
  simp only [lL,pT]
  rw [decide_eq_true (by omega),cond_true,List.getElem?_eq_getElem i1]
  simp only [ax i1,ab,QQ,Int.toNat_natCast]
  rw [wrap64 (by omega) (by omega)];rfl
 simp only [lL]
 rw [decide_eq_false (by omega),cond_false]
theorem Uc (h:Host)(k:DA h)(z:aK 1000000000 bf h):qS h=some (yk h):=by
 have hfu:=bl
 unfold qS yk
 rw [pB h z,ab]
 have hv:h.2.2.2.2.2.1.length≤1000000000:=z.2.2.2.2.2.1.1
 cases hb:dk h with
 |false=>
  obtain ⟨g,hg⟩:∃g,fuel=g+1:=⟨fuel-1,by omega⟩
  rw [hg,aq,iO,tZ h k,hb]
  cases decide ((0:Int)<(h.2.2.2.2.2.1.length:Int))<;>rfl
 |true=>
  simp only [cond_true]
  refine bz (fun i=>((i:Int),dg pT i h)) h.2.2.2.2.2.1.length (by omega) (fun i nx hi=> ?_) (fun nx=> ?_)
  ·have kk:=mh w8 h i
   have i1:i<(dg pT i h).2.2.2.2.2.1.length:=by rw [kk.vec];exact hi
   have e1:=kk.vecs i (Nat.le_refl _)
   rw [List.getElem?_eq_getElem i1,List.getElem?_eq_getElem hi] at e1
   have e2:=Option.some.inj e1
   rw [show dg pT (i+1) h=pT i (dg pT i h) from rfl]
   generalize dg pT i h=s at i1 e2⊢
   simp only [iO,pT,tZ h k,hb]
   rw [decide_eq_true (by omega),cond_true,List.getElem?_eq_getElem i1]
   simp only [ax i1,ax hi,ab,RU,Int.toNat_natCast,cond_true,e2]
   rw [wrap64 (by omega) (by omega)];rfl
  simp only [iO]
  rw [decide_eq_false (by omega),cond_false,ab,cond_false]
end
end Go.Pu
end
section
namespace Go.Pu
open Go.Dn
set_option linter.unusedSimpArgs false
set_option linter.unusedVariables false
noncomputable section
def ta (x:Int×Int×Int×Int×Int):Bool:=bp x.1 0 65535&&(bp x.2.1 0 65535&&(bp x.2.2.1 0 65535&&(bp x.2.2.2.1 0 65535&&bp x.2.2.2.2 0 4294967295)))
theorem BM (x:Int×Int×Int×Int×Int):gw x=some (ta x):=by
 simp only [gw,bm,ab,aH,cF,ta]
theorem RJ (x:Int×Int×Int×Int×Int):kI x=some (ta x):=BM x
def Gn (x:Int×Int×Int×Int×Int)(p:Int):Bytes:=bif ta x&&bp p 0 1 then ((((aF x.1++aF x.2.1)++aF x.2.2.1)++aF x.2.2.2.1)++dF x.2.2.2.2)++dF p else []
theorem Lh (x:Int×Int×Int×Int×Int)(p:Int):fL x p=some (Gn x p):=by
 have h1:=aA x.1;have h2:=aA x.2.1;have h3:=aA x.2.2.1;have h4:=aA x.2.2.2.1;have h5:=bD x.2.2.2.2;have h6:=bD p
 unfold fL Gn
 simp only [BM,bm,ab,fB,tp]
 cases ta x with|false=>rfl|true=> ?_
 cases bp p 0 1 with|false=>rfl|true=> ?_
 simp only [Bool.not_true,cond_false,ab,Bool.and_self,cond_true]
 rw [ao (by omega),ao (by simp only [List.length_append];omega),ao (by simp only [List.length_append];omega),ao (by simp only [List.length_append];omega),ao (by simp only [List.length_append];omega)]
theorem TW (x:Int×Int×Int×Int×Int)(p:Int):kq x p=some (Gn x p):=Lh x p
def vz (l:List ae)(m:List Bytes)(d:Int)(q:Int×Int×Int)(x:Int×Int×Int×Int×Int):List Bytes×(Int×Int×Int)×Bool:=
 bif !dj q|| !ta x then (m,q,false) else
 bif !(lr l m d (eN q) (Gn x (pw q)) true).2 then (m,q,false) else
 ((lr l m d (eN q) (Gn x (pw q)) true).1,(q.1,q.2.1,Int.tmod (q.2.2+1) (2*q.2.1)),true)
theorem S5 (l:List ae)(m:List Bytes)(d:Int)(q:Int×Int×Int)(x:Int×Int×Int×Int×Int)(hl:l.length≤1000000000)(hm:m.length≤1000000000):jh l m d q x=some (vz l m d q x):=by
 unfold jh vz
 simp only [BN,BM,ab,fc m (show m.length≤1073741824 by omega),G6,Lh]
 cases hq:dj q with|false=>rfl|true=> ?_
 have h:=jN hq
 have hs:=Ba hq
 cases ta x with|false=>rfl|true=> ?_
 simp only [Bool.not_true,cond_false,ab,Bool.or_self,G9 q hq,vX l m d _ _ hl hm (show eN q≤9223372036854775807 by unfold eN;omega)]
 cases hp:(lr l m d (eN q) (Gn x (pw q)) true).2 with
 |false=>simp only [Bool.not_false,cond_true,Cd hp]
 |true=>
  simp only [Bool.not_true,cond_false]
  rw [wrap64 (n:=2*q.2.1) (by omega) (by omega),if_neg (by omega),wrap64 (n:=q.2.2+1) (by omega) (by omega)]
theorem T7 (l:List ae)(m:List Bytes)(d:Int)(q:Int×Int×Int)(x:Int×Int×Int×Int×Int)(hl:l.length≤1000000000)(hm:m.length≤1000000000):jw l m d q x=some (vz l m d q x):=by
 unfold jw vz
 simp only [Cl,RJ,ab,jm m (show m.length≤1073741824 by omega),TW]
 cases hq:dj q with|false=>rfl|true=> ?_
 have h:=jN hq
 have hs:=Ba hq
 cases ta x with|false=>rfl|true=> ?_
 have e:IntKind.wrap .i64 (q.1+IntKind.wrap .i64 (16*Int.tmod q.2.2 q.2.1))=eN q:=by
  rw [wrap64 (n:=16*Int.tmod q.2.2 q.2.1) (by omega) (by omega),wrap64 (by omega) (by omega)]
  unfold eN;omega
 simp only [Bool.not_true,cond_false,ab,Bool.or_self,Hy q hq,e,wS l m d _ _ hl hm (show eN q≤9223372036854775807 by unfold eN;omega)]
 rw [if_neg (by omega)]
 cases hp:(lr l m d (eN q) (Gn x (pw q)) true).2 with
 |false=>rfl
 |true=>
  simp only [Bool.not_true,cond_false]
  rw [wrap64 (n:=2*q.2.1) (by omega) (by omega),if_neg (by omega),wrap64 (n:=q.2.2+1) (by omega) (by omega)]
theorem RA {n:Nat}(hn:128≤n){m:List Bytes}(z:aK n (.sl .str) m)(l:List ae)(d:Int)(q:Int×Int×Int)(x:Int×Int×Int×Int×Int):aK n (.sl .str) (vz l m d q x).1∧(vz l m d q x).1.length=m.length:=by
 unfold vz
 cases !dj q|| !ta x with|true=>exact ⟨z,rfl⟩|false=> ?_
 cases (lr l m d (eN q) (Gn x (pw q)) true).2 with
 |false=>exact ⟨z,rfl⟩
 |true=>exact ⟨Fv hn z ..,tV ..⟩
theorem WY {l:List ae}{m:List Bytes}{d:Int}{q:Int×Int×Int}{x:Int×Int×Int×Int×Int}(h:dj q=true):dj (vz l m d q x).2.1=true∧(vz l m d q x).2.1.1=q.1∧(vz l m d q x).2.1.2.1=q.2.1:=by
 have hq:=jN h
 unfold vz
 cases !dj q|| !ta x with|true=>exact ⟨h,rfl,rfl⟩|false=> ?_
 cases (lr l m d (eN q) (Gn x (pw q)) true).2 with
 |false=>exact ⟨h,rfl,rfl⟩
 |true=>
  refine ⟨?_,rfl,rfl⟩
  have e:=PZ (a:=q.2.2+1) (b:=2*q.2.1) (by omega) (by omega)
  simp only [cond_false,Bool.not_true,dj,Bool.and_eq_true,aQ] at h⊢
  refine ⟨h.1,h.2.1, ?_⟩
  rw [yM h.2.1]
  omega
def gT (l:List ae)(m:List Bytes)(d:Int)(q:aw)(k:Bytes)(s:Bytes):List Bytes×(Int×Int×Int)×Bool:=
 bif !(bA s).2||(((bA s).1.1 !=3)||decide ((bA s).1.2.2.1<((bn q.2.2.2.1.1).1.length:Int))) then (m,q.2.1,false) else
 bif !(lr l m d (bA s).1.2.2.2.1 (bn q.2.2.2.1.1).1 true).2 then (m,q.2.1,false) else
 vz l (lr l m d (bA s).1.2.2.2.1 (bn q.2.2.2.1.1).1 true).1 d q.2.1 ((bA s).1.2.2.2.2.2,((bn q.2.2.2.1.1).1.length:Int),q.2.2.2.1.2.1,q.2.2.2.1.2.2,xL k (vU (mn q.2.2.2.1.1)))
theorem RQ (l:List ae)(m:List Bytes)(d:Int)(q:aw)(k s:Bytes)(hl:l.length≤1000000000)(hm:m.length≤1000000000)(hs:s.length≤1000000000):qZ l m d q s k=some (gT l m d q k s):=by
 unfold qZ gT
 have hok:=Ew (s:=s)
 simp only [FJ s hs,yN,ab,jm m (show m.length≤1073741824 by omega)]
 generalize bA s=x at hok⊢
 cases hx:x.2 with|false=>rfl|true=> ?_
 have hd:=hok hx
 simp only [mz,Bool.and_eq_true,aQ] at hd
 cases x.1.1 !=3 with|true=>rfl|false=> ?_
 cases decide (x.1.2.2.1<((bn q.2.2.2.1.1).1.length:Int)) with|true=>rfl|false=> ?_
 simp only [Bool.not_true,cond_false,ab,Bool.or_self,wS l m d _ _ hl hm (show x.1.2.2.2.1≤9223372036854775807 by omega)]
 cases (lr l m d x.1.2.2.2.1 (bn q.2.2.2.1.1).1 true).2 with|false=>rfl|true=> ?_
 simp only [Bool.not_true,cond_false,Md,ab,JJ,T7 l _ d _ _ hl (show (lr l m d x.1.2.2.2.1 (bn q.2.2.2.1.1).1 true).1.length≤1000000000 by rw [tV];exact hm)]
theorem QM (l:List ae)(m:List Bytes)(d:Int)(q:aw)(k s:Bytes)(hl:l.length≤1000000000)(hm:m.length≤1000000000)(hs:s.length≤1000000000)(hh:cu q.2.2.2.1.1=true):∃b,oM l m d q k s=some (b,gT l m d q k s)∧(b=false→gT l m d q k s=(m,q.2.1,false)):=by
 unfold oM gT
 have hok:=Ew (s:=s)
 simp only [Lf s hs,yD,ab,vj hh]
 generalize bA s=x at hok⊢
 cases hx:x.2 with|false=>exact ⟨false,rfl,fun _=>rfl⟩|true=> ?_
 have hd:=hok hx
 simp only [mz,Bool.and_eq_true,aQ] at hd
 cases x.1.1 !=3 with|true=>exact ⟨false,rfl,fun _=>rfl⟩|false=> ?_
 cases decide (x.1.2.2.1<((bn q.2.2.2.1.1).1.length:Int)) with|true=>exact ⟨false,rfl,fun _=>rfl⟩|false=> ?_
 simp only [Bool.not_true,cond_false,ab,Bool.or_self,vX l m d _ _ hl hm (show x.1.2.2.2.1≤9223372036854775807 by omega)]
 cases (lr l m d x.1.2.2.2.1 (bn q.2.2.2.1.1).1 true).2 with|false=>exact ⟨false,rfl,fun _=>rfl⟩|true=> ?_
 simp only [Bool.not_true,cond_false,Li,ab,I5,S5 l _ d _ _ hl (show (lr l m d x.1.2.2.2.1 (bn q.2.2.2.1.1).1 true).1.length≤1000000000 by rw [tV];exact hm)]
 exact ⟨true,rfl,fun h=>by cases h⟩
theorem RY {n:Nat}(hn:128≤n){l:List ae}{m:List Bytes}{d:Int}{q:aw}{k s:Bytes}(z:aK n (.sl .str) m)(hq:dj q.2.1=true):
 aK n (.sl .str) (gT l m d q k s).1∧(gT l m d q k s).1.length=m.length∧dj (gT l m d q k s).2.1=true∧(gT l m d q k s).2.1.1=q.2.1.1∧(gT l m d q k s).2.1.2.1=q.2.1.2.1:=by
 unfold gT
 cases !(bA s).2||(((bA s).1.1 !=3)||decide ((bA s).1.2.2.1<((bn q.2.2.2.1.1).1.length:Int))) with|true=>exact ⟨z,rfl,hq,rfl,rfl⟩|false=> ?_
 cases (lr l m d (bA s).1.2.2.2.1 (bn q.2.2.2.1.1).1 true).2 with|false=>exact ⟨z,rfl,hq,rfl,rfl⟩|true=> ?_
 have h1:=Fv hn z l d (bA s).1.2.2.2.1 (bn q.2.2.2.1.1).1 true
 have h2:=tV l m d (bA s).1.2.2.2.1 (bn q.2.2.2.1.1).1 true
 generalize (lr l m d (bA s).1.2.2.2.1 (bn q.2.2.2.1.1).1 true).1=w at h1 h2
 have h3:=RA hn h1 l d q.2.1 ((bA s).1.2.2.2.2.2,((bn q.2.2.2.1.1).1.length:Int),q.2.2.2.1.2.1,q.2.2.2.1.2.2,xL k (vU (mn q.2.2.2.1.1)))
 have h4:=WY (l:=l) (m:=w) (d:=d) (x:=((bA s).1.2.2.2.2.2,((bn q.2.2.2.1.1).1.length:Int),q.2.2.2.1.2.1,q.2.2.2.1.2.2,xL k (vU (mn q.2.2.2.1.1)))) hq
 exact ⟨h3.1,h3.2.trans h2,h4⟩
def nK (l:List ae)(m:List Bytes)(d:Int)(q:aw)(k:Bytes):List Bytes×aw:=
 bif !GD q||(!q.2.2.2.2.1||((k.length:Int) !=16)) then (m,q) else
 bif (aB l m d q.1).2.2&&(gT l m d q k (aB l m d q.1).1).2.2 then
  ((gT l m d q k (aB l m d q.1).1).1,(aB l m d q.1).2.1,(gT l m d q k (aB l m d q.1).1).2.1,q.2.2.1,acw,false,q.2.2.2.2.2)
 else (m,(aB l m d q.1).2.1,q.2.1,q.2.2.1,acw,false,IntKind.wrap .i64 (q.2.2.2.2.2+q.2.2.2.1.2.2))
theorem Mp {l:List ae}{m:List Bytes}{d:Int}{r:Int×Int×Int×Int}(h:(aB l m d r).2.2=false):(aB l m d r).2.1=r:=by
 unfold aB at h⊢
 cases hc: !bR r||(aN r==0) with|true=>rfl|false=> ?_
 cases hd:(il l m d (kH r r.2.2.1) 16).2 with
 |false=>rfl
 |true=>rw [hc,hd] at h;cases h
theorem xZ {q:aw}(h:GD q=true):dj q.2.1=true∧(q.2.2.2.2.1=true→cu q.2.2.2.1.1=true):=by
 unfold GD at h
 simp only [Bool.and_eq_true] at h
 refine ⟨h.1.2.1,fun hh=> ?_⟩
 have h2:=h.2
 rw [hh] at h2
 simp only [cond_true,Bool.and_eq_true] at h2
 exact h2.1
theorem RM (l:List ae)(m:List Bytes)(d:Int)(q:aw)(k:Bytes)(hl:l.length≤1000000000)(hm:m.length≤1000000000):pF l m d q k=some (nK l m d q k):=by
 have ht:=ra l m d q.1
 unfold pF nK
 simp only [Oq,ab,jm m (show m.length≤1073741824 by omega),wV l m d q.1 hl hm,RQ l m d q k _ hl hm (show (aB l m d q.1).1.length≤1000000000 by omega)]
 cases GD q with|false=>rfl|true=> ?_
 cases q.2.2.2.2.1 with|false=>rfl|true=> ?_
 cases (k.length:Int) !=16 with|true=>rfl|false=> ?_
 simp only [Bool.not_true,cond_false,ab,Bool.or_self]
 cases (aB l m d q.1).2.2 with|false=>rfl|true=> ?_
 cases (gT l m d q k (aB l m d q.1).1).2.2<;>rfl
theorem QG (l:List ae)(m:List Bytes)(d:Int)(q:aw)(k:Bytes)(hl:l.length≤1000000000)(hm:m.length≤1000000000):ow l m d q k=some (nK l m d q k):=by
 have ht:=ra l m d q.1
 have hno:=Mp (l:=l) (m:=m) (d:=d) (r:=q.1)
 unfold ow nK
 simp only [Nx,ab,fc m (show m.length≤1073741824 by omega),AG l m d q.1 hl hm]
 cases hr:GD q with|false=>rfl|true=> ?_
 cases hh:q.2.2.2.2.1 with|false=>rfl|true=> ?_
 cases (k.length:Int) !=16 with|true=>rfl|false=> ?_
 obtain ⟨b,hb,hb2⟩:=QM l m d q k (aB l m d q.1).1 hl hm (by omega) ((xZ hr).2 hh)
 simp only [Bool.not_true,cond_false,ab,Bool.or_self,hb]
 generalize gT l m d q k (aB l m d q.1).1=s at hb hb2⊢
 cases hk:(aB l m d q.1).2.2 with|false=>rw [hno hk];rfl|true=> ?_
 cases b with
 |true=>cases hs:s.2.2<;>rfl
 |false=>rw [hb2 rfl];rfl
theorem BI {n:Nat}(hn:128≤n){l:List ae}{m:List Bytes}{d:Int}{q:aw}{k:Bytes}(z:aK n (.sl .str) m)(zq:aK n az q):
 aK n (.sl .str) (nK l m d q k).1∧(nK l m d q k).1.length=m.length∧aK n az (nK l m d q k).2∧(GD q=true→dj (nK l m d q k).2.2.1=true∧(nK l m d q k).2.2.1.2.1=q.2.1.2.1):=by
 unfold nK
 cases hc: !GD q||(!q.2.2.2.2.1||((k.length:Int) !=16)) with|true=>exact ⟨z,rfl,zq,fun h=>⟨(xZ h).1,rfl⟩⟩|false=> ?_
 simp only [Bool.or_eq_false_iff,Bool.not_eq_false'] at hc
 have hq:=(xZ hc.1).1
 have hs:=RY hn (l:=l) (d:=d) (k:=k) (s:=(aB l m d q.1).1) z hq
 have e0:aK n az ((aB l m d q.1).2.1,(gT l m d q k (aB l m d q.1).1).2.1,q.2.2.1,acw,false,q.2.2.2.2.2):=
  ⟨⟨trivial,trivial,trivial,trivial⟩,⟨trivial,trivial,trivial⟩,⟨trivial,trivial,trivial⟩,⟨⟨trivial,trivial,trivial,trivial,trivial,trivial,trivial,trivial,trivial,trivial,trivial,trivial,trivial,trivial,trivial,Nat.zero_le _⟩,trivial,trivial⟩,trivial,trivial⟩
 cases (aB l m d q.1).2.2&&(gT l m d q k (aB l m d q.1).1).2.2 with
 |true=>exact ⟨hs.1,hs.2.1,e0,fun _=>⟨hs.2.2.1,hs.2.2.2.2⟩⟩
 |false=>exact ⟨z,rfl,⟨⟨trivial,trivial,trivial,trivial⟩,⟨trivial,trivial,trivial⟩,⟨trivial,trivial,trivial⟩,⟨⟨trivial,trivial,trivial,trivial,trivial,trivial,trivial,trivial,trivial,trivial,trivial,trivial,trivial,trivial,trivial,Nat.zero_le _⟩,trivial,trivial⟩,trivial,trivial⟩,fun _=>⟨hq,rfl⟩⟩
end
end Go.Pu
end
section
namespace Go.Pu
open Go.Dn
set_option linter.unusedSimpArgs false
set_option linter.unusedVariables false
noncomputable section
def rE (x:Int×Int):Bool:=decide (x.1<0)|| !bp x.2 0 4096
def hZ (l:List (Int×Int)):Bool:= !l.any rE&&decide ((l.length:Int)≤16)
theorem Ft (l:List (Int×Int)):(bif l.any rE then some false else some (decide ((l.length:Int)≤16)))=some (hZ l):=by
 unfold hZ;cases l.any rE<;>rfl
theorem EY (l:List (Int×Int))(h:l.length≤1000000000):mF l=some (hZ l):=by
 unfold mF
 rw [←Ft]
 refine DE rE l (by omega) (fun i hi nx=> ?_) (fun nx=> ?_)
 ·simp only [lM]
  rw [decide_eq_true (by omega),cond_true,ax hi,ab,bm,wrap64 (by omega) (by omega)]
  unfold rE
  cases decide (l[i].1<0) with
  |true=>rfl
  |false=>simp only [cond_false,ab,Bool.false_or];rfl
 ·simp only [lM]
  rw [decide_eq_false (by omega),cond_false]
theorem FN (l:List (Int×Int))(h:l.length≤1000000000):mW l=some (hZ l):=by
 unfold mW
 rw [←Ft]
 refine DE rE l (by omega) (fun i hi nx=> ?_) (fun nx=> ?_)
 ·simp only [l8]
  rw [decide_eq_true (by omega),cond_true,ax hi,ab,ab,bh,wrap64 (by omega) (by omega)]
  unfold rE
  cases decide (l[i].1<0) with
  |true=>rfl
  |false=>simp only [cond_false,ab,Bool.false_or];rfl
 ·simp only [l8]
  rw [decide_eq_false (by omega),cond_false]
theorem vx {l:List (Int×Int)}(h:hZ l=true):l.length≤16∧∀x∈l,0≤x.1∧0≤x.2∧x.2≤4096:=by
 unfold hZ at h
 simp only [Bool.and_eq_true,decide_eq_true_eq,Bool.not_eq_true'] at h
 refine ⟨by omega,fun x hx=> ?_⟩
 have:=List.any_eq_false.1 h.1 x hx
 unfold rE at this
 simp only [Bool.or_eq_true,decide_eq_true_eq,Bool.not_eq_true',not_or,Bool.not_eq_false,aQ] at this
 omega
def V5 (n:Nat)(c:Int)(i:Nat)(x:Int×Int):Int×Int×Int×Int×Int×Int:=(1,(if i+1=n then 1 else 0),x.2,x.1,0,c)
def nQ (ps:List (Int×Int))(c:Int):Nat→List (Int×Int×Int×Int×Int×Int)
 |0=>[]
 |i+1=>nQ ps c i++[V5 ps.length c i (ps.getD i (0,0))]
theorem vc (ps:List (Int×Int))(c:Int):∀i,(nQ ps c i).length=i
 |0=>rfl
 |i+1=>by rw [nQ,List.length_append,vc ps c i];rfl
theorem BC (ps:List (Int×Int))(c:Int)(q:Int×Int×Int×Int×Int×Int→Bool):∀i,(nQ ps c i).all q=(List.range i).all (fun j=>q (V5 ps.length c j (ps.getD j (0,0))))
 |0=>rfl
 |i+1=>by rw [nQ,List.all_append,BC ps c q i,List.range_succ,List.all_append];rfl
def um (ps:List (Int×Int))(z c:Int):List (Int×Int×Int×Int×Int×Int):=
 bif ((ps.length:Int)==0)||(!hZ ps|| !bp z 1 128) then [] else
 bif ([(2,0,0,0,z,c)]++nQ ps c ps.length).all mz then [(2,0,0,0,z,c)]++nQ ps c ps.length else []
theorem I4 (ps:List (Int×Int))(z c:Int)(h:ps.length≤1000000000):∃b,gZ ps z c=some (b,um ps z c)∧(b=false→um ps z c=[]):=by
 unfold gZ um
 rw [EY ps h,bm]
 simp only [ab]
 cases ((ps.length:Int)==0) with|true=>exact ⟨false,rfl,fun _=>rfl⟩|false=> ?_
 cases hZ ps with|false=>exact ⟨false,rfl,fun _=>rfl⟩|true=> ?_
 cases bp z 1 128 with|false=>exact ⟨false,rfl,fun _=>rfl⟩|true=> ?_
 simp only [Bool.not_true,cond_false,ab,Bool.or_self]
 refine ⟨([(2,0,0,0,z,c)]++nQ ps c ps.length).all mz, ?_,fun hb=>by rw [hb];rfl⟩
 refine bz (fun i=>(([(2,0,0,0,z,c)]++nQ ps c i,(i:Int)):List (Int×Int×Int×Int×Int×Int)×Int)) ps.length (by omega) (fun i nx hi=> ?_) (fun nx=> ?_)
 ·have hl:=vc ps c i
  simp only [eP]
  rw [decide_eq_true (by omega),cond_true,ax hi,ab,wrap64 (n:=(ps.length:Int)-1) (by omega) (by omega),wrap64 (by omega) (by omega)]
  have e:[(2,0,0,0,z,c)]++nQ ps c (i+1)=([(2,0,0,0,z,c)]++nQ ps c i)++[V5 ps.length c i ps[i]]:=by
   rw [nQ,bB hi,List.append_assoc]
  rw [e]
  unfold V5
  by_cases hc:i+1=ps.length
  ·rw [show ((i:Int)==(ps.length:Int)-1)=true from by rw [beq_iff_eq];omega,if_pos hc]
   simp only [cond_true]
   rw [ao (by simp only [List.length_append,List.length_singleton];omega)];rfl
  ·rw [show ((i:Int)==(ps.length:Int)-1)=false from by rw [beq_eq_false_iff_ne];omega,if_neg hc]
   simp only [cond_false]
   rw [ao (by simp only [List.length_append,List.length_singleton];omega)];rfl
 ·simp only [eP]
  rw [decide_eq_false (by omega),cond_false]
  have hl:=vc ps c ps.length
  generalize hq:[(2,0,0,0,z,c)]++nQ ps c ps.length=q
  have hn:q.length≤1000000001:=by rw [←hq];simp only [List.length_append,List.length_singleton];omega
  rw [lF (fin:=some (true,q)) (hit:=some (false,[])) mz q (by omega) (fun i hi nx=> ?_) (fun nx=> ?_)]
  ·cases q.all mz<;>rfl
  ·simp only [ef]
   rw [decide_eq_true (by omega),cond_true,ax hi,ab,Lg,ab,wrap64 (by omega) (by omega)];rfl
  ·simp only [ef]
   rw [decide_eq_false (by omega),cond_false]
theorem JH (ps:List (Int×Int))(z c:Int)(h:ps.length≤1000000000):h9 ps z c=some (um ps z c):=by
 unfold h9 um
 rw [FN ps h,bh]
 simp only [ab]
 cases ((ps.length:Int)==0) with|true=>rfl|false=> ?_
 cases hZ ps with|false=>rfl|true=> ?_
 cases bp z 1 128 with|false=>rfl|true=> ?_
 have i0:idx [((2,0,0,0,z,c):Int×Int×Int×Int×Int×Int)] 0=some (2,0,0,0,z,c):=rfl
 simp only [Bool.not_true,cond_false,ab,Bool.or_self,i0,Bd,List.all_append,List.all_cons,List.all_nil,Bool.and_true]
 cases mz (2,0,0,0,z,c) with|false=>rfl|true=> ?_
 simp only [Bool.not_true,cond_false,Bool.true_and]
 rw [BC]
 refine (Bx (fin:=some ([(2,0,0,0,z,c)]++nQ ps c ps.length)) (hit:=some []) (fun i=>(([(2,0,0,0,z,c)]++nQ ps c i,(i:Int)):List (Int×Int×Int×Int×Int×Int)×Int)) (fun j=>mz (V5 ps.length c j (ps.getD j (0,0)))) ps.length (by omega) (fun i nx hi _=> ?_) (fun _ nx=> ?_)).trans ?_
 ·have hl:=vc ps c i
  simp only [eV]
  rw [decide_eq_true (by omega),cond_true,ax hi,ab,ab,wrap64 (n:=(ps.length:Int)-1) (by omega) (by omega),wrap64 (by omega) (by omega)]
  have e:[(2,0,0,0,z,c)]++nQ ps c (i+1)=([(2,0,0,0,z,c)]++nQ ps c i)++[V5 ps.length c i ps[i]]:=by
   rw [nQ,bB hi,List.append_assoc]
  rw [e,bB hi]
  unfold V5
  by_cases hc:i+1=ps.length
  ·rw [show ((i:Int)==(ps.length:Int)-1)=true from by rw [beq_iff_eq];omega,if_pos hc]
   simp only [cond_true,Bd,ab]
   rw [ao (by simp only [List.length_append,List.length_singleton];omega)];rfl
  ·rw [show ((i:Int)==(ps.length:Int)-1)=false from by rw [beq_eq_false_iff_ne];omega,if_neg hc]
   simp only [cond_false,Bd,ab]
   rw [ao (by simp only [List.length_append,List.length_singleton];omega)];rfl
 ·simp only [eV]
  rw [decide_eq_false (by omega),cond_false]
 ·cases (List.range ps.length).all (fun j=>mz (V5 ps.length c j (ps.getD j (0,0))))<;>rfl
def ya (x y:Int×Int×Int×Int×Int×Int):Bool:=(x.1==y.1)&&((x.2.1==y.2.1)&&((x.2.2.1==y.2.2.1)&&((x.2.2.2.1==y.2.2.2.1)&&((x.2.2.2.2.1==y.2.2.2.2.1)&&((x.2.2.2.2.2==y.2.2.2.2.2)&&true)))))
def wP (a b:List (Int×Int×Int×Int×Int×Int)):Bool:=((a.length:Int)==(b.length:Int))&&(List.range a.length).all fun i=>ya (a.getD i xg) (b.getD i xg)
theorem RO (a b:List (Int×Int×Int×Int×Int×Int))(ha:a.length≤1000000000):sP a b=some (wP a b):=by
 unfold sP wP
 cases hl:((a.length:Int)==(b.length:Int)) with
 |false=>simp only [bne,hl,Bool.not_false,cond_true,Bool.false_and]
 |true=>
  have hn:a.length=b.length:=by have:=of_decide_eq_true hl;omega
  simp only [bne,hl,Bool.not_true,cond_false,Bool.true_and]
  rw [jU (fin:=some true) (hit:=some false) (fun i=>ya (a.getD i xg) (b.getD i xg)) a.length (by omega) (fun i nx hi=> ?_) (fun nx=> ?_)]
  ·cases (List.range a.length).all (fun i=>ya (a.getD i xg) (b.getD i xg))<;>rfl
  ·have hi2:i<b.length:=by omega
   simp only [nE]
   rw [decide_eq_true (by omega),cond_true,ax hi,ax hi2,ab,ab,wrap64 (by omega) (by omega),bB hi,bB hi2];rfl
  ·simp only [nE]
   rw [decide_eq_false (by omega),cond_false]
def cJ (l:List (Int×Int×Int×Int×Int×Int)):List (Int×Int):=(l.drop 1).map fun x=>(x.2.2.2.1,x.2.2.1)
def cn (l:List (Int×Int×Int×Int×Int×Int)):List (Int×Int)×Int×Int×Bool:=
 match l with
 |h::x::r=>bif wP (um (cJ l) h.2.2.2.2.1 h.2.2.2.2.2) l then (cJ l,h.2.2.2.2.1,h.2.2.2.2.2,true) else ([],0,0,false)
 |_=>([],0,0,false)
theorem GU (ps:List (Int×Int))(z c:Int):(um ps z c).length≤ps.length+1:=by
 unfold um
 cases ((ps.length:Int)==0)||(!hZ ps|| !bp z 1 128) with|true=>simp|false=> ?_
 cases ([(2,0,0,0,z,c)]++nQ ps c ps.length).all mz with
 |false=>simp
 |true=>simp only [cond_false,cond_true,List.length_append,List.length_singleton,vc];omega
theorem JM (l:List (Int×Int×Int×Int×Int×Int))(hl:l.length≤1000000000):jv l=some (cn l):=by
 unfold jv
 match l,hl with
 |[],_=>
  obtain ⟨g,hg⟩:∃g,fuel=g+1:=⟨fuel-1,by have:=bl;omega⟩
  rw [hg,aq];rfl
 |h::q,hl=>
  simp only [List.length_cons] at hl
  have he:∀i,i≤q.length→(q.map fun x=>(x.2.2.2.1,x.2.2.1)).take i=(q.take i).map fun x=>(x.2.2.2.1,x.2.2.1):=fun i hi=>by rw [List.map_take]
  refine bz (fun i=>(((q.take i).map (fun x=>(x.2.2.2.1,x.2.2.1)),((i+1:Nat):Int)):List (Int×Int)×Int)) q.length (by omega) (fun i nx hi=> ?_) (fun nx=> ?_)
  ·have hi2:i+1<(h::q).length:=by simp;omega
   have e2:(h::q)[i+1]=q[i]:=rfl
   simp only [fQ]
   rw [decide_eq_true (by simp only [List.length_cons];omega),cond_true,ax hi2,ab,ab,ao (by simp only [List.length_map,List.length_take,List.length_singleton];omega),wrap64 (by omega) (by omega),e2,List.take_succ_eq_append_getElem hi,List.map_append];rfl
  ·have i0:idx (h::q) 0=some h:=rfl
   simp only [fQ]
   rw [decide_eq_false (by simp only [List.length_cons];omega),cond_false,List.take_length]
   have hp:q.map (fun x=>(x.2.2.2.1,x.2.2.1))=cJ (h::q):=rfl
   have hpl:(cJ (h::q)).length=q.length:=by rw [←hp,List.length_map]
   rw [hp]
   have hdl:=GU (cJ (h::q)) h.2.2.2.2.1 h.2.2.2.2.2
   simp only [i0,ab,JH (cJ (h::q)) _ _ (show (cJ (h::q)).length≤1000000000 by omega),RO _ (h::q) (show (um (cJ (h::q)) h.2.2.2.2.1 h.2.2.2.2.2).length≤1000000000 by omega)]
   cases q with
   |nil=>rfl
   |cons x r=>
    have:(((cJ (h::x::r)).length:Int)==0)=false:=by rw [hpl];rfl
    rw [this]
    simp only [cond_false,ab,cn]
    cases wP (um (cJ (h::x::r)) h.2.2.2.2.1 h.2.2.2.2.2) (h::x::r)<;>rfl
theorem I7 (l:List (Int×Int×Int×Int×Int×Int))(hl:l.length≤1000000000):jg l=some (cn l):=by
 unfold jg
 match l,hl with
 |[],_=>rfl
 |[h],_=>rfl
 |h::y::r,hl=>
  generalize hq:y::r=q
  have hq1:1≤q.length:=by rw [←hq];simp
  have hlen:q.length+1≤1000000000:=by rw [←hq];simpa using hl
  have i0:idx (h::q) 0=some h:=rfl
  have s0:sub (h::q) 1 (((h::q).length:Nat):Int)=some q:=mi (l:=h::q) 1 (by simp) (a:=1) rfl
  rw [decide_eq_false (by simp only [List.length_cons];omega),cond_false,s0,ab]
  refine bz (fun i=>(((q.take i).map (fun x=>(x.2.2.2.1,x.2.2.1)),(i:Int)):List (Int×Int)×Int)) q.length (by omega) (fun i nx hi=> ?_) (fun nx=> ?_)
  ·simp only [fM]
   rw [decide_eq_true (by omega),cond_true,ax hi,ab,ao (by simp only [List.length_map,List.length_take,List.length_singleton];omega),wrap64 (by omega) (by omega),List.take_succ_eq_append_getElem hi,List.map_append];rfl
  ·simp only [fM]
   rw [decide_eq_false (by omega),cond_false,List.take_length]
   have hp:q.map (fun x=>(x.2.2.2.1,x.2.2.1))=cJ (h::q):=rfl
   have hpl:(cJ (h::q)).length=q.length:=by rw [←hp,List.length_map]
   rw [hp]
   have hdl:=GU (cJ (h::q)) h.2.2.2.2.1 h.2.2.2.2.2
   obtain ⟨b,hd,hb⟩:=I4 (cJ (h::q)) h.2.2.2.2.1 h.2.2.2.2.2 (by omega)
   have hR:cn (h::q)=bif wP (um (cJ (h::q)) h.2.2.2.2.1 h.2.2.2.2.2) (h::q) then (cJ (h::q),h.2.2.2.2.1,h.2.2.2.2.2,true) else ([],0,0,false):=by
    rw [←hq];rfl
   rw [hR]
   simp only [i0,ab,hd]
   have hlc:(((h::q).length:Nat):Int)=(q.length:Int)+1:=by simp only [List.length_cons];omega
   generalize um (cJ (h::q)) h.2.2.2.2.1 h.2.2.2.2.2=w at hdl hb⊢
   have core:∀(K:Option (List (Int×Int)×Int×Int×Bool))(w':List (Int×Int×Int×Int×Int×Int)),w'=w→(bif ((w'.length:Nat):Int) !=(((h::q).length:Nat):Int) then some (([]:List (Int×Int)),(0:Int),(0:Int),false) else
    aq (cK (fun y10=>some (cJ (h::q),h.2.2.2.2.1,h.2.2.2.2.2,true)) (fun y11 y12 y13 y14 y15=>some (y11,y12,y13,y14)) (h::q) (cJ (h::q)) h.2.2.2.2.1 h.2.2.2.2.2 w' ((w'.length:Nat):Int)) fuel 0)=some (bif wP w (h::q) then (cJ (h::q),h.2.2.2.2.1,h.2.2.2.2.2,true) else ([],0,0,false)):=by
    intro K w' e
    subst e
    unfold wP
    cases hl:((w'.length:Int)==(((h::q).length:Nat):Int)) with
    |false=>simp only [bne,hl,Bool.not_false,cond_true,Bool.false_and,cond_false]
    |true=>
     have hn:w'.length=(h::q).length:=by have:=of_decide_eq_true hl;omega
     simp only [bne,hl,Bool.not_true,cond_false,Bool.true_and]
     rw [jU (fin:=some (cJ (h::q),h.2.2.2.2.1,h.2.2.2.2.2,true)) (hit:=some ([],0,0,false)) (fun i=>ya (w'.getD i xg) ((h::q).getD i xg)) w'.length (by omega) (fun i nx hi=> ?_) (fun nx=> ?_)]
     ·cases (List.range w'.length).all (fun i=>ya (w'.getD i xg) ((h::q).getD i xg))<;>rfl
     ·have hi2:i<(h::q).length:=by omega
      simp only [cK]
      rw [decide_eq_true (by omega),cond_true,ax hi,ax hi2,ab,ab,wrap64 (by omega) (by omega),bB hi,bB hi2];rfl
     ·simp only [cK]
      rw [decide_eq_false (by omega),cond_false]
   cases b with
   |true=>exact core none w rfl
   |false=>exact core none [] (hb rfl).symm
theorem CJ {l:List (Int×Int×Int×Int×Int×Int)}(h:(cn l).2.2.2=true):hZ (cn l).1=true∧∀p∈(cn l).1,p.1≤4294967295:=by
 match l,h with
 |hd::x::r,h=>
  unfold cn at h⊢
  simp only at h⊢
  cases hs:wP (um (cJ (hd::x::r)) hd.2.2.2.2.1 hd.2.2.2.2.2) (hd::x::r) with
  |false=>rw [hs] at h;cases h
  |true=>
   simp only [cond_true]
   generalize hw:cJ (hd::x::r)=ps at hs⊢
   unfold wP at hs
   simp only [Bool.and_eq_true] at hs
   have hn:=of_decide_eq_true hs.1
   unfold um at hn
   cases hc:((ps.length:Int)==0)||(!hZ ps|| !bp hd.2.2.2.2.1 1 128) with
   |true=>rw [hc] at hn;simp at hn;omega
   |false=>
    rw [hc] at hn
    cases ha:([(2,0,0,0,hd.2.2.2.2.1,hd.2.2.2.2.2)]++nQ ps hd.2.2.2.2.2 ps.length).all mz with
    |false=>rw [ha] at hn;simp at hn;omega
    |true=>
     simp only [Bool.or_eq_false_iff,Bool.not_eq_false'] at hc
     refine ⟨hc.2.1,fun p hp=> ?_⟩
     rw [List.all_append,BC,Bool.and_eq_true] at ha
     obtain ⟨i,hi,rfl⟩:=List.getElem_of_mem hp
     have:=List.all_eq_true.1 ha.2 i (List.mem_range.2 hi)
     rw [bB hi] at this
     simp only [mz,V5,Bool.and_eq_true,aQ] at this
     omega
theorem vd (l:List ae)(m:List Bytes)(d a n:Int):(il l m d a n).1.length≤33554432:=by
 have hL:=yK l m d a n false
 have h1:=lv m (gD l m d a n false).1
 unfold il
 cases (gD l m d a n false).2 with
 |false=>simp
 |true=>simp only [cond_true];omega
def vT (l:List ae)(m:List Bytes)(d:Int):List (Int×Int)→Bytes→Bytes×Bool
 |[],acc=>(acc,true)
 |p::ps,acc=>bif (il l m d p.1 p.2).2 then vT l m d ps (acc++(il l m d p.1 p.2).1) else ([],false)
def gY (l:List ae)(m:List Bytes)(d:Int)(ps:List (Int×Int)):Bytes×Bool:=bif hZ ps then vT l m d ps [] else ([],false)
def uv (l:List ae)(m:List Bytes)(d:Int)(p:Int×Int)(s:Bytes):Except (Option (Bytes×Bool)) Bytes:=
 if (il l m d p.1 p.2).2=true then .ok (s++(il l m d p.1 p.2).1) else .error (some ([],false))
theorem zL (l:List ae)(m:List Bytes)(d:Int):∀(ps:List (Int×Int))(s:Bytes),JA (uv l m d) (fun s=>some (s,true)) ps s=some (vT l m d ps s)
 |[],s=>rfl
 |p::ps,s=>by
  rw [JA,vT]
  unfold uv
  cases hd:(il l m d p.1 p.2).2 with
  |false=>rfl
  |true=>rw [if_pos rfl];exact zL l m d ps _
theorem Cy (l:List ae)(m:List Bytes)(d:Int):∀(ps:List (Int×Int))(s:Bytes),(vT l m d ps s).1.length≤s.length+33554432*ps.length
 |[],s=>by simp [vT]
 |p::ps,s=>by
  have h1:=vd l m d p.1 p.2
  rw [vT]
  cases (il l m d p.1 p.2).2 with
  |false=>simp
  |true=>
   have:=Cy l m d ps (s++(il l m d p.1 p.2).1)
   rw [List.length_append] at this
   simp only [cond_true,List.length_cons,Nat.mul_add]
   omega
theorem Cz (l:List ae)(m:List Bytes)(d:Int)(ps:List (Int×Int)):(gY l m d ps).1.length≤1000000000:=by
 unfold gY
 cases hp:hZ ps with
 |false=>simp
 |true=>
  have:=(vx hp).1
  have:=Cy l m d ps []
  simp only [List.length_nil] at this
  simp only [cond_true];omega
theorem Ns (l:List ae)(m:List Bytes)(d:Int)(ps:List (Int×Int))(hl:l.length≤1000000000)(hm:m.length≤1000000000)(hn:ps.length≤1000000000)(ha:∀p∈ps,p.1≤9223372036854775807):ku l m d ps=some (gY l m d ps):=by
 unfold ku gY
 rw [EY ps hn,ab]
 cases hp:hZ ps with|false=>rfl|true=> ?_
 have h16:=(vx hp).1
 simp only [Bool.not_true,cond_false,cond_true]
 rw [←zL]
 refine vC ps (fun s i=>(s,(i:Int))) (fun i s=>s.length≤33554432*i) (uv l m d) _ (by omega) (fun i hi s nx hI=> ?_) (fun i hi s s' hI he=> ?_) (fun s nx hI=> ?_) [] (by simp)
 ·have h1:=vd l m d ps[i].1 ps[i].2
  simp only [gx]
  rw [decide_eq_true (by omega),cond_true,ax hi,ab,uw l m d _ _ hl hm (ha _ (List.getElem_mem hi)),ab]
  unfold uv
  cases hd:(il l m d ps[i].1 ps[i].2).2 with
  |false=>rfl
  |true=>
   rw [if_pos rfl,ao (by omega),wrap64 (by omega) (by omega)];rfl
 ·have h1:=vd l m d ps[i].1 ps[i].2
  unfold uv at he
  split at he
  ·injection he with he
   rw [←he,List.length_append];omega
  ·cases he
 ·simp only [gx]
  rw [decide_eq_false (by omega),cond_false]
theorem Ok (l:List ae)(m:List Bytes)(d:Int)(ps:List (Int×Int))(hl:l.length≤1000000000)(hm:m.length≤1000000000)(hn:ps.length≤1000000000)(ha:∀p∈ps,p.1≤9223372036854775807):kK l m d ps=some (gY l m d ps):=by
 unfold kK gY
 rw [FN ps hn,ab]
 cases hp:hZ ps with|false=>rfl|true=> ?_
 have h16:=(vx hp).1
 simp only [Bool.not_true,cond_false,cond_true]
 rw [←zL]
 refine vC ps (fun s i=>(s,(i:Int))) (fun i s=>s.length≤33554432*i) (uv l m d) _ (by omega) (fun i hi s nx hI=> ?_) (fun i hi s s' hI he=> ?_) (fun s nx hI=> ?_) [] (by simp)
 ·have h1:=vd l m d ps[i].1 ps[i].2
  simp only [gH]
  rw [decide_eq_true (by omega),cond_true,ax hi,ab,ab,rH l m d _ _ hl hm (ha _ (List.getElem_mem hi)),ab]
  unfold uv
  cases hd:(il l m d ps[i].1 ps[i].2).2 with
  |false=>rfl
  |true=>
   rw [if_pos rfl,ao (by omega),wrap64 (by omega) (by omega)];rfl
 ·have h1:=vd l m d ps[i].1 ps[i].2
  unfold uv at he
  split at he
  ·injection he with he
   rw [←he,List.length_append];omega
  ·cases he
 ·simp only [gH]
  rw [decide_eq_false (by omega),cond_false]
end
end Go.Pu
end
section
namespace Go.Pu
open Go.Dn
set_option linter.unusedSimpArgs false
set_option linter.unusedVariables false
noncomputable section
theorem dM {x y:Bytes}{i:Nat}(h:i<x.length):aD (x++y) i=aD x i:=by
 unfold aD
 rw [List.getD_eq_getElem?_getD,List.getD_eq_getElem?_getD,List.getElem?_append_left h]
theorem nP {x y:Bytes}{i:Nat}(h:x.length≤i):aD (x++y) i=aD y (i-x.length):=by
 unfold aD
 rw [List.getD_eq_getElem?_getD,List.getD_eq_getElem?_getD,List.getElem?_append_right h]
theorem Kd {x:Bytes}{i n:Nat}(h:i<n):aD (x.take n) i=aD x i:=by
 unfold aD
 rw [List.getD_eq_getElem?_getD,List.getD_eq_getElem?_getD,List.getElem?_take_of_lt h]
theorem gj {x:Bytes}{i n:Nat}:aD (x.drop n) i=aD x (n+i):=by
 unfold aD
 rw [List.getD_eq_getElem?_getD,List.getD_eq_getElem?_getD,List.getElem?_drop]
theorem Jr {s p:Bytes}{a i:Nat}(h:i<a∨a+p.length≤i):aD (od s (a:Int) p) i=aD s i:=by
 unfold od bU
 by_cases hw:(0:Int)≤a∧(a:Int)+(p.length:Int)≤(s.length:Int)
 ·rw [decide_eq_true hw,cond_true,Int.toNat_natCast]
  have ht:(s.take a).length=a:=by rw [List.length_take];omega
  rcases h with h|h
  ·rw [dM (by rw [List.length_append];omega),dM (by omega),Kd h]
  ·rw [nP (by rw [List.length_append];omega),gj,List.length_append,ht]
   congr 1;omega
 ·rw [decide_eq_false hw];rfl
theorem PE {s p:Bytes}{a j:Nat}(hw:a+p.length≤s.length)(hj:j<p.length):aD (od s (a:Int) p) (a+j)=aD p j:=by
 unfold od bU
 rw [decide_eq_true ⟨by omega,by omega⟩,cond_true,Int.toNat_natCast]
 have ht:(s.take a).length=a:=by rw [List.length_take];omega
 rw [dM (by rw [List.length_append];omega),nP (by omega),ht]
 congr 1;omega
theorem nT {s:Bytes}{a:Nat}:aL s (a:Int)=bif decide (a+2≤s.length) then ((aD s a*256+aD s (a+1):Nat):Int) else-1:=by
 unfold aL bU
 rw [Int.toNat_natCast,show decide ((0:Int)≤a∧(a:Int)+2≤(s.length:Int))=decide (a+2≤s.length) from decide_eq_decide.2 (by omega)]
theorem xI {s t:Bytes}{a:Nat}(hl:s.length=t.length)(h0:aD s a=aD t a)(h1:aD s (a+1)=aD t (a+1)):aL s (a:Int)=aL t (a:Int):=by
 rw [nT,nT,hl,h0,h1]
theorem EM {s:Bytes}{k a:Nat}:aL (s.drop k) (a:Int)=aL s ((k+a:Nat):Int):=by
 rw [nT,nT,gj,gj,List.length_drop,show k+(a+1)=k+a+1 by omega,show decide (a+2≤s.length-k)=decide (k+a+2≤s.length) from decide_eq_decide.2 (by omega)]
theorem yB {s:Bytes}{a:Nat}:bW s (a:Int)=bif decide (a+4≤s.length) then (((aD s a*256+aD s (a+1))*65536+(aD s (a+2)*256+aD s (a+3)):Nat):Int) else-1:=by
 unfold bW bU
 rw [Int.toNat_natCast,show decide ((0:Int)≤a∧(a:Int)+4≤(s.length:Int))=decide (a+4≤s.length) from decide_eq_decide.2 (by omega)]
theorem EN {s:Bytes}{k a:Nat}:bW (s.drop k) (a:Int)=bW s ((k+a:Nat):Int):=by
 rw [yB,yB,gj,gj,gj,gj,List.length_drop,show k+(a+1)=k+a+1 by omega,show k+(a+2)=k+a+2 by omega,show k+(a+3)=k+a+3 by omega,show decide (a+4≤s.length-k)=decide (k+a+4≤s.length) from decide_eq_decide.2 (by omega)]
theorem K3 {s t:Bytes}{a:Nat}(hl:s.length=t.length)(h:∀j,j<4→aD s (a+j)=aD t (a+j)):bW s (a:Int)=bW t (a:Int):=by
 rw [yB,yB,hl,show aD s a=aD t a from h 0 (by omega),h 1 (by omega),h 2 (by omega),h 3 (by omega)]
def aI (s:Bytes):Nat:=bif aL s 12==33024 then 18 else 14
def db (s:Bytes):Nat:=aD s (aI s+9)
def C8 (k:Nat):Nat:=bif (k:Int)==6 then 16 else 6
def oe (s:Bytes):Nat:=aI s+10
def lC (s:Bytes):Nat:=aI s+20+C8 (db s)
theorem yP (k:Nat):C8 k=16∧k=6∨C8 k=6∧k≠6:=by
 unfold C8
 by_cases h:k=6
 ·subst h;exact .inl ⟨rfl,rfl⟩
 ·exact .inr ⟨by rw [show ((k:Int)==6)=false from by rw [beq_eq_false_iff_ne];omega];rfl,h⟩
theorem Ag (s:Bytes):aI s=18∧(aL s 12==33024)=true∨aI s=14∧(aL s 12==33024)=false:=by
 unfold aI
 cases aL s 12==33024 with
 |true=>exact .inl ⟨rfl,rfl⟩
 |false=>exact .inr ⟨rfl,rfl⟩
theorem BP (k:Nat)(h:k<256):bX (k:Int)=some (C8 k:Int):=by
 unfold bX C8
 cases (k:Int)==6<;>rfl
theorem AF (s:Bytes)(h:s.length≤1000000000):k7 s=some ((oe s:Int),(lC s:Int)):=by
 unfold k7
 rw [pZ s 12 h,ab]
 have hk:=bG s (aI s+9)
 have core:∀o:Nat,aI s=o→(o=18∨o=14)→(bif decide (IntKind.wrap .i64 ((o:Int)+9)<(s.length:Int)) then
  aa (idx s (IntKind.wrap .i64 ((o:Int)+9))) fun x2=>aa (bX (IntKind.wrap .i64 ((UInt8.toNat x2:Int)))) fun r3=>some (IntKind.wrap .i64 ((o:Int)+10),IntKind.wrap .i64 ((IntKind.wrap .i64 ((o:Int)+20))+r3))
  else aa (bX 0) fun r4=>some (IntKind.wrap .i64 ((o:Int)+10),IntKind.wrap .i64 ((IntKind.wrap .i64 ((o:Int)+20))+r4)))=some ((oe s:Int),(lC s:Int)):=by
  intro o ho h2
  have hs:=yP (db s)
  rw [wrap64 (n:=(o:Int)+9) (by omega) (by omega),wrap64 (n:=(o:Int)+10) (by omega) (by omega),wrap64 (n:=(o:Int)+20) (by omega) (by omega)]
  unfold oe lC
  rw [ho]
  by_cases hl:o+9<s.length
  ·obtain ⟨x,hx,ex⟩:=eI hl
   rw [decide_eq_true (by omega),cond_true,show (o:Int)+9=((o+9:Nat):Int) by omega,hx,ab,ex,cA (by rw [←ho];omega),BP _ (by rw [←ho];exact hk),ab,show aD s (o+9)=db s by unfold db;rw [ho],wrap64 (by omega) (by omega)]
   congr 1
  ·have hz:db s=0:=by unfold db;rw [ho];exact zC (by omega)
   have h0:bX 0=some (C8 0:Int):=BP 0 (by omega)
   rw [decide_eq_false (by omega),cond_false,h0,ab,←hz,wrap64 (by omega) (by omega)]
   congr 1
 rcases Ag s with ⟨h1,h2⟩|⟨h1,h2⟩
 ·rw [h2,cond_true];exact core 18 h1 (.inl rfl)
 ·rw [h2,cond_false];exact core 14 h1 (.inr rfl)
theorem FO (s:Bytes)(h:s.length≤1000000000):pQ s=some (bif decide (s.length<aI s+46) then (-1, -1) else ((oe s:Int),(lC s:Int))):=by
 unfold pQ
 rw [kb s 12 h,ab]
 have hk:=bG s (aI s+9)
 have core:∀o:Nat,aI s=o→(o=18∨o=14)→(bif decide ((s.length:Int)<IntKind.wrap .i64 ((o:Int)+46)) then some ((-1),(-1)) else
  aa (idx s (IntKind.wrap .i64 ((o:Int)+9))) fun x2=>bif (IntKind.wrap .i64 ((UInt8.toNat x2:Int)))==6 then some (IntKind.wrap .i64 ((o:Int)+10),IntKind.wrap .i64 ((o:Int)+36)) else some (IntKind.wrap .i64 ((o:Int)+10),IntKind.wrap .i64 ((o:Int)+26)))=some (bif decide (s.length<aI s+46) then (-1, -1) else ((oe s:Int),(lC s:Int))):=by
  intro o ho h2
  rw [wrap64 (n:=(o:Int)+9) (by omega) (by omega),wrap64 (n:=(o:Int)+10) (by omega) (by omega),wrap64 (n:=(o:Int)+46) (by omega) (by omega),wrap64 (n:=(o:Int)+36) (by omega) (by omega),wrap64 (n:=(o:Int)+26) (by omega) (by omega),ho]
  by_cases hl:s.length<o+46
  ·rw [decide_eq_true (show (s.length:Int)<(o:Int)+46 by omega),decide_eq_true hl];rfl
  ·obtain ⟨x,hx,ex⟩:=eI (s:=s) (i:=o+9) (by omega)
   rw [decide_eq_false (show¬(s.length:Int)<(o:Int)+46 by omega),decide_eq_false hl,cond_false,cond_false,show (o:Int)+9=((o+9:Nat):Int) by omega,hx,ab,ex,cA (by rw [←ho];omega),show aD s (o+9)=db s by unfold db;rw [ho]]
   unfold oe lC C8
   rw [ho]
   cases (db s:Int)==6 with
   |true=>simp only [cond_true];congr 2
   |false=>simp only [cond_false];congr 2
 rcases Ag s with ⟨h1,h2⟩|⟨h1,h2⟩
 ·rw [h2,cond_true];exact core 18 h1 (.inl rfl)
 ·rw [h2,cond_false];exact core 14 h1 (.inr rfl)
theorem Pz {a:Int}(h:bp a 0 281474976710655=true):(Q0 a).length=6:=by
 have ha:=aQ.1 h
 have e:Q0 a=aF (Int.fdiv a (2^(min (Int.toNat 32) (IntKind.bits .i64))))++dF (IntKind.wrap .i64 (BitVec.toNat (BitVec.ofInt (IntKind.bits .i64) a&&&BitVec.ofInt (IntKind.bits .i64) 4294967295))):=by
  unfold Q0 dz
  rw [if_neg (by omega)]
  simp only [dw,js,ab]
  have h1:=aA (Int.fdiv a (2^(min (Int.toNat 32) (IntKind.bits .i64))))
  have h2:=bD (IntKind.wrap .i64 (BitVec.toNat (BitVec.ofInt (IntKind.bits .i64) a&&&BitVec.ofInt (IntKind.bits .i64) 4294967295)))
  rw [ao (by omega)];rfl
 have e2:(2:Int)^(min (Int.toNat 32) (IntKind.bits .i64))=4294967296:=rfl
 rw [e,List.length_append,Ac,Gf,Tn,e2]
 rw [show bp (Int.fdiv a 4294967296) 0 65535=true from aQ.2 (by rw [Int.fdiv_eq_ediv_of_nonneg _ (by omega)];omega),show bp (a%4294967296) 0 4294967295=true from aQ.2 (by omega)]
 rfl
theorem Lb {p:aC}(h:cu p=true):aI (bn p).1+46≤(bn p).1.length:=by
 have hh:vi p=true:=by simp only [cu,Bool.and_eq_true] at h;exact h.1
 have hp:=Jo (QU p).1
 have hi:=vj h
 unfold bn Wk KR at hi⊢
 rw [h,cond_true] at hi⊢
 cases he:lI (p.1,p.2.1,p.2.2.1,2048,pad (QU p).1) with|false=>rw [he] at hi;cases hi|true=> ?_
 simp only [cond_true]
 simp only [vi,Bool.and_eq_true] at hh
 have m1:=Pz hh.1
 have m2:=Pz hh.2.1
 have hv:=aQ.1 hh.2.2.1
 have w1:(aF 33024).length=2:=rfl
 have w3:(aF 2048).length=2:=rfl
 generalize pad (QU p).1=bd at hp⊢
 unfold GY
 simp only
 generalize Q0 p.1=M1 at m1⊢
 generalize Q0 p.2.1=M2 at m2⊢
 by_cases hc:p.2.2.1≥0
 ·have w2:(aF p.2.2.1).length=2:=by rw [Ac,aQ.2 (by omega)];rfl
  rw [decide_eq_true hc,cond_true]
  have hb:aI (((((M1++M2)++aF 33024)++aF p.2.2.1)++aF 2048)++bd)=18:=by
   unfold aI
   have V6:aL (((((M1++M2)++aF 33024)++aF p.2.2.1)++aF 2048)++bd) ((12:Nat):Int)=33024:=by
    rw [nT,decide_eq_true (by simp only [List.length_append];omega),cond_true]
    rw [dM (by simp only [List.length_append];omega),dM (by simp only [List.length_append];omega),dM (by simp only [List.length_append];omega),nP (by simp only [List.length_append];omega)]
    rw [dM (by simp only [List.length_append];omega),dM (by simp only [List.length_append];omega),dM (by simp only [List.length_append];omega),nP (by simp only [List.length_append];omega)]
    rw [List.length_append,m1,m2];rfl
   rw [show (12:Int)=((12:Nat):Int) from rfl,V6];rfl
  rw [hb]
  simp only [List.length_append];omega
 ·rw [decide_eq_false hc,cond_false]
  have hb:aI (((M1++M2)++aF 2048)++bd)=14:=by
   unfold aI
   have V6:aL (((M1++M2)++aF 2048)++bd) ((12:Nat):Int)=2048:=by
    rw [nT,decide_eq_true (by simp only [List.length_append];omega),cond_true]
    rw [dM (by simp only [List.length_append];omega),nP (by simp only [List.length_append];omega)]
    rw [dM (by simp only [List.length_append];omega),nP (by simp only [List.length_append];omega)]
    rw [List.length_append,m1,m2];rfl
   rw [show (12:Int)=((12:Nat):Int) from rfl,V6];rfl
  rw [hb]
  simp only [List.length_append];omega
def fO (t:Bytes)(x y:Bytes):Bytes:=od (od t (oe t:Int) x) (lC t:Int) y
theorem xV (t x y:Bytes):(fO t x y).length=t.length:=by unfold fO;rw [py,py]
def pS (p:aC):Bytes×Bool:=bif cu p then (fO (bn p).1 (aF 0) (aF 0),true) else ([],false)
theorem La {p:aC}(h:cu p=false):bn p=([],false):=by unfold bn;rw [h];rfl
theorem QP (p:aC):jX p=some (pS p):=by
 have hl:=sV p
 have w0:=aA 0
 unfold jX pS fO
 rw [yD,ab]
 cases h:cu p with
 |false=>rw [La h];rfl
 |true=>
  rw [vj h]
  simp only [Bool.not_true,cond_false,cond_true,AF _ (show (bn p).1.length≤1000000000 by omega),ab,fB,vY _ _ _ (show (bn p).1.length≤1000000000 by omega) (show (aF 0).length≤1000000000 by omega),vY _ _ _ (show (od (bn p).1 (oe (bn p).1:Int) (aF 0)).length≤1000000000 by rw [py];omega) (show (aF 0).length≤1000000000 by omega)]
theorem RT (p:aC):ki p=some (pS p):=by
 have hl:=sV p
 unfold ki pS fO
 rw [yN,ab]
 cases h:cu p with
 |false=>rw [La h];rfl
 |true=>
  have hs:=Lb h
  rw [vj h]
  simp only [Bool.not_true,cond_false,cond_true,FO _ (show (bn p).1.length≤1000000000 by omega),ab,dw]
  rw [decide_eq_false (by omega),cond_false]
  simp only [uQ _ _ _ (show (bn p).1.length≤1000000000 by omega),uQ _ _ _ (show (od (bn p).1 (oe (bn p).1:Int) (aF 0)).length≤1000000000 by rw [py];omega),ab]
def xe (s t:Bytes):Prop:=s.length=t.length∧∀i,i<oe t∨(oe t+2≤i∧i<lC t)∨lC t+2≤i→aD s i=aD t i
theorem rF (t:Bytes):(aI t=14∨aI t=18)∧oe t=aI t+10∧aI t+26≤lC t∧lC t≤aI t+36∧(lC t=aI t+36∧db t=6∨lC t=aI t+26∧db t≠6):=by
 have h1:=Ag t
 have h2:=yP (db t)
 unfold oe lC
 omega
theorem zk (t:Bytes){x y:Bytes}(hx:x.length≤2)(hy:y.length≤2):xe (fO t x y) t:=by
 have:=rF t
 refine ⟨xV t x y,fun i hi=> ?_⟩
 unfold fO
 rw [Jr (by omega),Jr (by omega)]
theorem xe.body {s t:Bytes}(h:xe s t):aI s=aI t:=by
 have:=rF t
 unfold aI
 have e:aL s ((12:Nat):Int)=aL t ((12:Nat):Int):=xI h.1 (h.2 _ (by omega)) (h.2 _ (by omega))
 rw [show (12:Int)=((12:Nat):Int) from rfl,e]
theorem xe.kind {s t:Bytes}(h:xe s t):db s=db t:=by
 have:=rF t
 unfold db
 rw [h.body,h.2 _ (by omega)]
theorem xe.acq {s t:Bytes}(h:xe s t):oe s=oe t∧lC s=lC t:=by
 unfold oe lC
 rw [h.body,h.kind];exact ⟨rfl,rfl⟩
theorem xe.aht {s t:Bytes}(h:xe s t):aL s ((aI t+2:Nat):Int)=aL t ((aI t+2:Nat):Int):=by
 have:=rF t
 exact xI h.1 (h.2 _ (by omega)) (h.2 _ (by omega))
structure TOk (t:Bytes):Prop where
 eth:(cm t).2=true
 bd:(cm t).1.2.2.2.2=t.drop (aI t)
 l1:aI t+46≤t.length
 n1:20+C8 (db t)+2≤aL t ((aI t+2:Nat):Int)
 n2:aL t ((aI t+2:Nat):Int)≤(t.length:Int)-(aI t:Int)
theorem Ca {s:Bytes}(h:(cm s).2=true):(cm s).1.2.2.2.2=s.drop (aI s)∧18≤s.length∧46≤s.length-aI s∧s.length-aI s≤400:=by
 unfold cm at h⊢
 by_cases h8:(s.length:Int)<18
 ·rw [decide_eq_true h8] at h;cases h
 rw [decide_eq_false h8] at h⊢
 simp only [cond_false] at h⊢
 rcases Ag s with ⟨h1,h2⟩|⟨h1,h2⟩
 ·rw [h2] at h⊢
  simp only [cond_true] at h⊢
  cases he:lI (zH s) with
  |false=>rw [he] at h;cases h
  |true=>
   rw [h1]
   simp only [lI,Bool.and_eq_true,aQ,zH,List.length_drop] at he
   simp only [cond_true,zH]
   refine ⟨trivial,by omega,by omega,by omega⟩
 ·rw [h2] at h⊢
  simp only [cond_false] at h⊢
  cases he:lI (rf s) with
  |false=>rw [he] at h;cases h
  |true=>
   rw [h1]
   simp only [lI,Bool.and_eq_true,aQ,rf,List.length_drop] at he
   simp only [cond_true,rf]
   refine ⟨trivial,by omega,by omega,by omega⟩
theorem Fx {s:Bytes}(h:(eM s).2=0):(cm s).2=true∧(fN (cm s).1.2.2.2.2).2=true∧cu (eM s).1=true∧
 (lq (fN (cm s).1.2.2.2.2).1.2.2.2.2.1 (fN (cm s).1.2.2.2.2).1.2.2.2.2.2.1 (fN (cm s).1.2.2.2.2).1.2.2.2.1 (fN (cm s).1.2.2.2.2).1.2.2.2.2.2.2).2=true:=by
 unfold eM at h⊢
 simp only at h⊢
 generalize cm s=e at h⊢
 cases h1: !e.2||(e.1.2.2.2.1 !=2048) with|true=>rw [h1] at h;cases h|false=> ?_
 rw [h1] at h
 simp only [cond_false] at h⊢
 generalize fN e.1.2.2.2.2=i at h⊢
 cases h2:i.2 with|false=>rw [h2] at h;cases h|true=> ?_
 rw [h2] at h
 simp only [Bool.not_true,cond_false] at h⊢
 generalize lq i.1.2.2.2.2.1 i.1.2.2.2.2.2.1 i.1.2.2.2.1 i.1.2.2.2.2.2.2=g at h⊢
 cases h3:g.2 with|false=>rw [h3] at h;cases h|true=> ?_
 rw [h3] at h
 simp only [Bool.not_true,cond_false] at h⊢
 cases h4:cu (e.1.1,e.1.2.1,e.1.2.2.1,i.1.1,i.1.2.1,i.1.2.2.1,i.1.2.2.2.2.1,i.1.2.2.2.2.2.1,g.1) with|false=>rw [h4] at h;cases h|true=> ?_
 simp only [Bool.or_eq_false_iff,Bool.not_eq_false'] at h1
 exact ⟨h1.1,trivial,h4,trivial⟩
theorem TM {b:Bytes}(h:(fN b).2=true):20≤aL b 2∧aL b 2≤(b.length:Int)∧(fN b).1=wi b:=by
 unfold fN at h⊢
 cases h1:decide ((b.length:Int)<20)||(decide (aL b 2<20)||decide (aL b 2>(b.length:Int))) with|true=>rw [h1] at h;cases h|false=> ?_
 rw [h1] at h
 simp only [cond_false] at h⊢
 cases h2:(J2 (wi b)).2&&((J2 (wi b)).1==b.take (aL b 2).toNat) with|false=>rw [h2] at h;cases h|true=> ?_
 simp only [Bool.or_eq_false_iff,decide_eq_false_iff_not] at h1
 exact ⟨by omega,by omega,rfl⟩
theorem Rv {a b k:Int}{s:Bytes}(h:(lq a b k s).2=true):k=6∧20≤s.length∨k=17∧8≤s.length:=by
 unfold lq at h
 cases h1:(k==6)&&decide ((s.length:Int)≥20) with
 |true=>
  simp only [Bool.and_eq_true,beq_iff_eq,decide_eq_true_eq] at h1
  exact .inl ⟨h1.1,by omega⟩
 |false=>
  rw [h1] at h
  simp only [cond_false] at h
  cases h2:(k==17)&&decide ((s.length:Int)≥8) with
  |true=>
   simp only [Bool.and_eq_true,beq_iff_eq,decide_eq_true_eq] at h2
   exact .inr ⟨h2.1,by omega⟩
  |false=>rw [h2] at h;cases h
theorem Qq {s t:Bytes}(hl:s.length=t.length)(h:∀i,i<18→aD s i=aD t i)(hs:(cm s).2=true):(cm t).2=true:=by
 have g16:∀a,a+2≤18→aL s ((a:Nat):Int)=aL t ((a:Nat):Int):=fun a ha=>xI hl (h _ (by omega)) (h _ (by omega))
 have g32:∀a,a+4≤18→bW s ((a:Nat):Int)=bW t ((a:Nat):Int):=fun a ha=>K3 hl (fun j hj=>h _ (by omega))
 have e0:zd s 0=zd t 0:=by
  unfold zd
  rw [show (0:Int)=((0:Nat):Int) from rfl,g16 0 (by omega),show ((0:Nat):Int)+2=((2:Nat):Int) from rfl,g32 2 (by omega)]
 have e6:zd s 6=zd t 6:=by
  unfold zd
  rw [show (6:Int)=((6:Nat):Int) from rfl,g16 6 (by omega),show ((6:Nat):Int)+2=((8:Nat):Int) from rfl,g32 8 (by omega)]
 have V6:aL s 12=aL t 12:=g16 12 (by omega)
 have e14:aL s 14=aL t 14:=g16 14 (by omega)
 have e16:aL s 16=aL t 16:=g16 16 (by omega)
 have b1:lI (zH s)=lI (zH t):=by unfold lI zH;rw [e0,e6,e14,e16];simp only [List.length_drop,hl]
 have b2:lI (rf s)=lI (rf t):=by unfold lI rf;rw [e0,e6,V6];simp only [List.length_drop,hl]
 unfold cm at hs⊢
 rw [hl,V6,b1,b2] at hs
 cases h8:decide ((t.length:Int)<18) with|true=>rw [h8] at hs;cases hs|false=> ?_
 rw [h8] at hs
 cases h12:aL t 12==33024 with
 |true=>
  rw [h12] at hs
  cases hb:lI (zH t) with
  |true=>rfl
  |false=>rw [hb] at hs;cases hs
 |false=>
  rw [h12] at hs
  cases hb:lI (rf t) with
  |true=>rfl
  |false=>rw [hb] at hs;cases hs
theorem acx {s t:Bytes}(ha:xe s t)(h:(eM s).2=0):TOk t:=by
 have hp:=rF t
 obtain ⟨h1,h2,_,h4⟩:=Fx h
 have he:=Ca h1
 rw [he.1] at h2 h4
 have hi:=TM h2
 have hs:=Rv h4
 rw [hi.2.2] at hs
 have e1:(cm t).2=true:=Qq ha.1 (fun i hi=>ha.2 i (by omega)) h1
 have e2:=Ca e1
 have en:aL (s.drop (aI s)) 2=aL t ((aI t+2:Nat):Int):=by
  have:aL (s.drop (aI s)) ((2:Nat):Int)=aL s ((aI s+2:Nat):Int):=EM
  rw [show (2:Int)=((2:Nat):Int) from rfl,this,ha.body,ha.aht]
 have ek:(wi (s.drop (aI s))).2.2.2.1=(db t:Int):=by
  show (aD (s.drop (aI s)) 9:Int)=_
  rw [gj,←ha.kind];rfl
 have eg:(wi (s.drop (aI s))).2.2.2.2.2.2.length=(aL t ((aI t+2:Nat):Int)).toNat-20:=by
  show (((s.drop (aI s)).take (aL (s.drop (aI s)) 2).toNat).drop 20).length=_
  rw [en,List.length_drop,List.length_take]
  have:=hi.2.1
  rw [en] at this
  omega
 rw [ek,eg] at hs
 rw [en] at hi
 have hn:=hi.2.1
 rw [List.length_drop,ha.1,ha.body] at hn
 have hk:=yP (db t)
 exact ⟨e1,e2.1,by omega,by omega,by omega⟩
theorem R0 {p:aC}{t:Bytes}(h:(pS p).1=t)(hs:cu p=true)(ht:TOk t):aL t (oe t:Int)=0∧aL t (lC t:Int)=0:=by
 unfold pS at h
 rw [hs] at h
 simp only [cond_true] at h
 have w0:(aF 0).length=2:=rfl
 have ha:xe (fO (bn p).1 (aF 0) (aF 0)) (bn p).1:=zk _ (by omega) (by omega)
 rw [h] at ha
 have hp:=rF t
 have hpl:=ha.acq
 have hl:=ht.l1
 have hl2:=ha.1
 have hn1:=ht.n1
 have hn2:=ht.n2
 have hk:=yP (db t)
 have hB:lC t+2≤t.length:=by omega
 have b0:aD (aF 0) 0=0:=rfl
 have b1:aD (aF 0) 1=0:=rfl
 rw [nT,nT,decide_eq_true (by omega),decide_eq_true hB,cond_true,cond_true]
 have eB:∀j,j<2→aD t (lC t+j)=aD (aF 0) j:=by
  intro j hj
  rw [←h]
  unfold fO
  rw [show lC (od (od (bn p).1 (oe (bn p).1:Int) (aF 0)) (lC (bn p).1:Int) (aF 0))=lC (bn p).1 from by
   have:=hpl.2
   rw [←h] at this
   exact this]
  exact PE (by rw [py,w0];omega) (by omega)
 have eA:∀j,j<2→aD t (oe t+j)=aD (aF 0) j:=by
  intro j hj
  rw [←h]
  unfold fO
  rw [show oe (od (od (bn p).1 (oe (bn p).1:Int) (aF 0)) (lC (bn p).1:Int) (aF 0))=oe (bn p).1 from by
   have:=hpl.1
   rw [←h] at this
   exact this]
  rw [Jr (by omega)]
  exact PE (by rw [w0];omega) (by omega)
 have a0:=eA 0 (by omega)
 have a1:=eA 1 (by omega)
 have c0:=eB 0 (by omega)
 have c1:=eB 1 (by omega)
 rw [Nat.add_zero] at a0 c0
 rw [a0,a1,c0,c1,b0,b1]
 exact ⟨rfl,rfl⟩
end
end Go.Pu
end
section
namespace Go.Pu
open Go.Dn
set_option linter.unusedSimpArgs false
set_option linter.unusedVariables false
noncomputable section
def l3 (t:Bytes):Int:=aL t ((aI t+2:Nat):Int)
def yW (t:Bytes):Int:=Gj ((t.take (aI t+20)).drop (aI t))
def C6 (t:Bytes):Bytes:=(t.take (aI t+(l3 t).toNat)).drop (aI t+20)
def Qz (t:Bytes):Bytes:=px (bW t ((aI t+12:Nat):Int)) (bW t ((aI t+16:Nat):Int)) (db t:Int) (l3 t-20)
def u1 (t:Bytes):Int:=bif ((db t:Int)==17)&&(Gj (Qz t++C6 t)==0) then 65535 else Gj (Qz t++C6 t)
def KV (t s:Bytes):Bytes×Bool:=bif ((eM s).2==0)&&((pS (eM s).1).1==t) then bn (eM s).1 else ([],false)
def pV (t:Bytes):Bytes×Bool:=KV t (fO t (aF (yW t)) (aF (u1 t)))
theorem si {t:Bytes}(h:¬(TOk t∧aL t (oe t:Int)=0∧aL t (lC t:Int)=0)):pV t=([],false):=by
 have ha:xe (fO t (aF (yW t)) (aF (u1 t))) t:=zk t (aA _) (aA _)
 unfold pV KV
 generalize fO t (aF (yW t)) (aF (u1 t))=s at ha⊢
 cases h1:(eM s).2==0 with|false=>rfl|true=> ?_
 have h1':(eM s).2=0:=by simpa using h1
 cases h2:(pS (eM s).1).1==t with|false=>rfl|true=> ?_
 have h2':(pS (eM s).1).1=t:=eq_of_beq h2
 have ht:=acx ha h1'
 exact absurd ⟨ht,R0 h2' (Fx h1').2.2.1 ht⟩ h
theorem Bn (t:Bytes)(o n:Nat):(t.drop o).take n=(t.take (o+n)).drop o:=by
 rw [List.drop_take];congr 1;omega
theorem CK {t:Bytes}(h1:aI t+20≤t.length)(h2:20≤l3 t)(h3:l3 t≤(t.length:Int))(h4:t.length≤1000000000):sB (bW t ((aI t+12:Nat):Int)) (bW t ((aI t+16:Nat):Int)) (db t:Int) (l3 t-20)=true:=by
 have a1:=vh (s:=t) (a:=((aI t+12:Nat):Int)) (by omega) (by omega)
 have a2:=vh (s:=t) (a:=((aI t+16:Nat):Int)) (by omega) (by omega)
 have a3:=bG t (aI t+9)
 have a4:=vg (s:=t) (a:=((aI t+2:Nat):Int)) (by omega) (by omega)
 unfold sB
 rw [aQ.2 a1,aQ.2 a2,aQ.2 (show 0≤(db t:Int)∧(db t:Int)≤255 by unfold db;omega),aQ.2 (show 0≤l3 t-20∧l3 t-20≤65535 by unfold l3 at*;omega)];rfl
theorem RL (t:Bytes)(hl:t.length≤1000000000):qN t=some (pV t):=by
 have hp:=rF t
 have hk:=yP (db t)
 have hkb:db t<256:=bG t (aI t+9)
 unfold qN
 rw [FO t hl,ab]
 by_cases h1:t.length<aI t+46
 ·rw [decide_eq_true h1,si fun h=>by have:=h.1.l1;omega];rfl
 rw [decide_eq_false h1]
 simp only [cond_false]
 rw [decide_eq_false (show¬(oe t:Int)<0 by omega)]
 simp only [cond_false,kb t _ hl,ab]
 cases h2:aL t (oe t:Int) !=0 with
 |true=>rw [si fun h=>by rw [h.2.1] at h2;cases h2];rfl
 |false=>
 simp only [cond_false,ab]
 cases h3:aL t (lC t:Int) !=0 with
 |true=>rw [si fun h=>by rw [h.2.2] at h3;cases h3];rfl
 |false=>
 have w1:IntKind.wrap .i64 ((oe t:Int)-10)=(aI t:Int):=by rw [wrap64 (by omega) (by omega)];omega
 have w2:IntKind.wrap .i64 ((aI t:Int)+2)=((aI t+2:Nat):Int):=by rw [wrap64 (by omega) (by omega)];omega
 have w9:IntKind.wrap .i64 ((aI t:Int)+9)=((aI t+9:Nat):Int):=by rw [wrap64 (by omega) (by omega)];omega
 have w12:IntKind.wrap .i64 ((aI t:Int)+12)=((aI t+12:Nat):Int):=by rw [wrap64 (by omega) (by omega)];omega
 have w16:IntKind.wrap .i64 ((aI t:Int)+16)=((aI t+16:Nat):Int):=by rw [wrap64 (by omega) (by omega)];omega
 have w20:IntKind.wrap .i64 ((aI t:Int)+20)=((aI t+20:Nat):Int):=by rw [wrap64 (by omega) (by omega)];omega
 have wb:IntKind.wrap .i64 ((lC t:Int)+2)=(lC t:Int)+2:=by rw [wrap64 (by omega) (by omega)]
 have wc:IntKind.wrap .i64 ((lC t:Int)+2-(aI t:Int))=(lC t:Int)+2-(aI t:Int):=by rw [wrap64 (by omega) (by omega)]
 have wl:IntKind.wrap .i64 ((t.length:Int)-(aI t:Int))=(t.length:Int)-(aI t:Int):=by rw [wrap64 (by omega) (by omega)]
 obtain ⟨x,hx,ex⟩:=eI (s:=t) (i:=aI t+9) (by omega)
 have a4:=vg (s:=t) (a:=((aI t+2:Nat):Int)) (by omega) (by omega)
 simp only [cond_false,ab,w1,w2,w9,hx,wb,wc,wl]
 rw [show aL t ((aI t+2:Nat):Int)=l3 t from rfl] at a4⊢
 by_cases h4:l3 t<(lC t:Int)+2-(aI t:Int)
 ·rw [decide_eq_true h4,si fun h=>by have:=h.1.n1;unfold l3 at h4;omega];rfl
 rw [decide_eq_false h4]
 simp only [cond_false,ab]
 by_cases h5:l3 t>(t.length:Int)-(aI t:Int)
 ·rw [decide_eq_true h5,si fun h=>by have:=h.1.n2;unfold l3 at h5;omega];rfl
 rw [decide_eq_false h5]
 obtain ⟨n,hn⟩:=Int.eq_ofNat_of_zero_le a4.1
 have wn:IntKind.wrap .i64 ((aI t:Int)+l3 t)=((aI t+n:Nat):Int):=by rw [hn,wrap64 (by omega) (by omega)];omega
 have wm:IntKind.wrap .i64 (l3 t-20)=l3 t-20:=by rw [wrap64 (by omega) (by omega)]
 have s1:sub t (aI t:Int) ((aI t+20:Nat):Int)=some ((t.take (aI t+20)).drop (aI t)):=by
  rw [Bl (l:=t) (aI t) rfl (by omega) (by omega),Int.toNat_natCast]
 have s2:sub t ((aI t+20:Nat):Int) ((aI t+n:Nat):Int)=some (C6 t):=by
  rw [Bl (l:=t) (aI t+20) rfl (by omega) (by omega),Int.toNat_natCast]
  unfold C6;rw [hn];rfl
 have hps:=yJ (bW t ((aI t+12:Nat):Int)) (bW t ((aI t+16:Nat):Int)) (db t:Int) (l3 t-20)
 have hseg:(C6 t).length≤65535:=by unfold C6;rw [List.length_drop,List.length_take,hn];omega
 have hk2:IntKind.wrap .i64 ((UInt8.toNat x:Int))=(db t:Int):=by rw [ex,cA (show aD t (aI t+9)<9223372036854775808 by unfold db at hkb;omega)];rfl
 simp only [cond_false,ab,w12,w16,w20,wn,wm,s1,s2,qb t _ hl,hk2,wU,CK (show aI t+20≤t.length by omega) (show 20≤l3 t by omega) (show l3 t≤(t.length:Int) by omega) hl,cond_true]
 rw [show px (bW t ((aI t+12:Nat):Int)) (bW t ((aI t+16:Nat):Int)) (db t:Int) (l3 t-20)=Qz t from rfl] at hps⊢
 rw [Bc _ (by rw [List.length_drop,List.length_take];omega),ab,ao (by omega),Bc _ (by rw [List.length_append];omega),ab]
 rw [show Gj ((t.take (aI t+20)).drop (aI t))=yW t from rfl]
 have hfin:∀y:Int,u1 t=y→(aa (aG (yW t)) fun r16=>aa (bP t (oe t:Int) r16) fun r17=>aa (aG y) fun r18=>aa (bP r17 (lC t:Int) r18) fun r19=>aa (dT r19) fun r20=>
  bif r20.2 !=0 then some (([]:Bytes),false) else aa (ki r20.1) fun r21=>bif !(r21.1==t) then some (([]:Bytes),false) else aa (da r20.1) fun r22=>some r22)=some (pV t):=by
  intro y hy
  subst hy
  rw [dw,ab,uQ t _ _ hl,ab,dw,ab,uQ _ _ _ (by rw [py];exact hl),ab]
  have hlen:=xV t (aF (yW t)) (aF (u1 t))
  unfold pV
  rw [show od (od t (oe t:Int) (aF (yW t))) (lC t:Int) (aF (u1 t))=fO t (aF (yW t)) (aF (u1 t)) from rfl]
  generalize fO t (aF (yW t)) (aF (u1 t))=s at hlen⊢
  simp only [Cm s (by omega),ab,RT,yN,KV,bne]
  cases (eM s).2==0 with|false=>rfl|true=> ?_
  cases (pS (eM s).1).1==t<;>rfl
 cases h7:Gj (Qz t++C6 t)==0 with
 |false=>exact hfin _ (by unfold u1;rw [h7,Bool.and_false];rfl)
 |true=>
  simp only [cond_true,ab]
  cases h8:(db t:Int)==17 with
  |false=>exact hfin _ (by unfold u1;rw [h8];rfl)
  |true=>exact hfin _ (by unfold u1;rw [h7,h8];rfl)
theorem QF (t:Bytes)(hl:t.length≤1000000000):ql t=some (pV t):=by
 have hp:=rF t
 have hk:=yP (db t)
 have hkb:db t<256:=bG t (aI t+9)
 have hel:=wK t
 unfold ql
 rw [AA t hl,ab,pZ _ _ (by omega),ab]
 cases h1:(cm t).2 with
 |false=>rw [si fun h=>by have:=h.1.eth;rw [h1] at this;cases this];rfl
 |true=>
 have he:=Ca h1
 rw [he.1]
 simp only [Bool.not_true,cond_false,ab]
 have en:aL (t.drop (aI t)) 2=l3 t:=EM (a:=2)
 rw [en]
 by_cases h4:l3 t<20
 ·rw [decide_eq_true h4,si fun h=>by have:=h.1.n1;unfold l3 at h4;omega];rfl
 rw [decide_eq_false h4]
 simp only [cond_false,ab]
 by_cases h5:l3 t>((t.drop (aI t)).length:Int)
 ·rw [decide_eq_true h5,si fun h=>by have:=h.1.n2;unfold l3 at h5;rw [List.length_drop] at h5;omega];rfl
 rw [decide_eq_false h5]
 rw [List.length_drop] at h5
 have hdl:(t.drop (aI t)).length=t.length-aI t:=List.length_drop ..
 obtain ⟨n,hn⟩:=Int.eq_ofNat_of_zero_le (show 0≤l3 t by omega)
 obtain ⟨x,hx,ex⟩:=eI (s:=t.drop (aI t)) (i:=9) (by omega)
 have hx9:idx (t.drop (aI t)) 9=some x:=hx
 have s1:sub (t.drop (aI t)) 0 20=some ((t.take (aI t+20)).drop (aI t)):=by
  rw [Dr (by omega) (by omega),←Bn];rfl
 have s2:sub (t.drop (aI t)) 20 (l3 t)=some (C6 t):=by
  rw [Bl (l:=t.drop (aI t)) 20 (a:=20) rfl (by omega) (by omega),hn,Int.toNat_natCast,Bn,List.drop_drop]
  unfold C6;rw [hn];rfl
 have hps:=yJ (bW t ((aI t+12:Nat):Int)) (bW t ((aI t+16:Nat):Int)) (db t:Int) (l3 t-20)
 have hseg:((C6 t).length:Int)=l3 t-20:=by unfold C6;rw [List.length_drop,List.length_take,hn];omega
 have hk2:IntKind.wrap .i64 ((UInt8.toNat x:Int))=(db t:Int):=by rw [ex,gj,cA (show aD t (aI t+9)<9223372036854775808 by unfold db at hkb;omega)];rfl
 have g12:bW (t.drop (aI t)) 12=bW t ((aI t+12:Nat):Int):=EN (a:=12)
 have g16:bW (t.drop (aI t)) 16=bW t ((aI t+16:Nat):Int):=EN (a:=16)
 have hw:IntKind.wrap .i64 ((C8 (db t):Int)+2)=(C8 (db t):Int)+2:=by rw [wrap64 (by omega) (by omega)]
 simp only [cond_false,ab,AF t hl,s1,s2,hx9,sW _ _ (show (t.drop (aI t)).length≤1000000000 by omega),hk2,EZ,hseg,g12,g16,CK (show aI t+20≤t.length by omega) (show 20≤l3 t by omega) (show l3 t≤(t.length:Int) by omega) hl,cond_true,Bool.not_true,BP _ hkb,hw]
 rw [show px (bW t ((aI t+12:Nat):Int)) (bW t ((aI t+16:Nat):Int)) (db t:Int) (l3 t-20)=Qz t from rfl] at hps⊢
 by_cases h6:(C8 (db t):Int)+2>l3 t-20
 ·rw [decide_eq_true h6,si fun h=>by have:=h.1.n1;unfold l3 at h6;omega];rfl
 rw [decide_eq_false h6]
 simp only [cond_false]
 have hck:((t.take (aI t+20)).drop (aI t)).length≤1000000000:=by rw [List.length_drop,List.length_take];omega
 rw [ao (by omega),Dj _ (by rw [List.length_append];omega),ab]
 have hfin:∀y:Int,u1 t=y→(aa (dG ((t.take (aI t+20)).drop (aI t))) fun r25=>aa (aJ r25) fun r26=>aa (cl t (oe t:Int) r26) fun r27=>aa (aJ y) fun r28=>aa (cl r27 (lC t:Int) r28) fun r29=>aa (dQ r29) fun r30=>aa (jX r30.1) fun r31=>
  aa (bif r30.2 !=0 then some true else bif !r31.2 then some true else some (!(r31.1==t))) fun q32=>bif q32 then some (([]:Bytes),false) else aa (c8 r30.1) fun r33=>some r33)=some (pV t):=by
  intro y hy
  subst hy
  have b1:=aA (yW t)
  have b2:=aA (u1 t)
  rw [Dj _ hck,ab,show Gj ((t.take (aI t+20)).drop (aI t))=yW t from rfl]
  rw [fB,ab,vY t _ _ hl (by omega),ab,fB,ab,vY _ _ _ (by rw [py];exact hl) (by omega),ab]
  have hlen:=xV t (aF (yW t)) (aF (u1 t))
  unfold pV
  rw [show od (od t (oe t:Int) (aF (yW t))) (lC t:Int) (aF (u1 t))=fO t (aF (yW t)) (aF (u1 t)) from rfl]
  generalize fO t (aF (yW t)) (aF (u1 t))=s at hlen⊢
  simp only [BO s (by omega),ab,QP,yD,KV,bne]
  cases h1:(eM s).2==0 with|false=>rfl|true=> ?_
  have hsb:=(Fx (show (eM s).2=0 by simpa using h1)).2.2.1
  have h2:(pS (eM s).1).2=true:=by unfold pS;rw [hsb];rfl
  rw [h2]
  cases (pS (eM s).1).1==t<;>rfl
 cases h8:(db t:Int)==17 with
 |false=>exact hfin _ (by unfold u1;rw [h8];rfl)
 |true=>
  simp only [cond_true,ab]
  cases h7:Gj (Qz t++C6 t)==0 with
  |false=>exact hfin _ (by unfold u1;rw [h7,Bool.and_false];rfl)
  |true=>exact hfin _ (by unfold u1;rw [h7,h8];rfl)
theorem G0 (t:Bytes):(pV t).1.length≤378:=by
 unfold pV KV
 generalize fO t (aF (yW t)) (aF (u1 t))=s
 cases ((eM s).2==0)&&((pS (eM s).1).1==t) with
 |false=>exact Nat.zero_le _
 |true=>exact sV _
end
end Go.Pu
end
section
namespace Go.Pu
open Go.Dn
set_option linter.unusedSimpArgs false
set_option linter.unusedVariables false
noncomputable section
theorem zD (l:List ae)(m:List Bytes)(d:Int):∀(n:Nat)(acc:List (Int×Int×Int×Int×Int×Int))(r:Int×Int×Int×Int),(om l m d n acc r).1.length≤acc.length+n
 |0,acc,r=>Nat.le_refl _
 |n+1,acc,r=>by
  rw [om]
  cases !(aB l m d r).2.2|| !(bA (aB l m d r).1).2 with|true=>exact Nat.zero_le _|false=> ?_
  cases IS (bA (aB l m d r).1).1 with
  |true=>simp only [cond_false,cond_true,List.length_append,List.length_singleton];omega
  |false=>
   have:=zD l m d n (acc++[(bA (aB l m d r).1).1]) (aB l m d r).2.1
   simp only [List.length_append,List.length_singleton] at this
   simp only [cond_false];omega
theorem Ob {r:Int×Int×Int×Int}(h:bR r=true):bR (r.1,r.2.1,r.2.2.2,r.2.2.2)=true∧aN (r.1,r.2.1,r.2.2.2,r.2.2.2)=0:=by
 have hr:=pz h
 have hq:=h
 simp only [bR,Bool.and_eq_true,decide_eq_true_eq] at hq
 have hu:aN (r.1,r.2.1,r.2.2.2,r.2.2.2)=0:=by
  unfold aN
  simp only [Int.sub_self,Int.zero_emod,ite_self]
 refine ⟨?_,hu⟩
 simp only [bR,Bool.and_eq_true,decide_eq_true_eq,aQ,hu,hq.2.1,true_and]
 omega
theorem Ct (l:List ae)(m:List Bytes)(d:Int):∀(n:Nat)(acc:List (Int×Int×Int×Int×Int×Int))(r:Int×Int×Int×Int),bR r=true→(aN r).toNat=n→
 bR (om l m d n acc r).2.1=true∧aN (om l m d n acc r).2.1≤aN r∧(0<aN r→aN (om l m d n acc r).2.1<aN r)
 |0,acc,r,hb,hu=>⟨hb,Int.le_refl _,fun h=>by omega⟩
 |n+1,acc,r,hb,hu=>by
  have hk:=ue (l:=l) (m:=m) (d:=d) (r:=r)
  have he:=Ob hb
  rw [om]
  cases hc: !(aB l m d r).2.2|| !(bA (aB l m d r).1).2 with
  |true=>exact ⟨he.1,by show aN (r.1,r.2.1,r.2.2.2,r.2.2.2)≤_;rw [he.2];omega,fun _=>by show aN (r.1,r.2.1,r.2.2.2,r.2.2.2)<_;rw [he.2];omega⟩
  |false=>
   simp only [Bool.or_eq_false_iff,Bool.not_eq_false'] at hc
   have hk:=hk hc.1
   cases IS (bA (aB l m d r).1).1 with
   |true=>exact ⟨hk.1,by show aN (aB l m d r).2.1≤_;omega,fun _=>by show aN (aB l m d r).2.1<_;omega⟩
   |false=>
    have:=Ct l m d n (acc++[(bA (aB l m d r).1).1]) (aB l m d r).2.1 hk.1 (by omega)
    simp only [cond_false]
    exact ⟨this.1,by omega,fun _=>by omega⟩
def eS (l:List ae)(m:List Bytes)(d:Int)(r:Int×Int×Int×Int):(Int×Int×Int×Int)×List Bytes×Int:=
 bif !bR r||(aN r==0) then (r,[],0) else
 bif !(bj l m d r).2.2|| !(cn (bj l m d r).1).2.2.2 then ((bj l m d r).2.1,[],2) else
 bif !(gY l m d (cn (bj l m d r).1).1).2||(!(pV (gY l m d (cn (bj l m d r).1).1).1).2||((eM (pV (gY l m d (cn (bj l m d r).1).1).1).1).2 !=0)) then ((bj l m d r).2.1,[],2) else
 ((bj l m d r).2.1,Hv (eM (pV (gY l m d (cn (bj l m d r).1).1).1).1).1 (cn (bj l m d r).1).2.1,1)
theorem Nv (l:List ae)(m:List Bytes)(d:Int)(r:Int×Int×Int×Int)(hl:l.length≤1000000000)(hm:m.length≤1000000000):kC l m d r=some (eS l m d r):=by
 unfold kC eS
 simp only [ri,tk,ab,Gt l m d r hl hm]
 cases hb:bR r with|false=>rfl|true=> ?_
 cases aN r==0 with|true=>rfl|false=> ?_
 have hu:=gC hb
 have hcl:(bj l m d r).1.length≤16:=by
  unfold bj
  cases !bR r||(aN r==0) with
  |true=>exact Nat.zero_le _
  |false=>
   have:=zD l m d (aN r).toNat [] r
   simp only [List.length_nil] at this
   show (om l m d (aN r).toNat [] r).1.length≤16
   omega
 simp only [Bool.not_true,cond_false,ab,Bool.or_self]
 generalize bj l m d r=c at hcl⊢
 cases c.2.2 with|false=>rfl|true=> ?_
 simp only [Bool.not_true,cond_false,ab,Bool.false_or,I7 c.1 (show c.1.length≤1000000000 by omega)]
 have hpo:=CJ (l:=c.1)
 generalize cn c.1=p at hpo⊢
 cases hp:p.2.2.2 with|false=>rfl|true=> ?_
 have hpo:=hpo hp
 have h16:=(vx hpo.1).1
 have hg:=Cz l m d p.1
 simp only [Bool.not_true,cond_false,ab,Bool.false_or,Ns l m d p.1 hl hm (show p.1.length≤1000000000 by omega) (fun q hq=>Int.le_trans (hpo.2 q hq) (by omega))]
 generalize gY l m d p.1=g at hg⊢
 cases g.2 with|false=>rfl|true=> ?_
 have hf:=G0 g.1
 simp only [Bool.not_true,cond_false,ab,Bool.false_or,QF g.1 hg]
 generalize pV g.1=f at hf⊢
 cases f.2 with|false=>rfl|true=> ?_
 simp only [Bool.not_true,cond_false,ab,Bool.false_or,BO f.1 (show f.1.length≤1000000000 by omega)]
 generalize eM f.1=i
 cases i.2 !=0 with|true=>rfl|false=> ?_
 simp only [cond_false,S8,ab]
theorem On (l:List ae)(m:List Bytes)(d:Int)(r:Int×Int×Int×Int)(hl:l.length≤1000000000)(hm:m.length≤1000000000):kP l m d r=some (eS l m d r):=by
 unfold kP eS
 simp only [pC,rJ,ab,GI l m d r hl hm]
 cases hb:bR r with|false=>rfl|true=> ?_
 cases aN r==0 with|true=>rfl|false=> ?_
 have hu:=gC hb
 have hcl:(bj l m d r).1.length≤16:=by
  unfold bj
  cases !bR r||(aN r==0) with
  |true=>exact Nat.zero_le _
  |false=>
   have:=zD l m d (aN r).toNat [] r
   simp only [List.length_nil] at this
   show (om l m d (aN r).toNat [] r).1.length≤16
   omega
 simp only [Bool.not_true,cond_false,ab,Bool.or_self]
 generalize bj l m d r=c at hcl⊢
 simp only [JM c.1 (show c.1.length≤1000000000 by omega),ab]
 cases c.2.2 with|false=>rfl|true=> ?_
 simp only [Bool.not_true,cond_false,ab,Bool.false_or]
 have hpo:=CJ (l:=c.1)
 generalize cn c.1=p at hpo⊢
 cases hp:p.2.2.2 with|false=>rfl|true=> ?_
 have hpo:=hpo hp
 have h16:=(vx hpo.1).1
 have hg:=Cz l m d p.1
 simp only [Bool.not_true,cond_false,ab,Bool.false_or,Ok l m d p.1 hl hm (show p.1.length≤1000000000 by omega) (fun q hq=>Int.le_trans (hpo.2 q hq) (by omega))]
 generalize gY l m d p.1=g at hg⊢
 have hf:=G0 g.1
 simp only [RL g.1 hg,ab]
 generalize pV g.1=f at hf⊢
 simp only [Cm f.1 (show f.1.length≤1000000000 by omega),ab]
 generalize eM f.1=i
 cases g.2 with|false=>rfl|true=> ?_
 cases f.2 with|false=>rfl|true=> ?_
 cases i.2 !=0 with|true=>rfl|false=> ?_
 simp only [Bool.not_true,cond_false,ab,Bool.or_self,Ua]
theorem B5 (l:List ae)(m:List Bytes)(d:Int)(r:Int×Int×Int×Int):
 ((eS l m d r).2.2=0→(eS l m d r).1=r)∧((eS l m d r).2.2≠0→0<aN r∧bR r=true∧bR (eS l m d r).1=true∧aN (eS l m d r).1<aN r)∧(eS l m d r).2.1.length≤320∧(∀x∈(eS l m d r).2.1,x.length≤382)∧((eS l m d r).2.2=0∨(eS l m d r).2.2=1∨(eS l m d r).2.2=2):=by
 unfold eS
 cases hc: !bR r||(aN r==0) with
 |true=>exact ⟨fun _=>rfl,fun h=>absurd rfl h,Nat.zero_le _,(fun x hx=>by cases hx),.inl rfl⟩
 |false=>
  simp only [Bool.or_eq_false_iff,Bool.not_eq_false',beq_eq_false_iff_ne] at hc
  have hu:=gC hc.1
  have hch:bR (bj l m d r).2.1=true∧aN (bj l m d r).2.1<aN r:=by
   have:=Ct l m d (aN r).toNat [] r hc.1 rfl
   unfold bj
   rw [show (!bR r||(aN r==0))=false from by rw [hc.1];simpa using hc.2]
   exact ⟨this.1,this.2.2 (by omega)⟩
  cases !(bj l m d r).2.2|| !(cn (bj l m d r).1).2.2.2 with
  |true=>exact ⟨(fun h=>by cases h),fun _=>⟨by omega,hc.1,hch⟩,Nat.zero_le _,(fun x hx=>by cases hx),.inr (.inr rfl)⟩
  |false=>
   cases !(gY l m d (cn (bj l m d r).1).1).2||(!(pV (gY l m d (cn (bj l m d r).1).1).1).2||((eM (pV (gY l m d (cn (bj l m d r).1).1).1).1).2 !=0)) with
   |true=>exact ⟨(fun h=>by cases h),fun _=>⟨by omega,hc.1,hch⟩,Nat.zero_le _,(fun x hx=>by cases hx),.inr (.inr rfl)⟩
   |false=>
    have hs:=RG (eM (pV (gY l m d (cn (bj l m d r).1).1).1).1).1 (cn (bj l m d r).1).2.1
    exact ⟨(fun h=>by cases h),fun _=>⟨by omega,hc.1,hch⟩,hs.1,hs.2,.inr (.inl rfl)⟩
def lD (l:List ae)(m:List Bytes)(d:Int):Nat→List Bytes→Nat→Nat→(Int×Int×Int×Int)→(Int×Int×Int×Int)×List Bytes×Int×Int
 |0,fr,dn,bd,r=>(r,fr,(dn:Int),(bd:Int))
 |n+1,fr,dn,bd,r=>
  bif (eS l m d r).2.2==0 then (r,fr,(dn:Int),(bd:Int)) else
  bif (eS l m d r).2.2==1 then lD l m d n (fr++(eS l m d r).2.1) (dn+1) bd (eS l m d r).1 else
  lD l m d n (fr++(eS l m d r).2.1) dn (bd+1) (eS l m d r).1
def eZ (l:List ae)(m:List Bytes)(d:Int)(r:Int×Int×Int×Int):(Int×Int×Int×Int)×List Bytes×Int×Int:=lD l m d 17 [] 0 0 r
theorem zQ (l:List ae)(m:List Bytes)(d:Int)(hl:l.length≤1000000000)(hm:m.length≤1000000000):∀(n:Nat)(fr:List Bytes)(dn bd:Nat)(r:Int×Int×Int×Int)(f:Nat),n<f→(bR r=true→aN r<n)→0<n→fr.length+320*n≤10000→dn+bd+n≤1000→
 aq (hG (fun y2 y3 y4 _ _ _ _ y9=>some (y9,y2,y3,y4)) l d ([]:List Bytes) 0 0 m (0,0,0,0)) f (fr,(dn:Int),(bd:Int),r)=some (lD l m d n fr dn bd r)
 |0,fr,dn,bd,r,f,_,_,h0,_,_=>by omega
 |n+1,fr,dn,bd,r,0,hf,_,_,_,_=>by omega
 |n+1,fr,dn,bd,r,f+1,hf,hr,_,hfr,hc=>by
  have ok:=B5 l m d r
  rw [aq,lD]
  simp only [hG,Nv l m d r hl hm,ab]
  generalize eS l m d r=x at ok⊢
  cases h0:x.2.2==0 with
  |true=>simp only [cond_true,ok.1 (by simpa using h0)]
  |false=>
   have hk:=ok.2.1 (by simpa using h0)
   have hu:=hr hk.2.1
   have hu2:=(gC hk.2.2.1).1
   simp only [cond_false]
   cases x.2.2==1 with
   |true=>
    simp only [cond_true]
    rw [ao (by omega),wrap64 (by omega) (by omega)]
    exact zQ l m d hl hm n _ (dn+1) bd _ f (by omega) (fun _=>by omega) (by omega) (by rw [List.length_append];omega) (by omega)
   |false=>
    simp only [cond_false]
    rw [ao (by omega),wrap64 (by omega) (by omega)]
    exact zQ l m d hl hm n _ dn (bd+1) _ f (by omega) (fun _=>by omega) (by omega) (by rw [List.length_append];omega) (by omega)
theorem zZ (l:List ae)(m:List Bytes)(d:Int)(hl:l.length≤1000000000)(hm:m.length≤1000000000):∀(n:Nat)(fr:List Bytes)(dn bd:Nat)(r:Int×Int×Int×Int)(f:Nat),n<f→(bR r=true→aN r<n)→0<n→fr.length+320*n≤10000→dn+bd+n≤1000→
 aq (ig (fun y2 y3 y4 _ _ _ _ y9=>some (y9,y2,y3,y4)) l d ([]:List Bytes) 0 0 m (0,0,0,0)) f (fr,(dn:Int),(bd:Int),r)=some (lD l m d n fr dn bd r)
 |0,fr,dn,bd,r,f,_,_,h0,_,_=>by omega
 |n+1,fr,dn,bd,r,0,hf,_,_,_,_=>by omega
 |n+1,fr,dn,bd,r,f+1,hf,hr,_,hfr,hc=>by
  have ok:=B5 l m d r
  rw [aq,lD]
  simp only [ig,On l m d r hl hm,ab]
  generalize eS l m d r=x at ok⊢
  cases h0:x.2.2==0 with
  |true=>rfl
  |false=>
   have hk:=ok.2.1 (by simpa using h0)
   have hu:=hr hk.2.1
   have hu2:=(gC hk.2.2.1).1
   simp only [cond_false]
   rw [ao (by omega)]
   cases x.2.2==1 with
   |true=>
    simp only [cond_true]
    rw [wrap64 (by omega) (by omega)]
    exact zZ l m d hl hm n _ (dn+1) bd _ f (by omega) (fun _=>by omega) (by omega) (by rw [List.length_append];omega) (by omega)
   |false=>
    simp only [cond_false]
    rw [wrap64 (by omega) (by omega)]
    exact zZ l m d hl hm n _ dn (bd+1) _ f (by omega) (fun _=>by omega) (by omega) (by rw [List.length_append];omega) (by omega)
theorem QR (l:List ae)(m:List Bytes)(d:Int)(r:Int×Int×Int×Int)(hl:l.length≤1000000000)(hm:m.length≤1000000000):lP l m d r=some (eZ l m d r):=by
 have hfu:=bl
 unfold lP
 exact zQ l m d hl hm 17 [] 0 0 r fuel (by omega) (fun h=>by have:=(gC h).2;omega) (by omega) (by simp) (by omega)
theorem RV (l:List ae)(m:List Bytes)(d:Int)(r:Int×Int×Int×Int)(hl:l.length≤1000000000)(hm:m.length≤1000000000):md l m d r=some (eZ l m d r):=by
 have hfu:=bl
 unfold md
 exact zZ l m d hl hm 17 [] 0 0 r fuel (by omega) (fun h=>by have:=(gC h).2;omega) (by omega) (by simp) (by omega)
theorem vI (l:List ae)(m:List Bytes)(d:Int):∀(n:Nat)(fr:List Bytes)(dn bd:Nat)(r:Int×Int×Int×Int),(∀x∈fr,x.length≤382)→
 (lD l m d n fr dn bd r).2.1.length≤fr.length+320*n∧(∀x∈(lD l m d n fr dn bd r).2.1,x.length≤382)∧0≤(lD l m d n fr dn bd r).2.2.1∧(lD l m d n fr dn bd r).2.2.1≤(dn+n:Nat)∧0≤(lD l m d n fr dn bd r).2.2.2∧(lD l m d n fr dn bd r).2.2.2≤(bd+n:Nat)
 |0,fr,dn,bd,r,h=>⟨Nat.le_refl _,h,by show (0:Int)≤(dn:Int);omega,by show (dn:Int)≤_;omega,by show (0:Int)≤(bd:Int);omega,by show (bd:Int)≤_;omega⟩
 |n+1,fr,dn,bd,r,h=>by
  have ok:=B5 l m d r
  rw [lD]
  generalize eS l m d r=x at ok⊢
  have h2:∀y∈fr++x.2.1,y.length≤382:=fun y hy=>by
   rcases List.mem_append.1 hy with g|g
   ·exact h y g
   ·exact ok.2.2.2.1 y g
  cases x.2.2==0 with
  |true=>exact ⟨by show fr.length≤_;omega,h,by show (0:Int)≤(dn:Int);omega,by show (dn:Int)≤_;omega,by show (0:Int)≤(bd:Int);omega,by show (bd:Int)≤_;omega⟩
  |false=>
   cases x.2.2==1 with
   |true=>
    have i:=vI l m d n (fr++x.2.1) (dn+1) bd x.1 h2
    rw [List.length_append] at i
    simp only [cond_false,cond_true]
    exact ⟨by omega,i.2.1,i.2.2.1,by omega,i.2.2.2.2.1,by omega⟩
   |false=>
    have i:=vI l m d n (fr++x.2.1) dn (bd+1) x.1 h2
    rw [List.length_append] at i
    simp only [cond_false,cond_true]
    exact ⟨by omega,i.2.1,i.2.2.1,by omega,i.2.2.2.2.1,by omega⟩
end
end Go.Pu
end
section
namespace Go.Pu
open Go.Dn
set_option linter.unusedSimpArgs false
set_option linter.unusedVariables false
noncomputable section
structure Ae (n:Nat) (h:Host):Prop where
 z:aK n bf h
 t:h.2.2.1.2.1.2.2.2.length+(aP h.2.2.1.2.2.1).length≤n
theorem Ae.mono {n m:Nat}{h:Host}(k:Ae n h)(hn:n≤m):Ae m h:=⟨k.z.mono hn,Nat.le_trans k.t hn⟩
theorem Ae.sz {n:Nat}{h:Host}(k:Ae n h)(hn:n≤1000000000):DA h:=by
 have z:aK 1000000000 bf h:=k.z.mono hn
 exact ⟨z.1.1,z.2.1.1,z.2.2.1.2.2.1.1,Nat.le_trans k.t hn,z.2.2.2.2.2.2.2.1.2.2.1,z.2.2.2.2.2.2.2.2.1.1.1,z.2.2.2.2.2.2.2.2.1.2.1.1,z.2.2.2.2.2.2.2.2.1.2.2.2.1,fun p hp=>(z.2.2.2.2.1.2 p hp).2.2.2.1⟩
theorem Ae.of {h:Host}(k:kR bf h≤1048576):Ae 1048576 h:=by
 refine ⟨Bm k, ?_⟩
 have hb:=OP h.2.2.1.2.2.1
 have h1:kR bk h.2.2.1≤kR bf h:=by simp only [kR];omega
 have hp:h.2.2.1.2.1.2.2.2.length+kR (.sl bJ) h.2.2.1.2.2.1≤kR bk h.2.2.1:=by simp only [kR];omega
 omega
def nU (p:aV):List cy→aV
 |[]=>p
 |x::l=>nU (BJ p x.2.2).1 l
theorem yC:∀(l:List cy)(p:aV),(nU p l).2.2.2.length≤p.2.2.2.length+(aP l).length
 |[],p=>by simp [nU]
 |x::l,p=>by
  have h1:=K4 p x.2.2
  have h2:=yC l (BJ p x.2.2).1
  simp only [nU,aP,List.flatMap_cons,List.length_append] at h2⊢
  omega
theorem BK:∀(l:List cy)(p:aV)(x:cy),nU p (l++[x])=(BJ (nU p l) x.2.2).1
 |[],p,x=>rfl
 |y::l,p,x=>by rw [List.cons_append,nU,nU,BK l]
theorem DN (a b:List cy):(aP (a++b)).length=(aP a).length+(aP b).length:=by
 simp only [aP,List.flatMap_append,List.length_append]
theorem DP (l:List cy)(n:Nat):(aP (l.take n)).length+(aP (l.drop n)).length=(aP l).length:=by
 rw [←DN,List.take_append_drop]
def fZ (t:aZ)(n:Int):aZ×List Int:=
 bif P0 t&&bp n 0 (t.2.2.1.length:Int) then ((t.1,nU t.2.1 (t.2.2.1.take n.toNat),t.2.2.1.drop n.toNat,t.2.2.2),(t.2.2.1.take n.toNat).map (·.1)) else (t,[])
theorem PK {l:List cy}(h:(aP l).length≤1000000000):∀x∈l,x.2.2.length≤1000000000:=by
 intro x hx
 induction l with
 |nil=>cases hx
 |cons y l ih=>
  simp only [aP,List.flatMap_cons,List.length_append] at h
  rcases List.mem_cons.1 hx with rfl|g
  ·omega
  ·exact ih (by simp only [aP];omega) g
theorem I2 (t:aZ)(n:Int)(hw:t.2.2.1.length≤1000000000)(hs:t.2.1.2.2.2.length+(aP t.2.2.1).length≤1000000000):gv t n=some (fZ t n):=by
 have hx:=PK (l:=t.2.2.1) (by omega)
 unfold gv fZ
 rw [EW t ⟨by omega,hw,hx⟩,ab,Tc t hw hs]
 simp only [ab,bm]
 cases P0 t with|false=>rfl|true=> ?_
 cases hn:bp n 0 (t.2.2.1.length:Int) with|false=>rfl|true=> ?_
 have h:=aQ.1 hn
 obtain ⟨n,rfl⟩:=Int.eq_ofNat_of_zero_le h.1
 have hl:n≤t.2.2.1.length:=by omega
 simp only [Bool.not_true,cond_false,ab,Bool.and_self,cond_true,Int.toNat_natCast]
 rw [Dr (by omega) (by omega),ab,Int.toNat_natCast]
 have htl:(t.2.2.1.take n).length=n:=by rw [List.length_take];omega
 rw [htl]
 refine bz (fun i=>(((t.2.2.1.take i).map (·.1),(i:Int),t.1,nU t.2.1 (t.2.2.1.take i),t.2.2):List Int×Int×aZ)) n (by omega) (fun i nx hi=> ?_) (fun nx=> ?_)
 ·have hi2:i<(t.2.2.1.take n).length:=by omega
  have hi3:i<t.2.2.1.length:=by omega
  have e1:(t.2.2.1.take n)[i]=t.2.2.1[i]:=List.getElem_take ..
  have g1:=yC (t.2.2.1.take i) t.2.1
  have g2:=DP t.2.2.1 (i+1)
  have g3:(aP (t.2.2.1.take (i+1))).length=(aP (t.2.2.1.take i)).length+t.2.2.1[i].2.2.length:=by
   rw [List.take_succ_eq_append_getElem hi3,DN];simp [aP]
  simp only [ee]
  rw [decide_eq_true (by omega),cond_true,ax hi2,e1,ab,EX _ _ (by omega),ab,ao (by simp only [List.length_map,List.length_take,List.length_singleton];omega),wrap64 (by omega) (by omega),List.take_succ_eq_append_getElem hi3,BK,List.map_append];rfl
 ·simp only [ee]
  rw [decide_eq_false (by omega),cond_false,mi (l:=t.2.2.1) n hl rfl,ab,Ax _ (by rw [List.length_drop];omega) (fun x hx'=>hx x (List.mem_of_mem_drop hx')),ab]
theorem JF (t:aZ)(n:Int)(hw:t.2.2.1.length≤1000000000)(hs:t.2.1.2.2.2.length+(aP t.2.2.1).length≤1000000000):gG t n=some (fZ t n):=by
 have hx:=PK (l:=t.2.2.1) (by omega)
 unfold gG fZ
 rw [FI t ⟨by omega,hw,hx⟩,ab,Ud t hw hs]
 simp only [ab,bh]
 cases P0 t with|false=>rfl|true=> ?_
 cases hn:bp n 0 (t.2.2.1.length:Int) with|false=>rfl|true=> ?_
 have h:=aQ.1 hn
 obtain ⟨n,rfl⟩:=Int.eq_ofNat_of_zero_le h.1
 have hl:n≤t.2.2.1.length:=by omega
 simp only [Bool.not_true,cond_false,ab,Bool.and_self,cond_true,Int.toNat_natCast]
 refine bz (fun i=>(((t.2.2.1.take i).map (·.1),(i:Int),t.1,nU t.2.1 (t.2.2.1.take i),t.2.2):List Int×Int×aZ)) n (by omega) (fun i nx hi=> ?_) (fun nx=> ?_)
 ·have hi3:i<t.2.2.1.length:=by omega
  have g1:=yC (t.2.2.1.take i) t.2.1
  have g2:=DP t.2.2.1 (i+1)
  have g3:(aP (t.2.2.1.take (i+1))).length=(aP (t.2.2.1.take i)).length+t.2.2.1[i].2.2.length:=by
   rw [List.take_succ_eq_append_getElem hi3,DN];simp [aP]
  simp only [eo]
  rw [decide_eq_true (by omega),cond_true,ax hi3,ab,ao (by simp only [List.length_map,List.length_take,List.length_singleton];omega),ab,FL _ _ (by omega),ab,wrap64 (by omega) (by omega),List.take_succ_eq_append_getElem hi3,BK,List.map_append];rfl
 ·simp only [eo]
  rw [decide_eq_false (by omega),cond_false,mi (l:=t.2.2.1) n hl rfl,ab]
theorem GS (n:Int):∀l:List cy,l.all (gE n)=true→(l.length:Int)≤ec l
 |[],_=>by simp [ec]
 |x::l,h=>by
  simp only [List.all_cons,Bool.and_eq_true] at h
  have:=GS n l h.2
  have hx:=h.1
  unfold gE at hx
  simp only [Bool.and_eq_true,aQ] at hx
  simp only [ec,List.map_cons,List.sum_cons,List.length_cons] at this⊢
  omega
theorem Ga {t:aZ}(h:P0 t=true):t.2.2.1.length≤16:=by
 unfold P0 at h
 simp only [Bool.and_eq_true,decide_eq_true_eq] at h
 have h1:=GS _ _ h.2.2.2.1
 have h2:=(pz h.1).2.2.1
 have h3:=h.2.2.2.2.2
 omega
theorem vO {k:Nat}{t:aZ}(n:Int)(z:aK k bk t)(hs:t.2.1.2.2.2.length+(aP t.2.2.1).length≤k):
 aK k bk (fZ t n).1∧(fZ t n).1.2.1.2.2.2.length+(aP (fZ t n).1.2.2.1).length≤k∧(fZ t n).2.length≤16:=by
 unfold fZ
 cases h:P0 t&&bp n 0 (t.2.2.1.length:Int) with
 |false=>exact ⟨z,hs,Nat.zero_le _⟩
 |true=>
  simp only [Bool.and_eq_true] at h
  have h16:=Ga h.1
  have g1:=yC (t.2.2.1.take n.toNat) t.2.1
  have g2:=DP t.2.2.1 n.toNat
  have hw:t.2.2.1.length≤k:=z.2.2.1.1
  refine ⟨⟨z.1,⟨trivial,trivial,trivial, ?_,fun _ _=>trivial⟩,⟨?_,fun x hx=>z.2.2.1.2 x (List.mem_of_mem_drop hx)⟩,z.2.2.2⟩, ?_, ?_⟩
  ·show (nU t.2.1 (t.2.2.1.take n.toNat)).2.2.2.length≤k;omega
  ·show (t.2.2.1.drop n.toNat).length≤k;rw [List.length_drop];omega
  ·show (nU t.2.1 (t.2.2.1.take n.toNat)).2.2.2.length+(aP (t.2.2.1.drop n.toNat)).length≤k;omega
  ·show ((t.2.2.1.take n.toNat).map (·.1)).length≤16
   rw [List.length_map,List.length_take];omega
theorem He {n k:Nat}{t:CT}{l q:List t.D}(z:aK n (.sl t) l)(hq:∀y∈q,aK n t y)(hk:q.length≤k):aK (n+k) (.sl t) (l++q):=by
 refine ⟨?_,fun y hy=> ?_⟩
 ·show (l++q).length≤n+k
  have:=z.1
  rw [List.length_append];omega
 ·rcases List.mem_append.1 hy with h|h
  ·exact (z.2 y h).mono (by omega)
  ·exact (hq y h).mono (by omega)
def gh (h:Host):Host:=bif dk h then
    (h.1,h.2.1,(fZ ((eZ h.2.1 h.1 0 h.2.2.1.1).1,h.2.2.1.2) (if (h.2.2.1.2.2.1.length:Int)<IntKind.wrap .i64 ((eZ h.2.1 h.1 0 h.2.2.1.1).2.2.1+(eZ h.2.1 h.1 0 h.2.2.1.1).2.2.2) then (h.2.2.1.2.2.1.length:Int) else IntKind.wrap .i64 ((eZ h.2.1 h.1 0 h.2.2.1.1).2.2.1+(eZ h.2.1 h.1 0 h.2.2.1.1).2.2.2))).1,
      h.2.2.2.1,h.2.2.2.2.1,h.2.2.2.2.2.1,h.2.2.2.2.2.2.1,h.2.2.2.2.2.2.2.1,h.2.2.2.2.2.2.2.2.1,h.2.2.2.2.2.2.2.2.2.1,h.2.2.2.2.2.2.2.2.2.2.1,h.2.2.2.2.2.2.2.2.2.2.2.1++(eZ h.2.1 h.1 0 h.2.2.1.1).2.1,
      h.2.2.2.2.2.2.2.2.2.2.2.2.1++(fZ ((eZ h.2.1 h.1 0 h.2.2.1.1).1,h.2.2.1.2) (if (h.2.2.1.2.2.1.length:Int)<IntKind.wrap .i64 ((eZ h.2.1 h.1 0 h.2.2.1.1).2.2.1+(eZ h.2.1 h.1 0 h.2.2.1.1).2.2.2) then (h.2.2.1.2.2.1.length:Int) else IntKind.wrap .i64 ((eZ h.2.1 h.1 0 h.2.2.1.1).2.2.1+(eZ h.2.1 h.1 0 h.2.2.1.1).2.2.2))).2,h.2.2.2.2.2.2.2.2.2.2.2.2.2) else h
theorem I9 (h:Host)(k:Ae 900000000 h):ky h=some (gh h):=by
 have z:aK 1000000000 bf h:=k.z.mono (by omega)
 have hz:=k.sz (by omega)
 have hm:h.1.length≤900000000:=k.z.1.1
 have hl:h.2.1.length≤900000000:=k.z.2.1.1
 have hw:h.2.2.1.2.2.1.length≤900000000:=k.z.2.2.1.2.2.1.1
 have hwi:h.2.2.2.2.2.2.2.2.2.2.2.1.length≤900000000:=k.z.2.2.2.2.2.2.2.2.2.2.2.1.1
 have hco:h.2.2.2.2.2.2.2.2.2.2.2.2.1.length≤900000000:=k.z.2.2.2.2.2.2.2.2.2.2.2.2.1.1
 have hA:=vI h.2.1 h.1 0 17 [] 0 0 h.2.2.1.1 (fun x hx=>by cases hx)
 unfold ky gh
 rw [ou h z,ab,xM h hz,ab]
 cases dk h with|false=>rfl|true=> ?_
 simp only [Bool.not_true,cond_false,cond_true,QR h.2.1 h.1 0 _ (show h.2.1.length≤1000000000 by omega) (show h.1.length≤1000000000 by omega),ab]
 rw [show lD h.2.1 h.1 0 17 [] 0 0 h.2.2.1.1=eZ h.2.1 h.1 0 h.2.2.1.1 from rfl] at hA
 generalize eZ h.2.1 h.1 0 h.2.2.1.1=x at hA⊢
 simp only [List.length_nil] at hA
 have hC:=vO (k:=900000000) (t:=(x.1,h.2.2.1.2)) (if (h.2.2.1.2.2.1.length:Int)<IntKind.wrap .i64 (x.2.2.1+x.2.2.2) then (h.2.2.1.2.2.1.length:Int) else IntKind.wrap .i64 (x.2.2.1+x.2.2.2)) ⟨⟨trivial,trivial,trivial,trivial⟩,k.z.2.2.1.2⟩ k.t
 rw [ao (by omega),I2 (x.1,h.2.2.1.2) _ (by show h.2.2.1.2.2.1.length≤_;omega) (Nat.le_trans k.t (by omega)),ab,ao (by omega)]
theorem JO (h:Host)(k:Ae 900000000 h):kM h=some (gh h):=by
 have z:aK 1000000000 bf h:=k.z.mono (by omega)
 have hz:=k.sz (by omega)
 have hm:h.1.length≤900000000:=k.z.1.1
 have hl:h.2.1.length≤900000000:=k.z.2.1.1
 have hw:h.2.2.1.2.2.1.length≤900000000:=k.z.2.2.1.2.2.1.1
 have hwi:h.2.2.2.2.2.2.2.2.2.2.2.1.length≤900000000:=k.z.2.2.2.2.2.2.2.2.2.2.2.1.1
 have hco:h.2.2.2.2.2.2.2.2.2.2.2.2.1.length≤900000000:=k.z.2.2.2.2.2.2.2.2.2.2.2.2.1.1
 have hA:=vI h.2.1 h.1 0 17 [] 0 0 h.2.2.1.1 (fun x hx=>by cases hx)
 unfold kM gh
 rw [pB h z,ab,tZ h hz,ab]
 cases dk h with|false=>rfl|true=> ?_
 simp only [Bool.not_true,cond_false,cond_true,RV h.2.1 h.1 0 _ (show h.2.1.length≤1000000000 by omega) (show h.1.length≤1000000000 by omega),ab]
 rw [show lD h.2.1 h.1 0 17 [] 0 0 h.2.2.1.1=eZ h.2.1 h.1 0 h.2.2.1.1 from rfl] at hA
 generalize eZ h.2.1 h.1 0 h.2.2.1.1=x at hA⊢
 simp only [List.length_nil] at hA
 have hC:=vO (k:=900000000) (t:=(x.1,h.2.2.1.2)) (if (h.2.2.1.2.2.1.length:Int)<IntKind.wrap .i64 (x.2.2.1+x.2.2.2) then (h.2.2.1.2.2.1.length:Int) else IntKind.wrap .i64 (x.2.2.1+x.2.2.2)) ⟨⟨trivial,trivial,trivial,trivial⟩,k.z.2.2.1.2⟩ k.t
 rw [ao (by omega),JF (x.1,h.2.2.1.2) _ (by show h.2.2.1.2.2.1.length≤_;omega) (Nat.le_trans k.t (by omega)),ab,ao (by omega)]
theorem xb {n:Nat}(hn:400≤n){h:Host}(k:Ae n h):Ae (n+5440) (gh h):=by
 have k':Ae (n+5440) h:=k.mono (by omega)
 have hA:=vI h.2.1 h.1 0 17 [] 0 0 h.2.2.1.1 (fun x hx=>by cases hx)
 unfold gh
 cases dk h with|false=>exact k'|true=> ?_
 rw [show lD h.2.1 h.1 0 17 [] 0 0 h.2.2.1.1=eZ h.2.1 h.1 0 h.2.2.1.1 from rfl] at hA
 generalize eZ h.2.1 h.1 0 h.2.2.1.1=x at hA⊢
 simp only [List.length_nil] at hA
 generalize (if (h.2.2.1.2.2.1.length:Int)<IntKind.wrap .i64 (x.2.2.1+x.2.2.2) then (h.2.2.1.2.2.1.length:Int) else IntKind.wrap .i64 (x.2.2.1+x.2.2.2))=q
 have hC:=vO (k:=n) (t:=(x.1,h.2.2.1.2)) q ⟨⟨trivial,trivial,trivial,trivial⟩,k.z.2.2.1.2⟩ k.t
 have z:=k'.z
 refine ⟨⟨z.1,z.2.1,hC.1.mono (by omega),z.2.2.2.1,z.2.2.2.2.1,z.2.2.2.2.2.1,z.2.2.2.2.2.2.1,z.2.2.2.2.2.2.2.1,z.2.2.2.2.2.2.2.2.1,z.2.2.2.2.2.2.2.2.2.1,trivial, ?_, ?_,z.2.2.2.2.2.2.2.2.2.2.2.2.2⟩,Nat.le_trans hC.2.1 (by omega)⟩
 ·exact He (t:= .str) (n:=n) (k:=5440) k.z.2.2.2.2.2.2.2.2.2.2.2.1 (fun y hy=>by show y.length≤_;have:=hA.2.1 y hy;omega) (by omega)
 ·exact (He (t:= .int .i64) (n:=n) (k:=16) k.z.2.2.2.2.2.2.2.2.2.2.2.2.1 (fun _ _=>trivial) hC.2.2).mono (by omega)
end
end Go.Pu
end
section
namespace Go.Pu
open Go.Dn
set_option linter.unusedSimpArgs false
set_option linter.unusedVariables false
noncomputable section
def Wl (k:Nat)(h:Host):Host:=
 match h.2.2.2.2.2.1[k]? with
 |some v=>(h.1,h.2.1,h.2.2.1,h.2.2.2.1,h.2.2.2.2.1,h.2.2.2.2.2.1.set k (evV v),h.2.2.2.2.2.2)
 |none=>h
def J1 (k:Nat):Nat→Host→Host
 |0,h=>h
 |i+1,h=>Wl k (J1 k i h)
theorem SF (k:Nat)(h:Host):fS (k+1) h (Wl k h):=by
 unfold Wl
 cases h.2.2.2.2.2.1[k]? with
 |none=>exact fS.refl _ _
 |some v=>exact ⟨rfl,rfl,rfl,rfl,fun _ _=>rfl,rfl,List.length_set ..,fun j hj=>List.getElem?_set_ne (by omega),rfl,rfl,rfl⟩
theorem Ap (k:Nat)(h:Host):∀i,fS (k+1) h (J1 k i h)
 |0=>fS.refl _ _
 |i+1=>(Ap k h i).trans (SF k _)
theorem Wm {n:Nat}(k:Nat){h:Host}(z:aK n bf h):aK n bf (Wl k h):=by
 unfold Wl
 cases h.2.2.2.2.2.1[k]? with
 |none=>exact z
 |some v=>exact ⟨z.1,z.2.1,z.2.2.1,z.2.2.2.1,z.2.2.2.2.1,Dx z.2.2.2.2.2.1,z.2.2.2.2.2.2⟩
theorem Pk {n:Nat}(k:Nat){h:Host}(z:aK n bf h):∀i,aK n bf (J1 k i h)
 |0=>z
 |i+1=>Wm k (Pk k z i)
theorem Nn (h:Host)(k:Nat)(b:Int)(h1:k<h.2.2.2.1.length)(h2:k<h.2.2.2.2.2.1.length)(hq:dj h.2.2.2.1[k].2.1=true)(hb:0≤b∧b≤31):k5 h (k:Int) b=some ((),J1 k ((h.2.2.2.1[k].2.1.2.2-b)%(2*h.2.2.2.1[k].2.1.2.1)).toNat h):=by
 have hfu:=bl
 have q:=jN hq
 unfold k5
 rw [ax h1,ab]
 generalize h.2.2.2.1[k]=x at q⊢
 rw [wrap64 (n:=x.2.1.2.2-b) (by omega) (by omega),wrap64 (n:=2*x.2.1.2.1) (by omega) (by omega),BZ _ _ (by omega) (by omega),ab]
 have hm:0≤(x.2.1.2.2-b)%(2*x.2.1.2.1)∧(x.2.1.2.2-b)%(2*x.2.1.2.1)<32:=by
  have g1:=Int.emod_nonneg (x.2.1.2.2-b) (show 2*x.2.1.2.1≠0 by omega)
  have g2:=Int.emod_lt_of_pos (x.2.1.2.2-b) (show 0<2*x.2.1.2.1 by omega)
  omega
 generalize (x.2.1.2.2-b)%(2*x.2.1.2.1)=c at hm⊢
 obtain ⟨c,rfl⟩:=Int.eq_ofNat_of_zero_le hm.1
 rw [Int.toNat_natCast]
 have e0:((c:Int),h)=(((c:Int)-((0:Nat):Int)),J1 k 0 h):=by simp [J1]
 rw [e0]
 refine bz (fun i=>((c:Int)-(i:Int),J1 k i h)) c (by omega) (fun i nx hi=> ?_) (fun nx=> ?_)
 ·have kk:=Ap k h i
  have i1:k<(J1 k i h).2.2.2.2.2.1.length:=by rw [kk.vec];exact h2
  rw [show J1 k (i+1) h=Wl k (J1 k i h) from rfl]
  generalize J1 k i h=s at i1⊢
  simp only [kD,Wl]
  rw [decide_eq_true (by omega),cond_true,List.getElem?_eq_getElem i1]
  simp only [ax i1,ab,QC,Int.toNat_natCast]
  rw [wrap64 (by omega) (by omega),show (c:Int)-(i:Int)-1=(c:Int)-((i+1:Nat):Int) by omega]
 ·simp only [kD]
  rw [decide_eq_false (by omega),cond_false]
theorem Of (h:Host)(k:Nat)(b:Int)(h1:k<h.2.2.2.1.length)(h2:k<h.2.2.2.2.2.1.length)(hq:dj h.2.2.2.1[k].2.1=true)(hb:0≤b∧b≤31):lB h (k:Int) b=some ((),J1 k ((h.2.2.2.1[k].2.1.2.2-b)%(2*h.2.2.2.1[k].2.1.2.1)).toNat h):=by
 have hfu:=bl
 have q:=jN hq
 unfold lB
 rw [ax h1,ab,ab]
 generalize h.2.2.2.1[k]=x at q⊢
 have em:IntKind.wrap .i64 (BitVec.toNat (BitVec.ofInt (IntKind.bits .i64) (x.2.1.2.2-b)&&&BitVec.ofInt (IntKind.bits .i64) (2*x.2.1.2.1-1)))=(x.2.1.2.2-b)%(2*x.2.1.2.1):=by
  have key:∀j:Nat,j<63→2*x.2.1.2.1=2^j→IntKind.wrap .i64 (BitVec.toNat (BitVec.ofInt (IntKind.bits .i64) (x.2.1.2.2-b)&&&BitVec.ofInt (IntKind.bits .i64) (2*x.2.1.2.1-1)))=(x.2.1.2.2-b)%(2*x.2.1.2.1):=by
   intro j hj e
   have:=u6 (x.2.1.2.2-b) j hj
   rw [←e] at this
   rw [this]
   have g1:=Int.emod_nonneg (x.2.1.2.2-b) (show 2*x.2.1.2.1≠0 by omega)
   have g2:=Int.emod_lt_of_pos (x.2.1.2.2-b) (show 0<2*x.2.1.2.1 by omega)
   exact wrap64 (by omega) (by omega)
  rcases q.2.2.1 with e|e|e|e
  ·exact key 2 (by omega) (by rw [e];rfl)
  ·exact key 3 (by omega) (by rw [e];rfl)
  ·exact key 4 (by omega) (by rw [e];rfl)
  ·exact key 5 (by omega) (by rw [e];rfl)
 rw [wrap64 (n:=x.2.1.2.2-b) (by omega) (by omega),wrap64 (n:=2*x.2.1.2.1) (by omega) (by omega),wrap64 (n:=2*x.2.1.2.1-1) (by omega) (by omega),em]
 have hm:0≤(x.2.1.2.2-b)%(2*x.2.1.2.1)∧(x.2.1.2.2-b)%(2*x.2.1.2.1)<32:=by
  have g1:=Int.emod_nonneg (x.2.1.2.2-b) (show 2*x.2.1.2.1≠0 by omega)
  have g2:=Int.emod_lt_of_pos (x.2.1.2.2-b) (show 0<2*x.2.1.2.1 by omega)
  omega
 generalize (x.2.1.2.2-b)%(2*x.2.1.2.1)=c at hm⊢
 obtain ⟨c,rfl⟩:=Int.eq_ofNat_of_zero_le hm.1
 rw [Int.toNat_natCast]
 refine bz (fun i=>((i:Int),J1 k i h)) c (by omega) (fun i nx hi=> ?_) (fun nx=> ?_)
 ·have kk:=Ap k h i
  have i1:k<(J1 k i h).2.2.2.2.2.1.length:=by rw [kk.vec];exact h2
  rw [show J1 k (i+1) h=Wl k (J1 k i h) from rfl]
  generalize J1 k i h=s at i1⊢
  simp only [kQ,Wl]
  rw [decide_eq_true (by omega),cond_true,List.getElem?_eq_getElem i1]
  simp only [ax i1,ab,RI,Int.toNat_natCast]
  rw [wrap64 (by omega) (by omega)];rfl
 ·simp only [kQ]
  rw [decide_eq_false (by omega),cond_false]
def CL (h:Host)(k:Nat)(f:List Bytes×aw):Host:=(f.1,h.2.1,h.2.2.1,h.2.2.2.1.set k f.2,h.2.2.2.2)
def Ge (h:Host)(k:Nat)(b:Int)(f:List Bytes×aw):Host:=J1 k ((f.2.2.1.2.2-b)%(2*f.2.2.1.2.1)).toNat (CL h k f)
def ez (k:Nat)(h:Host):Host:=
 match h.2.2.2.1[k]? with
 |some x=>Ge h k x.2.1.2.2 (nK h.2.1 h.1 0 x h.2.2.2.2.2.2.2.2.1.2.2.1)
 |none=>h
theorem MA {h:Host}{k:Nat}{b:Int}{f:List Bytes×aw}(hf:f.1.length=h.1.length):fS (k+1) h (Ge h k b f):=by
 have a:fS (k+1) h (CL h k f):=⟨hf,rfl,rfl,List.length_set ..,fun j hj=>List.getElem?_set_ne (by omega),rfl,rfl,fun _ _=>rfl,rfl,rfl,rfl⟩
 exact a.trans (Ap k (CL h k f) _)
theorem OI {n:Nat}{h:Host}{k:Nat}{b:Int}{f:List Bytes×aw}(z:aK n bf h)(h1:aK n (.sl .str) f.1)(h2:aK n az f.2):aK n bf (Ge h k b f):=by
 have a:aK n bf (CL h k f):=⟨h1,z.2.1,z.2.2.1,vo z.2.2.2.1 h2,z.2.2.2.2⟩
 exact Pk k a _
theorem SK {l:List ae}{m:List Bytes}{d:Int}{q:aw}{k:Bytes}:(nK l m d q k).1.length=m.length:=by
 have hs:(gT l m d q k (aB l m d q.1).1).1.length=m.length:=by
  unfold gT
  cases !(bA (aB l m d q.1).1).2||(((bA (aB l m d q.1).1).1.1 !=3)||decide ((bA (aB l m d q.1).1).1.2.2.1<((bn q.2.2.2.1.1).1.length:Int))) with|true=>rfl|false=> ?_
  cases (lr l m d (bA (aB l m d q.1).1).1.2.2.2.1 (bn q.2.2.2.1.1).1 true).2 with|false=>rfl|true=> ?_
  have h2:=tV l m d (bA (aB l m d q.1).1).1.2.2.2.1 (bn q.2.2.2.1.1).1 true
  simp only [cond_false,Bool.not_true]
  unfold vz
  cases !dj q.2.1|| !ta ((bA (aB l m d q.1).1).1.2.2.2.2.2,((bn q.2.2.2.1.1).1.length:Int),q.2.2.2.1.2.1,q.2.2.2.1.2.2,xL k (vU (mn q.2.2.2.1.1))) with|true=>exact h2|false=> ?_
  cases (lr l (lr l m d (bA (aB l m d q.1).1).1.2.2.2.1 (bn q.2.2.2.1.1).1 true).1 d (eN q.2.1) (Gn ((bA (aB l m d q.1).1).1.2.2.2.2.2,((bn q.2.2.2.1.1).1.length:Int),q.2.2.2.1.2.1,q.2.2.2.1.2.2,xL k (vU (mn q.2.2.2.1.1))) (pw q.2.1)) true).2 with
  |false=>exact h2
  |true=>exact (tV ..).trans h2
 unfold nK
 cases !GD q||(!q.2.2.2.2.1||((k.length:Int) !=16)) with|true=>rfl|false=> ?_
 cases (aB l m d q.1).2.2&&(gT l m d q k (aB l m d q.1).1).2.2 with
 |true=>exact hs
 |false=>rfl
theorem uu (k:Nat)(h:Host):fS (k+1) h (ez k h):=by
 unfold ez
 cases h.2.2.2.1[k]? with
 |none=>exact fS.refl _ _
 |some x=>exact MA SK
theorem zJ (k:Nat)(h:Host)(n:Nat)(hn:1000≤n)(z:aK n bf h):aK (n+0) bf (ez k h):=by
 unfold ez
 cases hx:h.2.2.2.1[k]? with
 |none=>exact z
 |some x=>
  have hf:=BI (show 128≤n by omega) (l:=h.2.1) (d:=0) (k:=h.2.2.2.2.2.2.2.2.1.2.2.1) z.1 (z.2.2.2.1.2 _ (List.mem_of_getElem? hx))
  exact OI z hf.1 hf.2.2.1
def rQ (h:Host):Host:=bif dk h then dg ez h.2.2.2.1.length h else h
theorem BH {n:Nat}(hn:1000≤n){h:Host}(k:Ae n h):Ae n (rQ h):=by
 unfold rQ
 cases dk h with
 |false=>exact k
 |true=>
  refine ⟨(uc hn zJ k.z _).mono (by omega), ?_⟩
  simp only [cond_true]
  rw [(mh uu h _).tx];exact k.t
theorem ES {h:Host}(hb:dk h=true):∀i (hi:i<h.2.2.2.1.length),GD h.2.2.2.1[i]=true:=by
 simp only [dk,LZ,Bool.and_eq_true] at hb
 exact fun i hi=>List.all_eq_true.1 hb.2.2.2.2.2.2.1.1 _ (List.getElem_mem hi)
theorem CW {h:Host}{k:Nat}{b:Int}{f:List Bytes×aw}(h1:k<h.2.2.2.1.length)(h2:k<h.2.2.2.2.2.1.length)(hq:dj f.2.2.1=true)(hb:0≤b∧b≤31):
 k5 (f.1,h.2.1,h.2.2.1,h.2.2.2.1.set k f.2,h.2.2.2.2) (k:Int) b=some ((),Ge h k b f)∧lB (f.1,h.2.1,h.2.2.1,h.2.2.2.1.set k f.2,h.2.2.2.2) (k:Int) b=some ((),Ge h k b f):=by
 have h3:k<(CL h k f).2.2.2.1.length:=by show k<(h.2.2.2.1.set k f.2).length;rw [List.length_set];exact h1
 have e:(CL h k f).2.2.2.1[k]=f.2:=List.getElem_set_self _
 have a:=Nn (CL h k f) k b h3 h2 (by rw [e];exact hq) hb
 have c:=Of (CL h k f) k b h3 h2 (by rw [e];exact hq) hb
 rw [e] at a c
 exact ⟨a,c⟩
theorem Nq (h:Host)(k:Ae 900000000 h):oz h=some (rQ h):=by
 have hfu:=bl
 unfold oz rQ
 rw [ou h (k.z.mono (by omega)),ab,xM h (k.sz (by omega)),ab]
 cases hb:dk h with|false=>rfl|true=> ?_
 have hl:=pn (by simp only [dk,Bool.and_eq_true] at hb;exact hb.2.2.2.2.1:se h=true)
 have hr:=ES hb
 simp only [Bool.not_true,cond_false,cond_true]
 refine bz (fun i=>((i:Int),dg ez i h)) h.2.2.2.1.length (by omega) (fun i nx hi=> ?_) (fun nx=> ?_)
 ·have kk:=mh uu h i
  have zz:aK 900000000 bf (dg ez i h):=(uc (by omega) zJ k.z i).mono (by omega)
  have i1:i<(dg ez i h).2.2.2.1.length:=by rw [kk.rx];exact hi
  have i2:i<(dg ez i h).2.2.2.2.2.1.length:=by rw [kk.vec];omega
  have e1:(dg ez i h).2.2.2.1[i]=h.2.2.2.1[i]:=by
   have:=kk.rxs i (Nat.le_refl _)
   rw [List.getElem?_eq_getElem i1,List.getElem?_eq_getElem hi] at this
   exact Option.some.inj this
  rw [show dg ez (i+1) h=ez i (dg ez i h) from rfl]
  generalize dg ez i h=s at zz i1 i2 e1⊢
  have z1:s.1.length≤900000000:=zz.1.1
  have z2:s.2.1.length≤900000000:=zz.2.1.1
  have hrx:=hr i hi
  rw [←e1] at hrx
  have hqd:=jN (xZ hrx).1
  have hf:=BI (show 128≤900000000 by omega) (l:=s.2.1) (d:=0) (k:=s.2.2.2.2.2.2.2.2.1.2.2.1) zz.1 (zz.2.2.2.1.2 _ (List.getElem_mem i1))
  have ev:=CW (h:=s) (k:=i) (b:=s.2.2.2.1[i].2.1.2.2) (f:=nK s.2.1 s.1 0 s.2.2.2.1[i] s.2.2.2.2.2.2.2.2.1.2.2.1) i1 i2 (hf.2.2.2 hrx).1 (by omega)
  simp only [kx,ez]
  rw [decide_eq_true (by omega),cond_true,List.getElem?_eq_getElem i1]
  simp only [ax i1,ax hi,ab,QG s.2.1 s.1 0 _ _ (show s.2.1.length≤1000000000 by omega) (show s.1.length≤1000000000 by omega),Int.toNat_natCast,←e1,ev.1]
  rw [wrap64 (by omega) (by omega)];rfl
 simp only [kx]
 rw [decide_eq_false (by omega),cond_false]
theorem Oi (h:Host)(k:Ae 900000000 h):pJ h=some (rQ h):=by
 have hfu:=bl
 unfold pJ rQ
 rw [pB h (k.z.mono (by omega)),ab]
 have hv:h.2.2.2.1.length≤900000000:=k.z.2.2.2.1.1
 cases hb:dk h with
 |false=>
  obtain ⟨g,hg⟩:∃g,fuel=g+1:=⟨fuel-1,by omega⟩
  rw [hg,aq,gI,tZ h (k.sz (by omega)),hb]
  cases decide ((0:Int)<(h.2.2.2.1.length:Int))<;>rfl
 |true=>
  have hl:=pn (by simp only [dk,Bool.and_eq_true] at hb;exact hb.2.2.2.2.1:se h=true)
  have hr:=ES hb
  simp only [cond_true]
  refine bz (fun i=>((i:Int),dg ez i h)) h.2.2.2.1.length (by omega) (fun i nx hi=> ?_) (fun nx=> ?_)
  ·have kk:=mh uu h i
   have zz:aK 900000000 bf (dg ez i h):=(uc (by omega) zJ k.z i).mono (by omega)
   have i1:i<(dg ez i h).2.2.2.1.length:=by rw [kk.rx];exact hi
   have i2:i<(dg ez i h).2.2.2.2.2.1.length:=by rw [kk.vec];omega
   have e1:(dg ez i h).2.2.2.1[i]=h.2.2.2.1[i]:=by
    have:=kk.rxs i (Nat.le_refl _)
    rw [List.getElem?_eq_getElem i1,List.getElem?_eq_getElem hi] at this
    exact Option.some.inj this
   have em:=kk.maps
   have es:=kk.ste
   rw [show dg ez (i+1) h=ez i (dg ez i h) from rfl]
   generalize dg ez i h=s at zz i1 i2 e1 em es⊢
   have z1:s.1.length≤900000000:=zz.1.1
   have z2:s.2.1.length≤900000000:=zz.2.1.1
   have hrx:=hr i hi
   rw [←e1] at hrx
   have hqd:=jN (xZ hrx).1
   have hf:=BI (show 128≤900000000 by omega) (l:=s.2.1) (d:=0) (k:=s.2.2.2.2.2.2.2.2.1.2.2.1) zz.1 (zz.2.2.2.1.2 _ (List.getElem_mem i1))
   have ev:=CW (h:=s) (k:=i) (b:=s.2.2.2.1[i].2.1.2.2) (f:=nK s.2.1 s.1 0 s.2.2.2.1[i] s.2.2.2.2.2.2.2.2.1.2.2.1) i1 i2 (hf.2.2.2 hrx).1 (by omega)
   simp only [gI,ez,tZ h (k.sz (by omega)),hb]
   rw [decide_eq_true (by omega),cond_true,List.getElem?_eq_getElem i1]
   simp only [ax i1,ax hi,ab,cond_true,←em,←es,←e1,RM s.2.1 s.1 0 _ _ (show s.2.1.length≤1000000000 by omega) (show s.1.length≤1000000000 by omega),Int.toNat_natCast,ev.2]
   rw [wrap64 (by omega) (by omega)];rfl
  simp only [gI]
  rw [decide_eq_false (by omega),cond_false,ab,cond_false]
end
end Go.Pu
end
section
namespace Go.Pu
open Go.Dn
set_option linter.unusedSimpArgs false
set_option linter.unusedVariables false
noncomputable section
theorem WX (l:List ae)(m:List Bytes)(d:Int)(rx:aw)(pl:aV)(st:List Stream)(c:Int):(iH l m d rx pl st c).1.length=m.length:=by
 unfold iH
 cases !GD rx||(!du pl|| !bp c 0 1000) with
 |true=>rfl
 |false=>exact Wp ..
def wR (b:Int)(k:Nat)(s:Int×Host):Int×Host:=
 match s.2.2.2.2.2.2.1[k]?,s.2.2.2.2.2.2.2.1[k]?,s.2.2.2.2.1[k]?,s.2.2.2.2.2.1[k]? with
 |some v,some p,some x,some pl=>
  bif p||(xz v).2 then
   (IntKind.wrap .i64 (s.1+(iH s.2.2.1 s.2.1 0 x pl s.2.2.2.2.2.2.2.2.2.2.1 b).2.2.2.2),
    (iH s.2.2.1 s.2.1 0 x pl s.2.2.2.2.2.2.2.2.2.2.1 b).1,s.2.2.1,s.2.2.2.1,s.2.2.2.2.1.set k (iH s.2.2.1 s.2.1 0 x pl s.2.2.2.2.2.2.2.2.2.2.1 b).2.1,s.2.2.2.2.2.1.set k (iH s.2.2.1 s.2.1 0 x pl s.2.2.2.2.2.2.2.2.2.2.1 b).2.2.1,
    s.2.2.2.2.2.2.1.set k (bif decide ((iH s.2.2.1 s.2.1 0 x pl s.2.2.2.2.2.2.2.2.2.2.1 b).2.2.2.2<b) then Bs (xz v).1 else (xz v).1),
    s.2.2.2.2.2.2.2.1.set k (!decide ((iH s.2.2.1 s.2.1 0 x pl s.2.2.2.2.2.2.2.2.2.2.1 b).2.2.2.2<b)),s.2.2.2.2.2.2.2.2.1,s.2.2.2.2.2.2.2.2.2.1,(iH s.2.2.1 s.2.1 0 x pl s.2.2.2.2.2.2.2.2.2.2.1 b).2.2.2.1,s.2.2.2.2.2.2.2.2.2.2.2)
  else (s.1,s.2.1,s.2.2.1,s.2.2.2.1,s.2.2.2.2.1,s.2.2.2.2.2.1,s.2.2.2.2.2.2.1.set k (xz v).1,s.2.2.2.2.2.2.2.1.set k false,s.2.2.2.2.2.2.2.2)
 |_,_,_,_=>s
theorem L4 (b:Int)(k:Nat)(s:Int×Host):fS (k+1) s.2 (wR b k s).2:=by
 unfold wR
 cases s.2.2.2.2.2.2.1[k]? with|none=>exact fS.refl _ _|some v=> ?_
 cases s.2.2.2.2.2.2.2.1[k]? with|none=>exact fS.refl _ _|some p=> ?_
 cases s.2.2.2.2.1[k]? with|none=>exact fS.refl _ _|some x=> ?_
 cases s.2.2.2.2.2.1[k]? with|none=>exact fS.refl _ _|some pl=> ?_
 simp only
 cases p||(xz v).2 with
 |true=>exact ⟨WX ..,rfl,rfl,List.length_set ..,fun j hj=>List.getElem?_set_ne (by omega),List.length_set ..,List.length_set ..,fun j hj=>List.getElem?_set_ne (by omega),List.length_set ..,rfl,rfl⟩
 |false=>exact ⟨rfl,rfl,rfl,rfl,fun _ _=>rfl,rfl,List.length_set ..,fun j hj=>List.getElem?_set_ne (by omega),List.length_set ..,rfl,rfl⟩
theorem Oc (b:Int)(k:Nat)(s:Int×Host){n:Nat}(hn:1000≤n)(z:aK n bf s.2):aK (n+322000) bf (wR b k s).2:=by
 have z':aK (n+322000) bf s.2:=z.mono (by omega)
 unfold wR
 cases s.2.2.2.2.2.2.1[k]? with|none=>exact z'|some v=> ?_
 cases s.2.2.2.2.2.2.2.1[k]? with|none=>exact z'|some p=> ?_
 cases h1:s.2.2.2.2.1[k]? with|none=>exact z'|some x=> ?_
 cases h2:s.2.2.2.2.2.1[k]? with|none=>exact z'|some pl=> ?_
 simp only
 cases p||(xz v).2 with
 |true=>
  have hp:=Rz (by omega) (l:=s.2.2.1) (d:=0) b z.1 (z.2.2.2.1.2 _ (List.mem_of_getElem? h1)) (z.2.2.2.2.1.2 _ (List.mem_of_getElem? h2)) z.2.2.2.2.2.2.2.2.2.1
  exact ⟨hp.1.mono (by omega),z'.2.1,z'.2.2.1,vo z'.2.2.2.1 (hp.2.1.mono (by omega)),vo z'.2.2.2.2.1 hp.2.2.1,Dx z'.2.2.2.2.2.1,vo z'.2.2.2.2.2.2.1 trivial,z'.2.2.2.2.2.2.2.1,z'.2.2.2.2.2.2.2.2.1,hp.2.2.2.1,z'.2.2.2.2.2.2.2.2.2.2⟩
 |false=>exact ⟨z'.1,z'.2.1,z'.2.2.1,z'.2.2.2.1,z'.2.2.2.2.1,Dx z'.2.2.2.2.2.1,vo z'.2.2.2.2.2.2.1 trivial,z'.2.2.2.2.2.2.2⟩
def eD (b:Int):Nat→Host→Int×Host
 |0,h=>(0,h)
 |k+1,h=>wR b k (eD b k h)
theorem s5 (b:Int)(h:Host):∀k,fS k h (eD b k h).2
 |0=>fS.refl 0 h
 |k+1=>((s5 b h k).up (by omega)).trans (L4 b k _)
theorem wQ (b:Int){n:Nat}(hn:1000≤n){h:Host}(z:aK n bf h):∀k,aK (n+322000*k) bf (eD b k h).2
 |0=>z
 |k+1=>(Oc b k _ (by omega) (wQ b hn z k)).mono (by omega)
def pA (h:Host)(b:Int):Host×Int:=bif dk h&&bp b 1 1000 then ((eD b h.2.2.2.1.length h).2,(eD b h.2.2.2.1.length h).1) else (h,0)
theorem L6 {n:Nat}(hn:1000≤n){h:Host}(b:Int)(k:Ae n h):Ae (n+644000) (pA h b).1:=by
 unfold pA
 cases hb:dk h&&bp b 1 1000 with
 |false=>exact k.mono (by omega)
 |true=>
  simp only [Bool.and_eq_true] at hb
  have hl:=pn (by have:=hb.1;simp only [dk,Bool.and_eq_true] at this;exact this.2.2.2.2.1:se h=true)
  refine ⟨(wQ b hn k.z _).mono (by omega), ?_⟩
  simp only [cond_true]
  rw [(s5 b h _).tx]
  exact Nat.le_trans k.t (by omega)
theorem Ln (h:Host)(b:Int)(k:Ae 400000000 h):lK h b=some (pA h b):=by
 have hfu:=bl
 unfold lK pA
 rw [ou h (k.z.mono (by omega)),ab,xM h (k.sz (by omega)),ab,bm]
 cases hb:dk h with|false=>rfl|true=> ?_
 cases hi0:bp b 1 1000 with|false=>rfl|true=> ?_
 have hl:=pn (by simp only [dk,Bool.and_eq_true] at hb;exact hb.2.2.2.2.1:se h=true)
 simp only [Bool.not_true,cond_false,ab,Bool.and_self,cond_true]
 refine bz (fun i=>((eD b i h).1,(i:Int),(eD b i h).2)) h.2.2.2.1.length (by omega) (fun i nx hi=> ?_) (fun nx=> ?_)
 ·have kk:=s5 b h i
  have zz:aK 500000000 bf (eD b i h).2:=(wQ b (by omega) k.z i).mono (by omega)
  have i1:i<(eD b i h).2.2.2.2.1.length:=by rw [kk.rx];exact hi
  have i2:i<(eD b i h).2.2.2.2.2.1.length:=by rw [kk.pl];omega
  have i3:i<(eD b i h).2.2.2.2.2.2.1.length:=by rw [kk.vec];omega
  have i4:i<(eD b i h).2.2.2.2.2.2.2.1.length:=by rw [kk.pol];omega
  rw [show eD b (i+1) h=wR b i (eD b i h) from rfl]
  generalize eD b i h=s at zz i1 i2 i3 i4⊢
  have gp:∀(V:List Vector)(P:List Bool),mI (s.2.1,s.2.2.1,s.2.2.2.1,s.2.2.2.2.1,s.2.2.2.2.2.1,V,P,s.2.2.2.2.2.2.2.2) (i:Int) b=some ((iH s.2.2.1 s.2.1 0 s.2.2.2.2.1[i] s.2.2.2.2.2.1[i] s.2.2.2.2.2.2.2.2.2.2.1 b).2.2.2.2,(iH s.2.2.1 s.2.1 0 s.2.2.2.2.1[i] s.2.2.2.2.2.1[i] s.2.2.2.2.2.2.2.2.2.2.1 b).1,s.2.2.1,s.2.2.2.1,s.2.2.2.2.1.set i (iH s.2.2.1 s.2.1 0 s.2.2.2.2.1[i] s.2.2.2.2.2.1[i] s.2.2.2.2.2.2.2.2.2.2.1 b).2.1,s.2.2.2.2.2.1.set i (iH s.2.2.1 s.2.1 0 s.2.2.2.2.1[i] s.2.2.2.2.2.1[i] s.2.2.2.2.2.2.2.2.2.2.1 b).2.2.1,V,P,s.2.2.2.2.2.2.2.2.1,s.2.2.2.2.2.2.2.2.2.1,(iH s.2.2.1 s.2.1 0 s.2.2.2.2.1[i] s.2.2.2.2.2.1[i] s.2.2.2.2.2.2.2.2.2.2.1 b).2.2.2.1,s.2.2.2.2.2.2.2.2.2.2.2):=by
   intro V P
   have hpl:s.2.2.2.2.2.1[i].2.2.2.length≤500000000:=(zz.2.2.2.2.1.2 _ (List.getElem_mem i2)).2.2.2.1
   have hm:s.2.1.length≤500000000:=zz.1.1
   have hp:s.2.2.1.length≤500000000:=zz.2.1.1
   unfold mI
   simp only [ax i1,ax i2,ab,S4 s.2.2.1 s.2.1 0 _ _ _ b (show s.2.2.1.length≤1000000000 by omega) (show s.2.1.length≤1000000000 by omega) hpl zz.2.2.2.2.2.2.2.2.2.1,Int.toNat_natCast]
  have hset:∀V:Vector,s.2.2.2.2.2.2.1.set i V=s.2.2.2.2.2.2.1.set i V:=fun _=>rfl
  unfold wR
  rw [List.getElem?_eq_getElem i1,List.getElem?_eq_getElem i2,List.getElem?_eq_getElem i3,List.getElem?_eq_getElem i4]
  simp only [g4]
  rw [decide_eq_true (by omega),cond_true]
  simp only [ax i3,ax i4,ab,QO,Int.toNat_natCast,gp]
  generalize xz s.2.2.2.2.2.2.1[i]=w
  generalize iH s.2.2.1 s.2.1 0 s.2.2.2.2.1[i] s.2.2.2.2.2.1[i] s.2.2.2.2.2.2.2.2.2.2.1 b=pr
  have i5:∀V:Vector,i<(s.2.2.2.2.2.2.1.set i V).length:=fun V=>by rw [List.length_set];exact i3
  have i6:∀q:Bool,i<(s.2.2.2.2.2.2.2.1.set i q).length:=fun q=>by rw [List.length_set];exact i4
  have e5:∀V:Vector,idx (s.2.2.2.2.2.2.1.set i V) (i:Int)=some V:=fun V=>by rw [ax (i5 V),List.getElem_set_self]
  have e6:∀q:Bool,idx (s.2.2.2.2.2.2.2.1.set i q) (i:Int)=some q:=fun q=>by rw [ax (i6 q),List.getElem_set_self]
  rw [wrap64 (n:=(i:Int)+1) (by omega) (by omega)]
  have hself:s.2.2.2.2.2.2.2.1.set i (s.2.2.2.2.2.2.2.1[i])=s.2.2.2.2.2.2.2.1:=List.set_getElem_self ..
  generalize hp:s.2.2.2.2.2.2.2.1[i]=p at hself⊢
  cases hw:w.2 with
  |true=>
   simp only [Bool.or_true,cond_true,e6,e5,ab,Bool.not_true,cond_false,E0,List.set_set]
   cases decide (pr.2.2.2.2<b)<;>rfl
  |false=>
   simp only [Bool.or_false,cond_false]
   cases p with
   |false=>rw [hself];rfl
   |true=>
    have e7:idx s.2.2.2.2.2.2.2.1 (i:Int)=some true:=by rw [ax i4,hp]
    simp only [cond_true,Bool.not_true,cond_false,e5,e7,ab,E0,List.set_set]
    cases decide (pr.2.2.2.2<b) with
    |true=>rfl
    |false=>simp only [cond_false,Bool.not_false,hself];rfl
 simp only [g4]
 rw [decide_eq_false (by omega),cond_false]
theorem Mh (h:Host)(b:Int)(k:Ae 400000000 h):l6 h b=some (pA h b):=by
 have hfu:=bl
 unfold l6 pA
 rw [pB h (k.z.mono (by omega)),ab,tZ h (k.sz (by omega)),ab,bh]
 cases hb:dk h with|false=>rfl|true=> ?_
 cases hi0:bp b 1 1000 with|false=>rfl|true=> ?_
 have hl:=pn (by simp only [dk,Bool.and_eq_true] at hb;exact hb.2.2.2.2.1:se h=true)
 simp only [Bool.not_true,cond_false,ab,Bool.and_self,cond_true]
 refine bz (fun i=>((eD b i h).1,(i:Int),(eD b i h).2)) h.2.2.2.1.length (by omega) (fun i nx hi=> ?_) (fun nx=> ?_)
 ·have kk:=s5 b h i
  have zz:aK 500000000 bf (eD b i h).2:=(wQ b (by omega) k.z i).mono (by omega)
  have i1:i<(eD b i h).2.2.2.2.1.length:=by rw [kk.rx];exact hi
  have i2:i<(eD b i h).2.2.2.2.2.1.length:=by rw [kk.pl];omega
  have i3:i<(eD b i h).2.2.2.2.2.2.1.length:=by rw [kk.vec];omega
  have i4:i<(eD b i h).2.2.2.2.2.2.2.1.length:=by rw [kk.pol];omega
  have em:=kk.maps
  rw [show eD b (i+1) h=wR b i (eD b i h) from rfl]
  generalize eD b i h=s at zz i1 i2 i3 i4 em⊢
  have hpl:s.2.2.2.2.2.1[i].2.2.2.length≤500000000:=(zz.2.2.2.2.1.2 _ (List.getElem_mem i2)).2.2.2.1
  have hm:s.2.1.length≤500000000:=zz.1.1
  have hp:s.2.2.1.length≤500000000:=zz.2.1.1
  have gp:=T6 s.2.2.1 s.2.1 0 s.2.2.2.2.1[i] s.2.2.2.2.2.1[i] s.2.2.2.2.2.2.2.2.2.2.1 b (show s.2.2.1.length≤1000000000 by omega) (show s.2.1.length≤1000000000 by omega) hpl zz.2.2.2.2.2.2.2.2.2.1
  unfold wR
  rw [List.getElem?_eq_getElem i1,List.getElem?_eq_getElem i2,List.getElem?_eq_getElem i3,List.getElem?_eq_getElem i4]
  simp only [ia]
  rw [decide_eq_true (by omega),cond_true,←em]
  simp only [ax i1,ax i2,ax i3,ax i4,ab,RS,Int.toNat_natCast,gp]
  generalize xz s.2.2.2.2.2.2.1[i]=w
  generalize iH s.2.2.1 s.2.1 0 s.2.2.2.2.1[i] s.2.2.2.2.2.1[i] s.2.2.2.2.2.2.2.2.2.2.1 b=pr
  have i5:∀V:Vector,i<(s.2.2.2.2.2.2.1.set i V).length:=fun V=>by rw [List.length_set];exact i3
  have i6:∀q:Bool,i<(s.2.2.2.2.2.2.2.1.set i q).length:=fun q=>by rw [List.length_set];exact i4
  have e5:∀V:Vector,idx (s.2.2.2.2.2.2.1.set i V) (i:Int)=some V:=fun V=>by rw [ax (i5 V),List.getElem_set_self]
  have e6:∀q:Bool,idx (s.2.2.2.2.2.2.2.1.set i q) (i:Int)=some q:=fun q=>by rw [ax (i6 q),List.getElem_set_self]
  rw [wrap64 (n:=(i:Int)+1) (by omega) (by omega)]
  generalize s.2.2.2.2.2.2.2.1[i]=p
  cases p with
  |true=>
   simp only [Bool.true_or,cond_true,e6,e5,ab,Bool.not_true,cond_false,FQ,List.set_set]
   cases decide (pr.2.2.2.2<b)<;>rfl
  |false=>
   simp only [Bool.false_or,cond_false,e6,e5,ab,FQ,List.set_set]
   cases w.2 with
   |false=>rfl
   |true=>
    simp only [Bool.not_true,cond_false,cond_true]
    cases decide (pr.2.2.2.2<b)<;>rfl
 simp only [ia]
 rw [decide_eq_false (by have:=(s5 b h h.2.2.2.1.length).rx;omega),cond_false]
def BD (b:Int):Nat→Host→Host
 |0,h=>h
 |k+1,h=>(pA (yk (BD b k h)) b).1
theorem F2 {n:Nat}(hn:1000≤n){h:Host}(k:Ae n h):Ae n (yk h):=by
 have:=VN hn k.z
 exact ⟨this.1,by rw [this.2];exact k.t⟩
theorem yr (b:Int){n:Nat}(hn:1000≤n){h:Host}(z:Ae n h):∀k,Ae (n+644000*k) (BD b k h)
 |0=>z
 |k+1=>(L6 (by omega) b (F2 (by omega) (yr b hn z k))).mono (by omega)
def rP (h:Host)(b r:Int):Host:=bif dk h&&(bp b 1 1000&&bp r 0 200) then BD b r.toNat (rQ (gh h)) else h
theorem Qg {n:Nat}(hn:1000≤n){h:Host}(b r:Int)(z:Ae n h):Ae (n+128805440) (rP h b r):=by
 unfold rP
 cases hb:dk h&&(bp b 1 1000&&bp r 0 200) with
 |false=>exact z.mono (by omega)
 |true=>
  simp only [Bool.and_eq_true] at hb
  have hr:=aQ.1 hb.2.2
  exact (yr b (by omega) (BH (by omega) (xb (by omega) z)) r.toNat).mono (by omega)
theorem QE (h:Host)(b r:Int)(k:Ae 200000000 h):kY h b r=some (rP h b r):=by
 have hfu:=bl
 unfold kY rP
 rw [ou h (k.z.mono (by omega)),ab,xM h (k.sz (by omega)),bm,bm]
 simp only [ab]
 cases hb:dk h with|false=>rfl|true=> ?_
 cases hi0:bp b 1 1000 with|false=>rfl|true=> ?_
 cases hi1:bp r 0 200 with|false=>rfl|true=> ?_
 have hr:=aQ.1 hi1
 obtain ⟨r,rfl⟩:=Int.eq_ofNat_of_zero_le hr.1
 have zt:=xb (by omega) k
 have zf:=BH (by omega) zt
 simp only [Bool.not_true,cond_false,ab,Bool.and_self,cond_true,I9 h (k.mono (by omega)),Nq _ (zt.mono (by omega)),Int.toNat_natCast]
 refine bz (fun i=>((i:Int),BD b i (rQ (gh h)))) r (by omega) (fun i nx hi=> ?_) (fun nx=> ?_)
 ·have zi:=yr b (by omega) zf i
  have z2:=F2 (by omega) zi
  simp only [kt]
  rw [decide_eq_true (by omega),cond_true,Tb _ (zi.sz (by omega)) (zi.z.mono (by omega)),ab,Ln _ b (z2.mono (by omega)),ab,wrap64 (by omega) (by omega)];rfl
 simp only [kt]
 rw [decide_eq_false (by omega),cond_false]
theorem RK (h:Host)(b r:Int)(k:Ae 200000000 h):pE h b r=some (rP h b r):=by
 have hfu:=bl
 unfold pE rP
 rw [tZ h (k.sz (by omega)),bh,bh,pB h (k.z.mono (by omega))]
 simp only [ab]
 cases hb:dk h with|false=>rfl|true=> ?_
 cases hi0:bp b 1 1000 with|false=>rfl|true=> ?_
 cases hi1:bp r 0 200 with|false=>rfl|true=> ?_
 have hr:=aQ.1 hi1
 obtain ⟨r,rfl⟩:=Int.eq_ofNat_of_zero_le hr.1
 have zt:=xb (by omega) k
 have zf:=BH (by omega) zt
 simp only [Bool.not_true,cond_false,ab,Bool.and_self,cond_true,JO h (k.mono (by omega)),Oi _ (zt.mono (by omega)),Int.toNat_natCast]
 refine bz (fun i=>((i:Int),BD b i (rQ (gh h)))) r (by omega) (fun i nx hi=> ?_) (fun nx=> ?_)
 ·have zi:=yr b (by omega) zf i
  have z2:=F2 (by omega) zi
  simp only [kJ]
  rw [decide_eq_true (by omega),cond_true,Uc _ (zi.sz (by omega)) (zi.z.mono (by omega)),ab,Mh _ b (z2.mono (by omega)),ab,wrap64 (by omega) (by omega)];rfl
 simp only [kJ]
 rw [decide_eq_false (by omega),cond_false]
end
end Go.Pu
end
section
namespace Go.Pu
open Go.Dn
noncomputable section
theorem ze {R:Type}(K:Int→Bytes→Option R):∀(n:Nat)(v:Int)(s:Bytes)(m:Nat),0≤v→v≤1000000000000000→v<10^n→s.length+n≤1000→n<m→∃s':Bytes,s'.length≤1000∧∃v',aq (lY K) m (v,s)=K v' s'
 |0,v,s,m,h0,_,h1,hs,hm=>by
  have hv:v=0:=by simp at h1;omega
  subst hv
  cases m with
  |zero=>omega
  |succ m=>exact ⟨s,by omega,0,by rw [aq];rfl⟩
 |n+1,v,s,m,h0,hb,h1,hs,hm=>by
  cases m with
  |zero=>omega
  |succ m=>
   rw [aq]
   simp only [lY]
   by_cases hv:v>0
   ·have hq:Int.tdiv v 10=v/10:=Int.tdiv_eq_ediv_of_nonneg h0
    rw [decide_eq_true hv]
    simp only [cond_true]
    rw [if_neg (by omega),ao (by simp [bytesOf];omega),if_neg (by omega),hq,wrap64 (n:=v/10) (by omega) (by omega)]
    exact ze K n (v/10) _ m (by omega) (by omega) (by rw [Int.pow_succ] at h1;omega) (by simp [bytesOf];omega) (by omega)
   ·rw [decide_eq_false hv]
    exact ⟨s,by omega,v,rfl⟩
theorem Gw (k:Int)(h1:1≤k)(h2:k≤1000000000000000):∃s,aU k=some s:=by
 have hfu:=bl
 unfold aU
 rw [decide_eq_false (by omega)]
 simp only [cond_false]
 obtain ⟨s,hs,v,h⟩:=ze (fun (_:Int) (y2:Bytes)=>room (List.length ([109]:Bytes)+List.length y2) (some (([109]:Bytes)++y2))) 16 k [] fuel (by omega) h2 (by omega) (by simp) (by omega)
 rw [h,ao (by simp;omega)]
 exact ⟨_,rfl⟩
def Xl (k:Int):Bytes:=(aU k).getD []
theorem fW (k:Int)(h1:1≤k)(h2:k≤1000000000000000):aU k=some (Xl k):=by
 obtain ⟨s,hs⟩:=Gw k h1 h2
 rw [Xl,hs];rfl
def gN:(t:CT)→t.D→Nat
 | .int _,_=>1
 | .bool,_=>1
 | .str,_=>1
 | .sl e,xs=>(xs.map (gN e)).sum
 | .pair a b,x=>gN a x.1+gN b x.2
def mkL {α:Type}(f:α→Int→α)(c:α→Nat):List α→Int→List α
 |[],_=>[]
 |x::xs,k=>f x k::mkL f c xs (k+c x)
def mk:(t:CT)→t.D→Int→t.D
 | .int _,_,k=>k
 | .bool,_,k=>Int.tmod k 3==0
 | .str,_,k=>Xl k
 | .sl e,xs,k=>mkL (mk e) (gN e) xs k
 | .pair a b,x,k=>(mk a x.1 k,mk b x.2 (k+gN a x.1))
def ba:(t:CT)→t.D→Nat
 | .int _,_=>0
 | .bool,_=>0
 | .str,_=>0
 | .sl e,xs=>gN (.sl e) xs
 | .pair a b,x=>ba a x.1+ba b x.2
def xx:(t:CT)→t.D→Int→t.D
 | .int _,x,_=>x
 | .bool,x,_=>x
 | .str,x,_=>x
 | .sl e,xs,k=>mk (.sl e) xs k
 | .pair a b,x,k=>(xx a x.1 k,xx b x.2 (k+ba a x.1))
theorem BW {k:IntKind}(x k':Int):mk (.int k) x k'=k':=rfl
theorem yG (x:Bool)(k:Int):mk .bool x k=(Int.tmod k 3==0):=rfl
theorem BX (x:Bytes)(k:Int):mk .str x k=Xl k:=rfl
theorem uM {a b:CT}(x:a.D×b.D)(k:Int):mk (.pair a b) x k=(mk a x.1 k,mk b x.2 (k+gN a x.1)):=rfl
theorem gm {k:IntKind}(x:Int):gN (.int k) x=1:=rfl
theorem dN (x:Bool):gN .bool x=1:=rfl
theorem gq (x:Bytes):gN .str x=1:=rfl
theorem dP {a b:CT}(x:a.D×b.D):gN (.pair a b) x=gN a x.1+gN b x.2:=rfl
theorem nr {k:IntKind}(x k':Int):xx (.int k) x k'=x:=rfl
theorem jL (x:Bool)(k:Int):xx .bool x k=x:=rfl
theorem ns (x:Bytes)(k:Int):xx .str x k=x:=rfl
theorem jM {a b:CT}(x:a.D×b.D)(k:Int):xx (.pair a b) x k=(xx a x.1 k,xx b x.2 (k+ba a x.1)):=rfl
theorem jD {k:IntKind}(x:Int):ba (.int k) x=0:=rfl
theorem fX (x:Bool):ba .bool x=0:=rfl
theorem jE (x:Bytes):ba .str x=0:=rfl
theorem fY {a b:CT}(x:a.D×b.D):ba (.pair a b) x=ba a x.1+ba b x.2:=rfl
theorem ne3:¬(3:Int)=0:=by omega
theorem lH {n:Int}(h:¬n<0):decide (n<0)=false:=decide_eq_false h
theorem jd {α:Type}{l:List α}{i:Nat}(x:α)(h:i<l.length):idx (l.set i x) (i:Int)=some x:=by
 rw [Di,List.getElem?_set_self h]
theorem Hh {e:CT}{T:((List e.D×Int×Int×List e.D)→Option (Int×List e.D))→(List e.D×Int×Int×List e.D)→Option (Int×List e.D)}
 (hs:∀(l:List e.D)(i:Nat)(hi:i<l.length)(k:Int) nx,1≤k→k+gN e l[i]≤1000000000000000→l.length≤1000000000000→aK 1000000000000 e l[i]→
  T nx (l,k,(i:Int),l)=nx (l.set i (mk e l[i] k),k+gN e l[i],(i:Int)+1,l.set i (mk e l[i] k)))
 (hf:∀(l:List e.D)(k:Int) nx,T nx (l,k,(l.length:Int),l)=some (k,l)):
 ∀(xs pre:List e.D)(k:Int)(n:Nat),1≤k→k+gN (.sl e) xs≤1000000000000000→pre.length+xs.length≤1000000000000→(∀x∈xs,aK 1000000000000 e x)→xs.length<n→
  aq T n (pre++xs,k,(pre.length:Int),pre++xs)=some (k+gN (.sl e) xs,pre++mk (.sl e) xs k)
 |[],pre,k,n,_,_,_,_,hn=>by
  cases n with
  |zero=>omega
  |succ n=>
   rw [aq,List.append_nil,hf]
   simp [gN,mk,mkL]
 |x::xs,pre,k,n,h1,h2,h3,h4,hn=>by
  cases n with
  |zero=>omega
  |succ n=>
   have hc:gN (.sl e) (x::xs)=gN e x+gN (.sl e) xs:=by simp [gN]
   have hi:pre.length<(pre++x::xs).length:=by simp
   have hx:(pre++x::xs)[pre.length]=x:=by simp
   simp only [List.length_cons] at h3 hn
   rw [aq,hs _ pre.length hi k _ h1 (by rw [hx];omega) (by simp;omega) (by rw [hx];exact h4 x (by simp)),hx]
   have hset:(pre++x::xs).set pre.length (mk e x k)=(pre++[mk e x k])++xs:=by
    rw [List.set_append_right _ _ (Nat.le_refl _),Nat.sub_self,List.set_cons_zero,List.append_assoc];rfl
   have hl:((pre.length:Int)+1)=(((pre++[mk e x k]).length:Nat):Int):=by simp
   rw [hset,hl,Hh hs hf xs _ _ n (by omega) (by omega) (by simp;omega) (fun y hy=>h4 y (by simp [hy])) (by omega)]
   rw [hc]
   congr 1
   refine Prod.ext (by simp only;omega) ?_
   simp only [mk,mkL,List.append_assoc,List.singleton_append]
theorem G3 {e:CT}{T:List e.D→((Int×Int)→Option Int)→(Int×Int)→Option Int}
 (hs:∀(l:List e.D)(i:Nat)(hi:i<l.length)(x:e.D)(k:Int) nx,l[i]=mk e x k→1≤k→k+gN e x≤1000000000000000→l.length≤1000000000000→aK 1000000000000 e x→
  T l nx (k,(i:Int))=nx (k+gN e x,(i:Int)+1))
 (hf:∀(l:List e.D)(k:Int) nx,T l nx (k,(l.length:Int))=some k):
 ∀(xs pre:List e.D)(k:Int)(n:Nat),1≤k→k+gN (.sl e) xs≤1000000000000000→pre.length+xs.length≤1000000000000→(∀x∈xs,aK 1000000000000 e x)→xs.length<n→
  aq (T (pre++mk (.sl e) xs k)) n (k,(pre.length:Int))=some (k+gN (.sl e) xs)
 |[],pre,k,n,_,_,_,_,hn=>by
  cases n with
  |zero=>omega
  |succ n=>
   have:pre++mk (.sl e) ([]:List e.D) k=pre:=by simp [mk,mkL]
   rw [aq,this,hf]
   simp [gN]
 |x::xs,pre,k,n,h1,h2,h3,h4,hn=>by
  cases n with
  |zero=>omega
  |succ n=>
   have hc:gN (.sl e) (x::xs)=gN e x+gN (.sl e) xs:=by simp [gN]
   have hm:pre++mk (.sl e) (x::xs) k=(pre++[mk e x k])++mk (.sl e) xs (k+gN e x):=by simp [mk,mkL]
   have hlen:∀(ys:List e.D)(k:Int),(mk (.sl e) ys k).length=ys.length:=by
    intro ys
    induction ys with
    |nil=>intro k;rfl
    |cons y ys ih=>intro k;have:=ih (k+gN e y);simp only [mk,mkL,List.length_cons] at this⊢;omega
   simp only [List.length_cons] at h3 hn
   rw [aq,hm,hs _ pre.length (by simp) x k _ (by simp) h1 (by omega) (by have:=hlen xs (k+gN e x);simp;omega) (h4 x (by simp))]
   have hl:((pre.length:Int)+1)=(((pre++[mk e x k]).length:Nat):Int):=by simp
   rw [hl,G3 hs hf xs _ _ n (by omega) (by omega) (by simp;omega) (fun y hy=>h4 y (by simp [hy])) (by omega),hc]
   congr 1
   omega
def MG (t:CT)(mark:t.D→Int→Option (Int×t.D)):Prop:=∀(a:t.D)(_:aK 1000000000000 t a)(k:Int)(_:1≤k)(_:k+gN t a≤1000000000000000),mark a k=some (k+gN t a,mk t a k)
def MF (t:CT)(held:t.D→Int→Option Int):Prop:=∀(a:t.D)(_:aK 1000000000000 t a)(k:Int)(_:1≤k)(_:k+gN t a≤1000000000000000),held (mk t a k) k=some (k+gN t a)
theorem Je {e:CT}{T:((List e.D×Int×Int×List e.D)→Option (Int×List e.D))→(List e.D×Int×Int×List e.D)→Option (Int×List e.D)}
 (hs:∀(l:List e.D)(i:Nat)(hi:i<l.length)(k:Int) nx,1≤k→k+gN e l[i]≤1000000000000000→l.length≤1000000000000→aK 1000000000000 e l[i]→
  T nx (l,k,(i:Int),l)=nx (l.set i (mk e l[i] k),k+gN e l[i],(i:Int)+1,l.set i (mk e l[i] k)))
 (hf:∀(l:List e.D)(k:Int) nx,T nx (l,k,(l.length:Int),l)=some (k,l)):MG (.sl e) (fun a k=>aq T fuel (a,k,0,a)):=by
 have hfu:=bl
 intro a h k h1 h2
 have hl:a.length≤1000000000000:=h.1
 exact Hh hs hf a [] k fuel h1 h2 (by simp;omega) h.2 (by omega)
theorem Jd {e:CT}{H:List e.D→((Int×Int)→Option Int)→(Int×Int)→Option Int}
 (gs:∀(l:List e.D)(i:Nat)(hi:i<l.length)(x:e.D)(k:Int) nx,l[i]=mk e x k→1≤k→k+gN e x≤1000000000000000→l.length≤1000000000000→aK 1000000000000 e x→
  H l nx (k,(i:Int))=nx (k+gN e x,(i:Int)+1))
 (gf:∀(l:List e.D)(k:Int) nx,H l nx (k,(l.length:Int))=some k):MF (.sl e) (fun a k=>aq (H a) fuel (k,0)):=by
 have hfu:=bl
 intro a h k h1 h2
 have hl:a.length≤1000000000000:=h.1
 exact G3 gs gf a [] k fuel h1 h2 (by simp;omega) h.2 (by omega)
def VW (t:CT)(mark:t.D→Int→Option (Int×t.D)):Prop:=∀(a:t.D)(_:aK 1000000000000 t a)(k:Int)(_:1≤k)(_:k+ba t a≤1000000000000000),mark a k=some (k+ba t a,xx t a k)
def VV (t:CT)(held:t.D→Int→Option Int):Prop:=∀(a:t.D)(_:aK 1000000000000 t a)(k:Int)(_:1≤k)(_:k+ba t a≤1000000000000000),held (xx t a k) k=some (k+ba t a)
theorem MG.top {e:CT}{mark:List e.D→Int→Option (Int×List e.D)}(h:MG (.sl e) mark):VW (.sl e) mark:=h
theorem MF.top {e:CT}{held:List e.D→Int→Option Int}(h:MF (.sl e) held):VV (.sl e) held:=h
def OkW:{t:CT}→MI FM t→Prop
 |_,.sl (e:=e) m=>MG (.sl e) m
 |_,.pair a b=>OkW a∧OkW b
 |_,_=>True
theorem JC {α R:Type}{f:Int→Option Bytes}(hf:∀k,1≤k→k≤1000000000000000→f k=some (Xl k)){l:List α}{i:Nat}(hi:i<l.length):∀{t:CT}(n:MI FM t)(_:OkW n)(g:α→t.D)(s:α→t.D→α)(_:∀y v,g (s y v)=v)(_:∀y v w,s (s y v) w=s y w)(x:α)(k:Int)(K:List α→Int→Option R),1≤k→k+gN t (g x)≤1000000000000000→aK 1000000000000 t (g x)→
 xY f (i:Int) n g s (l.set i x) (l.set i x) k K=K (l.set i (s x (mk t (g x) k))) (k+gN t (g x))
 |_,.int _,_,g,s,_,_,x,k,K,h1,h2,_=>by
  simp only [gm] at h2⊢
  rw [xY,jd x hi,ab,ab,Int.toNat_natCast,List.set_set,wrap64 (by omega) (by omega)];rfl
 |_,.bool,_,g,s,_,_,x,k,K,h1,h2,_=>by
  simp only [dN] at h2⊢
  rw [xY,jd x hi,ab,ab,Int.toNat_natCast,List.set_set,wrap64 (by omega) (by omega)];rfl
 |_,.str,_,g,s,_,_,x,k,K,h1,h2,_=>by
  simp only [gq] at h2⊢
  rw [xY,hf k h1 (by omega),ab,jd x hi,ab,ab,Int.toNat_natCast,List.set_set,wrap64 (by omega) (by omega)];rfl
 |_,.sl m,hn,g,s,_,_,x,k,K,h1,h2,h3=>by
  rw [xY,jd x hi,ab,ab,hn (g x) h3 k h1 h2,ab,Int.toNat_natCast,List.set_set]
 |_,.pair (a:=ca) (b:=cb) a b,hn,g,s,l1,l2,x,k,K,h1,h2,h3=>by
  rw [dP] at h2⊢
  have e1:=JC (R:=R) hf hi a hn.1 (fun y=>(g y).1) (fun y v=>s y (v,(g y).2)) (fun y v=>by simp only [l1]) (fun y v w=>by simp only [l1,l2]) x k
  rw [xY,e1 _ h1 (by show k+((gN ca (g x).1:Nat):Int)≤_;omega) h3.1]
  have e2:=JC (R:=R) hf hi b hn.2 (fun y=>(g y).2) (fun y v=>s y ((g y).1,v)) (fun y v=>by simp only [l1]) (fun y v w=>by simp only [l1,l2]) (s x (mk ca (g x).1 k,(g x).2)) (k+gN ca (g x).1) K (by omega) (by simp only [l1];omega) (by simp only [l1];exact h3.2)
  rw [e2]
  simp only [l1,l2,uM]
  congr 1
  omega
theorem CE {e:CT}(n:MI FM e){T:((List e.D×Int×Int×List e.D)→Option (Int×List e.D))→(List e.D×Int×Int×List e.D)→Option (Int×List e.D)}{f:Int→Option Bytes}(hf:∀k,1≤k→k≤1000000000000000→f k=some (Xl k))(hn:OkW n)
 (he:∀(l:List e.D)(k i:Int) nx,T nx (l,k,i,l)=cond (decide (i<(l.length:Int))) (xY f i n (fun y=>y) (fun _ v=>v) l l k (fun L k'=>nx (L,k',IntKind.wrap .i64 (i+1),L))) (some (k,l))):MG (.sl e) (fun a k=>aq T fuel (a,k,0,a)):=by
 refine Je (fun l i hi k nx h1 h2 h3 hx=> ?_) (fun l k nx=> ?_)
 ·have hl:l=l.set i l[i]:=(List.set_getElem_self hi).symm
  rw [he,decide_eq_true (by omega),cond_true]
  conv=>lhs;rw [hl]
  rw [JC hf hi n hn (fun y=>y) (fun _ v=>v) (fun _ _=>rfl) (fun _ _ _=>rfl) l[i] k _ h1 h2 hx]
  rw [wrap64 (by omega) (by omega)]
 ·rw [he,decide_eq_false (by omega)];rfl
def OkV:{t:CT}→MI FH t→Prop
 |_,.sl (e:=e) m=>MF (.sl e) m
 |_,.pair a b=>OkV a∧OkV b
 |_,_=>True
theorem JB {α R:Type}{f:Int→Option Bytes}(hf:∀k,1≤k→k≤1000000000000000→f k=some (Xl k)){v:List α}{i:Nat}(hi:i<v.length)(bad:Int→Option R):∀{t:CT}(n:MI FH t)(_:OkV n)(g:α→t.D)(K:Int→Option R)(x:t.D)(k:Int),1≤k→k+gN t x≤1000000000000000→aK 1000000000000 t x→g v[i]=mk t x k→
 xX f (i:Int) v bad n g K k=K (k+gN t x)
 |_,.int _,_,g,K,x,k,h1,h2,_,h4=>by
  simp only [gm] at h2⊢
  have h5:g v[i]=k:=h4
  rw [xX,ax hi,ab,h5,bne_self_eq_false,cond_false,wrap64 (by omega) (by omega)];rfl
 |_,.bool,_,g,K,x,k,h1,h2,_,h4=>by
  simp only [dN] at h2⊢
  have h5:g v[i]=(Int.tmod k 3==0):=h4
  rw [xX,ax hi,ab,h5,beq_self_eq_true,Bool.not_true,cond_false,wrap64 (by omega) (by omega)];rfl
 |_,.str,_,g,K,x,k,h1,h2,_,h4=>by
  simp only [gq] at h2⊢
  have h5:g v[i]=Xl k:=h4
  rw [xX,ax hi,ab,hf k h1 (by omega),ab,h5,beq_self_eq_true,Bool.not_true,cond_false,wrap64 (by omega) (by omega)];rfl
 |_,.sl m,hn,g,K,x,k,h1,h2,h3,h4=>by
  rw [xX,ax hi,ab,h4,hn x h3 k h1 h2,ab,decide_eq_false (by omega),cond_false]
 |_,.pair a b,hn,g,K,x,k,h1,h2,h3,h4=>by
  rw [dP] at h2⊢
  rw [uM] at h4
  rw [xX,JB hf hi bad a hn.1 _ _ x.1 k h1 (by omega) h3.1 (by simp only [h4]),JB hf hi bad b hn.2 _ _ x.2 _ (by omega) (by omega) h3.2 (by simp only [h4])]
  congr 1
  omega
theorem CD {e:CT}(n:MI FH e){H:List e.D→((Int×Int)→Option Int)→(Int×Int)→Option Int}{bad:List e.D→Int→Int→Option Int}{f:Int→Option Bytes}(hf:∀k,1≤k→k≤1000000000000000→f k=some (Xl k))(hn:OkV n)
 (he:∀(l:List e.D)(k i:Int) nx,H l nx (k,i)=cond (decide (i<(l.length:Int))) (xX f i l (bad l i) n (fun y=>y) (fun k'=>nx (k',IntKind.wrap .i64 (i+1))) k) (some k)):MF (.sl e) (fun a k=>aq (H a) fuel (k,0)):=by
 refine Jd (fun l i hi x k nx hm h1 h2 h3 hx=> ?_) (fun l k nx=> ?_)
 ·rw [he,decide_eq_true (by omega),cond_true,JB hf hi _ n hn _ _ x k h1 h2 hx hm,wrap64 (by omega) (by omega)]
 ·rw [he,decide_eq_false (by omega)];rfl
theorem De:∀{t:CT}{x:t.D},ba t x≤gN t x
 | .int _,_=>by simp [ba]
 | .bool,_=>by simp [ba]
 | .str,_=>by simp [ba]
 | .sl _,_=>Nat.le_refl _
 | .pair a b,x=>by simp only [ba,gN];exact Nat.add_le_add De De
def Gk (n:Nat):CT→Nat
 | .sl e=>n*Gk n e
 | .pair a b=>Gk n a+Gk n b
 |_=>1
theorem gn {n:Nat}:∀{t:CT}{x:t.D},aK n t x→gN t x≤Gk n t
 | .int _,_,_=>by simp [gN,Gk]
 | .bool,_,_=>by simp [gN,Gk]
 | .str,_,_=>by simp [gN,Gk]
 | .sl e,xs,h=>by
   have h1:∀l:List e.D,(∀x∈l,aK n e x)→(l.map (gN e)).sum≤l.length*Gk n e:=by
    intro l
    induction l with
    |nil=>simp
    |cons y l ih=>
     intro hl
     have:=gn (hl y (by simp))
     have:=ih (fun x hx=>hl x (by simp [hx]))
     simp only [List.map_cons,List.sum_cons,List.length_cons,Nat.add_mul,Nat.one_mul]
     omega
   simp only [gN,Gk]
   exact Nat.le_trans (h1 xs h.2) (Nat.mul_le_mul_right _ h.1)
 | .pair a b,x,h=>by
   simp only [gN,Gk]
   exact Nat.add_le_add (gn h.1) (gn h.2)
theorem HU {n:Nat}{e:CT}:∀{xs:List e.D},(∀x∈xs,aK n e x)→gN (.sl e) xs≤xs.length*Gk n e
 |[],_=>by simp [gN]
 |y::l,h=>by
  have h1:=gn (h y (by simp))
  have h2:=HU (xs:=l) (fun x hx=>h x (by simp [hx]))
  simp only [gN,List.map_cons,List.sum_cons,List.length_cons,Nat.add_mul,Nat.one_mul] at h2⊢
  omega
end
end Go.Pu
end
section
namespace Go.Pu
open Go.Dn
set_option linter.unusedSimpArgs false
set_option linter.unusedVariables false
noncomputable section
structure ME (h:Host):Prop where
 pl:h.2.2.2.2.1.length≤2
 w:h.2.2.1.2.2.1.length≤16
theorem YV {h:Host}(hb:dk h=true):ME h:=by
 have hl:=pn (by have:=hb;simp only [dk,Bool.and_eq_true] at this;exact this.2.2.2.2.1:se h=true)
 have ht:=Ga (t:=h.2.2.1) (by simp only [dk,Bool.and_eq_true] at hb;exact hb.2.2.1)
 exact ⟨by omega,ht⟩
theorem EH {a b:Host}{k:Nat}(f:ME a)(h:fS k a b):ME b:=⟨by rw [h.pl];exact f.pl,by rw [h.tx];exact f.w⟩
theorem SJ {h:Host}(f:ME h):ME (yk h):=by
 unfold yk
 cases dk h with
 |false=>exact f
 |true=>exact EH f (mh w8 h _)
theorem Qt {h:Host}(f:ME h):ME (rQ h):=by
 unfold rQ
 cases dk h with
 |false=>exact f
 |true=>exact EH f (mh uu h _)
theorem Qu {h:Host}(b:Int)(f:ME h):ME (pA h b).1:=by
 unfold pA
 cases dk h&&bp b 1 1000 with
 |false=>exact f
 |true=>exact EH f (s5 b h _)
theorem IY {h:Host}(f:ME h):ME (gh h):=by
 unfold gh
 cases dk h with
 |false=>exact f
 |true=>
  refine ⟨f.pl, ?_⟩
  simp only [cond_true]
  generalize (if (h.2.2.1.2.2.1.length:Int)<IntKind.wrap .i64 ((eZ h.2.1 h.1 0 h.2.2.1.1).2.2.1+(eZ h.2.1 h.1 0 h.2.2.1.1).2.2.2) then (h.2.2.1.2.2.1.length:Int) else IntKind.wrap .i64 ((eZ h.2.1 h.1 0 h.2.2.1.1).2.2.1+(eZ h.2.1 h.1 0 h.2.2.1.1).2.2.2))=q
  unfold fZ
  cases P0 ((eZ h.2.1 h.1 0 h.2.2.1.1).1,h.2.2.1.2)&&bp q 0 (h.2.2.1.2.2.1.length:Int) with
  |false=>exact f.w
  |true=>
   show (h.2.2.1.2.2.1.drop q.toNat).length≤16
   rw [List.length_drop];have:=f.w;omega
theorem Qs {h:Host}(b r:Int)(f:ME h):ME (rP h b r):=by
 unfold rP
 cases dk h&&(bp b 1 1000&&bp r 0 200) with
 |false=>exact f
 |true=>
  have key:∀k,ME (BD b k (rQ (gh h))):=by
   intro k
   induction k with
   |zero=>exact Qt (IY f)
   |succ k ih=>exact Qu b (SJ ih)
  exact key _
theorem SI {n:Nat}{h:Host}(z:aK n bf h)(f:ME h):gN bf h≤400*(n+1):=by
 have hw:h.2.2.1.2.2.1.length*Gk n bJ≤16*Gk n bJ:=Nat.mul_le_mul_right _ f.w
 have hp:h.2.2.2.2.1.length*Gk n a9≤2*Gk n a9:=Nat.mul_le_mul_right _ f.pl
 have s:gN bf h=gN (.sl .str) h.1+(gN (.sl au) h.2.1+((4+(gN a9 h.2.2.1.2.1+(gN (.sl bJ) h.2.2.1.2.2.1+1)))+(gN (.sl az) h.2.2.2.1+(gN (.sl a9) h.2.2.2.2.1+(gN (.sl aM) h.2.2.2.2.2.1+(gN (.sl .bool) h.2.2.2.2.2.2.1+(gN cq h.2.2.2.2.2.2.2.1+(gN bt h.2.2.2.2.2.2.2.2.1+(gN (.sl aE) h.2.2.2.2.2.2.2.2.2.1+(1+(gN (.sl .str) h.2.2.2.2.2.2.2.2.2.2.2.1+(gN (.sl (.int .i64)) h.2.2.2.2.2.2.2.2.2.2.2.2.1+(gN (.sl (.int .i64)) h.2.2.2.2.2.2.2.2.2.2.2.2.2.1+5))))))))))))):=by kernel_rfl
 have e1:gN (.sl .str) h.1≤n*1:=Nat.le_trans (gn z.1) (Nat.le_of_eq (by kernel_rfl))
 have e2:gN (.sl au) h.2.1≤n*4:=Nat.le_trans (gn z.2.1) (Nat.le_of_eq (by kernel_rfl))
 have e3:=Nat.le_trans (HU z.2.2.1.2.2.1.2) hw
 have e4:gN (.sl az) h.2.2.2.1≤n*30:=Nat.le_trans (gn z.2.2.2.1) (Nat.le_of_eq (by kernel_rfl))
 have e5:=Nat.le_trans (HU z.2.2.2.2.1.2) hp
 have e6:gN (.sl aM) h.2.2.2.2.2.1≤n*6:=Nat.le_trans (gn z.2.2.2.2.2.1) (Nat.le_of_eq (by kernel_rfl))
 have e7:gN (.sl .bool) h.2.2.2.2.2.2.1≤n*1:=Nat.le_trans (gn z.2.2.2.2.2.2.1) (Nat.le_of_eq (by kernel_rfl))
 have e8:gN cq h.2.2.2.2.2.2.2.1≤1+(1+n*1):=Nat.le_trans (gn z.2.2.2.2.2.2.2.1) (Nat.le_of_eq (by kernel_rfl))
 have e9:gN bt h.2.2.2.2.2.2.2.2.1≤Gk n bt:=gn z.2.2.2.2.2.2.2.2.1
 have e10:gN (.sl aE) h.2.2.2.2.2.2.2.2.2.1≤n*8:=Nat.le_trans (gn z.2.2.2.2.2.2.2.2.2.1) (Nat.le_of_eq (by kernel_rfl))
 have e11:gN (.sl .str) h.2.2.2.2.2.2.2.2.2.2.2.1≤n*1:=Nat.le_trans (gn z.2.2.2.2.2.2.2.2.2.2.2.1) (Nat.le_of_eq (by kernel_rfl))
 have V6:gN (.sl (.int .i64)) h.2.2.2.2.2.2.2.2.2.2.2.2.1≤n*1:=Nat.le_trans (gn z.2.2.2.2.2.2.2.2.2.2.2.2.1) (Nat.le_of_eq (by kernel_rfl))
 have e13:gN (.sl (.int .i64)) h.2.2.2.2.2.2.2.2.2.2.2.2.2.1≤n*1:=Nat.le_trans (gn z.2.2.2.2.2.2.2.2.2.2.2.2.2.1) (Nat.le_of_eq (by kernel_rfl))
 have e14:gN a9 h.2.2.1.2.1≤1+(1+(1+n*1)):=Nat.le_trans (gn z.2.2.1.2.1) (Nat.le_of_eq (by kernel_rfl))
 have q1:Gk n bJ=1+(1+n*1):=by kernel_rfl
 have q2:Gk n a9=1+(1+(1+n*1)):=by kernel_rfl
 have q3:Gk n bt=n*9+(n*7+(1+n*1)):=by kernel_rfl
 rw [s]
 omega
theorem Wo {n:Nat}{h:Host}(z:aK n bf h)(f:ME h):ba bf h≤400*(n+1):=Nat.le_trans De (SI z f)
end
end Go.Pu
end
