import Derived.Test.YtgilglpncgncjaaGreatPuX1
section
/- Steering of packets: rules, the table, the spread. -/
namespace Go.Pu
open Go.Dn
set_option linter.unusedSimpArgs false
set_option linter.unusedVariables false
noncomputable section
def qC (f:Filter)(p:ax):Bool:=fB f&&(((p.1==f.1)||((p.1==281474976710655)||f.2.1))&&((p.2.2.1== -1)||hasB f.2.2 p.2.2.1))
theorem Lb (f:Filter)(p:ax)(h:f.2.2.length≤1000000000):rK f p=some (qC f p):=by
 simp only [rK,vq f h,vt f.2.2 _ h,ab,qC]
 cases fB f<;>cases p.1==f.1<;>cases p.1==281474976710655<;>cases f.2.1<;>cases p.2.2.1== -1<;>rfl
theorem Mk (f:Filter)(p:ax)(h:f.2.2.length≤1000000000):sf f p=some (qC f p):=by
 simp only [sf,vZ f h,wa f.2.2 _ h,ab,qC]
 cases fB f<;>cases p.1==f.1<;>cases p.1==281474976710655<;>cases f.2.1<;>cases p.2.2.1== -1<;>rfl
def preB (a b n:Int):Bool:=Int.fdiv a (2^(min (Int.toNat (IntKind.wrap .i64 (32-n))) (IntKind.bits .i64)))==Int.fdiv b (2^(min (Int.toNat (IntKind.wrap .i64 (32-n))) (IntKind.bits .i64)))
theorem G8 {r:cf}(h:tB r=true):0≤r.2.2.2.1∧r.2.2.2.1≤32:=by
 rw [←aR]
 unfold tB at h
 simp only [eA,aU,ab,az] at h
 cases hp:bc r.2.2.2.1 0 32 with
 |true=>rfl
 |false=>
  rw [hp] at h
  revert h
  cases bc r.1 0 1000<;>cases r.2.1 !=0<;>cases r.2.1 !=6<;>cases r.2.1 !=17<;>cases bc r.2.2.1 0 4294967295<;>simp
def Sq (r:cf)(p:ax):Bool:=preB r.2.2.1 p.2.2.2.2.2.2.1 r.2.2.2.1&&(bc p.2.2.2.2.2.2.2.2.2.2.1 r.2.2.2.2.1 r.2.2.2.2.2.1&&((r.2.2.2.2.2.2.1== -2)||(r.2.2.2.2.2.2.1==p.2.2.1)))
def xf (r:cf)(p:ax):Bool:=tB r&&(cd p&&(((r.2.1==0)||(r.2.1==p.2.2.2.2.2.2.2.2.1))&&Sq r p))
theorem WX (a b n:Int)(h0:0≤n)(h1:n≤32):iJ a b n=some (preB a b n):=by
 unfold iJ preB
 rw [if_neg (by rw [wrap64 (n:=32-n) (by omega) (by omega)];omega),if_neg (by rw [wrap64 (n:=32-n) (by omega) (by omega)];omega)]
theorem QZ (r:cf)(p:ax):kQ r p=some (xf r p):=by
 unfold kQ xf
 rw [Tj,ab]
 cases hr:tB r with|false=>rfl|true=> ?_
 have hp:=G8 hr
 simp only [kJ,WX _ _ _ hp.1 hp.2,bg,ab,Sq]
 cases cd p<;>cases r.2.1==0<;>cases r.2.1==p.2.2.2.2.2.2.2.2.1<;>cases preB r.2.2.1 p.2.2.2.2.2.2.1 r.2.2.2.1<;>cases bc p.2.2.2.2.2.2.2.2.2.2.1 r.2.2.2.2.1 r.2.2.2.2.2.1<;>cases r.2.2.2.2.2.2.1== -2<;>rfl
theorem RR (r:cf)(p:ax):ly r p=some (xf r p):=by
 unfold ly xf
 rw [Fg,ab]
 cases hr:tB r with|false=>rfl|true=> ?_
 have hp:=G8 hr
 have hw:¬IntKind.wrap .i64 (32-r.2.2.2.1)<0:=by rw [wrap64 (n:=32-r.2.2.2.1) (by omega) (by omega)];omega
 simp only [ll,rA,if_neg hw,aU,ab,Sq]
 rw [show (Int.fdiv r.2.2.1 (2^(min (Int.toNat (IntKind.wrap .i64 (32-r.2.2.2.1))) (IntKind.bits .i64)))==Int.fdiv p.2.2.2.2.2.2.1 (2^(min (Int.toNat (IntKind.wrap .i64 (32-r.2.2.2.1))) (IntKind.bits .i64))))=preB r.2.2.1 p.2.2.2.2.2.2.1 r.2.2.2.1 from rfl]
 cases cd p<;>cases r.2.1==0<;>cases r.2.1==p.2.2.2.2.2.2.2.2.1<;>cases preB r.2.2.1 p.2.2.2.2.2.2.1 r.2.2.2.1<;>cases bc p.2.2.2.2.2.2.2.2.2.2.1 r.2.2.2.2.1 r.2.2.2.2.2.1<;>cases r.2.2.2.2.2.2.1== -2<;>rfl
def B6:cf:=(0,0,0,0,0,0,0,0,0)
def rC (l:List cf)(p:ax):Nat→Int
 |0=> -1
 |i+1=>bif xf (l.getD i B6) p&&(decide (rC l p i<0)||decide ((l.getD i B6).1<(l.getD (rC l p i).toNat B6).1)) then (i:Int) else rC l p i
theorem CX (l:List cf)(p:ax):∀i,rC l p i= -1∨∃n:Nat,rC l p i=(n:Int)∧n<i
 |0=> .inl rfl
 |i+1=>by
  rw [rC]
  cases xf (l.getD i B6) p&&(decide (rC l p i<0)||decide ((l.getD i B6).1<(l.getD (rC l p i).toNat B6).1)) with
  |true=>exact .inr ⟨i,rfl,by omega⟩
  |false=>
   rcases CX l p i with h|⟨n,h,hn⟩
   ·exact .inl h
   ·exact .inr ⟨n,h,by omega⟩
theorem Gk {R:Type}(l:List cf)(p:ax)(i:Nat)(hi:i<l.length)(nx:Int×Int→Option R):
 (aa (cond (xf l[i] p) (cond (decide (rC l p i<0)) (some true) (aa (idx l (rC l p i)) fun x4=>some (decide (l[i].1<x4.1)))) (some false)) fun q5=>cond q5 (nx ((i:Int),((i+1:Nat):Int))) (nx (rC l p i,((i+1:Nat):Int))))=nx (rC l p (i+1),((i+1:Nat):Int)):=by
 rw [rC,aM hi]
 cases xf l[i] p with|false=>rfl|true=> ?_
 rcases CX l p i with h|⟨n,h,hn⟩
 ·rw [h];rfl
 ·have hl:n<l.length:=by omega
  rw [h,decide_eq_false (show¬(n:Int)<0 by omega),ay hl]
  simp only [cond_true,cond_false,ab,Int.toNat_natCast,aM hl,Bool.true_and,Bool.false_or]
  cases decide (l[i].1<l[n].1)<;>rfl
def uO (l:List cf)(p:ax):Int:=bif rz l then rC l p l.length else-1
theorem Ej (l:List cf)(p:ax)(h:uO l p≥0):∃n:Nat,uO l p=(n:Int)∧n<l.length:=by
 unfold uO at h⊢
 cases hr:rz l with
 |false=>rw [hr] at h;simp at h
 |true=>
  rw [hr] at h
  simp only [cond_true] at h⊢
  rcases CX l p l.length with g|g
  ·omega
  ·exact g
theorem QU (l:List cf)(p:ax)(h:l.length≤1000000000):pX l p=some (uO l p):=by
 unfold pX uO
 rw [GM l h,ab]
 cases rz l with|false=>rfl|true=> ?_
 simp only [Bool.not_true,cond_false,cond_true]
 refine bB (fun i=>(rC l p i,(i:Int))) l.length (by omega) (fun i nx hi=> ?_) (fun nx=> ?_)
 ·simp only [kL]
  rw [decide_eq_true (by omega),ay hi,wrap64 (n:=(i:Int)+1) (by omega) (by omega)]
  simp only [cond_true,ab,QZ]
  exact Gk l p i hi nx
 ·simp only [kL]
  rw [decide_eq_false (by omega)];rfl
theorem RO (l:List cf)(p:ax)(h:l.length≤1000000000):qs l p=some (uO l p):=by
 have hfu:=bQ
 unfold qs uO
 cases hr:rz l with
 |false=>
  obtain ⟨f,hf⟩:∃f,fuel=f+1:=⟨fuel-1,by omega⟩
  rw [hf,ar]
  simp only [gZ,xY l h,hr,ab]
  cases decide ((0:Int)<(l.length:Int))<;>rfl
 |true=>
  simp only [cond_true]
  refine bB (fun i=>(rC l p i,(i:Int))) l.length (by omega) (fun i nx hi=> ?_) (fun nx=> ?_)
  ·simp only [gZ,xY l h,hr]
   rw [decide_eq_true (by omega),ay hi,wrap64 (n:=(i:Int)+1) (by omega) (by omega)]
   simp only [cond_true,ab,RR]
   exact Gk l p i hi nx
  ·simp only [gZ]
   rw [decide_eq_false (by omega)];rfl
def jh (p:ax):Int×Int×Int×Int×Int:=(p.2.2.2.2.2.2.2.2.1,p.2.2.2.2.2.2.1,p.2.2.2.2.2.2.2.1,p.2.2.2.2.2.2.2.2.2.1,p.2.2.2.2.2.2.2.2.2.2.1)
theorem Lh (p:ax):qE p=some (jh p):=rfl
theorem Mn (p:ax):qV p=some (jh p):=rfl
def alo:Slot:=(0,(0,0,0,0,0),0)
def pM (s:bG)(q:Int)(p:ax):Int:=
 bif !dm s q|| !cd p then-1 else
 bif decide (uO s.1 p≥0) then (bif (s.1.getD (uO s.1 p).toNat B6).2.2.2.2.2.2.2.1==1 then-1 else (s.1.getD (uO s.1 p).toNat B6).2.2.2.2.2.2.2.2) else
 bif decide (findF s.2.1 (jh p)≥0) then (s.2.1.getD (findF s.2.1 (jh p)).toNat alo).2.2 else yb s.2.2 q (jh p)
theorem Q5 (s:bG)(q:Int)(p:ax)(h1:s.1.length≤1000000000)(h2:s.2.1.length≤1000000000)(h3:s.2.2.2.length≤1000000000):kT s q p=some (pM s q p):=by
 unfold kT pM
 rw [Aa s q h1 h2 h3,ab,kJ,ab]
 cases dm s q with|false=>rfl|true=> ?_
 cases cd p with|false=>rfl|true=> ?_
 simp only [Bool.not_true,cond_false,ab,Bool.or_self,QU s.1 p h1,Lh,I5 s.2.1 _ h2,Ln s.2.2 q _ h3]
 cases hd:decide (uO s.1 p≥0) with
 |true=>
  obtain ⟨n,hn,hl⟩:=Ej s.1 p (of_decide_eq_true hd)
  simp only [cond_true,hn,ay hl,ab,Int.toNat_natCast,aM hl]
  cases s.1[n].2.2.2.2.2.2.2.1==1<;>rfl
 |false=>
  simp only [cond_false]
  cases hd2:decide (findF s.2.1 (jh p)≥0) with
  |true=>
   obtain ⟨n,hn,hl⟩:=Ei s.2.1 (jh p) (of_decide_eq_true hd2)
   simp only [cond_true,hn,ay hl,ab,Int.toNat_natCast,aM hl]
  |false=>rfl
theorem RU (s:bG)(q:Int)(p:ax)(h1:s.1.length≤1000000000)(h2:s.2.1.length≤1000000000)(h3:s.2.2.2.length≤1000000000):lC s q p=some (pM s q p):=by
 unfold lC pM
 rw [AI s q h1 h2 h3,ab,ll,ab]
 cases dm s q with|false=>rfl|true=> ?_
 cases cd p with|false=>rfl|true=> ?_
 simp only [Bool.not_true,cond_false,ab,Bool.or_self,RO s.1 p h1,Mn,JG s.2.1 _,Ms s.2.2 q _ h3]
 cases hd:decide (uO s.1 p≥0) with
 |true=>
  obtain ⟨n,hn,hl⟩:=Ej s.1 p (of_decide_eq_true hd)
  simp only [cond_true,hn,ay hl,ab,Int.toNat_natCast,aM hl]
  cases s.1[n].2.2.2.2.2.2.2.1==1<;>rfl
 |false=>
  simp only [cond_false]
  cases hd2:decide (findF s.2.1 (jh p)≥0) with
  |true=>
   obtain ⟨n,hn,hl⟩:=Ei s.2.1 (jh p) (of_decide_eq_true hd2)
   simp only [cond_true,hn,ay hl,ab,Int.toNat_natCast,aM hl]
  |false=>rfl
end
end Go.Pu
end
section
namespace Go.Pu
open Go.Dn
set_option linter.unusedSimpArgs false
set_option linter.unusedVariables false
noncomputable section
def NT (d:Ip):Bool:=bc d.1 0 255&&(bc d.2.2.1 0 255&&(bc d.2.2.2.1 0 255&&(bc d.2.1 0 65535&&(bc d.2.2.2.2.1 0 4294967295&&(bc d.2.2.2.2.2.1 0 4294967295&&decide ((d.2.2.2.2.2.2.length:Int)≤380))))))
theorem Mp (d:Ip):xZ d=some (NT d):=by
 simp only [xZ,aU,ab,az,cF,NT]
theorem Tb (d:Ip):Bn d=some (NT d):=Mp d
def EI (d:Ip):Bytes:=((((((bs2 69 (IntKind.wrap .u8 d.1)++bz (20+(d.2.2.2.2.2.2.length:Int)))++bz d.2.1)++bz 16384)++bs2 (IntKind.wrap .u8 d.2.2.1) (IntKind.wrap .u8 d.2.2.2.1))++bz 0)++cw d.2.2.2.2.1)++cw d.2.2.2.2.2.1
theorem EJ (d:Ip):(EI d).length≤20:=by
 have:=aF (20+(d.2.2.2.2.2.2.length:Int))
 have:=aF d.2.1
 have:=aF 16384
 have:=aF 0
 have:=bd d.2.2.2.2.1
 have:=bd d.2.2.2.2.2.1
 simp only [EI,List.length_append,HM];omega
def EH (d:Ip):Bytes:=As (EI d) 10 (bz (Nh (EI d)))
theorem Ox (d:Ip):qu d=some (bif NT d then (EH d,true) else ([],false)):=by
 unfold qu
 rw [Mp,ab]
 cases hd:NT d with|false=>rfl|true=> ?_
 have hn:(d.2.2.2.2.2.2.length:Int)≤380:=by simp only [NT,Bool.and_eq_true,decide_eq_true_eq] at hd;omega
 have:=aF (20+(d.2.2.2.2.2.2.length:Int))
 have:=aF d.2.1
 have:=aF 16384
 have:=aF 0
 have:=bd d.2.2.2.2.1
 have:=bd d.2.2.2.2.2.1
 have hl:=EJ d
 have e:∀x y,(bytesOf [x,y]).length=2:=fun _ _=>rfl
 rw [wrap64 (n:=20+(d.2.2.2.2.2.2.length:Int)) (by omega) (by omega)]
 simp only [im,fY,ab,Bool.not_true,cond_false,cond_true]
 rw [aq (by simp only [List.length_append,e];omega),aq (by simp only [List.length_append,e];omega),aq (by simp only [List.length_append,e];omega),aq (by simp only [List.length_append,e];omega),aq (by simp only [List.length_append,e];omega),aq (by simp only [List.length_append,e];omega),aq (by simp only [List.length_append,e];omega)]
 have hp:((((((bytesOf [69,IntKind.wrap .u8 d.1]++bz (20+(d.2.2.2.2.2.2.length:Int)))++bz d.2.1)++bz 16384)++bytesOf [IntKind.wrap .u8 d.2.2.1,IntKind.wrap .u8 d.2.2.2.1])++bz 0)++cw d.2.2.2.2.1)++cw d.2.2.2.2.2.1=EI d:=rfl
 rw [hp,JD _ (by omega),ab,CM _ _ _ (by omega)];rfl
theorem NJ (d:Ip):pZ d=some (bif NT d then (EH d,true) else ([],false)):=by
 unfold pZ
 rw [Tb,ab]
 cases hd:NT d with|false=>rfl|true=> ?_
 have hn:(d.2.2.2.2.2.2.length:Int)≤380:=by simp only [NT,Bool.and_eq_true,decide_eq_true_eq] at hd;omega
 have:=aF (20+(d.2.2.2.2.2.2.length:Int))
 have:=aF d.2.1
 have:=aF 16384
 have:=aF 0
 have:=bd d.2.2.2.2.1
 have:=bd d.2.2.2.2.2.1
 have hl:=EJ d
 have hw:=aF (Nh (EI d))
 have e:∀x y,(bytesOf [x,y]).length=2:=fun _ _=>rfl
 rw [wrap64 (n:=20+(d.2.2.2.2.2.2.length:Int)) (by omega) (by omega)]
 simp only [nb,nd,ab,Bool.not_true,cond_false,cond_true]
 rw [aq (by simp only [List.length_append,e];omega),aq (by simp only [List.length_append,e];omega),aq (by simp only [List.length_append,e];omega),aq (by simp only [List.length_append,e];omega),aq (by simp only [List.length_append,e];omega),aq (by simp only [List.length_append,e];omega),aq (by simp only [List.length_append,e];omega)]
 have hp:((((((bytesOf [69,IntKind.wrap .u8 d.1]++bz (20+(d.2.2.2.2.2.2.length:Int)))++bz d.2.1)++bz 16384)++bytesOf [IntKind.wrap .u8 d.2.2.1,IntKind.wrap .u8 d.2.2.2.1])++bz 0)++cw d.2.2.2.2.1)++cw d.2.2.2.2.2.1=EI d:=rfl
 rw [hp,PC _ (by omega),ab,I8 _ _ _ (by omega) (by omega)];rfl
def MX (d:Ip):Bytes×Bool:=bif NT d then (EH d++d.2.2.2.2.2.2,true) else ([],false)
theorem Bp (d:Ip):(EH d).length≤20:=by unfold EH;rw [L4];exact EJ d
theorem T9 (d:Ip):oW d=some (MX d):=by
 unfold oW MX
 rw [Ox,ab]
 cases hd:NT d with|false=>rfl|true=> ?_
 have hn:(d.2.2.2.2.2.2.length:Int)≤380:=by simp only [NT,Bool.and_eq_true,decide_eq_true_eq] at hd;omega
 have:=Bp d
 simp only [cond_true,Bool.not_true,cond_false]
 rw [aq (by omega)]
theorem Ta (d:Ip):nL d=some (MX d):=by
 unfold nL MX
 rw [NJ,ab]
 cases hd:NT d with|false=>rfl|true=> ?_
 have hn:(d.2.2.2.2.2.2.length:Int)≤380:=by simp only [NT,Bool.and_eq_true,decide_eq_true_eq] at hd;omega
 have:=Bp d
 simp only [cond_true,Bool.not_true,cond_false]
 rw [aq (by omega)]
def MW (n:Nat):Bytes:=bytesOf (List.replicate n (0:Int))
theorem BO (n:Nat):(MW n).length=n:=by simp [MW,bytesOf]
theorem Ua (n:Nat)(h:n≤1000000000):so (n:Int) 0=some (MW n):=by
 unfold so
 rw [if_pos (by omega),aq (by rw [Int.toNat_natCast];omega),Int.toNat_natCast]
 refine bB (fun i=>(List.replicate n (0:Int),(i:Int))) n (by omega) (fun i nx hi=> ?_) (fun nx=> ?_)
 ·simp only [mX]
  rw [decide_eq_true (by omega),ay (by simpa using hi),wrap64 (by omega) (by omega)]
  simp only [cond_true,ab,Int.toNat_natCast,List.set_replicate_self];rfl
 ·simp only [mX]
  rw [decide_eq_false (by omega)];rfl
theorem WY (n:Nat)(h:n≤1000000000):tT 0 (n:Int)=some (MW n):=by
 unfold tT
 rw [if_pos (by omega),aq (by rw [Int.toNat_natCast];omega),Int.toNat_natCast]
 refine bB (fun i=>(List.replicate n (0:Int),(i:Int))) n (by omega) (fun i nx hi=> ?_) (fun nx=> ?_)
 ·simp only [n7]
  rw [decide_eq_true (by simp;omega),ay (by simpa using hi),wrap64 (by omega) (by omega)]
  simp only [cond_true,ab,Int.toNat_natCast,List.set_replicate_self];rfl
 ·simp only [n7]
  rw [decide_eq_false (by simp)];rfl
def pad (s:Bytes):Bytes:=if s.length<46 then s++MW (46-s.length) else s
theorem PX (s:Bytes):(pad s).length=max 46 s.length:=by
 unfold pad
 split
 ·simp only [List.length_append,BO];omega
 ·omega
theorem Xt (s:Bytes)(h:s.length≤1000000000):sm s=some (pad s):=by
 unfold sm pad
 by_cases hc:s.length<46
 ·rw [decide_eq_true (by omega),if_pos hc,wrap64 (by omega) (by omega),show (46:Int)-(s.length:Int)=((46-s.length:Nat):Int) by omega,Ua _ (by omega)]
  simp only [cond_true,ab]
  rw [aq (by rw [BO];omega)]
 ·rw [decide_eq_false (by omega),if_neg hc];rfl
theorem WW (s:Bytes)(h:s.length≤1000000000):rO s=some (pad s):=by
 unfold rO pad
 by_cases hc:s.length<46
 ·rw [decide_eq_false (by omega),if_pos hc,wrap64 (by omega) (by omega),show (46:Int)-(s.length:Int)=((46-s.length:Nat):Int) by omega,WY _ (by omega)]
  simp only [cond_false,ab]
  rw [aq (by rw [BO];omega)]
 ·rw [decide_eq_true (by omega),if_neg hc];rfl
def uw (e:FG):Bool:=bc e.1 0 281474976710655&&(bc e.2.1 0 281474976710655&&(bc e.2.2.1 (-1) 4095&&(bc e.2.2.2.1 1536 65535&&((e.2.2.2.1 !=33024)&&bc (e.2.2.2.2.length:Int) 46 400))))
theorem BL (e:FG):pL e=some (uw e):=by
 simp only [pL,aU,ab,az,cF,uw]
theorem GH (e:FG):sV e=some (uw e):=BL e
def XW (a:Int):Bytes:=(dU a).getD []
theorem uk (a:Int):dU a=some (XW a)∧(XW a).length≤6:=by
 have h:∃x,dU a=some x∧x.length≤6:=by
  unfold dU
  rw [if_neg (by omega)]
  simp only [im,fY,ab]
  have h1:=aF (Int.fdiv a (2^(min (Int.toNat 32) (IntKind.bits .i64))))
  have h2:=bd (IntKind.wrap .i64 (BitVec.toNat (BitVec.ofInt (IntKind.bits .i64) a&&&BitVec.ofInt (IntKind.bits .i64) 4294967295)))
  rw [aq (by omega)]
  exact ⟨_,rfl,by simp only [List.length_append];omega⟩
 obtain ⟨x,hx,hl⟩:=h
 unfold XW
 rw [hx]
 exact ⟨rfl,hl⟩
theorem WV (a:Int):qb a=some (XW a):=(uk a).1
def KN (e:FG):Bytes:=(bif decide (e.2.2.1≥0) then (((XW e.1++XW e.2.1)++bz 33024)++bz e.2.2.1) else XW e.1++XW e.2.1)++bz e.2.2.2.1++e.2.2.2.2
theorem SJ (e:FG):(KN e).length≤18+e.2.2.2.2.length:=by
 have:=(uk e.1).2
 have:=(uk e.2.1).2
 have:=aF 33024
 have:=aF e.2.2.1
 have:=aF e.2.2.2.1
 unfold KN
 cases decide (e.2.2.1≥0)<;>simp only [cond_true,cond_false,List.length_append]<;>omega
def Nu (e:FG):Bytes×Bool:=bif uw e then (KN e,true) else ([],false)
theorem Xs (e:FG):qo e=some (Nu e):=by
 unfold qo Nu
 rw [BL,ab]
 cases he:uw e with|false=>rfl|true=> ?_
 have hn:(e.2.2.2.2.length:Int)≤400:=by simp only [uw,Bool.and_eq_true,aR] at he;omega
 have:=(uk e.1).2
 have:=(uk e.2.1).2
 have:=aF 33024
 have:=aF e.2.2.1
 have:=aF e.2.2.2.1
 simp only [(uk _).1,im,ab,Bool.not_true,cond_false,cond_true,KN]
 rw [aq (by omega)]
 cases decide (e.2.2.1≥0) with
 |true=>
  simp only [cond_true]
  rw [aq (by simp only [List.length_append];omega),aq (by simp only [List.length_append];omega),aq (by simp only [List.length_append];omega),aq (by simp only [List.length_append];omega)]
 |false=>
  simp only [cond_false]
  rw [aq (by simp only [List.length_append];omega),aq (by simp only [List.length_append];omega)]
theorem WU (e:FG):pU e=some (Nu e):=by
 unfold pU Nu
 rw [GH,ab]
 cases he:uw e with|false=>rfl|true=> ?_
 have hn:(e.2.2.2.2.length:Int)≤400:=by simp only [uw,Bool.and_eq_true,aR] at he;omega
 have:=(uk e.1).2
 have:=(uk e.2.1).2
 have:=aF 33024
 have:=aF e.2.2.1
 have:=aF e.2.2.2.1
 simp only [WV,nb,ab,Bool.not_true,cond_false,cond_true,KN]
 rw [aq (by omega)]
 cases decide (e.2.2.1≥0) with
 |true=>
  simp only [cond_true]
  rw [aq (by omega),aq (by simp only [List.length_append];omega),aq (by simp only [List.length_append];omega),aq (by simp only [List.length_append];omega)]
  simp only [List.append_assoc]
 |false=>
  simp only [cond_false]
  rw [aq (by simp only [List.length_append];omega),aq (by simp only [List.length_append];omega)]
def Xo (p:ax):Bytes×Bool:=uG p.2.2.2.2.2.2.1 p.2.2.2.2.2.2.2.1 p.2.2.2.2.2.2.2.2
def Wq (p:ax):Bytes×Bool:=MX (p.2.2.2.1,p.2.2.2.2.1,p.2.2.2.2.2.1,p.2.2.2.2.2.2.2.2.1,p.2.2.2.2.2.2.1,p.2.2.2.2.2.2.2.1,(Xo p).1)
def Zs (p:ax):Bytes×Bool:=Nu (p.1,p.2.1,p.2.2.1,2048,pad (Wq p).1)
def cn (p:ax):Bytes×Bool:=bif cd p then Zs p else ([],false)
theorem Jb (p:ax):(Wq p).1.length≤360:=by
 have h1:=Xp p.2.2.2.2.2.2.1 p.2.2.2.2.2.2.2.1 p.2.2.2.2.2.2.2.2
 unfold Wq MX
 cases NT (p.2.2.2.1,p.2.2.2.2.1,p.2.2.2.2.2.1,p.2.2.2.2.2.2.2.2.1,p.2.2.2.2.2.2.1,p.2.2.2.2.2.2.2.1,(Xo p).1) with
 |false=>exact Nat.zero_le _
 |true=>
  have h2:=Bp (p.2.2.2.1,p.2.2.2.2.1,p.2.2.2.2.2.1,p.2.2.2.2.2.2.2.2.1,p.2.2.2.2.2.2.1,p.2.2.2.2.2.2.2.1,(Xo p).1)
  have h3:(Xo p).1.length≤340:=h1
  simp only [cond_true,List.length_append]
  omega
theorem Hi (p:ax):iL p=some (cn p):=by
 have hl:=Jb p
 unfold iL cn
 simp only [ll,xp,T9,ab]
 rw [show (MX (p.2.2.2.1,p.2.2.2.2.1,p.2.2.2.2.2.1,p.2.2.2.2.2.2.2.2.1,p.2.2.2.2.2.2.1,p.2.2.2.2.2.2.2.1,(uG p.2.2.2.2.2.2.1 p.2.2.2.2.2.2.2.1 p.2.2.2.2.2.2.2.2).1))=Wq p from rfl,Xt _ (by omega),ab,Xs]
 cases cd p<;>rfl
theorem GJ (p:ax):iB p=some (cn p):=by
 have hl:=Jb p
 unfold iB cn
 simp only [kJ,w8,Ta,ab]
 rw [show (MX (p.2.2.2.1,p.2.2.2.2.1,p.2.2.2.2.2.1,p.2.2.2.2.2.2.2.2.1,p.2.2.2.2.2.2.1,p.2.2.2.2.2.2.2.1,(uG p.2.2.2.2.2.2.1 p.2.2.2.2.2.2.2.1 p.2.2.2.2.2.2.2.2).1))=Wq p from rfl,WW _ (by omega),ab,WU]
 cases cd p<;>rfl
theorem GG {p:ax}(h:cd p=true):(cn p).2=true:=by
 have hl:=Jb p
 have hh:wv p=true:=by simp only [cd,Bool.and_eq_true] at h;exact h.1
 have hp:=PX (Wq p).1
 unfold cn Zs Nu
 rw [h,cond_true]
 have:uw (p.1,p.2.1,p.2.2.1,2048,pad (Wq p).1)=true:=by
  simp only [wv,Bool.and_eq_true] at hh
  simp only [uw,Bool.and_eq_true]
  refine ⟨hh.1,hh.2.1,hh.2.2.1,by decide,by decide,aR.2 ?_⟩
  omega
 rw [this];rfl
theorem Bl (p:ax):(cn p).1.length≤378:=by
 have hl:=Jb p
 have hp:=PX (Wq p).1
 unfold cn Zs Nu
 cases cd p with
 |false=>exact Nat.zero_le _
 |true=>
  cases uw (p.1,p.2.1,p.2.2.1,2048,pad (Wq p).1) with
  |false=>exact Nat.zero_le _
  |true=>
   have:=SJ (p.1,p.2.1,p.2.2.1,2048,pad (Wq p).1)
   simp only [cond_true] at this⊢
   omega
def fcs (c:Int):Bytes:=bytesOf [IntKind.wrap .u8 c,IntKind.wrap .u8 (Int.fdiv c (2^(min (Int.toNat 8) (IntKind.bits .i64)))),IntKind.wrap .u8 (Int.fdiv c (2^(min (Int.toNat 16) (IntKind.bits .i64)))),IntKind.wrap .u8 (Int.fdiv c (2^(min (Int.toNat 24) (IntKind.bits .i64))))]
def ur (s:Bytes):Bytes:=s++fcs (Gr s)
theorem WO (c:Int):(fcs c).length=4:=rfl
theorem Qa (s:Bytes)(h:s.length≤1000000000):pn s=some (ur s):=by
 unfold pn
 rw [P8 s h,ab,if_neg (by omega),if_neg (by omega),if_neg (by omega)]
 exact aq (by show s.length+4≤_;omega)
theorem PG (s:Bytes)(h:s.length≤1000000000):nZ s=some (ur s):=by
 unfold nZ
 rw [PE s h,ab,if_neg (by omega),if_neg (by omega),if_neg (by omega)]
 exact aq (by show s.length+4≤_;omega)
def cA (p:ax):Bool:=cd p&&decide ((p.2.2.2.2.2.2.2.2.2.2.2.2.2.2.2.length:Int)≤128)
theorem wc (p:ax):ga p=some (cA p):=by
 simp only [ga,ll,ab,az,cF,cA]
theorem sT (p:ax):eu p=some (cA p):=by
 simp only [eu,kJ,ab,az,cF,cA]
def vo (p:ax):Bytes×Bool:=bif cA p then (ur (cn p).1,true) else ([],false)
theorem RP (p:ax):mP p=some (vo p):=by
 have hl:=Bl p
 simp only [mP,wc,Hi,Qa _ (show (cn p).1.length≤1000000000 by omega),ab,vo]
 cases cA p<;>rfl
theorem QW (p:ax):mD p=some (vo p):=by
 have hl:=Bl p
 simp only [mD,sT,GJ,PG _ (show (cn p).1.length≤1000000000 by omega),ab,vo]
 cases hp:cA p with
 |false=>rfl
 |true=>
  have:cd p=true:=by simp only [cA,Bool.and_eq_true] at hp;exact hp.1
  rw [GG this];rfl
theorem Bk (p:ax):(vo p).1.length≤382:=by
 have hl:=Bl p
 unfold vo
 cases cA p with
 |false=>exact Nat.zero_le _
 |true=>simp only [cond_true,ur,List.length_append,WO];omega
theorem Fp {p:ax}(h:cd p=true):p.2.2.2.2.2.2.2.2.2.2.2.2.2.2.2.length≤320:=by
 have hh:wv p=true:=by simp only [cd,Bool.and_eq_true] at h;exact h.1
 exact Ax (zP hh)
end
end Go.Pu
end
section
namespace Go.Pu
open Go.Dn
set_option linter.unusedSimpArgs false
set_option linter.unusedVariables false
noncomputable section
theorem zM {s:Bytes}{a:Int}(h0:0≤a)(h:a+2≤(s.length:Int)):0≤bf s a∧bf s a≤65535:=by
 have h1:=bA s a.toNat;have h2:=bA s (a.toNat+1)
 unfold bf bM
 rw [decide_eq_true ⟨h0,h⟩]
 simp only [cond_true];omega
theorem zN {s:Bytes}{a:Int}(h0:0≤a)(h:a+4≤(s.length:Int)):0≤ch s a∧ch s a≤4294967295:=by
 have h1:=bA s a.toNat;have h2:=bA s (a.toNat+1);have h3:=bA s (a.toNat+2);have h4:=bA s (a.toNat+3)
 unfold ch bM
 rw [decide_eq_true ⟨h0,h⟩]
 simp only [cond_true];omega
theorem Tt {x y:Int}(hx:0≤x∧x≤65535)(hy:0≤y∧y≤4294967295):IntKind.wrap .i64 (BitVec.toNat (BitVec.ofInt (IntKind.bits .i64) (IntKind.wrap .i64 (x*2^(min (Int.toNat 32) (IntKind.bits .i64))))|||BitVec.ofInt (IntKind.bits .i64) y))=x*4294967296+y:=by
 have e:(2:Int)^(min (Int.toNat 32) (IntKind.bits .i64))=4294967296:=rfl
 obtain ⟨x,rfl⟩:=Int.eq_ofNat_of_zero_le hx.1
 obtain ⟨y,rfl⟩:=Int.eq_ofNat_of_zero_le hy.1
 rw [e,wrap64 (n:=(x:Int)*4294967296) (by omega) (by omega),show (x:Int)*4294967296=((2^32*x:Nat):Int) by omega,zd x 32 y (by omega) (by omega)]
 omega
theorem PO {x y:Int}(hx:0≤x∧x≤65535)(hy:0≤y∧y≤4294967295):IntKind.wrap .i64 (IntKind.wrap .i64 (x*2^(min (Int.toNat 32) (IntKind.bits .i64)))+y)=x*4294967296+y:=by
 have e:(2:Int)^(min (Int.toNat 32) (IntKind.bits .i64))=4294967296:=rfl
 rw [e,wrap64 (n:=x*4294967296) (by omega) (by omega),wrap64 (by omega) (by omega)]
theorem CN {α:Type}{l:List α}{n:Int}(h0:0≤n)(h1:n≤(l.length:Int)):sub l 0 n=some (l.take n.toNat):=by
 unfold sub;rw [if_pos (by omega)];simp
theorem uq {α:Type}{l:List α}(k:Nat)(h:k≤l.length){a:Int}(ha:a=(k:Int)):sub l a (l.length:Int)=some (l.drop k):=by
 unfold sub;rw [if_pos (by omega)];subst ha;simp
theorem Qf {α:Type}{l:List α}(k:Nat){a n:Int}(ha:a=(k:Int))(h0:a≤n)(h1:n≤(l.length:Int)):sub l a n=some ((l.take n.toNat).drop k):=by
 unfold sub;rw [if_pos (by omega)];subst ha;simp
def re (s:Bytes):Bytes×Bool:=bif decide ((s.length:Int)<4) then ([],false) else bif ur (s.take ((s.length:Int)-4).toNat)==s then (s.take ((s.length:Int)-4).toNat,true) else ([],false)
theorem Ou (s:Bytes)(h:s.length≤1000000000):qp s=some (re s):=by
 unfold qp re
 rw [wrap64 (n:=(s.length:Int)-4) (by omega) (by omega)]
 by_cases h4:(s.length:Int)<4
 ·rw [decide_eq_true h4]
  rfl
 ·rw [decide_eq_false h4,CN (by omega) (by omega)]
  simp only [cond_false,ab,Qa _ (show (s.take ((s.length:Int)-4).toNat).length≤1000000000 by rw [List.length_take];omega)]
  cases ur (s.take ((s.length:Int)-4).toNat)==s<;>rfl
theorem NG (s:Bytes)(h:s.length≤1000000000):pV s=some (re s):=by
 unfold pV re
 rw [wrap64 (n:=(s.length:Int)-4) (by omega) (by omega)]
 by_cases h4:(s.length:Int)<4
 ·rw [decide_eq_true (show (s.length:Int)-4<0 by omega),decide_eq_true h4]
  rfl
 ·rw [decide_eq_false (show¬(s.length:Int)-4<0 by omega),decide_eq_false h4,CN (by omega) (by omega)]
  simp only [cond_false,ab,PG _ (show (s.take ((s.length:Int)-4).toNat).length≤1000000000 by rw [List.length_take];omega)]
  cases ur (s.take ((s.length:Int)-4).toNat)==s<;>rfl
def SI:FG:=(0,0,0,0,([]:Bytes))
def PN (s:Bytes)(a:Int):Int:=bf s a*4294967296+ch s (a+2)
def KG (s:Bytes):FG:=(PN s 0,PN s 6,bf s 14,bf s 16,s.drop 18)
def yq (s:Bytes):FG:=(PN s 0,PN s 6, -1,bf s 12,s.drop 14)
def oS (s:Bytes):FG×Bool:=bif decide ((s.length:Int)<18) then (SI,false) else
 bif bf s 12==33024 then (bif uw (KG s) then (KG s,true) else (SI,false)) else bif uw (yq s) then (yq s,true) else (SI,false)
theorem JH (s:Bytes)(h:s.length≤1000000000):qv s=some (oS s):=by
 unfold qv oS
 by_cases h8:(s.length:Int)<18
 ·rw [decide_eq_true h8];rfl
 ·rw [decide_eq_false h8]
  simp only [cond_false,pK s _ h,sI s _ h,ab]
  rw [if_neg (by omega),if_neg (by omega),uq (l:=s) 14 (by omega) (show (14:Int)=((14:Nat):Int) from rfl),ab,uq (l:=s) 18 (by omega) (show (18:Int)=((18:Nat):Int) from rfl)]
  rw [PO (zM (s:=s) (a:=0) (by omega) (by omega)) (zN (s:=s) (a:=2) (by omega) (by omega)),PO (zM (s:=s) (a:=6) (by omega) (by omega)) (zN (s:=s) (a:=8) (by omega) (by omega))]
  simp only [ab,BL]
  rw [show ((bf s 0*4294967296+ch s 2,bf s 6*4294967296+ch s 8,bf s 14,bf s 16,s.drop 18):FG)=KG s from rfl,show ((bf s 0*4294967296+ch s 2,bf s 6*4294967296+ch s 8, -1,bf s 12,s.drop 14):FG)=yq s from rfl]
  cases bf s 12==33024<;>cases uw (KG s)<;>cases uw (yq s)<;>rfl
theorem I6 (s:Bytes)(h:s.length≤1000000000):p4 s=some (oS s):=by
 unfold p4 oS
 by_cases h4:(s.length:Int)<14
 ·rw [decide_eq_true h4,decide_eq_true (show (s.length:Int)<18 by omega)];rfl
 ·rw [decide_eq_false h4]
  simp only [cond_false,xL s _ h,uP s _ h,ab]
  rw [if_neg (by omega),if_neg (by omega),uq (l:=s) 14 (by omega) (show (14:Int)=((14:Nat):Int) from rfl),ab]
  rw [Tt (zM (s:=s) (a:=0) (by omega) (by omega)) (zN (s:=s) (a:=2) (by omega) (by omega)),Tt (zM (s:=s) (a:=6) (by omega) (by omega)) (zN (s:=s) (a:=8) (by omega) (by omega))]
  simp only [ab,GH]
  rw [show ((bf s 0*4294967296+ch s 2,bf s 6*4294967296+ch s 8, -1,bf s 12,s.drop 14):FG)=yq s from rfl]
  by_cases h8:(s.length:Int)<18
  ·have hB:uw (yq s)=false:=by
    unfold uw yq
    have:bc ((s.drop 14).length:Int) 46 400=false:=by
     rw [Bool.eq_false_iff,ne_eq,aR,List.length_drop];omega
    simp only [this,Bool.and_false]
   rw [decide_eq_true h8,decide_eq_false (show¬(s.length:Int)≥18 by omega),hB]
   cases bf s 12==33024<;>rfl
  ·rw [decide_eq_false h8,decide_eq_true (show (s.length:Int)≥18 by omega),uq (l:=s) 18 (by omega) (show (18:Int)=((18:Nat):Int) from rfl)]
   simp only [ab]
   rw [show ((bf s 0*4294967296+ch s 2,bf s 6*4294967296+ch s 8,bf s 14,bf s 16,s.drop 18):FG)=KG s from rfl]
   cases bf s 12==33024<;>cases uw (KG s)<;>cases uw (yq s)<;>rfl
def ip0:Ip:=(0,0,0,0,0,0,([]:Bytes))
def Ag (s:Bytes):Ip:=((aQ s 1:Int),bf s 4,(aQ s 8:Int),(aQ s 9:Int),ch s 12,ch s 16,(s.take (bf s 2).toNat).drop 20)
def se (s:Bytes):Ip×Bool:=bif decide ((s.length:Int)<20)||(decide (bf s 2<20)||decide (bf s 2>(s.length:Int))) then (ip0,false) else
 bif (MX (Ag s)).2&&((MX (Ag s)).1==s.take (bf s 2).toNat) then (Ag s,true) else (ip0,false)
theorem Mr (s:Bytes)(h:s.length≤1000000000):sn s=some (se s):=by
 unfold sn se
 simp only [pK s _ h,sI s _ h,ab]
 by_cases h1:(s.length:Int)<20
 ·rw [decide_eq_true h1];rfl
 by_cases h2:bf s 2<20
 ·rw [decide_eq_false h1,decide_eq_true h2];rfl
 by_cases h3:bf s 2>(s.length:Int)
 ·rw [decide_eq_false h1,decide_eq_false h2,decide_eq_true h3];rfl
 rw [decide_eq_false h1,decide_eq_false h2,decide_eq_false h3]
 have b1:=ft (s[1]'(by omega));have b8:=ft (s[8]'(by omega));have b9:=ft (s[9]'(by omega))
 have i1:idx s 1=some (s[1]'(by omega)):=ay (i:=1) (by omega)
 have i8:idx s 8=some (s[8]'(by omega)):=ay (i:=8) (by omega)
 have i9:idx s 9=some (s[9]'(by omega)):=ay (i:=9) (by omega)
 simp only [cond_false,ab,Bool.or_self,i1,i8,i9]
 rw [Qf (l:=s) 20 (show (20:Int)=((20:Nat):Int) from rfl) (by omega) (by omega),CN (by omega) (by omega),dk (n:=(s[1]'(by omega)).toNat) (by omega),dk (n:=(s[8]'(by omega)).toNat) (by omega),dk (n:=(s[9]'(by omega)).toNat) (by omega)]
 have e:(((s[1]'(by omega)).toNat:Int),bf s 4,((s[8]'(by omega)).toNat:Int),((s[9]'(by omega)).toNat:Int),ch s 12,ch s 16,(s.take (bf s 2).toNat).drop 20)=Ag s:=by
  simp only [Ag,aQ,aM (show 1<s.length by omega),aM (show 8<s.length by omega),aM (show 9<s.length by omega)]
 simp only [ab,e,T9]
 cases (MX (Ag s)).2<;>cases (MX (Ag s)).1==s.take (bf s 2).toNat<;>rfl
theorem Lk (s:Bytes)(h:s.length≤1000000000):rP s=some (se s):=by
 unfold rP se
 simp only [xL s _ h,uP s _ h,ab]
 by_cases h1:(s.length:Int)<20
 ·rw [decide_eq_true h1];rfl
 by_cases h2:bf s 2<20
 ·rw [decide_eq_false h1,decide_eq_true h2];rfl
 by_cases h3:bf s 2>(s.length:Int)
 ·rw [decide_eq_false h1,decide_eq_false h2,decide_eq_true h3];rfl
 rw [decide_eq_false h1,decide_eq_false h2,decide_eq_false h3]
 have b1:=ft (s[1]'(by omega));have b8:=ft (s[8]'(by omega));have b9:=ft (s[9]'(by omega))
 have i1:idx s 1=some (s[1]'(by omega)):=ay (i:=1) (by omega)
 have i8:idx s 8=some (s[8]'(by omega)):=ay (i:=8) (by omega)
 have i9:idx s 9=some (s[9]'(by omega)):=ay (i:=9) (by omega)
 simp only [cond_false,ab,Bool.or_self,i1,i8,i9]
 rw [Qf (l:=s) 20 (show (20:Int)=((20:Nat):Int) from rfl) (by omega) (by omega),CN (by omega) (by omega),dk (n:=(s[1]'(by omega)).toNat) (by omega),dk (n:=(s[8]'(by omega)).toNat) (by omega),dk (n:=(s[9]'(by omega)).toNat) (by omega)]
 have e:(((s[1]'(by omega)).toNat:Int),bf s 4,((s[8]'(by omega)).toNat:Int),((s[9]'(by omega)).toNat:Int),ch s 12,ch s 16,(s.take (bf s 2).toNat).drop 20)=Ag s:=by
  simp only [Ag,aQ,aM (show 1<s.length by omega),aM (show 8<s.length by omega),aM (show 9<s.length by omega)]
 simp only [ab,e,Ta]
 cases (MX (Ag s)).2<;>cases (MX (Ag s)).1==s.take (bf s 2).toNat<;>rfl
def adE:bj:=(0,0,0,0,0,0,0,([]:Bytes))
def Fa (k:Int)(s:Bytes):bj:=(k,bf s 0,bf s 2,ch s 4,ch s 8,(aQ s 13:Int),bf s 14,s.drop 20)
def Jz (k:Int)(s:Bytes):bj:=(k,bf s 0,bf s 2,0,0,0,0,s.drop 8)
def tt (a b k:Int)(s:Bytes):bj×Bool:=
 bif (k==6)&&decide ((s.length:Int)≥20) then (bif (uG a b (Fa k s)).2&&((uG a b (Fa k s)).1==s) then (Fa k s,true) else (adE,false)) else
 bif (k==17)&&decide ((s.length:Int)≥8) then (bif (uG a b (Jz k s)).2&&((uG a b (Jz k s)).1==s) then (Jz k s,true) else (adE,false)) else (adE,false)
theorem JI (a b k:Int)(s:Bytes)(h:s.length≤1000000000):jE a b k s=some (tt a b k s):=by
 unfold jE tt
 simp only [pK s _ h,sI s _ h,ab]
 rw [show (aa (cond (k==6) (some (decide ((s.length:Int)≥20))) (some false)):(Bool→Option (bj×Bool))→Option (bj×Bool))=fun K=>K ((k==6)&&decide ((s.length:Int)≥20)) from by funext K;cases k==6<;>rfl]
 rw [show (aa (cond (k==17) (some (decide ((s.length:Int)≥8))) (some false)):(Bool→Option (bj×Bool))→Option (bj×Bool))=fun K=>K ((k==17)&&decide ((s.length:Int)≥8)) from by funext K;cases k==17<;>rfl]
 simp only
 cases h1:(k==6)&&decide ((s.length:Int)≥20) with
 |true=>
  simp only [Bool.and_eq_true,decide_eq_true_eq] at h1
  have bb:=ft (s[13]'(by omega))
  have i:idx s 13=some (s[13]'(by omega)):=ay (i:=13) (by omega)
  have e:(k,bf s 0,bf s 2,ch s 4,ch s 8,((s[13]'(by omega)).toNat:Int),bf s 14,s.drop 20)=Fa k s:=by
   simp only [Fa,aQ,aM (show 13<s.length by omega)]
  simp only [cond_true,i,ab]
  rw [uq (l:=s) 20 (by omega) (show (20:Int)=((20:Nat):Int) from rfl),dk (n:=(s[13]'(by omega)).toNat) (by omega)]
  simp only [ab,e,xp]
  cases (uG a b (Fa k s)).2<;>cases (uG a b (Fa k s)).1==s<;>rfl
 |false=>
  simp only [cond_false]
  cases h2:(k==17)&&decide ((s.length:Int)≥8) with
  |false=>rfl
  |true=>
   simp only [Bool.and_eq_true,decide_eq_true_eq] at h2
   rw [uq (l:=s) 8 (by omega) (show (8:Int)=((8:Nat):Int) from rfl)]
   simp only [cond_true,ab,show ((k,bf s 0,bf s 2,0,0,0,0,s.drop 8):bj)=Jz k s from rfl,xp]
   cases (uG a b (Jz k s)).2<;>cases (uG a b (Jz k s)).1==s<;>rfl
theorem I7 (a b k:Int)(s:Bytes)(h:s.length≤1000000000):jr a b k s=some (tt a b k s):=by
 unfold jr tt
 simp only [xL s _ h,uP s _ h,ab]
 rw [show (aa (cond (k==6) (some (decide ((s.length:Int)≥20))) (some false)):(Bool→Option (bj×Bool))→Option (bj×Bool))=fun K=>K ((k==6)&&decide ((s.length:Int)≥20)) from by funext K;cases k==6<;>rfl]
 rw [show (aa (cond (k==17) (some (decide ((s.length:Int)≥8))) (some false)):(Bool→Option (bj×Bool))→Option (bj×Bool))=fun K=>K ((k==17)&&decide ((s.length:Int)≥8)) from by funext K;cases k==17<;>rfl]
 simp only
 cases h1:(k==6)&&decide ((s.length:Int)≥20) with
 |true=>
  simp only [Bool.and_eq_true,decide_eq_true_eq] at h1
  have bb:=ft (s[13]'(by omega))
  have i:idx s 13=some (s[13]'(by omega)):=ay (i:=13) (by omega)
  have e:(k,bf s 0,bf s 2,ch s 4,ch s 8,((s[13]'(by omega)).toNat:Int),bf s 14,s.drop 20)=Fa k s:=by
   simp only [Fa,aQ,aM (show 13<s.length by omega)]
  simp only [cond_true,i,ab]
  rw [uq (l:=s) 20 (by omega) (show (20:Int)=((20:Nat):Int) from rfl),dk (n:=(s[13]'(by omega)).toNat) (by omega)]
  simp only [ab,e,w8]
  cases (uG a b (Fa k s)).2<;>cases (uG a b (Fa k s)).1==s<;>rfl
 |false=>
  simp only [cond_false]
  cases h2:(k==17)&&decide ((s.length:Int)≥8) with
  |false=>rfl
  |true=>
   simp only [Bool.and_eq_true,decide_eq_true_eq] at h2
   rw [uq (l:=s) 8 (by omega) (show (8:Int)=((8:Nat):Int) from rfl)]
   simp only [cond_true,ab,show ((k,bf s 0,bf s 2,0,0,0,0,s.drop 8):bj)=Jz k s from rfl,w8]
   cases (uG a b (Jz k s)).2<;>cases (uG a b (Jz k s)).1==s<;>rfl
def XX:ax:=(0,0,0,0,0,0,0,0,0,0,0,0,0,0,0,([]:Bytes))
def Au (s:Bytes):ax×Int:=
 let e:=oS s
 bif !e.2||(e.1.2.2.2.1 !=2048) then (XX,2) else
 let i:=se e.1.2.2.2.2
 bif !i.2 then (XX,3) else
 let g:=tt i.1.2.2.2.2.1 i.1.2.2.2.2.2.1 i.1.2.2.2.1 i.1.2.2.2.2.2.2
 bif !g.2 then (XX,4) else
 bif !cd (e.1.1,e.1.2.1,e.1.2.2.1,i.1.1,i.1.2.1,i.1.2.2.1,i.1.2.2.2.2.1,i.1.2.2.2.2.2.1,g.1) then (XX,5) else
 ((e.1.1,e.1.2.1,e.1.2.2.1,i.1.1,i.1.2.1,i.1.2.2.1,i.1.2.2.2.2.1,i.1.2.2.2.2.2.1,g.1),0)
theorem Aq (s:Bytes):(oS s).1.2.2.2.2.length≤s.length:=by
 unfold oS
 cases decide ((s.length:Int)<18) with|true=>simp [SI]|false=> ?_
 cases bf s 12==33024<;>cases uw (KG s)<;>cases uw (yq s)<;>simp [SI,KG,yq]
theorem B3 (s:Bytes):(se s).1.2.2.2.2.2.2.length≤s.length:=by
 unfold se
 cases decide ((s.length:Int)<20)||(decide (bf s 2<20)||decide (bf s 2>(s.length:Int))) with|true=>simp [ip0]|false=> ?_
 cases (MX (Ag s)).2&&((MX (Ag s)).1==s.take (bf s 2).toNat) with
 |false=>simp [ip0]
 |true=>simp [Ag];omega
theorem RT (s:Bytes)(h:s.length≤1000000000):pg s=some (Au s):=by
 have h1:=Aq s
 unfold pg Au
 rw [JH s h,ab]
 generalize oS s=e at h1⊢
 have h2:=B3 e.1.2.2.2.2
 simp only
 cases e.2 with|false=>rfl|true=> ?_
 cases e.1.2.2.2.1 !=2048 with|true=>rfl|false=> ?_
 simp only [Bool.not_true,cond_false,ab,Bool.or_self,Mr _ (show e.1.2.2.2.2.length≤1000000000 by omega)]
 generalize se e.1.2.2.2.2=i at h2⊢
 cases i.2 with|false=>rfl|true=> ?_
 simp only [Bool.not_true,cond_false,ab,JI _ _ _ _ (show i.1.2.2.2.2.2.2.length≤1000000000 by omega)]
 generalize tt i.1.2.2.2.2.1 i.1.2.2.2.2.2.1 i.1.2.2.2.1 i.1.2.2.2.2.2.2=g
 cases g.2 with|false=>rfl|true=> ?_
 simp only [Bool.not_true,cond_false,ab,ll]
 cases cd (e.1.1,e.1.2.1,e.1.2.2.1,i.1.1,i.1.2.1,i.1.2.2.1,i.1.2.2.2.2.1,i.1.2.2.2.2.2.1,g.1)<;>rfl
theorem Q2 (s:Bytes)(h:s.length≤1000000000):nX s=some (Au s):=by
 have h1:=Aq s
 unfold nX Au
 rw [I6 s h,ab]
 generalize oS s=e at h1⊢
 have h2:=B3 e.1.2.2.2.2
 simp only
 cases e.2 with|false=>rfl|true=> ?_
 cases e.1.2.2.2.1 !=2048 with|true=>rfl|false=> ?_
 simp only [Bool.not_true,cond_false,ab,Bool.or_self,Lk _ (show e.1.2.2.2.2.length≤1000000000 by omega)]
 generalize se e.1.2.2.2.2=i at h2⊢
 cases i.2 with|false=>rfl|true=> ?_
 simp only [Bool.not_true,cond_false,ab,I7 _ _ _ _ (show i.1.2.2.2.2.2.2.length≤1000000000 by omega)]
 generalize tt i.1.2.2.2.2.1 i.1.2.2.2.2.2.1 i.1.2.2.2.1 i.1.2.2.2.2.2.2=g
 cases g.2 with|false=>rfl|true=> ?_
 simp only [Bool.not_true,cond_false,ab,kJ]
 cases cd (e.1.1,e.1.2.1,e.1.2.2.1,i.1.1,i.1.2.1,i.1.2.2.1,i.1.2.2.2.2.1,i.1.2.2.2.2.2.1,g.1)<;>rfl
def lK (s:Bytes):ax×Int:=
 let c:=re s
 bif !c.2 then (XX,1) else
 let r:=Au c.1
 bif r.2 !=0 then (XX,r.2) else
 bif !cA r.1 then (XX,5) else (r.1,0)
theorem C7 (s:Bytes):(re s).1.length≤s.length:=by
 unfold re
 cases decide ((s.length:Int)<4) with|true=>simp|false=> ?_
 cases ur (s.take ((s.length:Int)-4).toNat)==s with
 |false=>simp
 |true=>simp;omega
theorem Hl (s:Bytes)(h:s.length≤1000000000):kB s=some (lK s):=by
 have h1:=C7 s
 unfold kB lK
 rw [Ou s h,ab]
 generalize re s=c at h1⊢
 simp only
 cases c.2 with|false=>rfl|true=> ?_
 simp only [Bool.not_true,cond_false,ab,RT _ (show c.1.length≤1000000000 by omega)]
 generalize Au c.1=r
 cases r.2 !=0 with|true=>rfl|false=> ?_
 simp only [cond_false,ab,wc]
 cases cA r.1<;>rfl
theorem GL (s:Bytes)(h:s.length≤1000000000):jS s=some (lK s):=by
 have h1:=C7 s
 unfold jS lK
 rw [NG s h,ab]
 generalize re s=c at h1⊢
 simp only
 cases c.2 with|false=>rfl|true=> ?_
 simp only [Bool.not_true,cond_false,ab,Q2 _ (show c.1.length≤1000000000 by omega)]
 generalize Au c.1=r
 cases r.2 !=0 with|true=>rfl|false=> ?_
 simp only [cond_false,ab,sT]
 cases cA r.1<;>rfl
end
end Go.Pu
end
section
namespace Go.Pu
open Go.Dn
set_option linter.unusedSimpArgs false
noncomputable section
def CF {α:Type}(a b:α):Bool:= @decide (a=b) (Classical.propDecidable _)
theorem xF {α:Type}{a b:α}:CF a b=true↔a=b:=by unfold CF;exact @decide_eq_true_iff _ (Classical.propDecidable _)
theorem IX {α:Type}{a b:α}{x:Bool}(h:x=true↔a=b):x=CF a b:=by rw [Bool.eq_iff_iff,xF];exact h
theorem alr {α:Type}[BEq α][LawfulBEq α](a b:α):(a==b)=CF a b:=IX beq_iff_eq
theorem Sv {α β:Type}(a b:α)(c d:β):CF (a,c) (b,d)=(CF a b&&CF c d):=by
 rw [Bool.eq_iff_iff];simp only [Bool.and_eq_true,xF,Prod.mk.injEq]
theorem KH {α β:Type}(a b:α×β):CF a b=(CF a.1 b.1&&CF a.2 b.2):=Sv a.1 b.1 a.2 b.2
theorem Sw {α:Type}{a b:α}(h:a=b):CF a b=true:=xF.2 h
theorem QE {α:Type}{a b:α}(h:¬a=b):CF a b=false:=by rw [Bool.eq_false_iff,ne_eq,xF];exact h
theorem SH {α R:Type}{T:(Int→Option R)→Int→Option R}{fin hit:Option R}(p:α→α→Bool)(hp:∀x y,p x y=true↔x=y)(a b:List α)(hl:a.length=b.length)(h:a.length≤1000000000)
 (hs:∀i (hi:i<a.length) nx,T nx (i:Int)=cond (!(p a[i] (b[i]'(hl▸hi)))) hit (nx ((i+1:Nat):Int))) (hf:∀nx,T nx (a.length:Int)=fin):
 ar T fuel 0=cond (CF a b) fin hit:=by
 have hq:∀i,i<a.length→i<b.length:=fun i hi=>hl▸hi
 rw [cI (fin:=fin) (hit:=hit) (fun i=>CF a[i]? b[i]?) a.length (by omega) ?hs hf]
 case hs=>
  intro i nx hi
  rw [hs i hi,List.getElem?_eq_getElem hi,List.getElem?_eq_getElem (hq i hi)]
  have:p a[i] (b[i]'(hq i hi))=CF (some a[i]) (some (b[i]'(hq i hi))):=IX (by rw [hp,Option.some.injEq])
  rw [this]
 congr 1
 apply IX
 rw [List.all_eq_true]
 constructor
 ·intro k
  apply List.ext_getElem?
  intro i
  by_cases hi:i<a.length
  ·exact xF.1 (k i (List.mem_range.2 hi))
  ·rw [List.getElem?_eq_none (by omega),List.getElem?_eq_none (by omega)]
 ·rintro rfl i _;exact Sw rfl
theorem WL {α:Type}{T:(Int→Option Bool)→Int→Option Bool}(p:α→α→Bool)(hp:∀x y,p x y=true↔x=y)(a b:List α)(h:a.length≤1000000000)
 (hs:a.length=b.length→∀i (hi:i<a.length)(hi':i<b.length) nx,T nx (i:Int)=cond (!(p a[i] b[i])) (some false) (nx ((i+1:Nat):Int))) (hf:∀nx,T nx (a.length:Int)=some true):
 cond ((a.length:Int) !=(b.length:Int)) (some false) (ar T fuel 0)=some (CF a b):=by
 by_cases hl:a.length=b.length
 ·rw [SH p hp a b hl h (fun i hi nx=>hs hl i hi (hl▸hi) nx) hf]
  rw [show ((a.length:Int) !=(b.length:Int))=false by simp [hl]]
  cases CF a b<;>rfl
 ·rw [QE (fun e=>hl (by rw [e]))]
  rw [show ((a.length:Int) !=(b.length:Int))=true by simp;omega]
  rfl
theorem S9 (a b:List Int)(h:a.length≤1000000000):lj a b=some (CF a b):=by
 unfold lj
 refine WL (fun x y=>x==y) (fun x y=>beq_iff_eq) a b h (fun hl i hi hi' nx=> ?_) (fun nx=> ?_)
 ·simp only [gw]
  rw [decide_eq_true (by omega),ay hi,ay hi',wrap64 (by omega) (by omega)];rfl
 ·simp only [gw]
  rw [decide_eq_false (by omega)];rfl
theorem zU (a b:Filter)(h:a.2.2.length≤1000000000):mL a b=some (CF a b):=by
 simp only [mL,S9 _ _ h,ab,az,cF,KH a b,KH a.2 b.2,alr]
end
end Go.Pu
end
section
namespace Go.Pu
open Go.Dn
set_option linter.unusedSimpArgs false
set_option linter.unusedVariables false
noncomputable section
theorem ri (l:List Bytes)(h:l.length≤1000000000):cY l=some l:=by
 simp only [cY,bV h,List.nil_append]
theorem w7 (f:Filter)(h:f.2.2.length≤1000000000):iI f=some f:=by
 simp only [iI,jL _ h,ab]
theorem xn (f:Filter)(h:f.2.2.length≤1000000000):pq f=some f:=by
 simp only [pq,bV h,List.nil_append]
theorem Cq (l:List Stream)(h:l.length≤1000000000):k7 l=some l:=by
 simp only [k7,bV h,List.nil_append]
theorem FU (t:List Slot)(h:t.length≤1000000000):n5 t=some t:=by
 simp only [n5,bV h,List.nil_append]
theorem Ez (s:dq)(h:s.2.length≤1000000000):mK s=some s:=by
 simp only [mK,jL _ h,ab]
theorem FR (s:bG)(h1:s.1.length≤1000000000)(h2:s.2.1.length≤1000000000)(h3:s.2.2.2.length≤1000000000):jv s=some s:=by
 simp only [jv,bV h1,FU _ h2,Ez _ h3,ab,List.nil_append]
theorem F8 (t:List Slot)(h:t.length≤1000000000):sr t=some t:=by
 simp only [sr,bV h,List.nil_append]
theorem F7 (s:bG)(h1:s.1.length≤1000000000)(h2:s.2.1.length≤1000000000)(h3:s.2.2.2.length≤1000000000):su s=some s:=by
 simp only [su,bV h1,F8 _ h2,bV h3,ab,List.nil_append]
theorem Hc (l:List dp)(i:Nat)(hi:i<l.length):l.take i++[(l[i].1,l[i].2.1,l[i].2.2)]=l.take (i+1):=(List.take_succ_eq_append_getElem hi).symm
theorem I4 (l:List dp)(h:l.length≤1000000000)(hx:∀x∈l,x.2.2.length≤1000000000):qa l=some l:=by
 unfold qa
 refine (bB (fun i=>(l.take i,(i:Int))) l.length (by omega) (fun i nx hi=> ?_) (fun nx=> ?_))
 ·simp only [k6]
  rw [decide_eq_true (by omega),ay hi,wrap64 (by omega) (by omega)]
  simp only [cond_true,ab,jL _ (hx _ (List.getElem_mem hi))]
  rw [aq (by simp;omega),Hc l i hi];rfl
 ·simp only [k6]
  rw [decide_eq_false (by omega),List.take_length];rfl
structure YR (t:cu):Prop where
 p:t.2.1.2.2.2.length≤1000000000
 w:t.2.2.1.length≤1000000000
 x:∀x∈t.2.2.1,x.2.2.length≤1000000000
theorem NH (t:cu)(z:YR t):tS t=some t:=by
 simp only [tS,wU _ z.p,I4 _ z.w z.x,ab]
theorem Ov (t:cu)(z:YR t):sy t=some t:=by
 have h:=z.w
 unfold sy
 simp only [yZ _ z.p,ab]
 refine (bB (fun i=>((i:Int),t.1,t.2.1,t.2.2.1.take i,t.2.2.2)) t.2.2.1.length (by omega) (fun i nx hi=> ?_) (fun nx=> ?_))
 ·simp only [mZ]
  rw [decide_eq_true (by omega),ay hi,wrap64 (by omega) (by omega)]
  simp only [cond_true,ab,bV (z.x _ (List.getElem_mem hi)),List.nil_append]
  rw [aq (by simp;omega),Hc _ i hi];rfl
 ·simp only [mZ]
  rw [decide_eq_false (by omega),List.take_length];rfl
theorem XV {h:Host}(z:aK 1000000000 ba h):YR h.2.2.1:=⟨z.2.2.1.2.1.2.2.2.1,z.2.2.1.2.2.1.1,fun x hx=>(z.2.2.1.2.2.1.2 x hx).2.2.1⟩
theorem zS (h:Host)(z:aK 1000000000 ba h):l5 h=some h:=by
 have hp:h.2.2.2.2.1.length≤1000000000:=z.2.2.2.2.1.1
 have hm:h.1.length≤1000000000:=z.1.1
 unfold l5
 simp only [iW _ (show h.1.length≤1073741824 by omega),n4,bV z.2.1.1,NH _ (XV z),bV z.2.2.2.1.1,ab,List.nil_append]
 refine (bB (fun i=>((i:Int),h.1,h.2.1,h.2.2.1,h.2.2.2.1,h.2.2.2.2.1.take i,h.2.2.2.2.2)) h.2.2.2.2.1.length (by omega) (fun i nx hi=> ?_) (fun nx=> ?_))
 ·simp only [kZ]
  rw [decide_eq_true (by omega),ay hi,wrap64 (by omega) (by omega)]
  simp only [cond_true,ab,wU _ (z.2.2.2.2.1.2 _ (List.getElem_mem hi)).2.2.2.1]
  rw [aq (by simp;omega),←List.take_succ_eq_append_getElem hi];rfl
 ·simp only [kZ]
  rw [decide_eq_false (by omega),List.take_length]
  simp only [cond_false,bV z.2.2.2.2.2.1.1,bV z.2.2.2.2.2.2.1.1,w7 _ z.2.2.2.2.2.2.2.1.2.2.1,FR _ z.2.2.2.2.2.2.2.2.1.1.1 z.2.2.2.2.2.2.2.2.1.2.1.1 z.2.2.2.2.2.2.2.2.1.2.2.2.1,
   Cq _ z.2.2.2.2.2.2.2.2.2.1.1,ri _ z.2.2.2.2.2.2.2.2.2.2.2.1.1,jL _ z.2.2.2.2.2.2.2.2.2.2.2.2.1.1,jL _ z.2.2.2.2.2.2.2.2.2.2.2.2.2.1.1,ab,List.nil_append]
theorem AA (h:Host)(z:aK 1000000000 ba h):pt h=some h:=by
 have hp:h.2.2.2.2.1.length≤1000000000:=z.2.2.2.2.1.1
 have hm:h.1.length≤1000000000:=z.1.1
 unfold pt
 simp only [nf _ (show h.1.length≤1073741824 by omega),bV z.2.1.1,Ov _ (XV z),bV z.2.2.2.1.1,ab,List.nil_append]
 refine (bB (fun i=>((i:Int),h.1,h.2.1,h.2.2.1,h.2.2.2.1,h.2.2.2.2.1.take i,h.2.2.2.2.2)) h.2.2.2.2.1.length (by omega) (fun i nx hi=> ?_) (fun nx=> ?_))
 ·simp only [m5]
  rw [decide_eq_true (by omega),ay hi,wrap64 (by omega) (by omega)]
  simp only [cond_true,ab,yZ _ (z.2.2.2.2.1.2 _ (List.getElem_mem hi)).2.2.2.1]
  rw [aq (by simp;omega),←List.take_succ_eq_append_getElem hi];rfl
 ·simp only [m5]
  rw [decide_eq_false (by omega),List.take_length]
  simp only [cond_false,bV z.2.2.2.2.2.1.1,bV z.2.2.2.2.2.2.1.1,xn _ z.2.2.2.2.2.2.2.1.2.2.1,F7 _ z.2.2.2.2.2.2.2.2.1.1.1 z.2.2.2.2.2.2.2.2.1.2.1.1 z.2.2.2.2.2.2.2.2.1.2.2.2.1,
   bV z.2.2.2.2.2.2.2.2.2.1.1,bV z.2.2.2.2.2.2.2.2.2.2.2.1.1,bV z.2.2.2.2.2.2.2.2.2.2.2.2.1.1,bV z.2.2.2.2.2.2.2.2.2.2.2.2.2.1.1,ab,List.nil_append]
theorem O0:∀l:List dp,(bW l).length≤dV (.sl bJ) l
 |[]=>by simp [bW]
 |x::l=>by
  have:=O0 l
  simp only [bW,dV,List.flatMap_cons,List.length_append,List.map_cons,List.sum_cons,List.length_cons] at this⊢
  omega
end
end Go.Pu
end
section
namespace Go.Pu
open Go.Dn
end Go.Pu
end
section
namespace Go.Pu
open Go.Dn
set_option linter.unusedSimpArgs false
set_option linter.unusedVariables false
noncomputable section
def body (p:ax):Bytes:=p.2.2.2.2.2.2.2.2.2.2.2.2.2.2.2
end
end Go.Pu
end
section
namespace Go.Pu
open Go.Dn
set_option linter.unusedSimpArgs false
set_option linter.unusedVariables false
noncomputable section
end
end Go.Pu
end
section
namespace Go.Pu
open Go.Dn
set_option linter.unusedSimpArgs false
set_option linter.unusedVariables false
noncomputable section
end
end Go.Pu
end
section
namespace Go.Pu
open Go.Dn
set_option linter.unusedSimpArgs false
set_option linter.unusedVariables false
noncomputable section
theorem EL {n:Nat}{t:CT}{l:List t.D}{i:Nat}{x:t.D}(z:aK n (.sl t) l)(hx:aK n t x):aK n (.sl t) (l.set i x):=by
 refine ⟨?_,fun y hy=> ?_⟩
 ·show (l.set i x).length≤n
  rw [List.length_set];exact z.1
 ·rcases List.mem_or_eq_of_mem_set hy with h|h
  ·exact z.2 y h
  ·rw [h];exact hx
theorem Rz {n:Nat}(hn:128≤n){m:List Bytes}(h:vU m):aK n (.sl .str) m:=
 ⟨Nat.le_trans h.2 (by omega),fun x hx=>Nat.le_trans (Nat.le_of_eq (h.1 x hx)) hn⟩
theorem MV {n:Nat}(hn:128≤n){m:List Bytes}(z:aK n (.sl .str) m)(a:Int)(s:Bytes):aK n (.sl .str) (py m a s).1:=by
 unfold py
 cases hw:cg m a (s.length:Int) with|false=>exact z|true=> ?_
 simp only [cg,Bool.and_eq_true,decide_eq_true_eq] at hw
 exact Rz hn (wo s.length (xT.1 hw.1) (by omega)).1
theorem L6 {n:Nat}(hn:128≤n):∀(q:List (Int×Int)){m:List Bytes}(s:Bytes),aK n (.sl .str) m→aK n (.sl .str) (Jq q m s)
 |[],m,s,z=>z
 |p::q,m,s,z=>L6 hn q _ (MV hn z _ _)
theorem L7 {n:Nat}(hn:128≤n){m:List Bytes}(z:aK n (.sl .str) m)(l:List aw)(d a:Int)(s:Bytes)(w:Bool):aK n (.sl .str) (nE l m d a s w).1:=by
 unfold nE
 cases (hG l m d a (s.length:Int) w).2 with
 |false=>exact z
 |true=>exact L6 hn _ _ z
end
end Go.Pu
end
section
namespace Go.Pu
open Go.Dn
set_option linter.unusedSimpArgs false
set_option linter.unusedVariables false
noncomputable section
def aO (l:List aw)(m:List Bytes)(d:Int)(r:Int×Int×Int×Int):Bytes×(Int×Int×Int×Int)×Bool:=
 bif !nB r||(oV r==0) then ([],r,false) else
 bif !(Ea l m d (tE r r.2.2.1) 16).2 then ([],r,false) else
 ((Ea l m d (tE r r.2.2.1) 16).1,(r.1,r.2.1,Int.tmod (r.2.2.1+1) (2*r.2.1),r.2.2.2),true)
theorem AJ (l:List aw)(m:List Bytes)(d:Int)(r:Int×Int×Int×Int)(hl:l.length≤1000000000)(hm:m.length≤1000000000):mx l m d r=some (aO l m d r):=by
 have hA:=Ay r r.2.2.1
 unfold mx aO
 simp only [xo,Fh,ab,Hn,B8 l m d _ 16 hl hm (show tE r r.2.2.1≤9223372036854775807 by omega)]
 cases hb:nB r with|false=>rfl|true=> ?_
 have h:=CJ hb
 cases oV r==0 with|true=>rfl|false=> ?_
 simp only [Bool.not_true,cond_false,ab,Bool.or_self]
 cases (Ea l m d (tE r r.2.2.1) 16).2 with|false=>rfl|true=> ?_
 simp only [Bool.not_true,cond_false]
 rw [wrap64 (n:=2*r.2.1) (by omega) (by omega),if_neg (by omega),wrap64 (n:=r.2.2.1+1) (by omega) (by omega)]
theorem Ja (l:List aw)(m:List Bytes)(d:Int)(r:Int×Int×Int×Int)(hl:l.length≤1000000000)(hm:m.length≤1000000000):p5 l m d r=some (aO l m d r):=by
 have hA:=Ay r r.2.2.1
 rw [←AJ l m d r hl hm]
 unfold p5 mx
 simp only [xo,Fh,Hn,zZ,Lp,Q3,ab,Lf l m d _ 16 hl hm (show tE r r.2.2.1≤9223372036854775807 by omega),B8 l m d _ 16 hl hm (show tE r r.2.2.1≤9223372036854775807 by omega)]
theorem yG (l:List aw)(m:List Bytes)(d:Int)(r:Int×Int×Int×Int):(aO l m d r).1.length≤100000000:=by
 unfold aO
 cases !nB r||(oV r==0) with|true=>exact Nat.zero_le _|false=> ?_
 cases (Ea l m d (tE r r.2.2.1) 16).2 with
 |false=>exact Nat.zero_le _
 |true=>exact Ss ..
def XU:Int×Int×Int×Int×Int×Int:=(0,0,0,0,0,0)
def wW (s:Bytes):Int×Int×Int×Int×Int×Int:=((aQ s 0:Int),(aQ s 1:Int),bf s 2,ch s 4,bf s 8,bf s 10)
def bI (s:Bytes):(Int×Int×Int×Int×Int×Int)×Bool:=
 bif ((s.length:Int) !=16) then (XU,false) else bif !(IV (wW s)==s) then (XU,false) else (wW s,true)
theorem Ml (s:Bytes)(h:s.length≤1000000000):iM s=some (bI s):=by
 unfold iM bI
 cases hn:(s.length:Int) !=16 with|true=>rfl|false=> ?_
 have hl:s.length=16:=by
  have:((s.length:Int)==16)=true:=by simpa using hn
  have:=of_decide_eq_true this
  omega
 have b0:=ft (s[0]'(by omega));have b1:=ft (s[1]'(by omega))
 have i0:idx s 0=some (s[0]'(by omega)):=ay (i:=0) (by omega)
 have i1:idx s 1=some (s[1]'(by omega)):=ay (i:=1) (by omega)
 have e:(((s[0]'(by omega)).toNat:Int),((s[1]'(by omega)).toNat:Int),bf s 2,ch s 4,bf s 8,bf s 10)=wW s:=by
  simp only [wW,aQ,aM (show 0<s.length by omega),aM (show 1<s.length by omega)]
 simp only [cond_false,i0,i1,ab,pK s _ h,sI s _ h]
 rw [dk (n:=(s[0]'(by omega)).toNat) (by omega),dk (n:=(s[1]'(by omega)).toNat) (by omega),e,P9,ab]
 cases IV (wW s)==s<;>rfl
theorem S4 (s:Bytes)(h:s.length≤1000000000):mE s=some (bI s):=by
 rw [←Ml s h]
 unfold mE iM
 simp only [pK s _ h,sI s _ h,xL s _ h,uP s _ h,WT,P9]
theorem D8 {s:Bytes}(h:(bI s).2=true):wX (bI s).1=true:=by
 unfold bI at h⊢
 cases hn:(s.length:Int) !=16 with|true=>rw [hn] at h;cases h|false=> ?_
 cases he:IV (wW s)==s with|false=>rw [hn,he] at h;cases h|true=> ?_
 simp only [cond_false,Bool.not_true]
 cases hd:wX (wW s) with
 |true=>rfl
 |false=>
  have:IV (wW s)=[]:=by unfold IV;rw [hd];rfl
  rw [this] at he
  cases s with
  |nil=>simp at hn
  |cons x y=>cases he
end
end Go.Pu
end
section
namespace Go.Pu
open Go.Dn
set_option linter.unusedSimpArgs false
set_option linter.unusedVariables false
noncomputable section
def QC (v:Vector):Bool:=bif decide (v.2.2.1≥1) then (bif decide (v.2.2.1≥v.1) then true else decide (v.2.2.2.1≥v.2.1)) else false
theorem PF (v:Vector):uS v=some (QC v):=by
 unfold uS QC
 cases decide (v.2.2.1≥1) with|false=>rfl|true=> ?_
 cases decide (v.2.2.1≥v.1)<;>rfl
theorem Xr (v:Vector):nC v=some (QC v):=PF v
def C6 (v:Vector):Vector:=bif QC v&& !v.2.2.2.2.1 then (v.1,v.2.1,v.2.2.1,v.2.2.2.1,v.2.2.2.2.1,true) else v
theorem QQ (v:Vector):rR v=some (C6 v):=by
 unfold rR C6
 rw [PF,ab]
 cases QC v with|false=>rfl|true=> ?_
 cases v.2.2.2.2.1<;>rfl
theorem RL (v:Vector):qz v=some (C6 v):=by
 obtain ⟨a,b,c,d,e,f⟩:=v
 unfold qz C6
 rw [Xr,ab]
 cases f<;>cases QC (a,b,c,d,e,_)<;>cases e<;>rfl
def upM (n:Int):Int:=if 1000000<IntKind.wrap .i64 (n+1) then 1000000 else IntKind.wrap .i64 (n+1)
theorem XL (n:Int):(if IntKind.wrap .i64 (n+1)<1000000 then IntKind.wrap .i64 (n+1) else 1000000)=upM n:=by
 unfold upM;split<;>split<;>omega
def evV (v:Vector):Vector:=bif qB v then C6 (v.1,v.2.1,upM v.2.2.1,v.2.2.2) else v
theorem QP (v:Vector):pS v=some (evV v):=by
 unfold pS evV
 rw [ED,ab,QQ,ab]
 cases qB v<;>rfl
theorem RK (v:Vector):ql v=some (evV v):=by
 unfold ql evV
 rw [zl,ab,XL,RL,ab]
 cases qB v<;>rfl
structure sK (k:Nat) (a b:Host):Prop where
 mem:b.1.length=a.1.length
 maps:b.2.1=a.2.1
 tx:b.2.2.1=a.2.2.1
 rx:b.2.2.2.1.length=a.2.2.2.1.length
 rxs:∀j,k≤j→b.2.2.2.1[j]?=a.2.2.2.1[j]?
 pl:b.2.2.2.2.1.length=a.2.2.2.2.1.length
 vec:b.2.2.2.2.2.1.length=a.2.2.2.2.2.1.length
 vecs:∀j,k≤j→b.2.2.2.2.2.1[j]?=a.2.2.2.2.2.1[j]?
 pol:b.2.2.2.2.2.2.1.length=a.2.2.2.2.2.2.1.length
 flt:b.2.2.2.2.2.2.2.1=a.2.2.2.2.2.2.2.1
 ste:b.2.2.2.2.2.2.2.2.1=a.2.2.2.2.2.2.2.2.1
theorem sK.refl (k:Nat)(a:Host):sK k a a:=⟨rfl,rfl,rfl,rfl,fun _ _=>rfl,rfl,rfl,fun _ _=>rfl,rfl,rfl,rfl⟩
theorem sK.trans {k:Nat}{a b c:Host}(h:sK k a b)(g:sK k b c):sK k a c:=
 ⟨g.mem.trans h.mem,g.maps.trans h.maps,g.tx.trans h.tx,g.rx.trans h.rx,fun j hj=>(g.rxs j hj).trans (h.rxs j hj),g.pl.trans h.pl,g.vec.trans h.vec,fun j hj=>(g.vecs j hj).trans (h.vecs j hj),g.pol.trans h.pol,g.flt.trans h.flt,g.ste.trans h.ste⟩
theorem sK.up {k m:Nat}{a b:Host}(h:sK k a b)(hk:k≤m):sK m a b:=
 ⟨h.mem,h.maps,h.tx,h.rx,fun j hj=>h.rxs j (by omega),h.pl,h.vec,fun j hj=>h.vecs j (by omega),h.pol,h.flt,h.ste⟩
theorem XM {n:Nat}{l:List Vector}{i:Nat}{v:Vector}(z:aK n (.sl aZ) l):aK n (.sl aZ) (l.set i v):=EL z ⟨trivial,trivial,trivial,trivial,trivial,trivial⟩
end
end Go.Pu
end
section
namespace Go.Pu
open Go.Dn
set_option linter.unusedSimpArgs false
set_option linter.unusedVariables false
noncomputable section
def sM (x:Int×Int×Int×Int×Int):Bool:=bc x.1 0 65535&&(bc x.2.1 0 65535&&(bc x.2.2.1 0 65535&&(bc x.2.2.2.1 0 65535&&bc x.2.2.2.2 0 4294967295)))
theorem Bm (x:Int×Int×Int×Int×Int):fC x=some (sM x):=by
 simp only [fC,bg,ab,az,cF,sM]
theorem RM (x:Int×Int×Int×Int×Int):jB x=some (sM x):=Bm x
def FN (x:Int×Int×Int×Int×Int)(p:Int):Bytes:=bif sM x&&bc p 0 1 then ((((bz x.1++bz x.2.1)++bz x.2.2.1)++bz x.2.2.2.1)++cw x.2.2.2.2)++cw p else []
theorem Lg (x:Int×Int×Int×Int×Int)(p:Int):eS x p=some (FN x p):=by
 have h1:=aF x.1;have h2:=aF x.2.1;have h3:=aF x.2.2.1;have h4:=aF x.2.2.2.1;have h5:=bd x.2.2.2.2;have h6:=bd p
 unfold eS FN
 simp only [Bm,bg,ab,nb,nd]
 cases sM x with|false=>rfl|true=> ?_
 cases bc p 0 1 with|false=>rfl|true=> ?_
 simp only [Bool.not_true,cond_false,ab,Bool.and_self,cond_true]
 rw [aq (by omega),aq (by simp only [List.length_append];omega),aq (by simp only [List.length_append];omega),aq (by simp only [List.length_append];omega),aq (by simp only [List.length_append];omega)]
theorem T5 (x:Int×Int×Int×Int×Int)(p:Int):jm x p=some (FN x p):=Lg x p
def uY (l:List aw)(m:List Bytes)(d:Int)(q:Int×Int×Int)(x:Int×Int×Int×Int×Int):List Bytes×(Int×Int×Int)×Bool:=
 bif !cK q|| !sM x then (m,q,false) else
 bif !(nE l m d (tF q) (FN x (tu q)) true).2 then (m,q,false) else
 ((nE l m d (tF q) (FN x (tu q)) true).1,(q.1,q.2.1,Int.tmod (q.2.2+1) (2*q.2.1)),true)
theorem Tg (l:List aw)(m:List Bytes)(d:Int)(q:Int×Int×Int)(x:Int×Int×Int×Int×Int)(hl:l.length≤1000000000)(hm:m.length≤1000000000):ib l m d q x=some (uY l m d q x):=by
 unfold ib uY
 simp only [GK,Bm,ab,iW m (show m.length≤1073741824 by omega),Q0,Lg]
 cases hq:cK q with|false=>rfl|true=> ?_
 have h:=mq hq
 have hs:=JB hq
 cases sM x with|false=>rfl|true=> ?_
 simp only [Bool.not_true,cond_false,ab,Bool.or_self,Q4 q hq,zT l m d _ _ hl hm (show tF q≤9223372036854775807 by unfold tF;omega)]
 cases hp:(nE l m d (tF q) (FN x (tu q)) true).2 with
 |false=>simp only [Bool.not_false,cond_true,RE hp]
 |true=>
  simp only [Bool.not_true,cond_false]
  rw [wrap64 (n:=2*q.2.1) (by omega) (by omega),if_neg (by omega),wrap64 (n:=q.2.2+1) (by omega) (by omega)]
theorem Uf (l:List aw)(m:List Bytes)(d:Int)(q:Int×Int×Int)(x:Int×Int×Int×Int×Int)(hl:l.length≤1000000000)(hm:m.length≤1000000000):ir l m d q x=some (uY l m d q x):=by
 unfold ir uY
 simp only [Hk,RM,ab,nf m (show m.length≤1073741824 by omega),T5]
 cases hq:cK q with|false=>rfl|true=> ?_
 have h:=mq hq
 have hs:=JB hq
 cases sM x with|false=>rfl|true=> ?_
 have e:IntKind.wrap .i64 (q.1+IntKind.wrap .i64 (16*Int.tmod q.2.2 q.2.1))=tF q:=by
  rw [wrap64 (n:=16*Int.tmod q.2.2 q.2.1) (by omega) (by omega),wrap64 (by omega) (by omega)]
  unfold tF;omega
 simp only [Bool.not_true,cond_false,ab,Bool.or_self,RS q hq,e,AB l m d _ _ hl hm (show tF q≤9223372036854775807 by unfold tF;omega)]
 rw [if_neg (by omega)]
 cases hp:(nE l m d (tF q) (FN x (tu q)) true).2 with
 |false=>rfl
 |true=>
  simp only [Bool.not_true,cond_false]
  rw [wrap64 (n:=2*q.2.1) (by omega) (by omega),if_neg (by omega),wrap64 (n:=q.2.2+1) (by omega) (by omega)]
theorem RD {n:Nat}(hn:128≤n){m:List Bytes}(z:aK n (.sl .str) m)(l:List aw)(d:Int)(q:Int×Int×Int)(x:Int×Int×Int×Int×Int):aK n (.sl .str) (uY l m d q x).1∧(uY l m d q x).1.length=m.length:=by
 unfold uY
 cases !cK q|| !sM x with|true=>exact ⟨z,rfl⟩|false=> ?_
 cases (nE l m d (tF q) (FN x (tu q)) true).2 with
 |false=>exact ⟨z,rfl⟩
 |true=>exact ⟨L7 hn z ..,uZ ..⟩
theorem P0 {l:List aw}{m:List Bytes}{d:Int}{q:Int×Int×Int}{x:Int×Int×Int×Int×Int}(h:cK q=true):cK (uY l m d q x).2.1=true∧(uY l m d q x).2.1.1=q.1∧(uY l m d q x).2.1.2.1=q.2.1:=by
 have hq:=mq h
 unfold uY
 cases !cK q|| !sM x with|true=>exact ⟨h,rfl,rfl⟩|false=> ?_
 cases (nE l m d (tF q) (FN x (tu q)) true).2 with
 |false=>exact ⟨h,rfl,rfl⟩
 |true=>
  refine ⟨?_,rfl,rfl⟩
  have e:=Qm (a:=q.2.2+1) (b:=2*q.2.1) (by omega) (by omega)
  simp only [cond_false,Bool.not_true,cK,Bool.and_eq_true,aR] at h⊢
  refine ⟨h.1,h.2.1, ?_⟩
  rw [xW h.2.1]
  omega
def ek (l:List aw)(m:List Bytes)(d:Int)(q:aD)(k:Bytes)(s:Bytes):List Bytes×(Int×Int×Int)×Bool:=
 bif !(bI s).2||(((bI s).1.1 !=3)||decide ((bI s).1.2.2.1<((cn q.2.2.2.1.1).1.length:Int))) then (m,q.2.1,false) else
 bif !(nE l m d (bI s).1.2.2.2.1 (cn q.2.2.2.1.1).1 true).2 then (m,q.2.1,false) else
 uY l (nE l m d (bI s).1.2.2.2.1 (cn q.2.2.2.1.1).1 true).1 d q.2.1 ((bI s).1.2.2.2.2.2,((cn q.2.2.2.1.1).1.length:Int),q.2.2.2.1.2.1,q.2.2.2.1.2.2,nK k (jO (jh q.2.2.2.1.1)))
theorem RV (l:List aw)(m:List Bytes)(d:Int)(q:aD)(k s:Bytes)(hl:l.length≤1000000000)(hm:m.length≤1000000000)(hs:s.length≤1000000000):qy l m d q s k=some (ek l m d q k s):=by
 unfold qy ek
 have hok:=D8 (s:=s)
 simp only [Ml s hs,Hi,ab,nf m (show m.length≤1073741824 by omega)]
 generalize bI s=x at hok⊢
 cases hx:x.2 with|false=>rfl|true=> ?_
 have hd:=hok hx
 simp only [wX,Bool.and_eq_true,aR] at hd
 cases x.1.1 !=3 with|true=>rfl|false=> ?_
 cases decide (x.1.2.2.1<((cn q.2.2.2.1.1).1.length:Int)) with|true=>rfl|false=> ?_
 simp only [Bool.not_true,cond_false,ab,Bool.or_self,AB l m d _ _ hl hm (show x.1.2.2.2.1≤9223372036854775807 by omega)]
 cases (nE l m d x.1.2.2.2.1 (cn q.2.2.2.1.1).1 true).2 with|false=>rfl|true=> ?_
 simp only [Bool.not_true,cond_false,Mn,ab,AD,Uf l _ d _ _ hl (show (nE l m d x.1.2.2.2.1 (cn q.2.2.2.1.1).1 true).1.length≤1000000000 by rw [uZ];exact hm)]
theorem Q6 (l:List aw)(m:List Bytes)(d:Int)(q:aD)(k s:Bytes)(hl:l.length≤1000000000)(hm:m.length≤1000000000)(hs:s.length≤1000000000)(hh:cd q.2.2.2.1.1=true):∃b,n9 l m d q k s=some (b,ek l m d q k s)∧(b=false→ek l m d q k s=(m,q.2.1,false)):=by
 unfold n9 ek
 have hok:=D8 (s:=s)
 simp only [S4 s hs,GJ,ab,GG hh]
 generalize bI s=x at hok⊢
 cases hx:x.2 with|false=>exact ⟨false,rfl,fun _=>rfl⟩|true=> ?_
 have hd:=hok hx
 simp only [wX,Bool.and_eq_true,aR] at hd
 cases x.1.1 !=3 with|true=>exact ⟨false,rfl,fun _=>rfl⟩|false=> ?_
 cases decide (x.1.2.2.1<((cn q.2.2.2.1.1).1.length:Int)) with|true=>exact ⟨false,rfl,fun _=>rfl⟩|false=> ?_
 simp only [Bool.not_true,cond_false,ab,Bool.or_self,zT l m d _ _ hl hm (show x.1.2.2.2.1≤9223372036854775807 by omega)]
 cases (nE l m d x.1.2.2.2.1 (cn q.2.2.2.1.1).1 true).2 with|false=>exact ⟨false,rfl,fun _=>rfl⟩|true=> ?_
 simp only [Bool.not_true,cond_false,Lh,ab,zV,Tg l _ d _ _ hl (show (nE l m d x.1.2.2.2.1 (cn q.2.2.2.1.1).1 true).1.length≤1000000000 by rw [uZ];exact hm)]
 exact ⟨true,rfl,fun h=>by cases h⟩
theorem RY {n:Nat}(hn:128≤n){l:List aw}{m:List Bytes}{d:Int}{q:aD}{k s:Bytes}(z:aK n (.sl .str) m)(hq:cK q.2.1=true):
 aK n (.sl .str) (ek l m d q k s).1∧(ek l m d q k s).1.length=m.length∧cK (ek l m d q k s).2.1=true∧(ek l m d q k s).2.1.1=q.2.1.1∧(ek l m d q k s).2.1.2.1=q.2.1.2.1:=by
 unfold ek
 cases !(bI s).2||(((bI s).1.1 !=3)||decide ((bI s).1.2.2.1<((cn q.2.2.2.1.1).1.length:Int))) with|true=>exact ⟨z,rfl,hq,rfl,rfl⟩|false=> ?_
 cases (nE l m d (bI s).1.2.2.2.1 (cn q.2.2.2.1.1).1 true).2 with|false=>exact ⟨z,rfl,hq,rfl,rfl⟩|true=> ?_
 have h1:=L7 hn z l d (bI s).1.2.2.2.1 (cn q.2.2.2.1.1).1 true
 have h2:=uZ l m d (bI s).1.2.2.2.1 (cn q.2.2.2.1.1).1 true
 generalize (nE l m d (bI s).1.2.2.2.1 (cn q.2.2.2.1.1).1 true).1=w at h1 h2
 have h3:=RD hn h1 l d q.2.1 ((bI s).1.2.2.2.2.2,((cn q.2.2.2.1.1).1.length:Int),q.2.2.2.1.2.1,q.2.2.2.1.2.2,nK k (jO (jh q.2.2.2.1.1)))
 have h4:=P0 (l:=l) (m:=w) (d:=d) (x:=((bI s).1.2.2.2.2.2,((cn q.2.2.2.1.1).1.length:Int),q.2.2.2.1.2.1,q.2.2.2.1.2.2,nK k (jO (jh q.2.2.2.1.1)))) hq
 exact ⟨h3.1,h3.2.trans h2,h4⟩
def dP (l:List aw)(m:List Bytes)(d:Int)(q:aD)(k:Bytes):List Bytes×aD:=
 bif !F5 q||(!q.2.2.2.2.1||((k.length:Int) !=16)) then (m,q) else
 bif (aO l m d q.1).2.2&&(ek l m d q k (aO l m d q.1).1).2.2 then
  ((ek l m d q k (aO l m d q.1).1).1,(aO l m d q.1).2.1,(ek l m d q k (aO l m d q.1).1).2.1,q.2.2.1,adH,false,q.2.2.2.2.2)
 else (m,(aO l m d q.1).2.1,q.2.1,q.2.2.1,adH,false,IntKind.wrap .i64 (q.2.2.2.2.2+q.2.2.2.1.2.2))
theorem MG {l:List aw}{m:List Bytes}{d:Int}{r:Int×Int×Int×Int}(h:(aO l m d r).2.2=false):(aO l m d r).2.1=r:=by
 unfold aO at h⊢
 cases hc: !nB r||(oV r==0) with|true=>rfl|false=> ?_
 cases hd:(Ea l m d (tE r r.2.2.1) 16).2 with
 |false=>rfl
 |true=>rw [hc,hd] at h;cases h
theorem u5 {q:aD}(h:F5 q=true):cK q.2.1=true∧(q.2.2.2.2.1=true→cd q.2.2.2.1.1=true):=by
 unfold F5 at h
 simp only [Bool.and_eq_true] at h
 refine ⟨h.1.2.1,fun hh=> ?_⟩
 have h2:=h.2
 rw [hh] at h2
 simp only [cond_true,Bool.and_eq_true] at h2
 exact h2.1
theorem Hh (l:List aw)(m:List Bytes)(d:Int)(q:aD)(k:Bytes)(hl:l.length≤1000000000)(hm:m.length≤1000000000):kz l m d q k=some (dP l m d q k):=by
 have ht:=yG l m d q.1
 unfold kz dP
 simp only [Oy,ab,nf m (show m.length≤1073741824 by omega),AJ l m d q.1 hl hm,RV l m d q k _ hl hm (show (aO l m d q.1).1.length≤1000000000 by omega)]
 cases F5 q with|false=>rfl|true=> ?_
 cases q.2.2.2.2.1 with|false=>rfl|true=> ?_
 cases (k.length:Int) !=16 with|true=>rfl|false=> ?_
 simp only [Bool.not_true,cond_false,ab,Bool.or_self]
 cases (aO l m d q.1).2.2 with|false=>rfl|true=> ?_
 cases (ek l m d q k (aO l m d q.1).1).2.2<;>rfl
theorem GI (l:List aw)(m:List Bytes)(d:Int)(q:aD)(k:Bytes)(hl:l.length≤1000000000)(hm:m.length≤1000000000):jQ l m d q k=some (dP l m d q k):=by
 have ht:=yG l m d q.1
 have hno:=MG (l:=l) (m:=m) (d:=d) (r:=q.1)
 unfold jQ dP
 simp only [NM,ab,iW m (show m.length≤1073741824 by omega),Ja l m d q.1 hl hm]
 cases hr:F5 q with|false=>rfl|true=> ?_
 cases hh:q.2.2.2.2.1 with|false=>rfl|true=> ?_
 cases (k.length:Int) !=16 with|true=>rfl|false=> ?_
 obtain ⟨b,hb,hb2⟩:=Q6 l m d q k (aO l m d q.1).1 hl hm (by omega) ((u5 hr).2 hh)
 simp only [Bool.not_true,cond_false,ab,Bool.or_self,hb]
 generalize ek l m d q k (aO l m d q.1).1=s at hb hb2⊢
 cases hk:(aO l m d q.1).2.2 with|false=>rw [hno hk];rfl|true=> ?_
 cases b with
 |true=>cases hs:s.2.2<;>rfl
 |false=>rw [hb2 rfl];rfl
theorem GA {n:Nat}(hn:128≤n){l:List aw}{m:List Bytes}{d:Int}{q:aD}{k:Bytes}(z:aK n (.sl .str) m)(zq:aK n aG q):
 aK n (.sl .str) (dP l m d q k).1∧(dP l m d q k).1.length=m.length∧aK n aG (dP l m d q k).2∧(F5 q=true→cK (dP l m d q k).2.2.1=true∧(dP l m d q k).2.2.1.2.1=q.2.1.2.1):=by
 unfold dP
 cases hc: !F5 q||(!q.2.2.2.2.1||((k.length:Int) !=16)) with|true=>exact ⟨z,rfl,zq,fun h=>⟨(u5 h).1,rfl⟩⟩|false=> ?_
 simp only [Bool.or_eq_false_iff,Bool.not_eq_false'] at hc
 have hq:=(u5 hc.1).1
 have hs:=RY hn (l:=l) (d:=d) (k:=k) (s:=(aO l m d q.1).1) z hq
 have e0:aK n aG ((aO l m d q.1).2.1,(ek l m d q k (aO l m d q.1).1).2.1,q.2.2.1,adH,false,q.2.2.2.2.2):=
  ⟨⟨trivial,trivial,trivial,trivial⟩,⟨trivial,trivial,trivial⟩,⟨trivial,trivial,trivial⟩,⟨⟨trivial,trivial,trivial,trivial,trivial,trivial,trivial,trivial,trivial,trivial,trivial,trivial,trivial,trivial,trivial,Nat.zero_le _⟩,trivial,trivial⟩,trivial,trivial⟩
 cases (aO l m d q.1).2.2&&(ek l m d q k (aO l m d q.1).1).2.2 with
 |true=>exact ⟨hs.1,hs.2.1,e0,fun _=>⟨hs.2.2.1,hs.2.2.2.2⟩⟩
 |false=>exact ⟨z,rfl,⟨⟨trivial,trivial,trivial,trivial⟩,⟨trivial,trivial,trivial⟩,⟨trivial,trivial,trivial⟩,⟨⟨trivial,trivial,trivial,trivial,trivial,trivial,trivial,trivial,trivial,trivial,trivial,trivial,trivial,trivial,trivial,Nat.zero_le _⟩,trivial,trivial⟩,trivial,trivial⟩,fun _=>⟨hq,rfl⟩⟩
end
end Go.Pu
end
section
namespace Go.Pu
open Go.Dn
set_option linter.unusedSimpArgs false
set_option linter.unusedVariables false
noncomputable section
end
end Go.Pu
end
section
namespace Go.Pu
open Go.Dn
set_option linter.unusedSimpArgs false
set_option linter.unusedVariables false
noncomputable section
theorem GB {s:Bytes}{a:Nat}:bf s (a:Int)=bif decide (a+2≤s.length) then ((aQ s a*256+aQ s (a+1):Nat):Int) else-1:=by
 unfold bf bM
 rw [Int.toNat_natCast,show decide ((0:Int)≤a∧(a:Int)+2≤(s.length:Int))=decide (a+2≤s.length) from decide_eq_decide.2 (by omega)]
theorem K1 {s t:Bytes}{a:Nat}(hl:s.length=t.length)(h0:aQ s a=aQ t a)(h1:aQ s (a+1)=aQ t (a+1)):bf s (a:Int)=bf t (a:Int):=by
 rw [GB,GB,hl,h0,h1]
def rD (s:Bytes):Nat:=bif bf s 12==33024 then 18 else 14
def EK (s:Bytes):Nat:=aQ s (rD s+9)
def Xw (k:Nat):Nat:=bif (k:Int)==6 then 16 else 6
def OG (s:Bytes):Nat:=rD s+10
def Gd (s:Bytes):Nat:=rD s+20+Xw (EK s)
theorem Xx (k:Nat):Xw k=16∧k=6∨Xw k=6∧k≠6:=by
 unfold Xw
 by_cases h:k=6
 ·subst h;exact .inl ⟨rfl,rfl⟩
 ·exact .inr ⟨by rw [show ((k:Int)==6)=false from by rw [beq_eq_false_iff_ne];omega];rfl,h⟩
theorem Sj (s:Bytes):rD s=18∧(bf s 12==33024)=true∨rD s=14∧(bf s 12==33024)=false:=by
 unfold rD
 cases bf s 12==33024 with
 |true=>exact .inl ⟨rfl,rfl⟩
 |false=>exact .inr ⟨rfl,rfl⟩
def Gg (s t:Bytes):Prop:=s.length=t.length∧∀i,i<OG t∨(OG t+2≤i∧i<Gd t)∨Gd t+2≤i→aQ s i=aQ t i
theorem LZ (t:Bytes):(rD t=14∨rD t=18)∧OG t=rD t+10∧rD t+26≤Gd t∧Gd t≤rD t+36∧(Gd t=rD t+36∧EK t=6∨Gd t=rD t+26∧EK t≠6):=by
 have h1:=Sj t
 have h2:=Xx (EK t)
 unfold OG Gd
 omega
theorem Gg.body {s t:Bytes}(h:Gg s t):rD s=rD t:=by
 have:=LZ t
 unfold rD
 have e:bf s ((12:Nat):Int)=bf t ((12:Nat):Int):=K1 h.1 (h.2 _ (by omega)) (h.2 _ (by omega))
 rw [show (12:Int)=((12:Nat):Int) from rfl,e]
theorem Gg.kind {s t:Bytes}(h:Gg s t):EK s=EK t:=by
 have:=LZ t
 unfold EK
 rw [h.body,h.2 _ (by omega)]
theorem Gg.atH {s t:Bytes}(h:Gg s t):OG s=OG t∧Gd s=Gd t:=by
 unfold OG Gd
 rw [h.body,h.kind];exact ⟨rfl,rfl⟩
end
end Go.Pu
end
section
namespace Go.Pu
open Go.Dn
set_option linter.unusedSimpArgs false
set_option linter.unusedVariables false
noncomputable section
end
end Go.Pu
end
section
namespace Go.Pu
open Go.Dn
set_option linter.unusedSimpArgs false
set_option linter.unusedVariables false
noncomputable section
end
end Go.Pu
end
section
namespace Go.Pu
open Go.Dn
set_option linter.unusedSimpArgs false
set_option linter.unusedVariables false
noncomputable section
structure M0 (n:Nat) (h:Host):Prop where
 z:aK n ba h
 t:h.2.2.1.2.1.2.2.2.length+(bW h.2.2.1.2.2.1).length≤n
theorem M0.mono {n m:Nat}{h:Host}(k:M0 n h)(hn:n≤m):M0 m h:=⟨k.z.mono hn,Nat.le_trans k.t hn⟩
theorem M0.sz {n:Nat}{h:Host}(k:M0 n h)(hn:n≤1000000000):HF h:=by
 have z:aK 1000000000 ba h:=k.z.mono hn
 exact ⟨z.1.1,z.2.1.1,z.2.2.1.2.2.1.1,Nat.le_trans k.t hn,z.2.2.2.2.2.2.2.1.2.2.1,z.2.2.2.2.2.2.2.2.1.1.1,z.2.2.2.2.2.2.2.2.1.2.1.1,z.2.2.2.2.2.2.2.2.1.2.2.2.1,fun p hp=>(z.2.2.2.2.1.2 p hp).2.2.2.1⟩
theorem M0.of {h:Host}(k:dV ba h≤1048576):M0 1048576 h:=by
 refine ⟨ye k, ?_⟩
 have hb:=O0 h.2.2.1.2.2.1
 have h1:dV dw h.2.2.1≤dV ba h:=by simp only [dV];omega
 have hp:h.2.2.1.2.1.2.2.2.length+dV (.sl bJ) h.2.2.1.2.2.1≤dV dw h.2.2.1:=by simp only [dV];omega
 omega
theorem GU {n k:Nat}{t:CT}{l q:List t.D}(z:aK n (.sl t) l)(hq:∀y∈q,aK n t y)(hk:q.length≤k):aK (n+k) (.sl t) (l++q):=by
 refine ⟨?_,fun y hy=> ?_⟩
 ·show (l++q).length≤n+k
  have:=z.1
  rw [List.length_append];omega
 ·rcases List.mem_append.1 hy with h|h
  ·exact (z.2 y h).mono (by omega)
  ·exact (hq y h).mono (by omega)
end
end Go.Pu
end
section
namespace Go.Pu
open Go.Dn
set_option linter.unusedSimpArgs false
set_option linter.unusedVariables false
noncomputable section
def WM (k:Nat)(h:Host):Host:=
 match h.2.2.2.2.2.1[k]? with
 |some v=>(h.1,h.2.1,h.2.2.1,h.2.2.2.1,h.2.2.2.2.1,h.2.2.2.2.2.1.set k (evV v),h.2.2.2.2.2.2)
 |none=>h
def JY (k:Nat):Nat→Host→Host
 |0,h=>h
 |i+1,h=>WM k (JY k i h)
theorem SK (k:Nat)(h:Host):sK (k+1) h (WM k h):=by
 unfold WM
 cases h.2.2.2.2.2.1[k]? with
 |none=>exact sK.refl _ _
 |some v=>exact ⟨rfl,rfl,rfl,rfl,fun _ _=>rfl,rfl,List.length_set ..,fun j hj=>List.getElem?_set_ne (by omega),rfl,rfl,rfl⟩
theorem zH (k:Nat)(h:Host):∀i,sK (k+1) h (JY k i h)
 |0=>sK.refl _ _
 |i+1=>(zH k h i).trans (SK k _)
theorem WN {n:Nat}(k:Nat){h:Host}(z:aK n ba h):aK n ba (WM k h):=by
 unfold WM
 cases h.2.2.2.2.2.1[k]? with
 |none=>exact z
 |some v=>exact ⟨z.1,z.2.1,z.2.2.1,z.2.2.2.1,z.2.2.2.2.1,XM z.2.2.2.2.2.1,z.2.2.2.2.2.2⟩
theorem Pt {n:Nat}(k:Nat){h:Host}(z:aK n ba h):∀i,aK n ba (JY k i h)
 |0=>z
 |i+1=>WN k (Pt k z i)
theorem NC (h:Host)(k:Nat)(b:Int)(h1:k<h.2.2.2.1.length)(h2:k<h.2.2.2.2.2.1.length)(hq:cK h.2.2.2.1[k].2.1=true)(hb:0≤b∧b≤31):gD h (k:Int) b=some ((),JY k ((h.2.2.2.1[k].2.1.2.2-b)%(2*h.2.2.2.1[k].2.1.2.1)).toNat h):=by
 have hfu:=bQ
 have q:=mq hq
 unfold gD
 rw [ay h1,ab]
 generalize h.2.2.2.1[k]=x at q⊢
 rw [wrap64 (n:=x.2.1.2.2-b) (by omega) (by omega),wrap64 (n:=2*x.2.1.2.1) (by omega) (by omega),GY _ _ (by omega) (by omega),ab]
 have hm:0≤(x.2.1.2.2-b)%(2*x.2.1.2.1)∧(x.2.1.2.2-b)%(2*x.2.1.2.1)<32:=by
  have g1:=Int.emod_nonneg (x.2.1.2.2-b) (show 2*x.2.1.2.1≠0 by omega)
  have g2:=Int.emod_lt_of_pos (x.2.1.2.2-b) (show 0<2*x.2.1.2.1 by omega)
  omega
 generalize (x.2.1.2.2-b)%(2*x.2.1.2.1)=c at hm⊢
 obtain ⟨c,rfl⟩:=Int.eq_ofNat_of_zero_le hm.1
 rw [Int.toNat_natCast]
 have e0:((c:Int),h)=(((c:Int)-((0:Nat):Int)),JY k 0 h):=by simp [JY]
 rw [e0]
 refine bB (fun i=>((c:Int)-(i:Int),JY k i h)) c (by omega) (fun i nx hi=> ?_) (fun nx=> ?_)
 ·have kk:=zH k h i
  have i1:k<(JY k i h).2.2.2.2.2.1.length:=by rw [kk.vec];exact h2
  rw [show JY k (i+1) h=WM k (JY k i h) from rfl]
  generalize JY k i h=s at i1⊢
  simp only [jt,WM]
  rw [decide_eq_true (by omega),cond_true,List.getElem?_eq_getElem i1]
  simp only [ay i1,ab,QP,Int.toNat_natCast]
  rw [wrap64 (by omega) (by omega),show (c:Int)-(i:Int)-1=(c:Int)-((i+1:Nat):Int) by omega]
 ·simp only [jt]
  rw [decide_eq_false (by omega),cond_false]
theorem Oq (h:Host)(k:Nat)(b:Int)(h1:k<h.2.2.2.1.length)(h2:k<h.2.2.2.2.2.1.length)(hq:cK h.2.2.2.1[k].2.1=true)(hb:0≤b∧b≤31):g6 h (k:Int) b=some ((),JY k ((h.2.2.2.1[k].2.1.2.2-b)%(2*h.2.2.2.1[k].2.1.2.1)).toNat h):=by
 have hfu:=bQ
 have q:=mq hq
 unfold g6
 rw [ay h1,ab,ab]
 generalize h.2.2.2.1[k]=x at q⊢
 have em:IntKind.wrap .i64 (BitVec.toNat (BitVec.ofInt (IntKind.bits .i64) (x.2.1.2.2-b)&&&BitVec.ofInt (IntKind.bits .i64) (2*x.2.1.2.1-1)))=(x.2.1.2.2-b)%(2*x.2.1.2.1):=by
  have key:∀j:Nat,j<63→2*x.2.1.2.1=2^j→IntKind.wrap .i64 (BitVec.toNat (BitVec.ofInt (IntKind.bits .i64) (x.2.1.2.2-b)&&&BitVec.ofInt (IntKind.bits .i64) (2*x.2.1.2.1-1)))=(x.2.1.2.2-b)%(2*x.2.1.2.1):=by
   intro j hj e
   have:=wS (x.2.1.2.2-b) j hj
   rw [←e] at this
   rw [this]
   have g1:=Int.emod_nonneg (x.2.1.2.2-b) (show 2*x.2.1.2.1≠0 by omega)
   have g2:=Int.emod_lt_of_pos (x.2.1.2.2-b) (show 0<2*x.2.1.2.1 by omega)
   exact wrap64 (by omega) (by omega)
  rcases q.2.2.1 with e|e|e|e
  ·exact key 2 (by omega) (by rw [e];rfl)
  ·exact key 3 (by omega) (by rw [e];rfl)
  ·exact key 4 (by omega) (by rw [e];rfl)
  ·exact key 5 (by omega) (by rw [e];rfl)
 rw [wrap64 (n:=x.2.1.2.2-b) (by omega) (by omega),wrap64 (n:=2*x.2.1.2.1) (by omega) (by omega),wrap64 (n:=2*x.2.1.2.1-1) (by omega) (by omega),em]
 have hm:0≤(x.2.1.2.2-b)%(2*x.2.1.2.1)∧(x.2.1.2.2-b)%(2*x.2.1.2.1)<32:=by
  have g1:=Int.emod_nonneg (x.2.1.2.2-b) (show 2*x.2.1.2.1≠0 by omega)
  have g2:=Int.emod_lt_of_pos (x.2.1.2.2-b) (show 0<2*x.2.1.2.1 by omega)
  omega
 generalize (x.2.1.2.2-b)%(2*x.2.1.2.1)=c at hm⊢
 obtain ⟨c,rfl⟩:=Int.eq_ofNat_of_zero_le hm.1
 rw [Int.toNat_natCast]
 refine bB (fun i=>((i:Int),JY k i h)) c (by omega) (fun i nx hi=> ?_) (fun nx=> ?_)
 ·have kk:=zH k h i
  have i1:k<(JY k i h).2.2.2.2.2.1.length:=by rw [kk.vec];exact h2
  rw [show JY k (i+1) h=WM k (JY k i h) from rfl]
  generalize JY k i h=s at i1⊢
  simp only [jG,WM]
  rw [decide_eq_true (by omega),cond_true,List.getElem?_eq_getElem i1]
  simp only [ay i1,ab,RK,Int.toNat_natCast]
  rw [wrap64 (by omega) (by omega)];rfl
 ·simp only [jG]
  rw [decide_eq_false (by omega),cond_false]
def B4 (h:Host)(k:Nat)(f:List Bytes×aD):Host:=(f.1,h.2.1,h.2.2.1,h.2.2.2.1.set k f.2,h.2.2.2.2)
def FE (h:Host)(k:Nat)(b:Int)(f:List Bytes×aD):Host:=JY k ((f.2.2.1.2.2-b)%(2*f.2.2.1.2.1)).toNat (B4 h k f)
theorem MT {h:Host}{k:Nat}{b:Int}{f:List Bytes×aD}(hf:f.1.length=h.1.length):sK (k+1) h (FE h k b f):=by
 have a:sK (k+1) h (B4 h k f):=⟨hf,rfl,rfl,List.length_set ..,fun j hj=>List.getElem?_set_ne (by omega),rfl,rfl,fun _ _=>rfl,rfl,rfl,rfl⟩
 exact a.trans (zH k (B4 h k f) _)
theorem OS {n:Nat}{h:Host}{k:Nat}{b:Int}{f:List Bytes×aD}(z:aK n ba h)(h1:aK n (.sl .str) f.1)(h2:aK n aG f.2):aK n ba (FE h k b f):=by
 have a:aK n ba (B4 h k f):=⟨h1,z.2.1,z.2.2.1,EL z.2.2.2.1 h2,z.2.2.2.2⟩
 exact Pt k a _
theorem KX {l:List aw}{m:List Bytes}{d:Int}{q:aD}{k:Bytes}:(dP l m d q k).1.length=m.length:=by
 have hs:(ek l m d q k (aO l m d q.1).1).1.length=m.length:=by
  unfold ek
  cases !(bI (aO l m d q.1).1).2||(((bI (aO l m d q.1).1).1.1 !=3)||decide ((bI (aO l m d q.1).1).1.2.2.1<((cn q.2.2.2.1.1).1.length:Int))) with|true=>rfl|false=> ?_
  cases (nE l m d (bI (aO l m d q.1).1).1.2.2.2.1 (cn q.2.2.2.1.1).1 true).2 with|false=>rfl|true=> ?_
  have h2:=uZ l m d (bI (aO l m d q.1).1).1.2.2.2.1 (cn q.2.2.2.1.1).1 true
  simp only [cond_false,Bool.not_true]
  unfold uY
  cases !cK q.2.1|| !sM ((bI (aO l m d q.1).1).1.2.2.2.2.2,((cn q.2.2.2.1.1).1.length:Int),q.2.2.2.1.2.1,q.2.2.2.1.2.2,nK k (jO (jh q.2.2.2.1.1))) with|true=>exact h2|false=> ?_
  cases (nE l (nE l m d (bI (aO l m d q.1).1).1.2.2.2.1 (cn q.2.2.2.1.1).1 true).1 d (tF q.2.1) (FN ((bI (aO l m d q.1).1).1.2.2.2.2.2,((cn q.2.2.2.1.1).1.length:Int),q.2.2.2.1.2.1,q.2.2.2.1.2.2,nK k (jO (jh q.2.2.2.1.1))) (tu q.2.1)) true).2 with
  |false=>exact h2
  |true=>exact (uZ ..).trans h2
 unfold dP
 cases !F5 q||(!q.2.2.2.2.1||((k.length:Int) !=16)) with|true=>rfl|false=> ?_
 cases (aO l m d q.1).2.2&&(ek l m d q k (aO l m d q.1).1).2.2 with
 |true=>exact hs
 |false=>rfl
theorem yV {h:Host}(hb:rE h=true):∀i (hi:i<h.2.2.2.1.length),F5 h.2.2.2.1[i]=true:=by
 simp only [rE,Mc,Bool.and_eq_true] at hb
 exact fun i hi=>List.all_eq_true.1 hb.2.2.2.2.2.2.1.1 _ (List.getElem_mem hi)
theorem Cl {h:Host}{k:Nat}{b:Int}{f:List Bytes×aD}(h1:k<h.2.2.2.1.length)(h2:k<h.2.2.2.2.2.1.length)(hq:cK f.2.2.1=true)(hb:0≤b∧b≤31):
 gD (f.1,h.2.1,h.2.2.1,h.2.2.2.1.set k f.2,h.2.2.2.2) (k:Int) b=some ((),FE h k b f)∧g6 (f.1,h.2.1,h.2.2.1,h.2.2.2.1.set k f.2,h.2.2.2.2) (k:Int) b=some ((),FE h k b f):=by
 have h3:k<(B4 h k f).2.2.2.1.length:=by show k<(h.2.2.2.1.set k f.2).length;rw [List.length_set];exact h1
 have e:(B4 h k f).2.2.2.1[k]=f.2:=List.getElem_set_self _
 have a:=NC (B4 h k f) k b h3 h2 (by rw [e];exact hq) hb
 have c:=Oq (B4 h k f) k b h3 h2 (by rw [e];exact hq) hb
 rw [e] at a c
 exact ⟨a,c⟩
end
end Go.Pu
end
section
namespace Go.Pu
open Go.Dn
set_option linter.unusedSimpArgs false
set_option linter.unusedVariables false
noncomputable section
def G4 (a b:ax):Bool:=(mz a b).getD false
theorem Ue (a b:ax):mz a b=some (G4 a b):=rfl
theorem Tf (a b:ax):p6 a b=some (G4 a b):=by
 unfold p6 G4 mz
 simp only [beq_self_eq_true,Option.getD_some]
def adF (s:dY)(p:ax):Bool:=(p.2.2.2.2.2.2.2.2.2.2.2.1==Int.tmod (IntKind.wrap .i64 (s.1.2.2.2.2.2.2.2.2.2.2.2.1+(s.1.2.2.2.2.2.2.2.2.2.2.2.2.2.2.2.length:Int))) 4294967296)&&(p.2.2.2.2.1==Int.tmod (IntKind.wrap .i64 (s.1.2.2.2.2.1+s.2.2)) 65536)
def Hd (s:dY)(p:ax):Bool:=decide (1≤s.2.1)&&(bc s.2.2 1 320&&(decide ((s.1.2.2.2.2.2.2.2.2.2.2.2.2.2.2.2.length:Int)=s.2.1*s.2.2)&&(bc (p.2.2.2.2.2.2.2.2.2.2.2.2.2.2.2.length:Int) 1 s.2.1&&decide ((s.1.2.2.2.2.2.2.2.2.2.2.2.2.2.2.2.length:Int)+(p.2.2.2.2.2.2.2.2.2.2.2.2.2.2.2.length:Int)≤320))))
def S0 (s:dY)(p:ax):Bool:=cd s.1&&(cA p&&(G4 s.1 p&&((p.2.2.2.2.2.2.2.2.1==6)&&((s.1.2.2.2.2.2.2.2.2.2.2.2.2.2.1==16)&&w3 p.2.2.2.2.2.2.2.2.2.2.2.2.2.1))))
def Cn (s:dY)(p:ax):Bool:=S0 s p&&(Hd s p&&adF s p)
theorem Ap {p:ax}(h:cA p=true)(h6:(p.2.2.2.2.2.2.2.2.1==6)=true):bc p.2.2.2.2.2.2.2.2.2.2.2.2.2.1 0 31=true:=by
 simp only [cA,cd,Bool.and_eq_true] at h
 exact BJ (zP h.1.1) h6
theorem ze {p:ax}(h:cA p=true):p.2.2.2.2.2.2.2.2.2.2.2.2.2.2.2.length≤128:=by
 simp only [cA,Bool.and_eq_true,decide_eq_true_eq] at h
 omega
theorem JC (s:dY)(p:ax):oX s p=some (Cn s p):=by
 unfold oX Cn S0
 rw [ll,ab,wc,ab,Ue,ab]
 cases hs:cd s.1 with|false=>rfl|true=> ?_
 cases hp:cA p with|false=>rfl|true=> ?_
 cases G4 s.1 p with|false=>rfl|true=> ?_
 cases h6:p.2.2.2.2.2.2.2.2.1==6 with|false=>simp only [bne,h6];rfl|true=> ?_
 cases h16:s.1.2.2.2.2.2.2.2.2.2.2.2.2.2.1==16 with|false=>simp only [bne,h6,h16];rfl|true=> ?_
 have hf:=Ap hp h6
 have hsl:=Fp hs
 have hpl:=ze hp
 simp only [bne,h6,h16,Bool.not_true,cond_false,ab,El _ hf,Bool.true_and]
 cases w3 p.2.2.2.2.2.2.2.2.2.2.2.2.2.1 with|false=>rfl|true=> ?_
 simp only [Bool.not_true,cond_false,aU,ab,Bool.true_and,az]
 have hsz:(bif !bc s.2.1 1 320 then some true else bif !bc s.2.2 1 320 then some true else bif !((s.1.2.2.2.2.2.2.2.2.2.2.2.2.2.2.2.length:Int)==IntKind.wrap .i64 (s.2.1*s.2.2)) then some true else bif !bc (p.2.2.2.2.2.2.2.2.2.2.2.2.2.2.2.length:Int) 1 s.2.1 then some true else some (decide (IntKind.wrap .i64 ((s.1.2.2.2.2.2.2.2.2.2.2.2.2.2.2.2.length:Int)+(p.2.2.2.2.2.2.2.2.2.2.2.2.2.2.2.length:Int))>320)))=some (!Hd s p):=by
  unfold Hd
  generalize s.1.2.2.2.2.2.2.2.2.2.2.2.2.2.2.2.length=n at hsl⊢
  generalize p.2.2.2.2.2.2.2.2.2.2.2.2.2.2.2.length=m at hpl⊢
  rw [wrap64 (n:=(n:Int)+(m:Int)) (by omega) (by omega)]
  cases h2:bc s.2.2 1 320 with
  |false=>cases bc s.2.1 1 320<;>cases decide (1≤s.2.1)<;>rfl
  |true=>
   have h2':=aR.1 h2
   by_cases h1:1≤s.2.1
   ·rw [decide_eq_true h1]
    by_cases h3:s.2.1≤320
    ·have hb:s.2.1*s.2.2≤320*320:=Int.mul_le_mul h3 h2'.2 (by omega) (by omega)
     have hb0:0≤s.2.1*s.2.2:=Int.mul_nonneg (by omega) (by omega)
     rw [aR.2 ⟨h1,h3⟩,wrap64 (n:=s.2.1*s.2.2) (by omega) (by omega)]
     by_cases h4:(n:Int)=s.2.1*s.2.2
     ·rw [show ((n:Int)==s.2.1*s.2.2)=true from by rw [beq_iff_eq];exact h4,decide_eq_true h4]
      cases bc (m:Int) 1 s.2.1 with
      |false=>rfl
      |true=>
       by_cases h5:(n:Int)+(m:Int)≤320
       ·rw [decide_eq_true h5,decide_eq_false (show¬(n:Int)+(m:Int)>320 by omega)];rfl
       ·rw [decide_eq_false h5,decide_eq_true (show (n:Int)+(m:Int)>320 by omega)];rfl
     ·rw [show ((n:Int)==s.2.1*s.2.2)=false from by rw [beq_eq_false_iff_ne];exact h4,decide_eq_false h4];rfl
    ·have hb:321*1≤s.2.1*s.2.2:=Int.mul_le_mul (by omega) (by omega) (by omega) (by omega)
     rw [show bc s.2.1 1 320=false from by rw [Bool.eq_false_iff];intro hc;have:=aR.1 hc;omega,decide_eq_false (show¬(n:Int)=s.2.1*s.2.2 by omega)];rfl
   ·rw [decide_eq_false h1,show bc s.2.1 1 320=false from by rw [Bool.eq_false_iff];intro hc;have:=aR.1 hc;omega];rfl
 simp only [bne,az] at hsz⊢
 rw [Option.some.inj hsz]
 cases Hd s p with|false=>rfl|true=> ?_
 rw [if_neg (by omega),if_neg (by omega)]
 simp only [Bool.not_true,cond_false,az,ab,cF,Bool.true_and];rfl
theorem PB (s:dY)(p:ax):nM s p=some (Cn s p):=by
 unfold nM Cn S0
 rw [kJ,ab,sT,ab,Tf,ab]
 cases hs:cd s.1 with|false=>rfl|true=> ?_
 cases hp:cA p with|false=>rfl|true=> ?_
 cases G4 s.1 p with|false=>rfl|true=> ?_
 cases h6:p.2.2.2.2.2.2.2.2.1==6 with|false=>simp only [bne,h6];rfl|true=> ?_
 cases h16:s.1.2.2.2.2.2.2.2.2.2.2.2.2.2.1==16 with|false=>simp only [bne,h6,h16];rfl|true=> ?_
 have hf:=Ap hp h6
 have hsl:=Fp hs
 have hpl:=ze hp
 simp only [bne,h6,h16,Bool.not_true,cond_false,ab,Ek _ hf,Bool.true_and]
 cases w3 p.2.2.2.2.2.2.2.2.2.2.2.2.2.1 with|false=>rfl|true=> ?_
 simp only [Bool.not_true,cond_false,bg,ab,Bool.true_and]
 rw [if_neg (show¬(4294967296:Nat)=0 by omega),if_neg (show¬(65536:Nat)=0 by omega)]
 simp only [az,cF]
 rw [show ((p.2.2.2.2.2.2.2.2.2.2.2.1==Int.tmod (IntKind.wrap .i64 (s.1.2.2.2.2.2.2.2.2.2.2.2.1+(s.1.2.2.2.2.2.2.2.2.2.2.2.2.2.2.2.length:Int))) 4294967296)&&(p.2.2.2.2.1==Int.tmod (IntKind.wrap .i64 (s.1.2.2.2.2.1+s.2.2)) 65536))=adF s p from rfl]
 unfold Hd
 generalize adF s p=q
 generalize s.1.2.2.2.2.2.2.2.2.2.2.2.2.2.2.2.length=n at hsl⊢
 generalize p.2.2.2.2.2.2.2.2.2.2.2.2.2.2.2.length=m at hpl⊢
 rw [wrap64 (n:=(n:Int)+(m:Int)) (by omega) (by omega)]
 by_cases h1:s.2.1<1
 ·rw [decide_eq_true h1,decide_eq_false (show¬1≤s.2.1 by omega)];rfl
 rw [decide_eq_false h1,decide_eq_true (show 1≤s.2.1 by omega)]
 cases h2:bc s.2.2 1 320 with|false=>rfl|true=> ?_
 have h2':=aR.1 h2
 simp only [Bool.not_true,cond_false,ab,Bool.true_and]
 rw [if_neg (by omega),if_neg (by omega)]
 have e1:Int.tmod (n:Int) s.2.2=(n:Int)%s.2.2:=Int.tmod_eq_emod_of_nonneg (by omega)
 have e2:Int.tdiv (n:Int) s.2.2=(n:Int)/s.2.2:=Int.tdiv_eq_ediv_of_nonneg (by omega)
 have hdm:=Int.emod_add_mul_ediv (n:Int) s.2.2
 have hq0:0≤(n:Int)/s.2.2:=Int.ediv_nonneg (by omega) (by omega)
 have hq1:(n:Int)/s.2.2≤(n:Int):=Int.ediv_le_self _ (by omega)
 rw [e1,e2,wrap64 (n:=(n:Int)/s.2.2) (by omega) (by omega)]
 by_cases h3:(n:Int)=s.2.1*s.2.2
 ·have h4:(n:Int)%s.2.2=0:=by rw [h3];exact Int.mul_emod_left ..
  have h5:(n:Int)/s.2.2=s.2.1:=by rw [h3];exact Int.mul_ediv_cancel _ (by omega)
  rw [h4,h5,decide_eq_true h3]
  simp only [beq_self_eq_true,Bool.not_true,cond_false,ab,Bool.true_and]
  cases bc (m:Int) 1 s.2.1 with|false=>rfl|true=> ?_
  cases decide ((n:Int)+(m:Int)≤320)<;>rfl
 ·rw [decide_eq_false h3]
  cases h4:(n:Int)%s.2.2==0 with
  |false=>rfl
  |true=>
   have h4':(n:Int)%s.2.2=0:=by simpa using h4
   have h5:((n:Int)/s.2.2==s.2.1)=false:=by
    rw [beq_eq_false_iff_ne]
    intro h5
    rw [h4',h5] at hdm
    exact h3 (by rw [Int.mul_comm];omega)
   simp only [Bool.not_true,cond_false,h5,Bool.not_false,ab,cond_true];rfl
end
end Go.Pu
end
section
namespace Go.Pu
open Go.Dn
set_option linter.unusedSimpArgs false
set_option linter.unusedVariables false
noncomputable section
def Lt (s:dY)(p:ax):dY:=bif Cn s p then ((s.1.1,s.1.2.1,s.1.2.2.1,s.1.2.2.2.1,s.1.2.2.2.2.1,s.1.2.2.2.2.2.1,s.1.2.2.2.2.2.2.1,s.1.2.2.2.2.2.2.2.1,s.1.2.2.2.2.2.2.2.2.1,s.1.2.2.2.2.2.2.2.2.2.1,s.1.2.2.2.2.2.2.2.2.2.2.1,s.1.2.2.2.2.2.2.2.2.2.2.2.1,s.1.2.2.2.2.2.2.2.2.2.2.2.2.1,p.2.2.2.2.2.2.2.2.2.2.2.2.2.1,s.1.2.2.2.2.2.2.2.2.2.2.2.2.2.2.1,s.1.2.2.2.2.2.2.2.2.2.2.2.2.2.2.2++p.2.2.2.2.2.2.2.2.2.2.2.2.2.2.2),s.2.1,IntKind.wrap .i64 (s.2.2+1)) else s
theorem O1 {s:dY}{p:ax}(h:Cn s p=true):s.1.2.2.2.2.2.2.2.2.2.2.2.2.2.2.2.length+p.2.2.2.2.2.2.2.2.2.2.2.2.2.2.2.length≤320:=by
 simp only [Cn,Hd,Bool.and_eq_true,decide_eq_true_eq] at h
 have:=h.2.1.2.2.2.2
 omega
theorem Mq (s:dY)(p:ax):u6 s p=some (Lt s p):=by
 unfold u6 Lt
 rw [JC,ab]
 cases h:Cn s p with|false=>rfl|true=> ?_
 have:=O1 h
 simp only [Bool.not_true,cond_false,cond_true]
 rw [aq (by omega)]
theorem Tc (s:dY)(p:ax):xN s p=some (Lt s p):=by
 rw [←Mq]
 unfold xN u6
 rw [PB,JC]
def singleR (p:ax):dY:=(p,(p.2.2.2.2.2.2.2.2.2.2.2.2.2.2.2.length:Int),1)
theorem NN (p:ax):xa p=some (singleR p):=rfl
theorem Oz (p:ax):xt p=some (singleR p):=rfl
def Eu (q:aD)(s:dY):aD:=(q.1,q.2.1,q.2.2.1,s,true,q.2.2.2.2.2)
def fi (l:List aw)(m:List Bytes)(d:Int)(q:aD)(k:Bytes)(p:ax)(c:Bool):List Bytes×aD:=
 bif !F5 q||(!cA p||((k.length:Int) !=16)) then (m,q) else
 bif c&&(q.2.2.2.2.1&&Cn q.2.2.2.1 p) then (m,q.1,q.2.1,q.2.2.1,Lt q.2.2.2.1 p,q.2.2.2.2) else
 bif c then ((dP l m d q k).1,Eu (dP l m d q k).2 (singleR p)) else dP l (dP l m d q k).1 d (Eu (dP l m d q k).2 (singleR p)) k
theorem ND (l:List aw)(m:List Bytes)(d:Int)(q:aD)(k:Bytes)(p:ax)(c:Bool)(hl:l.length≤1000000000)(hm:m.length≤1000000000):ic l m d q k p c=some (fi l m d q k p c):=by
 unfold ic fi Eu
 simp only [NM,sT,ab,iW m (show m.length≤1073741824 by omega),PB,Tc,GI l m d q k hl hm,NN,GI l (dP l m d q k).1 d _ k hl (show (dP l m d q k).1.length≤1000000000 by rw [KX];exact hm)]
 cases F5 q with|false=>rfl|true=> ?_
 cases cA p with|false=>rfl|true=> ?_
 cases (k.length:Int) !=16 with|true=>rfl|false=> ?_
 cases c with|false=>rfl|true=> ?_
 cases q.2.2.2.2.1 with|false=>rfl|true=> ?_
 cases Cn q.2.2.2.1 p<;>rfl
theorem Ot (l:List aw)(m:List Bytes)(d:Int)(q:aD)(k:Bytes)(p:ax)(c:Bool)(hl:l.length≤1000000000)(hm:m.length≤1000000000):iu l m d q k p c=some (fi l m d q k p c):=by
 unfold iu fi Eu
 simp only [Oy,wc,ab,nf m (show m.length≤1073741824 by omega),JC,Mq,Hh l m d q k hl hm,Oz,Hh l (dP l m d q k).1 d _ k hl (show (dP l m d q k).1.length≤1000000000 by rw [KX];exact hm)]
 cases F5 q with|false=>rfl|true=> ?_
 cases cA p with|false=>rfl|true=> ?_
 cases (k.length:Int) !=16 with|true=>rfl|false=> ?_
 cases c with|false=>rfl|true=> ?_
 cases q.2.2.2.2.1 with|false=>rfl|true=> ?_
 cases Cn q.2.2.2.1 p<;>rfl
theorem KY {l:List aw}{m:List Bytes}{d:Int}{q:aD}{k:Bytes}(h:cK q.2.1=true):cK (dP l m d q k).2.2.1=true:=by
 unfold dP
 cases !F5 q||(!q.2.2.2.2.1||((k.length:Int) !=16)) with|true=>exact h|false=> ?_
 have hs:cK (ek l m d q k (aO l m d q.1).1).2.1=true:=by
  unfold ek
  cases !(bI (aO l m d q.1).1).2||(((bI (aO l m d q.1).1).1.1 !=3)||decide ((bI (aO l m d q.1).1).1.2.2.1<((cn q.2.2.2.1.1).1.length:Int))) with|true=>exact h|false=> ?_
  cases (nE l m d (bI (aO l m d q.1).1).1.2.2.2.1 (cn q.2.2.2.1.1).1 true).2 with|false=>exact h|true=> ?_
  exact (P0 h).1
 cases (aO l m d q.1).2.2&&(ek l m d q k (aO l m d q.1).1).2.2 with
 |true=>exact hs
 |false=>exact h
theorem QO {n:Nat}{q:aD}{s:dY}(h:s.1.2.2.2.2.2.2.2.2.2.2.2.2.2.2.2.length≤n):aK n aG (Eu q s):=
 ⟨⟨trivial,trivial,trivial,trivial⟩,⟨trivial,trivial,trivial⟩,⟨trivial,trivial,trivial⟩,⟨⟨trivial,trivial,trivial,trivial,trivial,trivial,trivial,trivial,trivial,trivial,trivial,trivial,trivial,trivial,trivial,h⟩,trivial,trivial⟩,trivial,trivial⟩
theorem yM {n:Nat}(hn:1000≤n){l:List aw}{m:List Bytes}{d:Int}{q:aD}{k:Bytes}{p:ax}{c:Bool}(z:aK n (.sl .str) m)(zq:aK n aG q)(hq:cK q.2.1=true):
 aK n (.sl .str) (fi l m d q k p c).1∧(fi l m d q k p c).1.length=m.length∧aK n aG (fi l m d q k p c).2∧cK (fi l m d q k p c).2.2.1=true:=by
 unfold fi
 cases hc: !F5 q||(!cA p||((k.length:Int) !=16)) with|true=>exact ⟨z,rfl,zq,hq⟩|false=> ?_
 simp only [Bool.or_eq_false_iff,Bool.not_eq_false'] at hc
 have hp:=ze hc.2.1
 cases hj:c&&(q.2.2.2.2.1&&Cn q.2.2.2.1 p) with
 |true=>
  simp only [Bool.and_eq_true] at hj
  have:=O1 hj.2.2
  refine ⟨z,rfl,⟨⟨trivial,trivial,trivial,trivial⟩,⟨trivial,trivial,trivial⟩,⟨trivial,trivial,trivial⟩,⟨?_,trivial,trivial⟩,trivial,trivial⟩,hq⟩
  refine ⟨trivial,trivial,trivial,trivial,trivial,trivial,trivial,trivial,trivial,trivial,trivial,trivial,trivial,trivial,trivial, ?_⟩
  unfold Lt
  rw [hj.2.2]
  show List.length (q.2.2.2.1.1.2.2.2.2.2.2.2.2.2.2.2.2.2.2.2++p.2.2.2.2.2.2.2.2.2.2.2.2.2.2.2)≤n
  rw [List.length_append];omega
 |false=>
  have hf:=GA (show 128≤n by omega) (l:=l) (d:=d) (k:=k) z zq
  have hfq:=KY (l:=l) (m:=m) (d:=d) (k:=k) hq
  have hh:aK n aG (Eu (dP l m d q k).2 (singleR p)):=QO (by show p.2.2.2.2.2.2.2.2.2.2.2.2.2.2.2.length≤n;omega)
  cases c with
  |true=>exact ⟨hf.1,hf.2.1,hh,hfq⟩
  |false=>
   have hf2:=GA (show 128≤n by omega) (l:=l) (d:=d) (k:=k) hf.1 hh
   exact ⟨hf2.1,hf2.2.1.trans hf.2.1,hf2.2.2.1,KY (q:=Eu (dP l m d q k).2 (singleR p)) hfq⟩
theorem Me {r:cf}(h:tB r=true):0≤r.2.2.2.2.2.2.2.2:=by
 by_cases h0:0≤r.2.2.2.2.2.2.2.2
 ·exact h0
 ·exfalso
  have e:∀b:Int,bc r.2.2.2.2.2.2.2.2 0 b=false:=fun b=>by rw [Bool.eq_false_iff];intro hc;have:=aR.1 hc;omega
  have e1:(r.2.2.2.2.2.2.2.2==0)=false:=by rw [beq_eq_false_iff_ne];omega
  revert h
  unfold tB
  have z:∀c:Bool,(bif c then false else false)=false:=by intro c;cases c<;>rfl
  simp only [eA,aU,ab,az,e,e1,Option.getD_some,z,cond_false]
  intro h
  cases h
theorem Hr {s:bG}{q:Int}{p:ax}:pM s q p= -1∨∃n:Nat,pM s q p=(n:Int)∧(n:Int)<q:=by
 unfold pM
 cases hb: !dm s q|| !cd p with|true=>exact .inl rfl|false=> ?_
 simp only [Bool.or_eq_false_iff,Bool.not_eq_false'] at hb
 have hs:=hb.1
 simp only [dm,Bool.and_eq_true] at hs
 simp only [cond_false]
 cases hd:decide (uO s.1 p≥0) with
 |true=>
  obtain ⟨n,hn,hl⟩:=Ej s.1 p (of_decide_eq_true hd)
  simp only [cond_true,hn,Int.toNat_natCast,aM hl]
  cases s.1[n].2.2.2.2.2.2.2.1==1 with
  |true=>exact .inl rfl
  |false=>
   have h1:=List.all_eq_true.1 hs.1.2 _ (List.getElem_mem hl)
   have h2:=hs.1.1.1.1
   simp only [rz,Bool.and_eq_true] at h2
   have h3:=Me (List.all_eq_true.1 h2.1 _ (List.getElem_mem hl))
   simp only [Bool.not_eq_true',decide_eq_false_iff_not] at h1
   exact .inr ⟨s.1[n].2.2.2.2.2.2.2.2.toNat,by simp only [cond_false];omega,by omega⟩
 |false=>
  simp only [cond_false]
  cases hd2:decide (findF s.2.1 (jh p)≥0) with
  |true=>
   obtain ⟨n,hn,hl⟩:=Ei s.2.1 (jh p) (of_decide_eq_true hd2)
   simp only [cond_true,hn,Int.toNat_natCast,aM hl]
   have h1:=List.all_eq_true.1 hs.2 _ (List.getElem_mem hl)
   have h2:=hs.1.1.1.2
   simp only [kF,Bool.and_eq_true,beq_iff_eq] at h2
   have h3:=List.all_eq_true.1 h2.2 n (List.mem_range.2 (by omega))
   unfold gX He at h3
   rw [pJ hl] at h3
   simp only [Bool.and_eq_true,aR] at h3
   simp only [Bool.not_eq_true',decide_eq_false_iff_not] at h1
   exact .inr ⟨s.2.1[n].2.2.toNat,by omega,by omega⟩
  |false=>
   simp only [cond_false]
   unfold yb
   cases hc: !m8 s.2.2 q||decide (rf s.2.2 (jh p)<0) with|true=>exact .inl rfl|false=> ?_
   simp only [Bool.or_eq_false_iff,Bool.not_eq_false',decide_eq_false_iff_not] at hc
   obtain ⟨n,hn,hl⟩:=Bg s.2.2 (jh p) hc.2
   have h1:=hc.1
   simp only [m8,Bool.and_eq_true] at h1
   have h2:=aR.1 (List.all_eq_true.1 h1.2 _ (List.getElem_mem hl))
   simp only [cond_false,hn,Int.toNat_natCast,aM hl]
   exact .inr ⟨s.2.2.2[n].toNat,by omega,by omega⟩
def wV (h:Host)(a b c d:Int):Host:=(h.1,h.2.1,h.2.2.1,h.2.2.2.1,h.2.2.2.2.1,h.2.2.2.2.2.1,h.2.2.2.2.2.2.1,h.2.2.2.2.2.2.2.1,h.2.2.2.2.2.2.2.2.1,h.2.2.2.2.2.2.2.2.2.1,h.2.2.2.2.2.2.2.2.2.2.1,h.2.2.2.2.2.2.2.2.2.2.2.1,h.2.2.2.2.2.2.2.2.2.2.2.2.1,h.2.2.2.2.2.2.2.2.2.2.2.2.2.1,IntKind.wrap .i64 (h.2.2.2.2.2.2.2.2.2.2.2.2.2.2.1+1),a,b,c,d)
def oU (h:Host)(x:Bytes):Host:=
 bif !rE h then h else
 bif (lK x).2 !=0 then wV h (IntKind.wrap .i64 (h.2.2.2.2.2.2.2.2.2.2.2.2.2.2.2.1+1)) h.2.2.2.2.2.2.2.2.2.2.2.2.2.2.2.2.1 h.2.2.2.2.2.2.2.2.2.2.2.2.2.2.2.2.2.1 h.2.2.2.2.2.2.2.2.2.2.2.2.2.2.2.2.2.2 else
 bif !qC h.2.2.2.2.2.2.2.1 (lK x).1 then wV h h.2.2.2.2.2.2.2.2.2.2.2.2.2.2.2.1 (IntKind.wrap .i64 (h.2.2.2.2.2.2.2.2.2.2.2.2.2.2.2.2.1+1)) h.2.2.2.2.2.2.2.2.2.2.2.2.2.2.2.2.2.1 h.2.2.2.2.2.2.2.2.2.2.2.2.2.2.2.2.2.2 else
 bif pM h.2.2.2.2.2.2.2.2.1 (h.2.2.2.1.length:Int) (lK x).1== -1 then wV h h.2.2.2.2.2.2.2.2.2.2.2.2.2.2.2.1 h.2.2.2.2.2.2.2.2.2.2.2.2.2.2.2.2.1 (IntKind.wrap .i64 (h.2.2.2.2.2.2.2.2.2.2.2.2.2.2.2.2.2.1+1)) h.2.2.2.2.2.2.2.2.2.2.2.2.2.2.2.2.2.2 else
 match h.2.2.2.1[(pM h.2.2.2.2.2.2.2.2.1 (h.2.2.2.1.length:Int) (lK x).1).toNat]? with
 |some q=>FE (wV h h.2.2.2.2.2.2.2.2.2.2.2.2.2.2.2.1 h.2.2.2.2.2.2.2.2.2.2.2.2.2.2.2.2.1 h.2.2.2.2.2.2.2.2.2.2.2.2.2.2.2.2.2.1 (IntKind.wrap .i64 (h.2.2.2.2.2.2.2.2.2.2.2.2.2.2.2.2.2.2+1))) (pM h.2.2.2.2.2.2.2.2.1 (h.2.2.2.1.length:Int) (lK x).1).toNat q.2.1.2.2 (fi h.2.1 h.1 0 q h.2.2.2.2.2.2.2.2.1.2.2.1 (lK x).1 h.2.2.2.2.2.2.2.2.2.2.1)
 |none=>h
theorem I9 (h:Host)(x:Bytes)(k:M0 900000000 h)(hx:x.length≤1000000000):kN h x=some (oU h x):=by
 have z:=k.z
 have z1:h.1.length≤900000000:=z.1.1
 have z2:h.2.1.length≤900000000:=z.2.1.1
 have zf:h.2.2.2.2.2.2.2.1.2.2.length≤900000000:=z.2.2.2.2.2.2.2.1.2.2.1
 have s1:h.2.2.2.2.2.2.2.2.1.1.length≤900000000:=z.2.2.2.2.2.2.2.2.1.1.1
 have s2:h.2.2.2.2.2.2.2.2.1.2.1.length≤900000000:=z.2.2.2.2.2.2.2.2.1.2.1.1
 have s3:h.2.2.2.2.2.2.2.2.1.2.2.2.length≤900000000:=z.2.2.2.2.2.2.2.2.1.2.2.2.1
 unfold kN oU
 rw [zS h (z.mono (by omega)),ab,Li h (k.sz (by omega)),ab]
 cases hb:rE h with|false=>rfl|true=> ?_
 have hl:=vT (by simp only [rE,Bool.and_eq_true] at hb;exact hb.2.2.2.2.1:wN h=true)
 have hr:=yV hb
 simp only [Bool.not_true,cond_false,GL x hx,ab,Lb h.2.2.2.2.2.2.2.1 _ (show h.2.2.2.2.2.2.2.1.2.2.length≤1000000000 by omega),Q5 h.2.2.2.2.2.2.2.2.1 _ _ (show h.2.2.2.2.2.2.2.2.1.1.length≤1000000000 by omega) (show h.2.2.2.2.2.2.2.2.1.2.1.length≤1000000000 by omega) (show h.2.2.2.2.2.2.2.2.1.2.2.2.length≤1000000000 by omega)]
 generalize lK x=f
 cases f.2 !=0 with|true=>rfl|false=> ?_
 cases qC h.2.2.2.2.2.2.2.1 f.1 with|false=>rfl|true=> ?_
 simp only [Bool.not_true,cond_false]
 have hst:=Hr (s:=h.2.2.2.2.2.2.2.2.1) (q:=(h.2.2.2.1.length:Int)) (p:=f.1)
 generalize pM h.2.2.2.2.2.2.2.2.1 (h.2.2.2.1.length:Int) f.1=r at hst⊢
 rcases hst with rfl|⟨n,rfl,hn⟩
 ·rfl
 have i1:n<h.2.2.2.1.length:=by omega
 have i2:n<h.2.2.2.2.2.1.length:=by omega
 have hq:=(u5 (hr n i1)).1
 have hqi:=mq hq
 have ha:=yM (show 1000≤900000000 by omega) (l:=h.2.1) (d:=0) (k:=h.2.2.2.2.2.2.2.2.1.2.2.1) (p:=f.1) (c:=h.2.2.2.2.2.2.2.2.2.2.1) z.1 (z.2.2.2.1.2 _ (List.getElem_mem i1)) hq
 have ev:=Cl (h:=wV h h.2.2.2.2.2.2.2.2.2.2.2.2.2.2.2.1 h.2.2.2.2.2.2.2.2.2.2.2.2.2.2.2.2.1 h.2.2.2.2.2.2.2.2.2.2.2.2.2.2.2.2.2.1 (IntKind.wrap .i64 (h.2.2.2.2.2.2.2.2.2.2.2.2.2.2.2.2.2.2+1))) (k:=n) (b:=h.2.2.2.1[n].2.1.2.2) (f:=fi h.2.1 h.1 0 h.2.2.2.1[n] h.2.2.2.2.2.2.2.2.1.2.2.1 f.1 h.2.2.2.2.2.2.2.2.2.2.1) i1 i2 ha.2.2.2 (by omega)
 rw [show ((n:Int)== -1)=false from by rw [beq_eq_false_iff_ne];omega,Int.toNat_natCast,List.getElem?_eq_getElem i1]
 simp only [cond_false,ay i1,ab,ND h.2.1 h.1 0 _ _ _ _ (show h.2.1.length≤1000000000 by omega) (show h.1.length≤1000000000 by omega)]
 rw [show (gD ((fi h.2.1 h.1 0 h.2.2.2.1[n] h.2.2.2.2.2.2.2.2.1.2.2.1 f.1 h.2.2.2.2.2.2.2.2.2.2.1).1,h.2.1,h.2.2.1,h.2.2.2.1.set n (fi h.2.1 h.1 0 h.2.2.2.1[n] h.2.2.2.2.2.2.2.2.1.2.2.1 f.1 h.2.2.2.2.2.2.2.2.2.2.1).2,h.2.2.2.2.1,h.2.2.2.2.2.1,h.2.2.2.2.2.2.1,h.2.2.2.2.2.2.2.1,h.2.2.2.2.2.2.2.2.1,h.2.2.2.2.2.2.2.2.2.1,h.2.2.2.2.2.2.2.2.2.2.1,h.2.2.2.2.2.2.2.2.2.2.2.1,h.2.2.2.2.2.2.2.2.2.2.2.2.1,h.2.2.2.2.2.2.2.2.2.2.2.2.2.1,IntKind.wrap .i64 (h.2.2.2.2.2.2.2.2.2.2.2.2.2.2.1+1),h.2.2.2.2.2.2.2.2.2.2.2.2.2.2.2.1,h.2.2.2.2.2.2.2.2.2.2.2.2.2.2.2.2.1,h.2.2.2.2.2.2.2.2.2.2.2.2.2.2.2.2.2.1,IntKind.wrap .i64 (h.2.2.2.2.2.2.2.2.2.2.2.2.2.2.2.2.2.2+1)) (n:Int) h.2.2.2.1[n].2.1.2.2)=_ from ev.1,ab]
theorem JJ (h:Host)(x:Bytes)(k:M0 900000000 h)(hx:x.length≤1000000000):lr h x=some (oU h x):=by
 have z:=k.z
 have z1:h.1.length≤900000000:=z.1.1
 have z2:h.2.1.length≤900000000:=z.2.1.1
 have zf:h.2.2.2.2.2.2.2.1.2.2.length≤900000000:=z.2.2.2.2.2.2.2.1.2.2.1
 have s1:h.2.2.2.2.2.2.2.2.1.1.length≤900000000:=z.2.2.2.2.2.2.2.2.1.1.1
 have s2:h.2.2.2.2.2.2.2.2.1.2.1.length≤900000000:=z.2.2.2.2.2.2.2.2.1.2.1.1
 have s3:h.2.2.2.2.2.2.2.2.1.2.2.2.length≤900000000:=z.2.2.2.2.2.2.2.2.1.2.2.2.1
 unfold lr oU
 rw [AA h (z.mono (by omega)),ab,Mo h (k.sz (by omega)),ab]
 cases hb:rE h with|false=>rfl|true=> ?_
 have hl:=vT (by simp only [rE,Bool.and_eq_true] at hb;exact hb.2.2.2.2.1:wN h=true)
 have hr:=yV hb
 simp only [Bool.not_true,cond_false,Hl x hx,ab,Mk h.2.2.2.2.2.2.2.1 _ (show h.2.2.2.2.2.2.2.1.2.2.length≤1000000000 by omega),RU h.2.2.2.2.2.2.2.2.1 _ _ (show h.2.2.2.2.2.2.2.2.1.1.length≤1000000000 by omega) (show h.2.2.2.2.2.2.2.2.1.2.1.length≤1000000000 by omega) (show h.2.2.2.2.2.2.2.2.1.2.2.2.length≤1000000000 by omega)]
 generalize lK x=f
 cases f.2 !=0 with|true=>rfl|false=> ?_
 cases qC h.2.2.2.2.2.2.2.1 f.1 with|false=>rfl|true=> ?_
 simp only [Bool.not_true,cond_false]
 have hst:=Hr (s:=h.2.2.2.2.2.2.2.2.1) (q:=(h.2.2.2.1.length:Int)) (p:=f.1)
 generalize pM h.2.2.2.2.2.2.2.2.1 (h.2.2.2.1.length:Int) f.1=r at hst⊢
 rcases hst with rfl|⟨n,rfl,hn⟩
 ·rfl
 have i1:n<h.2.2.2.1.length:=by omega
 have i2:n<h.2.2.2.2.2.1.length:=by omega
 have hq:=(u5 (hr n i1)).1
 have hqi:=mq hq
 have ha:=yM (show 1000≤900000000 by omega) (l:=h.2.1) (d:=0) (k:=h.2.2.2.2.2.2.2.2.1.2.2.1) (p:=f.1) (c:=h.2.2.2.2.2.2.2.2.2.2.1) z.1 (z.2.2.2.1.2 _ (List.getElem_mem i1)) hq
 have ev:=Cl (h:=wV h h.2.2.2.2.2.2.2.2.2.2.2.2.2.2.2.1 h.2.2.2.2.2.2.2.2.2.2.2.2.2.2.2.2.1 h.2.2.2.2.2.2.2.2.2.2.2.2.2.2.2.2.2.1 (IntKind.wrap .i64 (h.2.2.2.2.2.2.2.2.2.2.2.2.2.2.2.2.2.2+1))) (k:=n) (b:=h.2.2.2.1[n].2.1.2.2) (f:=fi h.2.1 h.1 0 h.2.2.2.1[n] h.2.2.2.2.2.2.2.2.1.2.2.1 f.1 h.2.2.2.2.2.2.2.2.2.2.1) i1 i2 ha.2.2.2 (by omega)
 rw [show ((n:Int)== -1)=false from by rw [beq_eq_false_iff_ne];omega,decide_eq_false (show¬(n:Int)<0 by omega),Int.toNat_natCast,List.getElem?_eq_getElem i1]
 simp only [cond_false,ay i1,ab,Ot h.2.1 h.1 0 _ _ _ _ (show h.2.1.length≤1000000000 by omega) (show h.1.length≤1000000000 by omega)]
 rw [show (g6 ((fi h.2.1 h.1 0 h.2.2.2.1[n] h.2.2.2.2.2.2.2.2.1.2.2.1 f.1 h.2.2.2.2.2.2.2.2.2.2.1).1,h.2.1,h.2.2.1,h.2.2.2.1.set n (fi h.2.1 h.1 0 h.2.2.2.1[n] h.2.2.2.2.2.2.2.2.1.2.2.1 f.1 h.2.2.2.2.2.2.2.2.2.2.1).2,h.2.2.2.2.1,h.2.2.2.2.2.1,h.2.2.2.2.2.2.1,h.2.2.2.2.2.2.2.1,h.2.2.2.2.2.2.2.2.1,h.2.2.2.2.2.2.2.2.2.1,h.2.2.2.2.2.2.2.2.2.2.1,h.2.2.2.2.2.2.2.2.2.2.2.1,h.2.2.2.2.2.2.2.2.2.2.2.2.1,h.2.2.2.2.2.2.2.2.2.2.2.2.2.1,IntKind.wrap .i64 (h.2.2.2.2.2.2.2.2.2.2.2.2.2.2.1+1),h.2.2.2.2.2.2.2.2.2.2.2.2.2.2.2.1,h.2.2.2.2.2.2.2.2.2.2.2.2.2.2.2.2.1,h.2.2.2.2.2.2.2.2.2.2.2.2.2.2.2.2.2.1,IntKind.wrap .i64 (h.2.2.2.2.2.2.2.2.2.2.2.2.2.2.2.2.2.2+1)) (n:Int) h.2.2.2.1[n].2.1.2.2)=_ from ev.2,ab]
theorem Mb {n:Nat}(hn:1000≤n){h:Host}(x:Bytes)(k:M0 n h):M0 n (oU h x)∧(oU h x).2.2.1=h.2.2.1∧(oU h x).2.2.2.2.1.length=h.2.2.2.2.1.length:=by
 have z:=k.z
 have zc:∀a b c d,M0 n (wV h a b c d):=fun a b c d=>⟨⟨z.1,z.2.1,z.2.2.1,z.2.2.2.1,z.2.2.2.2.1,z.2.2.2.2.2.1,z.2.2.2.2.2.2.1,z.2.2.2.2.2.2.2.1,z.2.2.2.2.2.2.2.2.1,z.2.2.2.2.2.2.2.2.2.1,z.2.2.2.2.2.2.2.2.2.2.1,z.2.2.2.2.2.2.2.2.2.2.2.1,z.2.2.2.2.2.2.2.2.2.2.2.2.1,z.2.2.2.2.2.2.2.2.2.2.2.2.2.1,trivial,trivial,trivial,trivial,trivial⟩,k.t⟩
 unfold oU
 cases hb:rE h with|false=>exact ⟨k,rfl,rfl⟩|true=> ?_
 have hr:=yV hb
 generalize lK x=f
 cases f.2 !=0 with|true=>exact ⟨zc ..,rfl,rfl⟩|false=> ?_
 cases qC h.2.2.2.2.2.2.2.1 f.1 with|false=>exact ⟨zc ..,rfl,rfl⟩|true=> ?_
 simp only [Bool.not_true,cond_false]
 generalize pM h.2.2.2.2.2.2.2.2.1 (h.2.2.2.1.length:Int) f.1=r
 cases r== -1 with|true=>exact ⟨zc ..,rfl,rfl⟩|false=> ?_
 simp only [cond_false]
 cases hq:h.2.2.2.1[r.toNat]? with|none=>exact ⟨k,rfl,rfl⟩|some q=> ?_
 obtain ⟨hi,hqe⟩:=List.getElem?_eq_some_iff.1 hq
 have hqd:=(u5 (hr _ hi)).1
 rw [hqe] at hqd
 have ha:=yM hn (l:=h.2.1) (d:=0) (k:=h.2.2.2.2.2.2.2.2.1.2.2.1) (p:=f.1) (c:=h.2.2.2.2.2.2.2.2.2.2.1) z.1 (z.2.2.2.1.2 _ (List.mem_of_getElem? hq)) hqd
 have zc':=zc h.2.2.2.2.2.2.2.2.2.2.2.2.2.2.2.1 h.2.2.2.2.2.2.2.2.2.2.2.2.2.2.2.2.1 h.2.2.2.2.2.2.2.2.2.2.2.2.2.2.2.2.2.1 (IntKind.wrap .i64 (h.2.2.2.2.2.2.2.2.2.2.2.2.2.2.2.2.2.2+1))
 have kk:=MT (h:=wV h h.2.2.2.2.2.2.2.2.2.2.2.2.2.2.2.1 h.2.2.2.2.2.2.2.2.2.2.2.2.2.2.2.2.1 h.2.2.2.2.2.2.2.2.2.2.2.2.2.2.2.2.2.1 (IntKind.wrap .i64 (h.2.2.2.2.2.2.2.2.2.2.2.2.2.2.2.2.2.2+1))) (k:=r.toNat) (b:=q.2.1.2.2) (f:=fi h.2.1 h.1 0 q h.2.2.2.2.2.2.2.2.1.2.2.1 f.1 h.2.2.2.2.2.2.2.2.2.2.1) ha.2.1
 exact ⟨⟨OS zc'.z ha.1 ha.2.2.1,by rw [kk.tx];exact k.t⟩,kk.tx,kk.pl⟩
end
end Go.Pu
end
section
namespace Go.Pu
open Go.Dn
set_option linter.unusedSimpArgs false
set_option linter.unusedVariables false
noncomputable section
def WQ:ao:=(0,0,(0,0,0),false,0,0)
def xE (b:Int×Int×Int):Bool:=bc b.1 0 10000&&(bc b.2.1 0 100000&&bc b.2.2 0 b.2.1)
def Ep (n:Int)(f:ao):Bool:=bc f.1 0 7&&(bc f.2.1 1 (IntKind.wrap .i64 (n-1))&&(xE f.2.2.1&&(bc f.2.2.2.2.1 0 1000000000000&&bc f.2.2.2.2.2 0 1000000000000)))
def SP (f g:ao):Bool:=(g.1==f.1)||(g.2.1==f.2.1)
def Zt (l:List ao)(n:Int)(i:Nat):Bool:=Ep n (l.getD i WQ)&&(List.range i).all (fun j=> !(SP (l.getD i WQ) (l.getD j WQ)))
def fS (l:List ao)(ps:List Port):Bool:=cV ps&&(List.range l.length).all (Zt l (ps.length:Int))
theorem Fe (b:Int×Int×Int):qn b=some (xE b):=by
 simp only [qn,aU,ab,az,cF,xE]
theorem NF (b:Int×Int×Int):ux b=some (xE b):=Fe b
theorem F9 (l:List ao)(ps:List Port)(h:l.length≤1000000000)(h1:ps.length≤1000000000)(h2:∀p∈ps,p.2.1.length≤1000000000):lq l ps=some (fS l ps):=by
 unfold lq fS
 rw [cI (hit:=some false) (fin:=some true) (Zt l (ps.length:Int)) l.length (by omega) (fun i nx hi=> ?hs) (fun nx=> ?hf)]
 case hs=>
  simp only [gx]
  rw [decide_eq_true (by omega),ay hi,wrap64 (n:=(i:Int)+1) (by omega) (by omega)]
  simp only [cond_true,ab,aU,Fe,az,cT]
  rw [cI (hit:=some false) (fin:=nx ((i:Int)+1)) (fun j=> !(SP l[i] (l.getD j WQ))) i (by omega) (fun j nx' hj=> ?hs2) (fun nx'=> ?hf2)]
  case hs2=>
   have hjl:j<l.length:=by omega
   simp only [fL]
   rw [decide_eq_true (by omega),ay hjl,wrap64 (n:=(j:Int)+1) (by omega) (by omega)]
   simp only [cond_true,ab,az,cT,aM hjl,Bool.not_not];rfl
  case hf2=>
   simp only [fL]
   rw [decide_eq_false (by omega)];rfl
  simp only [Zt,aM hi]
  rw [show (!bc l[i].1 0 7||(!bc l[i].2.1 1 (IntKind.wrap .i64 ((ps.length:Int)-1))||(!xE l[i].2.2.1||(!bc l[i].2.2.2.2.1 0 1000000000000|| !bc l[i].2.2.2.2.2 0 1000000000000))))= !Ep (ps.length:Int) l[i] by unfold Ep;simp only [Bool.not_and]]
  cases Ep (ps.length:Int) l[i]<;>cases (List.range i).all (fun j=> !(SP l[i] (l.getD j WQ)))<;>rfl
 case hf=>
  simp only [gx]
  rw [decide_eq_false (by omega)];rfl
 simp only [xX ps h1 h2,ab]
 cases cV ps<;>cases (List.range l.length).all (Zt l (ps.length:Int))<;>rfl
theorem FV (l:List ao)(ps:List Port)(h:l.length≤1000000000)(h1:ps.length≤1000000000)(h2:∀p∈ps,p.2.1.length≤1000000000):kM l ps=some (fS l ps):=by
 unfold kM fS
 rw [cI (hit:=some false) (fin:=some true) (Zt l (ps.length:Int)) l.length (by omega) (fun i nx hi=> ?hs) (fun nx=> ?hf)]
 case hs=>
  simp only [gn]
  rw [decide_eq_true (by omega),ay hi,wrap64 (n:=(i:Int)+1) (by omega) (by omega),MA l i (by omega)]
  simp only [cond_true,ab,bg,NF,az,cT]
  have hti:(l.take i).length=i:=by simp;omega
  rw [hti,cI (hit:=some false) (fin:=nx ((i:Int)+1)) (fun j=> !(SP l[i] (l.getD j WQ))) i (by omega) (fun j nx' hj=> ?hs2) (fun nx'=> ?hf2)]
  case hs2=>
   have hjl:j<l.length:=by omega
   have hjt:j<(l.take i).length:=by omega
   simp only [gp]
   rw [decide_eq_true (by omega),ay hjt,wrap64 (n:=(j:Int)+1) (by omega) (by omega),List.getElem_take]
   simp only [cond_true,ab,az,cT,aM hjl,Bool.not_not];rfl
  case hf2=>
   simp only [gp]
   rw [decide_eq_false (by omega)];rfl
  simp only [Zt,aM hi]
  rw [show (!bc l[i].1 0 7||(!bc l[i].2.1 1 (IntKind.wrap .i64 ((ps.length:Int)-1))||(!xE l[i].2.2.1||(!bc l[i].2.2.2.2.1 0 1000000000000|| !bc l[i].2.2.2.2.2 0 1000000000000))))= !Ep (ps.length:Int) l[i] by unfold Ep;simp only [Bool.not_and]]
  cases Ep (ps.length:Int) l[i]<;>cases (List.range i).all (fun j=> !(SP l[i] (l.getD j WQ)))<;>rfl
 case hf=>
  simp only [gn]
  rw [decide_eq_false (by omega)];rfl
 simp only [xM ps h1 h2,ab]
 cases cV ps<;>cases (List.range l.length).all (Zt l (ps.length:Int))<;>rfl
def uD (l:List ao)(i:Nat):Bool:=((l.getD i WQ).1==(i:Int))&&((l.getD i WQ).2.1==(i:Int)+1)
theorem NK (l:List ao)(h:l.length≤1000000000):n6 l=some ((List.range l.length).all (uD l)):=by
 unfold n6
 rw [cI (hit:=some false) (fin:=some true) (uD l) l.length (by omega) (fun i nx hi=> ?hs) (fun nx=> ?hf)]
 case hs=>
  simp only [jw]
  rw [decide_eq_true (by omega),ay hi,wrap64 (n:=(i:Int)+1) (by omega) (by omega)]
  simp only [cond_true,ab,az,cT,bne,uD,aM hi]
  cases l[i].1==(i:Int)<;>cases l[i].2.1==(i:Int)+1<;>rfl
 case hf=>
  simp only [jw]
  rw [decide_eq_false (by omega)];rfl
 cases (List.range l.length).all (uD l)<;>rfl
theorem JF (a b:Filter)(h:a.2.2.length≤1000000000):nh a b=some (CF a b):=zU a b h
theorem Er:∀(ms:List aC)(i:Nat)(s:List Int×List Port),J1 i s→ms.all nw=true→J1 (i+ms.length) (ms.foldl yE s)
 |[],i,s,h,_=>h
 |m::ms,i,s,h,hm=>by
  rw [List.all_cons,Bool.and_eq_true] at hm
  have hu:=vc m.1.2.2 s.1
  have hl:=uU hm.1
  have:=Er ms (i+1) (yE s m) (h.port hm.1 _ (by omega)) hm.2
  rw [List.foldl_cons,List.length_cons,show i+(ms.length+1)=i+1+ms.length by omega]
  exact this
theorem L2 {ms:List aC}(h:(di ms).2=true):ms.length≤3:=by
 unfold di at h
 cases hq:bc (ms.length:Int) 1 3&&(ms.all nw&&cV (uh ms)) with
 |false=>rw [hq] at h;cases h
 |true=>
  simp only [Bool.and_eq_true] at hq
  have:=aR.1 hq.1
  omega
theorem xU (ms:List aC):(di ms).1.length≤1000000000∧∀p∈(di ms).1,p.2.1.length≤1000000000:=by
 unfold di
 cases hc:bc (ms.length:Int) 1 3&&(ms.all nw&&cV (uh ms)) with
 |false=>exact ⟨by simp,by simp⟩
 |true=>
  simp only [Bool.and_eq_true,aR] at hc
  have:=Er ms 0 ([0],[]) ⟨by simp,rfl,by simp⟩ hc.2.1
  rw [Nat.zero_add] at this
  exact xk this (by omega)
end
end Go.Pu
end
section
namespace Go.Pu
open Go.Dn
set_option linter.unusedSimpArgs false
set_option linter.unusedVariables false
noncomputable section
end
end Go.Pu
end
section
namespace Go.Pu
open Go.Dn
set_option linter.unusedSimpArgs false
set_option linter.unusedVariables false
noncomputable section
def WS (v:Int)(b:Bytes):Bytes:=((cw v++cw (b.length:Int))++b)++cw (Gr ((cw v++cw (b.length:Int))++b))
def ff (v:Int)(b:Bytes):Bytes×Bool:=bif bc v 0 1000000&&decide (b.length≤84) then (WS v b,true) else ([],false)
theorem Uc (v:Int)(b:Bytes)(h:b.length≤1000000000):pb v b=some (ff v b):=by
 have l1:=bd v
 have l2:=bd (b.length:Int)
 unfold pb ff
 rw [wrap64 (by omega) (by omega)]
 simp only [aU,ab]
 cases bc v 0 1000000 with
 |false=>rfl
 |true=>
  by_cases hb:b.length≤84
  ·have l3:=bd (Gr ((cw v++cw (b.length:Int))++b))
   rw [decide_eq_false (show¬((b.length:Int)+12>96) by omega),decide_eq_true hb]
   simp only [Bool.not_true,cond_false,ab,Bool.and_self,cond_true,fY]
   rw [aq (by omega),aq (by simp only [List.length_append];omega),P8 _ (by simp only [List.length_append];omega)]
   simp only [ab,fY]
   rw [aq (by simp only [List.length_append];omega)];rfl
  ·rw [decide_eq_true (show ((b.length:Int)+12>96) by omega),decide_eq_false hb];rfl
theorem Te (v:Int)(b:Bytes)(h:b.length≤1000000000):nT v b=some (ff v b):=by
 have l1:=bd v
 have l2:=bd (b.length:Int)
 unfold nT ff
 rw [wrap64 (by omega) (by omega)]
 simp only [bg,ab]
 cases bc v 0 1000000 with
 |false=>rfl
 |true=>
  by_cases hb:b.length≤84
  ·have l3:=bd (Gr ((cw v++cw (b.length:Int))++b))
   rw [decide_eq_false (show¬(12+(b.length:Int)>96) by omega),decide_eq_true hb]
   simp only [Bool.not_true,cond_false,ab,Bool.and_self,cond_true,nd]
   rw [aq (by omega),aq (by simp only [List.length_append];omega),PE _ (by simp only [List.length_append];omega)]
   simp only [ab,nd]
   rw [aq (by simp only [List.length_append];omega)];rfl
  ·rw [decide_eq_true (show (12+(b.length:Int)>96) by omega),decide_eq_false hb];rfl
def Wn (s:Bytes)(n:Nat):Int:=bif (ff (ch s 0) ((s.take (8+n)).drop 8)).2&&((ff (ch s 0) ((s.take (8+n)).drop 8)).1==s.take (12+n)) then ch s 0 else-1
def lL (s:Bytes):Int:=if 0≤ch s 4∧ch s 4≤(s.length:Int)-12 then Wn s (ch s 4).toNat else-1
theorem K2 (s:Bytes)(a:Int): -1≤ch s a∧ch s a≤4294967295:=by
 unfold ch
 cases bM s a 4 with
 |false=>simp only [cond_false];omega
 |true=>
  have b0:=bA s a.toNat
  have b1:=bA s (a.toNat+1)
  have b2:=bA s (a.toNat+2)
  have b3:=bA s (a.toNat+3)
  simp only [cond_true]
  omega
theorem R6 {s:Bytes}{n:Nat}(h:¬n≤84)(hs:n+12≤s.length):Wn s n= -1:=by
 have:(ff (ch s 0) ((s.take (8+n)).drop 8)).2=false:=by
  unfold ff
  rw [decide_eq_false (by simp only [List.length_drop,List.length_take];omega),Bool.and_false];rfl
 unfold Wn
 rw [this];rfl
theorem Qc (s:Bytes)(h:s.length≤1000000000):fM s=some (lL s):=by
 unfold fM lL
 have hg:=K2 s 4
 simp only [sI s _ h,aU,ab]
 rw [wrap64 (n:=ch s 4+12) (by omega) (by omega),wrap64 (n:=8+ch s 4) (by omega) (by omega)]
 generalize ch s 4=n at hg
 by_cases hc:0≤n∧n≤(s.length:Int)-12
 ·rw [if_pos hc]
  obtain ⟨m,rfl⟩:=Int.eq_ofNat_of_zero_le hc.1
  by_cases h84:m≤84
  ·have e1:bc (m:Int) 0 84=true:=aR.2 (by omega)
   have e2:sub s 8 (8+(m:Int))=some ((s.take (8+m)).drop 8):=by
    unfold sub;rw [if_pos (by omega)];rfl
   have e3:sub s 0 ((m:Int)+12)=some (s.take (12+m)):=by
    unfold sub;rw [if_pos (by omega),show ((m:Int)+12).toNat=12+m by omega];rfl
   rw [e1,decide_eq_false (show¬((m:Int)+12>(s.length:Int)) by omega),e2,e3]
   simp only [Bool.not_true,cond_false,ab,Int.toNat_natCast]
   rw [Uc _ _ (by simp only [List.length_drop,List.length_take];omega)]
   unfold Wn
   simp only [ab]
   cases (ff (ch s 0) ((s.take (8+m)).drop 8)).2<;>cases ((ff (ch s 0) ((s.take (8+m)).drop 8)).1==s.take (12+m))<;>rfl
  ·have e1:bc (m:Int) 0 84=false:=by rw [Bool.eq_false_iff,ne_eq,aR];omega
   rw [e1,Int.toNat_natCast,R6 h84 (by omega)];rfl
 ·rw [if_neg hc]
  by_cases hb:bc n 0 84=true
  ·have:=aR.1 hb
   rw [hb,decide_eq_true (show n+12>(s.length:Int) by omega)];rfl
  ·have hb':bc n 0 84=false:=by simpa using hb
   rw [hb'];rfl
theorem PI (s:Bytes)(h:s.length≤1000000000):fD s=some (lL s):=by
 unfold fD lL
 have hg:=K2 s 4
 simp only [uP s _ h,ab]
 rw [wrap64 (n:=12+ch s 4) (by omega) (by omega),wrap64 (n:=8+ch s 4) (by omega) (by omega),wrap64 (n:=(s.length:Int)-12) (by omega) (by omega)]
 generalize ch s 4=n at hg
 by_cases hc:0≤n∧n≤(s.length:Int)-12
 ·rw [if_pos hc]
  obtain ⟨m,rfl⟩:=Int.eq_ofNat_of_zero_le hc.1
  have e2:sub s 8 (8+(m:Int))=some ((s.take (8+m)).drop 8):=by
   unfold sub;rw [if_pos (by omega)];rfl
  have e3:sub s 0 (12+(m:Int))=some (s.take (12+m)):=by
   unfold sub;rw [if_pos (by omega),show (12+(m:Int)).toNat=12+m by omega];rfl
  rw [decide_eq_false (show¬((m:Int)<0) by omega),decide_eq_false (show¬((m:Int)>(s.length:Int)-12) by omega),e2,e3]
  simp only [cond_false,ab,Int.toNat_natCast]
  rw [Te _ _ (by simp only [List.length_drop,List.length_take];omega)]
  unfold Wn
  simp only [ab]
  cases (ff (ch s 0) ((s.take (8+m)).drop 8)).2<;>cases ((ff (ch s 0) ((s.take (8+m)).drop 8)).1==s.take (12+m))<;>rfl
 ·rw [if_neg hc]
  by_cases h0:n<0
  ·rw [decide_eq_true h0];rfl
  ·rw [decide_eq_false h0,decide_eq_true (show n>(s.length:Int)-12 by omega)];rfl
def w4 (f:List Bytes):Bool:=((f.length:Int)==2)&&((((f.getD 0 []).length:Int)==96)&&(((f.getD 1 []).length:Int)==96))
theorem Gy {f:List Bytes}(h:w4 f=true):f=[f.getD 0 [],f.getD 1 []]∧(f.getD 0 []).length=96∧(f.getD 1 []).length=96:=by
 simp only [w4,Bool.and_eq_true,beq_iff_eq] at h
 match f,h with
 |[a,b],h=>
  have h1:(a.length:Int)=96:=h.2.1
  have h2:(b.length:Int)=96:=h.2.2
  exact ⟨rfl,by show a.length=96;omega,by show b.length=96;omega⟩
theorem Hg (f:List Bytes):sk f=some (w4 f):=by
 unfold sk w4
 match f with
 |[]=>rfl
 |[a]=>rfl
 |[a,b]=>
  have i0:idx [a,b] 0=some a:=rfl
  have i1:idx [a,b] 1=some b:=rfl
  rw [i0,i1]
  simp only [ab,az,cF];rfl
 |a::b::c::r=>
  have:(((a::b::c::r).length:Int)==2)=false:=by simp only [List.length_cons,beq_eq_false_iff_ne];omega
  rw [this];rfl
theorem QV (f:List Bytes):vw f=some (w4 f):=Hg f
def pC (f:List Bytes):Int:=bif w4 f then (if lL (f.getD 0 [])<0∧lL (f.getD 1 [])<0 then-1 else if lL (f.getD 1 [])>lL (f.getD 0 []) then 1 else 0) else-1
theorem T1 (f:List Bytes):qm f=some (pC f):=by
 unfold qm pC
 rw [Hg,ab]
 cases hf:w4 f with
 |false=>rfl
 |true=>
  obtain ⟨e,l0,l1⟩:=Gy hf
  generalize f.getD 0 []=a at*
  generalize f.getD 1 []=b at*
  subst e
  have i0:idx [a,b] 0=some a:=rfl
  have i1:idx [a,b] 1=some b:=rfl
  simp only [Bool.not_true,cond_false,cond_true,i0,i1,ab,Qc a (by omega),Qc b (by omega)]
  by_cases p:lL a<0<;>by_cases q:lL b<0<;>by_cases r:lL b>lL a<;>simp [p,q,r]
theorem S3 (f:List Bytes):pT f=some (pC f):=by
 unfold pT pC
 rw [QV,ab]
 cases hf:w4 f with
 |false=>rfl
 |true=>
  obtain ⟨e,l0,l1⟩:=Gy hf
  generalize f.getD 0 []=a at*
  generalize f.getD 1 []=b at*
  subst e
  have i0:idx [a,b] 0=some a:=rfl
  have i1:idx [a,b] 1=some b:=rfl
  simp only [Bool.not_true,cond_false,cond_true,i0,i1,ab,PI a (by omega),PI b (by omega)]
  by_cases r:lL b>lL a
  ·have r':¬lL a≥lL b:=by omega
   by_cases p:lL a<0<;>by_cases q:lL b<0<;>simp [p,q,r,r']
  ·have r':lL a≥lL b:=by omega
   by_cases p:lL a<0<;>by_cases q:lL b<0<;>simp [p,q,r,r']
def vi (c:Int×Int×Int×Int):Bool:=bc c.1 0 1125899906842624&&(bc c.2.1 0 1048575&&(bc c.2.2.1 0 67108864&&bc c.2.2.2 0 1099511627776))
theorem Hf (c:Int×Int×Int×Int):sg c=some (vi c):=by
 simp only [sg,aU,ab,az,cF,vi]
theorem QS (c:Int×Int×Int×Int):vu c=some (vi c):=Hf c
def vg (c:br)(i:Nat):Bool:=(c.1[i]?.all rE)&&CF (c.1[i]?.map (·.2.2.2.2.2.2.2.1)) (c.2.2.1[i]?.map (·.1))
def Ai (c:br):Bool:=((c.1.length:Int)==(c.2.2.1.length:Int))&&((c.2.1.length:Int)==(c.2.2.1.length:Int))
def pz (c:br):Bool:=(di c.2.2.1).2&&(Ai c&&(fS c.2.1 (di c.2.2.1).1&&((!decide (pC c.2.2.2.1<0)&&vi c.2.2.2.2.1)&&((List.range c.1.length).all (vg c)&&(List.range c.1.length).all (uD c.2.1)))))
structure MZ (c:br):Prop where
 h0:c.1.length≤1000000000
 f0:c.2.1.length≤1000000000
 m:∀m∈c.2.2.1,m.1.2.2.length≤1000000000
 h1:∀h∈c.1,HF h
theorem Bq {c:br}(h:Ai c=true):c.1.length=c.2.2.1.length∧c.2.1.length=c.2.2.1.length:=by
 unfold Ai at h
 simp only [Bool.and_eq_true,beq_iff_eq] at h
 omega
theorem C5 {c:br}(i:Nat)(hi:i<c.1.length)(hj:i<c.2.2.1.length):vg c i=(rE c.1[i]&&CF c.1[i].2.2.2.2.2.2.2.1 c.2.2.1[i].1):=by
 unfold vg
 rw [List.getElem?_eq_getElem hi,List.getElem?_eq_getElem hj]
 congr 1
 apply IX
 rw [xF];simp
theorem Sg:∀(l:List Nat)(p q:Nat→Bool),l.all (fun x=>p x&&q x)=(l.all p&&l.all q):=by
 intro l p q
 induction l with
 |nil=>rfl
 |cons x l ih=>simp only [List.all_cons,ih];cases p x<;>cases q x<;>cases l.all p<;>rfl
theorem T3 (c:br)(z:MZ c):um c=some (pz c):=by
 have hp:=xU c.2.2.1
 unfold um pz
 simp only [B9 _ z.m,F9 _ _ z.f0 hp.1 hp.2,T1,Hf,ab,az,cT,bne]
 rw [show ((!((c.1.length:Int)==(c.2.2.1.length:Int)))||((!((c.2.1.length:Int)==(c.2.2.1.length:Int)))||((!fS c.2.1 (di c.2.2.1).1)||(decide (pC c.2.2.2.1<0)|| !vi c.2.2.2.2.1))))= !(Ai c&&(fS c.2.1 (di c.2.2.1).1&&(!decide (pC c.2.2.2.1<0)&&vi c.2.2.2.2.1))) by unfold Ai;simp only [Bool.not_and,Bool.or_assoc,Bool.not_not]]
 cases (di c.2.2.1).2 with|false=>rfl|true=> ?_
 cases hl:Ai c with|false=>rfl|true=> ?_
 cases fS c.2.1 (di c.2.2.1).1 with|false=>rfl|true=> ?_
 cases (!decide (pC c.2.2.2.1<0)&&vi c.2.2.2.2.1) with|false=>rfl|true=> ?_
 have hL:=Bq hl
 have h0:=z.h0
 simp only [Bool.not_true,Bool.false_or,Bool.and_true,cond_false,Bool.true_and]
 rw [cI (hit:=some false) (fin:=some true) (fun i=>vg c i&&uD c.2.1 i) c.2.2.1.length (by omega) (fun i nx hi=> ?hs) (fun nx=> ?hf)]
 case hs=>
  have q1:i<c.1.length:=by omega
  have q2:i<c.2.1.length:=by omega
  have hm:=List.getElem_mem q1
  rw [C5 i q1 hi]
  simp only [oY]
  rw [decide_eq_true (by omega),ay q1,ay hi,ay q2,wrap64 (n:=(i:Int)+1) (by omega) (by omega)]
  simp only [cond_true,ab,Mo _ (z.h1 _ hm),JF _ _ (z.h1 _ hm).f1,az,cT,bne,uD,aM q2]
  cases rE c.1[i]<;>cases CF c.1[i].2.2.2.2.2.2.2.1 c.2.2.1[i].1<;>cases c.2.1[i].1==(i:Int)<;>cases c.2.1[i].2.1==(i:Int)+1<;>rfl
 case hf=>
  simp only [oY]
  rw [decide_eq_false (by omega)];rfl
 rw [Sg,←hL.1]
 cases (List.range c.1.length).all (vg c)<;>cases (List.range c.1.length).all (uD c.2.1)<;>rfl
theorem Ld (c:br)(z:MZ c):qD c=some (pz c):=by
 have hp:=xU c.2.2.1
 unfold qD pz
 simp only [BX _ z.m,FV _ _ z.f0 hp.1 hp.2,NK _ z.f0,S3,QS,ab,az,cT,cF,bne]
 rw [show ((!((c.1.length:Int)==(c.2.2.1.length:Int)))|| !((c.2.1.length:Int)==(c.2.2.1.length:Int)))= !(Ai c) by unfold Ai;simp only [Bool.not_and]]
 cases (di c.2.2.1).2 with|false=>rfl|true=> ?_
 cases hl:Ai c with|false=>rfl|true=> ?_
 have hL:=Bq hl
 have h0:=z.h0
 simp only [Bool.not_true,Bool.false_or,cond_false,Bool.true_and]
 have hd:decide (pC c.2.2.2.1≥0)= !decide (pC c.2.2.2.1<0):=by
  by_cases h:pC c.2.2.2.1<0
  ·rw [decide_eq_true h,decide_eq_false (by omega)];rfl
  ·rw [decide_eq_false h,decide_eq_true (by omega)];rfl
 rw [hd,cI (hit:=some false) (fin:=some (fS c.2.1 (di c.2.2.1).1&&((List.range c.2.1.length).all (uD c.2.1)&&(!decide (pC c.2.2.2.1<0)&&vi c.2.2.2.2.1)))) (vg c) c.1.length (by omega) (fun i nx hi=> ?hs) (fun nx=> ?hf)]
 case hs=>
  have q1:i<c.2.2.1.length:=by omega
  have hm:=List.getElem_mem hi
  rw [C5 i hi q1]
  simp only [nN]
  rw [decide_eq_true (by omega),ay hi,ay q1,wrap64 (n:=(i:Int)+1) (by omega) (by omega)]
  simp only [cond_true,ab,Li _ (z.h1 _ hm),zU _ _ (z.h1 _ hm).f1,az,cT]
  cases rE c.1[i]<;>cases CF c.1[i].2.2.2.2.2.2.2.1 c.2.2.1[i].1<;>rfl
 case hf=>
  simp only [nN]
  rw [decide_eq_false (by omega)];rfl
 rw [hL.2,←hL.1]
 cases (List.range c.1.length).all (vg c)<;>cases (List.range c.1.length).all (uD c.2.1)<;>cases fS c.2.1 (di c.2.2.1).1<;>cases (!decide (pC c.2.2.2.1<0)&&vi c.2.2.2.2.1)<;>rfl
end
end Go.Pu
end
section
namespace Go.Pu
open Go.Dn
set_option linter.unusedSimpArgs false
set_option linter.unusedVariables false
noncomputable section
theorem map_take {α β:Type}(f:α→β)(l:List α)(i:Nat)(hi:i<l.length):(l.take i).map f++[f l[i]]=(l.take (i+1)).map f:=by
 rw [List.take_succ_eq_append_getElem hi,List.map_append];rfl
theorem Cp (m:aC)(h:m.1.2.2.length≤1000000000):k5 m=some m:=by
 simp only [k5,w7 _ h,ab]
theorem Cz (m:aC)(h:m.1.2.2.length≤1000000000):sA m=some m:=by
 simp only [sA,xn _ h,ab]
theorem FQ (l:List aC)(h:l.length≤1000000000)(hx:∀m∈l,m.1.2.2.length≤1000000000):n0 l=some l:=by
 unfold n0
 refine (bB (fun i=>(l.take i,(i:Int))) l.length (by omega) (fun i nx hi=> ?_) (fun nx=> ?_))
 ·simp only [ju]
  rw [decide_eq_true (by omega),ay hi,wrap64 (by omega) (by omega)]
  simp only [cond_true,ab,Cp _ (hx _ (List.getElem_mem hi))]
  rw [aq (by simp;omega),←List.take_succ_eq_append_getElem hi];rfl
 ·simp only [ju]
  rw [decide_eq_false (by omega),List.take_length];rfl
theorem zR (l:List ao)(h:l.length≤1000000000):ig l=some l:=by
 simp only [ig,bV h,List.nil_append]
end
end Go.Pu
end
section
namespace Go.Pu
open Go.Dn
set_option linter.unusedSimpArgs false
set_option linter.unusedVariables false
noncomputable section
structure pQ (ps:List Port):Prop where
 n:ps.length≤1000000000
 v:∀p∈ps,p.2.1.length≤1000000000
def K3 (ps:List Port)(e:Int)(p:ax):Bool:=cV ps&&(cd p&&bc e 0 ((ps.length:Int)-1))
def JW (x:Port)(p:ax):Int:=bif p.2.2.1== -1 then x.2.2.1 else p.2.2.1
def eY (ps:List Port)(e:Int)(p:ax):Int:=
 bif !K3 ps e p then-1 else
 bif !hasB (ps.getD e.toNat eX).2.1 (JW (ps.getD e.toNat eX) p)||((e !=0)&&((ps.getD e.toNat eX).2.2.2&&((ps.getD e.toNat eX).1 !=p.2.1))) then-1 else JW (ps.getD e.toNat eX) p
theorem OH {p:ax}(h:cd p=true):(decide (p.2.2.1<0))=(p.2.2.1== -1):=by
 simp only [cd,wv,Bool.and_eq_true,aR] at h
 have:=h.1.2.2.1
 rw [Bool.eq_iff_iff,decide_eq_true_eq,beq_iff_eq];omega
theorem EA (ps:List Port)(e:Int)(p:ax)(z:pQ ps):jP ps e p=some (eY ps e p):=by
 have hn:=z.n
 unfold jP eY K3
 rw [xM ps hn z.v,ab]
 cases hp:cV ps with|false=>rfl|true=> ?_
 rw [kJ,ab]
 cases hs:cd p with|false=>rfl|true=> ?_
 rw [wrap64 (n:=(ps.length:Int)-1) (by omega) (by omega),bg]
 cases he:bc e 0 ((ps.length:Int)-1) with|false=>rfl|true=> ?_
 have h1:=aR.1 he
 obtain ⟨e,rfl⟩:=Int.eq_ofNat_of_zero_le h1.1
 have hl:e<ps.length:=by omega
 have hv:=z.v _ (List.getElem_mem hl)
 simp only [Bool.not_true,cond_false,ab,Bool.and_self,ay hl,Int.toNat_natCast,aM hl,vt _ _ hv,JW]
 cases p.2.2.1== -1<;>simp only [cond_true,cond_false]<;>cases hasB ps[e].2.1 p.2.2.1<;>cases hasB ps[e].2.1 ps[e].2.2.1<;>cases (e:Int) !=0<;>cases ps[e].2.2.2<;>cases ps[e].1 !=p.2.1<;>rfl
theorem Ff (ps:List Port)(e:Int)(p:ax)(z:pQ ps):ky ps e p=some (eY ps e p):=by
 have hn:=z.n
 unfold ky eY K3
 rw [xX ps hn z.v,ab]
 cases hp:cV ps with|false=>rfl|true=> ?_
 rw [ll,ab]
 cases hs:cd p with|false=>rfl|true=> ?_
 rw [wrap64 (n:=(ps.length:Int)-1) (by omega) (by omega),aU]
 cases he:bc e 0 ((ps.length:Int)-1) with|false=>rfl|true=> ?_
 have h1:=aR.1 he
 obtain ⟨e,rfl⟩:=Int.eq_ofNat_of_zero_le h1.1
 have hl:e<ps.length:=by omega
 have hv:=z.v _ (List.getElem_mem hl)
 rw [OH hs]
 simp only [Bool.not_true,cond_false,ab,Bool.and_self,ay hl,Int.toNat_natCast,aM hl,wa _ _ hv,JW]
 cases p.2.2.1== -1<;>simp only [cond_true,cond_false]<;>cases hasB ps[e].2.1 p.2.2.1<;>cases hasB ps[e].2.1 ps[e].2.2.1<;>cases (e:Int) !=0<;>cases ps[e].2.2.2<;>cases ps[e].1 !=p.2.1<;>rfl
def uB (ps:List Port)(o v:Int)(p:ax):ax:=
 bif cV ps&&(bc o 0 ((ps.length:Int)-1)&&(hasB (ps.getD o.toNat eX).2.1 v&&cd p)) then
  (bif v==(ps.getD o.toNat eX).2.2.1 then (p.1,p.2.1, -1,p.2.2.2) else (p.1,p.2.1,v,p.2.2.2)) else XX
theorem RQ (ps:List Port)(o v:Int)(p:ax)(z:pQ ps):lu ps o v p=some (uB ps o v p):=by
 have hn:=z.n
 unfold lu uB
 rw [xX ps hn z.v,ab]
 cases hp:cV ps with|false=>rfl|true=> ?_
 rw [wrap64 (n:=(ps.length:Int)-1) (by omega) (by omega),aU]
 cases he:bc o 0 ((ps.length:Int)-1) with|false=>rfl|true=> ?_
 have h1:=aR.1 he
 obtain ⟨o,rfl⟩:=Int.eq_ofNat_of_zero_le h1.1
 have hl:o<ps.length:=by omega
 have hv:=z.v _ (List.getElem_mem hl)
 simp only [Bool.not_true,cond_false,ab,Bool.true_and,ay hl,Int.toNat_natCast,aM hl,wa _ _ hv,ll]
 cases hasB ps[o].2.1 v<;>cases cd p<;>cases v==ps[o].2.2.1<;>rfl
theorem QY (ps:List Port)(o v:Int)(p:ax)(z:pQ ps):kO ps o v p=some (uB ps o v p):=by
 have hn:=z.n
 unfold kO uB
 rw [xM ps hn z.v,ab]
 cases hp:cV ps with|false=>rfl|true=> ?_
 rw [wrap64 (n:=(ps.length:Int)-1) (by omega) (by omega),bg]
 cases he:bc o 0 ((ps.length:Int)-1) with|false=>rfl|true=> ?_
 have h1:=aR.1 he
 obtain ⟨o,rfl⟩:=Int.eq_ofNat_of_zero_le h1.1
 have hl:o<ps.length:=by omega
 have hv:=z.v _ (List.getElem_mem hl)
 simp only [Bool.not_true,cond_false,ab,Bool.true_and,ay hl,Int.toNat_natCast,aM hl,vt _ _ hv,kJ]
 cases hasB ps[o].2.1 v<;>cases cd p<;>cases v==ps[o].2.2.1<;>rfl
def yw (ps:List Port)(e v:Int)(j:Nat):Bool:=((j:Int) !=e)&&hasB (ps.getD j eX).2.1 v
def dy (l:List Nat):List Int:=l.map Int.ofNat
def Sh (p:ax):Bool:=p.1==281474976710655
theorem BT {q:Nat→Bool}(l:List Nat)(i:Nat)(hi:i<l.length):(l.take (i+1)).filter q=bif q l[i] then (l.take i).filter q++[l[i]] else (l.take i).filter q:=by
 rw [List.take_succ_eq_append_getElem hi,List.filter_append]
 cases hq:q l[i]<;>simp [hq]
theorem Eh {q:Nat→Bool}(l:List Nat)(i:Nat):((l.take i).filter q).length≤l.length:=Nat.le_trans (List.length_filter_le _ _) (by simp;omega)
theorem EB (ps:List Port)(e v:Int)(l:List Nat)(hl:l.length≤1000000000)(hb:∀j∈l,j<ps.length)(z:pQ ps):
 ar (cj (fun (y7:List Int) (y8:Int)=>some y7) ps e v (dy l) ((dy l).length:Int)) fuel (([]:List Int),0)=some (dy (l.filter (yw ps e v))):=by
 refine bB (fun i=>(dy ((l.take i).filter (yw ps e v)),(i:Int))) l.length (by omega) (fun i nx hi=> ?_) (fun nx=> ?_)
 ·have hj:=hb _ (List.getElem_mem hi)
  have hv:=z.v _ (List.getElem_mem hj)
  have hi2:i<(dy l).length:=by simpa [dy] using hi
  have e1:(dy l)[i]'hi2=(l[i]:Int):=by simp [dy]
  have hf:=Eh (q:=yw ps e v) l i
  simp only [cj]
  rw [decide_eq_true (by simpa [dy] using hi),ay hi2,e1,wrap64 (by omega) (by omega)]
  simp only [cond_true,ab,ay hj,vt _ _ hv]
  rw [BT l i hi,yw,aM hj]
  have hr:∀k:Option (List Int),room (List.length (dy ((l.take i).filter (yw ps e v)))+List.length ([(l[i]:Int)])) k=k:=fun k=>aq (by simp only [dy,List.length_map,List.length_singleton];omega)
  cases (l[i]:Int) !=e with
  |false=>rfl
  |true=>
   cases hasB ps[l[i]].2.1 v with
   |false=>rfl
   |true=>
    simp only [cond_true,ab,Bool.and_self]
    rw [hr]
    simp [dy]
 ·simp only [cj]
  rw [decide_eq_false (by simp [dy]),List.take_length];rfl
def sS (ps:List Port)(p:ax):Nat→Nat
 |0=>0
 |i+1=>bif (ps.getD (i+1) eX).1==p.1 then i+1 else sS ps p i
def px (ps:List Port)(e:Int)(p:ax):List Nat:=
 (List.range ps.length).filter fun j=>yw ps e (eY ps e p) j&&((j==sS ps p (ps.length-1))||Sh p)
def yd (ps:List Port)(e:Int)(p:ax):List Int:=bif decide (eY ps e p<0) then [] else dy (px ps e p)
theorem Mu (ps:List Port)(e:Int)(p:ax)(z:pQ ps):jF ps e p=some (yd ps e p):=by
 have hn:=z.n
 unfold jF yd
 rw [Ff ps e p z,ab]
 cases hd:decide (eY ps e p<0) with|true=>rfl|false=> ?_
 have hp:cV ps=true:=by
  cases hp:cV ps with
  |true=>rfl
  |false=>unfold eY K3 at hd;rw [hp] at hd;simp at hd
 have h1:1≤ps.length:=by
  simp only [cV,Bool.and_eq_true,aR] at hp;omega
 simp only [cond_false]
 refine bB (fun i=>((sS ps p i:Int),((i+1:Nat):Int))) (ps.length-1) (by omega) (fun i nx hi=> ?_) (fun nx=> ?_)
 ·have hj:i+1<ps.length:=by omega
  simp only [fP]
  rw [decide_eq_true (by omega),ay hj,wrap64 (by omega) (by omega),sS,aM hj]
  simp only [cond_true,ab]
  cases ps[i+1].1==p.1<;>rfl
 ·simp only [fP]
  rw [decide_eq_false (by omega),cond_false]
  generalize hv:eY ps e p=v
  have hsw:px ps e p=(List.range ps.length).filter fun j=>yw ps e v j&&((j==sS ps p (ps.length-1))||Sh p):=by rw [px,hv]
  rw [hsw]
  generalize hq:(fun j=>yw ps e v j&&((j==sS ps p (ps.length-1))||Sh p))=q
  refine bB (fun i=>(dy (((List.range ps.length).take i).filter q),(i:Int))) ps.length (by omega) (fun i nx hi=> ?_) (fun nx=> ?_)
  ·have hvv:=z.v _ (List.getElem_mem hi)
   have hi2:i<(List.range ps.length).length:=by simpa using hi
   have hf:=Eh (q:=q) (List.range ps.length) i
   simp only [eU]
   rw [decide_eq_true (by omega),ay hi,wrap64 (by omega) (by omega)]
   simp only [cond_true,ab,wa _ _ hvv]
   rw [BT (List.range ps.length) i hi2,List.getElem_range]
   have eq:q i=(((i:Int) !=e)&&hasB ps[i].2.1 v&&(((i:Int)==(sS ps p (ps.length-1):Int))||(p.1==281474976710655))):=by
    rw [←hq]
    simp only [yw,aM hi,Sh]
    congr 2
    rw [Bool.eq_iff_iff,beq_iff_eq,beq_iff_eq];omega
   have hr:∀k:Option (List Int),room (List.length (dy (((List.range ps.length).take i).filter q))+List.length ([(i:Int)])) k=k:=fun k=>aq (by simp only [dy,List.length_map,List.length_singleton];rw [List.length_range] at hf;omega)
   rw [eq]
   cases (i:Int) !=e with|false=>rfl|true=> ?_
   cases hasB ps[i].2.1 v with|false=>rfl|true=> ?_
   simp only [cond_true,ab,Bool.true_and]
   cases ((i:Int)==(sS ps p (ps.length-1):Int))<;>cases p.1==281474976710655<;>simp only [cond_true,cond_false,ab,Bool.or_self,Bool.or_true,Bool.true_or]<;>first|rfl|(rw [hr];simp [dy])
  ·simp only [eU]
   rw [decide_eq_false (by omega),List.take_of_length_le (by simp)];rfl
theorem Gx (q:Nat→Bool):∀l:List Nat,(vn q l= -1∧∀j∈l,q j=false)∨∃j∈l,q j=true∧vn q l=(j:Int)
 |[]=> .inl ⟨rfl,by simp⟩
 |j::l=>by
  rw [vn]
  cases hj:q j with
  |true=>exact .inr ⟨j,by simp,hj,rfl⟩
  |false=>
   simp only [cond_false]
   rcases Gx q l with ⟨h1,h2⟩|⟨k,h1,h2,h3⟩
   ·exact .inl ⟨h1,by intro k hk;rcases List.mem_cons.1 hk with rfl|hk;exact hj;exact h2 k hk⟩
   ·exact .inr ⟨k,by simp [h1],h2,h3⟩
theorem Ev {ps:List Port}{p:ax}:∀i,(∀j,1≤j→j≤i→((ps.getD j eX).1==p.1)=false)→sS ps p i=0
 |0,_=>rfl
 |i+1,h=>by rw [sS,h (i+1) (by omega) (by omega)];exact Ev i fun j h1 h2=>h j h1 (by omega)
theorem GF {ps:List Port}{p:ax}{k:Nat}(hk:1≤k)(h:((ps.getD k eX).1==p.1)=true):∀i,k≤i→(∀j,1≤j→j≤i→((ps.getD j eX).1==p.1)=true→j=k)→sS ps p i=k
 |0,hi,_=>by omega
 |i+1,hi,hu=>by
  rw [sS]
  by_cases he:k=i+1
  ·rw [←he,h];rfl
  ·cases hq:(ps.getD (i+1) eX).1==p.1 with
   |true=>have:=hu (i+1) (by omega) (by omega) hq;omega
   |false=>exact GF hk h i (by omega) fun j h1 h2=>hu j h1 (by omega)
theorem PQ {ps:List Port}(hp:cV ps=true){i j:Nat}(h1:1≤i)(hij:i<j)(hj:j<ps.length):((ps.getD i eX).1==(ps.getD j eX).1)=false:=by
 simp only [cV,Bool.and_eq_true,List.all_eq_true,List.mem_range,Ar,Bool.not_eq_true'] at hp
 have:=(hp.2 j hj).2 i hij
 simp only [Bool.and_eq_false_iff,bne_eq_false_iff_eq] at this
 rcases this with h|h
 ·omega
 ·exact h
theorem filter_one {q:Nat→Bool}{k n:Nat}(hk:k<n):(List.range n).filter (fun j=>q j&&(j==k))=[k].filter q:=by
 have h1:(List.range n).filter (fun j=>j==k)=[k]:=by
  induction n with
  |zero=>omega
  |succ n ih=>
   rw [List.range_succ,List.filter_append]
   by_cases he:k=n
   ·subst he
    have:(List.range k).filter (fun j=>j==k)=[]:=by
     rw [List.filter_eq_nil_iff];intro j hj;have:=List.mem_range.1 hj;simp;omega
    rw [this];simp
   ·rw [ih (by omega)]
    have:([n]:List Nat).filter (fun j=>j==k)=[]:=by simp;omega
    rw [this];rfl
 have h2:(fun j=>q j&&(j==k))=fun j=>q j&&(fun j=>j==k) j:=rfl
 rw [h2,←List.filter_filter,h1]
theorem Lo (ps:List Port)(e:Int)(p:ax)(z:pQ ps):js ps e p=some (yd ps e p):=by
 have hn:=z.n
 unfold js yd
 rw [EA ps e p z,ab]
 cases hd:decide (eY ps e p<0) with|true=>rfl|false=> ?_
 have hp:cV ps=true:=by
  cases hp:cV ps with
  |true=>rfl
  |false=>unfold eY K3 at hd;rw [hp] at hd;simp at hd
 have h1:1≤ps.length∧ps.length≤8:=by
  simp only [cV,Bool.and_eq_true,aR] at hp;omega
 have hmac:∀j,j<ps.length→(ps.getD j eX).1≤281474976710654:=by
  intro j hj
  simp only [cV,Bool.and_eq_true,List.all_eq_true,List.mem_range,Ar,CH,fB,aR] at hp
  exact (hp.2 j hj).1.1.2.1.2
 simp only [cond_false,Lq ps p.1 hn,ab]
 generalize hv:eY ps e p=v
 have hsw:px ps e p=(List.range ps.length).filter fun j=>yw ps e v j&&((j==sS ps p (ps.length-1))||Sh p):=by rw [px,hv]
 rw [hsw]
 have hbcase:Sh p=true→∀j,j<ps.length→((ps.getD j eX).1==p.1)=false:=by
  intro hb j hj
  have:=hmac j hj
  have hb:p.1=281474976710655:=by simpa [Sh] using hb
  rw [hb,beq_eq_false_iff_ne];omega
 rcases Gx (fun j=>(j !=0)&&((ps.getD j eX).1==p.1)) (List.range' 0 ps.length) with ⟨hf,hno⟩|⟨k,hk,hq,hf⟩
 ·have hno:∀j,1≤j→j<ps.length→((ps.getD j eX).1==p.1)=false:=by
   intro j h2 h3
   have:=hno j (by simp;omega)
   simp only [Bool.and_eq_false_iff,bne_eq_false_iff_eq] at this
   rcases this with h|h
   ·omega
   ·exact h
  have hh:sS ps p (ps.length-1)=0:=Ev _ fun j h2 h3=>hno j h2 (by omega)
  rw [hf,show decide ((-1:Int)≥0)=false from rfl,cond_false,hh]
  rw [show (p.1==281474976710655)=Sh p from rfl]
  cases hb:Sh p with
  |true=>
   simp only [cond_true,Bool.or_true,Bool.and_true]
   refine bB (fun i=>(dy (List.range i),(i:Int))) ps.length (by omega) (fun i nx hi=> ?_) (fun nx=> ?_)
   ·simp only [eT]
    rw [decide_eq_true (by omega),aq (by simp only [dy,List.length_map,List.length_range,List.length_singleton];omega),wrap64 (by omega) (by omega),List.range_succ]
    simp only [cond_true,dy,List.map_append];rfl
   ·simp only [eT]
    rw [decide_eq_false (by omega),cond_false]
    exact EB ps e v (List.range ps.length) (by simp;omega) (fun j hj=>List.mem_range.1 hj) z
  |false=>
   simp only [cond_false,Bool.or_false]
   rw [filter_one (by omega)]
   exact EB ps e v [0] (by simp) (by simp;omega) z
 ·have hkl:k<ps.length:=by simp at hk;omega
  simp only [Bool.and_eq_true,bne_iff_ne] at hq
  have hb:Sh p=false:=by
   cases hb:Sh p with
   |false=>rfl
   |true=>rw [hbcase hb k hkl] at hq;cases hq.2
  have hh:sS ps p (ps.length-1)=k:=GF (by omega) hq.2 _ (by omega) fun j h2 h3 h4=>by
   rcases Nat.lt_trichotomy j k with g|g|g
   ·have:=PQ hp h2 g hkl
    have a:=beq_iff_eq.1 h4;have b:=beq_iff_eq.1 hq.2
    rw [a,b] at this;simp at this
   ·exact g
   ·have:=PQ hp (show 1≤k by omega) g (show j<ps.length by omega)
    have a:=beq_iff_eq.1 h4;have b:=beq_iff_eq.1 hq.2
    rw [a,b] at this;simp at this
  rw [hf,decide_eq_true (by omega),cond_true,hh,hb]
  simp only [Bool.or_false]
  rw [filter_one hkl]
  exact EB ps e v [k] (by simp) (by simp;omega) z
theorem Cd {ps:List Port}{e:Int}{p:ax}:∀j∈px ps e p,j<ps.length:=fun j hj=>List.mem_range.1 (List.mem_filter.1 hj).1
theorem xx (ps:List Port)(e:Int)(p:ax):(px ps e p).length≤ps.length:=Nat.le_trans (List.length_filter_le _ _) (by simp)
theorem PZ (ms:List aC):pQ (di ms).1:=⟨(xU ms).1,(xU ms).2⟩
end
end Go.Pu
end
section
namespace Go.Pu
open Go.Dn
set_option linter.unusedSimpArgs false
set_option linter.unusedVariables false
noncomputable section
theorem zQ (c:br)(z:aK 1000000000 bU c):l4 c=some c:=by
 have h0:c.1.length≤1000000000:=z.1.1
 unfold l4
 simp only [zR _ z.2.1.1,FQ _ z.2.2.1.1 (fun m hm=>(z.2.2.1.2 m hm).1.2.2.1),sW,ri _ z.2.2.2.1.1,jL _ z.2.2.2.2.2.1.1,ri _ z.2.2.2.2.2.2.1,ab]
 refine (bB (fun i=>((i:Int),c.1.take i,c.2)) c.1.length (by omega) (fun i nx hi=> ?_) (fun nx=> ?_))
 ·simp only [kY]
  rw [decide_eq_true (by omega),ay hi,wrap64 (by omega) (by omega)]
  simp only [cond_true,ab,zS _ (z.1.2 _ (List.getElem_mem hi))]
  rw [aq (by simp;omega),←List.take_succ_eq_append_getElem hi];rfl
 ·simp only [kY]
  rw [decide_eq_false (by omega),List.take_length];rfl
theorem JE (c:br)(z:aK 1000000000 bU c):sB c=some c:=by
 have h0:c.1.length≤1000000000:=z.1.1
 have h1:c.2.2.1.length≤1000000000:=z.2.2.1.1
 unfold sB
 simp only [bV z.2.1.1,bV z.2.2.2.1.1,bV z.2.2.2.2.2.1.1,bV z.2.2.2.2.2.2.1,List.nil_append]
 refine (bB (fun i=>((i:Int),c.1.take i,c.2.1,([]:List aC),c.2.2.2)) c.1.length (by omega) (fun i nx hi=> ?_) (fun nx=> ?_))
 ·simp only [m6]
  rw [decide_eq_true (by omega),ay hi,wrap64 (by omega) (by omega)]
  simp only [cond_true,ab,AA _ (z.1.2 _ (List.getElem_mem hi))]
  rw [aq (by simp;omega),←List.take_succ_eq_append_getElem hi];rfl
 ·simp only [m6]
  rw [decide_eq_false (by omega),List.take_length]
  refine (bB (fun i=>((i:Int),c.1,c.2.1,c.2.2.1.take i,c.2.2.2)) c.2.2.1.length (by omega) (fun i nx hi=> ?_) (fun nx=> ?_))
  ·simp only [m7]
   rw [decide_eq_true (by omega),ay hi,wrap64 (by omega) (by omega)]
   simp only [cond_true,ab,Cz _ (z.2.2.1.2 _ (List.getElem_mem hi)).1.2.2.1]
   rw [aq (by simp;omega),←List.take_succ_eq_append_getElem hi];rfl
  ·simp only [m7]
   rw [decide_eq_false (by omega),List.take_length];rfl
end
end Go.Pu
end
section
namespace Go.Pu
open Go.Dn
set_option linter.unusedSimpArgs false
set_option linter.unusedVariables false
noncomputable section
structure zv (n:Nat) (c:br):Prop where
 z:aK n bU c
 h:∀x∈c.1,M0 n x
theorem zv.mono {n m:Nat}{c:br}(k:zv n c)(hn:n≤m):zv m c:=⟨k.z.mono hn,fun x hx=>(k.h x hx).mono hn⟩
theorem zv.sz {n:Nat}{c:br}(k:zv n c)(hn:n≤1000000000):MZ c:=by
 have z:aK 1000000000 bU c:=k.z.mono hn
 exact ⟨z.1.1,z.2.1.1,fun m hm=>(z.2.2.1.2 m hm).1.2.2.1,fun x hx=>(k.h x hx).sz hn⟩
theorem zv.of {c:br}(k:dV bU c≤1048576):zv 1048576 c:=by
 refine ⟨ye k,fun h hh=>M0.of ?_⟩
 have h1:=zb (dV ba) c.1 h hh
 have h2:(c.1.map (dV ba)).sum≤dV bU c:=by
  show _≤(c.1.length+(c.1.map (dV ba)).sum)+_
  omega
 omega
theorem vh {c:br}(h:pz c=true):(di c.2.2.1).1.length=c.1.length+1∧(di c.2.2.1).1.length≤8∧c.1.length≤3:=by
 unfold pz at h
 simp only [Bool.and_eq_true] at h
 have hl:=(Bq h.2.1).1
 have h2:=h.1
 have h3:=L2 h2
 unfold di at h2⊢
 cases hc:bc (c.2.2.1.length:Int) 1 3&&(c.2.2.1.all nw&&cV (uh c.2.2.1)) with
 |false=>rw [hc] at h2;cases h2
 |true=>
  simp only [Bool.and_eq_true] at hc
  have:=(Er c.2.2.1 0 ([0],[]) ⟨by simp,rfl,by simp⟩ hc.2.1).2.1
  have h8:=hc.2.2
  simp only [cV,Bool.and_eq_true,aR] at h8
  simp only [cond_true]
  refine ⟨?_,by omega,by omega⟩
  simp only [uh,List.length_cons]
  rw [this,hl];omega
def YH (c:br)(f:Bytes):br:=(c.1,c.2.1,c.2.2.1,c.2.2.2.1,c.2.2.2.2.1,c.2.2.2.2.2.1,c.2.2.2.2.2.2++[f])
def aln (c:br)(k:Nat)(h:Host):br:=(c.1.set k h,c.2)
def aV (ps:List Port)(v:Int)(p:ax)(c:br)(j:Nat):br:=
 bif j==0 then YH c (vo (uB ps (j:Int) v p)).1 else
 match c.1[j-1]? with
 |some h=>aln c (j-1) (oU h (vo (uB ps (j:Int) v p)).1)
 |none=>c
theorem Xq {n:Nat}{c:br}{k:Nat}{h:Host}(z:zv n c)(zh:M0 n h):zv n (aln c k h):=by
 refine ⟨⟨EL z.z.1 zh.z,z.z.2⟩,fun x hx=> ?_⟩
 rcases List.mem_or_eq_of_mem_set hx with g|g
 ·exact z.h x g
 ·rw [g];exact zh
theorem Wp {n:Nat}{c:br}{f:Bytes}(z:zv n c)(hf:f.length≤n):zv (n+1) (YH c f):=by
 have z':=z.mono (show n≤n+1 by omega)
 refine ⟨⟨z'.z.1,z'.z.2.1,z'.z.2.2.1,z'.z.2.2.2.1,z'.z.2.2.2.2.1,z'.z.2.2.2.2.2.1, ?_⟩,z'.h⟩
 exact GU (t:= .str) (k:=1) z.z.2.2.2.2.2.2 (fun y hy=>by rw [List.mem_singleton.1 hy];exact hf) (by simp)
theorem Uh {n:Nat}(hn:1000≤n){ps:List Port}{v:Int}{p:ax}{c:br}{j:Nat}(z:zv n c):zv (n+1) (aV ps v p c j)∧(aV ps v p c j).1.length=c.1.length:=by
 have hf:=Bk (uB ps (j:Int) v p)
 unfold aV
 cases j==0 with
 |true=>exact ⟨Wp z (by omega),rfl⟩
 |false=>
  simp only [cond_false]
  cases hx:c.1[j-1]? with
  |none=>exact ⟨z.mono (by omega),rfl⟩
  |some h=>
   have hr:=Mb hn (vo (uB ps (j:Int) v p)).1 (z.h h (List.mem_of_getElem? hx))
   exact ⟨(Xq z hr.1).mono (by omega),List.length_set ..⟩
def Cv (ps:List Port)(v:Int)(p:ax)(c:br)(l:List Nat):br:=l.foldl (aV ps v p) c
theorem CK {ps:List Port}{v:Int}{p:ax}:∀(l:List Nat){c:br}{n:Nat},1000≤n→zv n c→zv (n+l.length) (Cv ps v p c l)∧(Cv ps v p c l).1.length=c.1.length
 |[],c,n,_,z=>⟨z,rfl⟩
 |j::l,c,n,hn,z=>by
  have h1:=Uh (ps:=ps) (v:=v) (p:=p) (j:=j) hn z
  have:=CK (ps:=ps) (v:=v) (p:=p) l (show 1000≤n+1 by omega) h1.1
  exact ⟨this.1.mono (by simp only [List.length_cons];omega),this.2.trans h1.2⟩
theorem G9 (ps:List Port)(v:Int)(p:ax)(c:br)(l:List Nat)(i:Nat)(hi:i<l.length):Cv ps v p c (l.take (i+1))=aV ps v p (Cv ps v p c (l.take i)) l[i]:=by
 rw [List.take_succ_eq_append_getElem hi,Cv,List.foldl_append];rfl
theorem BW {R:Type}(K:br→Option R)(ps:List Port)(v:Int)(p:ax)(c B:br)(l:List Nat)(hl:l.length≤8)(hj:∀j∈l,j≤c.1.length)(z:zv 800000000 c)(zp:pQ ps):
 ar (eJ (fun (_:Int) (y16:br)=>K y16) ps v (dy l) ((dy l).length:Int) p B) fuel (0,c)=K (Cv ps v p c l):=by
 refine bB (fun i=>((i:Int),Cv ps v p c (l.take i))) l.length (by omega) (fun i nx hi=> ?_) (fun nx=> ?_)
 ·have hi2:i<(dy l).length:=by simpa [dy] using hi
  have e1:(dy l)[i]'hi2=(l[i]:Int):=by simp [dy]
  have hz:=CK (ps:=ps) (v:=v) (p:=p) (l.take i) (by omega) z
  have hzz:=hz.1.mono (show 800000000+(l.take i).length≤900000000 by rw [List.length_take];omega)
  have hji:=hj _ (List.getElem_mem hi)
  have hfr:=Bk (uB ps (l[i]:Int) v p)
  rw [G9 ps v p c l i hi]
  have hn:=hz.2
  generalize Cv ps v p c (l.take i)=W at hn hzz⊢
  have hw:W.2.2.2.2.2.2.length≤900000000:=hzz.z.2.2.2.2.2.2.1
  simp only [eJ]
  rw [decide_eq_true (by simpa [dy] using hi),ay hi2,e1,wrap64 (n:=(i:Int)+1) (by omega) (by omega)]
  simp only [cond_true,ab,QY ps _ v p zp,QW,aV]
  have hcl:c.1.length≤800000000:=z.z.1.1
  by_cases h0:l[i]=0
  ·rw [show ((l[i]:Int)==0)=true from by simp [h0],show (l[i]==0)=true from by simp [h0]]
   simp only [cond_true]
   rw [aq (by simp only [List.length_singleton];omega)];rfl
  ·rw [show ((l[i]:Int)==0)=false from by simp [h0],show (l[i]==0)=false from by simp [h0]]
   have hk:l[i]-1<W.1.length:=by omega
   rw [wrap64 (n:=(l[i]:Int)-1) (by omega) (by omega),show (l[i]:Int)-1=((l[i]-1:Nat):Int) by omega]
   simp only [cond_false,ay hk,ab,I9 _ _ (hzz.h _ (List.getElem_mem hk)) (Nat.le_trans hfr (by omega)),Int.toNat_natCast,List.getElem?_eq_getElem hk];rfl
 ·simp only [eJ]
  rw [decide_eq_false (by simp [dy]),cond_false,List.take_length]
theorem B7 {R:Type}(K:br→Option R)(ps:List Port)(v:Int)(p:ax)(c:br)(l:List Nat)(hl:l.length≤8)(hj:∀j∈l,j≤c.1.length)(z:zv 800000000 c)(zp:pQ ps):
 ar (fQ (fun (_:Int) (y15:br)=>K y15) ps (dy l) v p) fuel (0,c)=K (Cv ps v p c l):=by
 refine bB (fun i=>((i:Int),Cv ps v p c (l.take i))) l.length (by omega) (fun i nx hi=> ?_) (fun nx=> ?_)
 ·have hi2:i<(dy l).length:=by simpa [dy] using hi
  have e1:(dy l)[i]'hi2=(l[i]:Int):=by simp [dy]
  have hz:=CK (ps:=ps) (v:=v) (p:=p) (l.take i) (by omega) z
  have hzz:=hz.1.mono (show 800000000+(l.take i).length≤900000000 by rw [List.length_take];omega)
  have hji:=hj _ (List.getElem_mem hi)
  have hfr:=Bk (uB ps (l[i]:Int) v p)
  rw [G9 ps v p c l i hi]
  have hn:=hz.2
  generalize Cv ps v p c (l.take i)=W at hn hzz⊢
  have hw:W.2.2.2.2.2.2.length≤900000000:=hzz.z.2.2.2.2.2.2.1
  simp only [fQ]
  rw [decide_eq_true (by simpa [dy] using hi),ay hi2,e1,wrap64 (n:=(i:Int)+1) (by omega) (by omega)]
  simp only [cond_true,ab,RQ ps _ v p zp,RP,aV]
  have hcl:c.1.length≤800000000:=z.z.1.1
  by_cases h0:l[i]=0
  ·rw [show ((l[i]:Int)==0)=true from by simp [h0],show (l[i]==0)=true from by simp [h0]]
   simp only [cond_true]
   rw [aq (by simp only [List.length_singleton];omega)];rfl
  ·rw [show ((l[i]:Int)==0)=false from by simp [h0],show (l[i]==0)=false from by simp [h0]]
   have hk:l[i]-1<W.1.length:=by omega
   rw [wrap64 (n:=(l[i]:Int)-1) (by omega) (by omega),show (l[i]:Int)-1=((l[i]-1:Nat):Int) by omega]
   simp only [cond_false,ay hk,ab,JJ _ _ (hzz.h _ (List.getElem_mem hk)) (Nat.le_trans hfr (by omega)),Int.toNat_natCast,List.getElem?_eq_getElem hk];rfl
 ·simp only [fQ]
  rw [decide_eq_false (by simp [dy]),cond_false,List.take_length]
def qZ (c:br)(e:Int)(p:ax):br:=
 bif decide (eY (di c.2.2.1).1 e p<0) then c else Cv (di c.2.2.1).1 (eY (di c.2.2.1).1 e p) p c (px (di c.2.2.1).1 e p)
def JO (c:br)(e:Int)(p:ax):br:=bif pz c&&cA p then qZ c e p else c
theorem Mt (c:br)(e:Int)(p:ax)(k:zv 800000000 c)(h:pz c=true):kE c e p=some ((),qZ c e p):=by
 have z9:aK 1000000000 bU c:=k.z.mono (by omega)
 have hn:=vh h
 have zp:=PZ c.2.2.1
 unfold kE qZ
 simp only [B9 _ (fun m hm=>(z9.2.2.1.2 m hm).1.2.2.1),ab,Ff _ e p zp,Mu _ e p zp]
 generalize (di c.2.2.1).1=ps at hn zp⊢
 unfold yd
 cases decide (eY ps e p<0) with
 |true=>exact B7 (fun c=>some ((),c)) ps (eY ps e p) p c [] (by simp) (by simp) k zp
 |false=>exact B7 (fun c=>some ((),c)) ps (eY ps e p) p c (px ps e p) (by have:=xx ps e p;omega) (fun j hj=>by have:=Cd j hj;omega) k zp
theorem Ey (c:br)(e:Int)(p:ax)(k:zv 800000000 c):iC c e p=some (JO c e p):=by
 have z9:aK 1000000000 bU c:=k.z.mono (by omega)
 unfold iC JO
 simp only [zQ c z9,Ld c (k.sz (by omega)),sT,ab]
 cases h:pz c with|false=>rfl|true=> ?_
 cases cA p with|false=>rfl|true=> ?_
 have hn:=vh h
 have zp:=PZ c.2.2.1
 unfold qZ
 simp only [Bool.not_true,cond_false,ab,Bool.and_self,cond_true,BX _ (fun m hm=>(z9.2.2.1.2 m hm).1.2.2.1),EA _ e p zp,Lo _ e p zp]
 generalize (di c.2.2.1).1=ps at hn zp⊢
 unfold yd
 cases decide (eY ps e p<0) with
 |true=>exact BW (fun c=>some c) ps (eY ps e p) p c _ [] (by simp) (by simp) k zp
 |false=>exact BW (fun c=>some c) ps (eY ps e p) p c _ (px ps e p) (by have:=xx ps e p;omega) (fun j hj=>by have:=Cd j hj;omega) k zp
theorem MB {n:Nat}(hn:1000≤n){c:br}{e:Int}{p:ax}(z:zv n c)(h:pz c=true):zv (n+8) (qZ c e p)∧(qZ c e p).1.length=c.1.length:=by
 have h3:=vh h
 unfold qZ
 generalize (di c.2.2.1).1=ps at h3⊢
 cases decide (eY ps e p<0) with
 |true=>exact ⟨z.mono (by omega),rfl⟩
 |false=>
  have h8:=xx ps e p
  have:=CK (ps:=ps) (v:=eY ps e p) (p:=p) (px ps e p) hn z
  exact ⟨this.1.mono (by omega),this.2⟩
def xv (c:br):br:=(c.1,c.2.1,c.2.2.1,c.2.2.2.1,c.2.2.2.2.1,c.2.2.2.2.2.1++[c.2.2.2.2.1.1],c.2.2.2.2.2.2)
def kx (c:br)(x:Bytes):br:=bif !pz c then c else bif (lK x).2==0 then qZ (xv c) 0 (lK x).1 else xv c
theorem BM {n:Nat}{c:br}(z:zv n c):zv (n+1) (xv c):=by
 have z':=z.mono (show n≤n+1 by omega)
 refine ⟨⟨z'.z.1,z'.z.2.1,z'.z.2.2.1,z'.z.2.2.2.1,z'.z.2.2.2.2.1, ?_,z'.z.2.2.2.2.2.2⟩,z'.h⟩
 exact GU (t:= .int .i64) (k:=1) z.z.2.2.2.2.2.1 (fun _ _=>trivial) (by simp)
theorem Js {x:Bytes}(h:((lK x).2==0)=true):cA (lK x).1=true:=by
 unfold lK at h⊢
 simp only at h⊢
 cases h1:(re x).2 with|false=>rw [h1] at h;cases h|true=> ?_
 rw [h1] at h
 simp only [Bool.not_true,cond_false] at h⊢
 cases h2:(Au (re x).1).2 !=0 with
 |true=>
  rw [h2] at h
  simp only [bne,cond_true] at h h2
  rw [h] at h2;cases h2
 |false=>
  rw [h2] at h
  simp only [cond_false] at h⊢
  cases h3:cA (Au (re x).1).1 with
  |false=>rw [h3] at h;cases h
  |true=>exact h3
theorem Co (c:br)(x:Bytes)(k:zv 700000000 c)(hx:x.length≤1000000000):gB c x=some (kx c x):=by
 have hl:c.2.2.2.2.2.1.length≤700000000:=k.z.2.2.2.2.2.1.1
 have ks:=(BM k).mono (show 700000000+1≤800000000 by omega)
 unfold gB kx
 rw [zQ c (k.z.mono (by omega)),ab,Ld c (k.sz (by omega)),ab]
 cases h:pz c with|false=>rfl|true=> ?_
 have hs:pz (xv c)=true:=h
 simp only [Bool.not_true,cond_false]
 rw [aq (by rw [List.length_singleton];omega),GL x hx,ab]
 have hp:=Js (x:=x)
 generalize lK x=f at hp⊢
 cases hf:f.2==0 with|false=>rfl|true=> ?_
 have e:=Ey (xv c) 0 f.1 ks
 unfold JO at e
 rw [hs,hp hf] at e
 simp only [Bool.and_self,cond_true] at e⊢
 rw [show iC (c.1,c.2.1,c.2.2.1,c.2.2.2.1,c.2.2.2.2.1,c.2.2.2.2.2.1++[c.2.2.2.2.1.1],c.2.2.2.2.2.2) 0 f.1=_ from e,ab]
theorem Cy (c:br)(x:Bytes)(k:zv 700000000 c)(hx:x.length≤1000000000):ln c x=some (kx c x):=by
 have hl:c.2.2.2.2.2.1.length≤700000000:=k.z.2.2.2.2.2.1.1
 have ks:=(BM k).mono (show 700000000+1≤800000000 by omega)
 unfold ln kx
 rw [JE c (k.z.mono (by omega)),ab,T3 c (k.sz (by omega)),ab]
 cases h:pz c with|false=>rfl|true=> ?_
 have hs:pz (xv c)=true:=h
 simp only [Bool.not_true,cond_false]
 rw [aq (by rw [List.length_singleton];omega),Hl x hx,ab]
 generalize lK x=f
 cases hf:f.2==0 with|false=>rfl|true=> ?_
 have e:=Mt (xv c) 0 f.1 ks hs
 simp only [cond_true]
 rw [show kE (c.1,c.2.1,c.2.2.1,c.2.2.2.1,c.2.2.2.2.1,c.2.2.2.2.2.1++[c.2.2.2.2.1.1],c.2.2.2.2.2.2) 0 f.1=_ from e,ab]
theorem B5 {n:Nat}(hn:1000≤n){c:br}(x:Bytes)(z:zv n c):zv (n+9) (kx c x)∧(kx c x).1.length=c.1.length:=by
 unfold kx
 cases h:pz c with|false=>exact ⟨z.mono (by omega),rfl⟩|true=> ?_
 have zs:=BM z
 simp only [Bool.not_true,cond_false]
 cases (lK x).2==0 with
 |true=>
  have:=MB (show 1000≤n+1 by omega) (e:=0) (p:=(lK x).1) zs (show pz (xv c)=true from h)
  exact ⟨this.1,this.2⟩
 |false=>exact ⟨zs.mono (by omega),rfl⟩
end
end Go.Pu
end
section
namespace Go.Pu
open Go.Dn
noncomputable section
theorem yx {R:Type}(K:Int→Bytes→Option R):∀(n:Nat)(v:Int)(s:Bytes)(m:Nat),0≤v→v≤1000000000000000→v<10^n→s.length+n≤1000→n<m→∃s':Bytes,s'.length≤1000∧∃v',ar (lf K) m (v,s)=K v' s'
 |0,v,s,m,h0,_,h1,hs,hm=>by
  have hv:v=0:=by simp at h1;omega
  subst hv
  cases m with
  |zero=>omega
  |succ m=>exact ⟨s,by omega,0,by rw [ar];rfl⟩
 |n+1,v,s,m,h0,hb,h1,hs,hm=>by
  cases m with
  |zero=>omega
  |succ m=>
   rw [ar]
   simp only [lf]
   by_cases hv:v>0
   ·have hq:Int.tdiv v 10=v/10:=Int.tdiv_eq_ediv_of_nonneg h0
    rw [decide_eq_true hv]
    simp only [cond_true]
    rw [if_neg (by omega),aq (by simp [bytesOf];omega),if_neg (by omega),hq,wrap64 (n:=v/10) (by omega) (by omega)]
    exact yx K n (v/10) _ m (by omega) (by omega) (by rw [Int.pow_succ] at h1;omega) (by simp [bytesOf];omega) (by omega)
   ·rw [decide_eq_false hv]
    exact ⟨s,by omega,v,rfl⟩
theorem FY (k:Int)(h1:1≤k)(h2:k≤1000000000000000):∃s,aH k=some s:=by
 have hfu:=bQ
 unfold aH
 rw [decide_eq_false (by omega)]
 simp only [cond_false]
 obtain ⟨s,hs,v,h⟩:=yx (fun (_:Int) (y2:Bytes)=>room (List.length ([109]:Bytes)+List.length y2) (some (([109]:Bytes)++y2))) 16 k [] fuel (by omega) h2 (by omega) (by simp) (by omega)
 rw [h,aq (by simp;omega)]
 exact ⟨_,rfl⟩
def XJ (k:Int):Bytes:=(aH k).getD []
theorem dr (k:Int)(h1:1≤k)(h2:k≤1000000000000000):aH k=some (XJ k):=by
 obtain ⟨s,hs⟩:=FY k h1 h2
 rw [XJ,hs];rfl
def jJ:(t:CT)→t.D→Nat
 | .int _,_=>1
 | .bool,_=>1
 | .str,_=>1
 | .sl e,xs=>(xs.map (jJ e)).sum
 | .pair a b,x=>jJ a x.1+jJ b x.2
def mkL {α:Type}(f:α→Int→α)(c:α→Nat):List α→Int→List α
 |[],_=>[]
 |x::xs,k=>f x k::mkL f c xs (k+c x)
def mk:(t:CT)→t.D→Int→t.D
 | .int _,_,k=>k
 | .bool,_,k=>Int.tmod k 3==0
 | .str,_,k=>XJ k
 | .sl e,xs,k=>mkL (mk e) (jJ e) xs k
 | .pair a b,x,k=>(mk a x.1 k,mk b x.2 (k+jJ a x.1))
def eB:(t:CT)→t.D→Nat
 | .int _,_=>0
 | .bool,_=>0
 | .str,_=>0
 | .sl e,xs=>jJ (.sl e) xs
 | .pair a b,x=>eB a x.1+eB b x.2
def JZ:(t:CT)→t.D→Int→t.D
 | .int _,x,_=>x
 | .bool,x,_=>x
 | .str,x,_=>x
 | .sl e,xs,k=>mk (.sl e) xs k
 | .pair a b,x,k=>(JZ a x.1 k,JZ b x.2 (k+eB a x.1))
theorem Bv {k:IntKind}(x k':Int):mk (.int k) x k'=k':=rfl
theorem xR (x:Bool)(k:Int):mk .bool x k=(Int.tmod k 3==0):=rfl
theorem Bw (x:Bytes)(k:Int):mk .str x k=XJ k:=rfl
theorem ug {a b:CT}(x:a.D×b.D)(k:Int):mk (.pair a b) x k=(mk a x.1 k,mk b x.2 (k+jJ a x.1)):=rfl
theorem fu {k:IntKind}(x:Int):jJ (.int k) x=1:=rfl
theorem dC (x:Bool):jJ .bool x=1:=rfl
theorem fw (x:Bytes):jJ .str x=1:=rfl
theorem dD {a b:CT}(x:a.D×b.D):jJ (.pair a b) x=jJ a x.1+jJ b x.2:=rfl
theorem PU {k:IntKind}(x k':Int):JZ (.int k) x k'=x:=rfl
theorem LC (x:Bool)(k:Int):JZ .bool x k=x:=rfl
theorem PV (x:Bytes)(k:Int):JZ .str x k=x:=rfl
theorem LD {a b:CT}(x:a.D×b.D)(k:Int):JZ (.pair a b) x k=(JZ a x.1 k,JZ b x.2 (k+eB a x.1)):=rfl
theorem Kd {k:IntKind}(x:Int):eB (.int k) x=0:=rfl
theorem Gn (x:Bool):eB .bool x=0:=rfl
theorem Ke (x:Bytes):eB .str x=0:=rfl
theorem Gp {a b:CT}(x:a.D×b.D):eB (.pair a b) x=eB a x.1+eB b x.2:=rfl
theorem ne3:¬(3:Int)=0:=by omega
theorem vj {n:Int}(h:¬n<0):decide (n<0)=false:=decide_eq_false h
theorem h9 {α:Type}{l:List α}{i:Nat}(x:α)(h:i<l.length):idx (l.set i x) (i:Int)=some x:=by
 rw [Py,List.getElem?_set_self h]
theorem GX {e:CT}{T:((List e.D×Int×Int×List e.D)→Option (Int×List e.D))→(List e.D×Int×Int×List e.D)→Option (Int×List e.D)}
 (hs:∀(l:List e.D)(i:Nat)(hi:i<l.length)(k:Int) nx,1≤k→k+jJ e l[i]≤1000000000000000→l.length≤1000000000000→aK 1000000000000 e l[i]→
  T nx (l,k,(i:Int),l)=nx (l.set i (mk e l[i] k),k+jJ e l[i],(i:Int)+1,l.set i (mk e l[i] k)))
 (hf:∀(l:List e.D)(k:Int) nx,T nx (l,k,(l.length:Int),l)=some (k,l)):
 ∀(xs pre:List e.D)(k:Int)(n:Nat),1≤k→k+jJ (.sl e) xs≤1000000000000000→pre.length+xs.length≤1000000000000→(∀x∈xs,aK 1000000000000 e x)→xs.length<n→
  ar T n (pre++xs,k,(pre.length:Int),pre++xs)=some (k+jJ (.sl e) xs,pre++mk (.sl e) xs k)
 |[],pre,k,n,_,_,_,_,hn=>by
  cases n with
  |zero=>omega
  |succ n=>
   rw [ar,List.append_nil,hf]
   simp [jJ,mk,mkL]
 |x::xs,pre,k,n,h1,h2,h3,h4,hn=>by
  cases n with
  |zero=>omega
  |succ n=>
   have hc:jJ (.sl e) (x::xs)=jJ e x+jJ (.sl e) xs:=by simp [jJ]
   have hi:pre.length<(pre++x::xs).length:=by simp
   have hx:(pre++x::xs)[pre.length]=x:=by simp
   simp only [List.length_cons] at h3 hn
   rw [ar,hs _ pre.length hi k _ h1 (by rw [hx];omega) (by simp;omega) (by rw [hx];exact h4 x (by simp)),hx]
   have hset:(pre++x::xs).set pre.length (mk e x k)=(pre++[mk e x k])++xs:=by
    rw [List.set_append_right _ _ (Nat.le_refl _),Nat.sub_self,List.set_cons_zero,List.append_assoc];rfl
   have hl:((pre.length:Int)+1)=(((pre++[mk e x k]).length:Nat):Int):=by simp
   rw [hset,hl,GX hs hf xs _ _ n (by omega) (by omega) (by simp;omega) (fun y hy=>h4 y (by simp [hy])) (by omega)]
   rw [hc]
   congr 1
   refine Prod.ext (by simp only;omega) ?_
   simp only [mk,mkL,List.append_assoc,List.singleton_append]
theorem GD {e:CT}{T:List e.D→((Int×Int)→Option Int)→(Int×Int)→Option Int}
 (hs:∀(l:List e.D)(i:Nat)(hi:i<l.length)(x:e.D)(k:Int) nx,l[i]=mk e x k→1≤k→k+jJ e x≤1000000000000000→l.length≤1000000000000→aK 1000000000000 e x→
  T l nx (k,(i:Int))=nx (k+jJ e x,(i:Int)+1))
 (hf:∀(l:List e.D)(k:Int) nx,T l nx (k,(l.length:Int))=some k):
 ∀(xs pre:List e.D)(k:Int)(n:Nat),1≤k→k+jJ (.sl e) xs≤1000000000000000→pre.length+xs.length≤1000000000000→(∀x∈xs,aK 1000000000000 e x)→xs.length<n→
  ar (T (pre++mk (.sl e) xs k)) n (k,(pre.length:Int))=some (k+jJ (.sl e) xs)
 |[],pre,k,n,_,_,_,_,hn=>by
  cases n with
  |zero=>omega
  |succ n=>
   have:pre++mk (.sl e) ([]:List e.D) k=pre:=by simp [mk,mkL]
   rw [ar,this,hf]
   simp [jJ]
 |x::xs,pre,k,n,h1,h2,h3,h4,hn=>by
  cases n with
  |zero=>omega
  |succ n=>
   have hc:jJ (.sl e) (x::xs)=jJ e x+jJ (.sl e) xs:=by simp [jJ]
   have hm:pre++mk (.sl e) (x::xs) k=(pre++[mk e x k])++mk (.sl e) xs (k+jJ e x):=by simp [mk,mkL]
   have hlen:∀(ys:List e.D)(k:Int),(mk (.sl e) ys k).length=ys.length:=by
    intro ys
    induction ys with
    |nil=>intro k;rfl
    |cons y ys ih=>intro k;have:=ih (k+jJ e y);simp only [mk,mkL,List.length_cons] at this⊢;omega
   simp only [List.length_cons] at h3 hn
   rw [ar,hm,hs _ pre.length (by simp) x k _ (by simp) h1 (by omega) (by have:=hlen xs (k+jJ e x);simp;omega) (h4 x (by simp))]
   have hl:((pre.length:Int)+1)=(((pre++[mk e x k]).length:Nat):Int):=by simp
   rw [hl,GD hs hf xs _ _ n (by omega) (by omega) (by simp;omega) (fun y hy=>h4 y (by simp [hy])) (by omega),hc]
   congr 1
   omega
def HH (t:CT)(mark:t.D→Int→Option (Int×t.D)):Prop:=∀(a:t.D)(_:aK 1000000000000 t a)(k:Int)(_:1≤k)(_:k+jJ t a≤1000000000000000),mark a k=some (k+jJ t a,mk t a k)
def HG (t:CT)(held:t.D→Int→Option Int):Prop:=∀(a:t.D)(_:aK 1000000000000 t a)(k:Int)(_:1≤k)(_:k+jJ t a≤1000000000000000),held (mk t a k) k=some (k+jJ t a)
theorem Jf {e:CT}{T:((List e.D×Int×Int×List e.D)→Option (Int×List e.D))→(List e.D×Int×Int×List e.D)→Option (Int×List e.D)}
 (hs:∀(l:List e.D)(i:Nat)(hi:i<l.length)(k:Int) nx,1≤k→k+jJ e l[i]≤1000000000000000→l.length≤1000000000000→aK 1000000000000 e l[i]→
  T nx (l,k,(i:Int),l)=nx (l.set i (mk e l[i] k),k+jJ e l[i],(i:Int)+1,l.set i (mk e l[i] k)))
 (hf:∀(l:List e.D)(k:Int) nx,T nx (l,k,(l.length:Int),l)=some (k,l)):HH (.sl e) (fun a k=>ar T fuel (a,k,0,a)):=by
 have hfu:=bQ
 intro a h k h1 h2
 have hl:a.length≤1000000000000:=h.1
 exact GX hs hf a [] k fuel h1 h2 (by simp;omega) h.2 (by omega)
theorem Je {e:CT}{H:List e.D→((Int×Int)→Option Int)→(Int×Int)→Option Int}
 (gs:∀(l:List e.D)(i:Nat)(hi:i<l.length)(x:e.D)(k:Int) nx,l[i]=mk e x k→1≤k→k+jJ e x≤1000000000000000→l.length≤1000000000000→aK 1000000000000 e x→
  H l nx (k,(i:Int))=nx (k+jJ e x,(i:Int)+1))
 (gf:∀(l:List e.D)(k:Int) nx,H l nx (k,(l.length:Int))=some k):HG (.sl e) (fun a k=>ar (H a) fuel (k,0)):=by
 have hfu:=bQ
 intro a h k h1 h2
 have hl:a.length≤1000000000000:=h.1
 exact GD gs gf a [] k fuel h1 h2 (by simp;omega) h.2 (by omega)
def MtM (t:CT)(mark:t.D→Int→Option (Int×t.D)):Prop:=∀(a:t.D)(_:aK 1000000000000 t a)(k:Int)(_:1≤k)(_:k+eB t a≤1000000000000000),mark a k=some (k+eB t a,JZ t a k)
def MtH (t:CT)(held:t.D→Int→Option Int):Prop:=∀(a:t.D)(_:aK 1000000000000 t a)(k:Int)(_:1≤k)(_:k+eB t a≤1000000000000000),held (JZ t a k) k=some (k+eB t a)
theorem HH.top {e:CT}{mark:List e.D→Int→Option (Int×List e.D)}(h:HH (.sl e) mark):MtM (.sl e) mark:=h
theorem HG.top {e:CT}{held:List e.D→Int→Option Int}(h:HG (.sl e) held):MtH (.sl e) held:=h
def OkW:{t:CT}→M3 FM t→Prop
 |_,.sl (e:=e) m=>HH (.sl e) m
 |_,.pair a b=>OkW a∧OkW b
 |_,_=>True
theorem Jy {α R:Type}{f:Int→Option Bytes}(hf:∀k,1≤k→k≤1000000000000000→f k=some (XJ k)){l:List α}{i:Nat}(hi:i<l.length):∀{t:CT}(n:M3 FM t)(_:OkW n)(g:α→t.D)(s:α→t.D→α)(_:∀y v,g (s y v)=v)(_:∀y v w,s (s y v) w=s y w)(x:α)(k:Int)(K:List α→Int→Option R),1≤k→k+jJ t (g x)≤1000000000000000→aK 1000000000000 t (g x)→
 u4 f (i:Int) n g s (l.set i x) (l.set i x) k K=K (l.set i (s x (mk t (g x) k))) (k+jJ t (g x))
 |_,.int _,_,g,s,_,_,x,k,K,h1,h2,_=>by
  simp only [fu] at h2⊢
  rw [u4,h9 x hi,ab,ab,Int.toNat_natCast,List.set_set,wrap64 (by omega) (by omega)];rfl
 |_,.bool,_,g,s,_,_,x,k,K,h1,h2,_=>by
  simp only [dC] at h2⊢
  rw [u4,h9 x hi,ab,ab,Int.toNat_natCast,List.set_set,wrap64 (by omega) (by omega)];rfl
 |_,.str,_,g,s,_,_,x,k,K,h1,h2,_=>by
  simp only [fw] at h2⊢
  rw [u4,hf k h1 (by omega),ab,h9 x hi,ab,ab,Int.toNat_natCast,List.set_set,wrap64 (by omega) (by omega)];rfl
 |_,.sl m,hn,g,s,_,_,x,k,K,h1,h2,h3=>by
  rw [u4,h9 x hi,ab,ab,hn (g x) h3 k h1 h2,ab,Int.toNat_natCast,List.set_set]
 |_,.pair (a:=ca) (b:=cb) a b,hn,g,s,l1,l2,x,k,K,h1,h2,h3=>by
  rw [dD] at h2⊢
  have e1:=Jy (R:=R) hf hi a hn.1 (fun y=>(g y).1) (fun y v=>s y (v,(g y).2)) (fun y v=>by simp only [l1]) (fun y v w=>by simp only [l1,l2]) x k
  rw [u4,e1 _ h1 (by show k+((jJ ca (g x).1:Nat):Int)≤_;omega) h3.1]
  have e2:=Jy (R:=R) hf hi b hn.2 (fun y=>(g y).2) (fun y v=>s y ((g y).1,v)) (fun y v=>by simp only [l1]) (fun y v w=>by simp only [l1,l2]) (s x (mk ca (g x).1 k,(g x).2)) (k+jJ ca (g x).1) K (by omega) (by simp only [l1];omega) (by simp only [l1];exact h3.2)
  rw [e2]
  simp only [l1,l2,ug]
  congr 1
  omega
theorem xh {e:CT}(n:M3 FM e){T:((List e.D×Int×Int×List e.D)→Option (Int×List e.D))→(List e.D×Int×Int×List e.D)→Option (Int×List e.D)}{f:Int→Option Bytes}(hf:∀k,1≤k→k≤1000000000000000→f k=some (XJ k))(hn:OkW n)
 (he:∀(l:List e.D)(k i:Int) nx,T nx (l,k,i,l)=cond (decide (i<(l.length:Int))) (u4 f i n (fun y=>y) (fun _ v=>v) l l k (fun L k'=>nx (L,k',IntKind.wrap .i64 (i+1),L))) (some (k,l))):HH (.sl e) (fun a k=>ar T fuel (a,k,0,a)):=by
 refine Jf (fun l i hi k nx h1 h2 h3 hx=> ?_) (fun l k nx=> ?_)
 ·have hl:l=l.set i l[i]:=(List.set_getElem_self hi).symm
  rw [he,decide_eq_true (by omega),cond_true]
  conv=>lhs;rw [hl]
  rw [Jy hf hi n hn (fun y=>y) (fun _ v=>v) (fun _ _=>rfl) (fun _ _ _=>rfl) l[i] k _ h1 h2 hx]
  rw [wrap64 (by omega) (by omega)]
 ·rw [he,decide_eq_false (by omega)];rfl
def OkV:{t:CT}→M3 FH t→Prop
 |_,.sl (e:=e) m=>HG (.sl e) m
 |_,.pair a b=>OkV a∧OkV b
 |_,_=>True
theorem Jx {α R:Type}{f:Int→Option Bytes}(hf:∀k,1≤k→k≤1000000000000000→f k=some (XJ k)){v:List α}{i:Nat}(hi:i<v.length)(bad:Int→Option R):∀{t:CT}(n:M3 FH t)(_:OkV n)(g:α→t.D)(K:Int→Option R)(x:t.D)(k:Int),1≤k→k+jJ t x≤1000000000000000→aK 1000000000000 t x→g v[i]=mk t x k→
 u3 f (i:Int) v bad n g K k=K (k+jJ t x)
 |_,.int _,_,g,K,x,k,h1,h2,_,h4=>by
  simp only [fu] at h2⊢
  have h5:g v[i]=k:=h4
  rw [u3,ay hi,ab,h5,bne_self_eq_false,cond_false,wrap64 (by omega) (by omega)];rfl
 |_,.bool,_,g,K,x,k,h1,h2,_,h4=>by
  simp only [dC] at h2⊢
  have h5:g v[i]=(Int.tmod k 3==0):=h4
  rw [u3,ay hi,ab,h5,beq_self_eq_true,Bool.not_true,cond_false,wrap64 (by omega) (by omega)];rfl
 |_,.str,_,g,K,x,k,h1,h2,_,h4=>by
  simp only [fw] at h2⊢
  have h5:g v[i]=XJ k:=h4
  rw [u3,ay hi,ab,hf k h1 (by omega),ab,h5,beq_self_eq_true,Bool.not_true,cond_false,wrap64 (by omega) (by omega)];rfl
 |_,.sl m,hn,g,K,x,k,h1,h2,h3,h4=>by
  rw [u3,ay hi,ab,h4,hn x h3 k h1 h2,ab,decide_eq_false (by omega),cond_false]
 |_,.pair a b,hn,g,K,x,k,h1,h2,h3,h4=>by
  rw [dD] at h2⊢
  rw [ug] at h4
  rw [u3,Jx hf hi bad a hn.1 _ _ x.1 k h1 (by omega) h3.1 (by simp only [h4]),Jx hf hi bad b hn.2 _ _ x.2 _ (by omega) (by omega) h3.2 (by simp only [h4])]
  congr 1
  omega
theorem xg {e:CT}(n:M3 FH e){H:List e.D→((Int×Int)→Option Int)→(Int×Int)→Option Int}{bad:List e.D→Int→Int→Option Int}{f:Int→Option Bytes}(hf:∀k,1≤k→k≤1000000000000000→f k=some (XJ k))(hn:OkV n)
 (he:∀(l:List e.D)(k i:Int) nx,H l nx (k,i)=cond (decide (i<(l.length:Int))) (u3 f i l (bad l i) n (fun y=>y) (fun k'=>nx (k',IntKind.wrap .i64 (i+1))) k) (some k)):HG (.sl e) (fun a k=>ar (H a) fuel (k,0)):=by
 refine Je (fun l i hi x k nx hm h1 h2 h3 hx=> ?_) (fun l k nx=> ?_)
 ·rw [he,decide_eq_true (by omega),cond_true,Jx hf hi _ n hn _ _ x k h1 h2 hx hm,wrap64 (by omega) (by omega)]
 ·rw [he,decide_eq_false (by omega)];rfl
theorem CD:∀{t:CT}{x:t.D},eB t x≤jJ t x
 | .int _,_=>by simp [eB]
 | .bool,_=>by simp [eB]
 | .str,_=>by simp [eB]
 | .sl _,_=>Nat.le_refl _
 | .pair a b,x=>by simp only [eB,jJ];exact Nat.add_le_add CD CD
def wt:CT→Nat
 | .sl e=>wt e
 | .pair a b=>wt a+wt b
 |_=>1
theorem HP:∀{t:CT}{x:t.D},jJ t x≤wt t*(dV t x+1)
 | .int _,_=>by simp [jJ,wt]
 | .bool,_=>by simp [jJ,wt]
 | .str,_=>by simp [jJ,wt]
 | .sl e,xs=>by
   have h:∀l:List e.D,(l.map (jJ e)).sum≤wt e*((l.map (dV e)).sum+l.length):=by
    intro l
    induction l with
    |nil=>simp
    |cons y l ih=>
     have:=HP (t:=e) (x:=y)
     simp only [List.map_cons,List.sum_cons,List.length_cons]
     have e1:wt e*(dV e y+(l.map (dV e)).sum+(l.length+1))=wt e*(dV e y+1)+wt e*((l.map (dV e)).sum+l.length):=by
      rw [←Nat.mul_add];congr 1;omega
     omega
   have h1:=h xs
   simp only [jJ,wt,dV]
   refine Nat.le_trans h1 (Nat.mul_le_mul_left _ (by omega))
 | .pair a b,x=>by
   have h1:=HP (t:=a) (x:=x.1)
   have h2:=HP (t:=b) (x:=x.2)
   simp only [jJ,wt,dV]
   rw [Nat.add_mul]
   exact Nat.add_le_add (Nat.le_trans h1 (Nat.mul_le_mul_left _ (by omega))) (Nat.le_trans h2 (Nat.mul_le_mul_left _ (by omega)))
def OY (n:Nat):CT→Nat
 | .sl e=>n*OY n e
 | .pair a b=>OY n a+OY n b
 |_=>1
theorem zA {n:Nat}:∀{t:CT}{x:t.D},aK n t x→jJ t x≤OY n t
 | .int _,_,_=>by simp [jJ,OY]
 | .bool,_,_=>by simp [jJ,OY]
 | .str,_,_=>by simp [jJ,OY]
 | .sl e,xs,h=>by
   have h1:∀l:List e.D,(∀x∈l,aK n e x)→(l.map (jJ e)).sum≤l.length*OY n e:=by
    intro l
    induction l with
    |nil=>simp
    |cons y l ih=>
     intro hl
     have:=zA (hl y (by simp))
     have:=ih (fun x hx=>hl x (by simp [hx]))
     simp only [List.map_cons,List.sum_cons,List.length_cons,Nat.add_mul,Nat.one_mul]
     omega
   simp only [jJ,OY]
   exact Nat.le_trans (h1 xs h.2) (Nat.mul_le_mul_right _ h.1)
 | .pair a b,x,h=>by
   simp only [jJ,OY]
   exact Nat.add_le_add (zA h.1) (zA h.2)
theorem O2 {n:Nat}{e:CT}:∀{xs:List e.D},(∀x∈xs,aK n e x)→jJ (.sl e) xs≤xs.length*OY n e
 |[],_=>by simp [jJ]
 |y::l,h=>by
  have h1:=zA (h y (by simp))
  have h2:=O2 (xs:=l) (fun x hx=>h x (by simp [hx]))
  simp only [jJ,List.map_cons,List.sum_cons,List.length_cons,Nat.add_mul,Nat.one_mul] at h2⊢
  omega
end
end Go.Pu
end
section
namespace Go.Pu
open Go.Dn
set_option linter.unusedSimpArgs false
set_option linter.unusedVariables false
noncomputable section
theorem So {c:br}(z:aK 1100000 bU c)(h:c.1.length≤3):eB bU c≤600000000000000:=by
 have e1:eB bU c≤jJ (.sl ba) c.1+jJ (.pair (.sl ak) (.pair (.sl aE) (.pair (.sl .str) (.pair cS (.pair (.sl (.int .i64)) (.sl .str)))))) c.2:=CD
 have e2:=O2 (e:=ba) z.1.2
 have e3:=zA z.2
 have b4:OY 1100000 ba≤99000000000000:=by decide
 have e4:OY 1100000 (.pair (.sl ak) (.pair (.sl aE) (.pair (.sl .str) (.pair cS (.pair (.sl (.int .i64)) (.sl .str))))))≤99000000000000:=by decide
 have e5:c.1.length*OY 1100000 ba≤3*99000000000000:=Nat.mul_le_mul h b4
 omega
theorem Jt {c:br}{x:Bytes}(z:zv 1048576 c)(hc:eB bU c≤600000000000000):eB bU (kx c x)≤600000000000000:=by
 have h:=B5 (by omega) x z
 cases hb:pz c with
 |true=>exact So (h.1.z.mono (by omega)) (by have:=(vh hb).2.2;omega)
 |false=>
  have:kx c x=c:=by unfold kx;rw [hb];rfl
  rw [this];exact hc
theorem Kc {c:br}(h:dV bU c≤1048576):eB bU c≤600000000000000:=by
 have c0:jJ bU c≤wt bU*(dV bU c+1):=HP
 have w0:wt bU≤1000:=by decide
 have c2:jJ bU c≤1000*(dV bU c+1):=Nat.le_trans c0 (Nat.mul_le_mul_right _ w0)
 have c1:eB bU c≤jJ bU c:=CD
 omega
end
end Go.Pu
end
section
namespace Go.Pu
open Go.Dn
set_option linter.unusedVariables false
set_option linter.unusedSimpArgs false
set_option maxRecDepth 100000
set_option maxHeartbeats 4000000
theorem sc:HH (.sl (.int .i64)) bl:=by
 refine Jf (e:=(.int .i64)) (T:=gK (fun _ y _ z=>some (y,z))) (fun l i hi k nx h1 h2 h3 hx=> ?_) (fun l k nx=> ?_)
 ·try simp only [dD,fu,dC,fw,Int.natCast_add,Int.natCast_one,←Int.add_assoc] at h2
  simp only [gK]
  rw [decide_eq_true (by omega)]
  simp (disch:=omega) only [cond_true,ay hi,ab,h9,List.length_set,List.set_set,Int.toNat_natCast,wrap64,if_neg,ne3,dr]
  try simp only [ug,Bv,xR,Bw,dD,fu,dC,fw,Int.natCast_add,Int.natCast_one,←Int.add_assoc]
 ·simp only [gK]
  rw [decide_eq_false (by omega)];rfl
theorem tr:HH (.sl .str) c9:=by
 refine Jf (e:= .str) (T:=ef (fun _ y _ z=>some (y,z))) (fun l i hi k nx h1 h2 h3 hx=> ?_) (fun l k nx=> ?_)
 ·try simp only [dD,fu,dC,fw,Int.natCast_add,Int.natCast_one,←Int.add_assoc] at h2
  simp only [ef]
  rw [decide_eq_true (by omega)]
  simp (disch:=omega) only [cond_true,ay hi,ab,h9,List.length_set,List.set_set,Int.toNat_natCast,wrap64,if_neg,ne3,dr]
  try simp only [ug,Bv,xR,Bw,dD,fu,dC,fw,Int.natCast_add,Int.natCast_one,←Int.add_assoc]
 ·simp only [ef]
  rw [decide_eq_false (by omega)];rfl
theorem LG:HH (.sl aB) jz
 :=xh (e:=aB) (T:=ki (fun _ y _ z=>some (y,z))) (f:=aH) (.pair (.int _) (.pair (.int _) (.pair (.int _) .bool))) dr ⟨trivial,⟨trivial,⟨trivial,trivial⟩⟩⟩ (fun l k i nx=>by kernel_rfl)
theorem TD:HH (.sl bJ) oG
 :=xh (e:=bJ) (T:=oH (fun _ y _ z=>some (y,z))) (f:=aH) (.pair (.int _) (.pair (.int _) (.sl (e:=(.int .i64)) bl))) dr ⟨trivial,⟨trivial,sc⟩⟩ (fun l k i nx=>by kernel_rfl)
theorem LH:HH (.sl aG) jA
 :=xh (e:=aG) (T:=kj (fun _ y _ z=>some (y,z))) (f:=aH) (.pair (.pair (.int _) (.pair (.int _) (.pair (.int _) (.int _)))) (.pair (.pair (.int _) (.pair (.int _) (.int _))) (.pair (.pair (.int _) (.pair (.int _) (.int _))) (.pair (.pair (.pair (.int _) (.pair (.int _) (.pair (.int _) (.pair (.int _) (.pair (.int _) (.pair (.int _) (.pair (.int _) (.pair (.int _) (.pair (.int _) (.pair (.int _) (.pair (.int _) (.pair (.int _) (.pair (.int _) (.pair (.int _) (.pair (.int _) .str))))))))))))))) (.pair (.int _) (.int _))) (.pair .bool (.int _)))))) dr ⟨⟨trivial,⟨trivial,⟨trivial,trivial⟩⟩⟩,⟨⟨trivial,⟨trivial,trivial⟩⟩,⟨⟨trivial,⟨trivial,trivial⟩⟩,⟨⟨⟨trivial,⟨trivial,⟨trivial,⟨trivial,⟨trivial,⟨trivial,⟨trivial,⟨trivial,⟨trivial,⟨trivial,⟨trivial,⟨trivial,⟨trivial,⟨trivial,⟨trivial,trivial⟩⟩⟩⟩⟩⟩⟩⟩⟩⟩⟩⟩⟩⟩⟩,⟨trivial,trivial⟩⟩,⟨trivial,trivial⟩⟩⟩⟩⟩ (fun l k i nx=>by kernel_rfl)
theorem TB:HH (.sl bN) oC
 :=xh (e:=bN) (T:=oD (fun _ y _ z=>some (y,z))) (f:=aH) (.pair (.int _) (.pair (.int _) (.pair (.int _) (.sl (e:=(.int .i64)) bl)))) dr ⟨trivial,⟨trivial,⟨trivial,sc⟩⟩⟩ (fun l k i nx=>by kernel_rfl)
theorem N5:HH (.sl aZ) lg
 :=xh (e:=aZ) (T:=lQ (fun _ y _ z=>some (y,z))) (f:=aH) (.pair (.int _) (.pair (.int _) (.pair (.int _) (.pair (.int _) (.pair .bool .bool))))) dr ⟨trivial,⟨trivial,⟨trivial,⟨trivial,⟨trivial,trivial⟩⟩⟩⟩⟩ (fun l k i nx=>by kernel_rfl)
theorem Tz:HH (.sl .bool) oy:=by
 refine Jf (e:= .bool) (T:=fH (fun _ y _ z=>some (y,z))) (fun l i hi k nx h1 h2 h3 hx=> ?_) (fun l k nx=> ?_)
 ·try simp only [dD,fu,dC,fw,Int.natCast_add,Int.natCast_one,←Int.add_assoc] at h2
  simp only [fH]
  rw [decide_eq_true (by omega)]
  simp (disch:=omega) only [cond_true,ay hi,ab,h9,List.length_set,List.set_set,Int.toNat_natCast,wrap64,if_neg,ne3,dr]
  try simp only [ug,Bv,xR,Bw,dD,fu,dC,fw,Int.natCast_add,Int.natCast_one,←Int.add_assoc]
 ·simp only [fH]
  rw [decide_eq_false (by omega)];rfl
theorem TC:HH (.sl bH) oE
 :=xh (e:=bH) (T:=oF (fun _ y _ z=>some (y,z))) (f:=aH) (.pair (.int _) (.pair (.int _) (.pair (.int _) (.pair (.int _) (.pair (.int _) (.pair (.int _) (.pair (.int _) (.pair (.int _) (.int _))))))))) dr ⟨trivial,⟨trivial,⟨trivial,⟨trivial,⟨trivial,⟨trivial,⟨trivial,⟨trivial,trivial⟩⟩⟩⟩⟩⟩⟩⟩ (fun l k i nx=>by kernel_rfl)
theorem TE:HH (.sl bn) oI
 :=xh (e:=bn) (T:=oJ (fun _ y _ z=>some (y,z))) (f:=aH) (.pair (.int _) (.pair (.pair (.int _) (.pair (.int _) (.pair (.int _) (.pair (.int _) (.int _))))) (.int _))) dr ⟨trivial,⟨⟨trivial,⟨trivial,⟨trivial,⟨trivial,trivial⟩⟩⟩⟩,trivial⟩⟩ (fun l k i nx=>by kernel_rfl)
theorem N4:HH (.sl a9) ld
 :=xh (e:=a9) (T:=lP (fun _ y _ z=>some (y,z))) (f:=aH) (.pair (.pair (.int _) (.pair (.int _) (.pair (.int _) (.pair (.int _) (.int _))))) (.pair (.int _) (.pair .str .bool))) dr ⟨⟨trivial,⟨trivial,⟨trivial,⟨trivial,trivial⟩⟩⟩⟩,⟨trivial,⟨trivial,trivial⟩⟩⟩ (fun l k i nx=>by kernel_rfl)
theorem TA:HH (.sl ba) s9
 :=xh (e:=ba) (T:=oA (fun _ y _ z=>some (y,z))) (f:=aH) (.pair (.sl (e:= .str) c9) (.pair (.sl (e:=aB) jz) (.pair (.pair (.pair (.int _) (.pair (.int _) (.pair (.int _) (.int _)))) (.pair (.pair (.int _) (.pair (.int _) (.pair (.int _) (.sl (e:=(.int .i64)) bl)))) (.pair (.sl (e:=bJ) oG) (.int _)))) (.pair (.sl (e:=aG) jA) (.pair (.sl (e:=bN) oC) (.pair (.sl (e:=aZ) lg) (.pair (.sl (e:= .bool) oy) (.pair (.pair (.int _) (.pair .bool (.sl (e:=(.int .i64)) bl))) (.pair (.pair (.sl (e:=bH) oE) (.pair (.sl (e:=bn) oI) (.pair .str (.sl (e:=(.int .i64)) bl)))) (.pair (.sl (e:=a9) ld) (.pair .bool (.pair (.sl (e:= .str) c9) (.pair (.sl (e:=(.int .i64)) bl) (.pair (.sl (e:=(.int .i64)) bl) (.pair (.int _) (.pair (.int _) (.pair (.int _) (.pair (.int _) (.int _))))))))))))))))))) dr ⟨tr,⟨LG,⟨⟨⟨trivial,⟨trivial,⟨trivial,trivial⟩⟩⟩,⟨⟨trivial,⟨trivial,⟨trivial,sc⟩⟩⟩,⟨TD,trivial⟩⟩⟩,⟨LH,⟨TB,⟨N5,⟨Tz,⟨⟨trivial,⟨trivial,sc⟩⟩,⟨⟨TC,⟨TE,⟨trivial,sc⟩⟩⟩,⟨N4,⟨trivial,⟨tr,⟨sc,⟨sc,⟨trivial,⟨trivial,⟨trivial,⟨trivial,trivial⟩⟩⟩⟩⟩⟩⟩⟩⟩⟩⟩⟩⟩⟩⟩⟩⟩⟩ (fun l k i nx=>by kernel_rfl)
theorem ym:HH (.sl ak) e7
 :=xh (e:=ak) (T:=dS (fun _ y _ z=>some (y,z))) (f:=aH) (.pair (.int _) (.pair (.int _) (.pair (.pair (.int _) (.pair (.int _) (.int _))) (.pair .bool (.pair (.int _) (.int _)))))) dr ⟨trivial,⟨trivial,⟨⟨trivial,⟨trivial,trivial⟩⟩,⟨trivial,⟨trivial,trivial⟩⟩⟩⟩⟩ (fun l k i nx=>by kernel_rfl)
theorem LF:HH (.sl aE) oB
 :=xh (e:=aE) (T:=kh (fun _ y _ z=>some (y,z))) (f:=aH) (.pair (.pair (.int _) (.pair .bool (.sl (e:=(.int .i64)) bl))) (.pair (.int _) (.pair (.int _) (.int _)))) dr ⟨⟨trivial,⟨trivial,sc⟩⟩,⟨trivial,⟨trivial,trivial⟩⟩⟩ (fun l k i nx=>by kernel_rfl)
theorem LP:MtM (.sl .str) oz:=by
 intro a h k h1 h2
 simp (disch:=omega) only [oz,ab,tr.top a h]
theorem CC (a:br):eB bU a=eB (.sl ba) a.1+(eB (.sl ak) a.2.1+(eB (.sl aE) a.2.2.1+(eB (.sl .str) a.2.2.2.1+((0+(0+(0+0)))+(eB (.sl (.int .i64)) a.2.2.2.2.2.1+(eB (.sl .str) a.2.2.2.2.2.2)))))):=rfl
theorem PR (a:br)(k:Int):JZ bU a k=(JZ (.sl ba) a.1 (k),JZ (.sl ak) a.2.1 (k+((eB (.sl ba) a.1:Nat):Int)),JZ (.sl aE) a.2.2.1 (k+((eB (.sl ba) a.1:Nat):Int)+((eB (.sl ak) a.2.1:Nat):Int)),JZ (.sl .str) a.2.2.2.1 (k+((eB (.sl ba) a.1:Nat):Int)+((eB (.sl ak) a.2.1:Nat):Int)+((eB (.sl aE) a.2.2.1:Nat):Int)),a.2.2.2.2.1,JZ (.sl (.int .i64)) a.2.2.2.2.2.1 (k+((eB (.sl ba) a.1:Nat):Int)+((eB (.sl ak) a.2.1:Nat):Int)+((eB (.sl aE) a.2.2.1:Nat):Int)+((eB (.sl .str) a.2.2.2.1:Nat):Int)),JZ (.sl .str) a.2.2.2.2.2.2 (k+((eB (.sl ba) a.1:Nat):Int)+((eB (.sl ak) a.2.1:Nat):Int)+((eB (.sl aE) a.2.2.1:Nat):Int)+((eB (.sl .str) a.2.2.2.1:Nat):Int)+((eB (.sl (.int .i64)) a.2.2.2.2.2.1:Nat):Int))):=by
 simp only [LD,PU,LC,PV,Gp,Kd,Gn,Ke,Int.natCast_add,Int.natCast_zero,Int.add_zero,←Int.add_assoc]
theorem PW:MtM bU me:=by
 intro a h k h1 h2
 rw [CC] at h2
 simp (disch:=omega) only [me,ab,TA.top _ h.1,ym.top _ h.2.1,LF.top _ h.2.2.1,LP _ h.2.2.2.1,tr.top _ h.2.2.2.1,sc.top _ h.2.2.2.2.2.1,LP _ h.2.2.2.2.2.2,tr.top _ h.2.2.2.2.2.2]
 rw [PR,CC]
 refine congrArg some (Prod.ext (by simp only;omega) ?_)
 first|rfl|simp only [LD,PU,LC,PV,Gp,Kd,Gn,Ke,Int.natCast_add,Int.natCast_zero,Int.add_zero,←Int.add_assoc]
theorem rJ:HG (.sl (.int .i64)) bk:=by
 refine Je (e:=(.int .i64)) (H:=fun v=>gJ (fun y _=>some y) (fun _ y _=>some y) v 0) (fun l i hi x k nx hm h1 h2 h3 hx=> ?_) (fun l k nx=> ?_)
 ·try simp only [dD,fu,dC,fw,Int.natCast_add,Int.natCast_one,←Int.add_assoc] at h2
  try simp only [ug,Bv,xR,Bw,dD,fu,dC,fw,Int.natCast_add,Int.natCast_one,←Int.add_assoc] at hm
  simp only [gJ]
  rw [decide_eq_true (by omega)]
  simp (disch:=omega) only [cond_true,ay hi,hm,ab,bne_self_eq_false,beq_self_eq_true,Bool.not_true,cond_false,wrap64,if_neg,ne3,vj,dr]
  try simp only [dD,fu,dC,fw,Int.natCast_add,Int.natCast_one,←Int.add_assoc]
 ·simp only [gJ]
  rw [decide_eq_false (by omega)];rfl
theorem sQ:HG (.sl .str) c8:=by
 refine Je (e:= .str) (H:=fun v=>ee (fun y _=>some y) (fun _ y _=>some y) v 0) (fun l i hi x k nx hm h1 h2 h3 hx=> ?_) (fun l k nx=> ?_)
 ·try simp only [dD,fu,dC,fw,Int.natCast_add,Int.natCast_one,←Int.add_assoc] at h2
  try simp only [ug,Bv,xR,Bw,dD,fu,dC,fw,Int.natCast_add,Int.natCast_one,←Int.add_assoc] at hm
  simp only [ee]
  rw [decide_eq_true (by omega)]
  simp (disch:=omega) only [cond_true,ay hi,hm,ab,bne_self_eq_false,beq_self_eq_true,Bool.not_true,cond_false,wrap64,if_neg,ne3,vj,dr]
  try simp only [dD,fu,dC,fw,Int.natCast_add,Int.natCast_one,←Int.add_assoc]
 ·simp only [ee]
  rw [decide_eq_false (by omega)];rfl
theorem K7:HG (.sl aB) jx
 :=xg (e:=aB) (H:=fun v=>kf (fun y _=>some y) (fun _ y _=>some y) v 0) (bad:=fun _ i k=>some (-1)) (f:=aH) (.pair (.int _) (.pair (.int _) (.pair (.int _) .bool))) dr ⟨trivial,⟨trivial,⟨trivial,trivial⟩⟩⟩ (fun l k i nx=>by kernel_rfl)
theorem SX:HG (.sl bJ) ou
 :=xg (e:=bJ) (H:=fun v=>ov (fun y _=>some y) (fun _ y _=>some y) v 0) (bad:=fun _ i k=>some (-1)) (f:=aH) (.pair (.int _) (.pair (.int _) (.sl (e:=(.int .i64)) bk))) dr ⟨trivial,⟨trivial,rJ⟩⟩ (fun l k i nx=>by kernel_rfl)
theorem K8:HG (.sl aG) jy
 :=xg (e:=aG) (H:=fun v=>kg (fun y _=>some y) (fun _ y _=>some y) v 0) (bad:=fun _ i k=>some (-1)) (f:=aH) (.pair (.pair (.int _) (.pair (.int _) (.pair (.int _) (.int _)))) (.pair (.pair (.int _) (.pair (.int _) (.int _))) (.pair (.pair (.int _) (.pair (.int _) (.int _))) (.pair (.pair (.pair (.int _) (.pair (.int _) (.pair (.int _) (.pair (.int _) (.pair (.int _) (.pair (.int _) (.pair (.int _) (.pair (.int _) (.pair (.int _) (.pair (.int _) (.pair (.int _) (.pair (.int _) (.pair (.int _) (.pair (.int _) (.pair (.int _) .str))))))))))))))) (.pair (.int _) (.int _))) (.pair .bool (.int _)))))) dr ⟨⟨trivial,⟨trivial,⟨trivial,trivial⟩⟩⟩,⟨⟨trivial,⟨trivial,trivial⟩⟩,⟨⟨trivial,⟨trivial,trivial⟩⟩,⟨⟨⟨trivial,⟨trivial,⟨trivial,⟨trivial,⟨trivial,⟨trivial,⟨trivial,⟨trivial,⟨trivial,⟨trivial,⟨trivial,⟨trivial,⟨trivial,⟨trivial,⟨trivial,trivial⟩⟩⟩⟩⟩⟩⟩⟩⟩⟩⟩⟩⟩⟩⟩,⟨trivial,trivial⟩⟩,⟨trivial,trivial⟩⟩⟩⟩⟩ (fun l k i nx=>by kernel_rfl)
theorem SV:HG (.sl bN) om
 :=xg (e:=bN) (H:=fun v=>oo (fun y _=>some y) (fun _ y _=>some y) v 0) (bad:=fun _ i k=>some (-1)) (f:=aH) (.pair (.int _) (.pair (.int _) (.pair (.int _) (.sl (e:=(.int .i64)) bk)))) dr ⟨trivial,⟨trivial,⟨trivial,rJ⟩⟩⟩ (fun l k i nx=>by kernel_rfl)
theorem NA:HG (.sl aZ) lb
 :=xg (e:=aZ) (H:=fun v=>lO (fun y _=>some y) (fun _ y _=>some y) v 0) (bad:=fun _ i k=>some (-1)) (f:=aH) (.pair (.int _) (.pair (.int _) (.pair (.int _) (.pair (.int _) (.pair .bool .bool))))) dr ⟨trivial,⟨trivial,⟨trivial,⟨trivial,⟨trivial,trivial⟩⟩⟩⟩⟩ (fun l k i nx=>by kernel_rfl)
theorem SS:HG (.sl .bool) od:=by
 refine Je (e:= .bool) (H:=fun v=>fG (fun y _=>some y) (fun _ y _=>some y) v 0) (fun l i hi x k nx hm h1 h2 h3 hx=> ?_) (fun l k nx=> ?_)
 ·try simp only [dD,fu,dC,fw,Int.natCast_add,Int.natCast_one,←Int.add_assoc] at h2
  try simp only [ug,Bv,xR,Bw,dD,fu,dC,fw,Int.natCast_add,Int.natCast_one,←Int.add_assoc] at hm
  simp only [fG]
  rw [decide_eq_true (by omega)]
  simp (disch:=omega) only [cond_true,ay hi,hm,ab,bne_self_eq_false,beq_self_eq_true,Bool.not_true,cond_false,wrap64,if_neg,ne3,vj,dr]
  try simp only [dD,fu,dC,fw,Int.natCast_add,Int.natCast_one,←Int.add_assoc]
 ·simp only [fG]
  rw [decide_eq_false (by omega)];rfl
theorem SW:HG (.sl bH) oq
 :=xg (e:=bH) (H:=fun v=>ot (fun y _=>some y) (fun _ y _=>some y) v 0) (bad:=fun _ i k=>some (-1)) (f:=aH) (.pair (.int _) (.pair (.int _) (.pair (.int _) (.pair (.int _) (.pair (.int _) (.pair (.int _) (.pair (.int _) (.pair (.int _) (.int _))))))))) dr ⟨trivial,⟨trivial,⟨trivial,⟨trivial,⟨trivial,⟨trivial,⟨trivial,⟨trivial,trivial⟩⟩⟩⟩⟩⟩⟩⟩ (fun l k i nx=>by kernel_rfl)
theorem SY:HG (.sl bn) ow
 :=xg (e:=bn) (H:=fun v=>ox (fun y _=>some y) (fun _ y _=>some y) v 0) (bad:=fun _ i k=>some (-1)) (f:=aH) (.pair (.int _) (.pair (.pair (.int _) (.pair (.int _) (.pair (.int _) (.pair (.int _) (.int _))))) (.int _))) dr ⟨trivial,⟨⟨trivial,⟨trivial,⟨trivial,⟨trivial,trivial⟩⟩⟩⟩,trivial⟩⟩ (fun l k i nx=>by kernel_rfl)
theorem Nz:HG (.sl a9) la
 :=xg (e:=a9) (H:=fun v=>lN (fun y _=>some y) (fun _ y _=>some y) v 0) (bad:=fun _ i k=>some (-1)) (f:=aH) (.pair (.pair (.int _) (.pair (.int _) (.pair (.int _) (.pair (.int _) (.int _))))) (.pair (.int _) (.pair .str .bool))) dr ⟨⟨trivial,⟨trivial,⟨trivial,⟨trivial,trivial⟩⟩⟩⟩,⟨trivial,⟨trivial,trivial⟩⟩⟩ (fun l k i nx=>by kernel_rfl)
theorem SU:HG (.sl ba) s8
 :=xg (e:=ba) (H:=fun v=>og (fun y _=>some y) (fun _ y _=>some y) v 0) (bad:=fun _ i k=>some (-1)) (f:=aH) (.pair (.sl (e:= .str) c8) (.pair (.sl (e:=aB) jx) (.pair (.pair (.pair (.int _) (.pair (.int _) (.pair (.int _) (.int _)))) (.pair (.pair (.int _) (.pair (.int _) (.pair (.int _) (.sl (e:=(.int .i64)) bk)))) (.pair (.sl (e:=bJ) ou) (.int _)))) (.pair (.sl (e:=aG) jy) (.pair (.sl (e:=bN) om) (.pair (.sl (e:=aZ) lb) (.pair (.sl (e:= .bool) od) (.pair (.pair (.int _) (.pair .bool (.sl (e:=(.int .i64)) bk))) (.pair (.pair (.sl (e:=bH) oq) (.pair (.sl (e:=bn) ow) (.pair .str (.sl (e:=(.int .i64)) bk)))) (.pair (.sl (e:=a9) la) (.pair .bool (.pair (.sl (e:= .str) c8) (.pair (.sl (e:=(.int .i64)) bk) (.pair (.sl (e:=(.int .i64)) bk) (.pair (.int _) (.pair (.int _) (.pair (.int _) (.pair (.int _) (.int _))))))))))))))))))) dr ⟨sQ,⟨K7,⟨⟨⟨trivial,⟨trivial,⟨trivial,trivial⟩⟩⟩,⟨⟨trivial,⟨trivial,⟨trivial,rJ⟩⟩⟩,⟨SX,trivial⟩⟩⟩,⟨K8,⟨SV,⟨NA,⟨SS,⟨⟨trivial,⟨trivial,rJ⟩⟩,⟨⟨SW,⟨SY,⟨trivial,rJ⟩⟩⟩,⟨Nz,⟨trivial,⟨sQ,⟨rJ,⟨rJ,⟨trivial,⟨trivial,⟨trivial,⟨trivial,trivial⟩⟩⟩⟩⟩⟩⟩⟩⟩⟩⟩⟩⟩⟩⟩⟩⟩⟩ (fun l k i nx=>by kernel_rfl)
theorem yl:HG (.sl ak) eZ
 :=xg (e:=ak) (H:=fun v=>dR (fun y _=>some y) (fun _ y _=>some y) v 0) (bad:=fun _ i k=>some (-1)) (f:=aH) (.pair (.int _) (.pair (.int _) (.pair (.pair (.int _) (.pair (.int _) (.int _))) (.pair .bool (.pair (.int _) (.int _)))))) dr ⟨trivial,⟨trivial,⟨⟨trivial,⟨trivial,trivial⟩⟩,⟨trivial,⟨trivial,trivial⟩⟩⟩⟩⟩ (fun l k i nx=>by kernel_rfl)
theorem K6:HG (.sl aE) oh
 :=xg (e:=aE) (H:=fun v=>kc (fun y _=>some y) (fun _ y _=>some y) v 0) (bad:=fun _ i k=>some (-1)) (f:=aH) (.pair (.pair (.int _) (.pair .bool (.sl (e:=(.int .i64)) bk))) (.pair (.int _) (.pair (.int _) (.int _)))) dr ⟨⟨trivial,⟨trivial,rJ⟩⟩,⟨trivial,⟨trivial,trivial⟩⟩⟩ (fun l k i nx=>by kernel_rfl)
theorem La:MtH (.sl .str) oe:=by
 intro a h k h1 h2
 simp (disch:=omega) only [oe,ab,sQ.top a h,vj,cond_false]
theorem WR:MtH bU iZ:=by
 intro a h k h1 h2
 rw [CC] at h2
 rw [PR]
 simp (disch:=omega) only [iZ,ab,SU.top _ h.1,yl.top _ h.2.1,K6.top _ h.2.2.1,La _ h.2.2.2.1,sQ.top _ h.2.2.2.1,rJ.top _ h.2.2.2.2.2.1,La _ h.2.2.2.2.2.2,sQ.top _ h.2.2.2.2.2.2,vj,cond_false]
 rw [CC]
 refine congrArg some (by omega)
end Go.Pu
end
section
namespace Go.Pu
open Go.Dn
set_option linter.unusedSimpArgs false
set_option linter.unusedVariables false
theorem Bd (a:br)(x:Bytes)(ha:iz bU a)(hx:iz .str x):gG a x=some true:=by
 unfold gG
 cases hq:decide ((1048576:Int)<(x.length:Int)) with|true=>rfl|false=> ?_
 rw [decide_eq_false_iff_not] at hq
 simp only [cond_false]
 refine (XA a ha).use (by omega) (by omega) fun hl=> ?_
 have hA:aK 1048576 bU a:=ye (by omega)
 have hz:zv 1048576 a:=zv.of (by omega)
 have hs:=Cy a x (hz.mono (by omega)) (by omega)
 have hi:=Co a x (hz.mono (by omega)) (by omega)
 have hR:=(B5 (by omega) x hz).1.z
 have c1:=Kc (c:=a) (by omega)
 have c2:=Jt (x:=x) hz c1
 generalize kx a x=r at hs hi hR c2
 have m1:=PW a (hA.mono (by omega)) 1 (by omega) (by omega)
 have m2:=PW r (hR.mono (by omega)) 1 (by omega) (by omega)
 have m3:∀t,t=JZ bU r 1→iZ t 1=some (1+(eB bU r:Int)):=by rintro _ rfl;exact WR r (hR.mono (by omega)) 1 (by omega) (by omega)
 simp (disch:=omega) only [XE a hA,ab,hs,hi,Pp r (hR.mono (by omega)),Pp a (hA.mono (by omega)),beq_self_eq_true,bne_self_eq_false,Bool.not_true,cond_false,m1,m2,vj]
 rw [m3]
 ·simp (disch:=omega) only [ab,vj,cond_false,bne_self_eq_false]
 ·rfl
end Go.Pu
end
