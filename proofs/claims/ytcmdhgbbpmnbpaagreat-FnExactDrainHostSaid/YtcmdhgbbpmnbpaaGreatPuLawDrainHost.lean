import Derived.Test.YtcmdhgbbpmnbpaaGreatPuX2
section
/- The laws' marks, type by type (made by codec.py). -/
namespace Go.Pu
open Go.Dn
set_option linter.unusedVariables false
set_option linter.unusedSimpArgs false
set_option maxRecDepth 100000
set_option maxHeartbeats 4000000
theorem zU:MG (.sl .str) lX:=by
 refine Je (e:= .str) (T:=eK (fun _ y _ z=>some (y,z))) (fun l i hi k nx h1 h2 h3 hx=> ?_) (fun l k nx=> ?_)
 ·try simp only [dP,gm,dN,gq,Int.natCast_add,Int.natCast_one,←Int.add_assoc] at h2
  simp only [eK]
  rw [decide_eq_true (by omega)]
  simp (disch:=omega) only [cond_true,ax hi,ab,jd,List.length_set,List.set_set,Int.toNat_natCast,wrap64,if_neg,ne3,fW]
  try simp only [uM,BW,yG,BX,dP,gm,dN,gq,Int.natCast_add,Int.natCast_one,←Int.add_assoc]
 ·simp only [eK]
  rw [decide_eq_false (by omega)];rfl
theorem Hk:VW (.sl .str) nn:=by
 intro a h k h1 h2
 simp (disch:=omega) only [nn,ab,zU.top a h]
theorem Ly:MG (.sl au) oX
 :=CE (e:=au) (T:=lf (fun _ y _ z=>some (y,z))) (f:=aU) (.pair (.int _) (.pair (.int _) (.pair (.int _) .bool))) fW ⟨trivial,⟨trivial,⟨trivial,trivial⟩⟩⟩ (fun l k i nx=>by kernel_rfl)
theorem wH:MG (.sl (.int .i64)) cY:=by
 refine Je (e:=(.int .i64)) (T:=iy (fun _ y _ z=>some (y,z))) (fun l i hi k nx h1 h2 h3 hx=> ?_) (fun l k nx=> ?_)
 ·try simp only [dP,gm,dN,gq,Int.natCast_add,Int.natCast_one,←Int.add_assoc] at h2
  simp only [iy]
  rw [decide_eq_true (by omega)]
  simp (disch:=omega) only [cond_true,ax hi,ab,jd,List.length_set,List.set_set,Int.toNat_natCast,wrap64,if_neg,ne3,fW]
  try simp only [uM,BW,yG,BX,dP,gm,dN,gq,Int.natCast_add,Int.natCast_one,←Int.add_assoc]
 ·simp only [iy]
  rw [decide_eq_false (by omega)];rfl
theorem Dd (a:aV):ba a9 a=0+(0+(0+(ba (.sl (.int .i64)) a.2.2.2))):=rfl
theorem PB (a:aV)(k:Int):xx a9 a k=(a.1,a.2.1,a.2.2.1,xx (.sl (.int .i64)) a.2.2.2 (k)):=by
 simp only [jM,nr,jL,ns,fY,jD,fX,jE,Int.natCast_add,Int.natCast_zero,Int.add_zero,←Int.add_assoc]
theorem WN:VW a9 qD:=by
 intro a h k h1 h2
 rw [Dd] at h2
 simp (disch:=omega) only [qD,ab,wH.top _ h.2.2.2]
 rw [PB,Dd]
 refine congrArg some (Prod.ext (by simp only;omega) ?_)
 first|rfl|simp only [jM,nr,jL,ns,fY,jD,fX,jE,Int.natCast_add,Int.natCast_zero,Int.add_zero,←Int.add_assoc]
theorem Tt:MG (.sl bJ) tK
 :=CE (e:=bJ) (T:=pa (fun _ y _ z=>some (y,z))) (f:=aU) (.pair (.int _) (.pair (.int _) (.sl (e:=(.int .i64)) cY))) fW ⟨trivial,⟨trivial,wH⟩⟩ (fun l k i nx=>by kernel_rfl)
theorem vN (a:aZ):ba bk a=(0+(0+(0+0)))+(ba a9 a.2.1+(ba (.sl bJ) a.2.2.1+(0))):=rfl
theorem Fb (a:aZ)(k:Int):xx bk a k=(a.1,xx a9 a.2.1 (k),xx (.sl bJ) a.2.2.1 (k+((ba a9 a.2.1:Nat):Int)),a.2.2.2):=by
 simp only [jM,nr,jL,ns,fY,jD,fX,jE,Int.natCast_add,Int.natCast_zero,Int.add_zero,←Int.add_assoc]
theorem NX:VW bk lZ:=by
 intro a h k h1 h2
 rw [vN] at h2
 simp (disch:=omega) only [lZ,ab,WN _ h.2.1,Tt.top _ h.2.2.1]
 rw [Fb,vN]
 refine congrArg some (Prod.ext (by simp only;omega) ?_)
 first|rfl|simp only [jM,nr,jL,ns,fY,jD,fX,jE,Int.natCast_add,Int.natCast_zero,Int.add_zero,←Int.add_assoc]
theorem Lz:MG (.sl az) o3
 :=CE (e:=az) (T:=lg (fun _ y _ z=>some (y,z))) (f:=aU) (.pair (.pair (.int _) (.pair (.int _) (.pair (.int _) (.int _)))) (.pair (.pair (.int _) (.pair (.int _) (.int _))) (.pair (.pair (.int _) (.pair (.int _) (.int _))) (.pair (.pair (.pair (.int _) (.pair (.int _) (.pair (.int _) (.pair (.int _) (.pair (.int _) (.pair (.int _) (.pair (.int _) (.pair (.int _) (.pair (.int _) (.pair (.int _) (.pair (.int _) (.pair (.int _) (.pair (.int _) (.pair (.int _) (.pair (.int _) .str))))))))))))))) (.pair (.int _) (.int _))) (.pair .bool (.int _)))))) fW ⟨⟨trivial,⟨trivial,⟨trivial,trivial⟩⟩⟩,⟨⟨trivial,⟨trivial,trivial⟩⟩,⟨⟨trivial,⟨trivial,trivial⟩⟩,⟨⟨⟨trivial,⟨trivial,⟨trivial,⟨trivial,⟨trivial,⟨trivial,⟨trivial,⟨trivial,⟨trivial,⟨trivial,⟨trivial,⟨trivial,⟨trivial,⟨trivial,⟨trivial,trivial⟩⟩⟩⟩⟩⟩⟩⟩⟩⟩⟩⟩⟩⟩⟩,⟨trivial,trivial⟩⟩,⟨trivial,trivial⟩⟩⟩⟩⟩ (fun l k i nx=>by kernel_rfl)
theorem Tr:MG (.sl a9) tI
 :=CE (e:=a9) (T:=oY (fun _ y _ z=>some (y,z))) (f:=aU) (.pair (.int _) (.pair (.int _) (.pair (.int _) (.sl (e:=(.int .i64)) cY)))) fW ⟨trivial,⟨trivial,⟨trivial,wH⟩⟩⟩ (fun l k i nx=>by kernel_rfl)
theorem NR:MG (.sl aM) p7
 :=CE (e:=aM) (T:=mw (fun _ y _ z=>some (y,z))) (f:=aU) (.pair (.int _) (.pair (.int _) (.pair (.int _) (.pair (.int _) (.pair .bool .bool))))) fW ⟨trivial,⟨trivial,⟨trivial,⟨trivial,⟨trivial,trivial⟩⟩⟩⟩⟩ (fun l k i nx=>by kernel_rfl)
theorem Tq:MG (.sl .bool) tH:=by
 refine Je (e:= .bool) (T:=gB (fun _ y _ z=>some (y,z))) (fun l i hi k nx h1 h2 h3 hx=> ?_) (fun l k nx=> ?_)
 ·try simp only [dP,gm,dN,gq,Int.natCast_add,Int.natCast_one,←Int.add_assoc] at h2
  simp only [gB]
  rw [decide_eq_true (by omega)]
  simp (disch:=omega) only [cond_true,ax hi,ab,jd,List.length_set,List.set_set,Int.toNat_natCast,wrap64,if_neg,ne3,fW]
  try simp only [uM,BW,yG,BX,dP,gm,dN,gq,Int.natCast_add,Int.natCast_one,←Int.add_assoc]
 ·simp only [gB]
  rw [decide_eq_false (by omega)];rfl
theorem yp (a:Filter):ba cq a=0+(0+(ba (.sl (.int .i64)) a.2.2)):=rfl
theorem Hi (a:Filter)(k:Int):xx cq a k=(a.1,a.2.1,xx (.sl (.int .i64)) a.2.2 (k)):=by
 simp only [jM,nr,jL,ns,fY,jD,fX,jE,Int.natCast_add,Int.natCast_zero,Int.add_zero,←Int.add_assoc]
theorem Ra:VW cq nm:=by
 intro a h k h1 h2
 rw [yp] at h2
 simp (disch:=omega) only [nm,ab,wH.top _ h.2.2]
 rw [Hi,yp]
 refine congrArg some (Prod.ext (by simp only;omega) ?_)
 first|rfl|simp only [jM,nr,jL,ns,fY,jD,fX,jE,Int.natCast_add,Int.natCast_zero,Int.add_zero,←Int.add_assoc]
theorem Ts:MG (.sl cj) tJ
 :=CE (e:=cj) (T:=oZ (fun _ y _ z=>some (y,z))) (f:=aU) (.pair (.int _) (.pair (.int _) (.pair (.int _) (.pair (.int _) (.pair (.int _) (.pair (.int _) (.pair (.int _) (.pair (.int _) (.int _))))))))) fW ⟨trivial,⟨trivial,⟨trivial,⟨trivial,⟨trivial,⟨trivial,⟨trivial,⟨trivial,trivial⟩⟩⟩⟩⟩⟩⟩⟩ (fun l k i nx=>by kernel_rfl)
theorem Tu:MG (.sl br) tL
 :=CE (e:=br) (T:=pb (fun _ y _ z=>some (y,z))) (f:=aU) (.pair (.int _) (.pair (.pair (.int _) (.pair (.int _) (.pair (.int _) (.pair (.int _) (.int _))))) (.int _))) fW ⟨trivial,⟨⟨trivial,⟨trivial,⟨trivial,⟨trivial,trivial⟩⟩⟩⟩,trivial⟩⟩ (fun l k i nx=>by kernel_rfl)
theorem Jh:VW (.sl br) jo:=by
 intro a h k h1 h2
 simp (disch:=omega) only [jo,ab,Tu.top a h]
theorem yq (a:fU):ba dA a=0+(ba (.sl (.int .i64)) a.2):=rfl
theorem Hj (a:fU)(k:Int):xx dA a k=(a.1,xx (.sl (.int .i64)) a.2 (k)):=by
 simp only [jM,nr,jL,ns,fY,jD,fX,jE,Int.natCast_add,Int.natCast_zero,Int.add_zero,←Int.add_assoc]
theorem Rb:VW dA np:=by
 intro a h k h1 h2
 rw [yq] at h2
 simp (disch:=omega) only [np,ab,wH.top _ h.2]
 rw [Hj,yq]
 refine congrArg some (Prod.ext (by simp only;omega) ?_)
 first|rfl|simp only [jM,nr,jL,ns,fY,jD,fX,jE,Int.natCast_add,Int.natCast_zero,Int.add_zero,←Int.add_assoc]
theorem uk (a:cd):ba bt a=ba (.sl cj) a.1+(ba (.sl br) a.2.1+(ba dA a.2.2)):=rfl
theorem CC (a:cd)(k:Int):xx bt a k=(xx (.sl cj) a.1 (k),xx (.sl br) a.2.1 (k+((ba (.sl cj) a.1:Nat):Int)),xx dA a.2.2 (k+((ba (.sl cj) a.1:Nat):Int)+((ba (.sl br) a.2.1:Nat):Int))):=by
 simp only [jM,nr,jL,ns,fY,jD,fX,jE,Int.natCast_add,Int.natCast_zero,Int.add_zero,←Int.add_assoc]
theorem LH:VW bt kG:=by
 intro a h k h1 h2
 rw [uk] at h2
 simp (disch:=omega) only [kG,ab,Ts.top _ h.1,Jh _ h.2.1,Rb _ h.2.2]
 rw [CC,uk]
 refine congrArg some (Prod.ext (by simp only;omega) ?_)
 first|rfl|simp only [jM,nr,jL,ns,fY,jD,fX,jE,Int.natCast_add,Int.natCast_zero,Int.add_zero,←Int.add_assoc]
theorem NQ:MG (.sl aE) p6
 :=CE (e:=aE) (T:=mu (fun _ y _ z=>some (y,z))) (f:=aU) (.pair (.pair (.int _) (.pair (.int _) (.pair (.int _) (.pair (.int _) (.int _))))) (.pair (.int _) (.pair .str .bool))) fW ⟨⟨trivial,⟨trivial,⟨trivial,⟨trivial,trivial⟩⟩⟩⟩,⟨trivial,⟨trivial,trivial⟩⟩⟩ (fun l k i nx=>by kernel_rfl)
theorem Dc (a:Host):ba bf a=ba (.sl .str) a.1+(ba (.sl au) a.2.1+(ba bk a.2.2.1+(ba (.sl az) a.2.2.2.1+(ba (.sl a9) a.2.2.2.2.1+(ba (.sl aM) a.2.2.2.2.2.1+(ba (.sl .bool) a.2.2.2.2.2.2.1+(ba cq a.2.2.2.2.2.2.2.1+(ba bt a.2.2.2.2.2.2.2.2.1+(ba (.sl aE) a.2.2.2.2.2.2.2.2.2.1+(0+(ba (.sl .str) a.2.2.2.2.2.2.2.2.2.2.2.1+(ba (.sl (.int .i64)) a.2.2.2.2.2.2.2.2.2.2.2.2.1+(ba (.sl (.int .i64)) a.2.2.2.2.2.2.2.2.2.2.2.2.2.1+((0+(0+(0+(0+0)))))))))))))))))):=rfl
theorem PA (a:Host)(k:Int):xx bf a k=(xx (.sl .str) a.1 (k),xx (.sl au) a.2.1 (k+((ba (.sl .str) a.1:Nat):Int)),xx bk a.2.2.1 (k+((ba (.sl .str) a.1:Nat):Int)+((ba (.sl au) a.2.1:Nat):Int)),xx (.sl az) a.2.2.2.1 (k+((ba (.sl .str) a.1:Nat):Int)+((ba (.sl au) a.2.1:Nat):Int)+((ba bk a.2.2.1:Nat):Int)),xx (.sl a9) a.2.2.2.2.1 (k+((ba (.sl .str) a.1:Nat):Int)+((ba (.sl au) a.2.1:Nat):Int)+((ba bk a.2.2.1:Nat):Int)+((ba (.sl az) a.2.2.2.1:Nat):Int)),xx (.sl aM) a.2.2.2.2.2.1 (k+((ba (.sl .str) a.1:Nat):Int)+((ba (.sl au) a.2.1:Nat):Int)+((ba bk a.2.2.1:Nat):Int)+((ba (.sl az) a.2.2.2.1:Nat):Int)+((ba (.sl a9) a.2.2.2.2.1:Nat):Int)),xx (.sl .bool) a.2.2.2.2.2.2.1 (k+((ba (.sl .str) a.1:Nat):Int)+((ba (.sl au) a.2.1:Nat):Int)+((ba bk a.2.2.1:Nat):Int)+((ba (.sl az) a.2.2.2.1:Nat):Int)+((ba (.sl a9) a.2.2.2.2.1:Nat):Int)+((ba (.sl aM) a.2.2.2.2.2.1:Nat):Int)),xx cq a.2.2.2.2.2.2.2.1 (k+((ba (.sl .str) a.1:Nat):Int)+((ba (.sl au) a.2.1:Nat):Int)+((ba bk a.2.2.1:Nat):Int)+((ba (.sl az) a.2.2.2.1:Nat):Int)+((ba (.sl a9) a.2.2.2.2.1:Nat):Int)+((ba (.sl aM) a.2.2.2.2.2.1:Nat):Int)+((ba (.sl .bool) a.2.2.2.2.2.2.1:Nat):Int)),xx bt a.2.2.2.2.2.2.2.2.1 (k+((ba (.sl .str) a.1:Nat):Int)+((ba (.sl au) a.2.1:Nat):Int)+((ba bk a.2.2.1:Nat):Int)+((ba (.sl az) a.2.2.2.1:Nat):Int)+((ba (.sl a9) a.2.2.2.2.1:Nat):Int)+((ba (.sl aM) a.2.2.2.2.2.1:Nat):Int)+((ba (.sl .bool) a.2.2.2.2.2.2.1:Nat):Int)+((ba cq a.2.2.2.2.2.2.2.1:Nat):Int)),xx (.sl aE) a.2.2.2.2.2.2.2.2.2.1 (k+((ba (.sl .str) a.1:Nat):Int)+((ba (.sl au) a.2.1:Nat):Int)+((ba bk a.2.2.1:Nat):Int)+((ba (.sl az) a.2.2.2.1:Nat):Int)+((ba (.sl a9) a.2.2.2.2.1:Nat):Int)+((ba (.sl aM) a.2.2.2.2.2.1:Nat):Int)+((ba (.sl .bool) a.2.2.2.2.2.2.1:Nat):Int)+((ba cq a.2.2.2.2.2.2.2.1:Nat):Int)+((ba bt a.2.2.2.2.2.2.2.2.1:Nat):Int)),a.2.2.2.2.2.2.2.2.2.2.1,xx (.sl .str) a.2.2.2.2.2.2.2.2.2.2.2.1 (k+((ba (.sl .str) a.1:Nat):Int)+((ba (.sl au) a.2.1:Nat):Int)+((ba bk a.2.2.1:Nat):Int)+((ba (.sl az) a.2.2.2.1:Nat):Int)+((ba (.sl a9) a.2.2.2.2.1:Nat):Int)+((ba (.sl aM) a.2.2.2.2.2.1:Nat):Int)+((ba (.sl .bool) a.2.2.2.2.2.2.1:Nat):Int)+((ba cq a.2.2.2.2.2.2.2.1:Nat):Int)+((ba bt a.2.2.2.2.2.2.2.2.1:Nat):Int)+((ba (.sl aE) a.2.2.2.2.2.2.2.2.2.1:Nat):Int)),xx (.sl (.int .i64)) a.2.2.2.2.2.2.2.2.2.2.2.2.1 (k+((ba (.sl .str) a.1:Nat):Int)+((ba (.sl au) a.2.1:Nat):Int)+((ba bk a.2.2.1:Nat):Int)+((ba (.sl az) a.2.2.2.1:Nat):Int)+((ba (.sl a9) a.2.2.2.2.1:Nat):Int)+((ba (.sl aM) a.2.2.2.2.2.1:Nat):Int)+((ba (.sl .bool) a.2.2.2.2.2.2.1:Nat):Int)+((ba cq a.2.2.2.2.2.2.2.1:Nat):Int)+((ba bt a.2.2.2.2.2.2.2.2.1:Nat):Int)+((ba (.sl aE) a.2.2.2.2.2.2.2.2.2.1:Nat):Int)+((ba (.sl .str) a.2.2.2.2.2.2.2.2.2.2.2.1:Nat):Int)),xx (.sl (.int .i64)) a.2.2.2.2.2.2.2.2.2.2.2.2.2.1 (k+((ba (.sl .str) a.1:Nat):Int)+((ba (.sl au) a.2.1:Nat):Int)+((ba bk a.2.2.1:Nat):Int)+((ba (.sl az) a.2.2.2.1:Nat):Int)+((ba (.sl a9) a.2.2.2.2.1:Nat):Int)+((ba (.sl aM) a.2.2.2.2.2.1:Nat):Int)+((ba (.sl .bool) a.2.2.2.2.2.2.1:Nat):Int)+((ba cq a.2.2.2.2.2.2.2.1:Nat):Int)+((ba bt a.2.2.2.2.2.2.2.2.1:Nat):Int)+((ba (.sl aE) a.2.2.2.2.2.2.2.2.2.1:Nat):Int)+((ba (.sl .str) a.2.2.2.2.2.2.2.2.2.2.2.1:Nat):Int)+((ba (.sl (.int .i64)) a.2.2.2.2.2.2.2.2.2.2.2.2.1:Nat):Int)),a.2.2.2.2.2.2.2.2.2.2.2.2.2.2):=by
 simp only [jM,nr,jL,ns,fY,jD,fX,jE,Int.natCast_add,Int.natCast_zero,Int.add_zero,←Int.add_assoc]
theorem PC:VW bf mN:=by
 intro a h k h1 h2
 rw [Dc] at h2
 simp (disch:=omega) only [mN,ab,Hk _ h.1,zU.top _ h.1,Ly.top _ h.2.1,NX _ h.2.2.1,Lz.top _ h.2.2.2.1,Tr.top _ h.2.2.2.2.1,NR.top _ h.2.2.2.2.2.1,Tq.top _ h.2.2.2.2.2.2.1,Ra _ h.2.2.2.2.2.2.2.1,LH _ h.2.2.2.2.2.2.2.2.1,NQ.top _ h.2.2.2.2.2.2.2.2.2.1,Hk _ h.2.2.2.2.2.2.2.2.2.2.2.1,zU.top _ h.2.2.2.2.2.2.2.2.2.2.2.1,wH.top _ h.2.2.2.2.2.2.2.2.2.2.2.2.1,wH.top _ h.2.2.2.2.2.2.2.2.2.2.2.2.2.1]
 rw [PA,Dc]
 refine congrArg some (Prod.ext (by simp only;omega) ?_)
 first|rfl|simp only [jM,nr,jL,ns,fY,jD,fX,jE,Int.natCast_add,Int.natCast_zero,Int.add_zero,←Int.add_assoc]
theorem zM:MF (.sl .str) lV:=by
 refine Jd (e:= .str) (H:=fun v=>eJ (fun y _=>some y) (fun _ y _=>some y) v 0) (fun l i hi x k nx hm h1 h2 h3 hx=> ?_) (fun l k nx=> ?_)
 ·try simp only [dP,gm,dN,gq,Int.natCast_add,Int.natCast_one,←Int.add_assoc] at h2
  try simp only [uM,BW,yG,BX,dP,gm,dN,gq,Int.natCast_add,Int.natCast_one,←Int.add_assoc] at hm
  simp only [eJ]
  rw [decide_eq_true (by omega)]
  simp (disch:=omega) only [cond_true,ax hi,hm,ab,bne_self_eq_false,beq_self_eq_true,Bool.not_true,cond_false,wrap64,if_neg,ne3,lH,fW]
  try simp only [dP,gm,dN,gq,Int.natCast_add,Int.natCast_one,←Int.add_assoc]
 ·simp only [eJ]
  rw [decide_eq_false (by omega)];rfl
theorem G4:VV (.sl .str) nj:=by
 intro a h k h1 h2
 simp (disch:=omega) only [nj,ab,zM.top a h,lH,cond_false]
theorem K6:MF (.sl au) oR
 :=CD (e:=au) (H:=fun v=>lb (fun y _=>some y) (fun _ y _=>some y) v 0) (bad:=fun _ i k=>some (-1)) (f:=aU) (.pair (.int _) (.pair (.int _) (.pair (.int _) .bool))) fW ⟨trivial,⟨trivial,⟨trivial,trivial⟩⟩⟩ (fun l k i nx=>by kernel_rfl)
theorem vV:MF (.sl (.int .i64)) cX:=by
 refine Jd (e:=(.int .i64)) (H:=fun v=>ix (fun y _=>some y) (fun _ y _=>some y) v 0) (fun l i hi x k nx hm h1 h2 h3 hx=> ?_) (fun l k nx=> ?_)
 ·try simp only [dP,gm,dN,gq,Int.natCast_add,Int.natCast_one,←Int.add_assoc] at h2
  try simp only [uM,BW,yG,BX,dP,gm,dN,gq,Int.natCast_add,Int.natCast_one,←Int.add_assoc] at hm
  simp only [ix]
  rw [decide_eq_true (by omega)]
  simp (disch:=omega) only [cond_true,ax hi,hm,ab,bne_self_eq_false,beq_self_eq_true,Bool.not_true,cond_false,wrap64,if_neg,ne3,lH,fW]
  try simp only [dP,gm,dN,gq,Int.natCast_add,Int.natCast_one,←Int.add_assoc]
 ·simp only [ix]
  rw [decide_eq_false (by omega)];rfl
theorem Ws:VV a9 qC:=by
 intro a h k h1 h2
 rw [Dd] at h2
 rw [PB]
 simp (disch:=omega) only [qC,ab,vV.top _ h.2.2.2,lH,cond_false]
 rw [Dd]
 refine congrArg some (by omega)
theorem SS:MF (.sl bJ) tF
 :=CD (e:=bJ) (H:=fun v=>oV (fun y _=>some y) (fun _ y _=>some y) v 0) (bad:=fun _ i k=>some (-1)) (f:=aU) (.pair (.int _) (.pair (.int _) (.sl (e:=(.int .i64)) cX))) fW ⟨trivial,⟨trivial,vV⟩⟩ (fun l k i nx=>by kernel_rfl)
theorem Nm:VV bk lW:=by
 intro a h k h1 h2
 rw [vN] at h2
 rw [Fb]
 simp (disch:=omega) only [lW,ab,Ws _ h.2.1,SS.top _ h.2.2.1,lH,cond_false]
 rw [vN]
 refine congrArg some (by omega)
theorem K7:MF (.sl az) oU
 :=CD (e:=az) (H:=fun v=>ld (fun y _=>some y) (fun _ y _=>some y) v 0) (bad:=fun _ i k=>some (-1)) (f:=aU) (.pair (.pair (.int _) (.pair (.int _) (.pair (.int _) (.int _)))) (.pair (.pair (.int _) (.pair (.int _) (.int _))) (.pair (.pair (.int _) (.pair (.int _) (.int _))) (.pair (.pair (.pair (.int _) (.pair (.int _) (.pair (.int _) (.pair (.int _) (.pair (.int _) (.pair (.int _) (.pair (.int _) (.pair (.int _) (.pair (.int _) (.pair (.int _) (.pair (.int _) (.pair (.int _) (.pair (.int _) (.pair (.int _) (.pair (.int _) .str))))))))))))))) (.pair (.int _) (.int _))) (.pair .bool (.int _)))))) fW ⟨⟨trivial,⟨trivial,⟨trivial,trivial⟩⟩⟩,⟨⟨trivial,⟨trivial,trivial⟩⟩,⟨⟨trivial,⟨trivial,trivial⟩⟩,⟨⟨⟨trivial,⟨trivial,⟨trivial,⟨trivial,⟨trivial,⟨trivial,⟨trivial,⟨trivial,⟨trivial,⟨trivial,⟨trivial,⟨trivial,⟨trivial,⟨trivial,⟨trivial,trivial⟩⟩⟩⟩⟩⟩⟩⟩⟩⟩⟩⟩⟩⟩⟩,⟨trivial,trivial⟩⟩,⟨trivial,trivial⟩⟩⟩⟩⟩ (fun l k i nx=>by kernel_rfl)
theorem SQ:MF (.sl a9) tD
 :=CD (e:=a9) (H:=fun v=>oS (fun y _=>some y) (fun _ y _=>some y) v 0) (bad:=fun _ i k=>some (-1)) (f:=aU) (.pair (.int _) (.pair (.int _) (.pair (.int _) (.sl (e:=(.int .i64)) cX)))) fW ⟨trivial,⟨trivial,⟨trivial,vV⟩⟩⟩ (fun l k i nx=>by kernel_rfl)
theorem Nk:MF (.sl aM) p5
 :=CD (e:=aM) (H:=fun v=>mr (fun y _=>some y) (fun _ y _=>some y) v 0) (bad:=fun _ i k=>some (-1)) (f:=aU) (.pair (.int _) (.pair (.int _) (.pair (.int _) (.pair (.int _) (.pair .bool .bool))))) fW ⟨trivial,⟨trivial,⟨trivial,⟨trivial,⟨trivial,trivial⟩⟩⟩⟩⟩ (fun l k i nx=>by kernel_rfl)
theorem SP:MF (.sl .bool) tC:=by
 refine Jd (e:= .bool) (H:=fun v=>gA (fun y _=>some y) (fun _ y _=>some y) v 0) (fun l i hi x k nx hm h1 h2 h3 hx=> ?_) (fun l k nx=> ?_)
 ·try simp only [dP,gm,dN,gq,Int.natCast_add,Int.natCast_one,←Int.add_assoc] at h2
  try simp only [uM,BW,yG,BX,dP,gm,dN,gq,Int.natCast_add,Int.natCast_one,←Int.add_assoc] at hm
  simp only [gA]
  rw [decide_eq_true (by omega)]
  simp (disch:=omega) only [cond_true,ax hi,hm,ab,bne_self_eq_false,beq_self_eq_true,Bool.not_true,cond_false,wrap64,if_neg,ne3,lH,fW]
  try simp only [dP,gm,dN,gq,Int.natCast_add,Int.natCast_one,←Int.add_assoc]
 ·simp only [gA]
  rw [decide_eq_false (by omega)];rfl
theorem QA:VV cq ni:=by
 intro a h k h1 h2
 rw [yp] at h2
 rw [Hi]
 simp (disch:=omega) only [ni,ab,vV.top _ h.2.2,lH,cond_false]
 rw [yp]
 refine congrArg some (by omega)
theorem SR:MF (.sl cj) tE
 :=CD (e:=cj) (H:=fun v=>oT (fun y _=>some y) (fun _ y _=>some y) v 0) (bad:=fun _ i k=>some (-1)) (f:=aU) (.pair (.int _) (.pair (.int _) (.pair (.int _) (.pair (.int _) (.pair (.int _) (.pair (.int _) (.pair (.int _) (.pair (.int _) (.int _))))))))) fW ⟨trivial,⟨trivial,⟨trivial,⟨trivial,⟨trivial,⟨trivial,⟨trivial,⟨trivial,trivial⟩⟩⟩⟩⟩⟩⟩⟩ (fun l k i nx=>by kernel_rfl)
theorem SU:MF (.sl br) tG
 :=CD (e:=br) (H:=fun v=>oW (fun y _=>some y) (fun _ y _=>some y) v 0) (bad:=fun _ i k=>some (-1)) (f:=aU) (.pair (.int _) (.pair (.pair (.int _) (.pair (.int _) (.pair (.int _) (.pair (.int _) (.int _))))) (.int _))) fW ⟨trivial,⟨⟨trivial,⟨trivial,⟨trivial,⟨trivial,trivial⟩⟩⟩⟩,trivial⟩⟩ (fun l k i nx=>by kernel_rfl)
theorem I1:VV (.sl br) jn:=by
 intro a h k h1 h2
 simp (disch:=omega) only [jn,ab,SU.top a h,lH,cond_false]
theorem QB:VV dA nk:=by
 intro a h k h1 h2
 rw [yq] at h2
 rw [Hj]
 simp (disch:=omega) only [nk,ab,vV.top _ h.2,lH,cond_false]
 rw [yq]
 refine congrArg some (by omega)
theorem K9:VV bt kF:=by
 intro a h k h1 h2
 rw [uk] at h2
 rw [CC]
 simp (disch:=omega) only [kF,ab,SR.top _ h.1,I1 _ h.2.1,QB _ h.2.2,lH,cond_false]
 rw [uk]
 refine congrArg some (by omega)
theorem Nj:MF (.sl aE) p4
 :=CD (e:=aE) (H:=fun v=>mq (fun y _=>some y) (fun _ y _=>some y) v 0) (bad:=fun _ i k=>some (-1)) (f:=aU) (.pair (.pair (.int _) (.pair (.int _) (.pair (.int _) (.pair (.int _) (.int _))))) (.pair (.int _) (.pair .str .bool))) fW ⟨⟨trivial,⟨trivial,⟨trivial,⟨trivial,trivial⟩⟩⟩⟩,⟨trivial,⟨trivial,trivial⟩⟩⟩ (fun l k i nx=>by kernel_rfl)
theorem Wr:VV bf jY:=by
 intro a h k h1 h2
 rw [Dc] at h2
 rw [PA]
 simp (disch:=omega) only [jY,ab,G4 _ h.1,zM.top _ h.1,K6.top _ h.2.1,Nm _ h.2.2.1,K7.top _ h.2.2.2.1,SQ.top _ h.2.2.2.2.1,Nk.top _ h.2.2.2.2.2.1,SP.top _ h.2.2.2.2.2.2.1,QA _ h.2.2.2.2.2.2.2.1,K9 _ h.2.2.2.2.2.2.2.2.1,Nj.top _ h.2.2.2.2.2.2.2.2.2.1,G4 _ h.2.2.2.2.2.2.2.2.2.2.2.1,zM.top _ h.2.2.2.2.2.2.2.2.2.2.2.1,vV.top _ h.2.2.2.2.2.2.2.2.2.2.2.2.1,vV.top _ h.2.2.2.2.2.2.2.2.2.2.2.2.2.1,lH,cond_false]
 rw [Dc]
 refine congrArg some (by omega)
end Go.Pu
end
section
namespace Go.Pu
open Go.Dn
set_option linter.unusedSimpArgs false
set_option linter.unusedVariables false
theorem Ez (a:Host)(b r:Int)(ha:mm bf a)(hb:mm (.int .i64) b)(hr:mm (.int .i64) r):kl a b r=some true:=by
 unfold kl
 refine (Xd a ha).use (by omega) (by omega) fun hl=> ?_
 have hA:aK 1048576 bf a:=Bm (by omega)
 have hz:Ae 1048576 a:=Ae.of (by omega)
 have hs:=RK a b r (hz.mono (by omega))
 have hi:=QE a b r (hz.mono (by omega))
 have hR:=(Qg (by omega) b r hz).z
 have c1:ba bf a≤Gk 1048576 bf:=Nat.le_trans De (gn hA)
 have b1:Gk 1048576 bf≤900000000000000:=by decide
 have c2:ba bf (rP a b r)≤900000000000000:=by
  cases hb:dk a with
  |false=>
   have:rP a b r=a:=by unfold rP;rw [hb];rfl
   rw [this];omega
  |true=>exact Nat.le_trans (Wo hR (Qs b r (YV hb))) (by omega)
 generalize rP a b r=q at hs hi hR c2
 have m1:=PC a (hA.mono (by omega)) 1 (by omega) (by omega)
 have m2:=PC q (hR.mono (by omega)) 1 (by omega) (by omega)
 have m3:∀t,t=xx bf q 1→jY t 1=some (1+(ba bf q:Int)):=by rintro _ rfl;exact Wr q (hR.mono (by omega)) 1 (by omega) (by omega)
 simp (disch:=omega) only [Xh a hA,ab,hs,hi,Pg q (hR.mono (by omega)),Pg a (hA.mono (by omega)),beq_self_eq_true,bne_self_eq_false,Bool.not_true,cond_false,m1,m2,lH]
 rw [m3]
 ·simp (disch:=omega) only [ab,lH,cond_false,bne_self_eq_false]
 ·rfl
end Go.Pu
end
