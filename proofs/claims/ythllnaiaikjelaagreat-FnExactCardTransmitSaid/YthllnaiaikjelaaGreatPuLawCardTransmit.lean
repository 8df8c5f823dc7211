import Derived.Test.YthllnaiaikjelaaGreatPuX2
section
/- The laws' marks, type by type (made by codec.py). -/
namespace Go.Pu
open Go.Dn
set_option linter.unusedVariables false
set_option linter.unusedSimpArgs false
set_option maxRecDepth 100000
set_option maxHeartbeats 4000000
theorem Av:R5 (.sl (.int .i64)) dK:=by
 refine SX (e:=(.int .i64)) (T:=nd (λ_ y _ z=>some (y,z))) (λl i hi k nx h1 h2 h3 hx=>?_) (λl k nx=>?_)
 ·try simp only[iY,kY,iX,kZ,cH,cI,<-dp]at h2
  simp only[nd];rw[jh];simp (disch:=omega) only[af,aY hi,ab,nM,bg,List.set_set,aA,ai,aG,ne3,ix];try simp only[CG,Ll,Hr,Lm,iY,kY,iX,kZ,cH,cI,<-dp]
 simp only[nd];rw[gZ];rfl
theorem BR:R5 (.sl .str) gU:=by
 refine SX (e:=.str) (T:=jO (λ_ y _ z=>some (y,z))) (λl i hi k nx h1 h2 h3 hx=>?_) (λl k nx=>?_)
 ·try simp only[iY,kY,iX,kZ,cH,cI,<-dp]at h2
  simp only[jO];rw[jh];simp (disch:=omega) only[af,aY hi,ab,nM,bg,List.set_set,aA,ai,aG,ne3,ix];try simp only[CG,Ll,Hr,Lm,iY,kY,iX,kZ,cH,cI,<-dp]
 simp only[jO];rw[gZ];rfl
theorem Vn:R5 (.sl eL) pF:=GC (e:=eL) (T:=qz (λ_ y _ z=>some (y,z))) (f:=bL) (.pair (.int _) (.pair (.int _) (.pair (.int _) .bool))) ix ⟨bX,⟨bX,⟨bX,bX⟩⟩⟩ (λl k i nx=>by kernel_rfl)
theorem aed:R5 (.sl mj) wa:=GC (e:=mj) (T:=we (λ_ y _ z=>some (y,z))) (f:=bL) (.pair (.int _) (.pair (.int _) (.sl (e:=(.int .i64)) dK))) ix ⟨bX,⟨bX,Av⟩⟩ (λl k i nx=>by kernel_rfl)
theorem Vo:R5 (.sl dQ) pG:=GC (e:=dQ) (T:=qA (λ_ y _ z=>some (y,z))) (f:=bL) (.pair (.pair (.int _) (.pair (.int _) (.pair (.int _) (.int _)))) (.pair (.pair (.int _) (.pair (.int _) (.int _))) (.pair (.pair (.int _) (.pair (.int _) (.int _))) (.pair (.pair (.pair (.int _) (.pair (.int _) (.pair (.int _) (.pair (.int _) (.pair (.int _) (.pair (.int _) (.pair (.int _) (.pair (.int _) (.pair (.int _) (.pair (.int _) (.pair (.int _) (.pair (.int _) (.pair (.int _) (.pair (.int _) (.pair (.int _) .str))))))))))))))) (.pair (.int _) (.int _))) (.pair .bool (.int _)))))) ix ⟨⟨bX,⟨bX,⟨bX,bX⟩⟩⟩,⟨⟨bX,⟨bX,bX⟩⟩,⟨⟨bX,⟨bX,bX⟩⟩,⟨⟨⟨bX,⟨bX,⟨bX,⟨bX,⟨bX,⟨bX,⟨bX,⟨bX,⟨bX,⟨bX,⟨bX,⟨bX,⟨bX,⟨bX,⟨bX,bX⟩⟩⟩⟩⟩⟩⟩⟩⟩⟩⟩⟩⟩⟩⟩,⟨bX,bX⟩⟩,⟨bX,bX⟩⟩⟩⟩⟩ (λl k i nx=>by kernel_rfl)
theorem aeb:R5 (.sl mi) vW:=GC (e:=mi) (T:=vX (λ_ y _ z=>some (y,z))) (f:=bL) (.pair (.int _) (.pair (.int _) (.pair (.int _) (.sl (e:=(.int .i64)) dK)))) ix ⟨bX,⟨bX,⟨bX,Av⟩⟩⟩ (λl k i nx=>by kernel_rfl)
theorem Ya:R5 (.sl gz) rL:=GC (e:=gz) (T:=sC (λ_ y _ z=>some (y,z))) (f:=bL) (.pair (.int _) (.pair (.int _) (.pair (.int _) (.pair (.int _) (.pair .bool .bool))))) ix ⟨bX,⟨bX,⟨bX,⟨bX,⟨bX,bX⟩⟩⟩⟩⟩ (λl k i nx=>by kernel_rfl)
theorem ad9:R5 (.sl .bool) vS:=by
 refine SX (e:=.bool) (T:=lB (λ_ y _ z=>some (y,z))) (λl i hi k nx h1 h2 h3 hx=>?_) (λl k nx=>?_)
 ·try simp only[iY,kY,iX,kZ,cH,cI,<-dp]at h2
  simp only[lB];rw[jh];simp (disch:=omega) only[af,aY hi,ab,nM,bg,List.set_set,aA,ai,aG,ne3,ix];try simp only[CG,Ll,Hr,Lm,iY,kY,iX,kZ,cH,cI,<-dp]
 simp only[lB];rw[gZ];rfl
theorem aec:R5 (.sl pn) vY:=GC (e:=pn) (T:=vZ (λ_ y _ z=>some (y,z))) (f:=bL) (.pair (.int _) (.pair (.int _) (.pair (.int _) (.pair (.int _) (.pair (.int _) (.pair (.int _) (.pair (.int _) (.pair (.int _) (.int _))))))))) ix ⟨bX,⟨bX,⟨bX,⟨bX,⟨bX,⟨bX,⟨bX,⟨bX,bX⟩⟩⟩⟩⟩⟩⟩⟩ (λl k i nx=>by kernel_rfl)
theorem aee:R5 (.sl kM) wg:=GC (e:=kM) (T:=wh (λ_ y _ z=>some (y,z))) (f:=bL) (.pair (.int _) (.pair (.pair (.int _) (.pair (.int _) (.pair (.int _) (.pair (.int _) (.int _))))) (.int _))) ix ⟨bX,⟨⟨bX,⟨bX,⟨bX,⟨bX,bX⟩⟩⟩⟩,bX⟩⟩ (λl k i nx=>by kernel_rfl)
theorem X9:R5 (.sl gb) rJ:=GC (e:=gb) (T:=sB (λ_ y _ z=>some (y,z))) (f:=bL) (.pair (.pair (.int _) (.pair (.int _) (.pair (.int _) (.pair (.int _) (.int _))))) (.pair (.int _) (.pair .str .bool))) ix ⟨⟨bX,⟨bX,⟨bX,⟨bX,bX⟩⟩⟩⟩,⟨bX,⟨bX,bX⟩⟩⟩ (λl k i nx=>by kernel_rfl)
theorem aea:R5 (.sl fF) BF:=GC (e:=fF) (T:=vU (λ_ y _ z=>some (y,z))) (f:=bL) (.pair (.sl (e:=.str) gU) (.pair (.sl (e:=eL) pF) (.pair (.pair (.pair (.int _) (.pair (.int _) (.pair (.int _) (.int _)))) (.pair (.pair (.int _) (.pair (.int _) (.pair (.int _) (.sl (e:=(.int .i64)) dK)))) (.pair (.sl (e:=mj) wa) (.int _)))) (.pair (.sl (e:=dQ) pG) (.pair (.sl (e:=mi) vW) (.pair (.sl (e:=gz) rL) (.pair (.sl (e:=.bool) vS) (.pair (.pair (.int _) (.pair .bool (.sl (e:=(.int .i64)) dK))) (.pair (.pair (.sl (e:=pn) vY) (.pair (.sl (e:=kM) wg) (.pair .str (.sl (e:=(.int .i64)) dK)))) (.pair (.sl (e:=gb) rJ) (.pair .bool (.pair (.sl (e:=.str) gU) (.pair (.sl (e:=(.int .i64)) dK) (.pair (.sl (e:=(.int .i64)) dK) (.pair (.int _) (.pair (.int _) (.pair (.int _) (.pair (.int _) (.int _))))))))))))))))))) ix ⟨BR,⟨Vn,⟨⟨⟨bX,⟨bX,⟨bX,bX⟩⟩⟩,⟨⟨bX,⟨bX,⟨bX,Av⟩⟩⟩,⟨aed,bX⟩⟩⟩,⟨Vo,⟨aeb,⟨Ya,⟨ad9,⟨⟨bX,⟨bX,Av⟩⟩,⟨⟨aec,⟨aee,⟨bX,Av⟩⟩⟩,⟨X9,⟨bX,⟨BR,⟨Av,⟨Av,⟨bX,⟨bX,⟨bX,⟨bX,bX⟩⟩⟩⟩⟩⟩⟩⟩⟩⟩⟩⟩⟩⟩⟩⟩⟩⟩ (λl k i nx=>by kernel_rfl)
theorem HT:R5 (.sl bS) kR:=GC (e:=bS) (T:=jA (λ_ y _ z=>some (y,z))) (f:=bL) (.pair (.int _) (.pair (.int _) (.pair (.pair (.int _) (.pair (.int _) (.int _))) (.pair .bool (.pair (.int _) (.int _)))))) ix ⟨bX,⟨bX,⟨⟨bX,⟨bX,bX⟩⟩,⟨bX,⟨bX,bX⟩⟩⟩⟩⟩ (λl k i nx=>by kernel_rfl)
theorem Vm:R5 (.sl eV) vV:=GC (e:=eV) (T:=qy (λ_ y _ z=>some (y,z))) (f:=bL) (.pair (.pair (.int _) (.pair .bool (.sl (e:=(.int .i64)) dK))) (.pair (.int _) (.pair (.int _) (.int _)))) ix ⟨⟨bX,⟨bX,Av⟩⟩,⟨bX,⟨bX,bX⟩⟩⟩ (λl k i nx=>by kernel_rfl)
theorem Vw:MtM (.sl .str) vT:=by intro a h k h1 h2;simp (disch:=omega) only[vT,ab,BR.top a h]
theorem MS (a:dH):kj iB a=kj (.sl fF) a.1+(kj (.sl bS) a.2.1+(kj (.sl eV) a.2.2.1+(kj (.sl .str) a.2.2.2.1+((0+(0+(0+0)))+(kj (.sl (.int .i64)) a.2.2.2.2.2.1+(kj (.sl .str) a.2.2.2.2.2.2)))))):=rfl
theorem ZK (a:dH)(k:Int):TO iB a k=(TO (.sl fF) a.1 (k),TO (.sl bS) a.2.1 (k+((kj (.sl fF) a.1:Nat):Int)),TO (.sl eV) a.2.2.1 (k+((kj (.sl fF) a.1:Nat):Int)+((kj (.sl bS) a.2.1:Nat):Int)),TO (.sl .str) a.2.2.2.1 (k+((kj (.sl fF) a.1:Nat):Int)+((kj (.sl bS) a.2.1:Nat):Int)+((kj (.sl eV) a.2.2.1:Nat):Int)),a.2.2.2.2.1,TO (.sl (.int .i64)) a.2.2.2.2.2.1 (k+((kj (.sl fF) a.1:Nat):Int)+((kj (.sl bS) a.2.1:Nat):Int)+((kj (.sl eV) a.2.2.1:Nat):Int)+((kj (.sl .str) a.2.2.2.1:Nat):Int)),TO (.sl .str) a.2.2.2.2.2.2 (k+((kj (.sl fF) a.1:Nat):Int)+((kj (.sl bS) a.2.1:Nat):Int)+((kj (.sl eV) a.2.2.1:Nat):Int)+((kj (.sl .str) a.2.2.2.1:Nat):Int)+((kj (.sl (.int .i64)) a.2.2.2.2.2.1:Nat):Int))):=by simp only[Vl,ZM,Vk,ZN,QA,Ua,Qz,Ub,cH,Int.natCast_zero,Int.add_zero,<-dp]
theorem ZO:MtM iB sW:=by intro a h k h1 h2;rw[MS]at h2;simp (disch:=omega) only[sW,ab,aea.top _ h.1,HT.top _ h.2.1,Vm.top _ h.2.2.1,Vw _ h.2.2.2.1,BR.top _ h.2.2.2.1,Av.top _ h.2.2.2.2.2.1,Vw _ h.2.2.2.2.2.2,BR.top _ h.2.2.2.2.2.2];rw[ZK,MS];refine congrArg some (Prod.ext (by simp only;omega) ?_);first|rfl|simp only[Vl,ZM,Vk,ZN,QA,Ua,Qz,Ub,cH,Int.natCast_zero,Int.add_zero,<-dp]
theorem Ac:R4 (.sl (.int .i64)) dJ:=by
 refine SW (e:=(.int .i64)) (H:=λv=>nb (λy _=>some y) (λ_ y _=>some y) v 0) (λl i hi x k nx hm h1 h2 h3 hx=>?_) (λl k nx=>?_)
 ·try simp only[iY,kY,iX,kZ,cH,cI,<-dp]at h2
  try simp only[CG,Ll,Hr,Lm,iY,kY,iX,kZ,cH,cI,<-dp]at hm
  simp only[nb];rw[jh];simp (disch:=omega) only[af,aY hi,hm,ab,bne_self_eq_false,fG,aj,ae,ai,aG,ne3,Ec,ix];try simp only[iY,kY,iX,kZ,cH,cI,<-dp]
 simp only[nb];rw[gZ];rfl
theorem Bo:R4 (.sl .str) gT:=by
 refine SW (e:=.str) (H:=λv=>jN (λy _=>some y) (λ_ y _=>some y) v 0) (λl i hi x k nx hm h1 h2 h3 hx=>?_) (λl k nx=>?_)
 ·try simp only[iY,kY,iX,kZ,cH,cI,<-dp]at h2
  try simp only[CG,Ll,Hr,Lm,iY,kY,iX,kZ,cH,cI,<-dp]at hm
  simp only[jN];rw[jh];simp (disch:=omega) only[af,aY hi,hm,ab,bne_self_eq_false,fG,aj,ae,ai,aG,ne3,Ec,ix];try simp only[iY,kY,iX,kZ,cH,cI,<-dp]
 simp only[jN];rw[gZ];rfl
theorem UF:R4 (.sl eL) pD:=GB (e:=eL) (H:=λv=>qw (λy _=>some y) (λ_ y _=>some y) v 0) (bad:=λ_ i k=>some (-1)) (f:=bL) (.pair (.int _) (.pair (.int _) (.pair (.int _) .bool))) ix ⟨bX,⟨bX,⟨bX,bX⟩⟩⟩ (λl k i nx=>by kernel_rfl)
theorem adb:R4 (.sl mj) vO:=GB (e:=mj) (H:=λv=>vP (λy _=>some y) (λ_ y _=>some y) v 0) (bad:=λ_ i k=>some (-1)) (f:=bL) (.pair (.int _) (.pair (.int _) (.sl (e:=(.int .i64)) dJ))) ix ⟨bX,⟨bX,Ac⟩⟩ (λl k i nx=>by kernel_rfl)
theorem UG:R4 (.sl dQ) pE:=GB (e:=dQ) (H:=λv=>qx (λy _=>some y) (λ_ y _=>some y) v 0) (bad:=λ_ i k=>some (-1)) (f:=bL) (.pair (.pair (.int _) (.pair (.int _) (.pair (.int _) (.int _)))) (.pair (.pair (.int _) (.pair (.int _) (.int _))) (.pair (.pair (.int _) (.pair (.int _) (.int _))) (.pair (.pair (.pair (.int _) (.pair (.int _) (.pair (.int _) (.pair (.int _) (.pair (.int _) (.pair (.int _) (.pair (.int _) (.pair (.int _) (.pair (.int _) (.pair (.int _) (.pair (.int _) (.pair (.int _) (.pair (.int _) (.pair (.int _) (.pair (.int _) .str))))))))))))))) (.pair (.int _) (.int _))) (.pair .bool (.int _)))))) ix ⟨⟨bX,⟨bX,⟨bX,bX⟩⟩⟩,⟨⟨bX,⟨bX,bX⟩⟩,⟨⟨bX,⟨bX,bX⟩⟩,⟨⟨⟨bX,⟨bX,⟨bX,⟨bX,⟨bX,⟨bX,⟨bX,⟨bX,⟨bX,⟨bX,⟨bX,⟨bX,⟨bX,⟨bX,⟨bX,bX⟩⟩⟩⟩⟩⟩⟩⟩⟩⟩⟩⟩⟩⟩⟩,⟨bX,bX⟩⟩,⟨bX,bX⟩⟩⟩⟩⟩ (λl k i nx=>by kernel_rfl)
theorem ac9:R4 (.sl mi) vK:=GB (e:=mi) (H:=λv=>vL (λy _=>some y) (λ_ y _=>some y) v 0) (bad:=λ_ i k=>some (-1)) (f:=bL) (.pair (.int _) (.pair (.int _) (.pair (.int _) (.sl (e:=(.int .i64)) dJ)))) ix ⟨bX,⟨bX,⟨bX,Ac⟩⟩⟩ (λl k i nx=>by kernel_rfl)
theorem Xx:R4 (.sl gz) rH:=GB (e:=gz) (H:=λv=>sA (λy _=>some y) (λ_ y _=>some y) v 0) (bad:=λ_ i k=>some (-1)) (f:=bL) (.pair (.int _) (.pair (.int _) (.pair (.int _) (.pair (.int _) (.pair .bool .bool))))) ix ⟨bX,⟨bX,⟨bX,⟨bX,⟨bX,bX⟩⟩⟩⟩⟩ (λl k i nx=>by kernel_rfl)
theorem ac7:R4 (.sl .bool) vG:=by
 refine SW (e:=.bool) (H:=λv=>lA (λy _=>some y) (λ_ y _=>some y) v 0) (λl i hi x k nx hm h1 h2 h3 hx=>?_) (λl k nx=>?_)
 ·try simp only[iY,kY,iX,kZ,cH,cI,<-dp]at h2
  try simp only[CG,Ll,Hr,Lm,iY,kY,iX,kZ,cH,cI,<-dp]at hm
  simp only[lA];rw[jh];simp (disch:=omega) only[af,aY hi,hm,ab,bne_self_eq_false,fG,aj,ae,ai,aG,ne3,Ec,ix];try simp only[iY,kY,iX,kZ,cH,cI,<-dp]
 simp only[lA];rw[gZ];rfl
theorem ada:R4 (.sl pn) vM:=GB (e:=pn) (H:=λv=>vN (λy _=>some y) (λ_ y _=>some y) v 0) (bad:=λ_ i k=>some (-1)) (f:=bL) (.pair (.int _) (.pair (.int _) (.pair (.int _) (.pair (.int _) (.pair (.int _) (.pair (.int _) (.pair (.int _) (.pair (.int _) (.int _))))))))) ix ⟨bX,⟨bX,⟨bX,⟨bX,⟨bX,⟨bX,⟨bX,⟨bX,bX⟩⟩⟩⟩⟩⟩⟩⟩ (λl k i nx=>by kernel_rfl)
theorem ade:R4 (.sl kM) vQ:=GB (e:=kM) (H:=λv=>vR (λy _=>some y) (λ_ y _=>some y) v 0) (bad:=λ_ i k=>some (-1)) (f:=bL) (.pair (.int _) (.pair (.pair (.int _) (.pair (.int _) (.pair (.int _) (.pair (.int _) (.int _))))) (.int _))) ix ⟨bX,⟨⟨bX,⟨bX,⟨bX,⟨bX,bX⟩⟩⟩⟩,bX⟩⟩ (λl k i nx=>by kernel_rfl)
theorem Xw:R4 (.sl gb) rG:=GB (e:=gb) (H:=λv=>sy (λy _=>some y) (λ_ y _=>some y) v 0) (bad:=λ_ i k=>some (-1)) (f:=bL) (.pair (.pair (.int _) (.pair (.int _) (.pair (.int _) (.pair (.int _) (.int _))))) (.pair (.int _) (.pair .str .bool))) ix ⟨⟨bX,⟨bX,⟨bX,⟨bX,bX⟩⟩⟩⟩,⟨bX,⟨bX,bX⟩⟩⟩ (λl k i nx=>by kernel_rfl)
theorem ac8:R4 (.sl fF) BE:=GB (e:=fF) (H:=λv=>vI (λy _=>some y) (λ_ y _=>some y) v 0) (bad:=λ_ i k=>some (-1)) (f:=bL) (.pair (.sl (e:=.str) gT) (.pair (.sl (e:=eL) pD) (.pair (.pair (.pair (.int _) (.pair (.int _) (.pair (.int _) (.int _)))) (.pair (.pair (.int _) (.pair (.int _) (.pair (.int _) (.sl (e:=(.int .i64)) dJ)))) (.pair (.sl (e:=mj) vO) (.int _)))) (.pair (.sl (e:=dQ) pE) (.pair (.sl (e:=mi) vK) (.pair (.sl (e:=gz) rH) (.pair (.sl (e:=.bool) vG) (.pair (.pair (.int _) (.pair .bool (.sl (e:=(.int .i64)) dJ))) (.pair (.pair (.sl (e:=pn) vM) (.pair (.sl (e:=kM) vQ) (.pair .str (.sl (e:=(.int .i64)) dJ)))) (.pair (.sl (e:=gb) rG) (.pair .bool (.pair (.sl (e:=.str) gT) (.pair (.sl (e:=(.int .i64)) dJ) (.pair (.sl (e:=(.int .i64)) dJ) (.pair (.int _) (.pair (.int _) (.pair (.int _) (.pair (.int _) (.int _))))))))))))))))))) ix ⟨Bo,⟨UF,⟨⟨⟨bX,⟨bX,⟨bX,bX⟩⟩⟩,⟨⟨bX,⟨bX,⟨bX,Ac⟩⟩⟩,⟨adb,bX⟩⟩⟩,⟨UG,⟨ac9,⟨Xx,⟨ac7,⟨⟨bX,⟨bX,Ac⟩⟩,⟨⟨ada,⟨ade,⟨bX,Ac⟩⟩⟩,⟨Xw,⟨bX,⟨Bo,⟨Ac,⟨Ac,⟨bX,⟨bX,⟨bX,⟨bX,bX⟩⟩⟩⟩⟩⟩⟩⟩⟩⟩⟩⟩⟩⟩⟩⟩⟩⟩ (λl k i nx=>by kernel_rfl)
theorem HO:R4 (.sl bS) kQ:=GB (e:=bS) (H:=λv=>jz (λy _=>some y) (λ_ y _=>some y) v 0) (bad:=λ_ i k=>some (-1)) (f:=bL) (.pair (.int _) (.pair (.int _) (.pair (.pair (.int _) (.pair (.int _) (.int _))) (.pair .bool (.pair (.int _) (.int _)))))) ix ⟨bX,⟨bX,⟨⟨bX,⟨bX,bX⟩⟩,⟨bX,⟨bX,bX⟩⟩⟩⟩⟩ (λl k i nx=>by kernel_rfl)
theorem UE:R4 (.sl eV) vJ:=GB (e:=eV) (H:=λv=>qv (λy _=>some y) (λ_ y _=>some y) v 0) (bad:=λ_ i k=>some (-1)) (f:=bL) (.pair (.pair (.int _) (.pair .bool (.sl (e:=(.int .i64)) dJ))) (.pair (.int _) (.pair (.int _) (.int _)))) ix ⟨⟨bX,⟨bX,Ac⟩⟩,⟨bX,⟨bX,bX⟩⟩⟩ (λl k i nx=>by kernel_rfl)
theorem UR:MtH (.sl .str) vH:=by intro a h k h1 h2;simp (disch:=omega) only[vH,ab,Bo.top a h,Ec,ae]
theorem afE:MtH iB oP:=by intro a h k h1 h2;rw[MS]at h2;rw[ZK];simp (disch:=omega) only[oP,ab,ac8.top _ h.1,HO.top _ h.2.1,UE.top _ h.2.2.1,UR _ h.2.2.2.1,Bo.top _ h.2.2.2.1,Ac.top _ h.2.2.2.2.2.1,UR _ h.2.2.2.2.2.2,Bo.top _ h.2.2.2.2.2.2,Ec,ae];rw[MS];refine congrArg some (by omega)
end Go.Pu
end
namespace Go.Pu
open Go.Dn
set_option linter.unusedSimpArgs false
set_option linter.unusedVariables false
noncomputable section
theorem Jv (a:dH)(i:Int)(ha:og iB a)(hi0:og (.int .i64) i):lZ a i=some true:=by
 unfold lZ;refine(agc a ha).use (by omega) (by omega) λhl=>?_;have hA:cr 1048576 iB a:=HH (by omega);have hz:Db 1048576 a:=Db.of (by omega);have hs:=Yy a i (hz.mono);have hi:=XH a i (hz.mono);have hR:=(Ny (by omega) i hz).1.z;have c1:=T8 (c:=a) (by omega);have c2:=T7 i hz c1;generalize xD a i=r at hs hi hR c2;have m1:=ZO a (hA.mono) 1 (by omega) (by omega);have m2:=ZO r (hR.mono) 1 (by omega) (by omega);have m3:∀t,t=TO iB r 1->oP t 1=some (1+(kj iB r:Int)):=by rintro _ rfl;exact afE r (hR.mono) 1 (by omega) (by omega)
 simp (disch:=omega) only[agj a hA,ab,hs,hi,Zf r (hR.mono),Zf a (hA.mono),fG,bne_self_eq_false,aj,ae,m1,m2,Ec];rw[m3];simp (disch:=omega) only[ab,Ec,ae,bne_self_eq_false];rfl
end
end Go.Pu
