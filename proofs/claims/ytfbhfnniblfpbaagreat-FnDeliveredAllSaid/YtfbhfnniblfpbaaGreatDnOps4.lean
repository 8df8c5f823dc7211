import Derived.Test.YtfbhfnniblfpbaaGreatDnOps3
import Derived.Test.YtfbhfnniblfpbaaGreatDnEq
/- Part 4: addresses, numbers, strings, slices of slices. -/
namespace Go.Dn
open Go.RowKit
variable {P:Program} {C:Ctx} {st:AS} {a:Act} {w:World} {R:Type} {r:R}
variable {args:Array Operand} {ts:Array TypeId} {x:Operand} {T:TypeId}
theorem Xf {E:Env}(hE:jA P E.ty){o:Oper}{S:TypeId}{p:Operand}{f:Nat}(ho:o.op=.fieldAddr S p f)(h:oz C st a w){K:AS->ax R}(hk:Bu E o S p f st K=some r):mW P C o a w K r:=by
 unfold Bu at hk
 have run:∀(sh:Shape),iY E.ty S=some sh->sh.agg=true->∀fo n,nth sh.kb f=some (fo,n)->∀b off,a.eval p=.pointer (some ⟨b,off,none⟩)->
  (execOp a.eval o).run P w=.ok (.value (.pointer (some ⟨b,off+fo,none⟩))) w:=by
  intro sh hS Mr fo n hf b off hv
  obtain⟨fs,hu,H9⟩:=(hE S sh hS).agg Mr
  rw[dJ]at hf
  obtain⟨fd,hfd,Px,hn,i,hi,uq⟩:=H9 f fo n hf
  simp only[execOp,ho,hv,Instr.fieldAt,Instr.sureAddr,underlying,Sem.run_bind,run_program,hu,Result.andThen_ok,Sem.run_pure,hfd,fieldPlace,sizeOf,typeInfo,hi,uq,Px]
  rw[mQ]
  simp[nu]
 obtain⟨g,hg⟩:=id h;have vG:=hg.rd p;split at hk;rename_i ct kb s off hS hp;split at hk;rename_i fo n hf;rw[hp]at vG;have hv:=Cq vG;have hpr:=(ew vG).2.1;refine⟨_,_,_,.inl (run _ hS rfl fo n hf _ _ hv),?_,hk⟩;exact⟨g,hg.quiet o.dst (mH ⟨rfl,hpr,rfl⟩)⟩;cases hk;rename_i ct kb fl e x i off hS hp;split at hk;rename_i fo n hf;rw[hp]at vG;have hc:=ew vG;cases fl with
 |own t=>exact hc.elim
 |nest _ _ _ _ _ _=>exact hc.elim
 |part _ _ _ _=>exact hc.elim
 |eY _ _ _=>exact hc.elim
 |arg _=>obtain⟨h1,b,ob,hv,h2⟩:=hc;refine⟨_,_,_,.inl (run _ hS rfl fo n hf _ _ hv),?_,hk⟩;exact⟨g,hg.quiet o.dst (mH ⟨rfl,b,ob,by rw[fu],h2⟩)⟩
 |loc ep pv=>obtain⟨h1,b,ob,hv,h2⟩:=hc;refine⟨_,_,_,.inl (run _ hS rfl fo n hf _ _ hv),?_,hk⟩;exact⟨g,hg.quiet o.dst (mH ⟨rfl,b,ob,by rw[fu],h2⟩)⟩
 cases hk;cases hk
theorem FU {E:Env}(hE:jA P E.ty){e:CT}(h:E.sl T=some e):∃te,P.underlying T=some (.slice te)/\MF P te e:=by unfold Env.sl at h;split at h;rename_i e' kb hT;simp at h;subst h;obtain⟨te,hu,he,_⟩:=(hE T _ hT).sl _ rfl rfl;exact⟨te,hu,he⟩;cases h
theorem Tn {E:Env}(hE:jA P E.ty)(h:E.str T=true):P.underlying T=some .string:=by unfold Env.str at h;split at h;rename_i kb hT;exact(hE T _ hT).str rfl rfl;cases h
theorem afa {E:Env}(hE:jA P E.ty)(h:E.bool T=true):P.underlying T=some .bool:=by unfold Env.bool at h;split at h;rename_i kb hT;exact(hE T _ hT).bool rfl rfl;cases h
theorem aW {α:Type}{xs:au α}{n:Int}{y:α}(h:idx xs n=some y):∃k:Nat,n=k/\k<xs.length/\xs[k]?=some y:=by obtain⟨k,h1,h2⟩:=UJ h;exact⟨k,h1,(aE.1 h2).1,h2⟩
theorem NT {E:Env}(hE:jA P E.ty){o:Oper}{i:Operand}(ho:o.op=.indexAddr T x i)(h:oz C st a w){K:AS->ax R}(hk:mG E o T x i st K=some r):mW P C o a w K r:=by
 unfold mG at hk;obtain⟨g,hg⟩:=id h;have vH:=hg.fresh (hg.rd x);have hiv:=hg.rd i;split at hk;rename_i e' fl e xs kd n hT hx hi;split at hk;rename_i hc;obtain⟨rfl,pB⟩:=hc;rw[hx]at vH;rw[hi]at hiv;have hxc:=ew vH;have vS:=iT hiv;cases Fq:idx xs n with
 |none=>rw[Fq]at hk;cases hk
 |some y=>
  rw[Fq]at hk;simp only[aa]at hk;obtain⟨k,rfl,hkl,hky⟩:=aW Fq;obtain⟨te,hu,⟨inf,z,Db,uq,_⟩,_⟩:=FU hE hT;have run:∀b ob cap,a.eval x=.slice (some ⟨b,ob,none⟩) xs.length cap->(execOp a.eval o).run P w=.ok (.value (.pointer (some ⟨b,ob+k*e'.size,none⟩))) w:=by intro b ob cap hv;simp[execOp,ho,hv,vS,Instr.indexAt,asIntOf,underlying,hu,sizeOf,typeInfo,Db,uq,hkl,nu]
  cases fl with
  |own t=>cases pB
  |nest _ _ _ _ _ _=>cases pB
  |part _ _ _ _=>cases pB
  |eY _ _ _=>cases pB
  |arg _=>obtain⟨_,v,hv,hr⟩:=hxc;simp at hv;subst hv;rcases hr with⟨_,rfl⟩|⟨b,ob,cap,hv,_,hr⟩;simp at hky;obtain⟨cs,Ki,IL⟩:=hr k y hky;refine⟨_,_,_,.inl (run b ob cap hv),?_,hk⟩;exact⟨g,hg.quiet o.dst (mH ⟨rfl,b,ob+k*e'.size,rfl,cs,Ki,IL⟩)⟩
  |loc ep pv=>
   obtain⟨_,zM,_,IL,vG⟩:=hxc;have aoh:ep=st.ep:=by simpa[rj.live]using pB
   obtain⟨v,hv,hr⟩:=IL aoh;simp at hv;subst hv;rcases hr with⟨_,rfl⟩|⟨b,ob,cap,hv,_,hr⟩;simp at hky;obtain⟨cs,Ki,adu⟩:=hr k y hky;refine⟨_,_,_,.inl (run b ob cap hv),?_,hk⟩;refine⟨g,hg.quiet o.dst (mH ⟨rfl,b,ob+k*e'.size,rfl,zM,λ_=>⟨cs,Ki,adu⟩,λrt t hp=>?_⟩)⟩;obtain⟨h1,h2⟩:=vG rt t hp;exact⟨h1,k,ob,xs.length,cap,rfl,by rw[<-h2,hv],hkl,rfl⟩
 cases hk;cases hk
theorem yB (s:au UInt8):(ByteArray.mk s.toArray).size=s.length:=by show s.toArray.size=s.length;simp
theorem aai (s:au UInt8)(n:Nat):(ByteArray.mk s.toArray)[n]?=s[n]?:=by
 simp only[getElem?_def];by_cases h:n<s.length;have h':n<(ByteArray.mk s.toArray).size:=by rw[yB];exact h
 rw[dif_pos h',dif_pos h];rfl;have h':¬n<(ByteArray.mk s.toArray).size:=by rw[yB];exact h
 rw[dif_neg h',dif_neg h]
theorem XJ {E:Env}(hE:jA P E.ty){o:Oper}{i:Operand}(ho:o.op=.index T x i)(h:oz C st a w){K:AS->ax R}(hk:CL E o T x i st K=some r):mW P C o a w K r:=by
 unfold CL at hk;obtain⟨g,hg⟩:=id h;have vH:=hg.rd x;have hiv:=hg.rd i;split at hk;rename_i s kd n hx hi;split at hk;rename_i hT;rw[hx]at vH;rw[hi]at hiv;have hxc:=(ew vH).1;have vS:=iT hiv;cases Fq:idx s n with
 |none=>rw[Fq]at hk;cases hk
 |some y=>
  rw[Fq]at hk;simp only[aa]at hk;obtain⟨k,rfl,hkl,hky⟩:=aW Fq;have hu:=Tn hE hT;have dX:(execOp a.eval o).run P w=.ok (.value (.int .u8 y.toNat)) w:=by simp[execOp,ho,hxc,vS,Instr.index,asIntOf,underlying,hu,aai,hky]
  refine⟨_,_,_,.inl dX,?_,hk⟩;exact⟨g,hg.quiet o.dst (mH ⟨rfl,rfl⟩)⟩
 cases hk;cases hk
theorem vP {o:Oper}(h:oz C st a w){K:AS->ax R}(v:Value)(c:AC)(dX:(execOp a.eval o).run P w=.ok (.value v) w)(ed:∀rc:RC,gE rc v c [])(hk:K (st.put o.dst (.one c))=some r):mW P C o a w K r:=by obtain⟨g,hg⟩:=h;exact⟨v,w,_,.inl dX,⟨g,hg.quiet o.dst (mH (ed _))⟩,hk⟩
theorem kC (k:IntKind)(n:Int)(rc:RC):gE rc (.int k n) (.int k n) []:=⟨rfl,rfl⟩
theorem BO (b:Bool)(rc:RC):gE rc (.bool b) (.bool b) []:=⟨rfl,rfl⟩
theorem Mx (s:au UInt8)(rc:RC):gE rc (.string ⟨s.toArray⟩) (.str s) []:=⟨rfl,rfl⟩
theorem agk {o:Oper}{op:UnOp}(ho:o.op=.unOp op T x)(h:oz C st a w){K:AS->ax R}(hk:(unC op (st.rd x) λc=>K (st.put o.dst (.one c)))=some r):mW P C o a w K r:=by obtain⟨g,hg⟩:=id h;have vH:=hg.rd x;unfold unC at hk;split at hk;rename_i b hx;rw[hx]at vH;have hv:=wE vH;exact vP h _ _ (by simp[execOp,ho,hv,Op.unary]) (BO _) hk;rename_i k n hx;rw[hx]at vH;have hv:=iT vH;exact vP h _ _ (by simp only[execOp,ho,hv,Op.unary,Op.intArith];rfl) (kC _ _) hk;rename_i k n hx;rw[hx]at vH;have hv:=iT vH;exact vP h _ _ (by simp only[execOp,ho,hv,Op.unary,Op.intBits];rfl) (kC _ _) hk;cases hk
theorem KE {o:Oper}(ho:o.op=.nilCheck x)(h:oz C st a w){K:AS->ax R}{fl:rj}{e:CT}{y:e.D}{i:Int}{off:Nat}(hx:st.rd x=.val false [.Cd fl e y i off])(hk:K (st.put o.dst (.one (.Cd fl e y i off)))=some r):mW P C o a w K r:=by
 obtain⟨g,hg⟩:=id h;have vH:=hg.rd x;rw[hx]at vH;have hc:=ew vH;have hv:∃b q,a.eval x=.pointer (some ⟨b,q,none⟩):=by
  cases fl with
  |own t=>exact hc.elim
  |nest _ _ _ _ _ _=>exact hc.elim
  |part _ _ _ _=>exact hc.elim
  |eY _ _ _=>exact hc.elim
  |arg _=>obtain⟨_,b,q,hv,_⟩:=hc;exact⟨b,_,hv⟩
  |loc ep pv=>obtain⟨_,b,q,hv,_⟩:=hc;exact⟨b,_,hv⟩
 obtain⟨b,q,hv⟩:=hv;exact⟨.pointer (some ⟨b,q,none⟩),_,_,.inl (by simp only[execOp,ho,hv];rfl),⟨g,hg.quiet o.dst (by rw[<-hv];exact vH)⟩,hk⟩
theorem PM {o:Oper}(ho:o.op=.nilCheck x)(h:oz C st a w){K:AS->ax R}{s off:Nat}(hx:st.rd x=.val false [.ptr s off])(hk:K (st.put o.dst (.one (.ptr s off)))=some r):mW P C o a w K r:=by obtain⟨g,hg⟩:=id h;have vH:=hg.rd x;rw[hx]at vH;have hv:=Cq vH;exact⟨.pointer (some ⟨g.β s,off,none⟩),_,_,.inl (by simp only[execOp,ho,hv];rfl),⟨g,hg.quiet o.dst (mH (x:=.ptr s off) ⟨rfl,(ew vH).2.1,rfl⟩)⟩,hk⟩
theorem aa6 {op:BinOp}{k:IntKind}{x y:Int}{K:AC->ax R}(hk:I6 op k x y K=some r)(T:TypeId)(w:World): ∃c v,(binOp op T (.int k x) (.int k y)).run P w=.ok v w/\(∀rc:RC,gE rc v c [])/\K c=some r:=by
 cases op<;>simp only[I6]at hk<;>(try (cases hk;done))<;>simp only[binOp,ne_eq,not_true_eq_false,cc]
 case quo=>
  split at hk
  ·cases hk
  ·rename_i hy
   exact⟨_,.int k _,by simp only[Op.intDiv,hy,cc];rfl,kC _ _,hk⟩
 case rem=>
  split at hk
  ·cases hk
  ·rename_i hy
   exact⟨_,.int k _,by simp only[Op.intDiv,hy,cc];rfl,kC _ _,hk⟩
 case add=>exact⟨_,_,rfl,kC _ _,hk⟩
 case sub=>exact⟨_,_,rfl,kC _ _,hk⟩
 case mul=>exact⟨_,_,rfl,kC _ _,hk⟩
 case and=>exact⟨_,_,rfl,kC _ _,hk⟩
 case or=>exact⟨_,_,rfl,kC _ _,hk⟩
 case xor=>exact⟨_,_,rfl,kC _ _,hk⟩
 case andNot=>exact⟨_,_,rfl,kC _ _,hk⟩
 all_goals exact⟨_,_,rfl,BO _,hk⟩
theorem aad (x y:au UInt8):(ByteArray.mk x.toArray)++(ByteArray.mk y.toArray)=ByteArray.mk (x++y).toArray:=by apply ByteArray.ext;rw[ByteArray.data_append];simp
theorem acp {op:BinOp}{x y:au UInt8}{K:AC->ax R}(hk:LW op x y K=some r)(T:TypeId)(w:World): ∃c v,(binOp op T (.string ⟨x.toArray⟩) (.string ⟨y.toArray⟩)).run P w=.ok v w/\(∀rc:RC,gE rc v c [])/\K c=some r:=by
 cases op<;>simp only[LW]at hk<;>(try (cases hk;done))<;>simp only[binOp,Op.stringOp,toList_mk]
 case add=>
  unfold room at hk
  split at hk
  ·rename_i hle
   have hs:¬(((ByteArray.mk x.toArray).size+(ByteArray.mk y.toArray).size:Nat):Int)>IntKind.i64.max:=by
    have e1:=yB x;have e2:=yB y;rw[e1,e2];have:IntKind.i64.max=9223372036854775807:=by decide
    omega
   exact⟨_,_,by rw[aH hs,aad];rfl,Mx _,hk⟩
  ·cases hk
 all_goals exact⟨_,_,rfl,BO _,hk⟩
theorem Md (w:World)(D:Nat)(T te:TypeId)(hu:P.underlying T=some (.slice te)):(Op.equalIn (D+1) T (.slice none 0 0) (.slice none 0 0)).run P w=.ok true w:=by unfold Op.equalIn;simp only[underlying,Sem.run_bind,run_program,hu,Result.andThen_ok,Sem.run_pure];rfl
theorem KP (w:World)(D:Nat)(T te:TypeId)(hu:P.underlying T=some (.slice te))(ad:Addr)(n k:Nat):(Op.equalIn (D+1) T (.slice (some ad) n k) (.slice none 0 0)).run P w=.ok false w:=by unfold Op.equalIn;simp only[underlying,Sem.run_bind,run_program,hu,Result.andThen_ok,Sem.run_pure]
theorem acN {E:Env}(hE:jA P E.ty)(hQ:TI P E.eqs){o:Oper}{op:BinOp}{T':TypeId}{y:Operand}(ho:o.op=.binOp op T x y T')(h:oz C st a w){K:AS->ax R}(hk:B9 E o op T x y st K=some r):mW P C o a w K r:=by
 obtain⟨g,hg⟩:=id h;have vH:=hg.rd x;have QE:=hg.rd y;have fin:∀v c,(do eqGuard op T x y (a.eval x) (a.eval y);binOp op T (a.eval x) (a.eval y):Sem Value).run P w=.ok v w->(∀rc:RC,gE rc v c [])->K (st.put o.dst (.one c))=some r->mW P C o a w K r:=by intro v c dX ed So;refine⟨v,w,_,.inl ?_,⟨g,hg.quiet o.dst (mH (ed _))⟩,So⟩;simp only[execOp,ho];show((do eqGuard op T x y (a.eval x) (a.eval y);binOp op T (a.eval x) (a.eval y):Sem Value)>>=λv=>pure (Next.value v)).run P w=_;rw[Sem.run_bind,dX];rfl
 have Nu:∀{k k':IntKind}{p q:Int},(eqGuard op T x y (.int k p) (.int k' q)).run P w=.ok () w:=by intros;unfold eqGuard;split<;>rfl
 have adf:∀{p q:ByteArray},(eqGuard op T x y (.string p) (.string q)).run P w=.ok () w:=by intros;unfold eqGuard;split<;>rfl
 have aaA:∀{p q:Bool},(eqGuard op T x y (.bool p) (.bool q)).run P w=.ok () w:=by intros;unfold eqGuard;split<;>rfl
 unfold B9 at hk;split at hk
 ·rename_i p q hx hy;rw[hx]at vH;rw[hy]at QE;split at hk;·rename_i hT;have hu:=afa hE hT;simp only[GQ]at hk;cases op<;>simp only at hk<;>(try (cases hk;done));all_goals refine fin _ _ ?_ (BO _) hk;rw[wE vH,wE QE,Sem.run_bind,aaA];simp only[Result.andThen_ok,binOp,Op.equal,Op.maxDepth,Sem.run_bind];rw[run_equalIn_bool' w 9999 T p q hu];rfl
  cases hk
 ·rename_i xs ys hx hy;rw[hx]at vH;rw[hy]at QE;split at hk
  ·rename_i ls hT;split at hk
   ·rename_i hf;obtain⟨vs,hcx,UH⟩:=vH;obtain⟨us,hcy,hry⟩:=QE;simp only[Cut,cp]at hcx hcy;have hgd:(eqGuard op T x y (.agg vs.toArray) (.agg us.toArray)).run P w=.ok () w:=by have hgt:=(hQ T ls hT).2.2;unfold eqGuard;cases op<;>simp[hgt]
    simp only[GQ]at hk;cases op<;>simp only at hk<;>(try (cases hk;done));all_goals cases he:vN xs ys with|none=>rw[he]at hk;cases hk|some b=>rw[he]at hk;simp only[aa]at hk;refine fin _ _ ?_ (BO _) hk;rw[hcx,hcy,Sem.run_bind,hgd];simp only[Result.andThen_ok,binOp,Sem.run_bind,agZ hQ hT UH hry hf he w];rfl
   cases hk
  cases hk
 ·rename_i fl e xs hx hy;rw[hx]at vH;rw[hy]at QE;split at hk
  ·rename_i hT;obtain⟨hT,pB⟩:=hT;cases hs:E.sl T with
   |none=>rw[hs]at hT;cases hT
   |some e'=>
    obtain⟨te,hu,_⟩:=FU hE hs;split at hk;cases hk
    ·rename_i hlen;have aiE:∃b ob n k,a.eval x=.slice (some ⟨b,ob,none⟩) n k:=by
      have hc:=ew vH;have key:∀{S:Nat->Nat->Prop},jn w S (.sl e) [a.eval x] xs->∃b ob n k,a.eval x=.slice (some ⟨b,ob,none⟩) n k:=by rintro S ⟨u,Xt,h1⟩;simp at Xt;rcases h1 with⟨_,rfl⟩|⟨b,ob,cap,hv,_⟩;simp at hlen;exact⟨b,ob,_,_,by rw[Xt];exact hv⟩
      cases fl with
      |own t=>cases pB
      |nest _ _ _ _ _ _=>cases pB
      |part _ _ _ _=>cases pB
      |eY _ _ _=>cases pB
      |arg _=>exact key hc.2
      |loc ep pv=>
       have zM:ep=st.ep:=by simpa[rj.live]using pB
       exact key (hc.2.2.2.1 zM)
     obtain⟨b,ob,n,k,hv⟩:=aiE;have hyn:=(ew QE).1;have dX:(Op.equal T (a.eval x) (a.eval y)).run P w=.ok false w:=by rw[hv,hyn];exact KP w 9999 T te hu _ _ _
     have hgd:(eqGuard op T x y (a.eval x) (a.eval y)).run P w=.ok () w:=by rw[hv,hyn];unfold eqGuard;split<;>rfl
     unfold EG at hk;cases op<;>simp only at hk<;>(try (cases hk;done));all_goals refine fin _ _ ?_ (BO _) hk;rw[Sem.run_bind,hgd];rw[hv,hyn]at dX⊢;simp only[Result.andThen_ok,binOp,Sem.run_bind,dX];rfl
  cases hk
 ·rename_i hx hy;rw[hx]at vH;rw[hy]at QE;split at hk
  ·rename_i hT;cases hs:E.sl T with
   |none=>rw[hs]at hT;cases hT
   |some e'=>
    obtain⟨te,hu,_⟩:=FU hE hs;have hxn:=(ew vH).1;have hyn:=(ew QE).1;have dX:(Op.equal T (.slice none 0 0) (.slice none 0 0)).run P w=.ok true w:=by exact Md w 9999 T te hu
    have hgd:(eqGuard op T x y (.slice none 0 0) (.slice none 0 0)).run P w=.ok () w:=by unfold eqGuard;split<;>rfl
    unfold EG at hk;cases op<;>simp only at hk<;>(try (cases hk;done));all_goals refine fin _ _ ?_ (BO _) hk;rw[hxn,hyn,Sem.run_bind,hgd];simp only[Result.andThen_ok,binOp,Sem.run_bind,dX];rfl
  cases hk
 rename_i va vb Kk E1 hn3 hn4;unfold GQ at hk;split at hk;rename_i k p k' q hx hy;rw[hx]at vH;rw[hy]at QE;split at hk;split at hk;cases hk;rename_i hq;refine fin _ _ ?_ (kC _ _) hk;rw[iT vH,iT QE,Sem.run_bind,Nu];simp only[Result.andThen_ok,binOp,Op.shift,hq,cc];rfl;split at hk;cases hk;rename_i hq;refine fin _ _ ?_ (kC _ _) hk;rw[iT vH,iT QE,Sem.run_bind,Nu];simp only[Result.andThen_ok,binOp,Op.shift,hq,cc];rfl;split at hk;rename_i So;subst So;obtain⟨c,v,dX,ed,hkc⟩:=aa6 (P:=P) hk T w;refine fin v c ?_ ed hkc;rw[iT vH,iT QE,Sem.run_bind,Nu];exact dX;cases hk;rename_i p q hx hy;rw[hx]at vH;rw[hy]at QE;obtain⟨c,v,dX,ed,hkc⟩:=acp (P:=P) hk T w;refine fin v c ?_ ed hkc;rw[(ew vH).1,(ew QE).1,Sem.run_bind,adf];exact dX;rename_i p q hx hy;exact absurd hy (Kk p q hx);rename_i xs ys hx hy;exact absurd hy (E1 xs ys hx);cases hk
theorem adT {E:Env}(hE:jA P E.ty){o:Oper}(ho:o.op=.call {callee:=.builtin .len,args,argTypes:=ts})(h:oz C st a w){K:AS->ax R}(hk:N1 E o ts.toList args.toList st K=some r):mW P C o a w K r:=by
 obtain⟨g,hg⟩:=id h;unfold N1 at hk;split at hk;rename_i t s ur fy;obtain⟨x,hx,hxs⟩:∃x,args.toList=[x]/\st.rd x=.val false [.str s]:=by cases hl:args.toList with|nil=>rw[hl]at fy;simp at fy|cons x l=>rw[hl]at fy;simp at fy;exact⟨x,by rw[fy.2],fy.1⟩
 have ea:args=#[x]:=by apply eO;simpa using hx
 have et:ts=#[t]:=by apply eO;simpa using ur
 subst ea;subst et;split at hk;rename_i hT;have vH:=hg.rd x;rw[hxs]at vH;have hv:=(ew vH).1;refine vP h (.int .i64 _) _ ?_ (kC _ _) hk;simp[execOp,ho,resolve,invoke,builtin,Builtin.len_,underlying,Tn hE hT,hv,goInt,yB];cases hk;rename_i t fl e xs ur fy;obtain⟨x,hx,hxs⟩:∃x,args.toList=[x]/\st.rd x=.val false [.sl fl e xs]:=by cases hl:args.toList with|nil=>rw[hl]at fy;simp at fy|cons x l=>rw[hl]at fy;simp at fy;exact⟨x,by rw[fy.2],fy.1⟩
 have ea:args=#[x]:=by apply eO;simpa using hx
 have et:ts=#[t]:=by apply eO;simpa using ur
 subst ea;subst et;split at hk;rename_i hT;have vH:=hg.rd x;rw[hxs]at vH;obtain⟨e',he'⟩:=Option.isSome_iff_exists.1 hT;obtain⟨te,hu,_⟩:=FU hE he';have hv:∃b cap,a.eval x=.slice b xs.length cap:=by
  have hc:=ew vH;cases fl with
  |nest _ _ _ _ _ _=>obtain⟨_,_,⟨o1,n1,k1,h1,h2⟩,_⟩:=hc;exact⟨o1,k1,by rw[h1,h2]⟩
  |part _ _ _ _=>obtain⟨_,_,⟨o1,n1,k1,h1,h2⟩,_⟩:=hc;exact⟨o1,k1,by rw[h1,h2]⟩
  |eY _ _ _=>obtain⟨_,⟨k,_,b,o0,cap,arr,T,fr,fps,h1,_⟩,_⟩:=hc;exact⟨_,_,h1⟩
  |own t=>obtain⟨⟨u,hu,ho⟩,_⟩:=hc;simp at hu;subst hu;rcases ho with⟨⟨_,h1⟩,rfl,_⟩|⟨b,_,cap,_,_,_,_,h1,_⟩;exact⟨_,_,h1⟩;exact⟨_,_,h1⟩
  |arg _=>obtain⟨_,u,hu,ho⟩:=hc;simp at hu;subst hu;rcases ho with⟨⟨ad,h1⟩,rfl⟩|⟨b,ob,cap,h1,_⟩;exact⟨ad,0,h1⟩;exact⟨_,_,h1⟩
  |loc ep pv=>obtain⟨_,_,⟨b,n,k,h1,h2⟩,_⟩:=hc;exact⟨b,k,by rw[h1,h2]⟩
 obtain⟨b,cap,hv⟩:=hv;refine vP h (.int .i64 _) _ ?_ (kC _ _) hk;simp[execOp,ho,resolve,invoke,builtin,Builtin.len_,underlying,hu,hv,goInt];cases hk;cases hk
theorem O6 {u v:AV}(h:args.toList.map st.rd=[u,v]):∃x y,args=#[x,y]/\st.rd x=u/\st.rd y=v:=by match hl:args.toList with|[]=>rw[hl]at h;simp at h|[_]=>rw[hl]at h;simp at h|[x,y]=>rw[hl]at h;simp at h;exact⟨x,y,by apply eO;simpa using hl,h.1,h.2⟩|_::_::_::_=>rw[hl]at h;simp at h
theorem ad1 {o:Oper}(ho:o.op=.call {callee:=.builtin .min,args,argTypes:=ts})(h:oz C st a w){K:AS->ax R}(hk:PH o args.toList st K=some r):mW P C o a w K r:=by obtain⟨g,hg⟩:=id h;unfold PH at hk;split at hk;rename_i k x k' y fy;obtain⟨p,q,rfl,hp,hq⟩:=O6 fy;have vG:=hg.rd p;have hqv:=hg.rd q;rw[hp]at vG;rw[hq]at hqv;refine vP h (.int k _) _ ?_ (kC _ _) hk;simp[execOp,ho,resolve,invoke,builtin,Builtin.min_,Builtin.min2,iT vG,iT hqv];cases hk
theorem ad0 {o:Oper}(ho:o.op=.call {callee:=.builtin .max,args,argTypes:=ts})(h:oz C st a w){K:AS->ax R}(hk:PG o args.toList st K=some r):mW P C o a w K r:=by obtain⟨g,hg⟩:=id h;unfold PG at hk;split at hk;rename_i k x k' y fy;obtain⟨p,q,rfl,hp,hq⟩:=O6 fy;have vG:=hg.rd p;have hqv:=hg.rd q;rw[hp]at vG;rw[hq]at hqv;refine vP h (.int k _) _ ?_ (kC _ _) hk;simp[execOp,ho,resolve,invoke,builtin,Builtin.max_,Builtin.max2,iT vG,iT hqv];cases hk
end Go.Dn
