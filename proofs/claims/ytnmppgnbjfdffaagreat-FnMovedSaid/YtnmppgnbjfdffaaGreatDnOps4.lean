import Derived.Test.YtnmppgnbjfdffaaGreatDnOps3
import Derived.Test.YtnmppgnbjfdffaaGreatDnEq
/- Part 4: addresses, numbers, strings, slices of slices. -/
namespace Go.Dn
open Go.RowKit
variable {P:Program} {C:Ctx} {st:AS} {a:Act} {w:World} {R:Type} {r:R}
variable {args:Array Operand} {ts:Array TypeId} {x:Operand} {T:TypeId}
theorem UI {E:Env}(hE:ja P E.ty){o:Oper}{S:TypeId}{p:Operand}{f:Nat}(ho:o.op=.fieldAddr S p f)(h:np C st a w){K:AS->ax R}(hk:ym E o S p f st K=some r):ma P C o a w K r:=by
 unfold ym at hk
 have run:∀(sh:Shape),iR E.ty S=some sh->sh.agg=true->∀fo n,nth sh.jw f=some (fo,n)->∀b off,a.eval p=.pointer (some ⟨b,off,none⟩)->
  (execOp a.eval o).run P w=.ok (.value (.pointer (some ⟨b,off+fo,none⟩))) w:=by
  intro sh hS Jr fo n hf b off hv
  obtain⟨fs,hu,E9⟩:=(hE S sh hS).agg Jr
  rw[dJ]at hf
  obtain⟨fd,hfd,Mn,hn,i,hi,ti⟩:=E9 f fo n hf
  simp only[execOp,ho,hv,Instr.fieldAt,Instr.sureAddr,underlying,Sem.run_bind,run_program,hu,Result.andThen_ok,Sem.run_pure,hfd,fieldPlace,sizeOf,typeInfo,hi,ti,Mn]
  rw[lZ]
  simp[mF]
 obtain⟨g,hg⟩:=id h;have th:=hg.rd p;split at hk;rename_i ct jw s off hS hp;split at hk;rename_i fo n hf;rw[hp]at th;have hv:=zy th;have Yy:=(ew th).2.1;refine⟨_,_,_,.inl (run _ hS rfl fo n hf _ _ hv),?_,hk⟩;exact⟨g,hg.quiet o.dst (lT ⟨rfl,Yy,rfl⟩)⟩;cases hk;rename_i ct jw fl e x i off hS hp;split at hk;rename_i fo n hf;rw[hp]at th;have hc:=ew th;cases fl with
 |own t=>exact hc.elim
 |nest _ _ _ _ _ _=>exact hc.elim
 |part _ _ _ _=>exact hc.elim
 |fg _ _ _=>exact hc.elim
 |arg _=>obtain⟨h1,b,ob,hv,h2⟩:=hc;refine⟨_,_,_,.inl (run _ hS rfl fo n hf _ _ hv),?_,hk⟩;exact⟨g,hg.quiet o.dst (lT ⟨rfl,b,ob,by rw[fC],h2⟩)⟩
 |loc ep pv=>obtain⟨h1,b,ob,hv,h2⟩:=hc;refine⟨_,_,_,.inl (run _ hS rfl fo n hf _ _ hv),?_,hk⟩;exact⟨g,hg.quiet o.dst (lT ⟨rfl,b,ob,by rw[fC],h2⟩)⟩
 cases hk;cases hk
theorem CR {E:Env}(hE:ja P E.ty){e:CT}(h:E.sl T=some e):∃te,P.underlying T=some (.slice te)/\JF P te e:=by unfold Env.sl at h;split at h;rename_i e' jw hT;simp at h;subst h;obtain⟨te,hu,he,_⟩:=(hE T _ hT).sl _ rfl rfl;exact⟨te,hu,he⟩;cases h
theorem Qj {E:Env}(hE:ja P E.ty)(h:E.str T=true):P.underlying T=some .string:=by unfold Env.str at h;split at h;rename_i jw hT;exact(hE T _ hT).str rfl rfl;cases h
theorem aej {E:Env}(hE:ja P E.ty)(h:E.bool T=true):P.underlying T=some .bool:=by unfold Env.bool at h;split at h;rename_i jw hT;exact(hE T _ hT).bool rfl rfl;cases h
theorem bf {α:Type}{xs:aw α}{n:Int}{y:α}(h:idx xs n=some y):∃k:Nat,n=k/\k<xs.length/\xs[k]?=some y:=by obtain⟨k,h1,h2⟩:=RL h;exact⟨k,h1,(aF.1 h2).1,h2⟩
theorem KN {E:Env}(hE:ja P E.ty){o:Oper}{i:Operand}(ho:o.op=.indexAddr T x i)(h:np C st a w){K:AS->ax R}(hk:lS E o T x i st K=some r):ma P C o a w K r:=by
 unfold lS at hk;obtain⟨g,hg⟩:=id h;have tj:=hg.fresh (hg.rd x);have hiv:=hg.rd i;split at hk;rename_i e' fl e xs kd n hT hx hi;split at hk;rename_i hc;obtain⟨rfl,nX⟩:=hc;rw[hx]at tj;rw[hi]at hiv;have hxc:=ew tj;have sJ:=iE hiv;cases Ct:idx xs n with
 |none=>rw[Ct]at hk;cases hk
 |some y=>
  rw[Ct]at hk;simp only[aa]at hk;obtain⟨k,rfl,hkl,hky⟩:=bf Ct;obtain⟨te,hu,⟨inf,z,Al,ti,_⟩,_⟩:=CR hE hT;have run:∀b ob cap,a.eval x=.slice (some ⟨b,ob,none⟩) xs.length cap->(execOp a.eval o).run P w=.ok (.value (.pointer (some ⟨b,ob+k*e'.size,none⟩))) w:=by intro b ob cap hv;simp[execOp,ho,hv,sJ,Instr.indexAt,asIntOf,underlying,hu,sizeOf,typeInfo,Al,ti,hkl,mF]
  cases fl with
  |own t=>cases nX
  |nest _ _ _ _ _ _=>cases nX
  |part _ _ _ _=>cases nX
  |fg _ _ _=>cases nX
  |arg _=>obtain⟨_,v,hv,hr⟩:=hxc;simp at hv;subst hv;rcases hr with⟨_,rfl⟩|⟨b,ob,cap,hv,_,hr⟩;simp at hky;obtain⟨cs,Hd,FL⟩:=hr k y hky;refine⟨_,_,_,.inl (run b ob cap hv),?_,hk⟩;exact⟨g,hg.quiet o.dst (lT ⟨rfl,b,ob+k*e'.size,rfl,cs,Hd,FL⟩)⟩
  |loc ep pv=>
   obtain⟨_,wN,_,FL,th⟩:=hxc;have ang:ep=st.ep:=by simpa[pE.live]using nX
   obtain⟨v,hv,hr⟩:=FL ang;simp at hv;subst hv;rcases hr with⟨_,rfl⟩|⟨b,ob,cap,hv,_,hr⟩;simp at hky;obtain⟨cs,Hd,acd⟩:=hr k y hky;refine⟨_,_,_,.inl (run b ob cap hv),?_,hk⟩;refine⟨g,hg.quiet o.dst (lT ⟨rfl,b,ob+k*e'.size,rfl,wN,λ_=>⟨cs,Hd,acd⟩,λrt t hp=>?_⟩)⟩;obtain⟨h1,h2⟩:=th rt t hp;exact⟨h1,k,ob,xs.length,cap,rfl,by rw[<-h2,hv],hkl,rfl⟩
 cases hk;cases hk
theorem vO (s:aw UInt8):(ByteArray.mk s.toArray).size=s.length:=by show s.toArray.size=s.length;simp
theorem X3 (s:aw UInt8)(n:Nat):(ByteArray.mk s.toArray)[n]?=s[n]?:=by
 simp only[getElem?_def];by_cases h:n<s.length;have h':n<(ByteArray.mk s.toArray).size:=by rw[vO];exact h
 rw[dif_pos h',dif_pos h];rfl;have h':¬n<(ByteArray.mk s.toArray).size:=by rw[vO];exact h
 rw[dif_neg h',dif_neg h]
theorem Vk {E:Env}(hE:ja P E.ty){o:Oper}{i:Operand}(ho:o.op=.index T x i)(h:np C st a w){K:AS->ax R}(hk:zS E o T x i st K=some r):ma P C o a w K r:=by
 unfold zS at hk;obtain⟨g,hg⟩:=id h;have tj:=hg.rd x;have hiv:=hg.rd i;split at hk;rename_i s kd n hx hi;split at hk;rename_i hT;rw[hx]at tj;rw[hi]at hiv;have hxc:=(ew tj).1;have sJ:=iE hiv;cases Ct:idx s n with
 |none=>rw[Ct]at hk;cases hk
 |some y=>
  rw[Ct]at hk;simp only[aa]at hk;obtain⟨k,rfl,hkl,hky⟩:=bf Ct;have hu:=Qj hE hT;have ee:(execOp a.eval o).run P w=.ok (.value (.int .u8 y.toNat)) w:=by simp[execOp,ho,hxc,sJ,Instr.index,asIntOf,underlying,hu,X3,hky]
  refine⟨_,_,_,.inl ee,?_,hk⟩;exact⟨g,hg.quiet o.dst (lT ⟨rfl,rfl⟩)⟩
 cases hk;cases hk
theorem tu {o:Oper}(h:np C st a w){K:AS->ax R}(v:Value)(c:AC)(ee:(execOp a.eval o).run P w=.ok (.value v) w)(eL:∀rc:RC,gA rc v c [])(hk:K (st.put o.dst (.one c))=some r):ma P C o a w K r:=by obtain⟨g,hg⟩:=h;exact⟨v,w,_,.inl ee,⟨g,hg.quiet o.dst (lT (eL _))⟩,hk⟩
theorem jO (k:IntKind)(n:Int)(rc:RC):gA rc (.int k n) (.int k n) []:=⟨rfl,rfl⟩
theorem yG (b:Bool)(rc:RC):gA rc (.bool b) (.bool b) []:=⟨rfl,rfl⟩
theorem Jw (s:aw UInt8)(rc:RC):gA rc (.string ⟨s.toArray⟩) (.str s) []:=⟨rfl,rfl⟩
theorem afz {o:Oper}{op:UnOp}(ho:o.op=.unOp op T x)(h:np C st a w){K:AS->ax R}(hk:(unC op (st.rd x) λc=>K (st.put o.dst (.one c)))=some r):ma P C o a w K r:=by obtain⟨g,hg⟩:=id h;have tj:=hg.rd x;unfold unC at hk;split at hk;rename_i b hx;rw[hx]at tj;have hv:=tY tj;exact tu h _ _ (by simp[execOp,ho,hv,Op.unary]) (yG _) hk;rename_i k n hx;rw[hx]at tj;have hv:=iE tj;exact tu h _ _ (by simp only[execOp,ho,hv,Op.unary,Op.intArith];rfl) (jO _ _) hk;rename_i k n hx;rw[hx]at tj;have hv:=iE tj;exact tu h _ _ (by simp only[execOp,ho,hv,Op.unary,Op.intBits];rfl) (jO _ _) hk;cases hk
theorem HB {o:Oper}(ho:o.op=.nilCheck x)(h:np C st a w){K:AS->ax R}{fl:pE}{e:CT}{y:e.D}{i:Int}{off:Nat}(hx:st.rd x=.val false [.zM fl e y i off])(hk:K (st.put o.dst (.one (.zM fl e y i off)))=some r):ma P C o a w K r:=by
 obtain⟨g,hg⟩:=id h;have tj:=hg.rd x;rw[hx]at tj;have hc:=ew tj;have hv:∃b q,a.eval x=.pointer (some ⟨b,q,none⟩):=by
  cases fl with
  |own t=>exact hc.elim
  |nest _ _ _ _ _ _=>exact hc.elim
  |part _ _ _ _=>exact hc.elim
  |fg _ _ _=>exact hc.elim
  |arg _=>obtain⟨_,b,q,hv,_⟩:=hc;exact⟨b,_,hv⟩
  |loc ep pv=>obtain⟨_,b,q,hv,_⟩:=hc;exact⟨b,_,hv⟩
 obtain⟨b,q,hv⟩:=hv;exact⟨.pointer (some ⟨b,q,none⟩),_,_,.inl (by simp only[execOp,ho,hv];rfl),⟨g,hg.quiet o.dst (by rw[<-hv];exact tj)⟩,hk⟩
theorem MA {o:Oper}(ho:o.op=.nilCheck x)(h:np C st a w){K:AS->ax R}{s off:Nat}(hx:st.rd x=.val false [.ptr s off])(hk:K (st.put o.dst (.one (.ptr s off)))=some r):ma P C o a w K r:=by obtain⟨g,hg⟩:=id h;have tj:=hg.rd x;rw[hx]at tj;have hv:=zy tj;exact⟨.pointer (some ⟨g.β s,off,none⟩),_,_,.inl (by simp only[execOp,ho,hv];rfl),⟨g,hg.quiet o.dst (lT (x:=.ptr s off) ⟨rfl,(ew tj).2.1,rfl⟩)⟩,hk⟩
theorem Zd {op:BinOp}{k:IntKind}{x y:Int}{K:AC->ax R}(hk:F5 op k x y K=some r)(T:TypeId)(w:World): ∃c v,(binOp op T (.int k x) (.int k y)).run P w=.ok v w/\(∀rc:RC,gA rc v c [])/\K c=some r:=by
 cases op<;>simp only[F5]at hk<;>(try (cases hk;done))<;>simp only[binOp,ne_eq,not_true_eq_false,bU]
 case quo=>
  split at hk
  ·cases hk
  ·rename_i hy
   exact⟨_,.int k _,by simp only[Op.intDiv,hy,bU];rfl,jO _ _,hk⟩
 case rem=>
  split at hk
  ·cases hk
  ·rename_i hy
   exact⟨_,.int k _,by simp only[Op.intDiv,hy,bU];rfl,jO _ _,hk⟩
 case add=>exact⟨_,_,rfl,jO _ _,hk⟩
 case sub=>exact⟨_,_,rfl,jO _ _,hk⟩
 case mul=>exact⟨_,_,rfl,jO _ _,hk⟩
 case and=>exact⟨_,_,rfl,jO _ _,hk⟩
 case or=>exact⟨_,_,rfl,jO _ _,hk⟩
 case xor=>exact⟨_,_,rfl,jO _ _,hk⟩
 case andNot=>exact⟨_,_,rfl,jO _ _,hk⟩
 all_goals exact⟨_,_,rfl,yG _,hk⟩
theorem XW (x y:aw UInt8):(ByteArray.mk x.toArray)++(ByteArray.mk y.toArray)=ByteArray.mk (x++y).toArray:=by apply ByteArray.ext;rw[ByteArray.data_append];simp
theorem aay {op:BinOp}{x y:aw UInt8}{K:AC->ax R}(hk:IM op x y K=some r)(T:TypeId)(w:World): ∃c v,(binOp op T (.string ⟨x.toArray⟩) (.string ⟨y.toArray⟩)).run P w=.ok v w/\(∀rc:RC,gA rc v c [])/\K c=some r:=by
 cases op<;>simp only[IM]at hk<;>(try (cases hk;done))<;>simp only[binOp,Op.stringOp,toList_mk]
 case add=>
  unfold room at hk
  split at hk
  ·rename_i hle
   have hs:¬(((ByteArray.mk x.toArray).size+(ByteArray.mk y.toArray).size:Nat):Int)>IntKind.i64.max:=by
    have e1:=vO x;have e2:=vO y;rw[e1,e2];have:IntKind.i64.max=9223372036854775807:=by decide
    omega
   exact⟨_,_,by rw[aH hs,XW];rfl,Jw _,hk⟩
  ·cases hk
 all_goals exact⟨_,_,rfl,yG _,hk⟩
theorem Jg (w:World)(D:Nat)(T te:TypeId)(hu:P.underlying T=some (.slice te)):(Op.equalIn (D+1) T (.slice none 0 0) (.slice none 0 0)).run P w=.ok true w:=by unfold Op.equalIn;simp only[underlying,Sem.run_bind,run_program,hu,Result.andThen_ok,Sem.run_pure];rfl
theorem HO (w:World)(D:Nat)(T te:TypeId)(hu:P.underlying T=some (.slice te))(ad:Addr)(n k:Nat):(Op.equalIn (D+1) T (.slice (some ad) n k) (.slice none 0 0)).run P w=.ok false w:=by unfold Op.equalIn;simp only[underlying,Sem.run_bind,run_program,hu,Result.andThen_ok,Sem.run_pure]
theorem aaW {E:Env}(hE:ja P E.ty)(hQ:QC P E.eqs){o:Oper}{op:BinOp}{T':TypeId}{y:Operand}(ho:o.op=.binOp op T x y T')(h:np C st a w){K:AS->ax R}(hk:yV E o op T x y st K=some r):ma P C o a w K r:=by
 obtain⟨g,hg⟩:=id h;have tj:=hg.rd x;have No:=hg.rd y;have fin:∀v c,(do eqGuard op T x y (a.eval x) (a.eval y);binOp op T (a.eval x) (a.eval y):Sem Value).run P w=.ok v w->(∀rc:RC,gA rc v c [])->K (st.put o.dst (.one c))=some r->ma P C o a w K r:=by intro v c ee eL Ph;refine⟨v,w,_,.inl ?_,⟨g,hg.quiet o.dst (lT (eL _))⟩,Ph⟩;simp only[execOp,ho];show((do eqGuard op T x y (a.eval x) (a.eval y);binOp op T (a.eval x) (a.eval y):Sem Value)>>=λv=>pure (Next.value v)).run P w=_;rw[Sem.run_bind,ee];rfl
 have Kn:∀{k k':IntKind}{p q:Int},(eqGuard op T x y (.int k p) (.int k' q)).run P w=.ok () w:=by intros;unfold eqGuard;split<;>rfl
 have abY:∀{p q:ByteArray},(eqGuard op T x y (.string p) (.string q)).run P w=.ok () w:=by intros;unfold eqGuard;split<;>rfl
 have Yo:∀{p q:Bool},(eqGuard op T x y (.bool p) (.bool q)).run P w=.ok () w:=by intros;unfold eqGuard;split<;>rfl
 unfold yV at hk;split at hk
 ·rename_i p q hx hy;rw[hx]at tj;rw[hy]at No;split at hk;·rename_i hT;have hu:=aej hE hT;simp only[DM]at hk;cases op<;>simp only at hk<;>(try (cases hk;done));all_goals refine fin _ _ ?_ (yG _) hk;rw[tY tj,tY No,Sem.run_bind,Yo];simp only[Result.andThen_ok,binOp,Op.equal,Op.maxDepth,Sem.run_bind];rw[run_equalIn_bool' w 9999 T p q hu];rfl
  cases hk
 ·rename_i xs ys hx hy;rw[hx]at tj;rw[hy]at No;split at hk
  ·rename_i ls hT;split at hk
   ·rename_i hf;obtain⟨vs,hcx,Yz⟩:=tj;obtain⟨us,hcy,hry⟩:=No;simp only[Cut,bN]at hcx hcy;have hgd:(eqGuard op T x y (.agg vs.toArray) (.agg us.toArray)).run P w=.ok () w:=by have hgt:=(hQ T ls hT).2.2;unfold eqGuard;cases op<;>simp[hgt]
    simp only[DM]at hk;cases op<;>simp only at hk<;>(try (cases hk;done));all_goals cases he:tr xs ys with|none=>rw[he]at hk;cases hk|some b=>rw[he]at hk;simp only[aa]at hk;refine fin _ _ ?_ (yG _) hk;rw[hcx,hcy,Sem.run_bind,hgd];simp only[Result.andThen_ok,binOp,Sem.run_bind,agM hQ hT Yz hry hf he w];rfl
   cases hk
  cases hk
 ·rename_i fl e xs hx hy;rw[hx]at tj;rw[hy]at No;split at hk
  ·rename_i hT;obtain⟨hT,nX⟩:=hT;cases hs:E.sl T with
   |none=>rw[hs]at hT;cases hT
   |some e'=>
    obtain⟨te,hu,_⟩:=CR hE hs;split at hk;cases hk
    ·rename_i hlen;have ajg:∃b ob n k,a.eval x=.slice (some ⟨b,ob,none⟩) n k:=by
      have hc:=ew tj;have key:∀{S:Nat->Nat->Prop},iT w S (.sl e) [a.eval x] xs->∃b ob n k,a.eval x=.slice (some ⟨b,ob,none⟩) n k:=by rintro S ⟨u,Pn,h1⟩;simp at Pn;rcases h1 with⟨_,rfl⟩|⟨b,ob,cap,hv,_⟩;simp at hlen;exact⟨b,ob,_,_,by rw[Pn];exact hv⟩
      cases fl with
      |own t=>cases nX
      |nest _ _ _ _ _ _=>cases nX
      |part _ _ _ _=>cases nX
      |fg _ _ _=>cases nX
      |arg _=>exact key hc.2
      |loc ep pv=>
       have wN:ep=st.ep:=by simpa[pE.live]using nX
       exact key (hc.2.2.2.1 wN)
     obtain⟨b,ob,n,k,hv⟩:=ajg;have hyn:=(ew No).1;have ee:(Op.equal T (a.eval x) (a.eval y)).run P w=.ok false w:=by rw[hv,hyn];exact HO w 9999 T te hu _ _ _
     have hgd:(eqGuard op T x y (a.eval x) (a.eval y)).run P w=.ok () w:=by rw[hv,hyn];unfold eqGuard;split<;>rfl
     unfold BL at hk;cases op<;>simp only at hk<;>(try (cases hk;done));all_goals refine fin _ _ ?_ (yG _) hk;rw[Sem.run_bind,hgd];rw[hv,hyn]at ee⊢;simp only[Result.andThen_ok,binOp,Sem.run_bind,ee];rfl
  cases hk
 ·rename_i hx hy;rw[hx]at tj;rw[hy]at No;split at hk
  ·rename_i hT;cases hs:E.sl T with
   |none=>rw[hs]at hT;cases hT
   |some e'=>
    obtain⟨te,hu,_⟩:=CR hE hs;have hxn:=(ew tj).1;have hyn:=(ew No).1;have ee:(Op.equal T (.slice none 0 0) (.slice none 0 0)).run P w=.ok true w:=by exact Jg w 9999 T te hu
    have hgd:(eqGuard op T x y (.slice none 0 0) (.slice none 0 0)).run P w=.ok () w:=by unfold eqGuard;split<;>rfl
    unfold BL at hk;cases op<;>simp only at hk<;>(try (cases hk;done));all_goals refine fin _ _ ?_ (yG _) hk;rw[hxn,hyn,Sem.run_bind,hgd];simp only[Result.andThen_ok,binOp,Sem.run_bind,ee];rfl
  cases hk
 rename_i va vb Fb AJ hn3 hn4;unfold DM at hk;split at hk;rename_i k p k' q hx hy;rw[hx]at tj;rw[hy]at No;split at hk;split at hk;cases hk;rename_i hq;refine fin _ _ ?_ (jO _ _) hk;rw[iE tj,iE No,Sem.run_bind,Kn];simp only[Result.andThen_ok,binOp,Op.shift,hq,bU];rfl;split at hk;cases hk;rename_i hq;refine fin _ _ ?_ (jO _ _) hk;rw[iE tj,iE No,Sem.run_bind,Kn];simp only[Result.andThen_ok,binOp,Op.shift,hq,bU];rfl;split at hk;rename_i Ph;subst Ph;obtain⟨c,v,ee,eL,hkc⟩:=Zd (P:=P) hk T w;refine fin v c ?_ eL hkc;rw[iE tj,iE No,Sem.run_bind,Kn];exact ee;cases hk;rename_i p q hx hy;rw[hx]at tj;rw[hy]at No;obtain⟨c,v,ee,eL,hkc⟩:=aay (P:=P) hk T w;refine fin v c ?_ eL hkc;rw[(ew tj).1,(ew No).1,Sem.run_bind,abY];exact ee;rename_i p q hx hy;exact absurd hy (Fb p q hx);rename_i xs ys hx hy;exact absurd hy (AJ xs ys hx);cases hk
theorem acL {E:Env}(hE:ja P E.ty){o:Oper}(ho:o.op=.call {callee:=.builtin .len,args,argTypes:=ts})(h:np C st a w){K:AS->ax R}(hk:KU E o ts.toList args.toList st K=some r):ma P C o a w K r:=by
 obtain⟨g,hg⟩:=id h;unfold KU at hk;split at hk;rename_i t s rU fN;obtain⟨x,hx,hxs⟩:∃x,args.toList=[x]/\st.rd x=.val false [.str s]:=by cases hl:args.toList with|nil=>rw[hl]at fN;simp at fN|cons x l=>rw[hl]at fN;simp at fN;exact⟨x,by rw[fN.2],fN.1⟩
 have ea:args=#[x]:=by apply eQ;simpa using hx
 have et:ts=#[t]:=by apply eQ;simpa using rU
 subst ea;subst et;split at hk;rename_i hT;have tj:=hg.rd x;rw[hxs]at tj;have hv:=(ew tj).1;refine tu h (.int .i64 _) _ ?_ (jO _ _) hk;simp[execOp,ho,resolve,invoke,builtin,Builtin.len_,underlying,Qj hE hT,hv,goInt,vO];cases hk;rename_i t fl e xs rU fN;obtain⟨x,hx,hxs⟩:∃x,args.toList=[x]/\st.rd x=.val false [.sl fl e xs]:=by cases hl:args.toList with|nil=>rw[hl]at fN;simp at fN|cons x l=>rw[hl]at fN;simp at fN;exact⟨x,by rw[fN.2],fN.1⟩
 have ea:args=#[x]:=by apply eQ;simpa using hx
 have et:ts=#[t]:=by apply eQ;simpa using rU
 subst ea;subst et;split at hk;rename_i hT;have tj:=hg.rd x;rw[hxs]at tj;obtain⟨e',he'⟩:=Option.isSome_iff_exists.1 hT;obtain⟨te,hu,_⟩:=CR hE he';have hv:∃b cap,a.eval x=.slice b xs.length cap:=by
  have hc:=ew tj;cases fl with
  |nest _ _ _ _ _ _=>obtain⟨_,_,⟨o1,n1,k1,h1,h2⟩,_⟩:=hc;exact⟨o1,k1,by rw[h1,h2]⟩
  |part _ _ _ _=>obtain⟨_,_,⟨o1,n1,k1,h1,h2⟩,_⟩:=hc;exact⟨o1,k1,by rw[h1,h2]⟩
  |fg _ _ _=>obtain⟨_,⟨k,_,b,o0,cap,arr,T,fr,fps,h1,_⟩,_⟩:=hc;exact⟨_,_,h1⟩
  |own t=>obtain⟨⟨u,hu,ho⟩,_⟩:=hc;simp at hu;subst hu;rcases ho with⟨⟨_,h1⟩,rfl,_⟩|⟨b,_,cap,_,_,_,_,h1,_⟩;exact⟨_,_,h1⟩;exact⟨_,_,h1⟩
  |arg _=>obtain⟨_,u,hu,ho⟩:=hc;simp at hu;subst hu;rcases ho with⟨⟨ad,h1⟩,rfl⟩|⟨b,ob,cap,h1,_⟩;exact⟨ad,0,h1⟩;exact⟨_,_,h1⟩
  |loc ep pv=>obtain⟨_,_,⟨b,n,k,h1,h2⟩,_⟩:=hc;exact⟨b,k,by rw[h1,h2]⟩
 obtain⟨b,cap,hv⟩:=hv;refine tu h (.int .i64 _) _ ?_ (jO _ _) hk;simp[execOp,ho,resolve,invoke,builtin,Builtin.len_,underlying,hu,hv,goInt];cases hk;cases hk
theorem LW {u v:AV}(h:args.toList.map st.rd=[u,v]):∃x y,args=#[x,y]/\st.rd x=u/\st.rd y=v:=by match hl:args.toList with|[]=>rw[hl]at h;simp at h|[_]=>rw[hl]at h;simp at h|[x,y]=>rw[hl]at h;simp at h;exact⟨x,y,by apply eQ;simpa using hl,h.1,h.2⟩|_::_::_::_=>rw[hl]at h;simp at h
theorem acT {o:Oper}(ho:o.op=.call {callee:=.builtin .min,args,argTypes:=ts})(h:np C st a w){K:AS->ax R}(hk:Mw o args.toList st K=some r):ma P C o a w K r:=by obtain⟨g,hg⟩:=id h;unfold Mw at hk;split at hk;rename_i k x k' y fN;obtain⟨p,q,rfl,hp,hq⟩:=LW fN;have th:=hg.rd p;have hqv:=hg.rd q;rw[hp]at th;rw[hq]at hqv;refine tu h (.int k _) _ ?_ (jO _ _) hk;simp[execOp,ho,resolve,invoke,builtin,Builtin.min_,Builtin.min2,iE th,iE hqv];cases hk
theorem acS {o:Oper}(ho:o.op=.call {callee:=.builtin .max,args,argTypes:=ts})(h:np C st a w){K:AS->ax R}(hk:Mv o args.toList st K=some r):ma P C o a w K r:=by obtain⟨g,hg⟩:=id h;unfold Mv at hk;split at hk;rename_i k x k' y fN;obtain⟨p,q,rfl,hp,hq⟩:=LW fN;have th:=hg.rd p;have hqv:=hg.rd q;rw[hp]at th;rw[hq]at hqv;refine tu h (.int k _) _ ?_ (jO _ _) hk;simp[execOp,ho,resolve,invoke,builtin,Builtin.max_,Builtin.max2,iE th,iE hqv];cases hk
end Go.Dn
