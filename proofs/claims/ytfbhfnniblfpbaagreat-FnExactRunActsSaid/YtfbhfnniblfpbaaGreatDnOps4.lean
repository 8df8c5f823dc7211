import Derived.Test.YtfbhfnniblfpbaaGreatDnOps3
import Derived.Test.YtfbhfnniblfpbaaGreatDnEq
/- Part 4: addresses, numbers, strings, slices of slices. -/
namespace Go.Dn
open Go.RowKit
variable {P:Program} {C:Ctx} {st:AS} {a:Act} {w:World} {R:Type} {r:R}
variable {args:Array Operand} {ts:Array TypeId} {x:Operand} {T:TypeId}
theorem Yi {E:Env}(hE:js P E.ty){o:Oper}{S:TypeId}{p:Operand}{f:Nat}(ho:o.op=.fieldAddr S p f)(h:nv C st a w){K:AS->au R}(hk:B4 E o S p f st K=some r):nb P C o a w K r:=by
 unfold B4 at hk
 have run:∀(sh:Shape),iV E.ty S=some sh->sh.agg=true->∀fo n,nth sh.jZ f=some (fo,n)->∀b off,a.eval p=.pointer (some ⟨b,off,none⟩)->
  (execOp a.eval o).run P w=.ok (.value (.pointer (some ⟨b,off+fo,none⟩))) w:=by
  intro sh hS NG fo n hf b off hv
  obtain⟨fs,hu,IA⟩:=(hE S sh hS).agg NG
  rw[dB]at hf
  obtain⟨fd,hfd,QG,hn,i,hi,tw⟩:=IA f fo n hf
  simp only[execOp,ho,hv,Instr.fieldAt,Instr.sureAddr,underlying,Sem.run_bind,run_program,hu,Result.andThen_ok,Sem.run_pure,hfd,fieldPlace,sizeOf,typeInfo,hi,tw,QG]
  rw[mI]
  simp[ny]
 obtain⟨g,hg⟩:=id h;have vS:=hg.rd p;split at hk;rename_i ct jZ s off hS hp;split at hk;rename_i fo n hf;rw[hp]at vS;have hv:=DH vS;have Qs:=(dU vS).2.1;refine⟨_,_,_,.inl (run _ hS rfl fo n hf _ _ hv),?_,hk⟩;exact⟨g,hg.quiet o.dst (mO ⟨rfl,Qs,rfl⟩)⟩;cases hk;rename_i ct jZ fl e x i off hS hp;split at hk;rename_i fo n hf;rw[hp]at vS;have hc:=dU vS;cases fl with
 |own t=>exact hc.elim
 |nest _ _ _ _ _ _=>exact hc.elim
 |part _ _ _ _=>exact hc.elim
 |fe _ _ _=>exact hc.elim
 |arg _=>obtain⟨h1,b,ob,hv,h2⟩:=hc;refine⟨_,_,_,.inl (run _ hS rfl fo n hf _ _ hv),?_,hk⟩;exact⟨g,hg.quiet o.dst (mO ⟨rfl,b,ob,by rw[fF],h2⟩)⟩
 |loc ep pv=>obtain⟨h1,b,ob,hv,h2⟩:=hc;refine⟨_,_,_,.inl (run _ hS rfl fo n hf _ _ hv),?_,hk⟩;exact⟨g,hg.quiet o.dst (mO ⟨rfl,b,ob,by rw[fF],h2⟩)⟩
 cases hk;cases hk
theorem HC {E:Env}(hE:js P E.ty){e:CT}(h:E.sl T=some e):∃te,P.underlying T=some (.slice te)/\NY P te e:=by unfold Env.sl at h;split at h;rename_i e' jZ hT;simp at h;subst h;obtain⟨te,hu,he,_⟩:=(hE T _ hT).sl _ rfl rfl;exact⟨te,hu,he⟩;cases h
theorem Uv {E:Env}(hE:js P E.ty)(h:E.str T=true):P.underlying T=some .string:=by unfold Env.str at h;split at h;rename_i jZ hT;exact(hE T _ hT).str rfl rfl;cases h
theorem agf {E:Env}(hE:js P E.ty)(h:E.bool T=true):P.underlying T=some .bool:=by unfold Env.bool at h;split at h;rename_i jZ hT;exact(hE T _ hT).bool rfl rfl;cases h
theorem aX {α:Type}{xs:aq α}{n:Int}{y:α}(h:idx xs n=some y):∃k:Nat,n=k/\k<xs.length/\xs[k]?=some y:=by obtain⟨k,h1,h2⟩:=OU h;exact⟨k,h1,(aD.1 h2).1,h2⟩
theorem O4 {E:Env}(hE:js P E.ty){o:Oper}{i:Operand}(ho:o.op=.indexAddr T x i)(h:nv C st a w){K:AS->au R}(hk:mN E o T x i st K=some r):nb P C o a w K r:=by
 unfold mN at hk;obtain⟨g,hg⟩:=id h;have vT:=hg.fresh (hg.rd x);have hiv:=hg.rd i;split at hk;rename_i e' fl e xs kd n hT hx hi;split at hk;rename_i hc;obtain⟨rfl,ph⟩:=hc;rw[hx]at vT;rw[hi]at hiv;have hxc:=dU vT;have uw:=iT hiv;cases E1:idx xs n with
 |none=>rw[E1]at hk;cases hk
 |some y=>
  rw[E1]at hk;simp only[aa]at hk;obtain⟨k,rfl,hkl,hky⟩:=aX E1;obtain⟨te,hu,⟨inf,z,Em,tw,_⟩,_⟩:=HC hE hT;have run:∀b ob cap,a.eval x=.slice (some ⟨b,ob,none⟩) xs.length cap->(execOp a.eval o).run P w=.ok (.value (.pointer (some ⟨b,ob+k*e'.size,none⟩))) w:=by intro b ob cap hv;simp[execOp,ho,hv,uw,Instr.indexAt,asIntOf,underlying,hu,sizeOf,typeInfo,Em,tw,hkl,ny]
  cases fl with
  |own t=>cases ph
  |nest _ _ _ _ _ _=>cases ph
  |part _ _ _ _=>cases ph
  |fe _ _ _=>cases ph
  |arg _=>obtain⟨_,v,hv,hr⟩:=hxc;simp at hv;subst hv;rcases hr with⟨_,rfl⟩|⟨b,ob,cap,hv,_,hr⟩;simp at hky;obtain⟨cs,LA,Ke⟩:=hr k y hky;refine⟨_,_,_,.inl (run b ob cap hv),?_,hk⟩;exact⟨g,hg.quiet o.dst (mO ⟨rfl,b,ob+k*e'.size,rfl,cs,LA,Ke⟩)⟩
  |loc ep pv=>
   obtain⟨_,xY,_,Ke,vS⟩:=hxc;have aqp:ep=st.ep:=by simpa[qL.live]using ph
   obtain⟨v,hv,hr⟩:=Ke aqp;simp at hv;subst hv;rcases hr with⟨_,rfl⟩|⟨b,ob,cap,hv,_,hr⟩;simp at hky;obtain⟨cs,LA,aez⟩:=hr k y hky;refine⟨_,_,_,.inl (run b ob cap hv),?_,hk⟩;refine⟨g,hg.quiet o.dst (mO ⟨rfl,b,ob+k*e'.size,rfl,xY,λ_=>⟨cs,LA,aez⟩,λrt t hp=>?_⟩)⟩;obtain⟨h1,h2⟩:=vS rt t hp;exact⟨h1,k,ob,xs.length,cap,rfl,by rw[<-h2,hv],hkl,rfl⟩
 cases hk;cases hk
theorem zj (s:aq UInt8):(ByteArray.mk s.toArray).size=s.length:=by show s.toArray.size=s.length;simp
theorem abc (s:aq UInt8)(n:Nat):(ByteArray.mk s.toArray)[n]?=s[n]?:=by
 simp only[getElem?_def];by_cases h:n<s.length;have h':n<(ByteArray.mk s.toArray).size:=by rw[zj];exact h
 rw[dif_pos h',dif_pos h];rfl;have h':¬n<(ByteArray.mk s.toArray).size:=by rw[zj];exact h
 rw[dif_neg h',dif_neg h]
theorem YP {E:Env}(hE:js P E.ty){o:Oper}{i:Operand}(ho:o.op=.index T x i)(h:nv C st a w){K:AS->au R}(hk:DV E o T x i st K=some r):nb P C o a w K r:=by
 unfold DV at hk;obtain⟨g,hg⟩:=id h;have vT:=hg.rd x;have hiv:=hg.rd i;split at hk;rename_i s kd n hx hi;split at hk;rename_i hT;rw[hx]at vT;rw[hi]at hiv;have hxc:=(dU vT).1;have uw:=iT hiv;cases E1:idx s n with
 |none=>rw[E1]at hk;cases hk
 |some y=>
  rw[E1]at hk;simp only[aa]at hk;obtain⟨k,rfl,hkl,hky⟩:=aX E1;have hu:=Uv hE hT;have dJ:(execOp a.eval o).run P w=.ok (.value (.int .u8 y.toNat)) w:=by simp[execOp,ho,hxc,uw,Instr.index,asIntOf,underlying,hu,abc,hky]
  refine⟨_,_,_,.inl dJ,?_,hk⟩;exact⟨g,hg.quiet o.dst (mO ⟨rfl,rfl⟩)⟩
 cases hk;cases hk
theorem wa {o:Oper}(h:nv C st a w){K:AS->au R}(v:Value)(c:AC)(dJ:(execOp a.eval o).run P w=.ok (.value v) w)(dD:∀rc:RC,gM rc v c [])(hk:K (st.put o.dst (.one c))=some r):nb P C o a w K r:=by obtain⟨g,hg⟩:=h;exact⟨v,w,_,.inl dJ,⟨g,hg.quiet o.dst (mO (dD _))⟩,hk⟩
theorem kE (k:IntKind)(n:Int)(rc:RC):gM rc (.int k n) (.int k n) []:=⟨rfl,rfl⟩
theorem CN (b:Bool)(rc:RC):gM rc (.bool b) (.bool b) []:=⟨rfl,rfl⟩
theorem NN (s:aq UInt8)(rc:RC):gM rc (.string ⟨s.toArray⟩) (.str s) []:=⟨rfl,rfl⟩
theorem ahx {o:Oper}{op:UnOp}(ho:o.op=.unOp op T x)(h:nv C st a w){K:AS->au R}(hk:(unC op (st.rd x) λc=>K (st.put o.dst (.one c)))=some r):nb P C o a w K r:=by obtain⟨g,hg⟩:=id h;have vT:=hg.rd x;unfold unC at hk;split at hk;rename_i b hx;rw[hx]at vT;have hv:=xl vT;exact wa h _ _ (by simp[execOp,ho,hv,Op.unary]) (CN _) hk;rename_i k n hx;rw[hx]at vT;have hv:=iT vT;exact wa h _ _ (by simp only[execOp,ho,hv,Op.unary,Op.intArith];rfl) (kE _ _) hk;rename_i k n hx;rw[hx]at vT;have hv:=iT vT;exact wa h _ _ (by simp only[execOp,ho,hv,Op.unary,Op.intBits];rfl) (kE _ _) hk;cases hk
theorem LZ {o:Oper}(ho:o.op=.nilCheck x)(h:nv C st a w){K:AS->au R}{fl:qL}{e:CT}{y:e.D}{i:Int}{off:Nat}(hx:st.rd x=.val false [.Da fl e y i off])(hk:K (st.put o.dst (.one (.Da fl e y i off)))=some r):nb P C o a w K r:=by
 obtain⟨g,hg⟩:=id h;have vT:=hg.rd x;rw[hx]at vT;have hc:=dU vT;have hv:∃b q,a.eval x=.pointer (some ⟨b,q,none⟩):=by
  cases fl with
  |own t=>exact hc.elim
  |nest _ _ _ _ _ _=>exact hc.elim
  |part _ _ _ _=>exact hc.elim
  |fe _ _ _=>exact hc.elim
  |arg _=>obtain⟨_,b,q,hv,_⟩:=hc;exact⟨b,_,hv⟩
  |loc ep pv=>obtain⟨_,b,q,hv,_⟩:=hc;exact⟨b,_,hv⟩
 obtain⟨b,q,hv⟩:=hv;exact⟨.pointer (some ⟨b,q,none⟩),_,_,.inl (by simp only[execOp,ho,hv];rfl),⟨g,hg.quiet o.dst (by rw[<-hv];exact vT)⟩,hk⟩
theorem QW {o:Oper}(ho:o.op=.nilCheck x)(h:nv C st a w){K:AS->au R}{s off:Nat}(hx:st.rd x=.val false [.ptr s off])(hk:K (st.put o.dst (.one (.ptr s off)))=some r):nb P C o a w K r:=by obtain⟨g,hg⟩:=id h;have vT:=hg.rd x;rw[hx]at vT;have hv:=DH vT;exact⟨.pointer (some ⟨g.β s,off,none⟩),_,_,.inl (by simp only[execOp,ho,hv];rfl),⟨g,hg.quiet o.dst (mO (x:=.ptr s off) ⟨rfl,(dU vT).2.1,rfl⟩)⟩,hk⟩
theorem ab5 {op:BinOp}{k:IntKind}{x y:Int}{K:AC->au R}(hk:Kx op k x y K=some r)(T:TypeId)(w:World): ∃c v,(binOp op T (.int k x) (.int k y)).run P w=.ok v w/\(∀rc:RC,gM rc v c [])/\K c=some r:=by
 cases op<;>simp only[Kx]at hk<;>(try (cases hk;done))<;>simp only[binOp,ne_eq,not_true_eq_false,cc]
 case quo=>
  split at hk
  ·cases hk
  ·rename_i hy
   exact⟨_,.int k _,by simp only[Op.intDiv,hy,cc];rfl,kE _ _,hk⟩
 case rem=>
  split at hk
  ·cases hk
  ·rename_i hy
   exact⟨_,.int k _,by simp only[Op.intDiv,hy,cc];rfl,kE _ _,hk⟩
 case add=>exact⟨_,_,rfl,kE _ _,hk⟩
 case sub=>exact⟨_,_,rfl,kE _ _,hk⟩
 case mul=>exact⟨_,_,rfl,kE _ _,hk⟩
 case and=>exact⟨_,_,rfl,kE _ _,hk⟩
 case or=>exact⟨_,_,rfl,kE _ _,hk⟩
 case xor=>exact⟨_,_,rfl,kE _ _,hk⟩
 case andNot=>exact⟨_,_,rfl,kE _ _,hk⟩
 all_goals exact⟨_,_,rfl,CN _,hk⟩
theorem aa7 (x y:aq UInt8):(ByteArray.mk x.toArray)++(ByteArray.mk y.toArray)=ByteArray.mk (x++y).toArray:=by apply ByteArray.ext;rw[ByteArray.data_append];simp
theorem adj {op:BinOp}{x y:aq UInt8}{K:AC->au R}(hk:MY op x y K=some r)(T:TypeId)(w:World): ∃c v,(binOp op T (.string ⟨x.toArray⟩) (.string ⟨y.toArray⟩)).run P w=.ok v w/\(∀rc:RC,gM rc v c [])/\K c=some r:=by
 cases op<;>simp only[MY]at hk<;>(try (cases hk;done))<;>simp only[binOp,Op.stringOp,toList_mk]
 case add=>
  unfold room at hk
  split at hk
  ·rename_i hle
   have hs:¬(((ByteArray.mk x.toArray).size+(ByteArray.mk y.toArray).size:Nat):Int)>IntKind.i64.max:=by
    have e1:=zj x;have e2:=zj y;rw[e1,e2];have:IntKind.i64.max=9223372036854775807:=by decide
    omega
   exact⟨_,_,by rw[aF hs,aa7];rfl,NN _,hk⟩
  ·cases hk
 all_goals exact⟨_,_,rfl,CN _,hk⟩
theorem Nq (w:World)(D:Nat)(T te:TypeId)(hu:P.underlying T=some (.slice te)):(Op.equalIn (D+1) T (.slice none 0 0) (.slice none 0 0)).run P w=.ok true w:=by unfold Op.equalIn;simp only[underlying,Sem.run_bind,run_program,hu,Result.andThen_ok,Sem.run_pure];rfl
theorem Mb (w:World)(D:Nat)(T te:TypeId)(hu:P.underlying T=some (.slice te))(ad:Addr)(n k:Nat):(Op.equalIn (D+1) T (.slice (some ad) n k) (.slice none 0 0)).run P w=.ok false w:=by unfold Op.equalIn;simp only[underlying,Sem.run_bind,run_program,hu,Result.andThen_ok,Sem.run_pure]
theorem adE {E:Env}(hE:js P E.ty)(hQ:UQ P E.eqs){o:Oper}{op:BinOp}{T':TypeId}{y:Operand}(ho:o.op=.binOp op T x y T')(h:nv C st a w){K:AS->au R}(hk:C5 E o op T x y st K=some r):nb P C o a w K r:=by
 obtain⟨g,hg⟩:=id h;have vT:=hg.rd x;have RK:=hg.rd y;have fin:∀v c,(do eqGuard op T x y (a.eval x) (a.eval y);binOp op T (a.eval x) (a.eval y):Sem Value).run P w=.ok v w->(∀rc:RC,gM rc v c [])->K (st.put o.dst (.one c))=some r->nb P C o a w K r:=by intro v c dJ dD To;refine⟨v,w,_,.inl ?_,⟨g,hg.quiet o.dst (mO (dD _))⟩,To⟩;simp only[execOp,ho];show((do eqGuard op T x y (a.eval x) (a.eval y);binOp op T (a.eval x) (a.eval y):Sem Value)>>=λv=>pure (Next.value v)).run P w=_;rw[Sem.run_bind,dJ];rfl
 have OH:∀{k k':IntKind}{p q:Int},(eqGuard op T x y (.int k p) (.int k' q)).run P w=.ok () w:=by intros;unfold eqGuard;split<;>rfl
 have aea:∀{p q:ByteArray},(eqGuard op T x y (.string p) (.string q)).run P w=.ok () w:=by intros;unfold eqGuard;split<;>rfl
 have abx:∀{p q:Bool},(eqGuard op T x y (.bool p) (.bool q)).run P w=.ok () w:=by intros;unfold eqGuard;split<;>rfl
 unfold C5 at hk;split at hk
 ·rename_i p q hx hy;rw[hx]at vT;rw[hy]at RK;split at hk;·rename_i hT;have hu:=agf hE hT;simp only[Iy]at hk;cases op<;>simp only at hk<;>(try (cases hk;done));all_goals refine fin _ _ ?_ (CN _) hk;rw[xl vT,xl RK,Sem.run_bind,abx];simp only[Result.andThen_ok,binOp,Op.equal,Op.maxDepth,Sem.run_bind];rw[run_equalIn_bool' w 9999 T p q hu];rfl
  cases hk
 ·rename_i xs ys hx hy;rw[hx]at vT;rw[hy]at RK;split at hk
  ·rename_i ls hT;split at hk
   ·rename_i hf;obtain⟨vs,hcx,VK⟩:=vT;obtain⟨us,hcy,hry⟩:=RK;simp only[Cut,bL]at hcx hcy;have hgd:(eqGuard op T x y (.agg vs.toArray) (.agg us.toArray)).run P w=.ok () w:=by have hgt:=(hQ T ls hT).2.2;unfold eqGuard;cases op<;>simp[hgt]
    simp only[Iy]at hk;cases op<;>simp only at hk<;>(try (cases hk;done));all_goals cases he:vY xs ys with|none=>rw[he]at hk;cases hk|some b=>rw[he]at hk;simp only[aa]at hk;refine fin _ _ ?_ (CN _) hk;rw[hcx,hcy,Sem.run_bind,hgd];simp only[Result.andThen_ok,binOp,Sem.run_bind,ah7 hQ hT VK hry hf he w];rfl
   cases hk
  cases hk
 ·rename_i fl e xs hx hy;rw[hx]at vT;rw[hy]at RK;split at hk
  ·rename_i hT;obtain⟨hT,ph⟩:=hT;cases hs:E.sl T with
   |none=>rw[hs]at hT;cases hT
   |some e'=>
    obtain⟨te,hu,_⟩:=HC hE hs;split at hk;cases hk
    ·rename_i hlen;have ajx:∃b ob n k,a.eval x=.slice (some ⟨b,ob,none⟩) n k:=by
      have hc:=dU vT;have key:∀{S:Nat->Nat->Prop},jf w S (.sl e) [a.eval x] xs->∃b ob n k,a.eval x=.slice (some ⟨b,ob,none⟩) n k:=by rintro S ⟨u,RI,h1⟩;simp at RI;rcases h1 with⟨_,rfl⟩|⟨b,ob,cap,hv,_⟩;simp at hlen;exact⟨b,ob,_,_,by rw[RI];exact hv⟩
      cases fl with
      |own t=>cases ph
      |nest _ _ _ _ _ _=>cases ph
      |part _ _ _ _=>cases ph
      |fe _ _ _=>cases ph
      |arg _=>exact key hc.2
      |loc ep pv=>
       have xY:ep=st.ep:=by simpa[qL.live]using ph
       exact key (hc.2.2.2.1 xY)
     obtain⟨b,ob,n,k,hv⟩:=ajx;have hyn:=(dU RK).1;have dJ:(Op.equal T (a.eval x) (a.eval y)).run P w=.ok false w:=by rw[hv,hyn];exact Mb w 9999 T te hu _ _ _
     have hgd:(eqGuard op T x y (a.eval x) (a.eval y)).run P w=.ok () w:=by rw[hv,hyn];unfold eqGuard;split<;>rfl
     unfold Gd at hk;cases op<;>simp only at hk<;>(try (cases hk;done));all_goals refine fin _ _ ?_ (CN _) hk;rw[Sem.run_bind,hgd];rw[hv,hyn]at dJ⊢;simp only[Result.andThen_ok,binOp,Sem.run_bind,dJ];rfl
  cases hk
 ·rename_i hx hy;rw[hx]at vT;rw[hy]at RK;split at hk
  ·rename_i hT;cases hs:E.sl T with
   |none=>rw[hs]at hT;cases hT
   |some e'=>
    obtain⟨te,hu,_⟩:=HC hE hs;have hxn:=(dU vT).1;have hyn:=(dU RK).1;have dJ:(Op.equal T (.slice none 0 0) (.slice none 0 0)).run P w=.ok true w:=by exact Nq w 9999 T te hu
    have hgd:(eqGuard op T x y (.slice none 0 0) (.slice none 0 0)).run P w=.ok () w:=by unfold eqGuard;split<;>rfl
    unfold Gd at hk;cases op<;>simp only at hk<;>(try (cases hk;done));all_goals refine fin _ _ ?_ (CN _) hk;rw[hxn,hyn,Sem.run_bind,hgd];simp only[Result.andThen_ok,binOp,Sem.run_bind,dJ];rfl
  cases hk
 rename_i va vb EM C2 hn3 hn4;unfold Iy at hk;split at hk;rename_i k p k' q hx hy;rw[hx]at vT;rw[hy]at RK;split at hk;split at hk;cases hk;rename_i hq;refine fin _ _ ?_ (kE _ _) hk;rw[iT vT,iT RK,Sem.run_bind,OH];simp only[Result.andThen_ok,binOp,Op.shift,hq,cc];rfl;split at hk;cases hk;rename_i hq;refine fin _ _ ?_ (kE _ _) hk;rw[iT vT,iT RK,Sem.run_bind,OH];simp only[Result.andThen_ok,binOp,Op.shift,hq,cc];rfl;split at hk;rename_i To;subst To;obtain⟨c,v,dJ,dD,hkc⟩:=ab5 (P:=P) hk T w;refine fin v c ?_ dD hkc;rw[iT vT,iT RK,Sem.run_bind,OH];exact dJ;cases hk;rename_i p q hx hy;rw[hx]at vT;rw[hy]at RK;obtain⟨c,v,dJ,dD,hkc⟩:=adj (P:=P) hk T w;refine fin v c ?_ dD hkc;rw[(dU vT).1,(dU RK).1,Sem.run_bind,aea];exact dJ;rename_i p q hx hy;exact absurd hy (EM p q hx);rename_i xs ys hx hy;exact absurd hy (C2 xs ys hx);cases hk
theorem ae2 {E:Env}(hE:js P E.ty){o:Oper}(ho:o.op=.call {callee:=.builtin .len,args,argTypes:=ts})(h:nv C st a w){K:AS->au R}(hk:Pa E o ts.toList args.toList st K=some r):nb P C o a w K r:=by
 obtain⟨g,hg⟩:=id h;unfold Pa at hk;split at hk;rename_i t s qW fb;obtain⟨x,hx,hxs⟩:∃x,args.toList=[x]/\st.rd x=.val false [.str s]:=by cases hl:args.toList with|nil=>rw[hl]at fb;simp at fb|cons x l=>rw[hl]at fb;simp at fb;exact⟨x,by rw[fb.2],fb.1⟩
 have ea:args=#[x]:=by apply ei;simpa using hx
 have et:ts=#[t]:=by apply ei;simpa using qW
 subst ea;subst et;split at hk;rename_i hT;have vT:=hg.rd x;rw[hxs]at vT;have hv:=(dU vT).1;refine wa h (.int .i64 _) _ ?_ (kE _ _) hk;simp[execOp,ho,resolve,invoke,builtin,Builtin.len_,underlying,Uv hE hT,hv,goInt,zj];cases hk;rename_i t fl e xs qW fb;obtain⟨x,hx,hxs⟩:∃x,args.toList=[x]/\st.rd x=.val false [.sl fl e xs]:=by cases hl:args.toList with|nil=>rw[hl]at fb;simp at fb|cons x l=>rw[hl]at fb;simp at fb;exact⟨x,by rw[fb.2],fb.1⟩
 have ea:args=#[x]:=by apply ei;simpa using hx
 have et:ts=#[t]:=by apply ei;simpa using qW
 subst ea;subst et;split at hk;rename_i hT;have vT:=hg.rd x;rw[hxs]at vT;obtain⟨e',he'⟩:=Option.isSome_iff_exists.1 hT;obtain⟨te,hu,_⟩:=HC hE he';have hv:∃b cap,a.eval x=.slice b xs.length cap:=by
  have hc:=dU vT;cases fl with
  |nest _ _ _ _ _ _=>obtain⟨_,_,⟨o1,n1,k1,h1,h2⟩,_⟩:=hc;exact⟨o1,k1,by rw[h1,h2]⟩
  |part _ _ _ _=>obtain⟨_,_,⟨o1,n1,k1,h1,h2⟩,_⟩:=hc;exact⟨o1,k1,by rw[h1,h2]⟩
  |fe _ _ _=>obtain⟨_,⟨k,_,b,o0,cap,arr,T,fr,fps,h1,_⟩,_⟩:=hc;exact⟨_,_,h1⟩
  |own t=>obtain⟨⟨u,hu,ho⟩,_⟩:=hc;simp at hu;subst hu;rcases ho with⟨⟨_,h1⟩,rfl,_⟩|⟨b,_,cap,_,_,_,_,h1,_⟩;exact⟨_,_,h1⟩;exact⟨_,_,h1⟩
  |arg _=>obtain⟨_,u,hu,ho⟩:=hc;simp at hu;subst hu;rcases ho with⟨⟨ad,h1⟩,rfl⟩|⟨b,ob,cap,h1,_⟩;exact⟨ad,0,h1⟩;exact⟨_,_,h1⟩
  |loc ep pv=>obtain⟨_,_,⟨b,n,k,h1,h2⟩,_⟩:=hc;exact⟨b,k,by rw[h1,h2]⟩
 obtain⟨b,cap,hv⟩:=hv;refine wa h (.int .i64 _) _ ?_ (kE _ _) hk;simp[execOp,ho,resolve,invoke,builtin,Builtin.len_,underlying,hu,hv,goInt];cases hk;cases hk
theorem Qh {u v:AV}(h:args.toList.map st.rd=[u,v]):∃x y,args=#[x,y]/\st.rd x=u/\st.rd y=v:=by match hl:args.toList with|[]=>rw[hl]at h;simp at h|[_]=>rw[hl]at h;simp at h|[x,y]=>rw[hl]at h;simp at h;exact⟨x,y,by apply ei;simpa using hl,h.1,h.2⟩|_::_::_::_=>rw[hl]at h;simp at h
theorem ae8 {o:Oper}(ho:o.op=.call {callee:=.builtin .min,args,argTypes:=ts})(h:nv C st a w){K:AS->au R}(hk:QS o args.toList st K=some r):nb P C o a w K r:=by obtain⟨g,hg⟩:=id h;unfold QS at hk;split at hk;rename_i k x k' y fb;obtain⟨p,q,rfl,hp,hq⟩:=Qh fb;have vS:=hg.rd p;have hqv:=hg.rd q;rw[hp]at vS;rw[hq]at hqv;refine wa h (.int k _) _ ?_ (kE _ _) hk;simp[execOp,ho,resolve,invoke,builtin,Builtin.min_,Builtin.min2,iT vS,iT hqv];cases hk
theorem ae7 {o:Oper}(ho:o.op=.call {callee:=.builtin .max,args,argTypes:=ts})(h:nv C st a w){K:AS->au R}(hk:QR o args.toList st K=some r):nb P C o a w K r:=by obtain⟨g,hg⟩:=id h;unfold QR at hk;split at hk;rename_i k x k' y fb;obtain⟨p,q,rfl,hp,hq⟩:=Qh fb;have vS:=hg.rd p;have hqv:=hg.rd q;rw[hp]at vS;rw[hq]at hqv;refine wa h (.int k _) _ ?_ (kE _ _) hk;simp[execOp,ho,resolve,invoke,builtin,Builtin.max_,Builtin.max2,iT vS,iT hqv];cases hk
end Go.Dn
