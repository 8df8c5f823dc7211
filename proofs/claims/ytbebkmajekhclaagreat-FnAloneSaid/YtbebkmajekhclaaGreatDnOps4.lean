import Derived.Test.YtbebkmajekhclaaGreatDnOps3
import Derived.Test.YtbebkmajekhclaaGreatDnEq
/- Part 4: addresses, numbers, strings, slices of slices. -/
namespace Go.Dn
open Go.RowKit
variable {P:Program} {C:Ctx} {st:AS} {a:Act} {w:World} {R:Type} {r:R}
variable {args:Array Operand} {ts:Array TypeId} {x:Operand} {T:TypeId}
theorem aaX {E:Env}(hE:jR P E.ty){o:Oper}{S:TypeId}{p:Operand}{f:Nat}(ho:o.op=.fieldAddr S p f)(h:pc C st a w){K:AS->ay R}(hk:BJ E o S p f st K=some r):nC P C o a w K r:=by
 unfold BJ at hk
 have run:∀(sh:Shape),jD E.ty S=some sh->sh.agg=true->∀fo n,nth sh.kx f=some (fo,n)->∀b off,a.eval p=.pointer (some ⟨b,off,none⟩)->
  (execOp a.eval o).run P w=.ok (.value (.pointer (some ⟨b,off+fo,none⟩))) w:=by
  intro sh hS NH fo n hf b off hv
  obtain⟨fs,hu,IU⟩:=(hE S sh hS).agg NH
  rw[ej]at hf
  obtain⟨fd,hfd,Q1,hn,i,hi,vB⟩:=IU f fo n hf
  simp only[execOp,ho,hv,Instr.fieldAt,Instr.sureAddr,underlying,Sem.run_bind,run_program,hu,Result.andThen_ok,Sem.run_pure,hfd,fieldPlace,sizeOf,typeInfo,hi,vB,Q1]
  rw[nX]
  simp[nZ]
 obtain⟨g,hg⟩:=id h;have vZ:=hg.rd p;split at hk;rename_i ct kx s off hS hp;split at hk;rename_i fo n hf;rw[hp]at vZ;have hv:=CV vZ;have hpr:=(fb vZ).2.1;refine⟨_,_,_,.inl (run _ hS rfl fo n hf _ _ hv),?_,hk⟩;exact⟨g,hg.quiet o.dst (nq ⟨rfl,hpr,rfl⟩)⟩;cases hk;rename_i ct kx fl e x i off hS hp;split at hk;rename_i fo n hf;rw[hp]at vZ;have hc:=fb vZ;cases fl with
 |own t=>exact hc.elim
 |nest _ _ _ _ _ _=>exact hc.elim
 |part _ _ _ _=>exact hc.elim
 |fR _ _ _=>exact hc.elim
 |arg _=>obtain⟨h1,b,ob,hv,h2⟩:=hc;refine⟨_,_,_,.inl (run _ hS rfl fo n hf _ _ hv),?_,hk⟩;exact⟨g,hg.quiet o.dst (nq ⟨rfl,b,ob,by rw[gi],h2⟩)⟩
 |loc ep pv=>obtain⟨h1,b,ob,hv,h2⟩:=hc;refine⟨_,_,_,.inl (run _ hS rfl fo n hf _ _ hv),?_,hk⟩;exact⟨g,hg.quiet o.dst (nq ⟨rfl,b,ob,by rw[gi],h2⟩)⟩
 cases hk;cases hk
theorem Gp {E:Env}(hE:jR P E.ty){e:CT}(h:E.sl T=some e):∃te,P.underlying T=some (.slice te)/\NW P te e:=by unfold Env.sl at h;split at h;rename_i e' kx hT;simp at h;subst h;obtain⟨te,hu,he,_⟩:=(hE T _ hT).sl _ rfl rfl;exact⟨te,hu,he⟩;cases h
theorem Vx {E:Env}(hE:jR P E.ty)(h:E.str T=true):P.underlying T=some .string:=by unfold Env.str at h;split at h;rename_i kx hT;exact(hE T _ hT).str rfl rfl;cases h
theorem ak0 {E:Env}(hE:jR P E.ty)(h:E.bool T=true):P.underlying T=some .bool:=by unfold Env.bool at h;split at h;rename_i kx hT;exact(hE T _ hT).bool rfl rfl;cases h
theorem bj {α:Type}{xs:aw α}{n:Int}{y:α}(h:idx xs n=some y):∃k:Nat,n=k/\k<xs.length/\xs[k]?=some y:=by obtain⟨k,h1,h2⟩:=Xk h;exact⟨k,h1,(aC.1 h2).1,h2⟩
theorem Pg {E:Env}(hE:jR P E.ty){o:Oper}{i:Operand}(ho:o.op=.indexAddr T x i)(h:pc C st a w){K:AS->ay R}(hk:np E o T x i st K=some r):nC P C o a w K r:=by
 unfold np at hk;obtain⟨g,hg⟩:=id h;have wa:=hg.fresh (hg.rd x);have hiv:=hg.rd i;split at hk;rename_i e' fl e xs kd n hT hx hi;split at hk;rename_i hc;obtain⟨rfl,qa⟩:=hc;rw[hx]at wa;rw[hi]at hiv;have hxc:=fb wa;have tV:=jr hiv;cases FR:idx xs n with
 |none=>rw[FR]at hk;cases hk
 |some y=>
  rw[FR]at hk;simp only[aa]at hk;obtain⟨k,rfl,Xa,hky⟩:=bj FR;obtain⟨te,hu,⟨inf,z,DG,vB,_⟩,_⟩:=Gp hE hT;have run:∀b ob cap,a.eval x=.slice (some ⟨b,ob,none⟩) xs.length cap->(execOp a.eval o).run P w=.ok (.value (.pointer (some ⟨b,ob+k*e'.size,none⟩))) w:=by intro b ob cap hv;simp[execOp,ho,hv,tV,Instr.indexAt,asIntOf,underlying,hu,sizeOf,typeInfo,DG,vB,Xa,nZ]
  cases fl with
  |own t=>cases qa
  |nest _ _ _ _ _ _=>cases qa
  |part _ _ _ _=>cases qa
  |fR _ _ _=>cases qa
  |arg _=>obtain⟨_,v,hv,hr⟩:=hxc;simp at hv;subst hv;rcases hr with⟨_,rfl⟩|⟨b,ob,cap,hv,_,hr⟩;simp at hky;obtain⟨cs,K2,Jy⟩:=hr k y hky;refine⟨_,_,_,.inl (run b ob cap hv),?_,hk⟩;exact⟨g,hg.quiet o.dst (nq ⟨rfl,b,ob+k*e'.size,rfl,cs,K2,Jy⟩)⟩
  |loc ep pv=>
   obtain⟨_,Ac,_,Jy,vZ⟩:=hxc;have avl:ep=st.ep:=by simpa[rE.live]using qa
   obtain⟨v,hv,hr⟩:=Jy avl;simp at hv;subst hv;rcases hr with⟨_,rfl⟩|⟨b,ob,cap,hv,_,hr⟩;simp at hky;obtain⟨cs,K2,aiF⟩:=hr k y hky;refine⟨_,_,_,.inl (run b ob cap hv),?_,hk⟩;refine⟨g,hg.quiet o.dst (nq ⟨rfl,b,ob+k*e'.size,rfl,Ac,λ_=>⟨cs,K2,aiF⟩,λrt t hp=>?_⟩)⟩;obtain⟨h1,h2⟩:=vZ rt t hp;exact⟨h1,k,ob,xs.length,cap,rfl,by rw[<-h2,hv],Xa,rfl⟩
 cases hk;cases hk
theorem yN (s:aw UInt8):(ByteArray.mk s.toArray).size=s.length:=by show s.toArray.size=s.length;simp
theorem aeA (s:aw UInt8)(n:Nat):(ByteArray.mk s.toArray)[n]?=s[n]?:=by
 simp only[getElem?_def];by_cases h:n<s.length;have h':n<(ByteArray.mk s.toArray).size:=by rw[yN];exact h
 rw[dif_pos h',dif_pos h];rfl;have h':¬n<(ByteArray.mk s.toArray).size:=by rw[yN];exact h
 rw[dif_neg h',dif_neg h]
theorem abC {E:Env}(hE:jR P E.ty){o:Oper}{i:Operand}(ho:o.op=.index T x i)(h:pc C st a w){K:AS->ay R}(hk:Dk E o T x i st K=some r):nC P C o a w K r:=by
 unfold Dk at hk;obtain⟨g,hg⟩:=id h;have wa:=hg.rd x;have hiv:=hg.rd i;split at hk;rename_i s kd n hx hi;split at hk;rename_i hT;rw[hx]at wa;rw[hi]at hiv;have hxc:=(fb wa).1;have tV:=jr hiv;cases FR:idx s n with
 |none=>rw[FR]at hk;cases hk
 |some y=>
  rw[FR]at hk;simp only[aa]at hk;obtain⟨k,rfl,Xa,hky⟩:=bj FR;have hu:=Vx hE hT;have eU:(execOp a.eval o).run P w=.ok (.value (.int .u8 y.toNat)) w:=by simp[execOp,ho,hxc,tV,Instr.index,asIntOf,underlying,hu,aeA,hky]
  refine⟨_,_,_,.inl eU,?_,hk⟩;exact⟨g,hg.quiet o.dst (nq ⟨rfl,rfl⟩)⟩
 cases hk;cases hk
theorem wm {o:Oper}(h:pc C st a w){K:AS->ay R}(v:Value)(c:AC)(eU:(execOp a.eval o).run P w=.ok (.value v) w)(fG:∀rc:RC,iq rc v c [])(hk:K (st.put o.dst (.one c))=some r):nC P C o a w K r:=by obtain⟨g,hg⟩:=h;exact⟨v,w,_,.inl eU,⟨g,hg.quiet o.dst (nq (fG _))⟩,hk⟩
theorem kO (k:IntKind)(n:Int)(rc:RC):iq rc (.int k n) (.int k n) []:=⟨rfl,rfl⟩
theorem Cb (b:Bool)(rc:RC):iq rc (.bool b) (.bool b) []:=⟨rfl,rfl⟩
theorem NN (s:aw UInt8)(rc:RC):iq rc (.string ⟨s.toArray⟩) (.str s) []:=⟨rfl,rfl⟩
theorem amf {o:Oper}{op:UnOp}(ho:o.op=.unOp op T x)(h:pc C st a w){K:AS->ay R}(hk:(unC op (st.rd x) λc=>K (st.put o.dst (.one c)))=some r):nC P C o a w K r:=by obtain⟨g,hg⟩:=id h;have wa:=hg.rd x;unfold unC at hk;split at hk;rename_i b hx;rw[hx]at wa;have hv:=xd wa;exact wm h _ _ (by simp[execOp,ho,hv,Op.unary]) (Cb _) hk;rename_i k n hx;rw[hx]at wa;have hv:=jr wa;exact wm h _ _ (by simp only[execOp,ho,hv,Op.unary,Op.intArith];rfl) (kO _ _) hk;rename_i k n hx;rw[hx]at wa;have hv:=jr wa;exact wm h _ _ (by simp only[execOp,ho,hv,Op.unary,Op.intBits];rfl) (kO _ _) hk;cases hk
theorem Lw {o:Oper}(ho:o.op=.nilCheck x)(h:pc C st a w){K:AS->ay R}{fl:rE}{e:CT}{y:e.D}{i:Int}{off:Nat}(hx:st.rd x=.val false [.Dc fl e y i off])(hk:K (st.put o.dst (.one (.Dc fl e y i off)))=some r):nC P C o a w K r:=by
 obtain⟨g,hg⟩:=id h;have wa:=hg.rd x;rw[hx]at wa;have hc:=fb wa;have hv:∃b q,a.eval x=.pointer (some ⟨b,q,none⟩):=by
  cases fl with
  |own t=>exact hc.elim
  |nest _ _ _ _ _ _=>exact hc.elim
  |part _ _ _ _=>exact hc.elim
  |fR _ _ _=>exact hc.elim
  |arg _=>obtain⟨_,b,q,hv,_⟩:=hc;exact⟨b,_,hv⟩
  |loc ep pv=>obtain⟨_,b,q,hv,_⟩:=hc;exact⟨b,_,hv⟩
 obtain⟨b,q,hv⟩:=hv;exact⟨.pointer (some ⟨b,q,none⟩),_,_,.inl (by simp only[execOp,ho,hv];rfl),⟨g,hg.quiet o.dst (by rw[<-hv];exact wa)⟩,hk⟩
theorem Rh {o:Oper}(ho:o.op=.nilCheck x)(h:pc C st a w){K:AS->ay R}{s off:Nat}(hx:st.rd x=.val false [.ptr s off])(hk:K (st.put o.dst (.one (.ptr s off)))=some r):nC P C o a w K r:=by obtain⟨g,hg⟩:=id h;have wa:=hg.rd x;rw[hx]at wa;have hv:=CV wa;exact⟨.pointer (some ⟨g.β s,off,none⟩),_,_,.inl (by simp only[execOp,ho,hv];rfl),⟨g,hg.quiet o.dst (nq (x:=.ptr s off) ⟨rfl,(fb wa).2.1,rfl⟩)⟩,hk⟩
theorem afx {op:BinOp}{k:IntKind}{x y:Int}{K:AC->ay R}(hk:JT op k x y K=some r)(T:TypeId)(w:World): ∃c v,(binOp op T (.int k x) (.int k y)).run P w=.ok v w/\(∀rc:RC,iq rc v c [])/\K c=some r:=by
 cases op<;>simp only[JT]at hk<;>(try (cases hk;done))<;>simp only[binOp,ne_eq,not_true_eq_false,cv]
 case quo=>
  split at hk
  ·cases hk
  ·rename_i hy
   exact⟨_,.int k _,by simp only[Op.intDiv,hy,cv];rfl,kO _ _,hk⟩
 case rem=>
  split at hk
  ·cases hk
  ·rename_i hy
   exact⟨_,.int k _,by simp only[Op.intDiv,hy,cv];rfl,kO _ _,hk⟩
 case add=>exact⟨_,_,rfl,kO _ _,hk⟩
 case sub=>exact⟨_,_,rfl,kO _ _,hk⟩
 case mul=>exact⟨_,_,rfl,kO _ _,hk⟩
 case and=>exact⟨_,_,rfl,kO _ _,hk⟩
 case or=>exact⟨_,_,rfl,kO _ _,hk⟩
 case xor=>exact⟨_,_,rfl,kO _ _,hk⟩
 case andNot=>exact⟨_,_,rfl,kO _ _,hk⟩
 all_goals exact⟨_,_,rfl,Cb _,hk⟩
theorem aet (x y:aw UInt8):(ByteArray.mk x.toArray)++(ByteArray.mk y.toArray)=ByteArray.mk (x++y).toArray:=by apply ByteArray.ext;rw[ByteArray.data_append];simp
theorem agO {op:BinOp}{x y:aw UInt8}{K:AC->ay R}(hk:MK op x y K=some r)(T:TypeId)(w:World): ∃c v,(binOp op T (.string ⟨x.toArray⟩) (.string ⟨y.toArray⟩)).run P w=.ok v w/\(∀rc:RC,iq rc v c [])/\K c=some r:=by
 cases op<;>simp only[MK]at hk<;>(try (cases hk;done))<;>simp only[binOp,Op.stringOp,toList_mk]
 case add=>
  unfold room at hk
  split at hk
  ·rename_i hle
   have hs:¬(((ByteArray.mk x.toArray).size+(ByteArray.mk y.toArray).size:Nat):Int)>IntKind.i64.max:=by
    have e1:=yN x;have e2:=yN y;rw[e1,e2];have:IntKind.i64.max=9223372036854775807:=by decide
    omega
   exact⟨_,_,by rw[aG hs,aet];rfl,NN _,hk⟩
  ·cases hk
 all_goals exact⟨_,_,rfl,Cb _,hk⟩
theorem Ns (w:World)(D:Nat)(T te:TypeId)(hu:P.underlying T=some (.slice te)):(Op.equalIn (D+1) T (.slice none 0 0) (.slice none 0 0)).run P w=.ok true w:=by unfold Op.equalIn;simp only[underlying,Sem.run_bind,run_program,hu,Result.andThen_ok,Sem.run_pure];rfl
theorem LO (w:World)(D:Nat)(T te:TypeId)(hu:P.underlying T=some (.slice te))(ad:Addr)(n k:Nat):(Op.equalIn (D+1) T (.slice (some ad) n k) (.slice none 0 0)).run P w=.ok false w:=by unfold Op.equalIn;simp only[underlying,Sem.run_bind,run_program,hu,Result.andThen_ok,Sem.run_pure]
theorem ahk {E:Env}(hE:jR P E.ty)(hQ:VQ P E.eqs){o:Oper}{op:BinOp}{T':TypeId}{y:Operand}(ho:o.op=.binOp op T x y T')(h:pc C st a w){K:AS->ay R}(hk:Cz E o op T x y st K=some r):nC P C o a w K r:=by
 obtain⟨g,hg⟩:=id h;have wa:=hg.rd x;have Sh:=hg.rd y;have fin:∀v c,(do eqGuard op T x y (a.eval x) (a.eval y);binOp op T (a.eval x) (a.eval y):Sem Value).run P w=.ok v w->(∀rc:RC,iq rc v c [])->K (st.put o.dst (.one c))=some r->nC P C o a w K r:=by intro v c eU fG Uz;refine⟨v,w,_,.inl ?_,⟨g,hg.quiet o.dst (nq (fG _))⟩,Uz⟩;simp only[execOp,ho];show((do eqGuard op T x y (a.eval x) (a.eval y);binOp op T (a.eval x) (a.eval y):Sem Value)>>=λv=>pure (Next.value v)).run P w=_;rw[Sem.run_bind,eU];rfl
 have OT:∀{k k':IntKind}{p q:Int},(eqGuard op T x y (.int k p) (.int k' q)).run P w=.ok () w:=by intros;unfold eqGuard;split<;>rfl
 have aiq:∀{p q:ByteArray},(eqGuard op T x y (.string p) (.string q)).run P w=.ok () w:=by intros;unfold eqGuard;split<;>rfl
 have aeX:∀{p q:Bool},(eqGuard op T x y (.bool p) (.bool q)).run P w=.ok () w:=by intros;unfold eqGuard;split<;>rfl
 unfold Cz at hk;split at hk
 ·rename_i p q hx hy;rw[hx]at wa;rw[hy]at Sh;split at hk;·rename_i hT;have hu:=ak0 hE hT;simp only[Hm]at hk;cases op<;>simp only at hk<;>(try (cases hk;done));all_goals refine fin _ _ ?_ (Cb _) hk;rw[xd wa,xd Sh,Sem.run_bind,aeX];simp only[Result.andThen_ok,binOp,Op.equal,Op.maxDepth,Sem.run_bind];rw[run_equalIn_bool' w 9999 T p q hu];rfl
  cases hk
 ·rename_i xs ys hx hy;rw[hx]at wa;rw[hy]at Sh;split at hk
  ·rename_i ls hT;split at hk
   ·rename_i hf;obtain⟨vs,hcx,hrx⟩:=wa;obtain⟨us,hcy,hry⟩:=Sh;simp only[Cut,cg]at hcx hcy;have hgd:(eqGuard op T x y (.agg vs.toArray) (.agg us.toArray)).run P w=.ok () w:=by have hgt:=(hQ T ls hT).2.2;unfold eqGuard;cases op<;>simp[hgt]
    simp only[Hm]at hk;cases op<;>simp only at hk<;>(try (cases hk;done));all_goals cases he:wh xs ys with|none=>rw[he]at hk;cases hk|some b=>rw[he]at hk;simp only[aa]at hk;refine fin _ _ ?_ (Cb _) hk;rw[hcx,hcy,Sem.run_bind,hgd];simp only[Result.andThen_ok,binOp,Sem.run_bind,anP hQ hT hrx hry hf he w];rfl
   cases hk
  cases hk
 ·rename_i fl e xs hx hy;rw[hx]at wa;rw[hy]at Sh;split at hk
  ·rename_i hT;obtain⟨hT,qa⟩:=hT;cases hs:E.sl T with
   |none=>rw[hs]at hT;cases hT
   |some e'=>
    obtain⟨te,hu,_⟩:=Gp hE hs;split at hk;cases hk
    ·rename_i hlen;have aqw:∃b ob n k,a.eval x=.slice (some ⟨b,ob,none⟩) n k:=by
      have hc:=fb wa;have key:∀{S:Nat->Nat->Prop},jG w S (.sl e) [a.eval x] xs->∃b ob n k,a.eval x=.slice (some ⟨b,ob,none⟩) n k:=by rintro S ⟨u,UD,h1⟩;simp at UD;rcases h1 with⟨_,rfl⟩|⟨b,ob,cap,hv,_⟩;simp at hlen;exact⟨b,ob,_,_,by rw[UD];exact hv⟩
      cases fl with
      |own t=>cases qa
      |nest _ _ _ _ _ _=>cases qa
      |part _ _ _ _=>cases qa
      |fR _ _ _=>cases qa
      |arg _=>exact key hc.2
      |loc ep pv=>
       have Ac:ep=st.ep:=by simpa[rE.live]using qa
       exact key (hc.2.2.2.1 Ac)
     obtain⟨b,ob,n,k,hv⟩:=aqw;have hyn:=(fb Sh).1;have eU:(Op.equal T (a.eval x) (a.eval y)).run P w=.ok false w:=by rw[hv,hyn];exact LO w 9999 T te hu _ _ _
     have hgd:(eqGuard op T x y (a.eval x) (a.eval y)).run P w=.ok () w:=by rw[hv,hyn];unfold eqGuard;split<;>rfl
     unfold E5 at hk;cases op<;>simp only at hk<;>(try (cases hk;done));all_goals refine fin _ _ ?_ (Cb _) hk;rw[Sem.run_bind,hgd];rw[hv,hyn]at eU⊢;simp only[Result.andThen_ok,binOp,Sem.run_bind,eU];rfl
  cases hk
 ·rename_i hx hy;rw[hx]at wa;rw[hy]at Sh;split at hk
  ·rename_i hT;cases hs:E.sl T with
   |none=>rw[hs]at hT;cases hT
   |some e'=>
    obtain⟨te,hu,_⟩:=Gp hE hs;have hxn:=(fb wa).1;have hyn:=(fb Sh).1;have eU:(Op.equal T (.slice none 0 0) (.slice none 0 0)).run P w=.ok true w:=by exact Ns w 9999 T te hu
    have hgd:(eqGuard op T x y (.slice none 0 0) (.slice none 0 0)).run P w=.ok () w:=by unfold eqGuard;split<;>rfl
    unfold E5 at hk;cases op<;>simp only at hk<;>(try (cases hk;done));all_goals refine fin _ _ ?_ (Cb _) hk;rw[hxn,hyn,Sem.run_bind,hgd];simp only[Result.andThen_ok,binOp,Sem.run_bind,eU];rfl
  cases hk
 rename_i va vb IX Dh hn3 hn4;unfold Hm at hk;split at hk;rename_i k p k' q hx hy;rw[hx]at wa;rw[hy]at Sh;split at hk;split at hk;cases hk;rename_i hq;refine fin _ _ ?_ (kO _ _) hk;rw[jr wa,jr Sh,Sem.run_bind,OT];simp only[Result.andThen_ok,binOp,Op.shift,hq,cv];rfl;split at hk;cases hk;rename_i hq;refine fin _ _ ?_ (kO _ _) hk;rw[jr wa,jr Sh,Sem.run_bind,OT];simp only[Result.andThen_ok,binOp,Op.shift,hq,cv];rfl;split at hk;rename_i Uz;subst Uz;obtain⟨c,v,eU,fG,hkc⟩:=afx (P:=P) hk T w;refine fin v c ?_ fG hkc;rw[jr wa,jr Sh,Sem.run_bind,OT];exact eU;cases hk;rename_i p q hx hy;rw[hx]at wa;rw[hy]at Sh;obtain⟨c,v,eU,fG,hkc⟩:=agO (P:=P) hk T w;refine fin v c ?_ fG hkc;rw[(fb wa).1,(fb Sh).1,Sem.run_bind,aiq];exact eU;rename_i p q hx hy;exact absurd hy (IX p q hx);rename_i xs ys hx hy;exact absurd hy (Dh xs ys hx);cases hk
theorem ai7 {E:Env}(hE:jR P E.ty){o:Oper}(ho:o.op=.call {callee:=.builtin .len,args,argTypes:=ts})(h:pc C st a w){K:AS->ay R}(hk:Pt E o ts.toList args.toList st K=some r):nC P C o a w K r:=by
 obtain⟨g,hg⟩:=id h;unfold Pt at hk;split at hk;rename_i t s uM gE;obtain⟨x,hx,hxs⟩:∃x,args.toList=[x]/\st.rd x=.val false [.str s]:=by cases hl:args.toList with|nil=>rw[hl]at gE;simp at gE|cons x l=>rw[hl]at gE;simp at gE;exact⟨x,by rw[gE.2],gE.1⟩
 have ea:args=#[x]:=by apply fK;simpa using hx
 have et:ts=#[t]:=by apply fK;simpa using uM
 subst ea;subst et;split at hk;rename_i hT;have wa:=hg.rd x;rw[hxs]at wa;have hv:=(fb wa).1;refine wm h (.int .i64 _) _ ?_ (kO _ _) hk;simp[execOp,ho,resolve,invoke,builtin,Builtin.len_,underlying,Vx hE hT,hv,goInt,yN];cases hk;rename_i t fl e xs uM gE;obtain⟨x,hx,hxs⟩:∃x,args.toList=[x]/\st.rd x=.val false [.sl fl e xs]:=by cases hl:args.toList with|nil=>rw[hl]at gE;simp at gE|cons x l=>rw[hl]at gE;simp at gE;exact⟨x,by rw[gE.2],gE.1⟩
 have ea:args=#[x]:=by apply fK;simpa using hx
 have et:ts=#[t]:=by apply fK;simpa using uM
 subst ea;subst et;split at hk;rename_i hT;have wa:=hg.rd x;rw[hxs]at wa;obtain⟨e',he'⟩:=Option.isSome_iff_exists.1 hT;obtain⟨te,hu,_⟩:=Gp hE he';have hv:∃b cap,a.eval x=.slice b xs.length cap:=by
  have hc:=fb wa;cases fl with
  |nest _ _ _ _ _ _=>obtain⟨_,_,⟨o1,n1,k1,h1,h2⟩,_⟩:=hc;exact⟨o1,k1,by rw[h1,h2]⟩
  |part _ _ _ _=>obtain⟨_,_,⟨o1,n1,k1,h1,h2⟩,_⟩:=hc;exact⟨o1,k1,by rw[h1,h2]⟩
  |fR _ _ _=>obtain⟨_,⟨k,_,b,o0,cap,arr,T,fr,fps,h1,_⟩,_⟩:=hc;exact⟨_,_,h1⟩
  |own t=>obtain⟨⟨u,hu,ho⟩,_⟩:=hc;simp at hu;subst hu;rcases ho with⟨⟨_,h1⟩,rfl,_⟩|⟨b,_,cap,_,_,_,_,h1,_⟩;exact⟨_,_,h1⟩;exact⟨_,_,h1⟩
  |arg _=>obtain⟨_,u,hu,ho⟩:=hc;simp at hu;subst hu;rcases ho with⟨⟨ad,h1⟩,rfl⟩|⟨b,ob,cap,h1,_⟩;exact⟨ad,0,h1⟩;exact⟨_,_,h1⟩
  |loc ep pv=>obtain⟨_,_,⟨b,n,k,h1,h2⟩,_⟩:=hc;exact⟨b,k,by rw[h1,h2]⟩
 obtain⟨b,cap,hv⟩:=hv;refine wm h (.int .i64 _) _ ?_ (kO _ _) hk;simp[execOp,ho,resolve,invoke,builtin,Builtin.len_,underlying,hu,hv,goInt];cases hk;cases hk
theorem Qz {u v:AV}(h:args.toList.map st.rd=[u,v]):∃x y,args=#[x,y]/\st.rd x=u/\st.rd y=v:=by match hl:args.toList with|[]=>rw[hl]at h;simp at h|[_]=>rw[hl]at h;simp at h|[x,y]=>rw[hl]at h;simp at h;exact⟨x,y,by apply fK;simpa using hl,h.1,h.2⟩|_::_::_::_=>rw[hl]at h;simp at h
theorem ajg {o:Oper}(ho:o.op=.call {callee:=.builtin .min,args,argTypes:=ts})(h:pc C st a w){K:AS->ay R}(hk:Ra o args.toList st K=some r):nC P C o a w K r:=by obtain⟨g,hg⟩:=id h;unfold Ra at hk;split at hk;rename_i k x k' y gE;obtain⟨p,q,rfl,hp,hq⟩:=Qz gE;have vZ:=hg.rd p;have hqv:=hg.rd q;rw[hp]at vZ;rw[hq]at hqv;refine wm h (.int k _) _ ?_ (kO _ _) hk;simp[execOp,ho,resolve,invoke,builtin,Builtin.min_,Builtin.min2,jr vZ,jr hqv];cases hk
theorem aje {o:Oper}(ho:o.op=.call {callee:=.builtin .max,args,argTypes:=ts})(h:pc C st a w){K:AS->ay R}(hk:Q9 o args.toList st K=some r):nC P C o a w K r:=by obtain⟨g,hg⟩:=id h;unfold Q9 at hk;split at hk;rename_i k x k' y gE;obtain⟨p,q,rfl,hp,hq⟩:=Qz gE;have vZ:=hg.rd p;have hqv:=hg.rd q;rw[hp]at vZ;rw[hq]at hqv;refine wm h (.int k _) _ ?_ (kO _ _) hk;simp[execOp,ho,resolve,invoke,builtin,Builtin.max_,Builtin.max2,jr vZ,jr hqv];cases hk
end Go.Dn
