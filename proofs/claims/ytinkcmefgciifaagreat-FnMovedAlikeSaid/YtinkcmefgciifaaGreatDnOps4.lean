import Derived.Test.YtinkcmefgciifaaGreatDnOps3
import Derived.Test.YtinkcmefgciifaaGreatDnEq
/- Part 4: addresses, numbers, strings, slices of slices. -/
namespace Go.Dn
open Go.RowKit
variable {P:Program} {C:Ctx} {st:AS} {a:Act} {w:World} {R:Type} {r:R}
variable {args:Array Operand} {ts:Array TypeId} {x:Operand} {T:TypeId}
theorem Ve {E:Env}(hE:jk P E.ty){o:Oper}{S:TypeId}{p:Operand}{f:Nat}(ho:o.op=.fieldAddr S p f)(h:ij C st a w){K:AS->ay R}(hk:yA E o S p f st K=some r):mz P C o a w K r:=by
 unfold yA at hk
 have run:∀(sh:Shape),ja E.ty S=some sh->sh.agg=true->∀fo n,nth sh.jJ f=some (fo,n)->∀b off,a.eval p=.pointer (some ⟨b,off,none⟩)->
  (execOp a.eval o).run P w=.ok (.value (.pointer (some ⟨b,off+fo,none⟩))) w:=by
  intro sh hS JL fo n hf b off hv
  obtain⟨fs,hu,Fk⟩:=(hE S sh hS).agg JL
  rw[dK]at hf
  obtain⟨fd,hfd,MC,hn,i,hi,tH⟩:=Fk f fo n hf
  simp only[execOp,ho,hv,Instr.fieldAt,Instr.sureAddr,underlying,Sem.run_bind,run_program,hu,Result.andThen_ok,Sem.run_pure,hfd,fieldPlace,sizeOf,typeInfo,hi,tH,MC]
  rw[lv]
  simp[mV]
 obtain⟨g,hg⟩:=id h;have tG:=hg.rd p;split at hk;rename_i ct jJ s off hS hp;split at hk;rename_i fo n hf;rw[hp]at tG;have hv:=zK tG;have Zl:=(eC tG).2.1;refine⟨_,_,_,.inl (run _ hS rfl fo n hf _ _ hv),?_,hk⟩;exact⟨g,hg.quiet o.dst (mq ⟨rfl,Zl,rfl⟩)⟩;cases hk;rename_i ct jJ fl e x i off hS hp;split at hk;rename_i fo n hf;rw[hp]at tG;have hc:=eC tG;cases fl with
 |own t=>exact hc.elim
 |nest _ _ _ _ _ _=>exact hc.elim
 |part _ _ _ _=>exact hc.elim
 |fi _ _ _=>exact hc.elim
 |arg _=>obtain⟨h1,b,ob,hv,h2⟩:=hc;refine⟨_,_,_,.inl (run _ hS rfl fo n hf _ _ hv),?_,hk⟩;exact⟨g,hg.quiet o.dst (mq ⟨rfl,b,ob,by rw[fD],h2⟩)⟩
 |loc ep pv=>obtain⟨h1,b,ob,hv,h2⟩:=hc;refine⟨_,_,_,.inl (run _ hS rfl fo n hf _ _ hv),?_,hk⟩;exact⟨g,hg.quiet o.dst (mq ⟨rfl,b,ob,by rw[fD],h2⟩)⟩
 cases hk;cases hk
theorem C4 {E:Env}(hE:jk P E.ty){e:CT}(h:E.sl T=some e):∃te,P.underlying T=some (.slice te)/\J0 P te e:=by unfold Env.sl at h;split at h;rename_i e' jJ hT;simp at h;subst h;obtain⟨te,hu,he,_⟩:=(hE T _ hT).sl _ rfl rfl;exact⟨te,hu,he⟩;cases h
theorem Qw {E:Env}(hE:jk P E.ty)(h:E.str T=true):P.underlying T=some .string:=by unfold Env.str at h;split at h;rename_i jJ hT;exact(hE T _ hT).str rfl rfl;cases h
theorem ae5 {E:Env}(hE:jk P E.ty)(h:E.bool T=true):P.underlying T=some .bool:=by unfold Env.bool at h;split at h;rename_i jJ hT;exact(hE T _ hT).bool rfl rfl;cases h
theorem bl {α:Type}{xs:ax α}{n:Int}{y:α}(h:idx xs n=some y):∃k:Nat,n=k/\k<xs.length/\xs[k]?=some y:=by obtain⟨k,h1,h2⟩:=R1 h;exact⟨k,h1,(aG.1 h2).1,h2⟩
theorem K8 {E:Env}(hE:jk P E.ty){o:Oper}{i:Operand}(ho:o.op=.indexAddr T x i)(h:ij C st a w){K:AS->ay R}(hk:mn E o T x i st K=some r):mz P C o a w K r:=by
 unfold mn at hk;obtain⟨g,hg⟩:=id h;have tI:=hg.fresh (hg.rd x);have hiv:=hg.rd i;split at hk;rename_i e' fl e xs kd n hT hx hi;split at hk;rename_i hc;obtain⟨rfl,oz⟩:=hc;rw[hx]at tI;rw[hi]at hiv;have hxc:=eC tI;have ta:=iQ hiv;cases CE:idx xs n with
 |none=>rw[CE]at hk;cases hk
 |some y=>
  rw[CE]at hk;simp only[aa]at hk;obtain⟨k,rfl,hkl,hky⟩:=bl CE;obtain⟨te,hu,⟨inf,z,Aw,tH,_⟩,_⟩:=C4 hE hT;have run:∀b ob cap,a.eval x=.slice (some ⟨b,ob,none⟩) xs.length cap->(execOp a.eval o).run P w=.ok (.value (.pointer (some ⟨b,ob+k*e'.size,none⟩))) w:=by intro b ob cap hv;simp[execOp,ho,hv,ta,Instr.indexAt,asIntOf,underlying,hu,sizeOf,typeInfo,Aw,tH,hkl,mV]
  cases fl with
  |own t=>cases oz
  |nest _ _ _ _ _ _=>cases oz
  |part _ _ _ _=>cases oz
  |fi _ _ _=>cases oz
  |arg _=>obtain⟨_,v,hv,hr⟩:=hxc;simp at hv;subst hv;rcases hr with⟨_,rfl⟩|⟨b,ob,cap,hv,_,hr⟩;simp at hky;obtain⟨cs,Hv,FY⟩:=hr k y hky;refine⟨_,_,_,.inl (run b ob cap hv),?_,hk⟩;exact⟨g,hg.quiet o.dst (mq ⟨rfl,b,ob+k*e'.size,rfl,cs,Hv,FY⟩)⟩
  |loc ep pv=>
   obtain⟨_,xh,_,FY,tG⟩:=hxc;have aoe:ep=st.ep:=by simpa[qd.live]using oz
   obtain⟨v,hv,hr⟩:=FY aoe;simp at hv;subst hv;rcases hr with⟨_,rfl⟩|⟨b,ob,cap,hv,_,hr⟩;simp at hky;obtain⟨cs,Hv,acV⟩:=hr k y hky;refine⟨_,_,_,.inl (run b ob cap hv),?_,hk⟩;refine⟨g,hg.quiet o.dst (mq ⟨rfl,b,ob+k*e'.size,rfl,xh,λ_=>⟨cs,Hv,acV⟩,λrt t hp=>?_⟩)⟩;obtain⟨h1,h2⟩:=tG rt t hp;exact⟨h1,k,ob,xs.length,cap,rfl,by rw[<-h2,hv],hkl,rfl⟩
 cases hk;cases hk
theorem wc (s:ax UInt8):(ByteArray.mk s.toArray).size=s.length:=by show s.toArray.size=s.length;simp
theorem YG (s:ax UInt8)(n:Nat):(ByteArray.mk s.toArray)[n]?=s[n]?:=by
 simp only[getElem?_def];by_cases h:n<s.length;have h':n<(ByteArray.mk s.toArray).size:=by rw[wc];exact h
 rw[dif_pos h',dif_pos h];rfl;have h':¬n<(ByteArray.mk s.toArray).size:=by rw[wc];exact h
 rw[dif_neg h',dif_neg h]
theorem VQ {E:Env}(hE:jk P E.ty){o:Oper}{i:Operand}(ho:o.op=.index T x i)(h:ij C st a w){K:AS->ay R}(hk:Ad E o T x i st K=some r):mz P C o a w K r:=by
 unfold Ad at hk;obtain⟨g,hg⟩:=id h;have tI:=hg.rd x;have hiv:=hg.rd i;split at hk;rename_i s kd n hx hi;split at hk;rename_i hT;rw[hx]at tI;rw[hi]at hiv;have hxc:=(eC tI).1;have ta:=iQ hiv;cases CE:idx s n with
 |none=>rw[CE]at hk;cases hk
 |some y=>
  rw[CE]at hk;simp only[aa]at hk;obtain⟨k,rfl,hkl,hky⟩:=bl CE;have hu:=Qw hE hT;have ed:(execOp a.eval o).run P w=.ok (.value (.int .u8 y.toNat)) w:=by simp[execOp,ho,hxc,ta,Instr.index,asIntOf,underlying,hu,YG,hky]
  refine⟨_,_,_,.inl ed,?_,hk⟩;exact⟨g,hg.quiet o.dst (mq ⟨rfl,rfl⟩)⟩
 cases hk;cases hk
theorem tO {o:Oper}(h:ij C st a w){K:AS->ay R}(v:Value)(c:AC)(ed:(execOp a.eval o).run P w=.ok (.value v) w)(eQ:∀rc:RC,gK rc v c [])(hk:K (st.put o.dst (.one c))=some r):mz P C o a w K r:=by obtain⟨g,hg⟩:=h;exact⟨v,w,_,.inl ed,⟨g,hg.quiet o.dst (mq (eQ _))⟩,hk⟩
theorem ki (k:IntKind)(n:Int)(rc:RC):gK rc (.int k n) (.int k n) []:=⟨rfl,rfl⟩
theorem yT (b:Bool)(rc:RC):gK rc (.bool b) (.bool b) []:=⟨rfl,rfl⟩
theorem JT (s:ax UInt8)(rc:RC):gK rc (.string ⟨s.toArray⟩) (.str s) []:=⟨rfl,rfl⟩
theorem agk {o:Oper}{op:UnOp}(ho:o.op=.unOp op T x)(h:ij C st a w){K:AS->ay R}(hk:(unC op (st.rd x) λc=>K (st.put o.dst (.one c)))=some r):mz P C o a w K r:=by obtain⟨g,hg⟩:=id h;have tI:=hg.rd x;unfold unC at hk;split at hk;rename_i b hx;rw[hx]at tI;have hv:=uv tI;exact tO h _ _ (by simp[execOp,ho,hv,Op.unary]) (yT _) hk;rename_i k n hx;rw[hx]at tI;have hv:=iQ tI;exact tO h _ _ (by simp only[execOp,ho,hv,Op.unary,Op.intArith];rfl) (ki _ _) hk;rename_i k n hx;rw[hx]at tI;have hv:=iQ tI;exact tO h _ _ (by simp only[execOp,ho,hv,Op.unary,Op.intBits];rfl) (ki _ _) hk;cases hk
theorem HQ {o:Oper}(ho:o.op=.nilCheck x)(h:ij C st a w){K:AS->ay R}{fl:qd}{e:CT}{y:e.D}{i:Int}{off:Nat}(hx:st.rd x=.val false [.zX fl e y i off])(hk:K (st.put o.dst (.one (.zX fl e y i off)))=some r):mz P C o a w K r:=by
 obtain⟨g,hg⟩:=id h;have tI:=hg.rd x;rw[hx]at tI;have hc:=eC tI;have hv:∃b q,a.eval x=.pointer (some ⟨b,q,none⟩):=by
  cases fl with
  |own t=>exact hc.elim
  |nest _ _ _ _ _ _=>exact hc.elim
  |part _ _ _ _=>exact hc.elim
  |fi _ _ _=>exact hc.elim
  |arg _=>obtain⟨_,b,q,hv,_⟩:=hc;exact⟨b,_,hv⟩
  |loc ep pv=>obtain⟨_,b,q,hv,_⟩:=hc;exact⟨b,_,hv⟩
 obtain⟨b,q,hv⟩:=hv;exact⟨.pointer (some ⟨b,q,none⟩),_,_,.inl (by simp only[execOp,ho,hv];rfl),⟨g,hg.quiet o.dst (by rw[<-hv];exact tI)⟩,hk⟩
theorem MP {o:Oper}(ho:o.op=.nilCheck x)(h:ij C st a w){K:AS->ay R}{s off:Nat}(hx:st.rd x=.val false [.ptr s off])(hk:K (st.put o.dst (.one (.ptr s off)))=some r):mz P C o a w K r:=by obtain⟨g,hg⟩:=id h;have tI:=hg.rd x;rw[hx]at tI;have hv:=zK tI;exact⟨.pointer (some ⟨g.β s,off,none⟩),_,_,.inl (by simp only[execOp,ho,hv];rfl),⟨g,hg.quiet o.dst (mq (x:=.ptr s off) ⟨rfl,(eC tI).2.1,rfl⟩)⟩,hk⟩
theorem ZR {op:BinOp}{k:IntKind}{x y:Int}{K:AC->ay R}(hk:Gg op k x y K=some r)(T:TypeId)(w:World): ∃c v,(binOp op T (.int k x) (.int k y)).run P w=.ok v w/\(∀rc:RC,gK rc v c [])/\K c=some r:=by
 cases op<;>simp only[Gg]at hk<;>(try (cases hk;done))<;>simp only[binOp,ne_eq,not_true_eq_false,bW]
 case quo=>
  split at hk
  ·cases hk
  ·rename_i hy
   exact⟨_,.int k _,by simp only[Op.intDiv,hy,bW];rfl,ki _ _,hk⟩
 case rem=>
  split at hk
  ·cases hk
  ·rename_i hy
   exact⟨_,.int k _,by simp only[Op.intDiv,hy,bW];rfl,ki _ _,hk⟩
 case add=>exact⟨_,_,rfl,ki _ _,hk⟩
 case sub=>exact⟨_,_,rfl,ki _ _,hk⟩
 case mul=>exact⟨_,_,rfl,ki _ _,hk⟩
 case and=>exact⟨_,_,rfl,ki _ _,hk⟩
 case or=>exact⟨_,_,rfl,ki _ _,hk⟩
 case xor=>exact⟨_,_,rfl,ki _ _,hk⟩
 case andNot=>exact⟨_,_,rfl,ki _ _,hk⟩
 all_goals exact⟨_,_,rfl,yT _,hk⟩
theorem Yz (x y:ax UInt8):(ByteArray.mk x.toArray)++(ByteArray.mk y.toArray)=ByteArray.mk (x++y).toArray:=by apply ByteArray.ext;rw[ByteArray.data_append];simp
theorem aba {op:BinOp}{x y:ax UInt8}{K:AC->ay R}(hk:I6 op x y K=some r)(T:TypeId)(w:World): ∃c v,(binOp op T (.string ⟨x.toArray⟩) (.string ⟨y.toArray⟩)).run P w=.ok v w/\(∀rc:RC,gK rc v c [])/\K c=some r:=by
 cases op<;>simp only[I6]at hk<;>(try (cases hk;done))<;>simp only[binOp,Op.stringOp,toList_mk]
 case add=>
  unfold room at hk
  split at hk
  ·rename_i hle
   have hs:¬(((ByteArray.mk x.toArray).size+(ByteArray.mk y.toArray).size:Nat):Int)>IntKind.i64.max:=by
    have e1:=wc x;have e2:=wc y;rw[e1,e2];have:IntKind.i64.max=9223372036854775807:=by decide
    omega
   exact⟨_,_,by rw[aI hs,Yz];rfl,JT _,hk⟩
  ·cases hk
 all_goals exact⟨_,_,rfl,yT _,hk⟩
theorem JA (w:World)(D:Nat)(T te:TypeId)(hu:P.underlying T=some (.slice te)):(Op.equalIn (D+1) T (.slice none 0 0) (.slice none 0 0)).run P w=.ok true w:=by unfold Op.equalIn;simp only[underlying,Sem.run_bind,run_program,hu,Result.andThen_ok,Sem.run_pure];rfl
theorem H5 (w:World)(D:Nat)(T te:TypeId)(hu:P.underlying T=some (.slice te))(ad:Addr)(n k:Nat):(Op.equalIn (D+1) T (.slice (some ad) n k) (.slice none 0 0)).run P w=.ok false w:=by unfold Op.equalIn;simp only[underlying,Sem.run_bind,run_program,hu,Result.andThen_ok,Sem.run_pure]
theorem abC {E:Env}(hE:jk P E.ty)(hQ:QQ P E.eqs){o:Oper}{op:BinOp}{T':TypeId}{y:Operand}(ho:o.op=.binOp op T x y T')(h:ij C st a w){K:AS->ay R}(hk:zj E o op T x y st K=some r):mz P C o a w K r:=by
 obtain⟨g,hg⟩:=id h;have tI:=hg.rd x;have NI:=hg.rd y;have fin:∀v c,(do eqGuard op T x y (a.eval x) (a.eval y);binOp op T (a.eval x) (a.eval y):Sem Value).run P w=.ok v w->(∀rc:RC,gK rc v c [])->K (st.put o.dst (.one c))=some r->mz P C o a w K r:=by intro v c ed eQ PE;refine⟨v,w,_,.inl ?_,⟨g,hg.quiet o.dst (mq (eQ _))⟩,PE⟩;simp only[execOp,ho];show((do eqGuard op T x y (a.eval x) (a.eval y);binOp op T (a.eval x) (a.eval y):Sem Value)>>=λv=>pure (Next.value v)).run P w=_;rw[Sem.run_bind,ed];rfl
 have KJ:∀{k k':IntKind}{p q:Int},(eqGuard op T x y (.int k p) (.int k' q)).run P w=.ok () w:=by intros;unfold eqGuard;split<;>rfl
 have acH:∀{p q:ByteArray},(eqGuard op T x y (.string p) (.string q)).run P w=.ok () w:=by intros;unfold eqGuard;split<;>rfl
 have Za:∀{p q:Bool},(eqGuard op T x y (.bool p) (.bool q)).run P w=.ok () w:=by intros;unfold eqGuard;split<;>rfl
 unfold zj at hk;split at hk
 ·rename_i p q hx hy;rw[hx]at tI;rw[hy]at NI;split at hk;·rename_i hT;have hu:=ae5 hE hT;simp only[DY]at hk;cases op<;>simp only at hk<;>(try (cases hk;done));all_goals refine fin _ _ ?_ (yT _) hk;rw[uv tI,uv NI,Sem.run_bind,Za];simp only[Result.andThen_ok,binOp,Op.equal,Op.maxDepth,Sem.run_bind];rw[run_equalIn_bool' w 9999 T p q hu];rfl
  cases hk
 ·rename_i xs ys hx hy;rw[hx]at tI;rw[hy]at NI;split at hk
  ·rename_i ls hT;split at hk
   ·rename_i hf;obtain⟨vs,hcx,Zm⟩:=tI;obtain⟨us,hcy,hry⟩:=NI;simp only[Cut,bQ]at hcx hcy;have hgd:(eqGuard op T x y (.agg vs.toArray) (.agg us.toArray)).run P w=.ok () w:=by have hgt:=(hQ T ls hT).2.2;unfold eqGuard;cases op<;>simp[hgt]
    simp only[DY]at hk;cases op<;>simp only at hk<;>(try (cases hk;done));all_goals cases he:tM xs ys with|none=>rw[he]at hk;cases hk|some b=>rw[he]at hk;simp only[aa]at hk;refine fin _ _ ?_ (yT _) hk;rw[hcx,hcy,Sem.run_bind,hgd];simp only[Result.andThen_ok,binOp,Sem.run_bind,ahq hQ hT Zm hry hf he w];rfl
   cases hk
  cases hk
 ·rename_i fl e xs hx hy;rw[hx]at tI;rw[hy]at NI;split at hk
  ·rename_i hT;obtain⟨hT,oz⟩:=hT;cases hs:E.sl T with
   |none=>rw[hs]at hT;cases hT
   |some e'=>
    obtain⟨te,hu,_⟩:=C4 hE hs;split at hk;cases hk
    ·rename_i hlen;have ajZ:∃b ob n k,a.eval x=.slice (some ⟨b,ob,none⟩) n k:=by
      have hc:=eC tI;have key:∀{S:Nat->Nat->Prop},jc w S (.sl e) [a.eval x] xs->∃b ob n k,a.eval x=.slice (some ⟨b,ob,none⟩) n k:=by rintro S ⟨u,PI,h1⟩;simp at PI;rcases h1 with⟨_,rfl⟩|⟨b,ob,cap,hv,_⟩;simp at hlen;exact⟨b,ob,_,_,by rw[PI];exact hv⟩
      cases fl with
      |own t=>cases oz
      |nest _ _ _ _ _ _=>cases oz
      |part _ _ _ _=>cases oz
      |fi _ _ _=>cases oz
      |arg _=>exact key hc.2
      |loc ep pv=>
       have xh:ep=st.ep:=by simpa[qd.live]using oz
       exact key (hc.2.2.2.1 xh)
     obtain⟨b,ob,n,k,hv⟩:=ajZ;have hyn:=(eC NI).1;have ed:(Op.equal T (a.eval x) (a.eval y)).run P w=.ok false w:=by rw[hv,hyn];exact H5 w 9999 T te hu _ _ _
     have hgd:(eqGuard op T x y (a.eval x) (a.eval y)).run P w=.ok () w:=by rw[hv,hyn];unfold eqGuard;split<;>rfl
     unfold BS at hk;cases op<;>simp only at hk<;>(try (cases hk;done));all_goals refine fin _ _ ?_ (yT _) hk;rw[Sem.run_bind,hgd];rw[hv,hyn]at ed⊢;simp only[Result.andThen_ok,binOp,Sem.run_bind,ed];rfl
  cases hk
 ·rename_i hx hy;rw[hx]at tI;rw[hy]at NI;split at hk
  ·rename_i hT;cases hs:E.sl T with
   |none=>rw[hs]at hT;cases hT
   |some e'=>
    obtain⟨te,hu,_⟩:=C4 hE hs;have hxn:=(eC tI).1;have hyn:=(eC NI).1;have ed:(Op.equal T (.slice none 0 0) (.slice none 0 0)).run P w=.ok true w:=by exact JA w 9999 T te hu
    have hgd:(eqGuard op T x y (.slice none 0 0) (.slice none 0 0)).run P w=.ok () w:=by unfold eqGuard;split<;>rfl
    unfold BS at hk;cases op<;>simp only at hk<;>(try (cases hk;done));all_goals refine fin _ _ ?_ (yT _) hk;rw[hxn,hyn,Sem.run_bind,hgd];simp only[Result.andThen_ok,binOp,Sem.run_bind,ed];rfl
  cases hk
 rename_i va vb Hx Cc hn3 hn4;unfold DY at hk;split at hk;rename_i k p k' q hx hy;rw[hx]at tI;rw[hy]at NI;split at hk;split at hk;cases hk;rename_i hq;refine fin _ _ ?_ (ki _ _) hk;rw[iQ tI,iQ NI,Sem.run_bind,KJ];simp only[Result.andThen_ok,binOp,Op.shift,hq,bW];rfl;split at hk;cases hk;rename_i hq;refine fin _ _ ?_ (ki _ _) hk;rw[iQ tI,iQ NI,Sem.run_bind,KJ];simp only[Result.andThen_ok,binOp,Op.shift,hq,bW];rfl;split at hk;rename_i PE;subst PE;obtain⟨c,v,ed,eQ,hkc⟩:=ZR (P:=P) hk T w;refine fin v c ?_ eQ hkc;rw[iQ tI,iQ NI,Sem.run_bind,KJ];exact ed;cases hk;rename_i p q hx hy;rw[hx]at tI;rw[hy]at NI;obtain⟨c,v,ed,eQ,hkc⟩:=aba (P:=P) hk T w;refine fin v c ?_ eQ hkc;rw[(eC tI).1,(eC NI).1,Sem.run_bind,acH];exact ed;rename_i p q hx hy;exact absurd hy (Hx p q hx);rename_i xs ys hx hy;exact absurd hy (Cc xs ys hx);cases hk
theorem adp {E:Env}(hE:jk P E.ty){o:Oper}(ho:o.op=.call {callee:=.builtin .len,args,argTypes:=ts})(h:ij C st a w){K:AS->ay R}(hk:Lg E o ts.toList args.toList st K=some r):mz P C o a w K r:=by
 obtain⟨g,hg⟩:=id h;unfold Lg at hk;split at hk;rename_i t s su fT;obtain⟨x,hx,hxs⟩:∃x,args.toList=[x]/\st.rd x=.val false [.str s]:=by cases hl:args.toList with|nil=>rw[hl]at fT;simp at fT|cons x l=>rw[hl]at fT;simp at fT;exact⟨x,by rw[fT.2],fT.1⟩
 have ea:args=#[x]:=by apply eU;simpa using hx
 have et:ts=#[t]:=by apply eU;simpa using su
 subst ea;subst et;split at hk;rename_i hT;have tI:=hg.rd x;rw[hxs]at tI;have hv:=(eC tI).1;refine tO h (.int .i64 _) _ ?_ (ki _ _) hk;simp[execOp,ho,resolve,invoke,builtin,Builtin.len_,underlying,Qw hE hT,hv,goInt,wc];cases hk;rename_i t fl e xs su fT;obtain⟨x,hx,hxs⟩:∃x,args.toList=[x]/\st.rd x=.val false [.sl fl e xs]:=by cases hl:args.toList with|nil=>rw[hl]at fT;simp at fT|cons x l=>rw[hl]at fT;simp at fT;exact⟨x,by rw[fT.2],fT.1⟩
 have ea:args=#[x]:=by apply eU;simpa using hx
 have et:ts=#[t]:=by apply eU;simpa using su
 subst ea;subst et;split at hk;rename_i hT;have tI:=hg.rd x;rw[hxs]at tI;obtain⟨e',he'⟩:=Option.isSome_iff_exists.1 hT;obtain⟨te,hu,_⟩:=C4 hE he';have hv:∃b cap,a.eval x=.slice b xs.length cap:=by
  have hc:=eC tI;cases fl with
  |nest _ _ _ _ _ _=>obtain⟨_,_,⟨o1,n1,k1,h1,h2⟩,_⟩:=hc;exact⟨o1,k1,by rw[h1,h2]⟩
  |part _ _ _ _=>obtain⟨_,_,⟨o1,n1,k1,h1,h2⟩,_⟩:=hc;exact⟨o1,k1,by rw[h1,h2]⟩
  |fi _ _ _=>obtain⟨_,⟨k,_,b,o0,cap,arr,T,fr,fps,h1,_⟩,_⟩:=hc;exact⟨_,_,h1⟩
  |own t=>obtain⟨⟨u,hu,ho⟩,_⟩:=hc;simp at hu;subst hu;rcases ho with⟨⟨_,h1⟩,rfl,_⟩|⟨b,_,cap,_,_,_,_,h1,_⟩;exact⟨_,_,h1⟩;exact⟨_,_,h1⟩
  |arg _=>obtain⟨_,u,hu,ho⟩:=hc;simp at hu;subst hu;rcases ho with⟨⟨ad,h1⟩,rfl⟩|⟨b,ob,cap,h1,_⟩;exact⟨ad,0,h1⟩;exact⟨_,_,h1⟩
  |loc ep pv=>obtain⟨_,_,⟨b,n,k,h1,h2⟩,_⟩:=hc;exact⟨b,k,by rw[h1,h2]⟩
 obtain⟨b,cap,hv⟩:=hv;refine tO h (.int .i64 _) _ ?_ (ki _ _) hk;simp[execOp,ho,resolve,invoke,builtin,Builtin.len_,underlying,hu,hv,goInt];cases hk;cases hk
theorem Ma {u v:AV}(h:args.toList.map st.rd=[u,v]):∃x y,args=#[x,y]/\st.rd x=u/\st.rd y=v:=by match hl:args.toList with|[]=>rw[hl]at h;simp at h|[_]=>rw[hl]at h;simp at h|[x,y]=>rw[hl]at h;simp at h;exact⟨x,y,by apply eU;simpa using hl,h.1,h.2⟩|_::_::_::_=>rw[hl]at h;simp at h
theorem adw {o:Oper}(ho:o.op=.call {callee:=.builtin .min,args,argTypes:=ts})(h:ij C st a w){K:AS->ay R}(hk:ML o args.toList st K=some r):mz P C o a w K r:=by obtain⟨g,hg⟩:=id h;unfold ML at hk;split at hk;rename_i k x k' y fT;obtain⟨p,q,rfl,hp,hq⟩:=Ma fT;have tG:=hg.rd p;have hqv:=hg.rd q;rw[hp]at tG;rw[hq]at hqv;refine tO h (.int k _) _ ?_ (ki _ _) hk;simp[execOp,ho,resolve,invoke,builtin,Builtin.min_,Builtin.min2,iQ tG,iQ hqv];cases hk
theorem adv {o:Oper}(ho:o.op=.call {callee:=.builtin .max,args,argTypes:=ts})(h:ij C st a w){K:AS->ay R}(hk:MK o args.toList st K=some r):mz P C o a w K r:=by obtain⟨g,hg⟩:=id h;unfold MK at hk;split at hk;rename_i k x k' y fT;obtain⟨p,q,rfl,hp,hq⟩:=Ma fT;have tG:=hg.rd p;have hqv:=hg.rd q;rw[hp]at tG;rw[hq]at hqv;refine tO h (.int k _) _ ?_ (ki _ _) hk;simp[execOp,ho,resolve,invoke,builtin,Builtin.max_,Builtin.max2,iQ tG,iQ hqv];cases hk
end Go.Dn
