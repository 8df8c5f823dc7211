import Derived.Test.YtfbhfnniblfpbaaGreatDnOps3
import Derived.Test.YtfbhfnniblfpbaaGreatDnEq
/- Part 4: addresses, numbers, strings, slices of slices. -/
namespace Go.Dn
open Go.RowKit
variable {P:Program} {C:Ctx} {st:AS} {a:Act} {w:World} {R:Type} {r:R}
variable {args:Array Operand} {ts:Array TypeId} {x:Operand} {T:TypeId}
theorem Xr {E:Env}(hE:jf P E.ty){o:Oper}{S:TypeId}{p:Operand}{f:Nat}(ho:o.op=.fieldAddr S p f)(h:nb C st a w){K:AS->aw R}(hk:Bf E o S p f st K=some r):mJ P C o a w K r:=by
 unfold Bf at hk
 have run:∀(sh:Shape),iH E.ty S=some sh->sh.agg=true->∀fo n,nth sh.jJ f=some (fo,n)->∀b off,a.eval p=.pointer (some ⟨b,off,none⟩)->
  (execOp a.eval o).run P w=.ok (.value (.pointer (some ⟨b,off+fo,none⟩))) w:=by
  intro sh hS MY fo n hf b off hv
  obtain⟨fs,hu,HI⟩:=(hE S sh hS).agg MY
  rw[dv]at hf
  obtain⟨fd,hfd,P3,hn,i,hi,sR⟩:=HI f fo n hf
  simp only[execOp,ho,hv,Instr.fieldAt,Instr.sureAddr,underlying,Sem.run_bind,run_program,hu,Result.andThen_ok,Sem.run_pure,hfd,fieldPlace,sizeOf,typeInfo,hi,sR,P3]
  rw[mG]
  simp[nf]
 obtain⟨g,hg⟩:=id h;have vo:=hg.rd p;split at hk;rename_i ct jJ s off hS hp;split at hk;rename_i fo n hf;rw[hp]at vo;have hv:=CM vo;have PO:=(dE vo).2.1;refine⟨_,_,_,.inl (run _ hS rfl fo n hf _ _ hv),?_,hk⟩;exact⟨g,hg.quiet o.dst (mu ⟨rfl,PO,rfl⟩)⟩;cases hk;rename_i ct jJ fl e x i off hS hp;split at hk;rename_i fo n hf;rw[hp]at vo;have hc:=dE vo;cases fl with
 |own t=>exact hc.elim
 |nest _ _ _ _ _ _=>exact hc.elim
 |part _ _ _ _=>exact hc.elim
 |eQ _ _ _=>exact hc.elim
 |arg _=>obtain⟨h1,b,ob,hv,h2⟩:=hc;refine⟨_,_,_,.inl (run _ hS rfl fo n hf _ _ hv),?_,hk⟩;exact⟨g,hg.quiet o.dst (mu ⟨rfl,b,ob,by rw[fb],h2⟩)⟩
 |loc ep pv=>obtain⟨h1,b,ob,hv,h2⟩:=hc;refine⟨_,_,_,.inl (run _ hS rfl fo n hf _ _ hv),?_,hk⟩;exact⟨g,hg.quiet o.dst (mu ⟨rfl,b,ob,by rw[fb],h2⟩)⟩
 cases hk;cases hk
theorem GK {E:Env}(hE:jf P E.ty){e:CT}(h:E.sl T=some e):∃te,P.underlying T=some (.slice te)/\Ni P te e:=by unfold Env.sl at h;split at h;rename_i e' jJ hT;simp at h;subst h;obtain⟨te,hu,he,_⟩:=(hE T _ hT).sl _ rfl rfl;exact⟨te,hu,he⟩;cases h
theorem TF {E:Env}(hE:jf P E.ty)(h:E.str T=true):P.underlying T=some .string:=by unfold Env.str at h;split at h;rename_i jJ hT;exact(hE T _ hT).str rfl rfl;cases h
theorem ae7 {E:Env}(hE:jf P E.ty)(h:E.bool T=true):P.underlying T=some .bool:=by unfold Env.bool at h;split at h;rename_i jJ hT;exact(hE T _ hT).bool rfl rfl;cases h
theorem aU {α:Type}{xs:au α}{n:Int}{y:α}(h:idx xs n=some y):∃k:Nat,n=k/\k<xs.length/\xs[k]?=some y:=by obtain⟨k,h1,h2⟩:=Oe h;exact⟨k,h1,(aD.1 h2).1,h2⟩
theorem Oo {E:Env}(hE:jf P E.ty){o:Oper}{i:Operand}(ho:o.op=.indexAddr T x i)(h:nb C st a w){K:AS->aw R}(hk:mq E o T x i st K=some r):mJ P C o a w K r:=by
 unfold mq at hk;obtain⟨g,hg⟩:=id h;have vp:=hg.fresh (hg.rd x);have hiv:=hg.rd i;split at hk;rename_i e' fl e xs kd n hT hx hi;split at hk;rename_i hc;obtain⟨rfl,oM⟩:=hc;rw[hx]at vp;rw[hi]at hiv;have hxc:=dE vp;have tU:=iE hiv;cases D7:idx xs n with
 |none=>rw[D7]at hk;cases hk
 |some y=>
  rw[D7]at hk;simp only[aa]at hk;obtain⟨k,rfl,hkl,hky⟩:=aU D7;obtain⟨te,hu,⟨inf,z,Dv,sR,_⟩,_⟩:=GK hE hT;have run:∀b ob cap,a.eval x=.slice (some ⟨b,ob,none⟩) xs.length cap->(execOp a.eval o).run P w=.ok (.value (.pointer (some ⟨b,ob+k*e'.size,none⟩))) w:=by intro b ob cap hv;simp[execOp,ho,hv,tU,Instr.indexAt,asIntOf,underlying,hu,sizeOf,typeInfo,Dv,sR,hkl,nf]
  cases fl with
  |own t=>cases oM
  |nest _ _ _ _ _ _=>cases oM
  |part _ _ _ _=>cases oM
  |eQ _ _ _=>cases oM
  |arg _=>obtain⟨_,v,hv,hr⟩:=hxc;simp at hv;subst hv;rcases hr with⟨_,rfl⟩|⟨b,ob,cap,hv,_,hr⟩;simp at hky;obtain⟨cs,KS,Js⟩:=hr k y hky;refine⟨_,_,_,.inl (run b ob cap hv),?_,hk⟩;exact⟨g,hg.quiet o.dst (mu ⟨rfl,b,ob+k*e'.size,rfl,cs,KS,Js⟩)⟩
  |loc ep pv=>
   obtain⟨_,xl,_,Js,vo⟩:=hxc;have aoK:ep=st.ep:=by simpa[qt.live]using oM
   obtain⟨v,hv,hr⟩:=Js aoK;simp at hv;subst hv;rcases hr with⟨_,rfl⟩|⟨b,ob,cap,hv,_,hr⟩;simp at hky;obtain⟨cs,KS,ady⟩:=hr k y hky;refine⟨_,_,_,.inl (run b ob cap hv),?_,hk⟩;refine⟨g,hg.quiet o.dst (mu ⟨rfl,b,ob+k*e'.size,rfl,xl,λ_=>⟨cs,KS,ady⟩,λrt t hp=>?_⟩)⟩;obtain⟨h1,h2⟩:=vo rt t hp;exact⟨h1,k,ob,xs.length,cap,rfl,by rw[<-h2,hv],hkl,rfl⟩
 cases hk;cases hk
theorem yn (s:au UInt8):(ByteArray.mk s.toArray).size=s.length:=by show s.toArray.size=s.length;simp
theorem aap (s:au UInt8)(n:Nat):(ByteArray.mk s.toArray)[n]?=s[n]?:=by
 simp only[getElem?_def];by_cases h:n<s.length;have h':n<(ByteArray.mk s.toArray).size:=by rw[yn];exact h
 rw[dif_pos h',dif_pos h];rfl;have h':¬n<(ByteArray.mk s.toArray).size:=by rw[yn];exact h
 rw[dif_neg h',dif_neg h]
theorem XV {E:Env}(hE:jf P E.ty){o:Oper}{i:Operand}(ho:o.op=.index T x i)(h:nb C st a w){K:AS->aw R}(hk:C2 E o T x i st K=some r):mJ P C o a w K r:=by
 unfold C2 at hk;obtain⟨g,hg⟩:=id h;have vp:=hg.rd x;have hiv:=hg.rd i;split at hk;rename_i s kd n hx hi;split at hk;rename_i hT;rw[hx]at vp;rw[hi]at hiv;have hxc:=(dE vp).1;have tU:=iE hiv;cases D7:idx s n with
 |none=>rw[D7]at hk;cases hk
 |some y=>
  rw[D7]at hk;simp only[aa]at hk;obtain⟨k,rfl,hkl,hky⟩:=aU D7;have hu:=TF hE hT;have dA:(execOp a.eval o).run P w=.ok (.value (.int .u8 y.toNat)) w:=by simp[execOp,ho,hxc,tU,Instr.index,asIntOf,underlying,hu,aap,hky]
  refine⟨_,_,_,.inl dA,?_,hk⟩;exact⟨g,hg.quiet o.dst (mu ⟨rfl,rfl⟩)⟩
 cases hk;cases hk
theorem vB {o:Oper}(h:nb C st a w){K:AS->aw R}(v:Value)(c:AC)(dA:(execOp a.eval o).run P w=.ok (.value v) w)(dx:∀rc:RC,gr rc v c [])(hk:K (st.put o.dst (.one c))=some r):mJ P C o a w K r:=by obtain⟨g,hg⟩:=h;exact⟨v,w,_,.inl dA,⟨g,hg.quiet o.dst (mu (dx _))⟩,hk⟩
theorem kj (k:IntKind)(n:Int)(rc:RC):gr rc (.int k n) (.int k n) []:=⟨rfl,rfl⟩
theorem BO (b:Bool)(rc:RC):gr rc (.bool b) (.bool b) []:=⟨rfl,rfl⟩
theorem M6 (s:au UInt8)(rc:RC):gr rc (.string ⟨s.toArray⟩) (.str s) []:=⟨rfl,rfl⟩
theorem agi {o:Oper}{op:UnOp}(ho:o.op=.unOp op T x)(h:nb C st a w){K:AS->aw R}(hk:(unC op (st.rd x) λc=>K (st.put o.dst (.one c)))=some r):mJ P C o a w K r:=by obtain⟨g,hg⟩:=id h;have vp:=hg.rd x;unfold unC at hk;split at hk;rename_i b hx;rw[hx]at vp;have hv:=wz vp;exact vB h _ _ (by simp[execOp,ho,hv,Op.unary]) (BO _) hk;rename_i k n hx;rw[hx]at vp;have hv:=iE vp;exact vB h _ _ (by simp only[execOp,ho,hv,Op.unary,Op.intArith];rfl) (kj _ _) hk;rename_i k n hx;rw[hx]at vp;have hv:=iE vp;exact vB h _ _ (by simp only[execOp,ho,hv,Op.unary,Op.intBits];rfl) (kj _ _) hk;cases hk
theorem La {o:Oper}(ho:o.op=.nilCheck x)(h:nb C st a w){K:AS->aw R}{fl:qt}{e:CT}{y:e.D}{i:Int}{off:Nat}(hx:st.rd x=.val false [.Cg fl e y i off])(hk:K (st.put o.dst (.one (.Cg fl e y i off)))=some r):mJ P C o a w K r:=by
 obtain⟨g,hg⟩:=id h;have vp:=hg.rd x;rw[hx]at vp;have hc:=dE vp;have hv:∃b q,a.eval x=.pointer (some ⟨b,q,none⟩):=by
  cases fl with
  |own t=>exact hc.elim
  |nest _ _ _ _ _ _=>exact hc.elim
  |part _ _ _ _=>exact hc.elim
  |eQ _ _ _=>exact hc.elim
  |arg _=>obtain⟨_,b,q,hv,_⟩:=hc;exact⟨b,_,hv⟩
  |loc ep pv=>obtain⟨_,b,q,hv,_⟩:=hc;exact⟨b,_,hv⟩
 obtain⟨b,q,hv⟩:=hv;exact⟨.pointer (some ⟨b,q,none⟩),_,_,.inl (by simp only[execOp,ho,hv];rfl),⟨g,hg.quiet o.dst (by rw[<-hv];exact vp)⟩,hk⟩
theorem Qh {o:Oper}(ho:o.op=.nilCheck x)(h:nb C st a w){K:AS->aw R}{s off:Nat}(hx:st.rd x=.val false [.ptr s off])(hk:K (st.put o.dst (.one (.ptr s off)))=some r):mJ P C o a w K r:=by obtain⟨g,hg⟩:=id h;have vp:=hg.rd x;rw[hx]at vp;have hv:=CM vp;exact⟨.pointer (some ⟨g.β s,off,none⟩),_,_,.inl (by simp only[execOp,ho,hv];rfl),⟨g,hg.quiet o.dst (mu (x:=.ptr s off) ⟨rfl,(dE vp).2.1,rfl⟩)⟩,hk⟩
theorem abd {op:BinOp}{k:IntKind}{x y:Int}{K:AC->aw R}(hk:JL op k x y K=some r)(T:TypeId)(w:World): ∃c v,(binOp op T (.int k x) (.int k y)).run P w=.ok v w/\(∀rc:RC,gr rc v c [])/\K c=some r:=by
 cases op<;>simp only[JL]at hk<;>(try (cases hk;done))<;>simp only[binOp,ne_eq,not_true_eq_false,bV]
 case quo=>
  split at hk
  ·cases hk
  ·rename_i hy
   exact⟨_,.int k _,by simp only[Op.intDiv,hy,bV];rfl,kj _ _,hk⟩
 case rem=>
  split at hk
  ·cases hk
  ·rename_i hy
   exact⟨_,.int k _,by simp only[Op.intDiv,hy,bV];rfl,kj _ _,hk⟩
 case add=>exact⟨_,_,rfl,kj _ _,hk⟩
 case sub=>exact⟨_,_,rfl,kj _ _,hk⟩
 case mul=>exact⟨_,_,rfl,kj _ _,hk⟩
 case and=>exact⟨_,_,rfl,kj _ _,hk⟩
 case or=>exact⟨_,_,rfl,kj _ _,hk⟩
 case xor=>exact⟨_,_,rfl,kj _ _,hk⟩
 case andNot=>exact⟨_,_,rfl,kj _ _,hk⟩
 all_goals exact⟨_,_,rfl,BO _,hk⟩
theorem aak (x y:au UInt8):(ByteArray.mk x.toArray)++(ByteArray.mk y.toArray)=ByteArray.mk (x++y).toArray:=by apply ByteArray.ext;rw[ByteArray.data_append];simp
theorem acm {op:BinOp}{x y:au UInt8}{K:AC->aw R}(hk:Mn op x y K=some r)(T:TypeId)(w:World): ∃c v,(binOp op T (.string ⟨x.toArray⟩) (.string ⟨y.toArray⟩)).run P w=.ok v w/\(∀rc:RC,gr rc v c [])/\K c=some r:=by
 cases op<;>simp only[Mn]at hk<;>(try (cases hk;done))<;>simp only[binOp,Op.stringOp,toList_mk]
 case add=>
  unfold room at hk
  split at hk
  ·rename_i hle
   have hs:¬(((ByteArray.mk x.toArray).size+(ByteArray.mk y.toArray).size:Nat):Int)>IntKind.i64.max:=by
    have e1:=yn x;have e2:=yn y;rw[e1,e2];have:IntKind.i64.max=9223372036854775807:=by decide
    omega
   exact⟨_,_,by rw[aE hs,aak];rfl,M6 _,hk⟩
  ·cases hk
 all_goals exact⟨_,_,rfl,BO _,hk⟩
theorem ML (w:World)(D:Nat)(T te:TypeId)(hu:P.underlying T=some (.slice te)):(Op.equalIn (D+1) T (.slice none 0 0) (.slice none 0 0)).run P w=.ok true w:=by unfold Op.equalIn;simp only[underlying,Sem.run_bind,run_program,hu,Result.andThen_ok,Sem.run_pure];rfl
theorem Ln (w:World)(D:Nat)(T te:TypeId)(hu:P.underlying T=some (.slice te))(ad:Addr)(n k:Nat):(Op.equalIn (D+1) T (.slice (some ad) n k) (.slice none 0 0)).run P w=.ok false w:=by unfold Op.equalIn;simp only[underlying,Sem.run_bind,run_program,hu,Result.andThen_ok,Sem.run_pure]
theorem acI {E:Env}(hE:jf P E.ty)(hQ:T3 P E.eqs){o:Oper}{op:BinOp}{T':TypeId}{y:Operand}(ho:o.op=.binOp op T x y T')(h:nb C st a w){K:AS->aw R}(hk:Cc E o op T x y st K=some r):mJ P C o a w K r:=by
 obtain⟨g,hg⟩:=id h;have vp:=hg.rd x;have Q2:=hg.rd y;have fin:∀v c,(do eqGuard op T x y (a.eval x) (a.eval y);binOp op T (a.eval x) (a.eval y):Sem Value).run P w=.ok v w->(∀rc:RC,gr rc v c [])->K (st.put o.dst (.one c))=some r->mJ P C o a w K r:=by intro v c dA dx SF;refine⟨v,w,_,.inl ?_,⟨g,hg.quiet o.dst (mu (dx _))⟩,SF⟩;simp only[execOp,ho];show((do eqGuard op T x y (a.eval x) (a.eval y);binOp op T (a.eval x) (a.eval y):Sem Value)>>=λv=>pure (Next.value v)).run P w=_;rw[Sem.run_bind,dA];rfl
 have N2:∀{k k':IntKind}{p q:Int},(eqGuard op T x y (.int k p) (.int k' q)).run P w=.ok () w:=by intros;unfold eqGuard;split<;>rfl
 have ade:∀{p q:ByteArray},(eqGuard op T x y (.string p) (.string q)).run P w=.ok () w:=by intros;unfold eqGuard;split<;>rfl
 have aaI:∀{p q:Bool},(eqGuard op T x y (.bool p) (.bool q)).run P w=.ok () w:=by intros;unfold eqGuard;split<;>rfl
 unfold Cc at hk;split at hk
 ·rename_i p q hx hy;rw[hx]at vp;rw[hy]at Q2;split at hk;·rename_i hT;have hu:=ae7 hE hT;simp only[HG]at hk;cases op<;>simp only at hk<;>(try (cases hk;done));all_goals refine fin _ _ ?_ (BO _) hk;rw[wz vp,wz Q2,Sem.run_bind,aaI];simp only[Result.andThen_ok,binOp,Op.equal,Op.maxDepth,Sem.run_bind];rw[run_equalIn_bool' w 9999 T p q hu];rfl
  cases hk
 ·rename_i xs ys hx hy;rw[hx]at vp;rw[hy]at Q2;split at hk
  ·rename_i ls hT;split at hk
   ·rename_i hf;obtain⟨vs,hcx,US⟩:=vp;obtain⟨us,hcy,hry⟩:=Q2;simp only[Cut,bN]at hcx hcy;have hgd:(eqGuard op T x y (.agg vs.toArray) (.agg us.toArray)).run P w=.ok () w:=by have hgt:=(hQ T ls hT).2.2;unfold eqGuard;cases op<;>simp[hgt]
    simp only[HG]at hk;cases op<;>simp only at hk<;>(try (cases hk;done));all_goals cases he:vz xs ys with|none=>rw[he]at hk;cases hk|some b=>rw[he]at hk;simp only[aa]at hk;refine fin _ _ ?_ (BO _) hk;rw[hcx,hcy,Sem.run_bind,hgd];simp only[Result.andThen_ok,binOp,Sem.run_bind,agS hQ hT US hry hf he w];rfl
   cases hk
  cases hk
 ·rename_i fl e xs hx hy;rw[hx]at vp;rw[hy]at Q2;split at hk
  ·rename_i hT;obtain⟨hT,oM⟩:=hT;cases hs:E.sl T with
   |none=>rw[hs]at hT;cases hT
   |some e'=>
    obtain⟨te,hu,_⟩:=GK hE hs;split at hk;cases hk
    ·rename_i hlen;have ail:∃b ob n k,a.eval x=.slice (some ⟨b,ob,none⟩) n k:=by
      have hc:=dE vp;have key:∀{S:Nat->Nat->Prop},iU w S (.sl e) [a.eval x] xs->∃b ob n k,a.eval x=.slice (some ⟨b,ob,none⟩) n k:=by rintro S ⟨u,Q0,h1⟩;simp at Q0;rcases h1 with⟨_,rfl⟩|⟨b,ob,cap,hv,_⟩;simp at hlen;exact⟨b,ob,_,_,by rw[Q0];exact hv⟩
      cases fl with
      |own t=>cases oM
      |nest _ _ _ _ _ _=>cases oM
      |part _ _ _ _=>cases oM
      |eQ _ _ _=>cases oM
      |arg _=>exact key hc.2
      |loc ep pv=>
       have xl:ep=st.ep:=by simpa[qt.live]using oM
       exact key (hc.2.2.2.1 xl)
     obtain⟨b,ob,n,k,hv⟩:=ail;have hyn:=(dE Q2).1;have dA:(Op.equal T (a.eval x) (a.eval y)).run P w=.ok false w:=by rw[hv,hyn];exact Ln w 9999 T te hu _ _ _
     have hgd:(eqGuard op T x y (a.eval x) (a.eval y)).run P w=.ok () w:=by rw[hv,hyn];unfold eqGuard;split<;>rfl
     unfold Fj at hk;cases op<;>simp only at hk<;>(try (cases hk;done));all_goals refine fin _ _ ?_ (BO _) hk;rw[Sem.run_bind,hgd];rw[hv,hyn]at dA⊢;simp only[Result.andThen_ok,binOp,Sem.run_bind,dA];rfl
  cases hk
 ·rename_i hx hy;rw[hx]at vp;rw[hy]at Q2;split at hk
  ·rename_i hT;cases hs:E.sl T with
   |none=>rw[hs]at hT;cases hT
   |some e'=>
    obtain⟨te,hu,_⟩:=GK hE hs;have hxn:=(dE vp).1;have hyn:=(dE Q2).1;have dA:(Op.equal T (.slice none 0 0) (.slice none 0 0)).run P w=.ok true w:=by exact ML w 9999 T te hu
    have hgd:(eqGuard op T x y (.slice none 0 0) (.slice none 0 0)).run P w=.ok () w:=by unfold eqGuard;split<;>rfl
    unfold Fj at hk;cases op<;>simp only at hk<;>(try (cases hk;done));all_goals refine fin _ _ ?_ (BO _) hk;rw[hxn,hyn,Sem.run_bind,hgd];simp only[Result.andThen_ok,binOp,Sem.run_bind,dA];rfl
  cases hk
 rename_i va vb DW B8 hn3 hn4;unfold HG at hk;split at hk;rename_i k p k' q hx hy;rw[hx]at vp;rw[hy]at Q2;split at hk;split at hk;cases hk;rename_i hq;refine fin _ _ ?_ (kj _ _) hk;rw[iE vp,iE Q2,Sem.run_bind,N2];simp only[Result.andThen_ok,binOp,Op.shift,hq,bV];rfl;split at hk;cases hk;rename_i hq;refine fin _ _ ?_ (kj _ _) hk;rw[iE vp,iE Q2,Sem.run_bind,N2];simp only[Result.andThen_ok,binOp,Op.shift,hq,bV];rfl;split at hk;rename_i SF;subst SF;obtain⟨c,v,dA,dx,hkc⟩:=abd (P:=P) hk T w;refine fin v c ?_ dx hkc;rw[iE vp,iE Q2,Sem.run_bind,N2];exact dA;cases hk;rename_i p q hx hy;rw[hx]at vp;rw[hy]at Q2;obtain⟨c,v,dA,dx,hkc⟩:=acm (P:=P) hk T w;refine fin v c ?_ dx hkc;rw[(dE vp).1,(dE Q2).1,Sem.run_bind,ade];exact dA;rename_i p q hx hy;exact absurd hy (DW p q hx);rename_i xs ys hx hy;exact absurd hy (B8 xs ys hx);cases hk
theorem ad0 {E:Env}(hE:jf P E.ty){o:Oper}(ho:o.op=.call {callee:=.builtin .len,args,argTypes:=ts})(h:nb C st a w){K:AS->aw R}(hk:Oy E o ts.toList args.toList st K=some r):mJ P C o a w K r:=by
 obtain⟨g,hg⟩:=id h;unfold Oy at hk;split at hk;rename_i t s qH eP;obtain⟨x,hx,hxs⟩:∃x,args.toList=[x]/\st.rd x=.val false [.str s]:=by cases hl:args.toList with|nil=>rw[hl]at eP;simp at eP|cons x l=>rw[hl]at eP;simp at eP;exact⟨x,by rw[eP.2],eP.1⟩
 have ea:args=#[x]:=by apply dQ;simpa using hx
 have et:ts=#[t]:=by apply dQ;simpa using qH
 subst ea;subst et;split at hk;rename_i hT;have vp:=hg.rd x;rw[hxs]at vp;have hv:=(dE vp).1;refine vB h (.int .i64 _) _ ?_ (kj _ _) hk;simp[execOp,ho,resolve,invoke,builtin,Builtin.len_,underlying,TF hE hT,hv,goInt,yn];cases hk;rename_i t fl e xs qH eP;obtain⟨x,hx,hxs⟩:∃x,args.toList=[x]/\st.rd x=.val false [.sl fl e xs]:=by cases hl:args.toList with|nil=>rw[hl]at eP;simp at eP|cons x l=>rw[hl]at eP;simp at eP;exact⟨x,by rw[eP.2],eP.1⟩
 have ea:args=#[x]:=by apply dQ;simpa using hx
 have et:ts=#[t]:=by apply dQ;simpa using qH
 subst ea;subst et;split at hk;rename_i hT;have vp:=hg.rd x;rw[hxs]at vp;obtain⟨e',he'⟩:=Option.isSome_iff_exists.1 hT;obtain⟨te,hu,_⟩:=GK hE he';have hv:∃b cap,a.eval x=.slice b xs.length cap:=by
  have hc:=dE vp;cases fl with
  |nest _ _ _ _ _ _=>obtain⟨_,_,⟨o1,n1,k1,h1,h2⟩,_⟩:=hc;exact⟨o1,k1,by rw[h1,h2]⟩
  |part _ _ _ _=>obtain⟨_,_,⟨o1,n1,k1,h1,h2⟩,_⟩:=hc;exact⟨o1,k1,by rw[h1,h2]⟩
  |eQ _ _ _=>obtain⟨_,⟨k,_,b,o0,cap,arr,T,fr,fps,h1,_⟩,_⟩:=hc;exact⟨_,_,h1⟩
  |own t=>obtain⟨⟨u,hu,ho⟩,_⟩:=hc;simp at hu;subst hu;rcases ho with⟨⟨_,h1⟩,rfl,_⟩|⟨b,_,cap,_,_,_,_,h1,_⟩;exact⟨_,_,h1⟩;exact⟨_,_,h1⟩
  |arg _=>obtain⟨_,u,hu,ho⟩:=hc;simp at hu;subst hu;rcases ho with⟨⟨ad,h1⟩,rfl⟩|⟨b,ob,cap,h1,_⟩;exact⟨ad,0,h1⟩;exact⟨_,_,h1⟩
  |loc ep pv=>obtain⟨_,_,⟨b,n,k,h1,h2⟩,_⟩:=hc;exact⟨b,k,by rw[h1,h2]⟩
 obtain⟨b,cap,hv⟩:=hv;refine vB h (.int .i64 _) _ ?_ (kj _ _) hk;simp[execOp,ho,resolve,invoke,builtin,Builtin.len_,underlying,hu,hv,goInt];cases hk;cases hk
theorem PC {u v:AV}(h:args.toList.map st.rd=[u,v]):∃x y,args=#[x,y]/\st.rd x=u/\st.rd y=v:=by match hl:args.toList with|[]=>rw[hl]at h;simp at h|[_]=>rw[hl]at h;simp at h|[x,y]=>rw[hl]at h;simp at h;exact⟨x,y,by apply dQ;simpa using hl,h.1,h.2⟩|_::_::_::_=>rw[hl]at h;simp at h
theorem ad6 {o:Oper}(ho:o.op=.call {callee:=.builtin .min,args,argTypes:=ts})(h:nb C st a w){K:AS->aw R}(hk:Qd o args.toList st K=some r):mJ P C o a w K r:=by obtain⟨g,hg⟩:=id h;unfold Qd at hk;split at hk;rename_i k x k' y eP;obtain⟨p,q,rfl,hp,hq⟩:=PC eP;have vo:=hg.rd p;have hqv:=hg.rd q;rw[hp]at vo;rw[hq]at hqv;refine vB h (.int k _) _ ?_ (kj _ _) hk;simp[execOp,ho,resolve,invoke,builtin,Builtin.min_,Builtin.min2,iE vo,iE hqv];cases hk
theorem ad5 {o:Oper}(ho:o.op=.call {callee:=.builtin .max,args,argTypes:=ts})(h:nb C st a w){K:AS->aw R}(hk:Qc o args.toList st K=some r):mJ P C o a w K r:=by obtain⟨g,hg⟩:=id h;unfold Qc at hk;split at hk;rename_i k x k' y eP;obtain⟨p,q,rfl,hp,hq⟩:=PC eP;have vo:=hg.rd p;have hqv:=hg.rd q;rw[hp]at vo;rw[hq]at hqv;refine vB h (.int k _) _ ?_ (kj _ _) hk;simp[execOp,ho,resolve,invoke,builtin,Builtin.max_,Builtin.max2,iE vo,iE hqv];cases hk
end Go.Dn
