import Derived.Test.YthllnaiaikjelaaGreatDnOps3
import Derived.Test.YthllnaiaikjelaaGreatDnEq
/- Part 4: addresses, numbers, strings, slices of slices. -/
namespace Go.Dn
open Go.RowKit
variable {P:Program} {C:Ctx} {st:AS} {a:Act} {w:World} {R:Type} {r:R}
variable {args:Array Operand} {ts:Array TypeId} {x:Operand} {T:TypeId}
theorem afv {E:Env}(hE:kG P E.ty){o:Oper}{S:TypeId}{p:Operand}{f:Nat}(ho:o.op=.fieldAddr S p f)(h:pL C st a w){K:AS->au R}(hk:GC E o S p f st K=some r):pa P C o a w K r:=by
 unfold GC at hk
 have run:∀(sh:Shape),jU E.ty S=some sh->sh.agg=true->∀fo n,nth sh.lG f=some (fo,n)->∀b off,a.eval p=.pointer (some ⟨b,off,none⟩)->
  (execOp a.eval o).run P w=.ok (.value (.pointer (some ⟨b,off+fo,none⟩))) w:=by
  intro sh hS T8 fo n hf b off hv
  obtain⟨fs,hu,NU⟩:=(hE S sh hS).agg T8
  rw[dY]at hf
  obtain⟨fd,hfd,Xd,hn,i,hi,xx⟩:=NU f fo n hf
  simp only[execOp,ho,hv,Instr.fieldAt,Instr.sureAddr,underlying,Sem.run_bind,run_program,hu,Result.andThen_ok,Sem.run_pure,hfd,fieldPlace,sizeOf,typeInfo,hi,xx,Xd]
  rw[ny]
  simp[pO]
 obtain⟨g,hg⟩:=id h;have Ab:=hg.rd p;split at hk;rename_i ct lG s off hS hp;split at hk;rename_i fo n hf;rw[hp]at Ab;have hv:=Ik Ab;have W1:=(eI Ab).2.1;refine⟨_,_,_,.inl (run _ hS rfl fo n hf _ _ hv),?_,hk⟩;exact⟨g,hg.quiet o.dst (oP ⟨rfl,W1,rfl⟩)⟩;cases hk;rename_i ct lG fl e x i off hS hp;split at hk;rename_i fo n hf;rw[hp]at Ab;have hc:=eI Ab;cases fl with
 |own t=>exact hc.elim
 |nest _ _ _ _ _ _=>exact hc.elim
 |part _ _ _ _=>exact hc.elim
 |fL _ _ _=>exact hc.elim
 |arg _=>obtain⟨h1,b,ob,hv,h2⟩:=hc;refine⟨_,_,_,.inl (run _ hS rfl fo n hf _ _ hv),?_,hk⟩;exact⟨g,hg.quiet o.dst (oP ⟨rfl,b,ob,by rw[fZ],h2⟩)⟩
 |loc ep pv=>obtain⟨h1,b,ob,hv,h2⟩:=hc;refine⟨_,_,_,.inl (run _ hS rfl fo n hf _ _ hv),?_,hk⟩;exact⟨g,hg.quiet o.dst (oP ⟨rfl,b,ob,by rw[fZ],h2⟩)⟩
 cases hk;cases hk
theorem MN {E:Env}(hE:kG P E.ty){e:CT}(h:E.sl T=some e):∃te,P.underlying T=some (.slice te)/\Uw P te e:=by unfold Env.sl at h;split at h;rename_i e' lG hT;simp at h;subst h;obtain⟨te,hu,he,_⟩:=(hE T _ hT).sl _ rfl rfl;exact⟨te,hu,he⟩;cases h
theorem abe {E:Env}(hE:kG P E.ty)(h:E.str T=true):P.underlying T=some .string:=by unfold Env.str at h;split at h;rename_i lG hT;exact(hE T _ hT).str rfl rfl;cases h
theorem aop {E:Env}(hE:kG P E.ty)(h:E.bool T=true):P.underlying T=some .bool:=by unfold Env.bool at h;split at h;rename_i lG hT;exact(hE T _ hT).bool rfl rfl;cases h
theorem aN {α:Type}{xs:ar α}{n:Int}{y:α}(h:idx xs n=some y):∃k:Nat,n=k/\k<xs.length/\xs[k]?=some y:=by obtain⟨k,h1,h2⟩:=Vw h;exact⟨k,h1,(aJ.1 h2).1,h2⟩
theorem VG {E:Env}(hE:kG P E.ty){o:Oper}{i:Operand}(ho:o.op=.indexAddr T x i)(h:pL C st a w){K:AS->au R}(hk:oO E o T x i st K=some r):pa P C o a w K r:=by
 unfold oO at hk;obtain⟨g,hg⟩:=id h;have Ac:=hg.fresh (hg.rd x);have hiv:=hg.rd i;split at hk;rename_i e' fl e xs kd n hT hx hi;split at hk;rename_i hc;obtain⟨rfl,sj⟩:=hc;rw[hx]at Ac;rw[hi]at hiv;have hxc:=eI Ac;have vG:=jQ hiv;cases JY:idx xs n with
 |none=>rw[JY]at hk;cases hk
 |some y=>
  rw[JY]at hk;simp only[aa]at hk;obtain⟨k,rfl,hkl,hky⟩:=aN JY;obtain⟨te,hu,⟨inf,z,Ja,xx,_⟩,_⟩:=MN hE hT;have run:∀b ob cap,a.eval x=.slice (some ⟨b,ob,none⟩) xs.length cap->(execOp a.eval o).run P w=.ok (.value (.pointer (some ⟨b,ob+k*e'.size,none⟩))) w:=by intro b ob cap hv;simp[execOp,ho,hv,vG,Instr.indexAt,asIntOf,underlying,hu,sizeOf,typeInfo,Ja,xx,hkl,pO]
  cases fl with
  |own t=>cases sj
  |nest _ _ _ _ _ _=>cases sj
  |part _ _ _ _=>cases sj
  |fL _ _ _=>cases sj
  |arg _=>obtain⟨_,v,hv,hr⟩:=hxc;simp at hv;subst hv;rcases hr with⟨_,rfl⟩|⟨b,ob,cap,hv,_,hr⟩;simp at hky;obtain⟨cs,RJ,P8⟩:=hr k y hky;refine⟨_,_,_,.inl (run b ob cap hv),?_,hk⟩;exact⟨g,hg.quiet o.dst (oP ⟨rfl,b,ob+k*e'.size,rfl,cs,RJ,P8⟩)⟩
  |loc ep pv=>
   obtain⟨_,Cw,_,P8,Ab⟩:=hxc;have az1:ep=st.ep:=by simpa[ux.live]using sj
   obtain⟨v,hv,hr⟩:=P8 az1;simp at hv;subst hv;rcases hr with⟨_,rfl⟩|⟨b,ob,cap,hv,_,hr⟩;simp at hky;obtain⟨cs,RJ,amp⟩:=hr k y hky;refine⟨_,_,_,.inl (run b ob cap hv),?_,hk⟩;refine⟨g,hg.quiet o.dst (oP ⟨rfl,b,ob+k*e'.size,rfl,Cw,λ_=>⟨cs,RJ,amp⟩,λrt t hp=>?_⟩)⟩;obtain⟨h1,h2⟩:=Ab rt t hp;exact⟨h1,k,ob,xs.length,cap,rfl,by rw[<-h2,hv],hkl,rfl⟩
 cases hk;cases hk
theorem DG (s:ar UInt8):(ByteArray.mk s.toArray).size=s.length:=by show s.toArray.size=s.length;simp
theorem aiL (s:ar UInt8)(n:Nat):(ByteArray.mk s.toArray)[n]?=s[n]?:=by
 simp only[getElem?_def];by_cases h:n<s.length;have h':n<(ByteArray.mk s.toArray).size:=by rw[DG];exact h
 rw[dif_pos h',dif_pos h];rfl;have h':¬n<(ByteArray.mk s.toArray).size:=by rw[DG];exact h
 rw[dif_neg h',dif_neg h]
theorem af0 {E:Env}(hE:kG P E.ty){o:Oper}{i:Operand}(ho:o.op=.index T x i)(h:pL C st a w){K:AS->au R}(hk:ID E o T x i st K=some r):pa P C o a w K r:=by
 unfold ID at hk;obtain⟨g,hg⟩:=id h;have Ac:=hg.rd x;have hiv:=hg.rd i;split at hk;rename_i s kd n hx hi;split at hk;rename_i hT;rw[hx]at Ac;rw[hi]at hiv;have hxc:=(eI Ac).1;have vG:=jQ hiv;cases JY:idx s n with
 |none=>rw[JY]at hk;cases hk
 |some y=>
  rw[JY]at hk;simp only[aa]at hk;obtain⟨k,rfl,hkl,hky⟩:=aN JY;have hu:=abe hE hT;have ez:(execOp a.eval o).run P w=.ok (.value (.int .u8 y.toNat)) w:=by simp[execOp,ho,hxc,vG,Instr.index,asIntOf,underlying,hu,aiL,hky]
  refine⟨_,_,_,.inl ez,?_,hk⟩;exact⟨g,hg.quiet o.dst (oP ⟨rfl,rfl⟩)⟩
 cases hk;cases hk
theorem Ap {o:Oper}(h:pL C st a w){K:AS->au R}(v:Value)(c:AC)(ez:(execOp a.eval o).run P w=.ok (.value v) w)(ee:∀rc:RC,iD rc v c [])(hk:K (st.put o.dst (.one c))=some r):pa P C o a w K r:=by obtain⟨g,hg⟩:=h;exact⟨v,w,_,.inl ez,⟨g,hg.quiet o.dst (oP (ee _))⟩,hk⟩
theorem mh (k:IntKind)(n:Int)(rc:RC):iD rc (.int k n) (.int k n) []:=⟨rfl,rfl⟩
theorem Hr (b:Bool)(rc:RC):iD rc (.bool b) (.bool b) []:=⟨rfl,rfl⟩
theorem Ui (s:ar UInt8)(rc:RC):iD rc (.string ⟨s.toArray⟩) (.str s) []:=⟨rfl,rfl⟩
theorem apD {o:Oper}{op:UnOp}(ho:o.op=.unOp op T x)(h:pL C st a w){K:AS->au R}(hk:(unC op (st.rd x) λc=>K (st.put o.dst (.one c)))=some r):pa P C o a w K r:=by obtain⟨g,hg⟩:=id h;have Ac:=hg.rd x;unfold unC at hk;split at hk;rename_i b hx;rw[hx]at Ac;have hv:=BM Ac;exact Ap h _ _ (by simp[execOp,ho,hv,Op.unary]) (Hr _) hk;rename_i k n hx;rw[hx]at Ac;have hv:=jQ Ac;exact Ap h _ _ (by simp only[execOp,ho,hv,Op.unary,Op.intArith];rfl) (mh _ _) hk;rename_i k n hx;rw[hx]at Ac;have hv:=jQ Ac;exact Ap h _ _ (by simp only[execOp,ho,hv,Op.unary,Op.intBits];rfl) (mh _ _) hk;cases hk
theorem R9 {o:Oper}(ho:o.op=.nilCheck x)(h:pL C st a w){K:AS->au R}{fl:ux}{e:CT}{y:e.D}{i:Int}{off:Nat}(hx:st.rd x=.val false [.HM fl e y i off])(hk:K (st.put o.dst (.one (.HM fl e y i off)))=some r):pa P C o a w K r:=by
 obtain⟨g,hg⟩:=id h;have Ac:=hg.rd x;rw[hx]at Ac;have hc:=eI Ac;have hv:∃b q,a.eval x=.pointer (some ⟨b,q,none⟩):=by
  cases fl with
  |own t=>exact hc.elim
  |nest _ _ _ _ _ _=>exact hc.elim
  |part _ _ _ _=>exact hc.elim
  |fL _ _ _=>exact hc.elim
  |arg _=>obtain⟨_,b,q,hv,_⟩:=hc;exact⟨b,_,hv⟩
  |loc ep pv=>obtain⟨_,b,q,hv,_⟩:=hc;exact⟨b,_,hv⟩
 obtain⟨b,q,hv⟩:=hv;exact⟨.pointer (some ⟨b,q,none⟩),_,_,.inl (by simp only[execOp,ho,hv];rfl),⟨g,hg.quiet o.dst (by rw[<-hv];exact Ac)⟩,hk⟩
theorem Xs {o:Oper}(ho:o.op=.nilCheck x)(h:pL C st a w){K:AS->au R}{s off:Nat}(hx:st.rd x=.val false [.ptr s off])(hk:K (st.put o.dst (.one (.ptr s off)))=some r):pa P C o a w K r:=by obtain⟨g,hg⟩:=id h;have Ac:=hg.rd x;rw[hx]at Ac;have hv:=Ik Ac;exact⟨.pointer (some ⟨g.β s,off,none⟩),_,_,.inl (by simp only[execOp,ho,hv];rfl),⟨g,hg.quiet o.dst (oP (x:=.ptr s off) ⟨rfl,(eI Ac).2.1,rfl⟩)⟩,hk⟩
theorem ajH {op:BinOp}{k:IntKind}{x y:Int}{K:AC->au R}(hk:Qu op k x y K=some r)(T:TypeId)(w:World): ∃c v,(binOp op T (.int k x) (.int k y)).run P w=.ok v w/\(∀rc:RC,iD rc v c [])/\K c=some r:=by
 cases op<;>simp only[Qu]at hk<;>(try (cases hk;done))<;>simp only[binOp,ne_eq,not_true_eq_false,cE]
 case quo=>
  split at hk
  ·cases hk
  ·rename_i hy
   exact⟨_,.int k _,by simp only[Op.intDiv,hy,cE];rfl,mh _ _,hk⟩
 case rem=>
  split at hk
  ·cases hk
  ·rename_i hy
   exact⟨_,.int k _,by simp only[Op.intDiv,hy,cE];rfl,mh _ _,hk⟩
 case add=>exact⟨_,_,rfl,mh _ _,hk⟩
 case sub=>exact⟨_,_,rfl,mh _ _,hk⟩
 case mul=>exact⟨_,_,rfl,mh _ _,hk⟩
 case and=>exact⟨_,_,rfl,mh _ _,hk⟩
 case or=>exact⟨_,_,rfl,mh _ _,hk⟩
 case xor=>exact⟨_,_,rfl,mh _ _,hk⟩
 case andNot=>exact⟨_,_,rfl,mh _ _,hk⟩
 all_goals exact⟨_,_,rfl,Hr _,hk⟩
theorem aiG (x y:ar UInt8):(ByteArray.mk x.toArray)++(ByteArray.mk y.toArray)=ByteArray.mk (x++y).toArray:=by apply ByteArray.ext;rw[ByteArray.data_append];simp
theorem akR {op:BinOp}{x y:ar UInt8}{K:AC->au R}(hk:Tm op x y K=some r)(T:TypeId)(w:World): ∃c v,(binOp op T (.string ⟨x.toArray⟩) (.string ⟨y.toArray⟩)).run P w=.ok v w/\(∀rc:RC,iD rc v c [])/\K c=some r:=by
 cases op<;>simp only[Tm]at hk<;>(try (cases hk;done))<;>simp only[binOp,Op.stringOp,toList_mk]
 case add=>
  unfold room at hk
  split at hk
  ·rename_i hle
   have hs:¬(((ByteArray.mk x.toArray).size+(ByteArray.mk y.toArray).size:Nat):Int)>IntKind.i64.max:=by
    have e1:=DG x;have e2:=DG y;rw[e1,e2];have:IntKind.i64.max=9223372036854775807:=by decide
    omega
   exact⟨_,_,by rw[aK hs,aiG];rfl,Ui _,hk⟩
  ·cases hk
 all_goals exact⟨_,_,rfl,Hr _,hk⟩
theorem TR (w:World)(D:Nat)(T te:TypeId)(hu:P.underlying T=some (.slice te)):(Op.equalIn (D+1) T (.slice none 0 0) (.slice none 0 0)).run P w=.ok true w:=by unfold Op.equalIn;simp only[underlying,Sem.run_bind,run_program,hu,Result.andThen_ok,Sem.run_pure];rfl
theorem Sl (w:World)(D:Nat)(T te:TypeId)(hu:P.underlying T=some (.slice te))(ad:Addr)(n k:Nat):(Op.equalIn (D+1) T (.slice (some ad) n k) (.slice none 0 0)).run P w=.ok false w:=by unfold Op.equalIn;simp only[underlying,Sem.run_bind,run_program,hu,Result.andThen_ok,Sem.run_pure]
theorem alk {E:Env}(hE:kG P E.ty)(hQ:abq P E.eqs){o:Oper}{op:BinOp}{T':TypeId}{y:Operand}(ho:o.op=.binOp op T x y T')(h:pL C st a w){K:AS->au R}(hk:HI E o op T x y st K=some r):pa P C o a w K r:=by
 obtain⟨g,hg⟩:=id h;have Ac:=hg.rd x;have Yr:=hg.rd y;have fin:∀v c,(do eqGuard op T x y (a.eval x) (a.eval y);binOp op T (a.eval x) (a.eval y):Sem Value).run P w=.ok v w->(∀rc:RC,iD rc v c [])->K (st.put o.dst (.one c))=some r->pa P C o a w K r:=by intro v c ez ee hkk;refine⟨v,w,_,.inl ?_,⟨g,hg.quiet o.dst (oP (ee _))⟩,hkk⟩;simp only[execOp,ho];show((do eqGuard op T x y (a.eval x) (a.eval y);binOp op T (a.eval x) (a.eval y):Sem Value)>>=λv=>pure (Next.value v)).run P w=_;rw[Sem.run_bind,ez];rfl
 have Vj:∀{k k':IntKind}{p q:Int},(eqGuard op T x y (.int k p) (.int k' q)).run P w=.ok () w:=by intros;unfold eqGuard;split<;>rfl
 have alY:∀{p q:ByteArray},(eqGuard op T x y (.string p) (.string q)).run P w=.ok () w:=by intros;unfold eqGuard;split<;>rfl
 have ai7:∀{p q:Bool},(eqGuard op T x y (.bool p) (.bool q)).run P w=.ok () w:=by intros;unfold eqGuard;split<;>rfl
 unfold HI at hk;split at hk
 ·rename_i p q hx hy;rw[hx]at Ac;rw[hy]at Yr;split at hk;·rename_i hT;have hu:=aop hE hT;simp only[NQ]at hk;cases op<;>simp only at hk<;>(try (cases hk;done));all_goals refine fin _ _ ?_ (Hr _) hk;rw[BM Ac,BM Yr,Sem.run_bind,ai7];simp only[Result.andThen_ok,binOp,Op.equal,Op.maxDepth,Sem.run_bind];rw[run_equalIn_bool' w 9999 T p q hu];rfl
  cases hk
 ·rename_i xs ys hx hy;rw[hx]at Ac;rw[hy]at Yr;split at hk
  ·rename_i ls hT;split at hk
   ·rename_i hf;obtain⟨vs,hcx,hrx⟩:=Ac;obtain⟨us,hcy,hry⟩:=Yr;simp only[Cut,cd]at hcx hcy;have hgd:(eqGuard op T x y (.agg vs.toArray) (.agg us.toArray)).run P w=.ok () w:=by have hgt:=(hQ T ls hT).2.2;unfold eqGuard;cases op<;>simp[hgt]
    simp only[NQ]at hk;cases op<;>simp only at hk<;>(try (cases hk;done));all_goals cases he:Am xs ys with|none=>rw[he]at hk;cases hk|some b=>rw[he]at hk;simp only[aa]at hk;refine fin _ _ ?_ (Hr _) hk;rw[hcx,hcy,Sem.run_bind,hgd];simp only[Result.andThen_ok,binOp,Sem.run_bind,aqh hQ hT hrx hry hf he w];rfl
   cases hk
  cases hk
 ·rename_i fl e xs hx hy;rw[hx]at Ac;rw[hy]at Yr;split at hk
  ·rename_i hT;obtain⟨hT,sj⟩:=hT;cases hs:E.sl T with
   |none=>rw[hs]at hT;cases hT
   |some e'=>
    obtain⟨te,hu,_⟩:=MN hE hs;split at hk;cases hk
    ·rename_i hlen;have arR:∃b ob n k,a.eval x=.slice (some ⟨b,ob,none⟩) n k:=by
      have hc:=eI Ac;have key:∀{S:Nat->Nat->Prop},km w S (.sl e) [a.eval x] xs->∃b ob n k,a.eval x=.slice (some ⟨b,ob,none⟩) n k:=by rintro S ⟨u,Yp,h1⟩;simp at Yp;rcases h1 with⟨_,rfl⟩|⟨b,ob,cap,hv,_⟩;simp at hlen;exact⟨b,ob,_,_,by rw[Yp];exact hv⟩
      cases fl with
      |own t=>cases sj
      |nest _ _ _ _ _ _=>cases sj
      |part _ _ _ _=>cases sj
      |fL _ _ _=>cases sj
      |arg _=>exact key hc.2
      |loc ep pv=>
       have Cw:ep=st.ep:=by simpa[ux.live]using sj
       exact key (hc.2.2.2.1 Cw)
     obtain⟨b,ob,n,k,hv⟩:=arR;have hyn:=(eI Yr).1;have ez:(Op.equal T (a.eval x) (a.eval y)).run P w=.ok false w:=by rw[hv,hyn];exact Sl w 9999 T te hu _ _ _
     have hgd:(eqGuard op T x y (a.eval x) (a.eval y)).run P w=.ok () w:=by rw[hv,hyn];unfold eqGuard;split<;>rfl
     unfold Lc at hk;cases op<;>simp only at hk<;>(try (cases hk;done));all_goals refine fin _ _ ?_ (Hr _) hk;rw[Sem.run_bind,hgd];rw[hv,hyn]at ez⊢;simp only[Result.andThen_ok,binOp,Sem.run_bind,ez];rfl
  cases hk
 ·rename_i hx hy;rw[hx]at Ac;rw[hy]at Yr;split at hk
  ·rename_i hT;cases hs:E.sl T with
   |none=>rw[hs]at hT;cases hT
   |some e'=>
    obtain⟨te,hu,_⟩:=MN hE hs;have hxn:=(eI Ac).1;have hyn:=(eI Yr).1;have ez:(Op.equal T (.slice none 0 0) (.slice none 0 0)).run P w=.ok true w:=by exact TR w 9999 T te hu
    have hgd:(eqGuard op T x y (.slice none 0 0) (.slice none 0 0)).run P w=.ok () w:=by unfold eqGuard;split<;>rfl
    unfold Lc at hk;cases op<;>simp only at hk<;>(try (cases hk;done));all_goals refine fin _ _ ?_ (Hr _) hk;rw[hxn,hyn,Sem.run_bind,hgd];simp only[Result.andThen_ok,binOp,Sem.run_bind,ez];rfl
  cases hk
 rename_i va vb HE Dc hn3 hn4;unfold NQ at hk;split at hk;rename_i k p k' q hx hy;rw[hx]at Ac;rw[hy]at Yr;split at hk;split at hk;cases hk;rename_i hq;refine fin _ _ ?_ (mh _ _) hk;rw[jQ Ac,jQ Yr,Sem.run_bind,Vj];simp only[Result.andThen_ok,binOp,Op.shift,hq,cE];rfl;split at hk;cases hk;rename_i hq;refine fin _ _ ?_ (mh _ _) hk;rw[jQ Ac,jQ Yr,Sem.run_bind,Vj];simp only[Result.andThen_ok,binOp,Op.shift,hq,cE];rfl;split at hk;rename_i hkk;subst hkk;obtain⟨c,v,ez,ee,hkc⟩:=ajH (P:=P) hk T w;refine fin v c ?_ ee hkc;rw[jQ Ac,jQ Yr,Sem.run_bind,Vj];exact ez;cases hk;rename_i p q hx hy;rw[hx]at Ac;rw[hy]at Yr;obtain⟨c,v,ez,ee,hkc⟩:=akR (P:=P) hk T w;refine fin v c ?_ ee hkc;rw[(eI Ac).1,(eI Yr).1,Sem.run_bind,alY];exact ez;rename_i p q hx hy;exact absurd hy (HE p q hx);rename_i xs ys hx hy;exact absurd hy (Dc xs ys hx);cases hk
theorem amT {E:Env}(hE:kG P E.ty){o:Oper}(ho:o.op=.call {callee:=.builtin .len,args,argTypes:=ts})(h:pL C st a w){K:AS->au R}(hk:VN E o ts.toList args.toList st K=some r):pa P C o a w K r:=by
 obtain⟨g,hg⟩:=id h;unfold VN at hk;split at hk;rename_i t s uJ fK;obtain⟨x,hx,hxs⟩:∃x,args.toList=[x]/\st.rd x=.val false [.str s]:=by cases hl:args.toList with|nil=>rw[hl]at fK;simp at fK|cons x l=>rw[hl]at fK;simp at fK;exact⟨x,by rw[fK.2],fK.1⟩
 have ea:args=#[x]:=by apply eQ;simpa using hx
 have et:ts=#[t]:=by apply eQ;simpa using uJ
 subst ea;subst et;split at hk;rename_i hT;have Ac:=hg.rd x;rw[hxs]at Ac;have hv:=(eI Ac).1;refine Ap h (.int .i64 _) _ ?_ (mh _ _) hk;simp[execOp,ho,resolve,invoke,builtin,Builtin.len_,underlying,abe hE hT,hv,goInt,DG];cases hk;rename_i t fl e xs uJ fK;obtain⟨x,hx,hxs⟩:∃x,args.toList=[x]/\st.rd x=.val false [.sl fl e xs]:=by cases hl:args.toList with|nil=>rw[hl]at fK;simp at fK|cons x l=>rw[hl]at fK;simp at fK;exact⟨x,by rw[fK.2],fK.1⟩
 have ea:args=#[x]:=by apply eQ;simpa using hx
 have et:ts=#[t]:=by apply eQ;simpa using uJ
 subst ea;subst et;split at hk;rename_i hT;have Ac:=hg.rd x;rw[hxs]at Ac;obtain⟨e',he'⟩:=Option.isSome_iff_exists.1 hT;obtain⟨te,hu,_⟩:=MN hE he';have hv:∃b cap,a.eval x=.slice b xs.length cap:=by
  have hc:=eI Ac;cases fl with
  |nest _ _ _ _ _ _=>obtain⟨_,_,⟨o1,n1,k1,h1,h2⟩,_⟩:=hc;exact⟨o1,k1,by rw[h1,h2]⟩
  |part _ _ _ _=>obtain⟨_,_,⟨o1,n1,k1,h1,h2⟩,_⟩:=hc;exact⟨o1,k1,by rw[h1,h2]⟩
  |fL _ _ _=>obtain⟨_,⟨k,_,b,o0,cap,arr,T,fr,fps,h1,_⟩,_⟩:=hc;exact⟨_,_,h1⟩
  |own t=>obtain⟨⟨u,hu,ho⟩,_⟩:=hc;simp at hu;subst hu;rcases ho with⟨⟨_,h1⟩,rfl,_⟩|⟨b,_,cap,_,_,_,_,h1,_⟩;exact⟨_,_,h1⟩;exact⟨_,_,h1⟩
  |arg _=>obtain⟨_,u,hu,ho⟩:=hc;simp at hu;subst hu;rcases ho with⟨⟨ad,h1⟩,rfl⟩|⟨b,ob,cap,h1,_⟩;exact⟨ad,0,h1⟩;exact⟨_,_,h1⟩
  |loc ep pv=>obtain⟨_,_,⟨b,n,k,h1,h2⟩,_⟩:=hc;exact⟨b,k,by rw[h1,h2]⟩
 obtain⟨b,cap,hv⟩:=hv;refine Ap h (.int .i64 _) _ ?_ (mh _ _) hk;simp[execOp,ho,resolve,invoke,builtin,Builtin.len_,underlying,hu,hv,goInt];cases hk;cases hk
theorem WR {u v:AV}(h:args.toList.map st.rd=[u,v]):∃x y,args=#[x,y]/\st.rd x=u/\st.rd y=v:=by match hl:args.toList with|[]=>rw[hl]at h;simp at h|[_]=>rw[hl]at h;simp at h|[x,y]=>rw[hl]at h;simp at h;exact⟨x,y,by apply eQ;simpa using hl,h.1,h.2⟩|_::_::_::_=>rw[hl]at h;simp at h
theorem am0 {o:Oper}(ho:o.op=.call {callee:=.builtin .min,args,argTypes:=ts})(h:pL C st a w){K:AS->au R}(hk:Xo o args.toList st K=some r):pa P C o a w K r:=by obtain⟨g,hg⟩:=id h;unfold Xo at hk;split at hk;rename_i k x k' y fK;obtain⟨p,q,rfl,hp,hq⟩:=WR fK;have Ab:=hg.rd p;have hqv:=hg.rd q;rw[hp]at Ab;rw[hq]at hqv;refine Ap h (.int k _) _ ?_ (mh _ _) hk;simp[execOp,ho,resolve,invoke,builtin,Builtin.min_,Builtin.min2,jQ Ab,jQ hqv];cases hk
theorem amY {o:Oper}(ho:o.op=.call {callee:=.builtin .max,args,argTypes:=ts})(h:pL C st a w){K:AS->au R}(hk:Xn o args.toList st K=some r):pa P C o a w K r:=by obtain⟨g,hg⟩:=id h;unfold Xn at hk;split at hk;rename_i k x k' y fK;obtain⟨p,q,rfl,hp,hq⟩:=WR fK;have Ab:=hg.rd p;have hqv:=hg.rd q;rw[hp]at Ab;rw[hq]at hqv;refine Ap h (.int k _) _ ?_ (mh _ _) hk;simp[execOp,ho,resolve,invoke,builtin,Builtin.max_,Builtin.max2,jQ Ab,jQ hqv];cases hk
end Go.Dn
