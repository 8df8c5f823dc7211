import Derived.Test.YthllnaiaikjelaaGreatDnOps3
import Derived.Test.YthllnaiaikjelaaGreatDnEq
/- Part 4: addresses, numbers, strings, slices of slices. -/
namespace Go.Dn
open Go.RowKit
variable {P:Program} {C:Ctx} {st:AS} {a:Act} {w:World} {R:Type} {r:R}
variable {args:Array Operand} {ts:Array TypeId} {x:Operand} {T:TypeId}
theorem ae5 {E:Env}(hE:kA P E.ty){o:Oper}{S:TypeId}{p:Operand}{f:Nat}(ho:o.op=.fieldAddr S p f)(h:pF C st a w){K:AS->au R}(hk:Gr E o S p f st K=some r):oX P C o a w K r:=by
 unfold Gr at hk
 have run:∀(sh:Shape),jR E.ty S=some sh->sh.agg=true->∀fo n,nth sh.lA f=some (fo,n)->∀b off,a.eval p=.pointer (some ⟨b,off,none⟩)->
  (execOp a.eval o).run P w=.ok (.value (.pointer (some ⟨b,off+fo,none⟩))) w:=by
  intro sh hS TL fo n hf b off hv
  obtain⟨fs,hu,NC⟩:=(hE S sh hS).agg TL
  rw[dV]at hf
  obtain⟨fd,hfd,WU,hn,i,hi,xp⟩:=NC f fo n hf
  simp only[execOp,ho,hv,Instr.fieldAt,Instr.sureAddr,underlying,Sem.run_bind,run_program,hu,Result.andThen_ok,Sem.run_pure,hfd,fieldPlace,sizeOf,typeInfo,hi,xp,WU]
  rw[nt]
  simp[pJ]
 obtain⟨g,hg⟩:=id h;have zQ:=hg.rd p;split at hk;rename_i ct lA s off hS hp;split at hk;rename_i fo n hf;rw[hp]at zQ;have hv:=H2 zQ;have WH:=(eG zQ).2.1;refine⟨_,_,_,.inl (run _ hS rfl fo n hf _ _ hv),?_,hk⟩;exact⟨g,hg.quiet o.dst (oM ⟨rfl,WH,rfl⟩)⟩;cases hk;rename_i ct lA fl e x i off hS hp;split at hk;rename_i fo n hf;rw[hp]at zQ;have hc:=eG zQ;cases fl with
 |own t=>exact hc.elim
 |nest _ _ _ _ _ _=>exact hc.elim
 |part _ _ _ _=>exact hc.elim
 |fK _ _ _=>exact hc.elim
 |arg _=>obtain⟨h1,b,ob,hv,h2⟩:=hc;refine⟨_,_,_,.inl (run _ hS rfl fo n hf _ _ hv),?_,hk⟩;exact⟨g,hg.quiet o.dst (oM ⟨rfl,b,ob,by rw[fY],h2⟩)⟩
 |loc ep pv=>obtain⟨h1,b,ob,hv,h2⟩:=hc;refine⟨_,_,_,.inl (run _ hS rfl fo n hf _ _ hv),?_,hk⟩;exact⟨g,hg.quiet o.dst (oM ⟨rfl,b,ob,by rw[fY],h2⟩)⟩
 cases hk;cases hk
theorem Mu {E:Env}(hE:kA P E.ty){e:CT}(h:E.sl T=some e):∃te,P.underlying T=some (.slice te)/\Ub P te e:=by unfold Env.sl at h;split at h;rename_i e' lA hT;simp at h;subst h;obtain⟨te,hu,he,_⟩:=(hE T _ hT).sl _ rfl rfl;exact⟨te,hu,he⟩;cases h
theorem aaT {E:Env}(hE:kA P E.ty)(h:E.str T=true):P.underlying T=some .string:=by unfold Env.str at h;split at h;rename_i lA hT;exact(hE T _ hT).str rfl rfl;cases h
theorem an0 {E:Env}(hE:kA P E.ty)(h:E.bool T=true):P.underlying T=some .bool:=by unfold Env.bool at h;split at h;rename_i lA hT;exact(hE T _ hT).bool rfl rfl;cases h
theorem aN {α:Type}{xs:ar α}{n:Int}{y:α}(h:idx xs n=some y):∃k:Nat,n=k/\k<xs.length/\xs[k]?=some y:=by obtain⟨k,h1,h2⟩:=Vc h;exact⟨k,h1,(aJ.1 h2).1,h2⟩
theorem Vm {E:Env}(hE:kA P E.ty){o:Oper}{i:Operand}(ho:o.op=.indexAddr T x i)(h:pF C st a w){K:AS->au R}(hk:oL E o T x i st K=some r):oX P C o a w K r:=by
 unfold oL at hk;obtain⟨g,hg⟩:=id h;have zR:=hg.fresh (hg.rd x);have hiv:=hg.rd i;split at hk;rename_i e' fl e xs kd n hT hx hi;split at hk;rename_i hc;obtain⟨rfl,se⟩:=hc;rw[hx]at zR;rw[hi]at hiv;have hxc:=eG zR;have vC:=jN hiv;cases JI:idx xs n with
 |none=>rw[JI]at hk;cases hk
 |some y=>
  rw[JI]at hk;simp only[aa]at hk;obtain⟨k,rfl,hkl,hky⟩:=aN JI;obtain⟨te,hu,⟨inf,z,IT,xp,_⟩,_⟩:=Mu hE hT;have run:∀b ob cap,a.eval x=.slice (some ⟨b,ob,none⟩) xs.length cap->(execOp a.eval o).run P w=.ok (.value (.pointer (some ⟨b,ob+k*e'.size,none⟩))) w:=by intro b ob cap hv;simp[execOp,ho,hv,vC,Instr.indexAt,asIntOf,underlying,hu,sizeOf,typeInfo,IT,xp,hkl,pJ]
  cases fl with
  |own t=>cases se
  |nest _ _ _ _ _ _=>cases se
  |part _ _ _ _=>cases se
  |fK _ _ _=>cases se
  |arg _=>obtain⟨_,v,hv,hr⟩:=hxc;simp at hv;subst hv;rcases hr with⟨_,rfl⟩|⟨b,ob,cap,hv,_,hr⟩;simp at hky;obtain⟨cs,Rn,PN⟩:=hr k y hky;refine⟨_,_,_,.inl (run b ob cap hv),?_,hk⟩;exact⟨g,hg.quiet o.dst (oM ⟨rfl,b,ob+k*e'.size,rfl,cs,Rn,PN⟩)⟩
  |loc ep pv=>
   obtain⟨_,Ck,_,PN,zQ⟩:=hxc;have azz:ep=st.ep:=by simpa[uv.live]using se
   obtain⟨v,hv,hr⟩:=PN azz;simp at hv;subst hv;rcases hr with⟨_,rfl⟩|⟨b,ob,cap,hv,_,hr⟩;simp at hky;obtain⟨cs,Rn,al0⟩:=hr k y hky;refine⟨_,_,_,.inl (run b ob cap hv),?_,hk⟩;refine⟨g,hg.quiet o.dst (oM ⟨rfl,b,ob+k*e'.size,rfl,Ck,λ_=>⟨cs,Rn,al0⟩,λrt t hp=>?_⟩)⟩;obtain⟨h1,h2⟩:=zQ rt t hp;exact⟨h1,k,ob,xs.length,cap,rfl,by rw[<-h2,hv],hkl,rfl⟩
 cases hk;cases hk
theorem Du (s:ar UInt8):(ByteArray.mk s.toArray).size=s.length:=by show s.toArray.size=s.length;simp
theorem aim (s:ar UInt8)(n:Nat):(ByteArray.mk s.toArray)[n]?=s[n]?:=by
 simp only[getElem?_def];by_cases h:n<s.length;have h':n<(ByteArray.mk s.toArray).size:=by rw[Du];exact h
 rw[dif_pos h',dif_pos h];rfl;have h':¬n<(ByteArray.mk s.toArray).size:=by rw[Du];exact h
 rw[dif_neg h',dif_neg h]
theorem afA {E:Env}(hE:kA P E.ty){o:Oper}{i:Operand}(ho:o.op=.index T x i)(h:pF C st a w){K:AS->au R}(hk:Ik E o T x i st K=some r):oX P C o a w K r:=by
 unfold Ik at hk;obtain⟨g,hg⟩:=id h;have zR:=hg.rd x;have hiv:=hg.rd i;split at hk;rename_i s kd n hx hi;split at hk;rename_i hT;rw[hx]at zR;rw[hi]at hiv;have hxc:=(eG zR).1;have vC:=jN hiv;cases JI:idx s n with
 |none=>rw[JI]at hk;cases hk
 |some y=>
  rw[JI]at hk;simp only[aa]at hk;obtain⟨k,rfl,hkl,hky⟩:=aN JI;have hu:=aaT hE hT;have ej:(execOp a.eval o).run P w=.ok (.value (.int .u8 y.toNat)) w:=by simp[execOp,ho,hxc,vC,Instr.index,asIntOf,underlying,hu,aim,hky]
  refine⟨_,_,_,.inl ej,?_,hk⟩;exact⟨g,hg.quiet o.dst (oM ⟨rfl,rfl⟩)⟩
 cases hk;cases hk
theorem Ae {o:Oper}(h:pF C st a w){K:AS->au R}(v:Value)(c:AC)(ej:(execOp a.eval o).run P w=.ok (.value v) w)(dY:∀rc:RC,iA rc v c [])(hk:K (st.put o.dst (.one c))=some r):oX P C o a w K r:=by obtain⟨g,hg⟩:=h;exact⟨v,w,_,.inl ej,⟨g,hg.quiet o.dst (oM (dY _))⟩,hk⟩
theorem ma (k:IntKind)(n:Int)(rc:RC):iA rc (.int k n) (.int k n) []:=⟨rfl,rfl⟩
theorem Hd (b:Bool)(rc:RC):iA rc (.bool b) (.bool b) []:=⟨rfl,rfl⟩
theorem TW (s:ar UInt8)(rc:RC):iA rc (.string ⟨s.toArray⟩) (.str s) []:=⟨rfl,rfl⟩
theorem ape {o:Oper}{op:UnOp}(ho:o.op=.unOp op T x)(h:pF C st a w){K:AS->au R}(hk:(unC op (st.rd x) λc=>K (st.put o.dst (.one c)))=some r):oX P C o a w K r:=by obtain⟨g,hg⟩:=id h;have zR:=hg.rd x;unfold unC at hk;split at hk;rename_i b hx;rw[hx]at zR;have hv:=BB zR;exact Ae h _ _ (by simp[execOp,ho,hv,Op.unary]) (Hd _) hk;rename_i k n hx;rw[hx]at zR;have hv:=jN zR;exact Ae h _ _ (by simp only[execOp,ho,hv,Op.unary,Op.intArith];rfl) (ma _ _) hk;rename_i k n hx;rw[hx]at zR;have hv:=jN zR;exact Ae h _ _ (by simp only[execOp,ho,hv,Op.unary,Op.intBits];rfl) (ma _ _) hk;cases hk
theorem RO {o:Oper}(ho:o.op=.nilCheck x)(h:pF C st a w){K:AS->au R}{fl:uv}{e:CT}{y:e.D}{i:Int}{off:Nat}(hx:st.rd x=.val false [.Hy fl e y i off])(hk:K (st.put o.dst (.one (.Hy fl e y i off)))=some r):oX P C o a w K r:=by
 obtain⟨g,hg⟩:=id h;have zR:=hg.rd x;rw[hx]at zR;have hc:=eG zR;have hv:∃b q,a.eval x=.pointer (some ⟨b,q,none⟩):=by
  cases fl with
  |own t=>exact hc.elim
  |nest _ _ _ _ _ _=>exact hc.elim
  |part _ _ _ _=>exact hc.elim
  |fK _ _ _=>exact hc.elim
  |arg _=>obtain⟨_,b,q,hv,_⟩:=hc;exact⟨b,_,hv⟩
  |loc ep pv=>obtain⟨_,b,q,hv,_⟩:=hc;exact⟨b,_,hv⟩
 obtain⟨b,q,hv⟩:=hv;exact⟨.pointer (some ⟨b,q,none⟩),_,_,.inl (by simp only[execOp,ho,hv];rfl),⟨g,hg.quiet o.dst (by rw[<-hv];exact zR)⟩,hk⟩
theorem W9 {o:Oper}(ho:o.op=.nilCheck x)(h:pF C st a w){K:AS->au R}{s off:Nat}(hx:st.rd x=.val false [.ptr s off])(hk:K (st.put o.dst (.one (.ptr s off)))=some r):oX P C o a w K r:=by obtain⟨g,hg⟩:=id h;have zR:=hg.rd x;rw[hx]at zR;have hv:=H2 zR;exact⟨.pointer (some ⟨g.β s,off,none⟩),_,_,.inl (by simp only[execOp,ho,hv];rfl),⟨g,hg.quiet o.dst (oM (x:=.ptr s off) ⟨rfl,(eG zR).2.1,rfl⟩)⟩,hk⟩
theorem ajj {op:BinOp}{k:IntKind}{x y:Int}{K:AC->au R}(hk:Qc op k x y K=some r)(T:TypeId)(w:World): ∃c v,(binOp op T (.int k x) (.int k y)).run P w=.ok v w/\(∀rc:RC,iA rc v c [])/\K c=some r:=by
 cases op<;>simp only[Qc]at hk<;>(try (cases hk;done))<;>simp only[binOp,ne_eq,not_true_eq_false,cD]
 case quo=>
  split at hk
  ·cases hk
  ·rename_i hy
   exact⟨_,.int k _,by simp only[Op.intDiv,hy,cD];rfl,ma _ _,hk⟩
 case rem=>
  split at hk
  ·cases hk
  ·rename_i hy
   exact⟨_,.int k _,by simp only[Op.intDiv,hy,cD];rfl,ma _ _,hk⟩
 case add=>exact⟨_,_,rfl,ma _ _,hk⟩
 case sub=>exact⟨_,_,rfl,ma _ _,hk⟩
 case mul=>exact⟨_,_,rfl,ma _ _,hk⟩
 case and=>exact⟨_,_,rfl,ma _ _,hk⟩
 case or=>exact⟨_,_,rfl,ma _ _,hk⟩
 case xor=>exact⟨_,_,rfl,ma _ _,hk⟩
 case andNot=>exact⟨_,_,rfl,ma _ _,hk⟩
 all_goals exact⟨_,_,rfl,Hd _,hk⟩
theorem aih (x y:ar UInt8):(ByteArray.mk x.toArray)++(ByteArray.mk y.toArray)=ByteArray.mk (x++y).toArray:=by apply ByteArray.ext;rw[ByteArray.data_append];simp
theorem akt {op:BinOp}{x y:ar UInt8}{K:AC->au R}(hk:S2 op x y K=some r)(T:TypeId)(w:World): ∃c v,(binOp op T (.string ⟨x.toArray⟩) (.string ⟨y.toArray⟩)).run P w=.ok v w/\(∀rc:RC,iA rc v c [])/\K c=some r:=by
 cases op<;>simp only[S2]at hk<;>(try (cases hk;done))<;>simp only[binOp,Op.stringOp,toList_mk]
 case add=>
  unfold room at hk
  split at hk
  ·rename_i hle
   have hs:¬(((ByteArray.mk x.toArray).size+(ByteArray.mk y.toArray).size:Nat):Int)>IntKind.i64.max:=by
    have e1:=Du x;have e2:=Du y;rw[e1,e2];have:IntKind.i64.max=9223372036854775807:=by decide
    omega
   exact⟨_,_,by rw[aK hs,aih];rfl,TW _,hk⟩
  ·cases hk
 all_goals exact⟨_,_,rfl,Hd _,hk⟩
theorem Tv (w:World)(D:Nat)(T te:TypeId)(hu:P.underlying T=some (.slice te)):(Op.equalIn (D+1) T (.slice none 0 0) (.slice none 0 0)).run P w=.ok true w:=by unfold Op.equalIn;simp only[underlying,Sem.run_bind,run_program,hu,Result.andThen_ok,Sem.run_pure];rfl
theorem R0 (w:World)(D:Nat)(T te:TypeId)(hu:P.underlying T=some (.slice te))(ad:Addr)(n k:Nat):(Op.equalIn (D+1) T (.slice (some ad) n k) (.slice none 0 0)).run P w=.ok false w:=by unfold Op.equalIn;simp only[underlying,Sem.run_bind,run_program,hu,Result.andThen_ok,Sem.run_pure]
theorem akV {E:Env}(hE:kA P E.ty)(hQ:aa5 P E.eqs){o:Oper}{op:BinOp}{T':TypeId}{y:Operand}(ho:o.op=.binOp op T x y T')(h:pF C st a w){K:AS->au R}(hk:Hu E o op T x y st K=some r):oX P C o a w K r:=by
 obtain⟨g,hg⟩:=id h;have zR:=hg.rd x;have X6:=hg.rd y;have fin:∀v c,(do eqGuard op T x y (a.eval x) (a.eval y);binOp op T (a.eval x) (a.eval y):Sem Value).run P w=.ok v w->(∀rc:RC,iA rc v c [])->K (st.put o.dst (.one c))=some r->oX P C o a w K r:=by intro v c ej dY ZT;refine⟨v,w,_,.inl ?_,⟨g,hg.quiet o.dst (oM (dY _))⟩,ZT⟩;simp only[execOp,ho];show((do eqGuard op T x y (a.eval x) (a.eval y);binOp op T (a.eval x) (a.eval y):Sem Value)>>=λv=>pure (Next.value v)).run P w=_;rw[Sem.run_bind,ej];rfl
 have UY:∀{k k':IntKind}{p q:Int},(eqGuard op T x y (.int k p) (.int k' q)).run P w=.ok () w:=by intros;unfold eqGuard;split<;>rfl
 have alz:∀{p q:ByteArray},(eqGuard op T x y (.string p) (.string q)).run P w=.ok () w:=by intros;unfold eqGuard;split<;>rfl
 have aiJ:∀{p q:Bool},(eqGuard op T x y (.bool p) (.bool q)).run P w=.ok () w:=by intros;unfold eqGuard;split<;>rfl
 unfold Hu at hk;split at hk
 ·rename_i p q hx hy;rw[hx]at zR;rw[hy]at X6;split at hk;·rename_i hT;have hu:=an0 hE hT;simp only[Ny]at hk;cases op<;>simp only at hk<;>(try (cases hk;done));all_goals refine fin _ _ ?_ (Hd _) hk;rw[BB zR,BB X6,Sem.run_bind,aiJ];simp only[Result.andThen_ok,binOp,Op.equal,Op.maxDepth,Sem.run_bind];rw[run_equalIn_bool' w 9999 T p q hu];rfl
  cases hk
 ·rename_i xs ys hx hy;rw[hx]at zR;rw[hy]at X6;split at hk
  ·rename_i ls hT;split at hk
   ·rename_i hf;obtain⟨vs,hcx,hrx⟩:=zR;obtain⟨us,hcy,hry⟩:=X6;simp only[Cut,cd]at hcx hcy;have hgd:(eqGuard op T x y (.agg vs.toArray) (.agg us.toArray)).run P w=.ok () w:=by have hgt:=(hQ T ls hT).2.2;unfold eqGuard;cases op<;>simp[hgt]
    simp only[Ny]at hk;cases op<;>simp only at hk<;>(try (cases hk;done));all_goals cases he:Ac xs ys with|none=>rw[he]at hk;cases hk|some b=>rw[he]at hk;simp only[aa]at hk;refine fin _ _ ?_ (Hd _) hk;rw[hcx,hcy,Sem.run_bind,hgd];simp only[Result.andThen_ok,binOp,Sem.run_bind,apR hQ hT hrx hry hf he w];rfl
   cases hk
  cases hk
 ·rename_i fl e xs hx hy;rw[hx]at zR;rw[hy]at X6;split at hk
  ·rename_i hT;obtain⟨hT,se⟩:=hT;cases hs:E.sl T with
   |none=>rw[hs]at hT;cases hT
   |some e'=>
    obtain⟨te,hu,_⟩:=Mu hE hs;split at hk;cases hk
    ·rename_i hlen;have arq:∃b ob n k,a.eval x=.slice (some ⟨b,ob,none⟩) n k:=by
      have hc:=eG zR;have key:∀{S:Nat->Nat->Prop},kg w S (.sl e) [a.eval x] xs->∃b ob n k,a.eval x=.slice (some ⟨b,ob,none⟩) n k:=by rintro S ⟨u,X4,h1⟩;simp at X4;rcases h1 with⟨_,rfl⟩|⟨b,ob,cap,hv,_⟩;simp at hlen;exact⟨b,ob,_,_,by rw[X4];exact hv⟩
      cases fl with
      |own t=>cases se
      |nest _ _ _ _ _ _=>cases se
      |part _ _ _ _=>cases se
      |fK _ _ _=>cases se
      |arg _=>exact key hc.2
      |loc ep pv=>
       have Ck:ep=st.ep:=by simpa[uv.live]using se
       exact key (hc.2.2.2.1 Ck)
     obtain⟨b,ob,n,k,hv⟩:=arq;have hyn:=(eG X6).1;have ej:(Op.equal T (a.eval x) (a.eval y)).run P w=.ok false w:=by rw[hv,hyn];exact R0 w 9999 T te hu _ _ _
     have hgd:(eqGuard op T x y (a.eval x) (a.eval y)).run P w=.ok () w:=by rw[hv,hyn];unfold eqGuard;split<;>rfl
     unfold KU at hk;cases op<;>simp only at hk<;>(try (cases hk;done));all_goals refine fin _ _ ?_ (Hd _) hk;rw[Sem.run_bind,hgd];rw[hv,hyn]at ej⊢;simp only[Result.andThen_ok,binOp,Sem.run_bind,ej];rfl
  cases hk
 ·rename_i hx hy;rw[hx]at zR;rw[hy]at X6;split at hk
  ·rename_i hT;cases hs:E.sl T with
   |none=>rw[hs]at hT;cases hT
   |some e'=>
    obtain⟨te,hu,_⟩:=Mu hE hs;have hxn:=(eG zR).1;have hyn:=(eG X6).1;have ej:(Op.equal T (.slice none 0 0) (.slice none 0 0)).run P w=.ok true w:=by exact Tv w 9999 T te hu
    have hgd:(eqGuard op T x y (.slice none 0 0) (.slice none 0 0)).run P w=.ok () w:=by unfold eqGuard;split<;>rfl
    unfold KU at hk;cases op<;>simp only at hk<;>(try (cases hk;done));all_goals refine fin _ _ ?_ (Hd _) hk;rw[hxn,hyn,Sem.run_bind,hgd];simp only[Result.andThen_ok,binOp,Sem.run_bind,ej];rfl
  cases hk
 rename_i va vb Hq C1 hn3 hn4;unfold Ny at hk;split at hk;rename_i k p k' q hx hy;rw[hx]at zR;rw[hy]at X6;split at hk;split at hk;cases hk;rename_i hq;refine fin _ _ ?_ (ma _ _) hk;rw[jN zR,jN X6,Sem.run_bind,UY];simp only[Result.andThen_ok,binOp,Op.shift,hq,cD];rfl;split at hk;cases hk;rename_i hq;refine fin _ _ ?_ (ma _ _) hk;rw[jN zR,jN X6,Sem.run_bind,UY];simp only[Result.andThen_ok,binOp,Op.shift,hq,cD];rfl;split at hk;rename_i ZT;subst ZT;obtain⟨c,v,ej,dY,hkc⟩:=ajj (P:=P) hk T w;refine fin v c ?_ dY hkc;rw[jN zR,jN X6,Sem.run_bind,UY];exact ej;cases hk;rename_i p q hx hy;rw[hx]at zR;rw[hy]at X6;obtain⟨c,v,ej,dY,hkc⟩:=akt (P:=P) hk T w;refine fin v c ?_ dY hkc;rw[(eG zR).1,(eG X6).1,Sem.run_bind,alz];exact ej;rename_i p q hx hy;exact absurd hy (Hq p q hx);rename_i xs ys hx hy;exact absurd hy (C1 xs ys hx);cases hk
theorem amu {E:Env}(hE:kA P E.ty){o:Oper}(ho:o.op=.call {callee:=.builtin .len,args,argTypes:=ts})(h:pF C st a w){K:AS->au R}(hk:Vt E o ts.toList args.toList st K=some r):oX P C o a w K r:=by
 obtain⟨g,hg⟩:=id h;unfold Vt at hk;split at hk;rename_i t s uH fJ;obtain⟨x,hx,hxs⟩:∃x,args.toList=[x]/\st.rd x=.val false [.str s]:=by cases hl:args.toList with|nil=>rw[hl]at fJ;simp at fJ|cons x l=>rw[hl]at fJ;simp at fJ;exact⟨x,by rw[fJ.2],fJ.1⟩
 have ea:args=#[x]:=by apply eO;simpa using hx
 have et:ts=#[t]:=by apply eO;simpa using uH
 subst ea;subst et;split at hk;rename_i hT;have zR:=hg.rd x;rw[hxs]at zR;have hv:=(eG zR).1;refine Ae h (.int .i64 _) _ ?_ (ma _ _) hk;simp[execOp,ho,resolve,invoke,builtin,Builtin.len_,underlying,aaT hE hT,hv,goInt,Du];cases hk;rename_i t fl e xs uH fJ;obtain⟨x,hx,hxs⟩:∃x,args.toList=[x]/\st.rd x=.val false [.sl fl e xs]:=by cases hl:args.toList with|nil=>rw[hl]at fJ;simp at fJ|cons x l=>rw[hl]at fJ;simp at fJ;exact⟨x,by rw[fJ.2],fJ.1⟩
 have ea:args=#[x]:=by apply eO;simpa using hx
 have et:ts=#[t]:=by apply eO;simpa using uH
 subst ea;subst et;split at hk;rename_i hT;have zR:=hg.rd x;rw[hxs]at zR;obtain⟨e',he'⟩:=Option.isSome_iff_exists.1 hT;obtain⟨te,hu,_⟩:=Mu hE he';have hv:∃b cap,a.eval x=.slice b xs.length cap:=by
  have hc:=eG zR;cases fl with
  |nest _ _ _ _ _ _=>obtain⟨_,_,⟨o1,n1,k1,h1,h2⟩,_⟩:=hc;exact⟨o1,k1,by rw[h1,h2]⟩
  |part _ _ _ _=>obtain⟨_,_,⟨o1,n1,k1,h1,h2⟩,_⟩:=hc;exact⟨o1,k1,by rw[h1,h2]⟩
  |fK _ _ _=>obtain⟨_,⟨k,_,b,o0,cap,arr,T,fr,fps,h1,_⟩,_⟩:=hc;exact⟨_,_,h1⟩
  |own t=>obtain⟨⟨u,hu,ho⟩,_⟩:=hc;simp at hu;subst hu;rcases ho with⟨⟨_,h1⟩,rfl,_⟩|⟨b,_,cap,_,_,_,_,h1,_⟩;exact⟨_,_,h1⟩;exact⟨_,_,h1⟩
  |arg _=>obtain⟨_,u,hu,ho⟩:=hc;simp at hu;subst hu;rcases ho with⟨⟨ad,h1⟩,rfl⟩|⟨b,ob,cap,h1,_⟩;exact⟨ad,0,h1⟩;exact⟨_,_,h1⟩
  |loc ep pv=>obtain⟨_,_,⟨b,n,k,h1,h2⟩,_⟩:=hc;exact⟨b,k,by rw[h1,h2]⟩
 obtain⟨b,cap,hv⟩:=hv;refine Ae h (.int .i64 _) _ ?_ (ma _ _) hk;simp[execOp,ho,resolve,invoke,builtin,Builtin.len_,underlying,hu,hv,goInt];cases hk;cases hk
theorem Ww {u v:AV}(h:args.toList.map st.rd=[u,v]):∃x y,args=#[x,y]/\st.rd x=u/\st.rd y=v:=by match hl:args.toList with|[]=>rw[hl]at h;simp at h|[_]=>rw[hl]at h;simp at h|[x,y]=>rw[hl]at h;simp at h;exact⟨x,y,by apply eO;simpa using hl,h.1,h.2⟩|_::_::_::_=>rw[hl]at h;simp at h
theorem amB {o:Oper}(ho:o.op=.call {callee:=.builtin .min,args,argTypes:=ts})(h:pF C st a w){K:AS->au R}(hk:W5 o args.toList st K=some r):oX P C o a w K r:=by obtain⟨g,hg⟩:=id h;unfold W5 at hk;split at hk;rename_i k x k' y fJ;obtain⟨p,q,rfl,hp,hq⟩:=Ww fJ;have zQ:=hg.rd p;have hqv:=hg.rd q;rw[hp]at zQ;rw[hq]at hqv;refine Ae h (.int k _) _ ?_ (ma _ _) hk;simp[execOp,ho,resolve,invoke,builtin,Builtin.min_,Builtin.min2,jN zQ,jN hqv];cases hk
theorem amz {o:Oper}(ho:o.op=.call {callee:=.builtin .max,args,argTypes:=ts})(h:pF C st a w){K:AS->au R}(hk:W4 o args.toList st K=some r):oX P C o a w K r:=by obtain⟨g,hg⟩:=id h;unfold W4 at hk;split at hk;rename_i k x k' y fJ;obtain⟨p,q,rfl,hp,hq⟩:=Ww fJ;have zQ:=hg.rd p;have hqv:=hg.rd q;rw[hp]at zQ;rw[hq]at hqv;refine Ae h (.int k _) _ ?_ (ma _ _) hk;simp[execOp,ho,resolve,invoke,builtin,Builtin.max_,Builtin.max2,jN zQ,jN hqv];cases hk
end Go.Dn
