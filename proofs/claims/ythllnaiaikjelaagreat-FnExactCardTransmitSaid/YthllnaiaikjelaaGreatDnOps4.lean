import Derived.Test.YthllnaiaikjelaaGreatDnOps3
import Derived.Test.YthllnaiaikjelaaGreatDnEq
/- Part 4: addresses, numbers, strings, slices of slices. -/
namespace Go.Dn
open Go.RowKit
variable {P:Program} {C:Ctx} {st:AS} {a:Act} {w:World} {R:Type} {r:R}
variable {args:Array Operand} {ts:Array TypeId} {x:Operand} {T:TypeId}
theorem Xp {E:Env}(hE:iV P E.ty){o:Oper}{S:TypeId}{p:Operand}{f:Nat}(ho:o.op=.fieldAddr S p f)(h:mM C st a w){K:AS->ar R}(hk:Bk E o S p f st K=some r):mq P C o a w K r:=by
 unfold Bk at hk
 have run:∀(sh:Shape),iC E.ty S=some sh->sh.agg=true->∀fo n,nth sh.jC f=some (fo,n)->∀b off,a.eval p=.pointer (some ⟨b,off,none⟩)->
  (execOp a.eval o).run P w=.ok (.value (.pointer (some ⟨b,off+fo,none⟩))) w:=by
  intro sh hS MX fo n hf b off hv
  obtain⟨fs,hu,HP⟩:=(hE S sh hS).agg MX
  rw[dv]at hf
  obtain⟨fd,hfd,PZ,hn,i,hi,sD⟩:=HP f fo n hf
  simp only[execOp,ho,hv,Instr.fieldAt,Instr.sureAddr,underlying,Sem.run_bind,run_program,hu,Result.andThen_ok,Sem.run_pure,hfd,fieldPlace,sizeOf,typeInfo,hi,sD,PZ]
  rw[mL]
  simp[mN]
 obtain⟨g,hg⟩:=id h;have uR:=hg.rd p;split at hk;rename_i ct jC s off hS hp;split at hk;rename_i fo n hf;rw[hp]at uR;have hv:=CJ uR;have PI:=(dM uR).2.1;refine⟨_,_,_,.inl (run _ hS rfl fo n hf _ _ hv),?_,hk⟩;exact⟨g,hg.quiet o.dst (ma ⟨rfl,PI,rfl⟩)⟩;cases hk;rename_i ct jC fl e x i off hS hp;split at hk;rename_i fo n hf;rw[hp]at uR;have hc:=dM uR;cases fl with
 |own t=>exact hc.elim
 |nest _ _ _ _ _ _=>exact hc.elim
 |part _ _ _ _=>exact hc.elim
 |eS _ _ _=>exact hc.elim
 |arg _=>obtain⟨h1,b,ob,hv,h2⟩:=hc;refine⟨_,_,_,.inl (run _ hS rfl fo n hf _ _ hv),?_,hk⟩;exact⟨g,hg.quiet o.dst (ma ⟨rfl,b,ob,by rw[fg],h2⟩)⟩
 |loc ep pv=>obtain⟨h1,b,ob,hv,h2⟩:=hc;refine⟨_,_,_,.inl (run _ hS rfl fo n hf _ _ hv),?_,hk⟩;exact⟨g,hg.quiet o.dst (ma ⟨rfl,b,ob,by rw[fg],h2⟩)⟩
 cases hk;cases hk
theorem GJ {E:Env}(hE:iV P E.ty){e:CT}(h:E.sl T=some e):∃te,P.underlying T=some (.slice te)/\Ni P te e:=by unfold Env.sl at h;split at h;rename_i e' jC hT;simp at h;subst h;obtain⟨te,hu,he,_⟩:=(hE T _ hT).sl _ rfl rfl;exact⟨te,hu,he⟩;cases h
theorem Tv {E:Env}(hE:iV P E.ty)(h:E.str T=true):P.underlying T=some .string:=by unfold Env.str at h;split at h;rename_i jC hT;exact(hE T _ hT).str rfl rfl;cases h
theorem afh {E:Env}(hE:iV P E.ty)(h:E.bool T=true):P.underlying T=some .bool:=by unfold Env.bool at h;split at h;rename_i jC hT;exact(hE T _ hT).bool rfl rfl;cases h
theorem aY {α:Type}{xs:aq α}{n:Int}{y:α}(h:idx xs n=some y):∃k:Nat,n=k/\k<xs.length/\xs[k]?=some y:=by obtain⟨k,h1,h2⟩:=Oc h;exact⟨k,h1,(aD.1 h2).1,h2⟩
theorem On {E:Env}(hE:iV P E.ty){o:Oper}{i:Operand}(ho:o.op=.indexAddr T x i)(h:mM C st a w){K:AS->ar R}(hk:lY E o T x i st K=some r):mq P C o a w K r:=by
 unfold lY at hk;obtain⟨g,hg⟩:=id h;have uS:=hg.fresh (hg.rd x);have hiv:=hg.rd i;split at hk;rename_i e' fl e xs kd n hT hx hi;split at hk;rename_i hc;obtain⟨rfl,oh⟩:=hc;rw[hx]at uS;rw[hi]at hiv;have hxc:=dM uS;have uQ:=iz hiv;cases Ej:idx xs n with
 |none=>rw[Ej]at hk;cases hk
 |some y=>
  rw[Ej]at hk;simp only[aa]at hk;obtain⟨k,rfl,hkl,hky⟩:=aY Ej;obtain⟨te,hu,⟨inf,z,Dr,sD,_⟩,_⟩:=GJ hE hT;have run:∀b ob cap,a.eval x=.slice (some ⟨b,ob,none⟩) xs.length cap->(execOp a.eval o).run P w=.ok (.value (.pointer (some ⟨b,ob+k*e'.size,none⟩))) w:=by intro b ob cap hv;simp[execOp,ho,hv,uQ,Instr.indexAt,asIntOf,underlying,hu,sizeOf,typeInfo,Dr,sD,hkl,mN]
  cases fl with
  |own t=>cases oh
  |nest _ _ _ _ _ _=>cases oh
  |part _ _ _ _=>cases oh
  |eS _ _ _=>cases oh
  |arg _=>obtain⟨_,v,hv,hr⟩:=hxc;simp at hv;subst hv;rcases hr with⟨_,rfl⟩|⟨b,ob,cap,hv,_,hr⟩;simp at hky;obtain⟨cs,K7,JM⟩:=hr k y hky;refine⟨_,_,_,.inl (run b ob cap hv),?_,hk⟩;exact⟨g,hg.quiet o.dst (ma ⟨rfl,b,ob+k*e'.size,rfl,cs,K7,JM⟩)⟩
  |loc ep pv=>
   obtain⟨_,xg,_,JM,uR⟩:=hxc;have apv:ep=st.ep:=by simpa[pW.live]using oh
   obtain⟨v,hv,hr⟩:=JM apv;simp at hv;subst hv;rcases hr with⟨_,rfl⟩|⟨b,ob,cap,hv,_,hr⟩;simp at hky;obtain⟨cs,K7,adv⟩:=hr k y hky;refine⟨_,_,_,.inl (run b ob cap hv),?_,hk⟩;refine⟨g,hg.quiet o.dst (ma ⟨rfl,b,ob+k*e'.size,rfl,xg,λ_=>⟨cs,K7,adv⟩,λrt t hp=>?_⟩)⟩;obtain⟨h1,h2⟩:=uR rt t hp;exact⟨h1,k,ob,xs.length,cap,rfl,by rw[<-h2,hv],hkl,rfl⟩
 cases hk;cases hk
theorem yh (s:aq UInt8):(ByteArray.mk s.toArray).size=s.length:=by show s.toArray.size=s.length;simp
theorem aam (s:aq UInt8)(n:Nat):(ByteArray.mk s.toArray)[n]?=s[n]?:=by
 simp only[getElem?_def];by_cases h:n<s.length;have h':n<(ByteArray.mk s.toArray).size:=by rw[yh];exact h
 rw[dif_pos h',dif_pos h];rfl;have h':¬n<(ByteArray.mk s.toArray).size:=by rw[yh];exact h
 rw[dif_neg h',dif_neg h]
theorem XT {E:Env}(hE:iV P E.ty){o:Oper}{i:Operand}(ho:o.op=.index T x i)(h:mM C st a w){K:AS->ar R}(hk:CW E o T x i st K=some r):mq P C o a w K r:=by
 unfold CW at hk;obtain⟨g,hg⟩:=id h;have uS:=hg.rd x;have hiv:=hg.rd i;split at hk;rename_i s kd n hx hi;split at hk;rename_i hT;rw[hx]at uS;rw[hi]at hiv;have hxc:=(dM uS).1;have uQ:=iz hiv;cases Ej:idx s n with
 |none=>rw[Ej]at hk;cases hk
 |some y=>
  rw[Ej]at hk;simp only[aa]at hk;obtain⟨k,rfl,hkl,hky⟩:=aY Ej;have hu:=Tv hE hT;have dD:(execOp a.eval o).run P w=.ok (.value (.int .u8 y.toNat)) w:=by simp[execOp,ho,hxc,uQ,Instr.index,asIntOf,underlying,hu,aam,hky]
  refine⟨_,_,_,.inl dD,?_,hk⟩;exact⟨g,hg.quiet o.dst (ma ⟨rfl,rfl⟩)⟩
 cases hk;cases hk
theorem uZ {o:Oper}(h:mM C st a w){K:AS->ar R}(v:Value)(c:AC)(dD:(execOp a.eval o).run P w=.ok (.value v) w)(dx:∀rc:RC,gy rc v c [])(hk:K (st.put o.dst (.one c))=some r):mq P C o a w K r:=by obtain⟨g,hg⟩:=h;exact⟨v,w,_,.inl dD,⟨g,hg.quiet o.dst (ma (dx _))⟩,hk⟩
theorem jY (k:IntKind)(n:Int)(rc:RC):gy rc (.int k n) (.int k n) []:=⟨rfl,rfl⟩
theorem BU (b:Bool)(rc:RC):gy rc (.bool b) (.bool b) []:=⟨rfl,rfl⟩
theorem M8 (s:aq UInt8)(rc:RC):gy rc (.string ⟨s.toArray⟩) (.str s) []:=⟨rfl,rfl⟩
theorem ago {o:Oper}{op:UnOp}(ho:o.op=.unOp op T x)(h:mM C st a w){K:AS->ar R}(hk:(unC op (st.rd x) λc=>K (st.put o.dst (.one c)))=some r):mq P C o a w K r:=by obtain⟨g,hg⟩:=id h;have uS:=hg.rd x;unfold unC at hk;split at hk;rename_i b hx;rw[hx]at uS;have hv:=wv uS;exact uZ h _ _ (by simp[execOp,ho,hv,Op.unary]) (BU _) hk;rename_i k n hx;rw[hx]at uS;have hv:=iz uS;exact uZ h _ _ (by simp only[execOp,ho,hv,Op.unary,Op.intArith];rfl) (jY _ _) hk;rename_i k n hx;rw[hx]at uS;have hv:=iz uS;exact uZ h _ _ (by simp only[execOp,ho,hv,Op.unary,Op.intBits];rfl) (jY _ _) hk;cases hk
theorem Lr {o:Oper}(ho:o.op=.nilCheck x)(h:mM C st a w){K:AS->ar R}{fl:pW}{e:CT}{y:e.D}{i:Int}{off:Nat}(hx:st.rd x=.val false [.Cg fl e y i off])(hk:K (st.put o.dst (.one (.Cg fl e y i off)))=some r):mq P C o a w K r:=by
 obtain⟨g,hg⟩:=id h;have uS:=hg.rd x;rw[hx]at uS;have hc:=dM uS;have hv:∃b q,a.eval x=.pointer (some ⟨b,q,none⟩):=by
  cases fl with
  |own t=>exact hc.elim
  |nest _ _ _ _ _ _=>exact hc.elim
  |part _ _ _ _=>exact hc.elim
  |eS _ _ _=>exact hc.elim
  |arg _=>obtain⟨_,b,q,hv,_⟩:=hc;exact⟨b,_,hv⟩
  |loc ep pv=>obtain⟨_,b,q,hv,_⟩:=hc;exact⟨b,_,hv⟩
 obtain⟨b,q,hv⟩:=hv;exact⟨.pointer (some ⟨b,q,none⟩),_,_,.inl (by simp only[execOp,ho,hv];rfl),⟨g,hg.quiet o.dst (by rw[<-hv];exact uS)⟩,hk⟩
theorem Qe {o:Oper}(ho:o.op=.nilCheck x)(h:mM C st a w){K:AS->ar R}{s off:Nat}(hx:st.rd x=.val false [.ptr s off])(hk:K (st.put o.dst (.one (.ptr s off)))=some r):mq P C o a w K r:=by obtain⟨g,hg⟩:=id h;have uS:=hg.rd x;rw[hx]at uS;have hv:=CJ uS;exact⟨.pointer (some ⟨g.β s,off,none⟩),_,_,.inl (by simp only[execOp,ho,hv];rfl),⟨g,hg.quiet o.dst (ma (x:=.ptr s off) ⟨rfl,(dM uS).2.1,rfl⟩)⟩,hk⟩
theorem aa8 {op:BinOp}{k:IntKind}{x y:Int}{K:AC->ar R}(hk:J6 op k x y K=some r)(T:TypeId)(w:World): ∃c v,(binOp op T (.int k x) (.int k y)).run P w=.ok v w/\(∀rc:RC,gy rc v c [])/\K c=some r:=by
 cases op<;>simp only[J6]at hk<;>(try (cases hk;done))<;>simp only[binOp,ne_eq,not_true_eq_false,bV]
 case quo=>
  split at hk
  ·cases hk
  ·rename_i hy
   exact⟨_,.int k _,by simp only[Op.intDiv,hy,bV];rfl,jY _ _,hk⟩
 case rem=>
  split at hk
  ·cases hk
  ·rename_i hy
   exact⟨_,.int k _,by simp only[Op.intDiv,hy,bV];rfl,jY _ _,hk⟩
 case add=>exact⟨_,_,rfl,jY _ _,hk⟩
 case sub=>exact⟨_,_,rfl,jY _ _,hk⟩
 case mul=>exact⟨_,_,rfl,jY _ _,hk⟩
 case and=>exact⟨_,_,rfl,jY _ _,hk⟩
 case or=>exact⟨_,_,rfl,jY _ _,hk⟩
 case xor=>exact⟨_,_,rfl,jY _ _,hk⟩
 case andNot=>exact⟨_,_,rfl,jY _ _,hk⟩
 all_goals exact⟨_,_,rfl,BU _,hk⟩
theorem aai (x y:aq UInt8):(ByteArray.mk x.toArray)++(ByteArray.mk y.toArray)=ByteArray.mk (x++y).toArray:=by apply ByteArray.ext;rw[ByteArray.data_append];simp
theorem acb {op:BinOp}{x y:aq UInt8}{K:AC->ar R}(hk:Mn op x y K=some r)(T:TypeId)(w:World): ∃c v,(binOp op T (.string ⟨x.toArray⟩) (.string ⟨y.toArray⟩)).run P w=.ok v w/\(∀rc:RC,gy rc v c [])/\K c=some r:=by
 cases op<;>simp only[Mn]at hk<;>(try (cases hk;done))<;>simp only[binOp,Op.stringOp,toList_mk]
 case add=>
  unfold room at hk
  split at hk
  ·rename_i hle
   have hs:¬(((ByteArray.mk x.toArray).size+(ByteArray.mk y.toArray).size:Nat):Int)>IntKind.i64.max:=by
    have e1:=yh x;have e2:=yh y;rw[e1,e2];have:IntKind.i64.max=9223372036854775807:=by decide
    omega
   exact⟨_,_,by rw[aG hs,aai];rfl,M8 _,hk⟩
  ·cases hk
 all_goals exact⟨_,_,rfl,BU _,hk⟩
theorem ML (w:World)(D:Nat)(T te:TypeId)(hu:P.underlying T=some (.slice te)):(Op.equalIn (D+1) T (.slice none 0 0) (.slice none 0 0)).run P w=.ok true w:=by unfold Op.equalIn;simp only[underlying,Sem.run_bind,run_program,hu,Result.andThen_ok,Sem.run_pure];rfl
theorem LB (w:World)(D:Nat)(T te:TypeId)(hu:P.underlying T=some (.slice te))(ad:Addr)(n k:Nat):(Op.equalIn (D+1) T (.slice (some ad) n k) (.slice none 0 0)).run P w=.ok false w:=by unfold Op.equalIn;simp only[underlying,Sem.run_bind,run_program,hu,Result.andThen_ok,Sem.run_pure]
theorem acw {E:Env}(hE:iV P E.ty)(hQ:TR P E.eqs){o:Oper}{op:BinOp}{T':TypeId}{y:Operand}(ho:o.op=.binOp op T x y T')(h:mM C st a w){K:AS->ar R}(hk:Cb E o op T x y st K=some r):mq P C o a w K r:=by
 obtain⟨g,hg⟩:=id h;have uS:=hg.rd x;have QZ:=hg.rd y;have fin:∀v c,(do eqGuard op T x y (a.eval x) (a.eval y);binOp op T (a.eval x) (a.eval y):Sem Value).run P w=.ok v w->(∀rc:RC,gy rc v c [])->K (st.put o.dst (.one c))=some r->mq P C o a w K r:=by intro v c dD dx Sz;refine⟨v,w,_,.inl ?_,⟨g,hg.quiet o.dst (ma (dx _))⟩,Sz⟩;simp only[execOp,ho];show((do eqGuard op T x y (a.eval x) (a.eval y);binOp op T (a.eval x) (a.eval y):Sem Value)>>=λv=>pure (Next.value v)).run P w=_;rw[Sem.run_bind,dD];rfl
 have NZ:∀{k k':IntKind}{p q:Int},(eqGuard op T x y (.int k p) (.int k' q)).run P w=.ok () w:=by intros;unfold eqGuard;split<;>rfl
 have ac3:∀{p q:ByteArray},(eqGuard op T x y (.string p) (.string q)).run P w=.ok () w:=by intros;unfold eqGuard;split<;>rfl
 have aaD:∀{p q:Bool},(eqGuard op T x y (.bool p) (.bool q)).run P w=.ok () w:=by intros;unfold eqGuard;split<;>rfl
 unfold Cb at hk;split at hk
 ·rename_i p q hx hy;rw[hx]at uS;rw[hy]at QZ;split at hk;·rename_i hT;have hu:=afh hE hT;simp only[HL]at hk;cases op<;>simp only at hk<;>(try (cases hk;done));all_goals refine fin _ _ ?_ (BU _) hk;rw[wv uS,wv QZ,Sem.run_bind,aaD];simp only[Result.andThen_ok,binOp,Op.equal,Op.maxDepth,Sem.run_bind];rw[run_equalIn_bool' w 9999 T p q hu];rfl
  cases hk
 ·rename_i xs ys hx hy;rw[hx]at uS;rw[hy]at QZ;split at hk
  ·rename_i ls hT;split at hk
   ·rename_i hf;obtain⟨vs,hcx,hrx⟩:=uS;obtain⟨us,hcy,hry⟩:=QZ;simp only[Cut,bF]at hcx hcy;have hgd:(eqGuard op T x y (.agg vs.toArray) (.agg us.toArray)).run P w=.ok () w:=by have hgt:=(hQ T ls hT).2.2;unfold eqGuard;cases op<;>simp[hgt]
    simp only[HL]at hk;cases op<;>simp only at hk<;>(try (cases hk;done));all_goals cases he:uY xs ys with|none=>rw[he]at hk;cases hk|some b=>rw[he]at hk;simp only[aa]at hk;refine fin _ _ ?_ (BU _) hk;rw[hcx,hcy,Sem.run_bind,hgd];simp only[Result.andThen_ok,binOp,Sem.run_bind,ag4 hQ hT hrx hry hf he w];rfl
   cases hk
  cases hk
 ·rename_i fl e xs hx hy;rw[hx]at uS;rw[hy]at QZ;split at hk
  ·rename_i hT;obtain⟨hT,oh⟩:=hT;cases hs:E.sl T with
   |none=>rw[hs]at hT;cases hT
   |some e'=>
    obtain⟨te,hu,_⟩:=GJ hE hs;split at hk;cases hk
    ·rename_i hlen;have aiw:∃b ob n k,a.eval x=.slice (some ⟨b,ob,none⟩) n k:=by
      have hc:=dM uS;have key:∀{S:Nat->Nat->Prop},iQ w S (.sl e) [a.eval x] xs->∃b ob n k,a.eval x=.slice (some ⟨b,ob,none⟩) n k:=by rintro S ⟨u,QX,h1⟩;simp at QX;rcases h1 with⟨_,rfl⟩|⟨b,ob,cap,hv,_⟩;simp at hlen;exact⟨b,ob,_,_,by rw[QX];exact hv⟩
      cases fl with
      |own t=>cases oh
      |nest _ _ _ _ _ _=>cases oh
      |part _ _ _ _=>cases oh
      |eS _ _ _=>cases oh
      |arg _=>exact key hc.2
      |loc ep pv=>
       have xg:ep=st.ep:=by simpa[pW.live]using oh
       exact key (hc.2.2.2.1 xg)
     obtain⟨b,ob,n,k,hv⟩:=aiw;have hyn:=(dM QZ).1;have dD:(Op.equal T (a.eval x) (a.eval y)).run P w=.ok false w:=by rw[hv,hyn];exact LB w 9999 T te hu _ _ _
     have hgd:(eqGuard op T x y (a.eval x) (a.eval y)).run P w=.ok () w:=by rw[hv,hyn];unfold eqGuard;split<;>rfl
     unfold Fp at hk;cases op<;>simp only at hk<;>(try (cases hk;done));all_goals refine fin _ _ ?_ (BU _) hk;rw[Sem.run_bind,hgd];rw[hv,hyn]at dD⊢;simp only[Result.andThen_ok,binOp,Sem.run_bind,dD];rfl
  cases hk
 ·rename_i hx hy;rw[hx]at uS;rw[hy]at QZ;split at hk
  ·rename_i hT;cases hs:E.sl T with
   |none=>rw[hs]at hT;cases hT
   |some e'=>
    obtain⟨te,hu,_⟩:=GJ hE hs;have hxn:=(dM uS).1;have hyn:=(dM QZ).1;have dD:(Op.equal T (.slice none 0 0) (.slice none 0 0)).run P w=.ok true w:=by exact ML w 9999 T te hu
    have hgd:(eqGuard op T x y (.slice none 0 0) (.slice none 0 0)).run P w=.ok () w:=by unfold eqGuard;split<;>rfl
    unfold Fp at hk;cases op<;>simp only at hk<;>(try (cases hk;done));all_goals refine fin _ _ ?_ (BU _) hk;rw[hxn,hyn,Sem.run_bind,hgd];simp only[Result.andThen_ok,binOp,Sem.run_bind,dD];rfl
  cases hk
 rename_i va vb D1 B6 hn3 hn4;unfold HL at hk;split at hk;rename_i k p k' q hx hy;rw[hx]at uS;rw[hy]at QZ;split at hk;split at hk;cases hk;rename_i hq;refine fin _ _ ?_ (jY _ _) hk;rw[iz uS,iz QZ,Sem.run_bind,NZ];simp only[Result.andThen_ok,binOp,Op.shift,hq,bV];rfl;split at hk;cases hk;rename_i hq;refine fin _ _ ?_ (jY _ _) hk;rw[iz uS,iz QZ,Sem.run_bind,NZ];simp only[Result.andThen_ok,binOp,Op.shift,hq,bV];rfl;split at hk;rename_i Sz;subst Sz;obtain⟨c,v,dD,dx,hkc⟩:=aa8 (P:=P) hk T w;refine fin v c ?_ dx hkc;rw[iz uS,iz QZ,Sem.run_bind,NZ];exact dD;cases hk;rename_i p q hx hy;rw[hx]at uS;rw[hy]at QZ;obtain⟨c,v,dD,dx,hkc⟩:=acb (P:=P) hk T w;refine fin v c ?_ dx hkc;rw[(dM uS).1,(dM QZ).1,Sem.run_bind,ac3];exact dD;rename_i p q hx hy;exact absurd hy (D1 p q hx);rename_i xs ys hx hy;exact absurd hy (B6 xs ys hx);cases hk
theorem ad2 {E:Env}(hE:iV P E.ty){o:Oper}(ho:o.op=.call {callee:=.builtin .len,args,argTypes:=ts})(h:mM C st a w){K:AS->ar R}(hk:Ox E o ts.toList args.toList st K=some r):mq P C o a w K r:=by
 obtain⟨g,hg⟩:=id h;unfold Ox at hk;split at hk;rename_i t s qg eR;obtain⟨x,hx,hxs⟩:∃x,args.toList=[x]/\st.rd x=.val false [.str s]:=by cases hl:args.toList with|nil=>rw[hl]at eR;simp at eR|cons x l=>rw[hl]at eR;simp at eR;exact⟨x,by rw[eR.2],eR.1⟩
 have ea:args=#[x]:=by apply dV;simpa using hx
 have et:ts=#[t]:=by apply dV;simpa using qg
 subst ea;subst et;split at hk;rename_i hT;have uS:=hg.rd x;rw[hxs]at uS;have hv:=(dM uS).1;refine uZ h (.int .i64 _) _ ?_ (jY _ _) hk;simp[execOp,ho,resolve,invoke,builtin,Builtin.len_,underlying,Tv hE hT,hv,goInt,yh];cases hk;rename_i t fl e xs qg eR;obtain⟨x,hx,hxs⟩:∃x,args.toList=[x]/\st.rd x=.val false [.sl fl e xs]:=by cases hl:args.toList with|nil=>rw[hl]at eR;simp at eR|cons x l=>rw[hl]at eR;simp at eR;exact⟨x,by rw[eR.2],eR.1⟩
 have ea:args=#[x]:=by apply dV;simpa using hx
 have et:ts=#[t]:=by apply dV;simpa using qg
 subst ea;subst et;split at hk;rename_i hT;have uS:=hg.rd x;rw[hxs]at uS;obtain⟨e',he'⟩:=Option.isSome_iff_exists.1 hT;obtain⟨te,hu,_⟩:=GJ hE he';have hv:∃b cap,a.eval x=.slice b xs.length cap:=by
  have hc:=dM uS;cases fl with
  |nest _ _ _ _ _ _=>obtain⟨_,_,⟨o1,n1,k1,h1,h2⟩,_⟩:=hc;exact⟨o1,k1,by rw[h1,h2]⟩
  |part _ _ _ _=>obtain⟨_,_,⟨o1,n1,k1,h1,h2⟩,_⟩:=hc;exact⟨o1,k1,by rw[h1,h2]⟩
  |eS _ _ _=>obtain⟨_,⟨k,_,b,o0,cap,arr,T,fr,fps,h1,_⟩,_⟩:=hc;exact⟨_,_,h1⟩
  |own t=>obtain⟨⟨u,hu,ho⟩,_⟩:=hc;simp at hu;subst hu;rcases ho with⟨⟨_,h1⟩,rfl,_⟩|⟨b,_,cap,_,_,_,_,h1,_⟩;exact⟨_,_,h1⟩;exact⟨_,_,h1⟩
  |arg _=>obtain⟨_,u,hu,ho⟩:=hc;simp at hu;subst hu;rcases ho with⟨⟨ad,h1⟩,rfl⟩|⟨b,ob,cap,h1,_⟩;exact⟨ad,0,h1⟩;exact⟨_,_,h1⟩
  |loc ep pv=>obtain⟨_,_,⟨b,n,k,h1,h2⟩,_⟩:=hc;exact⟨b,k,by rw[h1,h2]⟩
 obtain⟨b,cap,hv⟩:=hv;refine uZ h (.int .i64 _) _ ?_ (jY _ _) hk;simp[execOp,ho,resolve,invoke,builtin,Builtin.len_,underlying,hu,hv,goInt];cases hk;cases hk
theorem Px {u v:AV}(h:args.toList.map st.rd=[u,v]):∃x y,args=#[x,y]/\st.rd x=u/\st.rd y=v:=by match hl:args.toList with|[]=>rw[hl]at h;simp at h|[_]=>rw[hl]at h;simp at h|[x,y]=>rw[hl]at h;simp at h;exact⟨x,y,by apply dV;simpa using hl,h.1,h.2⟩|_::_::_::_=>rw[hl]at h;simp at h
theorem ad8 {o:Oper}(ho:o.op=.call {callee:=.builtin .min,args,argTypes:=ts})(h:mM C st a w){K:AS->ar R}(hk:Qa o args.toList st K=some r):mq P C o a w K r:=by obtain⟨g,hg⟩:=id h;unfold Qa at hk;split at hk;rename_i k x k' y eR;obtain⟨p,q,rfl,hp,hq⟩:=Px eR;have uR:=hg.rd p;have hqv:=hg.rd q;rw[hp]at uR;rw[hq]at hqv;refine uZ h (.int k _) _ ?_ (jY _ _) hk;simp[execOp,ho,resolve,invoke,builtin,Builtin.min_,Builtin.min2,iz uR,iz hqv];cases hk
theorem ad6 {o:Oper}(ho:o.op=.call {callee:=.builtin .max,args,argTypes:=ts})(h:mM C st a w){K:AS->ar R}(hk:P9 o args.toList st K=some r):mq P C o a w K r:=by obtain⟨g,hg⟩:=id h;unfold P9 at hk;split at hk;rename_i k x k' y eR;obtain⟨p,q,rfl,hp,hq⟩:=Px eR;have uR:=hg.rd p;have hqv:=hg.rd q;rw[hp]at uR;rw[hq]at hqv;refine uZ h (.int k _) _ ?_ (jY _ _) hk;simp[execOp,ho,resolve,invoke,builtin,Builtin.max_,Builtin.max2,iz uR,iz hqv];cases hk
end Go.Dn
