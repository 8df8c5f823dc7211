import Derived.Test.YtnmppgnbjfdffaaGreatDnOps3
import Derived.Test.YtnmppgnbjfdffaaGreatDnEq
/- Part 4: addresses, numbers, strings, slices of slices. -/
namespace Go.Dn
open Go.RowKit
variable {P:Program} {C:Ctx} {st:AS} {a:Act} {w:World} {R:Type} {r:R}
variable {args:Array Operand} {ts:Array TypeId} {x:Operand} {T:TypeId}
theorem W2 {E:Env}(hE:jX P E.ty){o:Oper}{S:TypeId}{p:Operand}{f:Nat}(ho:o.op=.fieldAddr S p f)(h:oE C st a w){K:AS->aC R}(hk:zT E o S p f st K=some r):nm P C o a w K r:=by
 unfold zT at hk
 have run:∀(sh:Shape),jN E.ty S=some sh->sh.agg=true->∀fo n,nth sh.kE f=some (fo,n)->∀b off,a.eval p=.pointer (some ⟨b,off,none⟩)->
  (execOp a.eval o).run P w=.ok (.value (.pointer (some ⟨b,off+fo,none⟩))) w:=by
  intro sh hS Lg fo n hf b off hv
  obtain⟨fs,hu,GP⟩:=(hE S sh hS).agg Lg
  rw[eH]at hf
  obtain⟨fd,hfd,Ov,hn,i,hi,uL⟩:=GP f fo n hf
  simp only[execOp,ho,hv,Instr.fieldAt,Instr.sureAddr,underlying,Sem.run_bind,run_program,hu,Result.andThen_ok,Sem.run_pure,hfd,fieldPlace,sizeOf,typeInfo,hi,uL,Ov]
  rw[kl]
  simp[nK]
 obtain⟨g,hg⟩:=id h;have uK:=hg.rd p;split at hk;rename_i ct kE s off hS hp;split at hk;rename_i fo n hf;rw[hp]at uK;have hv:=Bk uK;have hpr:=(fi uK).2.1;refine⟨_,_,_,.inl (run _ hS rfl fo n hf _ _ hv),?_,hk⟩;exact⟨g,hg.quiet o.dst (mZ ⟨rfl,hpr,rfl⟩)⟩;cases hk;rename_i ct kE fl e x i off hS hp;split at hk;rename_i fo n hf;rw[hp]at uK;have hc:=fi uK;cases fl with
 |own t=>exact hc.elim
 |nest _ _ _ _ _ _=>exact hc.elim
 |part _ _ _ _=>exact hc.elim
 |gj _ _ _=>exact hc.elim
 |arg _=>obtain⟨h1,b,ob,hv,h2⟩:=hc;refine⟨_,_,_,.inl (run _ hS rfl fo n hf _ _ hv),?_,hk⟩;exact⟨g,hg.quiet o.dst (mZ ⟨rfl,b,ob,by rw[fV],h2⟩)⟩
 |loc ep pv=>obtain⟨h1,b,ob,hv,h2⟩:=hc;refine⟨_,_,_,.inl (run _ hS rfl fo n hf _ _ hv),?_,hk⟩;exact⟨g,hg.quiet o.dst (mZ ⟨rfl,b,ob,by rw[fV],h2⟩)⟩
 cases hk;cases hk
theorem ED {E:Env}(hE:jX P E.ty){e:CT}(h:E.sl T=some e):∃te,P.underlying T=some (.slice te)/\Lw P te e:=by unfold Env.sl at h;split at h;rename_i e' kE hT;simp at h;subst h;obtain⟨te,hu,he,_⟩:=(hE T _ hT).sl _ rfl rfl;exact⟨te,hu,he⟩;cases h
theorem Sy {E:Env}(hE:jX P E.ty)(h:E.str T=true):P.underlying T=some .string:=by unfold Env.str at h;split at h;rename_i kE hT;exact(hE T _ hT).str rfl rfl;cases h
theorem agt {E:Env}(hE:jX P E.ty)(h:E.bool T=true):P.underlying T=some .bool:=by unfold Env.bool at h;split at h;rename_i kE hT;exact(hE T _ hT).bool rfl rfl;cases h
theorem bS {α:Type}{xs:ay α}{n:Int}{y:α}(h:idx xs n=some y):∃k:Nat,n=k/\k<xs.length/\xs[k]?=some y:=by obtain⟨k,h1,h2⟩:=T6 h;exact⟨k,h1,(aB.1 h2).1,h2⟩
theorem MQ {E:Env}(hE:jX P E.ty){o:Oper}{i:Operand}(ho:o.op=.indexAddr T x i)(h:oE C st a w){K:AS->aC R}(hk:mY E o T x i st K=some r):nm P C o a w K r:=by
 unfold mY at hk;obtain⟨g,hg⟩:=id h;have uM:=hg.fresh (hg.rd x);have hiv:=hg.rd i;split at hk;rename_i e' fl e xs kd n hT hx hi;split at hk;rename_i hc;obtain⟨rfl,pw⟩:=hc;rw[hx]at uM;rw[hi]at hiv;have hxc:=fi uM;have uN:=jG hiv;cases Ed:idx xs n with
 |none=>rw[Ed]at hk;cases hk
 |some y=>
  rw[Ed]at hk;simp only[aa]at hk;obtain⟨k,rfl,Zz,hky⟩:=bS Ed;obtain⟨te,hu,⟨inf,z,Ca,uL,_⟩,_⟩:=ED hE hT;have run:∀b ob cap,a.eval x=.slice (some ⟨b,ob,none⟩) xs.length cap->(execOp a.eval o).run P w=.ok (.value (.pointer (some ⟨b,ob+k*e'.size,none⟩))) w:=by intro b ob cap hv;simp[execOp,ho,hv,uN,Instr.indexAt,asIntOf,underlying,hu,sizeOf,typeInfo,Ca,uL,Zz,nK]
  cases fl with
  |own t=>cases pw
  |nest _ _ _ _ _ _=>cases pw
  |part _ _ _ _=>cases pw
  |gj _ _ _=>cases pw
  |arg _=>obtain⟨_,v,hv,hr⟩:=hxc;simp at hv;subst hv;rcases hr with⟨_,rfl⟩|⟨b,ob,cap,hv,_,hr⟩;simp at hky;obtain⟨cs,IV,Ho⟩:=hr k y hky;refine⟨_,_,_,.inl (run b ob cap hv),?_,hk⟩;exact⟨g,hg.quiet o.dst (mZ ⟨rfl,b,ob+k*e'.size,rfl,cs,IV,Ho⟩)⟩
  |loc ep pv=>
   obtain⟨_,yi,_,Ho,uK⟩:=hxc;have apq:ep=st.ep:=by simpa[qL.live]using pw
   obtain⟨v,hv,hr⟩:=Ho apq;simp at hv;subst hv;rcases hr with⟨_,rfl⟩|⟨b,ob,cap,hv,_,hr⟩;simp at hky;obtain⟨cs,IV,aen⟩:=hr k y hky;refine⟨_,_,_,.inl (run b ob cap hv),?_,hk⟩;refine⟨g,hg.quiet o.dst (mZ ⟨rfl,b,ob+k*e'.size,rfl,yi,λ_=>⟨cs,IV,aen⟩,λrt t hp=>?_⟩)⟩;obtain⟨h1,h2⟩:=uK rt t hp;exact⟨h1,k,ob,xs.length,cap,rfl,by rw[<-h2,hv],Zz,rfl⟩
 cases hk;cases hk
theorem xu (s:ay UInt8):(ByteArray.mk s.toArray).size=s.length:=by show s.toArray.size=s.length;simp
theorem aar (s:ay UInt8)(n:Nat):(ByteArray.mk s.toArray)[n]?=s[n]?:=by
 simp only[getElem?_def];by_cases h:n<s.length;have h':n<(ByteArray.mk s.toArray).size:=by rw[xu];exact h
 rw[dif_pos h',dif_pos h];rfl;have h':¬n<(ByteArray.mk s.toArray).size:=by rw[xu];exact h
 rw[dif_neg h',dif_neg h]
theorem XC {E:Env}(hE:jX P E.ty){o:Oper}{i:Operand}(ho:o.op=.index T x i)(h:oE C st a w){K:AS->aC R}(hk:BF E o T x i st K=some r):nm P C o a w K r:=by
 unfold BF at hk;obtain⟨g,hg⟩:=id h;have uM:=hg.rd x;have hiv:=hg.rd i;split at hk;rename_i s kd n hx hi;split at hk;rename_i hT;rw[hx]at uM;rw[hi]at hiv;have hxc:=(fi uM).1;have uN:=jG hiv;cases Ed:idx s n with
 |none=>rw[Ed]at hk;cases hk
 |some y=>
  rw[Ed]at hk;simp only[aa]at hk;obtain⟨k,rfl,Zz,hky⟩:=bS Ed;have hu:=Sy hE hT;have fb:(execOp a.eval o).run P w=.ok (.value (.int .u8 y.toNat)) w:=by simp[execOp,ho,hxc,uN,Instr.index,asIntOf,underlying,hu,aar,hky]
  refine⟨_,_,_,.inl fb,?_,hk⟩;exact⟨g,hg.quiet o.dst (mZ ⟨rfl,rfl⟩)⟩
 cases hk;cases hk
theorem uW {o:Oper}(h:oE C st a w){K:AS->aC R}(v:Value)(c:AC)(fb:(execOp a.eval o).run P w=.ok (.value v) w)(fJ:∀rc:RC,iI rc v c [])(hk:K (st.put o.dst (.one c))=some r):nm P C o a w K r:=by obtain⟨g,hg⟩:=h;exact⟨v,w,_,.inl fb,⟨g,hg.quiet o.dst (mZ (fJ _))⟩,hk⟩
theorem kY (k:IntKind)(n:Int)(rc:RC):iI rc (.int k n) (.int k n) []:=⟨rfl,rfl⟩
theorem Ar (b:Bool)(rc:RC):iI rc (.bool b) (.bool b) []:=⟨rfl,rfl⟩
theorem Ln (s:ay UInt8)(rc:RC):iI rc (.string ⟨s.toArray⟩) (.str s) []:=⟨rfl,rfl⟩
theorem ahT {o:Oper}{op:UnOp}(ho:o.op=.unOp op T x)(h:oE C st a w){K:AS->aC R}(hk:(unC op (st.rd x) λc=>K (st.put o.dst (.one c)))=some r):nm P C o a w K r:=by obtain⟨g,hg⟩:=id h;have uM:=hg.rd x;unfold unC at hk;split at hk;rename_i b hx;rw[hx]at uM;have hv:=vF uM;exact uW h _ _ (by simp[execOp,ho,hv,Op.unary]) (Ar _) hk;rename_i k n hx;rw[hx]at uM;have hv:=jG uM;exact uW h _ _ (by simp only[execOp,ho,hv,Op.unary,Op.intArith];rfl) (kY _ _) hk;rename_i k n hx;rw[hx]at uM;have hv:=jG uM;exact uW h _ _ (by simp only[execOp,ho,hv,Op.unary,Op.intBits];rfl) (kY _ _) hk;cases hk
theorem Jk {o:Oper}(ho:o.op=.nilCheck x)(h:oE C st a w){K:AS->aC R}{fl:qL}{e:CT}{y:e.D}{i:Int}{off:Nat}(hx:st.rd x=.val false [.BA fl e y i off])(hk:K (st.put o.dst (.one (.BA fl e y i off)))=some r):nm P C o a w K r:=by
 obtain⟨g,hg⟩:=id h;have uM:=hg.rd x;rw[hx]at uM;have hc:=fi uM;have hv:∃b q,a.eval x=.pointer (some ⟨b,q,none⟩):=by
  cases fl with
  |own t=>exact hc.elim
  |nest _ _ _ _ _ _=>exact hc.elim
  |part _ _ _ _=>exact hc.elim
  |gj _ _ _=>exact hc.elim
  |arg _=>obtain⟨_,b,q,hv,_⟩:=hc;exact⟨b,_,hv⟩
  |loc ep pv=>obtain⟨_,b,q,hv,_⟩:=hc;exact⟨b,_,hv⟩
 obtain⟨b,q,hv⟩:=hv;exact⟨.pointer (some ⟨b,q,none⟩),_,_,.inl (by simp only[execOp,ho,hv];rfl),⟨g,hg.quiet o.dst (by rw[<-hv];exact uM)⟩,hk⟩
theorem OL {o:Oper}(ho:o.op=.nilCheck x)(h:oE C st a w){K:AS->aC R}{s off:Nat}(hx:st.rd x=.val false [.ptr s off])(hk:K (st.put o.dst (.one (.ptr s off)))=some r):nm P C o a w K r:=by obtain⟨g,hg⟩:=id h;have uM:=hg.rd x;rw[hx]at uM;have hv:=Bk uM;exact⟨.pointer (some ⟨g.β s,off,none⟩),_,_,.inl (by simp only[execOp,ho,hv];rfl),⟨g,hg.quiet o.dst (mZ (x:=.ptr s off) ⟨rfl,(fi uM).2.1,rfl⟩)⟩,hk⟩
theorem abk {op:BinOp}{k:IntKind}{x y:Int}{K:AC->aC R}(hk:HH op k x y K=some r)(T:TypeId)(w:World): ∃c v,(binOp op T (.int k x) (.int k y)).run P w=.ok v w/\(∀rc:RC,iI rc v c [])/\K c=some r:=by
 cases op<;>simp only[HH]at hk<;>(try (cases hk;done))<;>simp only[binOp,ne_eq,not_true_eq_false,cn]
 case quo=>
  split at hk
  ·cases hk
  ·rename_i hy
   exact⟨_,.int k _,by simp only[Op.intDiv,hy,cn];rfl,kY _ _,hk⟩
 case rem=>
  split at hk
  ·cases hk
  ·rename_i hy
   exact⟨_,.int k _,by simp only[Op.intDiv,hy,cn];rfl,kY _ _,hk⟩
 case add=>exact⟨_,_,rfl,kY _ _,hk⟩
 case sub=>exact⟨_,_,rfl,kY _ _,hk⟩
 case mul=>exact⟨_,_,rfl,kY _ _,hk⟩
 case and=>exact⟨_,_,rfl,kY _ _,hk⟩
 case or=>exact⟨_,_,rfl,kY _ _,hk⟩
 case xor=>exact⟨_,_,rfl,kY _ _,hk⟩
 case andNot=>exact⟨_,_,rfl,kY _ _,hk⟩
 all_goals exact⟨_,_,rfl,Ar _,hk⟩
theorem aal (x y:ay UInt8):(ByteArray.mk x.toArray)++(ByteArray.mk y.toArray)=ByteArray.mk (x++y).toArray:=by apply ByteArray.ext;rw[ByteArray.data_append];simp
theorem acJ {op:BinOp}{x y:ay UInt8}{K:AC->aC R}(hk:Kw op x y K=some r)(T:TypeId)(w:World): ∃c v,(binOp op T (.string ⟨x.toArray⟩) (.string ⟨y.toArray⟩)).run P w=.ok v w/\(∀rc:RC,iI rc v c [])/\K c=some r:=by
 cases op<;>simp only[Kw]at hk<;>(try (cases hk;done))<;>simp only[binOp,Op.stringOp,toList_mk]
 case add=>
  unfold room at hk
  split at hk
  ·rename_i hle
   have hs:¬(((ByteArray.mk x.toArray).size+(ByteArray.mk y.toArray).size:Nat):Int)>IntKind.i64.max:=by
    have e1:=xu x;have e2:=xu y;rw[e1,e2];have:IntKind.i64.max=9223372036854775807:=by decide
    omega
   exact⟨_,_,by rw[aH hs,aal];rfl,Ln _,hk⟩
  ·cases hk
 all_goals exact⟨_,_,rfl,Ar _,hk⟩
theorem K2 (w:World)(D:Nat)(T te:TypeId)(hu:P.underlying T=some (.slice te)):(Op.equalIn (D+1) T (.slice none 0 0) (.slice none 0 0)).run P w=.ok true w:=by unfold Op.equalIn;simp only[underlying,Sem.run_bind,run_program,hu,Result.andThen_ok,Sem.run_pure];rfl
theorem Jz (w:World)(D:Nat)(T te:TypeId)(hu:P.underlying T=some (.slice te))(ad:Addr)(n k:Nat):(Op.equalIn (D+1) T (.slice (some ad) n k) (.slice none 0 0)).run P w=.ok false w:=by unfold Op.equalIn;simp only[underlying,Sem.run_bind,run_program,hu,Result.andThen_ok,Sem.run_pure]
theorem ac9 {E:Env}(hE:jX P E.ty)(hQ:SU P E.eqs){o:Oper}{op:BinOp}{T':TypeId}{y:Operand}(ho:o.op=.binOp op T x y T')(h:oE C st a w){K:AS->aC R}(hk:AM E o op T x y st K=some r):nm P C o a w K r:=by
 obtain⟨g,hg⟩:=id h;have uM:=hg.rd x;have PG:=hg.rd y;have fin:∀v c,(do eqGuard op T x y (a.eval x) (a.eval y);binOp op T (a.eval x) (a.eval y):Sem Value).run P w=.ok v w->(∀rc:RC,iI rc v c [])->K (st.put o.dst (.one c))=some r->nm P C o a w K r:=by intro v c fb fJ Ou;refine⟨v,w,_,.inl ?_,⟨g,hg.quiet o.dst (mZ (fJ _))⟩,Ou⟩;simp only[execOp,ho];show((do eqGuard op T x y (a.eval x) (a.eval y);binOp op T (a.eval x) (a.eval y):Sem Value)>>=λv=>pure (Next.value v)).run P w=_;rw[Sem.run_bind,fb];rfl
 have Mp:∀{k k':IntKind}{p q:Int},(eqGuard op T x y (.int k p) (.int k' q)).run P w=.ok () w:=by intros;unfold eqGuard;split<;>rfl
 have ad9:∀{p q:ByteArray},(eqGuard op T x y (.string p) (.string q)).run P w=.ok () w:=by intros;unfold eqGuard;split<;>rfl
 have aaP:∀{p q:Bool},(eqGuard op T x y (.bool p) (.bool q)).run P w=.ok () w:=by intros;unfold eqGuard;split<;>rfl
 unfold AM at hk;split at hk
 ·rename_i p q hx hy;rw[hx]at uM;rw[hy]at PG;split at hk;·rename_i hT;have hu:=agt hE hT;simp only[FA]at hk;cases op<;>simp only at hk<;>(try (cases hk;done));all_goals refine fin _ _ ?_ (Ar _) hk;rw[vF uM,vF PG,Sem.run_bind,aaP];simp only[Result.andThen_ok,binOp,Op.equal,Op.maxDepth,Sem.run_bind];rw[run_equalIn_bool' w 9999 T p q hu];rfl
  cases hk
 ·rename_i xs ys hx hy;rw[hx]at uM;rw[hy]at PG;split at hk
  ·rename_i ls hT;split at hk
   ·rename_i hf;obtain⟨vs,hcx,hrx⟩:=uM;obtain⟨us,hcy,hry⟩:=PG;simp only[Cut,cc]at hcx hcy;have hgd:(eqGuard op T x y (.agg vs.toArray) (.agg us.toArray)).run P w=.ok () w:=by have hgt:=(hQ T ls hT).2.2;unfold eqGuard;cases op<;>simp[hgt]
    simp only[FA]at hk;cases op<;>simp only at hk<;>(try (cases hk;done));all_goals cases he:uU xs ys with|none=>rw[he]at hk;cases hk|some b=>rw[he]at hk;simp only[aa]at hk;refine fin _ _ ?_ (Ar _) hk;rw[hcx,hcy,Sem.run_bind,hgd];simp only[Result.andThen_ok,binOp,Sem.run_bind,ai6 hQ hT hrx hry hf he w];rfl
   cases hk
  cases hk
 ·rename_i fl e xs hx hy;rw[hx]at uM;rw[hy]at PG;split at hk
  ·rename_i hT;obtain⟨hT,pw⟩:=hT;cases hs:E.sl T with
   |none=>rw[hs]at hT;cases hT
   |some e'=>
    obtain⟨te,hu,_⟩:=ED hE hs;split at hk;cases hk
    ·rename_i hlen;have alq:∃b ob n k,a.eval x=.slice (some ⟨b,ob,none⟩) n k:=by
      have hc:=fi uM;have key:∀{S:Nat->Nat->Prop},jP w S (.sl e) [a.eval x] xs->∃b ob n k,a.eval x=.slice (some ⟨b,ob,none⟩) n k:=by rintro S ⟨u,RP,h1⟩;simp at RP;rcases h1 with⟨_,rfl⟩|⟨b,ob,cap,hv,_⟩;simp at hlen;exact⟨b,ob,_,_,by rw[RP];exact hv⟩
      cases fl with
      |own t=>cases pw
      |nest _ _ _ _ _ _=>cases pw
      |part _ _ _ _=>cases pw
      |gj _ _ _=>cases pw
      |arg _=>exact key hc.2
      |loc ep pv=>
       have yi:ep=st.ep:=by simpa[qL.live]using pw
       exact key (hc.2.2.2.1 yi)
     obtain⟨b,ob,n,k,hv⟩:=alq;have hyn:=(fi PG).1;have fb:(Op.equal T (a.eval x) (a.eval y)).run P w=.ok false w:=by rw[hv,hyn];exact Jz w 9999 T te hu _ _ _
     have hgd:(eqGuard op T x y (a.eval x) (a.eval y)).run P w=.ok () w:=by rw[hv,hyn];unfold eqGuard;split<;>rfl
     unfold Du at hk;cases op<;>simp only at hk<;>(try (cases hk;done));all_goals refine fin _ _ ?_ (Ar _) hk;rw[Sem.run_bind,hgd];rw[hv,hyn]at fb⊢;simp only[Result.andThen_ok,binOp,Sem.run_bind,fb];rfl
  cases hk
 ·rename_i hx hy;rw[hx]at uM;rw[hy]at PG;split at hk
  ·rename_i hT;cases hs:E.sl T with
   |none=>rw[hs]at hT;cases hT
   |some e'=>
    obtain⟨te,hu,_⟩:=ED hE hs;have hxn:=(fi uM).1;have hyn:=(fi PG).1;have fb:(Op.equal T (.slice none 0 0) (.slice none 0 0)).run P w=.ok true w:=by exact K2 w 9999 T te hu
    have hgd:(eqGuard op T x y (.slice none 0 0) (.slice none 0 0)).run P w=.ok () w:=by unfold eqGuard;split<;>rfl
    unfold Du at hk;cases op<;>simp only at hk<;>(try (cases hk;done));all_goals refine fin _ _ ?_ (Ar _) hk;rw[hxn,hyn,Sem.run_bind,hgd];simp only[Result.andThen_ok,binOp,Sem.run_bind,fb];rfl
  cases hk
 rename_i va vb IX DJ hn3 hn4;unfold FA at hk;split at hk;rename_i k p k' q hx hy;rw[hx]at uM;rw[hy]at PG;split at hk;split at hk;cases hk;rename_i hq;refine fin _ _ ?_ (kY _ _) hk;rw[jG uM,jG PG,Sem.run_bind,Mp];simp only[Result.andThen_ok,binOp,Op.shift,hq,cn];rfl;split at hk;cases hk;rename_i hq;refine fin _ _ ?_ (kY _ _) hk;rw[jG uM,jG PG,Sem.run_bind,Mp];simp only[Result.andThen_ok,binOp,Op.shift,hq,cn];rfl;split at hk;rename_i Ou;subst Ou;obtain⟨c,v,fb,fJ,hkc⟩:=abk (P:=P) hk T w;refine fin v c ?_ fJ hkc;rw[jG uM,jG PG,Sem.run_bind,Mp];exact fb;cases hk;rename_i p q hx hy;rw[hx]at uM;rw[hy]at PG;obtain⟨c,v,fb,fJ,hkc⟩:=acJ (P:=P) hk T w;refine fin v c ?_ fJ hkc;rw[(fi uM).1,(fi PG).1,Sem.run_bind,ad9];exact fb;rename_i p q hx hy;exact absurd hy (IX p q hx);rename_i xs ys hx hy;exact absurd hy (DJ xs ys hx);cases hk
theorem aeO {E:Env}(hE:jX P E.ty){o:Oper}(ho:o.op=.call {callee:=.builtin .len,args,argTypes:=ts})(h:oE C st a w){K:AS->aC R}(hk:MX E o ts.toList args.toList st K=some r):nm P C o a w K r:=by
 obtain⟨g,hg⟩:=id h;unfold MX at hk;split at hk;rename_i t s tz gP;obtain⟨x,hx,hxs⟩:∃x,args.toList=[x]/\st.rd x=.val false [.str s]:=by cases hl:args.toList with|nil=>rw[hl]at gP;simp at gP|cons x l=>rw[hl]at gP;simp at gP;exact⟨x,by rw[gP.2],gP.1⟩
 have ea:args=#[x]:=by apply fN;simpa using hx
 have et:ts=#[t]:=by apply fN;simpa using tz
 subst ea;subst et;split at hk;rename_i hT;have uM:=hg.rd x;rw[hxs]at uM;have hv:=(fi uM).1;refine uW h (.int .i64 _) _ ?_ (kY _ _) hk;simp[execOp,ho,resolve,invoke,builtin,Builtin.len_,underlying,Sy hE hT,hv,goInt,xu];cases hk;rename_i t fl e xs tz gP;obtain⟨x,hx,hxs⟩:∃x,args.toList=[x]/\st.rd x=.val false [.sl fl e xs]:=by cases hl:args.toList with|nil=>rw[hl]at gP;simp at gP|cons x l=>rw[hl]at gP;simp at gP;exact⟨x,by rw[gP.2],gP.1⟩
 have ea:args=#[x]:=by apply fN;simpa using hx
 have et:ts=#[t]:=by apply fN;simpa using tz
 subst ea;subst et;split at hk;rename_i hT;have uM:=hg.rd x;rw[hxs]at uM;obtain⟨e',he'⟩:=Option.isSome_iff_exists.1 hT;obtain⟨te,hu,_⟩:=ED hE he';have hv:∃b cap,a.eval x=.slice b xs.length cap:=by
  have hc:=fi uM;cases fl with
  |nest _ _ _ _ _ _=>obtain⟨_,_,⟨o1,n1,k1,h1,h2⟩,_⟩:=hc;exact⟨o1,k1,by rw[h1,h2]⟩
  |part _ _ _ _=>obtain⟨_,_,⟨o1,n1,k1,h1,h2⟩,_⟩:=hc;exact⟨o1,k1,by rw[h1,h2]⟩
  |gj _ _ _=>obtain⟨_,⟨k,_,b,o0,cap,arr,T,fr,fps,h1,_⟩,_⟩:=hc;exact⟨_,_,h1⟩
  |own t=>obtain⟨⟨u,hu,ho⟩,_⟩:=hc;simp at hu;subst hu;rcases ho with⟨⟨_,h1⟩,rfl,_⟩|⟨b,_,cap,_,_,_,_,h1,_⟩;exact⟨_,_,h1⟩;exact⟨_,_,h1⟩
  |arg _=>obtain⟨_,u,hu,ho⟩:=hc;simp at hu;subst hu;rcases ho with⟨⟨ad,h1⟩,rfl⟩|⟨b,ob,cap,h1,_⟩;exact⟨ad,0,h1⟩;exact⟨_,_,h1⟩
  |loc ep pv=>obtain⟨_,_,⟨b,n,k,h1,h2⟩,_⟩:=hc;exact⟨b,k,by rw[h1,h2]⟩
 obtain⟨b,cap,hv⟩:=hv;refine uW h (.int .i64 _) _ ?_ (kY _ _) hk;simp[execOp,ho,resolve,invoke,builtin,Builtin.len_,underlying,hu,hv,goInt];cases hk;cases hk
theorem N0 {u v:AV}(h:args.toList.map st.rd=[u,v]):∃x y,args=#[x,y]/\st.rd x=u/\st.rd y=v:=by match hl:args.toList with|[]=>rw[hl]at h;simp at h|[_]=>rw[hl]at h;simp at h|[x,y]=>rw[hl]at h;simp at h;exact⟨x,y,by apply fN;simpa using hl,h.1,h.2⟩|_::_::_::_=>rw[hl]at h;simp at h
theorem aeV {o:Oper}(ho:o.op=.call {callee:=.builtin .min,args,argTypes:=ts})(h:oE C st a w){K:AS->aC R}(hk:OG o args.toList st K=some r):nm P C o a w K r:=by obtain⟨g,hg⟩:=id h;unfold OG at hk;split at hk;rename_i k x k' y gP;obtain⟨p,q,rfl,hp,hq⟩:=N0 gP;have uK:=hg.rd p;have hqv:=hg.rd q;rw[hp]at uK;rw[hq]at hqv;refine uW h (.int k _) _ ?_ (kY _ _) hk;simp[execOp,ho,resolve,invoke,builtin,Builtin.min_,Builtin.min2,jG uK,jG hqv];cases hk
theorem aeU {o:Oper}(ho:o.op=.call {callee:=.builtin .max,args,argTypes:=ts})(h:oE C st a w){K:AS->aC R}(hk:OF o args.toList st K=some r):nm P C o a w K r:=by obtain⟨g,hg⟩:=id h;unfold OF at hk;split at hk;rename_i k x k' y gP;obtain⟨p,q,rfl,hp,hq⟩:=N0 gP;have uK:=hg.rd p;have hqv:=hg.rd q;rw[hp]at uK;rw[hq]at hqv;refine uW h (.int k _) _ ?_ (kY _ _) hk;simp[execOp,ho,resolve,invoke,builtin,Builtin.max_,Builtin.max2,jG uK,jG hqv];cases hk
end Go.Dn
