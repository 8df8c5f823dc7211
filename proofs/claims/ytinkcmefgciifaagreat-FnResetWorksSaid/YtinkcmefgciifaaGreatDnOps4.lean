import Derived.Test.YtinkcmefgciifaaGreatDnOps3
import Derived.Test.YtinkcmefgciifaaGreatDnEq
/- Part 4: addresses, numbers, strings, slices of slices. -/
namespace Go.Dn
open Go.RowKit
variable {P:Program} {C:Ctx} {st:AS} {a:Act} {w:World} {R:Type} {r:R}
variable {args:Array Operand} {ts:Array TypeId} {x:Operand} {T:TypeId}
theorem ZR {E:Env}(hE:kJ P E.ty){o:Oper}{S:TypeId}{p:Operand}{f:Nat}(ho:o.op=.fieldAddr S p f)(h:pT C st a w){K:AS->aC R}(hk:BP E o S p f st K=some r):ox P C o a w K r:=by
 unfold BP at hk
 have run:∀(sh:Shape),kv E.ty S=some sh->sh.agg=true->∀fo n,nth sh.lD f=some (fo,n)->∀b off,a.eval p=.pointer (some ⟨b,off,none⟩)->
  (execOp a.eval o).run P w=.ok (.value (.pointer (some ⟨b,off+fo,none⟩))) w:=by
  intro sh hS Nt fo n hf b off hv
  obtain⟨fs,hu,ID⟩:=(hE S sh hS).agg Nt
  rw[eT]at hf
  obtain⟨fd,hfd,Q3,hn,i,hi,wq⟩:=ID f fo n hf
  simp only[execOp,ho,hv,Instr.fieldAt,Instr.sureAddr,underlying,Sem.run_bind,run_program,hu,Result.andThen_ok,Sem.run_pure,hfd,fieldPlace,sizeOf,typeInfo,hi,wq,Q3]
  rw[kz]
  simp[oP]
 obtain⟨g,hg⟩:=id h;have wo:=hg.rd p;split at hk;rename_i ct lD s off hS hp;split at hk;rename_i fo n hf;rw[hp]at wo;have hv:=CM wo;have hpr:=(fO wo).2.1;refine⟨_,_,_,.inl (run _ hS rfl fo n hf _ _ hv),?_,hk⟩;exact⟨g,hg.quiet o.dst (oc ⟨rfl,hpr,rfl⟩)⟩;cases hk;rename_i ct lD fl e x i off hS hp;split at hk;rename_i fo n hf;rw[hp]at wo;have hc:=fO wo;cases fl with
 |own t=>exact hc.elim
 |nest _ _ _ _ _ _=>exact hc.elim
 |part _ _ _ _=>exact hc.elim
 |gH _ _ _=>exact hc.elim
 |arg _=>obtain⟨h1,b,ob,hv,h2⟩:=hc;refine⟨_,_,_,.inl (run _ hS rfl fo n hf _ _ hv),?_,hk⟩;exact⟨g,hg.quiet o.dst (oc ⟨rfl,b,ob,by rw[gw],h2⟩)⟩
 |loc ep pv=>obtain⟨h1,b,ob,hv,h2⟩:=hc;refine⟨_,_,_,.inl (run _ hS rfl fo n hf _ _ hv),?_,hk⟩;exact⟨g,hg.quiet o.dst (oc ⟨rfl,b,ob,by rw[gw],h2⟩)⟩
 cases hk;cases hk
theorem Gq {E:Env}(hE:kJ P E.ty){e:CT}(h:E.sl T=some e):∃te,P.underlying T=some (.slice te)/\NM P te e:=by unfold Env.sl at h;split at h;rename_i e' lD hT;simp at h;subst h;obtain⟨te,hu,he,_⟩:=(hE T _ hT).sl _ rfl rfl;exact⟨te,hu,he⟩;cases h
theorem Vd {E:Env}(hE:kJ P E.ty)(h:E.str T=true):P.underlying T=some .string:=by unfold Env.str at h;split at h;rename_i lD hT;exact(hE T _ hT).str rfl rfl;cases h
theorem ajd {E:Env}(hE:kJ P E.ty)(h:E.bool T=true):P.underlying T=some .bool:=by unfold Env.bool at h;split at h;rename_i lD hT;exact(hE T _ hT).bool rfl rfl;cases h
theorem bK {α:Type}{xs:az α}{n:Int}{y:α}(h:idx xs n=some y):∃k:Nat,n=k/\k<xs.length/\xs[k]?=some y:=by obtain⟨k,h1,h2⟩:=WD h;exact⟨k,h1,(aB.1 h2).1,h2⟩
theorem Pg {E:Env}(hE:kJ P E.ty){o:Oper}{i:Operand}(ho:o.op=.indexAddr T x i)(h:pT C st a w){K:AS->aC R}(hk:oa E o T x i st K=some r):ox P C o a w K r:=by
 unfold oa at hk;obtain⟨g,hg⟩:=id h;have wu:=hg.fresh (hg.rd x);have hiv:=hg.rd i;split at hk;rename_i e' fl e xs kd n hT hx hi;split at hk;rename_i hc;obtain⟨rfl,qH⟩:=hc;rw[hx]at wu;rw[hi]at hiv;have hxc:=fO wu;have ux:=kg hiv;cases FX:idx xs n with
 |none=>rw[FX]at hk;cases hk
 |some y=>
  rw[FX]at hk;simp only[aa]at hk;obtain⟨k,rfl,hkl,hky⟩:=bK FX;obtain⟨te,hu,⟨inf,z,DJ,wq,_⟩,_⟩:=Gq hE hT;have run:∀b ob cap,a.eval x=.slice (some ⟨b,ob,none⟩) xs.length cap->(execOp a.eval o).run P w=.ok (.value (.pointer (some ⟨b,ob+k*e'.size,none⟩))) w:=by intro b ob cap hv;simp[execOp,ho,hv,ux,Instr.indexAt,asIntOf,underlying,hu,sizeOf,typeInfo,DJ,wq,hkl,oP]
  cases fl with
  |own t=>cases qH
  |nest _ _ _ _ _ _=>cases qH
  |part _ _ _ _=>cases qH
  |gH _ _ _=>cases qH
  |arg _=>obtain⟨_,v,hv,hr⟩:=hxc;simp at hv;subst hv;rcases hr with⟨_,rfl⟩|⟨b,ob,cap,hv,_,hr⟩;simp at hky;obtain⟨cs,KN,Jf⟩:=hr k y hky;refine⟨_,_,_,.inl (run b ob cap hv),?_,hk⟩;exact⟨g,hg.quiet o.dst (oc ⟨rfl,b,ob+k*e'.size,rfl,cs,KN,Jf⟩)⟩
  |loc ep pv=>
   obtain⟨_,Ae,_,Jf,wo⟩:=hxc;have asn:ep=st.ep:=by simpa[sC.live]using qH
   obtain⟨v,hv,hr⟩:=Jf asn;simp at hv;subst hv;rcases hr with⟨_,rfl⟩|⟨b,ob,cap,hv,_,hr⟩;simp at hky;obtain⟨cs,KN,ag9⟩:=hr k y hky;refine⟨_,_,_,.inl (run b ob cap hv),?_,hk⟩;refine⟨g,hg.quiet o.dst (oc ⟨rfl,b,ob+k*e'.size,rfl,Ae,λ_=>⟨cs,KN,ag9⟩,λrt t hp=>?_⟩)⟩;obtain⟨h1,h2⟩:=wo rt t hp;exact⟨h1,k,ob,xs.length,cap,rfl,by rw[<-h2,hv],hkl,rfl⟩
 cases hk;cases hk
theorem yV (s:az UInt8):(ByteArray.mk s.toArray).size=s.length:=by show s.toArray.size=s.length;simp
theorem ac3 (s:az UInt8)(n:Nat):(ByteArray.mk s.toArray)[n]?=s[n]?:=by
 simp only[getElem?_def];by_cases h:n<s.length;have h':n<(ByteArray.mk s.toArray).size:=by rw[yV];exact h
 rw[dif_pos h',dif_pos h];rfl;have h':¬n<(ByteArray.mk s.toArray).size:=by rw[yV];exact h
 rw[dif_neg h',dif_neg h]
theorem aaq {E:Env}(hE:kJ P E.ty){o:Oper}{i:Operand}(ho:o.op=.index T x i)(h:pT C st a w){K:AS->aC R}(hk:Dc E o T x i st K=some r):ox P C o a w K r:=by
 unfold Dc at hk;obtain⟨g,hg⟩:=id h;have wu:=hg.rd x;have hiv:=hg.rd i;split at hk;rename_i s kd n hx hi;split at hk;rename_i hT;rw[hx]at wu;rw[hi]at hiv;have hxc:=(fO wu).1;have ux:=kg hiv;cases FX:idx s n with
 |none=>rw[FX]at hk;cases hk
 |some y=>
  rw[FX]at hk;simp only[aa]at hk;obtain⟨k,rfl,hkl,hky⟩:=bK FX;have hu:=Vd hE hT;have fG:(execOp a.eval o).run P w=.ok (.value (.int .u8 y.toNat)) w:=by simp[execOp,ho,hxc,ux,Instr.index,asIntOf,underlying,hu,ac3,hky]
  refine⟨_,_,_,.inl fG,?_,hk⟩;exact⟨g,hg.quiet o.dst (oc ⟨rfl,rfl⟩)⟩
 cases hk;cases hk
theorem wD {o:Oper}(h:pT C st a w){K:AS->aC R}(v:Value)(c:AC)(fG:(execOp a.eval o).run P w=.ok (.value v) w)(ga:∀rc:RC,jh rc v c [])(hk:K (st.put o.dst (.one c))=some r):ox P C o a w K r:=by obtain⟨g,hg⟩:=h;exact⟨v,w,_,.inl fG,⟨g,hg.quiet o.dst (oc (ga _))⟩,hk⟩
theorem ma (k:IntKind)(n:Int)(rc:RC):jh rc (.int k n) (.int k n) []:=⟨rfl,rfl⟩
theorem Cc (b:Bool)(rc:RC):jh rc (.bool b) (.bool b) []:=⟨rfl,rfl⟩
theorem NC (s:az UInt8)(rc:RC):jh rc (.string ⟨s.toArray⟩) (.str s) []:=⟨rfl,rfl⟩
theorem akv {o:Oper}{op:UnOp}(ho:o.op=.unOp op T x)(h:pT C st a w){K:AS->aC R}(hk:(unC op (st.rd x) λc=>K (st.put o.dst (.one c)))=some r):ox P C o a w K r:=by obtain⟨g,hg⟩:=id h;have wu:=hg.rd x;unfold unC at hk;split at hk;rename_i b hx;rw[hx]at wu;have hv:=xf wu;exact wD h _ _ (by simp[execOp,ho,hv,Op.unary]) (Cc _) hk;rename_i k n hx;rw[hx]at wu;have hv:=kg wu;exact wD h _ _ (by simp only[execOp,ho,hv,Op.unary,Op.intArith];rfl) (ma _ _) hk;rename_i k n hx;rw[hx]at wu;have hv:=kg wu;exact wD h _ _ (by simp only[execOp,ho,hv,Op.unary,Op.intBits];rfl) (ma _ _) hk;cases hk
theorem Lc {o:Oper}(ho:o.op=.nilCheck x)(h:pT C st a w){K:AS->aC R}{fl:sC}{e:CT}{y:e.D}{i:Int}{off:Nat}(hx:st.rd x=.val false [.C5 fl e y i off])(hk:K (st.put o.dst (.one (.C5 fl e y i off)))=some r):ox P C o a w K r:=by
 obtain⟨g,hg⟩:=id h;have wu:=hg.rd x;rw[hx]at wu;have hc:=fO wu;have hv:∃b q,a.eval x=.pointer (some ⟨b,q,none⟩):=by
  cases fl with
  |own t=>exact hc.elim
  |nest _ _ _ _ _ _=>exact hc.elim
  |part _ _ _ _=>exact hc.elim
  |gH _ _ _=>exact hc.elim
  |arg _=>obtain⟨_,b,q,hv,_⟩:=hc;exact⟨b,_,hv⟩
  |loc ep pv=>obtain⟨_,b,q,hv,_⟩:=hc;exact⟨b,_,hv⟩
 obtain⟨b,q,hv⟩:=hv;exact⟨.pointer (some ⟨b,q,none⟩),_,_,.inl (by simp only[execOp,ho,hv];rfl),⟨g,hg.quiet o.dst (by rw[<-hv];exact wu)⟩,hk⟩
theorem Rj {o:Oper}(ho:o.op=.nilCheck x)(h:pT C st a w){K:AS->aC R}{s off:Nat}(hx:st.rd x=.val false [.ptr s off])(hk:K (st.put o.dst (.one (.ptr s off)))=some r):ox P C o a w K r:=by obtain⟨g,hg⟩:=id h;have wu:=hg.rd x;rw[hx]at wu;have hv:=CM wu;exact⟨.pointer (some ⟨g.β s,off,none⟩),_,_,.inl (by simp only[execOp,ho,hv];rfl),⟨g,hg.quiet o.dst (oc (x:=.ptr s off) ⟨rfl,(fO wu).2.1,rfl⟩)⟩,hk⟩
theorem ad0 {op:BinOp}{k:IntKind}{x y:Int}{K:AC->aC R}(hk:Jy op k x y K=some r)(T:TypeId)(w:World): ∃c v,(binOp op T (.int k x) (.int k y)).run P w=.ok v w/\(∀rc:RC,jh rc v c [])/\K c=some r:=by
 cases op<;>simp only[Jy]at hk<;>(try (cases hk;done))<;>simp only[binOp,ne_eq,not_true_eq_false,cy]
 case quo=>
  split at hk
  ·cases hk
  ·rename_i hy
   exact⟨_,.int k _,by simp only[Op.intDiv,hy,cy];rfl,ma _ _,hk⟩
 case rem=>
  split at hk
  ·cases hk
  ·rename_i hy
   exact⟨_,.int k _,by simp only[Op.intDiv,hy,cy];rfl,ma _ _,hk⟩
 case add=>exact⟨_,_,rfl,ma _ _,hk⟩
 case sub=>exact⟨_,_,rfl,ma _ _,hk⟩
 case mul=>exact⟨_,_,rfl,ma _ _,hk⟩
 case and=>exact⟨_,_,rfl,ma _ _,hk⟩
 case or=>exact⟨_,_,rfl,ma _ _,hk⟩
 case xor=>exact⟨_,_,rfl,ma _ _,hk⟩
 case andNot=>exact⟨_,_,rfl,ma _ _,hk⟩
 all_goals exact⟨_,_,rfl,Cc _,hk⟩
theorem acY (x y:az UInt8):(ByteArray.mk x.toArray)++(ByteArray.mk y.toArray)=ByteArray.mk (x++y).toArray:=by apply ByteArray.ext;rw[ByteArray.data_append];simp
theorem afk {op:BinOp}{x y:az UInt8}{K:AC->aC R}(hk:MB op x y K=some r)(T:TypeId)(w:World): ∃c v,(binOp op T (.string ⟨x.toArray⟩) (.string ⟨y.toArray⟩)).run P w=.ok v w/\(∀rc:RC,jh rc v c [])/\K c=some r:=by
 cases op<;>simp only[MB]at hk<;>(try (cases hk;done))<;>simp only[binOp,Op.stringOp,toList_mk]
 case add=>
  unfold room at hk
  split at hk
  ·rename_i hle
   have hs:¬(((ByteArray.mk x.toArray).size+(ByteArray.mk y.toArray).size:Nat):Int)>IntKind.i64.max:=by
    have e1:=yV x;have e2:=yV y;rw[e1,e2];have:IntKind.i64.max=9223372036854775807:=by decide
    omega
   exact⟨_,_,by rw[aI hs,acY];rfl,NC _,hk⟩
  ·cases hk
 all_goals exact⟨_,_,rfl,Cc _,hk⟩
theorem Ng (w:World)(D:Nat)(T te:TypeId)(hu:P.underlying T=some (.slice te)):(Op.equalIn (D+1) T (.slice none 0 0) (.slice none 0 0)).run P w=.ok true w:=by unfold Op.equalIn;simp only[underlying,Sem.run_bind,run_program,hu,Result.andThen_ok,Sem.run_pure];rfl
theorem Lu (w:World)(D:Nat)(T te:TypeId)(hu:P.underlying T=some (.slice te))(ad:Addr)(n k:Nat):(Op.equalIn (D+1) T (.slice (some ad) n k) (.slice none 0 0)).run P w=.ok false w:=by unfold Op.equalIn;simp only[underlying,Sem.run_bind,run_program,hu,Result.andThen_ok,Sem.run_pure]
theorem afM {E:Env}(hE:kJ P E.ty)(hQ:Vw P E.eqs){o:Oper}{op:BinOp}{T':TypeId}{y:Operand}(ho:o.op=.binOp op T x y T')(h:pT C st a w){K:AS->aC R}(hk:Ct E o op T x y st K=some r):ox P C o a w K r:=by
 obtain⟨g,hg⟩:=id h;have wu:=hg.rd x;have Sb:=hg.rd y;have fin:∀v c,(do eqGuard op T x y (a.eval x) (a.eval y);binOp op T (a.eval x) (a.eval y):Sem Value).run P w=.ok v w->(∀rc:RC,jh rc v c [])->K (st.put o.dst (.one c))=some r->ox P C o a w K r:=by intro v c fG ga Q2;refine⟨v,w,_,.inl ?_,⟨g,hg.quiet o.dst (oc (ga _))⟩,Q2⟩;simp only[execOp,ho];show((do eqGuard op T x y (a.eval x) (a.eval y);binOp op T (a.eval x) (a.eval y):Sem Value)>>=λv=>pure (Next.value v)).run P w=_;rw[Sem.run_bind,fG];rfl
 have OR:∀{k k':IntKind}{p q:Int},(eqGuard op T x y (.int k p) (.int k' q)).run P w=.ok () w:=by intros;unfold eqGuard;split<;>rfl
 have agS:∀{p q:ByteArray},(eqGuard op T x y (.string p) (.string q)).run P w=.ok () w:=by intros;unfold eqGuard;split<;>rfl
 have ads:∀{p q:Bool},(eqGuard op T x y (.bool p) (.bool q)).run P w=.ok () w:=by intros;unfold eqGuard;split<;>rfl
 unfold Ct at hk;split at hk
 ·rename_i p q hx hy;rw[hx]at wu;rw[hy]at Sb;split at hk;·rename_i hT;have hu:=ajd hE hT;simp only[Hi]at hk;cases op<;>simp only at hk<;>(try (cases hk;done));all_goals refine fin _ _ ?_ (Cc _) hk;rw[xf wu,xf Sb,Sem.run_bind,ads];simp only[Result.andThen_ok,binOp,Op.equal,Op.maxDepth,Sem.run_bind];rw[run_equalIn_bool' w 9999 T p q hu];rfl
  cases hk
 ·rename_i xs ys hx hy;rw[hx]at wu;rw[hy]at Sb;split at hk
  ·rename_i ls hT;split at hk
   ·rename_i hf;obtain⟨vs,hcx,hrx⟩:=wu;obtain⟨us,hcy,hry⟩:=Sb;simp only[Cut,cr]at hcx hcy;have hgd:(eqGuard op T x y (.agg vs.toArray) (.agg us.toArray)).run P w=.ok () w:=by have hgt:=(hQ T ls hT).2.2;unfold eqGuard;cases op<;>simp[hgt]
    simp only[Hi]at hk;cases op<;>simp only at hk<;>(try (cases hk;done));all_goals cases he:wB xs ys with|none=>rw[he]at hk;cases hk|some b=>rw[he]at hk;simp only[aa]at hk;refine fin _ _ ?_ (Cc _) hk;rw[hcx,hcy,Sem.run_bind,hgd];simp only[Result.andThen_ok,binOp,Sem.run_bind,alD hQ hT hrx hry hf he w];rfl
   cases hk
  cases hk
 ·rename_i fl e xs hx hy;rw[hx]at wu;rw[hy]at Sb;split at hk
  ·rename_i hT;obtain⟨hT,qH⟩:=hT;cases hs:E.sl T with
   |none=>rw[hs]at hT;cases hT
   |some e'=>
    obtain⟨te,hu,_⟩:=Gq hE hs;split at hk;cases hk
    ·rename_i hlen;have an2:∃b ob n k,a.eval x=.slice (some ⟨b,ob,none⟩) n k:=by
      have hc:=fO wu;have key:∀{S:Nat->Nat->Prop},kA w S (.sl e) [a.eval x] xs->∃b ob n k,a.eval x=.slice (some ⟨b,ob,none⟩) n k:=by rintro S ⟨u,Uq,h1⟩;simp at Uq;rcases h1 with⟨_,rfl⟩|⟨b,ob,cap,hv,_⟩;simp at hlen;exact⟨b,ob,_,_,by rw[Uq];exact hv⟩
      cases fl with
      |own t=>cases qH
      |nest _ _ _ _ _ _=>cases qH
      |part _ _ _ _=>cases qH
      |gH _ _ _=>cases qH
      |arg _=>exact key hc.2
      |loc ep pv=>
       have Ae:ep=st.ep:=by simpa[sC.live]using qH
       exact key (hc.2.2.2.1 Ae)
     obtain⟨b,ob,n,k,hv⟩:=an2;have hyn:=(fO Sb).1;have fG:(Op.equal T (a.eval x) (a.eval y)).run P w=.ok false w:=by rw[hv,hyn];exact Lu w 9999 T te hu _ _ _
     have hgd:(eqGuard op T x y (a.eval x) (a.eval y)).run P w=.ok () w:=by rw[hv,hyn];unfold eqGuard;split<;>rfl
     unfold Fc at hk;cases op<;>simp only at hk<;>(try (cases hk;done));all_goals refine fin _ _ ?_ (Cc _) hk;rw[Sem.run_bind,hgd];rw[hv,hyn]at fG⊢;simp only[Result.andThen_ok,binOp,Sem.run_bind,fG];rfl
  cases hk
 ·rename_i hx hy;rw[hx]at wu;rw[hy]at Sb;split at hk
  ·rename_i hT;cases hs:E.sl T with
   |none=>rw[hs]at hT;cases hT
   |some e'=>
    obtain⟨te,hu,_⟩:=Gq hE hs;have hxn:=(fO wu).1;have hyn:=(fO Sb).1;have fG:(Op.equal T (.slice none 0 0) (.slice none 0 0)).run P w=.ok true w:=by exact Ng w 9999 T te hu
    have hgd:(eqGuard op T x y (.slice none 0 0) (.slice none 0 0)).run P w=.ok () w:=by unfold eqGuard;split<;>rfl
    unfold Fc at hk;cases op<;>simp only at hk<;>(try (cases hk;done));all_goals refine fin _ _ ?_ (Cc _) hk;rw[hxn,hyn,Sem.run_bind,hgd];simp only[Result.andThen_ok,binOp,Sem.run_bind,fG];rfl
  cases hk
 rename_i va vb KP Fv hn3 hn4;unfold Hi at hk;split at hk;rename_i k p k' q hx hy;rw[hx]at wu;rw[hy]at Sb;split at hk;split at hk;cases hk;rename_i hq;refine fin _ _ ?_ (ma _ _) hk;rw[kg wu,kg Sb,Sem.run_bind,OR];simp only[Result.andThen_ok,binOp,Op.shift,hq,cy];rfl;split at hk;cases hk;rename_i hq;refine fin _ _ ?_ (ma _ _) hk;rw[kg wu,kg Sb,Sem.run_bind,OR];simp only[Result.andThen_ok,binOp,Op.shift,hq,cy];rfl;split at hk;rename_i Q2;subst Q2;obtain⟨c,v,fG,ga,hkc⟩:=ad0 (P:=P) hk T w;refine fin v c ?_ ga hkc;rw[kg wu,kg Sb,Sem.run_bind,OR];exact fG;cases hk;rename_i p q hx hy;rw[hx]at wu;rw[hy]at Sb;obtain⟨c,v,fG,ga,hkc⟩:=afk (P:=P) hk T w;refine fin v c ?_ ga hkc;rw[(fO wu).1,(fO Sb).1,Sem.run_bind,agS];exact fG;rename_i p q hx hy;exact absurd hy (KP p q hx);rename_i xs ys hx hy;exact absurd hy (Fv xs ys hx);cases hk
theorem ahw {E:Env}(hE:kJ P E.ty){o:Oper}(ho:o.op=.call {callee:=.builtin .len,args,argTypes:=ts})(h:pT C st a w){K:AS->aC R}(hk:Pq E o ts.toList args.toList st K=some r):ox P C o a w K r:=by
 obtain⟨g,hg⟩:=id h;unfold Pq at hk;split at hk;rename_i t s uW il;obtain⟨x,hx,hxs⟩:∃x,args.toList=[x]/\st.rd x=.val false [.str s]:=by cases hl:args.toList with|nil=>rw[hl]at il;simp at il|cons x l=>rw[hl]at il;simp at il;exact⟨x,by rw[il.2],il.1⟩
 have ea:args=#[x]:=by apply gj;simpa using hx
 have et:ts=#[t]:=by apply gj;simpa using uW
 subst ea;subst et;split at hk;rename_i hT;have wu:=hg.rd x;rw[hxs]at wu;have hv:=(fO wu).1;refine wD h (.int .i64 _) _ ?_ (ma _ _) hk;simp[execOp,ho,resolve,invoke,builtin,Builtin.len_,underlying,Vd hE hT,hv,goInt,yV];cases hk;rename_i t fl e xs uW il;obtain⟨x,hx,hxs⟩:∃x,args.toList=[x]/\st.rd x=.val false [.sl fl e xs]:=by cases hl:args.toList with|nil=>rw[hl]at il;simp at il|cons x l=>rw[hl]at il;simp at il;exact⟨x,by rw[il.2],il.1⟩
 have ea:args=#[x]:=by apply gj;simpa using hx
 have et:ts=#[t]:=by apply gj;simpa using uW
 subst ea;subst et;split at hk;rename_i hT;have wu:=hg.rd x;rw[hxs]at wu;obtain⟨e',he'⟩:=Option.isSome_iff_exists.1 hT;obtain⟨te,hu,_⟩:=Gq hE he';have hv:∃b cap,a.eval x=.slice b xs.length cap:=by
  have hc:=fO wu;cases fl with
  |nest _ _ _ _ _ _=>obtain⟨_,_,⟨o1,n1,k1,h1,h2⟩,_⟩:=hc;exact⟨o1,k1,by rw[h1,h2]⟩
  |part _ _ _ _=>obtain⟨_,_,⟨o1,n1,k1,h1,h2⟩,_⟩:=hc;exact⟨o1,k1,by rw[h1,h2]⟩
  |gH _ _ _=>obtain⟨_,⟨k,_,b,o0,cap,arr,T,fr,fps,h1,_⟩,_⟩:=hc;exact⟨_,_,h1⟩
  |own t=>obtain⟨⟨u,hu,ho⟩,_⟩:=hc;simp at hu;subst hu;rcases ho with⟨⟨_,h1⟩,rfl,_⟩|⟨b,_,cap,_,_,_,_,h1,_⟩;exact⟨_,_,h1⟩;exact⟨_,_,h1⟩
  |arg _=>obtain⟨_,u,hu,ho⟩:=hc;simp at hu;subst hu;rcases ho with⟨⟨ad,h1⟩,rfl⟩|⟨b,ob,cap,h1,_⟩;exact⟨ad,0,h1⟩;exact⟨_,_,h1⟩
  |loc ep pv=>obtain⟨_,_,⟨b,n,k,h1,h2⟩,_⟩:=hc;exact⟨b,k,by rw[h1,h2]⟩
 obtain⟨b,cap,hv⟩:=hv;refine wD h (.int .i64 _) _ ?_ (ma _ _) hk;simp[execOp,ho,resolve,invoke,builtin,Builtin.len_,underlying,hu,hv,goInt];cases hk;cases hk
theorem Qy {u v:AV}(h:args.toList.map st.rd=[u,v]):∃x y,args=#[x,y]/\st.rd x=u/\st.rd y=v:=by match hl:args.toList with|[]=>rw[hl]at h;simp at h|[_]=>rw[hl]at h;simp at h|[x,y]=>rw[hl]at h;simp at h;exact⟨x,y,by apply gj;simpa using hl,h.1,h.2⟩|_::_::_::_=>rw[hl]at h;simp at h
theorem ahE {o:Oper}(ho:o.op=.call {callee:=.builtin .min,args,argTypes:=ts})(h:pT C st a w){K:AS->aC R}(hk:Re o args.toList st K=some r):ox P C o a w K r:=by obtain⟨g,hg⟩:=id h;unfold Re at hk;split at hk;rename_i k x k' y il;obtain⟨p,q,rfl,hp,hq⟩:=Qy il;have wo:=hg.rd p;have hqv:=hg.rd q;rw[hp]at wo;rw[hq]at hqv;refine wD h (.int k _) _ ?_ (ma _ _) hk;simp[execOp,ho,resolve,invoke,builtin,Builtin.min_,Builtin.min2,kg wo,kg hqv];cases hk
theorem ahD {o:Oper}(ho:o.op=.call {callee:=.builtin .max,args,argTypes:=ts})(h:pT C st a w){K:AS->aC R}(hk:Rd o args.toList st K=some r):ox P C o a w K r:=by obtain⟨g,hg⟩:=id h;unfold Rd at hk;split at hk;rename_i k x k' y il;obtain⟨p,q,rfl,hp,hq⟩:=Qy il;have wo:=hg.rd p;have hqv:=hg.rd q;rw[hp]at wo;rw[hq]at hqv;refine wD h (.int k _) _ ?_ (ma _ _) hk;simp[execOp,ho,resolve,invoke,builtin,Builtin.max_,Builtin.max2,kg wo,kg hqv];cases hk
end Go.Dn
