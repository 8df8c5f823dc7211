import Derived.Test.YtgbaemfepmabgaaGreatDnOps3
import Derived.Test.YtgbaemfepmabgaaGreatDnEq
/- Part 4: addresses, numbers, strings, slices of slices. -/
namespace Go.Dn
open Go.RowKit
variable {P:Program} {C:Ctx} {st:AS} {a:Act} {w:World} {R:Type} {r:R}
variable {args:Array Operand} {ts:Array TypeId} {x:Operand} {T:TypeId}
theorem WI {E:Env}(hE:jA P E.ty){o:Oper}{S:TypeId}{p:Operand}{f:Nat}(ho:o.op=.fieldAddr S p f)(h:oa C st a w){K:AS->az R}(hk:zH E o S p f st K=some r):mL P C o a w K r:=by
 unfold zH at hk
 have run:∀(sh:Shape),jn E.ty S=some sh->sh.agg=true->∀fo n,nth sh.offs f=some (fo,n)->∀b off,a.eval p=.pointer (some ⟨b,off,none⟩)->
  (execOp a.eval o).run P w=.ok (.value (.pointer (some ⟨b,off+fo,none⟩))) w:=by
  intro sh hS hag fo n hf b off hv
  obtain⟨fs,hu,hfs⟩:=(hE S sh hS).agg hag
  rw[ei]at hf
  obtain⟨fd,hfd,hoff,hn,i,hi,hsz⟩:=hfs f fo n hf
  simp only[execOp,ho,hv,Instr.fieldAt,Instr.sureAddr,underlying,Sem.run_bind,run_program,hu,Result.andThen_ok,Sem.run_pure,hfd,fieldPlace,sizeOf,typeInfo,hi,hsz,hoff]
  rw[nf]
  simp[nh]
 obtain⟨g,hg⟩:=id h;have hpv:=hg.rd p;split at hk;rename_i ct offs s off hS hp;split at hk;rename_i fo n hf;rw[hp]at hpv;have hv:=AU hpv;have hpr:=(eU hpv).2.1;refine⟨_,_,_,.inl (run _ hS rfl fo n hf _ _ hv),?_,hk⟩;exact⟨g,hg.quiet o.dst (mF ⟨rfl,hpr,rfl⟩)⟩;cases hk;rename_i ct offs fl e x i off hS hp;split at hk;rename_i fo n hf;rw[hp]at hpv;have hc:=eU hpv;cases fl with
 |own t=>exact hc.elim
 |nest _ _ _ _ _ _=>exact hc.elim
 |part _ _ _ _=>exact hc.elim
 |holed _ _ _=>exact hc.elim
 |arg _=>obtain⟨h1,b,ob,hv,h2⟩:=hc;refine⟨_,_,_,.inl (run _ hS rfl fo n hf _ _ hv),?_,hk⟩;exact⟨g,hg.quiet o.dst (mF ⟨rfl,b,ob,by rw[fW],h2⟩)⟩
 |loc ep pv=>obtain⟨h1,b,ob,hv,h2⟩:=hc;refine⟨_,_,_,.inl (run _ hS rfl fo n hf _ _ hv),?_,hk⟩;exact⟨g,hg.quiet o.dst (mF ⟨rfl,b,ob,by rw[fW],h2⟩)⟩
 cases hk;cases hk
theorem DW {E:Env}(hE:jA P E.ty){e:CT}(h:E.sl T=some e):∃te,P.underlying T=some (.slice te)/\Kz P te e:=by unfold Env.sl at h;split at h;rename_i e' offs hT;simp at h;subst h;obtain⟨te,hu,he,_⟩:=(hE T _ hT).sl _ rfl rfl;exact⟨te,hu,he⟩;cases h
theorem R5 {E:Env}(hE:jA P E.ty)(h:E.str T=true):P.underlying T=some .string:=by unfold Env.str at h;split at h;rename_i offs hT;exact(hE T _ hT).str rfl rfl;cases h
theorem agE {E:Env}(hE:jA P E.ty)(h:E.bool T=true):P.underlying T=some .bool:=by unfold Env.bool at h;split at h;rename_i offs hT;exact(hE T _ hT).bool rfl rfl;cases h
theorem bu {α:Type}{xs:aw α}{n:Int}{y:α}(h:idx xs n=some y):∃k:Nat,n=k/\k<xs.length/\xs[k]?=some y:=by obtain⟨k,h1,h2⟩:=TE h;exact⟨k,h1,(aC.1 h2).1,h2⟩
theorem L6 {E:Env}(hE:jA P E.ty){o:Oper}{i:Operand}(ho:o.op=.indexAddr T x i)(h:oa C st a w){K:AS->az R}(hk:mE E o T x i st K=some r):mL P C o a w K r:=by
 unfold mE at hk;obtain⟨g,hg⟩:=id h;have hxv:=hg.fresh (hg.rd x);have hiv:=hg.rd i;split at hk;rename_i e' fl e xs kd n hT hx hi;split at hk;rename_i hc;obtain⟨rfl,hlive⟩:=hc;rw[hx]at hxv;rw[hi]at hiv;have hxc:=eU hxv;have hin:=jc hiv;cases hix:idx xs n with
 |none=>rw[hix]at hk;cases hk
 |some y=>
  rw[hix]at hk;simp only[aa]at hk;obtain⟨k,rfl,hkl,hky⟩:=bu hix;obtain⟨te,hu,⟨inf,z,hinf,hsz,_⟩,_⟩:=DW hE hT;have run:∀b ob cap,a.eval x=.slice (some ⟨b,ob,none⟩) xs.length cap->(execOp a.eval o).run P w=.ok (.value (.pointer (some ⟨b,ob+k*e'.size,none⟩))) w:=by intro b ob cap hv;simp[execOp,ho,hv,hin,Instr.indexAt,asIntOf,underlying,hu,sizeOf,typeInfo,hinf,hsz,hkl,nh]
  cases fl with
  |own t=>cases hlive
  |nest _ _ _ _ _ _=>cases hlive
  |part _ _ _ _=>cases hlive
  |holed _ _ _=>cases hlive
  |arg _=>obtain⟨_,v,hv,hr⟩:=hxc;simp at hv;subst hv;rcases hr with⟨_,rfl⟩|⟨b,ob,cap,hv,_,hr⟩;simp at hky;obtain⟨cs,hcs,hrep⟩:=hr k y hky;refine⟨_,_,_,.inl (run b ob cap hv),?_,hk⟩;exact⟨g,hg.quiet o.dst (mF ⟨rfl,b,ob+k*e'.size,rfl,cs,hcs,hrep⟩)⟩
  |loc ep pv=>
   obtain⟨_,hep,_,hrep,hpv⟩:=hxc;have hepe:ep=st.ep:=by simpa[qv.live]using hlive
   obtain⟨v,hv,hr⟩:=hrep hepe;simp at hv;subst hv;rcases hr with⟨_,rfl⟩|⟨b,ob,cap,hv,_,hr⟩;simp at hky;obtain⟨cs,hcs,hrep'⟩:=hr k y hky;refine⟨_,_,_,.inl (run b ob cap hv),?_,hk⟩;refine⟨g,hg.quiet o.dst (mF ⟨rfl,b,ob+k*e'.size,rfl,hep,λ_=>⟨cs,hcs,hrep'⟩,λrt t hp=>?_⟩)⟩;obtain⟨h1,h2⟩:=hpv rt t hp;exact⟨h1,k,ob,xs.length,cap,rfl,by rw[<-h2,hv],hkl,rfl⟩
 cases hk;cases hk
theorem xi (s:aw UInt8):(ByteArray.mk s.toArray).size=s.length:=by show s.toArray.size=s.length;simp
theorem aas (s:aw UInt8)(n:Nat):(ByteArray.mk s.toArray)[n]?=s[n]?:=by
 simp only[getElem?_def];by_cases h:n<s.length;have h':n<(ByteArray.mk s.toArray).size:=by rw[xi];exact h
 rw[dif_pos h',dif_pos h];rfl;have h':¬n<(ByteArray.mk s.toArray).size:=by rw[xi];exact h
 rw[dif_neg h',dif_neg h]
theorem Xi {E:Env}(hE:jA P E.ty){o:Oper}{i:Operand}(ho:o.op=.index T x i)(h:oa C st a w){K:AS->az R}(hk:Bm E o T x i st K=some r):mL P C o a w K r:=by
 unfold Bm at hk;obtain⟨g,hg⟩:=id h;have hxv:=hg.rd x;have hiv:=hg.rd i;split at hk;rename_i s kd n hx hi;split at hk;rename_i hT;rw[hx]at hxv;rw[hi]at hiv;have hxc:=(eU hxv).1;have hin:=jc hiv;cases hix:idx s n with
 |none=>rw[hix]at hk;cases hk
 |some y=>
  rw[hix]at hk;simp only[aa]at hk;obtain⟨k,rfl,hkl,hky⟩:=bu hix;have hu:=R5 hE hT;have hrun:(execOp a.eval o).run P w=.ok (.value (.int .u8 y.toNat)) w:=by simp[execOp,ho,hxc,hin,Instr.index,asIntOf,underlying,hu,aas,hky]
  refine⟨_,_,_,.inl hrun,?_,hk⟩;exact⟨g,hg.quiet o.dst (mF ⟨rfl,rfl⟩)⟩
 cases hk;cases hk
theorem uO {o:Oper}(h:oa C st a w){K:AS->az R}(v:Value)(c:AC)(hrun:(execOp a.eval o).run P w=.ok (.value v) w)(hrel:∀rc:RC,hY rc v c [])(hk:K (st.put o.dst (.one c))=some r):mL P C o a w K r:=by obtain⟨g,hg⟩:=h;exact⟨v,w,_,.inl hrun,⟨g,hg.quiet o.dst (mF (hrel _))⟩,hk⟩
theorem kq (k:IntKind)(n:Int)(rc:RC):hY rc (.int k n) (.int k n) []:=⟨rfl,rfl⟩
theorem Ad (b:Bool)(rc:RC):hY rc (.bool b) (.bool b) []:=⟨rfl,rfl⟩
theorem Kq (s:aw UInt8)(rc:RC):hY rc (.string ⟨s.toArray⟩) (.str s) []:=⟨rfl,rfl⟩
theorem ah9 {o:Oper}{op:UnOp}(ho:o.op=.unOp op T x)(h:oa C st a w){K:AS->az R}(hk:(unC op (st.rd x) λc=>K (st.put o.dst (.one c)))=some r):mL P C o a w K r:=by obtain⟨g,hg⟩:=id h;have hxv:=hg.rd x;unfold unC at hk;split at hk;rename_i b hx;rw[hx]at hxv;have hv:=vE hxv;exact uO h _ _ (by simp[execOp,ho,hv,Op.unary]) (Ad _) hk;rename_i k n hx;rw[hx]at hxv;have hv:=jc hxv;exact uO h _ _ (by simp only[execOp,ho,hv,Op.unary,Op.intArith];rfl) (kq _ _) hk;rename_i k n hx;rw[hx]at hxv;have hv:=jc hxv;exact uO h _ _ (by simp only[execOp,ho,hv,Op.unary,Op.intBits];rfl) (kq _ _) hk;cases hk
theorem Is {o:Oper}(ho:o.op=.nilCheck x)(h:oa C st a w){K:AS->az R}{fl:qv}{e:CT}{y:e.D}{i:Int}{off:Nat}(hx:st.rd x=.val false [.elt fl e y i off])(hk:K (st.put o.dst (.one (.elt fl e y i off)))=some r):mL P C o a w K r:=by
 obtain⟨g,hg⟩:=id h;have hxv:=hg.rd x;rw[hx]at hxv;have hc:=eU hxv;have hv:∃b q,a.eval x=.pointer (some ⟨b,q,none⟩):=by
  cases fl with
  |own t=>exact hc.elim
  |nest _ _ _ _ _ _=>exact hc.elim
  |part _ _ _ _=>exact hc.elim
  |holed _ _ _=>exact hc.elim
  |arg _=>obtain⟨_,b,q,hv,_⟩:=hc;exact⟨b,_,hv⟩
  |loc ep pv=>obtain⟨_,b,q,hv,_⟩:=hc;exact⟨b,_,hv⟩
 obtain⟨b,q,hv⟩:=hv;exact⟨.pointer (some ⟨b,q,none⟩),_,_,.inl (by simp only[execOp,ho,hv];rfl),⟨g,hg.quiet o.dst (by rw[<-hv];exact hxv)⟩,hk⟩
theorem NP {o:Oper}(ho:o.op=.nilCheck x)(h:oa C st a w){K:AS->az R}{s off:Nat}(hx:st.rd x=.val false [.ptr s off])(hk:K (st.put o.dst (.one (.ptr s off)))=some r):mL P C o a w K r:=by obtain⟨g,hg⟩:=id h;have hxv:=hg.rd x;rw[hx]at hxv;have hv:=AU hxv;exact⟨.pointer (some ⟨g.β s,off,none⟩),_,_,.inl (by simp only[execOp,ho,hv];rfl),⟨g,hg.quiet o.dst (mF (x:=.ptr s off) ⟨rfl,(eU hxv).2.1,rfl⟩)⟩,hk⟩
theorem abi {op:BinOp}{k:IntKind}{x y:Int}{K:AC->az R}(hk:GV op k x y K=some r)(T:TypeId)(w:World): ∃c v,(binOp op T (.int k x) (.int k y)).run P w=.ok v w/\(∀rc:RC,hY rc v c [])/\K c=some r:=by
 cases op<;>simp only[GV]at hk<;>(try (cases hk;done))<;>simp only[binOp,ne_eq,not_true_eq_false,cu]
 case quo=>
  split at hk
  ·cases hk
  ·rename_i hy
   exact⟨_,.int k _,by simp only[Op.intDiv,hy,cu];rfl,kq _ _,hk⟩
 case rem=>
  split at hk
  ·cases hk
  ·rename_i hy
   exact⟨_,.int k _,by simp only[Op.intDiv,hy,cu];rfl,kq _ _,hk⟩
 case add=>exact⟨_,_,rfl,kq _ _,hk⟩
 case sub=>exact⟨_,_,rfl,kq _ _,hk⟩
 case mul=>exact⟨_,_,rfl,kq _ _,hk⟩
 case and=>exact⟨_,_,rfl,kq _ _,hk⟩
 case or=>exact⟨_,_,rfl,kq _ _,hk⟩
 case xor=>exact⟨_,_,rfl,kq _ _,hk⟩
 case andNot=>exact⟨_,_,rfl,kq _ _,hk⟩
 all_goals exact⟨_,_,rfl,Ad _,hk⟩
theorem aal (x y:aw UInt8):(ByteArray.mk x.toArray)++(ByteArray.mk y.toArray)=ByteArray.mk (x++y).toArray:=by apply ByteArray.ext;rw[ByteArray.data_append];simp
theorem acD {op:BinOp}{x y:aw UInt8}{K:AC->az R}(hk:JA op x y K=some r)(T:TypeId)(w:World): ∃c v,(binOp op T (.string ⟨x.toArray⟩) (.string ⟨y.toArray⟩)).run P w=.ok v w/\(∀rc:RC,hY rc v c [])/\K c=some r:=by
 cases op<;>simp only[JA]at hk<;>(try (cases hk;done))<;>simp only[binOp,Op.stringOp,toList_mk]
 case add=>
  unfold room at hk
  split at hk
  ·rename_i hle
   have hs:¬(((ByteArray.mk x.toArray).size+(ByteArray.mk y.toArray).size:Nat):Int)>IntKind.i64.max:=by
    have e1:=xi x;have e2:=xi y;rw[e1,e2];have:IntKind.i64.max=9223372036854775807:=by decide
    omega
   exact⟨_,_,by rw[aD hs,aal];rfl,Kq _,hk⟩
  ·cases hk
 all_goals exact⟨_,_,rfl,Ad _,hk⟩
theorem J8 (w:World)(D:Nat)(T te:TypeId)(hu:P.underlying T=some (.slice te)):(Op.equalIn (D+1) T (.slice none 0 0) (.slice none 0 0)).run P w=.ok true w:=by unfold Op.equalIn;simp only[underlying,Sem.run_bind,run_program,hu,Result.andThen_ok,Sem.run_pure];rfl
theorem II (w:World)(D:Nat)(T te:TypeId)(hu:P.underlying T=some (.slice te))(ad:Addr)(n k:Nat):(Op.equalIn (D+1) T (.slice (some ad) n k) (.slice none 0 0)).run P w=.ok false w:=by unfold Op.equalIn;simp only[underlying,Sem.run_bind,run_program,hu,Result.andThen_ok,Sem.run_pure]
theorem ac5 {E:Env}(hE:jA P E.ty)(hQ:Se P E.eqs){o:Oper}{op:BinOp}{T':TypeId}{y:Operand}(ho:o.op=.binOp op T x y T')(h:oa C st a w){K:AS->az R}(hk:Ay E o op T x y st K=some r):mL P C o a w K r:=by
 obtain⟨g,hg⟩:=id h;have hxv:=hg.rd x;have hyv:=hg.rd y;have fin:∀v c,(do eqGuard op T x y (a.eval x) (a.eval y);binOp op T (a.eval x) (a.eval y):Sem Value).run P w=.ok v w->(∀rc:RC,hY rc v c [])->K (st.put o.dst (.one c))=some r->mL P C o a w K r:=by intro v c hrun hrel hkk;refine⟨v,w,_,.inl ?_,⟨g,hg.quiet o.dst (mF (hrel _))⟩,hkk⟩;simp only[execOp,ho];show((do eqGuard op T x y (a.eval x) (a.eval y);binOp op T (a.eval x) (a.eval y):Sem Value)>>=λv=>pure (Next.value v)).run P w=_;rw[Sem.run_bind,hrun];rfl
 have guardInt:∀{k k':IntKind}{p q:Int},(eqGuard op T x y (.int k p) (.int k' q)).run P w=.ok () w:=by intros;unfold eqGuard;split<;>rfl
 have guardStr:∀{p q:ByteArray},(eqGuard op T x y (.string p) (.string q)).run P w=.ok () w:=by intros;unfold eqGuard;split<;>rfl
 have guardBool:∀{p q:Bool},(eqGuard op T x y (.bool p) (.bool q)).run P w=.ok () w:=by intros;unfold eqGuard;split<;>rfl
 unfold Ay at hk;split at hk
 ·rename_i p q hx hy;rw[hx]at hxv;rw[hy]at hyv;split at hk;·rename_i hT;have hu:=agE hE hT;simp only[EH]at hk;cases op<;>simp only at hk<;>(try (cases hk;done));all_goals refine fin _ _ ?_ (Ad _) hk;rw[vE hxv,vE hyv,Sem.run_bind,guardBool];simp only[Result.andThen_ok,binOp,Op.equal,Op.maxDepth,Sem.run_bind];rw[run_equalIn_bool' w 9999 T p q hu];rfl
  cases hk
 ·rename_i xs ys hx hy;rw[hx]at hxv;rw[hy]at hyv;split at hk
  ·rename_i ls hT;split at hk
   ·rename_i hf;obtain⟨vs,hcx,hrx⟩:=hxv;obtain⟨us,hcy,hry⟩:=hyv;simp only[Cut,cg]at hcx hcy;have hgd:(eqGuard op T x y (.agg vs.toArray) (.agg us.toArray)).run P w=.ok () w:=by have hgt:=(hQ T ls hT).2.2;unfold eqGuard;cases op<;>simp[hgt]
    simp only[EH]at hk;cases op<;>simp only at hk<;>(try (cases hk;done));all_goals cases he:uM xs ys with|none=>rw[he]at hk;cases hk|some b=>rw[he]at hk;simp only[aa]at hk;refine fin _ _ ?_ (Ad _) hk;rw[hcx,hcy,Sem.run_bind,hgd];simp only[Result.andThen_ok,binOp,Sem.run_bind,ajK hQ hT hrx hry hf he w];rfl
   cases hk
  cases hk
 ·rename_i fl e xs hx hy;rw[hx]at hxv;rw[hy]at hyv;split at hk
  ·rename_i hT;obtain⟨hT,hlive⟩:=hT;cases hs:E.sl T with
   |none=>rw[hs]at hT;cases hT
   |some e'=>
    obtain⟨te,hu,_⟩:=DW hE hs;split at hk;cases hk
    ·rename_i hlen;have hsome:∃b ob n k,a.eval x=.slice (some ⟨b,ob,none⟩) n k:=by
      have hc:=eU hxv;have key:∀{S:Nat->Nat->Prop},jr w S (.sl e) [a.eval x] xs->∃b ob n k,a.eval x=.slice (some ⟨b,ob,none⟩) n k:=by rintro S ⟨u,hu',h1⟩;simp at hu';rcases h1 with⟨_,rfl⟩|⟨b,ob,cap,hv,_⟩;simp at hlen;exact⟨b,ob,_,_,by rw[hu'];exact hv⟩
      cases fl with
      |own t=>cases hlive
      |nest _ _ _ _ _ _=>cases hlive
      |part _ _ _ _=>cases hlive
      |holed _ _ _=>cases hlive
      |arg _=>exact key hc.2
      |loc ep pv=>
       have hep:ep=st.ep:=by simpa[qv.live]using hlive
       exact key (hc.2.2.2.1 hep)
     obtain⟨b,ob,n,k,hv⟩:=hsome;have hyn:=(eU hyv).1;have hrun:(Op.equal T (a.eval x) (a.eval y)).run P w=.ok false w:=by rw[hv,hyn];exact II w 9999 T te hu _ _ _
     have hgd:(eqGuard op T x y (a.eval x) (a.eval y)).run P w=.ok () w:=by rw[hv,hyn];unfold eqGuard;split<;>rfl
     unfold CS at hk;cases op<;>simp only at hk<;>(try (cases hk;done));all_goals refine fin _ _ ?_ (Ad _) hk;rw[Sem.run_bind,hgd];rw[hv,hyn]at hrun⊢;simp only[Result.andThen_ok,binOp,Sem.run_bind,hrun];rfl
  cases hk
 ·rename_i hx hy;rw[hx]at hxv;rw[hy]at hyv;split at hk
  ·rename_i hT;cases hs:E.sl T with
   |none=>rw[hs]at hT;cases hT
   |some e'=>
    obtain⟨te,hu,_⟩:=DW hE hs;have hxn:=(eU hxv).1;have hyn:=(eU hyv).1;have hrun:(Op.equal T (.slice none 0 0) (.slice none 0 0)).run P w=.ok true w:=by exact J8 w 9999 T te hu
    have hgd:(eqGuard op T x y (.slice none 0 0) (.slice none 0 0)).run P w=.ok () w:=by unfold eqGuard;split<;>rfl
    unfold CS at hk;cases op<;>simp only at hk<;>(try (cases hk;done));all_goals refine fin _ _ ?_ (Ad _) hk;rw[hxn,hyn,Sem.run_bind,hgd];simp only[Result.andThen_ok,binOp,Sem.run_bind,hrun];rfl
  cases hk
 rename_i va vb hn1 hn2 hn3 hn4;unfold EH at hk;split at hk;rename_i k p k' q hx hy;rw[hx]at hxv;rw[hy]at hyv;split at hk;split at hk;cases hk;rename_i hq;refine fin _ _ ?_ (kq _ _) hk;rw[jc hxv,jc hyv,Sem.run_bind,guardInt];simp only[Result.andThen_ok,binOp,Op.shift,hq,cu];rfl;split at hk;cases hk;rename_i hq;refine fin _ _ ?_ (kq _ _) hk;rw[jc hxv,jc hyv,Sem.run_bind,guardInt];simp only[Result.andThen_ok,binOp,Op.shift,hq,cu];rfl;split at hk;rename_i hkk;subst hkk;obtain⟨c,v,hrun,hrel,hkc⟩:=abi (P:=P) hk T w;refine fin v c ?_ hrel hkc;rw[jc hxv,jc hyv,Sem.run_bind,guardInt];exact hrun;cases hk;rename_i p q hx hy;rw[hx]at hxv;rw[hy]at hyv;obtain⟨c,v,hrun,hrel,hkc⟩:=acD (P:=P) hk T w;refine fin v c ?_ hrel hkc;rw[(eU hxv).1,(eU hyv).1,Sem.run_bind,guardStr];exact hrun;rename_i p q hx hy;exact absurd hy (hn1 p q hx);rename_i xs ys hx hy;exact absurd hy (hn2 xs ys hx);cases hk
theorem ad6 {E:Env}(hE:jA P E.ty){o:Oper}(ho:o.op=.call {callee:=.builtin .len,args,argTypes:=ts})(h:oa C st a w){K:AS->az R}(hk:Mg E o ts.toList args.toList st K=some r):mL P C o a w K r:=by
 obtain⟨g,hg⟩:=id h;unfold Mg at hk;split at hk;rename_i t s hts hargs;obtain⟨x,hx,hxs⟩:∃x,args.toList=[x]/\st.rd x=.val false [.str s]:=by cases hl:args.toList with|nil=>rw[hl]at hargs;simp at hargs|cons x l=>rw[hl]at hargs;simp at hargs;exact⟨x,by rw[hargs.2],hargs.1⟩
 have ea:args=#[x]:=by apply fG;simpa using hx
 have et:ts=#[t]:=by apply fG;simpa using hts
 subst ea;subst et;split at hk;rename_i hT;have hxv:=hg.rd x;rw[hxs]at hxv;have hv:=(eU hxv).1;refine uO h (.int .i64 _) _ ?_ (kq _ _) hk;simp[execOp,ho,resolve,invoke,builtin,Builtin.len_,underlying,R5 hE hT,hv,goInt,xi];cases hk;rename_i t fl e xs hts hargs;obtain⟨x,hx,hxs⟩:∃x,args.toList=[x]/\st.rd x=.val false [.sl fl e xs]:=by cases hl:args.toList with|nil=>rw[hl]at hargs;simp at hargs|cons x l=>rw[hl]at hargs;simp at hargs;exact⟨x,by rw[hargs.2],hargs.1⟩
 have ea:args=#[x]:=by apply fG;simpa using hx
 have et:ts=#[t]:=by apply fG;simpa using hts
 subst ea;subst et;split at hk;rename_i hT;have hxv:=hg.rd x;rw[hxs]at hxv;obtain⟨e',he'⟩:=Option.isSome_iff_exists.1 hT;obtain⟨te,hu,_⟩:=DW hE he';have hv:∃b cap,a.eval x=.slice b xs.length cap:=by
  have hc:=eU hxv;cases fl with
  |nest _ _ _ _ _ _=>obtain⟨_,_,⟨o1,n1,k1,h1,h2⟩,_⟩:=hc;exact⟨o1,k1,by rw[h1,h2]⟩
  |part _ _ _ _=>obtain⟨_,_,⟨o1,n1,k1,h1,h2⟩,_⟩:=hc;exact⟨o1,k1,by rw[h1,h2]⟩
  |holed _ _ _=>obtain⟨_,⟨k,_,b,o0,cap,arr,T,fr,fps,h1,_⟩,_⟩:=hc;exact⟨_,_,h1⟩
  |own t=>obtain⟨⟨u,hu,ho⟩,_⟩:=hc;simp at hu;subst hu;rcases ho with⟨⟨_,h1⟩,rfl,_⟩|⟨b,_,cap,_,_,_,_,h1,_⟩;exact⟨_,_,h1⟩;exact⟨_,_,h1⟩
  |arg _=>obtain⟨_,u,hu,ho⟩:=hc;simp at hu;subst hu;rcases ho with⟨⟨ad,h1⟩,rfl⟩|⟨b,ob,cap,h1,_⟩;exact⟨ad,0,h1⟩;exact⟨_,_,h1⟩
  |loc ep pv=>obtain⟨_,_,⟨b,n,k,h1,h2⟩,_⟩:=hc;exact⟨b,k,by rw[h1,h2]⟩
 obtain⟨b,cap,hv⟩:=hv;refine uO h (.int .i64 _) _ ?_ (kq _ _) hk;simp[execOp,ho,resolve,invoke,builtin,Builtin.len_,underlying,hu,hv,goInt];cases hk;cases hk
theorem Nj {u v:AV}(h:args.toList.map st.rd=[u,v]):∃x y,args=#[x,y]/\st.rd x=u/\st.rd y=v:=by match hl:args.toList with|[]=>rw[hl]at h;simp at h|[_]=>rw[hl]at h;simp at h|[x,y]=>rw[hl]at h;simp at h;exact⟨x,y,by apply fG;simpa using hl,h.1,h.2⟩|_::_::_::_=>rw[hl]at h;simp at h
theorem aee {o:Oper}(ho:o.op=.call {callee:=.builtin .min,args,argTypes:=ts})(h:oa C st a w){K:AS->az R}(hk:NJ o args.toList st K=some r):mL P C o a w K r:=by obtain⟨g,hg⟩:=id h;unfold NJ at hk;split at hk;rename_i k x k' y hargs;obtain⟨p,q,rfl,hp,hq⟩:=Nj hargs;have hpv:=hg.rd p;have hqv:=hg.rd q;rw[hp]at hpv;rw[hq]at hqv;refine uO h (.int k _) _ ?_ (kq _ _) hk;simp[execOp,ho,resolve,invoke,builtin,Builtin.min_,Builtin.min2,jc hpv,jc hqv];cases hk
theorem aec {o:Oper}(ho:o.op=.call {callee:=.builtin .max,args,argTypes:=ts})(h:oa C st a w){K:AS->az R}(hk:NI o args.toList st K=some r):mL P C o a w K r:=by obtain⟨g,hg⟩:=id h;unfold NI at hk;split at hk;rename_i k x k' y hargs;obtain⟨p,q,rfl,hp,hq⟩:=Nj hargs;have hpv:=hg.rd p;have hqv:=hg.rd q;rw[hp]at hpv;rw[hq]at hqv;refine uO h (.int k _) _ ?_ (kq _ _) hk;simp[execOp,ho,resolve,invoke,builtin,Builtin.max_,Builtin.max2,jc hpv,jc hqv];cases hk
end Go.Dn
