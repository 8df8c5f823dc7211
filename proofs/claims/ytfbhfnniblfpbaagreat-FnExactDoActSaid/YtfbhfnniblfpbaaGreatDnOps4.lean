import Derived.Test.YtfbhfnniblfpbaaGreatDnOps3
import Derived.Test.YtfbhfnniblfpbaaGreatDnEq
/- Part 4: addresses, numbers, strings, slices of slices. -/
namespace Go.Dn
open Go.RowKit
variable {P:Program} {C:Ctx} {st:AS} {a:Act} {w:World} {R:Type} {r:R}
variable {args:Array Operand} {ts:Array TypeId} {x:Operand} {T:TypeId}
theorem XU {E:Env}(hE:jm P E.ty){o:Oper}{S:TypeId}{p:Operand}{f:Nat}(ho:o.op=.fieldAddr S p f)(h:nt C st a w){K:AS->aw R}(hk:BR E o S p f st K=some r):mZ P C o a w K r:=by
 unfold BR at hk
 have run:∀(sh:Shape),iT E.ty S=some sh->sh.agg=true->∀fo n,nth sh.jV f=some (fo,n)->∀b off,a.eval p=.pointer (some ⟨b,off,none⟩)->
  (execOp a.eval o).run P w=.ok (.value (.pointer (some ⟨b,off+fo,none⟩))) w:=by
  intro sh hS Nm fo n hf b off hv
  obtain⟨fs,hu,Ig⟩:=(hE S sh hS).agg Nm
  rw[dA]at hf
  obtain⟨fd,hfd,Qn,hn,i,hi,tu⟩:=Ig f fo n hf
  simp only[execOp,ho,hv,Instr.fieldAt,Instr.sureAddr,underlying,Sem.run_bind,run_program,hu,Result.andThen_ok,Sem.run_pure,hfd,fieldPlace,sizeOf,typeInfo,hi,tu,Qn]
  rw[mG]
  simp[nv]
 obtain⟨g,hg⟩:=id h;have vO:=hg.rd p;split at hk;rename_i ct jV s off hS hp;split at hk;rename_i fo n hf;rw[hp]at vO;have hv:=Dv vO;have P9:=(dQ vO).2.1;refine⟨_,_,_,.inl (run _ hS rfl fo n hf _ _ hv),?_,hk⟩;exact⟨g,hg.quiet o.dst (mN ⟨rfl,P9,rfl⟩)⟩;cases hk;rename_i ct jV fl e x i off hS hp;split at hk;rename_i fo n hf;rw[hp]at vO;have hc:=dQ vO;cases fl with
 |own t=>exact hc.elim
 |nest _ _ _ _ _ _=>exact hc.elim
 |part _ _ _ _=>exact hc.elim
 |fe _ _ _=>exact hc.elim
 |arg _=>obtain⟨h1,b,ob,hv,h2⟩:=hc;refine⟨_,_,_,.inl (run _ hS rfl fo n hf _ _ hv),?_,hk⟩;exact⟨g,hg.quiet o.dst (mN ⟨rfl,b,ob,by rw[fE],h2⟩)⟩
 |loc ep pv=>obtain⟨h1,b,ob,hv,h2⟩:=hc;refine⟨_,_,_,.inl (run _ hS rfl fo n hf _ _ hv),?_,hk⟩;exact⟨g,hg.quiet o.dst (mN ⟨rfl,b,ob,by rw[fE],h2⟩)⟩
 cases hk;cases hk
theorem Hj {E:Env}(hE:jm P E.ty){e:CT}(h:E.sl T=some e):∃te,P.underlying T=some (.slice te)/\NF P te e:=by unfold Env.sl at h;split at h;rename_i e' jV hT;simp at h;subst h;obtain⟨te,hu,he,_⟩:=(hE T _ hT).sl _ rfl rfl;exact⟨te,hu,he⟩;cases h
theorem Ua {E:Env}(hE:jm P E.ty)(h:E.str T=true):P.underlying T=some .string:=by unfold Env.str at h;split at h;rename_i jV hT;exact(hE T _ hT).str rfl rfl;cases h
theorem af0 {E:Env}(hE:jm P E.ty)(h:E.bool T=true):P.underlying T=some .bool:=by unfold Env.bool at h;split at h;rename_i jV hT;exact(hE T _ hT).bool rfl rfl;cases h
theorem aX {α:Type}{xs:ar α}{n:Int}{y:α}(h:idx xs n=some y):∃k:Nat,n=k/\k<xs.length/\xs[k]?=some y:=by obtain⟨k,h1,h2⟩:=OA h;exact⟨k,h1,(aD.1 h2).1,h2⟩
theorem OL {E:Env}(hE:jm P E.ty){o:Oper}{i:Operand}(ho:o.op=.indexAddr T x i)(h:nt C st a w){K:AS->aw R}(hk:mM E o T x i st K=some r):mZ P C o a w K r:=by
 unfold mM at hk;obtain⟨g,hg⟩:=id h;have vP:=hg.fresh (hg.rd x);have hiv:=hg.rd i;split at hk;rename_i e' fl e xs kd n hT hx hi;split at hk;rename_i hc;obtain⟨rfl,pg⟩:=hc;rw[hx]at vP;rw[hi]at hiv;have hxc:=dQ vP;have uu:=iR hiv;cases EP:idx xs n with
 |none=>rw[EP]at hk;cases hk
 |some y=>
  rw[EP]at hk;simp only[aa]at hk;obtain⟨k,rfl,hkl,hky⟩:=aX EP;obtain⟨te,hu,⟨inf,z,Ea,tu,_⟩,_⟩:=Hj hE hT;have run:∀b ob cap,a.eval x=.slice (some ⟨b,ob,none⟩) xs.length cap->(execOp a.eval o).run P w=.ok (.value (.pointer (some ⟨b,ob+k*e'.size,none⟩))) w:=by intro b ob cap hv;simp[execOp,ho,hv,uu,Instr.indexAt,asIntOf,underlying,hu,sizeOf,typeInfo,Ea,tu,hkl,nv]
  cases fl with
  |own t=>cases pg
  |nest _ _ _ _ _ _=>cases pg
  |part _ _ _ _=>cases pg
  |fe _ _ _=>cases pg
  |arg _=>obtain⟨_,v,hv,hr⟩:=hxc;simp at hv;subst hv;rcases hr with⟨_,rfl⟩|⟨b,ob,cap,hv,_,hr⟩;simp at hky;obtain⟨cs,Li,J0⟩:=hr k y hky;refine⟨_,_,_,.inl (run b ob cap hv),?_,hk⟩;exact⟨g,hg.quiet o.dst (mN ⟨rfl,b,ob+k*e'.size,rfl,cs,Li,J0⟩)⟩
  |loc ep pv=>
   obtain⟨_,xQ,_,J0,vO⟩:=hxc;have ap3:ep=st.ep:=by simpa[qI.live]using pg
   obtain⟨v,hv,hr⟩:=J0 ap3;simp at hv;subst hv;rcases hr with⟨_,rfl⟩|⟨b,ob,cap,hv,_,hr⟩;simp at hky;obtain⟨cs,Li,aek⟩:=hr k y hky;refine⟨_,_,_,.inl (run b ob cap hv),?_,hk⟩;refine⟨g,hg.quiet o.dst (mN ⟨rfl,b,ob+k*e'.size,rfl,xQ,λ_=>⟨cs,Li,aek⟩,λrt t hp=>?_⟩)⟩;obtain⟨h1,h2⟩:=vO rt t hp;exact⟨h1,k,ob,xs.length,cap,rfl,by rw[<-h2,hv],hkl,rfl⟩
 cases hk;cases hk
theorem yX (s:ar UInt8):(ByteArray.mk s.toArray).size=s.length:=by show s.toArray.size=s.length;simp
theorem aaV (s:ar UInt8)(n:Nat):(ByteArray.mk s.toArray)[n]?=s[n]?:=by
 simp only[getElem?_def];by_cases h:n<s.length;have h':n<(ByteArray.mk s.toArray).size:=by rw[yX];exact h
 rw[dif_pos h',dif_pos h];rfl;have h':¬n<(ByteArray.mk s.toArray).size:=by rw[yX];exact h
 rw[dif_neg h',dif_neg h]
theorem Yr {E:Env}(hE:jm P E.ty){o:Oper}{i:Operand}(ho:o.op=.index T x i)(h:nt C st a w){K:AS->aw R}(hk:DJ E o T x i st K=some r):mZ P C o a w K r:=by
 unfold DJ at hk;obtain⟨g,hg⟩:=id h;have vP:=hg.rd x;have hiv:=hg.rd i;split at hk;rename_i s kd n hx hi;split at hk;rename_i hT;rw[hx]at vP;rw[hi]at hiv;have hxc:=(dQ vP).1;have uu:=iR hiv;cases EP:idx s n with
 |none=>rw[EP]at hk;cases hk
 |some y=>
  rw[EP]at hk;simp only[aa]at hk;obtain⟨k,rfl,hkl,hky⟩:=aX EP;have hu:=Ua hE hT;have dI:(execOp a.eval o).run P w=.ok (.value (.int .u8 y.toNat)) w:=by simp[execOp,ho,hxc,uu,Instr.index,asIntOf,underlying,hu,aaV,hky]
  refine⟨_,_,_,.inl dI,?_,hk⟩;exact⟨g,hg.quiet o.dst (mN ⟨rfl,rfl⟩)⟩
 cases hk;cases hk
theorem vW {o:Oper}(h:nt C st a w){K:AS->aw R}(v:Value)(c:AC)(dI:(execOp a.eval o).run P w=.ok (.value v) w)(dC:∀rc:RC,gI rc v c [])(hk:K (st.put o.dst (.one c))=some r):mZ P C o a w K r:=by obtain⟨g,hg⟩:=h;exact⟨v,w,_,.inl dI,⟨g,hg.quiet o.dst (mN (dC _))⟩,hk⟩
theorem kB (k:IntKind)(n:Int)(rc:RC):gI rc (.int k n) (.int k n) []:=⟨rfl,rfl⟩
theorem CD (b:Bool)(rc:RC):gI rc (.bool b) (.bool b) []:=⟨rfl,rfl⟩
theorem Nt (s:ar UInt8)(rc:RC):gI rc (.string ⟨s.toArray⟩) (.str s) []:=⟨rfl,rfl⟩
theorem ahe {o:Oper}{op:UnOp}(ho:o.op=.unOp op T x)(h:nt C st a w){K:AS->aw R}(hk:(unC op (st.rd x) λc=>K (st.put o.dst (.one c)))=some r):mZ P C o a w K r:=by obtain⟨g,hg⟩:=id h;have vP:=hg.rd x;unfold unC at hk;split at hk;rename_i b hx;rw[hx]at vP;have hv:=xg vP;exact vW h _ _ (by simp[execOp,ho,hv,Op.unary]) (CD _) hk;rename_i k n hx;rw[hx]at vP;have hv:=iR vP;exact vW h _ _ (by simp only[execOp,ho,hv,Op.unary,Op.intArith];rfl) (kB _ _) hk;rename_i k n hx;rw[hx]at vP;have hv:=iR vP;exact vW h _ _ (by simp only[execOp,ho,hv,Op.unary,Op.intBits];rfl) (kB _ _) hk;cases hk
theorem LC {o:Oper}(ho:o.op=.nilCheck x)(h:nt C st a w){K:AS->aw R}{fl:qI}{e:CT}{y:e.D}{i:Int}{off:Nat}(hx:st.rd x=.val false [.C1 fl e y i off])(hk:K (st.put o.dst (.one (.C1 fl e y i off)))=some r):mZ P C o a w K r:=by
 obtain⟨g,hg⟩:=id h;have vP:=hg.rd x;rw[hx]at vP;have hc:=dQ vP;have hv:∃b q,a.eval x=.pointer (some ⟨b,q,none⟩):=by
  cases fl with
  |own t=>exact hc.elim
  |nest _ _ _ _ _ _=>exact hc.elim
  |part _ _ _ _=>exact hc.elim
  |fe _ _ _=>exact hc.elim
  |arg _=>obtain⟨_,b,q,hv,_⟩:=hc;exact⟨b,_,hv⟩
  |loc ep pv=>obtain⟨_,b,q,hv,_⟩:=hc;exact⟨b,_,hv⟩
 obtain⟨b,q,hv⟩:=hv;exact⟨.pointer (some ⟨b,q,none⟩),_,_,.inl (by simp only[execOp,ho,hv];rfl),⟨g,hg.quiet o.dst (by rw[<-hv];exact vP)⟩,hk⟩
theorem QD {o:Oper}(ho:o.op=.nilCheck x)(h:nt C st a w){K:AS->aw R}{s off:Nat}(hx:st.rd x=.val false [.ptr s off])(hk:K (st.put o.dst (.one (.ptr s off)))=some r):mZ P C o a w K r:=by obtain⟨g,hg⟩:=id h;have vP:=hg.rd x;rw[hx]at vP;have hv:=Dv vP;exact⟨.pointer (some ⟨g.β s,off,none⟩),_,_,.inl (by simp only[execOp,ho,hv];rfl),⟨g,hg.quiet o.dst (mN (x:=.ptr s off) ⟨rfl,(dQ vP).2.1,rfl⟩)⟩,hk⟩
theorem abP {op:BinOp}{k:IntKind}{x y:Int}{K:AC->aw R}(hk:Ki op k x y K=some r)(T:TypeId)(w:World): ∃c v,(binOp op T (.int k x) (.int k y)).run P w=.ok v w/\(∀rc:RC,gI rc v c [])/\K c=some r:=by
 cases op<;>simp only[Ki]at hk<;>(try (cases hk;done))<;>simp only[binOp,ne_eq,not_true_eq_false,cc]
 case quo=>
  split at hk
  ·cases hk
  ·rename_i hy
   exact⟨_,.int k _,by simp only[Op.intDiv,hy,cc];rfl,kB _ _,hk⟩
 case rem=>
  split at hk
  ·cases hk
  ·rename_i hy
   exact⟨_,.int k _,by simp only[Op.intDiv,hy,cc];rfl,kB _ _,hk⟩
 case add=>exact⟨_,_,rfl,kB _ _,hk⟩
 case sub=>exact⟨_,_,rfl,kB _ _,hk⟩
 case mul=>exact⟨_,_,rfl,kB _ _,hk⟩
 case and=>exact⟨_,_,rfl,kB _ _,hk⟩
 case or=>exact⟨_,_,rfl,kB _ _,hk⟩
 case xor=>exact⟨_,_,rfl,kB _ _,hk⟩
 case andNot=>exact⟨_,_,rfl,kB _ _,hk⟩
 all_goals exact⟨_,_,rfl,CD _,hk⟩
theorem aaQ (x y:ar UInt8):(ByteArray.mk x.toArray)++(ByteArray.mk y.toArray)=ByteArray.mk (x++y).toArray:=by apply ByteArray.ext;rw[ByteArray.data_append];simp
theorem ac1 {op:BinOp}{x y:ar UInt8}{K:AC->aw R}(hk:MF op x y K=some r)(T:TypeId)(w:World): ∃c v,(binOp op T (.string ⟨x.toArray⟩) (.string ⟨y.toArray⟩)).run P w=.ok v w/\(∀rc:RC,gI rc v c [])/\K c=some r:=by
 cases op<;>simp only[MF]at hk<;>(try (cases hk;done))<;>simp only[binOp,Op.stringOp,toList_mk]
 case add=>
  unfold room at hk
  split at hk
  ·rename_i hle
   have hs:¬(((ByteArray.mk x.toArray).size+(ByteArray.mk y.toArray).size:Nat):Int)>IntKind.i64.max:=by
    have e1:=yX x;have e2:=yX y;rw[e1,e2];have:IntKind.i64.max=9223372036854775807:=by decide
    omega
   exact⟨_,_,by rw[aF hs,aaQ];rfl,Nt _,hk⟩
  ·cases hk
 all_goals exact⟨_,_,rfl,CD _,hk⟩
theorem M5 (w:World)(D:Nat)(T te:TypeId)(hu:P.underlying T=some (.slice te)):(Op.equalIn (D+1) T (.slice none 0 0) (.slice none 0 0)).run P w=.ok true w:=by unfold Op.equalIn;simp only[underlying,Sem.run_bind,run_program,hu,Result.andThen_ok,Sem.run_pure];rfl
theorem LO (w:World)(D:Nat)(T te:TypeId)(hu:P.underlying T=some (.slice te))(ad:Addr)(n k:Nat):(Op.equalIn (D+1) T (.slice (some ad) n k) (.slice none 0 0)).run P w=.ok false w:=by unfold Op.equalIn;simp only[underlying,Sem.run_bind,run_program,hu,Result.andThen_ok,Sem.run_pure]
theorem ado {E:Env}(hE:jm P E.ty)(hQ:Uv P E.eqs){o:Oper}{op:BinOp}{T':TypeId}{y:Operand}(ho:o.op=.binOp op T x y T')(h:nt C st a w){K:AS->aw R}(hk:CW E o op T x y st K=some r):mZ P C o a w K r:=by
 obtain⟨g,hg⟩:=id h;have vP:=hg.rd x;have Ro:=hg.rd y;have fin:∀v c,(do eqGuard op T x y (a.eval x) (a.eval y);binOp op T (a.eval x) (a.eval y):Sem Value).run P w=.ok v w->(∀rc:RC,gI rc v c [])->K (st.put o.dst (.one c))=some r->mZ P C o a w K r:=by intro v c dI dC S4;refine⟨v,w,_,.inl ?_,⟨g,hg.quiet o.dst (mN (dC _))⟩,S4⟩;simp only[execOp,ho];show((do eqGuard op T x y (a.eval x) (a.eval y);binOp op T (a.eval x) (a.eval y):Sem Value)>>=λv=>pure (Next.value v)).run P w=_;rw[Sem.run_bind,dI];rfl
 have Ol:∀{k k':IntKind}{p q:Int},(eqGuard op T x y (.int k p) (.int k' q)).run P w=.ok () w:=by intros;unfold eqGuard;split<;>rfl
 have adV:∀{p q:ByteArray},(eqGuard op T x y (.string p) (.string q)).run P w=.ok () w:=by intros;unfold eqGuard;split<;>rfl
 have abg:∀{p q:Bool},(eqGuard op T x y (.bool p) (.bool q)).run P w=.ok () w:=by intros;unfold eqGuard;split<;>rfl
 unfold CW at hk;split at hk
 ·rename_i p q hx hy;rw[hx]at vP;rw[hy]at Ro;split at hk;·rename_i hT;have hu:=af0 hE hT;simp only[Ic]at hk;cases op<;>simp only at hk<;>(try (cases hk;done));all_goals refine fin _ _ ?_ (CD _) hk;rw[xg vP,xg Ro,Sem.run_bind,abg];simp only[Result.andThen_ok,binOp,Op.equal,Op.maxDepth,Sem.run_bind];rw[run_equalIn_bool' w 9999 T p q hu];rfl
  cases hk
 ·rename_i xs ys hx hy;rw[hx]at vP;rw[hy]at Ro;split at hk
  ·rename_i ls hT;split at hk
   ·rename_i hf;obtain⟨vs,hcx,Vo⟩:=vP;obtain⟨us,hcy,hry⟩:=Ro;simp only[Cut,bL]at hcx hcy;have hgd:(eqGuard op T x y (.agg vs.toArray) (.agg us.toArray)).run P w=.ok () w:=by have hgt:=(hQ T ls hT).2.2;unfold eqGuard;cases op<;>simp[hgt]
    simp only[Ic]at hk;cases op<;>simp only at hk<;>(try (cases hk;done));all_goals cases he:vU xs ys with|none=>rw[he]at hk;cases hk|some b=>rw[he]at hk;simp only[aa]at hk;refine fin _ _ ?_ (CD _) hk;rw[hcx,hcy,Sem.run_bind,hgd];simp only[Result.andThen_ok,binOp,Sem.run_bind,ahM hQ hT Vo hry hf he w];rfl
   cases hk
  cases hk
 ·rename_i fl e xs hx hy;rw[hx]at vP;rw[hy]at Ro;split at hk
  ·rename_i hT;obtain⟨hT,pg⟩:=hT;cases hs:E.sl T with
   |none=>rw[hs]at hT;cases hT
   |some e'=>
    obtain⟨te,hu,_⟩:=Hj hE hs;split at hk;cases hk
    ·rename_i hlen;have ajc:∃b ob n k,a.eval x=.slice (some ⟨b,ob,none⟩) n k:=by
      have hc:=dQ vP;have key:∀{S:Nat->Nat->Prop},jd w S (.sl e) [a.eval x] xs->∃b ob n k,a.eval x=.slice (some ⟨b,ob,none⟩) n k:=by rintro S ⟨u,Rm,h1⟩;simp at Rm;rcases h1 with⟨_,rfl⟩|⟨b,ob,cap,hv,_⟩;simp at hlen;exact⟨b,ob,_,_,by rw[Rm];exact hv⟩
      cases fl with
      |own t=>cases pg
      |nest _ _ _ _ _ _=>cases pg
      |part _ _ _ _=>cases pg
      |fe _ _ _=>cases pg
      |arg _=>exact key hc.2
      |loc ep pv=>
       have xQ:ep=st.ep:=by simpa[qI.live]using pg
       exact key (hc.2.2.2.1 xQ)
     obtain⟨b,ob,n,k,hv⟩:=ajc;have hyn:=(dQ Ro).1;have dI:(Op.equal T (a.eval x) (a.eval y)).run P w=.ok false w:=by rw[hv,hyn];exact LO w 9999 T te hu _ _ _
     have hgd:(eqGuard op T x y (a.eval x) (a.eval y)).run P w=.ok () w:=by rw[hv,hyn];unfold eqGuard;split<;>rfl
     unfold F3 at hk;cases op<;>simp only at hk<;>(try (cases hk;done));all_goals refine fin _ _ ?_ (CD _) hk;rw[Sem.run_bind,hgd];rw[hv,hyn]at dI⊢;simp only[Result.andThen_ok,binOp,Sem.run_bind,dI];rfl
  cases hk
 ·rename_i hx hy;rw[hx]at vP;rw[hy]at Ro;split at hk
  ·rename_i hT;cases hs:E.sl T with
   |none=>rw[hs]at hT;cases hT
   |some e'=>
    obtain⟨te,hu,_⟩:=Hj hE hs;have hxn:=(dQ vP).1;have hyn:=(dQ Ro).1;have dI:(Op.equal T (.slice none 0 0) (.slice none 0 0)).run P w=.ok true w:=by exact M5 w 9999 T te hu
    have hgd:(eqGuard op T x y (.slice none 0 0) (.slice none 0 0)).run P w=.ok () w:=by unfold eqGuard;split<;>rfl
    unfold F3 at hk;cases op<;>simp only at hk<;>(try (cases hk;done));all_goals refine fin _ _ ?_ (CD _) hk;rw[hxn,hyn,Sem.run_bind,hgd];simp only[Result.andThen_ok,binOp,Sem.run_bind,dI];rfl
  cases hk
 rename_i va vb EA CQ hn3 hn4;unfold Ic at hk;split at hk;rename_i k p k' q hx hy;rw[hx]at vP;rw[hy]at Ro;split at hk;split at hk;cases hk;rename_i hq;refine fin _ _ ?_ (kB _ _) hk;rw[iR vP,iR Ro,Sem.run_bind,Ol];simp only[Result.andThen_ok,binOp,Op.shift,hq,cc];rfl;split at hk;cases hk;rename_i hq;refine fin _ _ ?_ (kB _ _) hk;rw[iR vP,iR Ro,Sem.run_bind,Ol];simp only[Result.andThen_ok,binOp,Op.shift,hq,cc];rfl;split at hk;rename_i S4;subst S4;obtain⟨c,v,dI,dC,hkc⟩:=abP (P:=P) hk T w;refine fin v c ?_ dC hkc;rw[iR vP,iR Ro,Sem.run_bind,Ol];exact dI;cases hk;rename_i p q hx hy;rw[hx]at vP;rw[hy]at Ro;obtain⟨c,v,dI,dC,hkc⟩:=ac1 (P:=P) hk T w;refine fin v c ?_ dC hkc;rw[(dQ vP).1,(dQ Ro).1,Sem.run_bind,adV];exact dI;rename_i p q hx hy;exact absurd hy (EA p q hx);rename_i xs ys hx hy;exact absurd hy (CQ xs ys hx);cases hk
theorem aeN {E:Env}(hE:jm P E.ty){o:Oper}(ho:o.op=.call {callee:=.builtin .len,args,argTypes:=ts})(h:nt C st a w){K:AS->aw R}(hk:OR E o ts.toList args.toList st K=some r):mZ P C o a w K r:=by
 obtain⟨g,hg⟩:=id h;unfold OR at hk;split at hk;rename_i t s qT fb;obtain⟨x,hx,hxs⟩:∃x,args.toList=[x]/\st.rd x=.val false [.str s]:=by cases hl:args.toList with|nil=>rw[hl]at fb;simp at fb|cons x l=>rw[hl]at fb;simp at fb;exact⟨x,by rw[fb.2],fb.1⟩
 have ea:args=#[x]:=by apply ef;simpa using hx
 have et:ts=#[t]:=by apply ef;simpa using qT
 subst ea;subst et;split at hk;rename_i hT;have vP:=hg.rd x;rw[hxs]at vP;have hv:=(dQ vP).1;refine vW h (.int .i64 _) _ ?_ (kB _ _) hk;simp[execOp,ho,resolve,invoke,builtin,Builtin.len_,underlying,Ua hE hT,hv,goInt,yX];cases hk;rename_i t fl e xs qT fb;obtain⟨x,hx,hxs⟩:∃x,args.toList=[x]/\st.rd x=.val false [.sl fl e xs]:=by cases hl:args.toList with|nil=>rw[hl]at fb;simp at fb|cons x l=>rw[hl]at fb;simp at fb;exact⟨x,by rw[fb.2],fb.1⟩
 have ea:args=#[x]:=by apply ef;simpa using hx
 have et:ts=#[t]:=by apply ef;simpa using qT
 subst ea;subst et;split at hk;rename_i hT;have vP:=hg.rd x;rw[hxs]at vP;obtain⟨e',he'⟩:=Option.isSome_iff_exists.1 hT;obtain⟨te,hu,_⟩:=Hj hE he';have hv:∃b cap,a.eval x=.slice b xs.length cap:=by
  have hc:=dQ vP;cases fl with
  |nest _ _ _ _ _ _=>obtain⟨_,_,⟨o1,n1,k1,h1,h2⟩,_⟩:=hc;exact⟨o1,k1,by rw[h1,h2]⟩
  |part _ _ _ _=>obtain⟨_,_,⟨o1,n1,k1,h1,h2⟩,_⟩:=hc;exact⟨o1,k1,by rw[h1,h2]⟩
  |fe _ _ _=>obtain⟨_,⟨k,_,b,o0,cap,arr,T,fr,fps,h1,_⟩,_⟩:=hc;exact⟨_,_,h1⟩
  |own t=>obtain⟨⟨u,hu,ho⟩,_⟩:=hc;simp at hu;subst hu;rcases ho with⟨⟨_,h1⟩,rfl,_⟩|⟨b,_,cap,_,_,_,_,h1,_⟩;exact⟨_,_,h1⟩;exact⟨_,_,h1⟩
  |arg _=>obtain⟨_,u,hu,ho⟩:=hc;simp at hu;subst hu;rcases ho with⟨⟨ad,h1⟩,rfl⟩|⟨b,ob,cap,h1,_⟩;exact⟨ad,0,h1⟩;exact⟨_,_,h1⟩
  |loc ep pv=>obtain⟨_,_,⟨b,n,k,h1,h2⟩,_⟩:=hc;exact⟨b,k,by rw[h1,h2]⟩
 obtain⟨b,cap,hv⟩:=hv;refine vW h (.int .i64 _) _ ?_ (kB _ _) hk;simp[execOp,ho,resolve,invoke,builtin,Builtin.len_,underlying,hu,hv,goInt];cases hk;cases hk
theorem PY {u v:AV}(h:args.toList.map st.rd=[u,v]):∃x y,args=#[x,y]/\st.rd x=u/\st.rd y=v:=by match hl:args.toList with|[]=>rw[hl]at h;simp at h|[_]=>rw[hl]at h;simp at h|[x,y]=>rw[hl]at h;simp at h;exact⟨x,y,by apply ef;simpa using hl,h.1,h.2⟩|_::_::_::_=>rw[hl]at h;simp at h
theorem aeT {o:Oper}(ho:o.op=.call {callee:=.builtin .min,args,argTypes:=ts})(h:nt C st a w){K:AS->aw R}(hk:Qz o args.toList st K=some r):mZ P C o a w K r:=by obtain⟨g,hg⟩:=id h;unfold Qz at hk;split at hk;rename_i k x k' y fb;obtain⟨p,q,rfl,hp,hq⟩:=PY fb;have vO:=hg.rd p;have hqv:=hg.rd q;rw[hp]at vO;rw[hq]at hqv;refine vW h (.int k _) _ ?_ (kB _ _) hk;simp[execOp,ho,resolve,invoke,builtin,Builtin.min_,Builtin.min2,iR vO,iR hqv];cases hk
theorem aeS {o:Oper}(ho:o.op=.call {callee:=.builtin .max,args,argTypes:=ts})(h:nt C st a w){K:AS->aw R}(hk:Qy o args.toList st K=some r):mZ P C o a w K r:=by obtain⟨g,hg⟩:=id h;unfold Qy at hk;split at hk;rename_i k x k' y fb;obtain⟨p,q,rfl,hp,hq⟩:=PY fb;have vO:=hg.rd p;have hqv:=hg.rd q;rw[hp]at vO;rw[hq]at hqv;refine vW h (.int k _) _ ?_ (kB _ _) hk;simp[execOp,ho,resolve,invoke,builtin,Builtin.max_,Builtin.max2,iR vO,iR hqv];cases hk
end Go.Dn
