import Derived.Test.YtbebkmajekhclaaGreatDnOps3
import Derived.Test.YtbebkmajekhclaaGreatDnEq
/- Part 4: addresses, numbers, strings, slices of slices. -/
namespace Go.Dn
open Go.RowKit
variable {P:Program} {C:Ctx} {st:AS} {a:Act} {w:World} {R:Type} {r:R}
variable {args:Array Operand} {ts:Array TypeId} {x:Operand} {T:TypeId}
theorem acM {E:Env}(hE:kG P E.ty){o:Oper}{S:TypeId}{p:Operand}{f:Nat}(ho:o.op=.fieldAddr S p f)(h:qe C st a w){K:AS->aB R}(hk:Cw E o S p f st K=some r):ox P C o a w K r:=by
 unfold Cw at hk
 have run:∀(sh:Shape),ko E.ty S=some sh->sh.agg=true->∀fo n,nth sh.lr f=some (fo,n)->∀b off,a.eval p=.pointer (some ⟨b,off,none⟩)->
  (execOp a.eval o).run P w=.ok (.value (.pointer (some ⟨b,off+fo,none⟩))) w:=by
  intro sh hS Pb fo n hf b off hv
  obtain⟨fs,hu,J1⟩:=(hE S sh hS).agg Pb
  rw[eU]at hf
  obtain⟨fd,hfd,S7,hn,i,hi,wI⟩:=J1 f fo n hf
  simp only[execOp,ho,hv,Instr.fieldAt,Instr.sureAddr,underlying,Sem.run_bind,run_program,hu,Result.andThen_ok,Sem.run_pure,hfd,fieldPlace,sizeOf,typeInfo,hi,wI,S7]
  rw[lI]
  simp[oR]
 obtain⟨g,hg⟩:=id h;have xm:=hg.rd p;split at hk;rename_i ct lr s off hS hp;split at hk;rename_i fo n hf;rw[hp]at xm;have hv:=DM xm;have hpr:=(fH xm).2.1;refine⟨_,_,_,.inl (run _ hS rfl fo n hf _ _ hv),?_,hk⟩;exact⟨g,hg.quiet o.dst (oo ⟨rfl,hpr,rfl⟩)⟩;cases hk;rename_i ct lr fl e x i off hS hp;split at hk;rename_i fo n hf;rw[hp]at xm;have hc:=fH xm;cases fl with
 |own t=>exact hc.elim
 |nest _ _ _ _ _ _=>exact hc.elim
 |part _ _ _ _=>exact hc.elim
 |gB _ _ _=>exact hc.elim
 |arg _=>obtain⟨h1,b,ob,hv,h2⟩:=hc;refine⟨_,_,_,.inl (run _ hS rfl fo n hf _ _ hv),?_,hk⟩;exact⟨g,hg.quiet o.dst (oo ⟨rfl,b,ob,by rw[gv],h2⟩)⟩
 |loc ep pv=>obtain⟨h1,b,ob,hv,h2⟩:=hc;refine⟨_,_,_,.inl (run _ hS rfl fo n hf _ _ hv),?_,hk⟩;exact⟨g,hg.quiet o.dst (oo ⟨rfl,b,ob,by rw[gv],h2⟩)⟩
 cases hk;cases hk
theorem Hq {E:Env}(hE:kG P E.ty){e:CT}(h:E.sl T=some e):∃te,P.underlying T=some (.slice te)/\Pw P te e:=by unfold Env.sl at h;split at h;rename_i e' lr hT;simp at h;subst h;obtain⟨te,hu,he,_⟩:=(hE T _ hT).sl _ rfl rfl;exact⟨te,hu,he⟩;cases h
theorem XK {E:Env}(hE:kG P E.ty)(h:E.str T=true):P.underlying T=some .string:=by unfold Env.str at h;split at h;rename_i lr hT;exact(hE T _ hT).str rfl rfl;cases h
theorem ane {E:Env}(hE:kG P E.ty)(h:E.bool T=true):P.underlying T=some .bool:=by unfold Env.bool at h;split at h;rename_i lr hT;exact(hE T _ hT).bool rfl rfl;cases h
theorem bB {α:Type}{xs:aw α}{n:Int}{y:α}(h:idx xs n=some y):∃k:Nat,n=k/\k<xs.length/\xs[k]?=some y:=by obtain⟨k,h1,h2⟩:=Zr h;exact⟨k,h1,(ay.1 h2).1,h2⟩
theorem Q8 {E:Env}(hE:kG P E.ty){o:Oper}{i:Operand}(ho:o.op=.indexAddr T x i)(h:qe C st a w){K:AS->aB R}(hk:om E o T x i st K=some r):ox P C o a w K r:=by
 unfold om at hk;obtain⟨g,hg⟩:=id h;have xn:=hg.fresh (hg.rd x);have hiv:=hg.rd i;split at hk;rename_i e' fl e xs kd n hT hx hi;split at hk;rename_i hc;obtain⟨rfl,qT⟩:=hc;rw[hx]at xn;rw[hi]at hiv;have hxc:=fH xn;have uX:=jR hiv;cases GP:idx xs n with
 |none=>rw[GP]at hk;cases hk
 |some y=>
  rw[GP]at hk;simp only[aa]at hk;obtain⟨k,rfl,S6,hky⟩:=bB GP;obtain⟨te,hu,⟨inf,z,Ez,wI,_⟩,_⟩:=Hq hE hT;have run:∀b ob cap,a.eval x=.slice (some ⟨b,ob,none⟩) xs.length cap->(execOp a.eval o).run P w=.ok (.value (.pointer (some ⟨b,ob+k*e'.size,none⟩))) w:=by intro b ob cap hv;simp[execOp,ho,hv,uX,Instr.indexAt,asIntOf,underlying,hu,sizeOf,typeInfo,Ez,wI,S6,oR]
  cases fl with
  |own t=>cases qT
  |nest _ _ _ _ _ _=>cases qT
  |part _ _ _ _=>cases qT
  |gB _ _ _=>cases qT
  |arg _=>obtain⟨_,v,hv,hr⟩:=hxc;simp at hv;subst hv;rcases hr with⟨_,rfl⟩|⟨b,ob,cap,hv,_,hr⟩;simp at hky;obtain⟨cs,Ml,KG⟩:=hr k y hky;refine⟨_,_,_,.inl (run b ob cap hv),?_,hk⟩;exact⟨g,hg.quiet o.dst (oo ⟨rfl,b,ob+k*e'.size,rfl,cs,Ml,KG⟩)⟩
  |loc ep pv=>
   obtain⟨_,AY,_,KG,xm⟩:=hxc;have axh:ep=st.ep:=by simpa[sO.live]using qT
   obtain⟨v,hv,hr⟩:=KG axh;simp at hv;subst hv;rcases hr with⟨_,rfl⟩|⟨b,ob,cap,hv,_,hr⟩;simp at hky;obtain⟨cs,Ml,akP⟩:=hr k y hky;refine⟨_,_,_,.inl (run b ob cap hv),?_,hk⟩;refine⟨g,hg.quiet o.dst (oo ⟨rfl,b,ob+k*e'.size,rfl,AY,λ_=>⟨cs,Ml,akP⟩,λrt t hp=>?_⟩)⟩;obtain⟨h1,h2⟩:=xm rt t hp;exact⟨h1,k,ob,xs.length,cap,rfl,by rw[<-h2,hv],S6,rfl⟩
 cases hk;cases hk
theorem zW (s:aw UInt8):(ByteArray.mk s.toArray).size=s.length:=by show s.toArray.size=s.length;simp
theorem agv (s:aw UInt8)(n:Nat):(ByteArray.mk s.toArray)[n]?=s[n]?:=by
 simp only[getElem?_def];by_cases h:n<s.length;have h':n<(ByteArray.mk s.toArray).size:=by rw[zW];exact h
 rw[dif_pos h',dif_pos h];rfl;have h':¬n<(ByteArray.mk s.toArray).size:=by rw[zW];exact h
 rw[dif_neg h',dif_neg h]
theorem adr {E:Env}(hE:kG P E.ty){o:Oper}{i:Operand}(ho:o.op=.index T x i)(h:qe C st a w){K:AS->aB R}(hk:Eb E o T x i st K=some r):ox P C o a w K r:=by
 unfold Eb at hk;obtain⟨g,hg⟩:=id h;have xn:=hg.rd x;have hiv:=hg.rd i;split at hk;rename_i s kd n hx hi;split at hk;rename_i hT;rw[hx]at xn;rw[hi]at hiv;have hxc:=(fH xn).1;have uX:=jR hiv;cases GP:idx s n with
 |none=>rw[GP]at hk;cases hk
 |some y=>
  rw[GP]at hk;simp only[aa]at hk;obtain⟨k,rfl,S6,hky⟩:=bB GP;have hu:=XK hE hT;have fD:(execOp a.eval o).run P w=.ok (.value (.int .u8 y.toNat)) w:=by simp[execOp,ho,hxc,uX,Instr.index,asIntOf,underlying,hu,agv,hky]
  refine⟨_,_,_,.inl fD,?_,hk⟩;exact⟨g,hg.quiet o.dst (oo ⟨rfl,rfl⟩)⟩
 cases hk;cases hk
theorem xx {o:Oper}(h:qe C st a w){K:AS->aB R}(v:Value)(c:AC)(fD:(execOp a.eval o).run P w=.ok (.value v) w)(fZ:∀rc:RC,iV rc v c [])(hk:K (st.put o.dst (.one c))=some r):ox P C o a w K r:=by obtain⟨g,hg⟩:=h;exact⟨v,w,_,.inl fD,⟨g,hg.quiet o.dst (oo (fZ _))⟩,hk⟩
theorem lU (k:IntKind)(n:Int)(rc:RC):iV rc (.int k n) (.int k n) []:=⟨rfl,rfl⟩
theorem CW (b:Bool)(rc:RC):iV rc (.bool b) (.bool b) []:=⟨rfl,rfl⟩
theorem Pj (s:aw UInt8)(rc:RC):iV rc (.string ⟨s.toArray⟩) (.str s) []:=⟨rfl,rfl⟩
theorem aow {o:Oper}{op:UnOp}(ho:o.op=.unOp op T x)(h:qe C st a w){K:AS->aB R}(hk:(unC op (st.rd x) λc=>K (st.put o.dst (.one c)))=some r):ox P C o a w K r:=by obtain⟨g,hg⟩:=id h;have xn:=hg.rd x;unfold unC at hk;split at hk;rename_i b hx;rw[hx]at xn;have hv:=yi xn;exact xx h _ _ (by simp[execOp,ho,hv,Op.unary]) (CW _) hk;rename_i k n hx;rw[hx]at xn;have hv:=jR xn;exact xx h _ _ (by simp only[execOp,ho,hv,Op.unary,Op.intArith];rfl) (lU _ _) hk;rename_i k n hx;rw[hx]at xn;have hv:=jR xn;exact xx h _ _ (by simp only[execOp,ho,hv,Op.unary,Op.intBits];rfl) (lU _ _) hk;cases hk
theorem MP {o:Oper}(ho:o.op=.nilCheck x)(h:qe C st a w){K:AS->aB R}{fl:sO}{e:CT}{y:e.D}{i:Int}{off:Nat}(hx:st.rd x=.val false [.D3 fl e y i off])(hk:K (st.put o.dst (.one (.D3 fl e y i off)))=some r):ox P C o a w K r:=by
 obtain⟨g,hg⟩:=id h;have xn:=hg.rd x;rw[hx]at xn;have hc:=fH xn;have hv:∃b q,a.eval x=.pointer (some ⟨b,q,none⟩):=by
  cases fl with
  |own t=>exact hc.elim
  |nest _ _ _ _ _ _=>exact hc.elim
  |part _ _ _ _=>exact hc.elim
  |gB _ _ _=>exact hc.elim
  |arg _=>obtain⟨_,b,q,hv,_⟩:=hc;exact⟨b,_,hv⟩
  |loc ep pv=>obtain⟨_,b,q,hv,_⟩:=hc;exact⟨b,_,hv⟩
 obtain⟨b,q,hv⟩:=hv;exact⟨.pointer (some ⟨b,q,none⟩),_,_,.inl (by simp only[execOp,ho,hv];rfl),⟨g,hg.quiet o.dst (by rw[<-hv];exact xn)⟩,hk⟩
theorem Tn {o:Oper}(ho:o.op=.nilCheck x)(h:qe C st a w){K:AS->aB R}{s off:Nat}(hx:st.rd x=.val false [.ptr s off])(hk:K (st.put o.dst (.one (.ptr s off)))=some r):ox P C o a w K r:=by obtain⟨g,hg⟩:=id h;have xn:=hg.rd x;rw[hx]at xn;have hv:=DM xn;exact⟨.pointer (some ⟨g.β s,off,none⟩),_,_,.inl (by simp only[execOp,ho,hv];rfl),⟨g,hg.quiet o.dst (oo (x:=.ptr s off) ⟨rfl,(fH xn).2.1,rfl⟩)⟩,hk⟩
theorem ahz {op:BinOp}{k:IntKind}{x y:Int}{K:AC->aB R}(hk:K2 op k x y K=some r)(T:TypeId)(w:World): ∃c v,(binOp op T (.int k x) (.int k y)).run P w=.ok v w/\(∀rc:RC,iV rc v c [])/\K c=some r:=by
 cases op<;>simp only[K2]at hk<;>(try (cases hk;done))<;>simp only[binOp,ne_eq,not_true_eq_false,cC]
 case quo=>
  split at hk
  ·cases hk
  ·rename_i hy
   exact⟨_,.int k _,by simp only[Op.intDiv,hy,cC];rfl,lU _ _,hk⟩
 case rem=>
  split at hk
  ·cases hk
  ·rename_i hy
   exact⟨_,.int k _,by simp only[Op.intDiv,hy,cC];rfl,lU _ _,hk⟩
 case add=>exact⟨_,_,rfl,lU _ _,hk⟩
 case sub=>exact⟨_,_,rfl,lU _ _,hk⟩
 case mul=>exact⟨_,_,rfl,lU _ _,hk⟩
 case and=>exact⟨_,_,rfl,lU _ _,hk⟩
 case or=>exact⟨_,_,rfl,lU _ _,hk⟩
 case xor=>exact⟨_,_,rfl,lU _ _,hk⟩
 case andNot=>exact⟨_,_,rfl,lU _ _,hk⟩
 all_goals exact⟨_,_,rfl,CW _,hk⟩
theorem ago (x y:aw UInt8):(ByteArray.mk x.toArray)++(ByteArray.mk y.toArray)=ByteArray.mk (x++y).toArray:=by apply ByteArray.ext;rw[ByteArray.data_append];simp
theorem aiW {op:BinOp}{x y:aw UInt8}{K:AC->aB R}(hk:Oi op x y K=some r)(T:TypeId)(w:World): ∃c v,(binOp op T (.string ⟨x.toArray⟩) (.string ⟨y.toArray⟩)).run P w=.ok v w/\(∀rc:RC,iV rc v c [])/\K c=some r:=by
 cases op<;>simp only[Oi]at hk<;>(try (cases hk;done))<;>simp only[binOp,Op.stringOp,toList_mk]
 case add=>
  unfold room at hk
  split at hk
  ·rename_i hle
   have hs:¬(((ByteArray.mk x.toArray).size+(ByteArray.mk y.toArray).size:Nat):Int)>IntKind.i64.max:=by
    have e1:=zW x;have e2:=zW y;rw[e1,e2];have:IntKind.i64.max=9223372036854775807:=by decide
    omega
   exact⟨_,_,by rw[aG hs,ago];rfl,Pj _,hk⟩
  ·cases hk
 all_goals exact⟨_,_,rfl,CW _,hk⟩
theorem OX (w:World)(D:Nat)(T te:TypeId)(hu:P.underlying T=some (.slice te)):(Op.equalIn (D+1) T (.slice none 0 0) (.slice none 0 0)).run P w=.ok true w:=by unfold Op.equalIn;simp only[underlying,Sem.run_bind,run_program,hu,Result.andThen_ok,Sem.run_pure];rfl
theorem M9 (w:World)(D:Nat)(T te:TypeId)(hu:P.underlying T=some (.slice te))(ad:Addr)(n k:Nat):(Op.equalIn (D+1) T (.slice (some ad) n k) (.slice none 0 0)).run P w=.ok false w:=by unfold Op.equalIn;simp only[underlying,Sem.run_bind,run_program,hu,Result.andThen_ok,Sem.run_pure]
theorem ajo {E:Env}(hE:kG P E.ty)(hQ:X0 P E.eqs){o:Oper}{op:BinOp}{T':TypeId}{y:Operand}(ho:o.op=.binOp op T x y T')(h:qe C st a w){K:AS->aB R}(hk:Dm E o op T x y st K=some r):ox P C o a w K r:=by
 obtain⟨g,hg⟩:=id h;have xn:=hg.rd x;have Un:=hg.rd y;have fin:∀v c,(do eqGuard op T x y (a.eval x) (a.eval y);binOp op T (a.eval x) (a.eval y):Sem Value).run P w=.ok v w->(∀rc:RC,iV rc v c [])->K (st.put o.dst (.one c))=some r->ox P C o a w K r:=by intro v c fD fZ S5;refine⟨v,w,_,.inl ?_,⟨g,hg.quiet o.dst (oo (fZ _))⟩,S5⟩;simp only[execOp,ho];show((do eqGuard op T x y (a.eval x) (a.eval y);binOp op T (a.eval x) (a.eval y):Sem Value)>>=λv=>pure (Next.value v)).run P w=_;rw[Sem.run_bind,fD];rfl
 have QD:∀{k k':IntKind}{p q:Int},(eqGuard op T x y (.int k p) (.int k' q)).run P w=.ok () w:=by intros;unfold eqGuard;split<;>rfl
 have akz:∀{p q:ByteArray},(eqGuard op T x y (.string p) (.string q)).run P w=.ok () w:=by intros;unfold eqGuard;split<;>rfl
 have agX:∀{p q:Bool},(eqGuard op T x y (.bool p) (.bool q)).run P w=.ok () w:=by intros;unfold eqGuard;split<;>rfl
 unfold Dm at hk;split at hk
 ·rename_i p q hx hy;rw[hx]at xn;rw[hy]at Un;split at hk;·rename_i hT;have hu:=ane hE hT;simp only[Iq]at hk;cases op<;>simp only at hk<;>(try (cases hk;done));all_goals refine fin _ _ ?_ (CW _) hk;rw[yi xn,yi Un,Sem.run_bind,agX];simp only[Result.andThen_ok,binOp,Op.equal,Op.maxDepth,Sem.run_bind];rw[run_equalIn_bool' w 9999 T p q hu];rfl
  cases hk
 ·rename_i xs ys hx hy;rw[hx]at xn;rw[hy]at Un;split at hk
  ·rename_i ls hT;split at hk
   ·rename_i hf;obtain⟨vs,hcx,hrx⟩:=xn;obtain⟨us,hcy,hry⟩:=Un;simp only[Cut,cw]at hcx hcy;have hgd:(eqGuard op T x y (.agg vs.toArray) (.agg us.toArray)).run P w=.ok () w:=by have hgt:=(hQ T ls hT).2.2;unfold eqGuard;cases op<;>simp[hgt]
    simp only[Iq]at hk;cases op<;>simp only at hk<;>(try (cases hk;done));all_goals cases he:xv xs ys with|none=>rw[he]at hk;cases hk|some b=>rw[he]at hk;simp only[aa]at hk;refine fin _ _ ?_ (CW _) hk;rw[hcx,hcy,Sem.run_bind,hgd];simp only[Result.andThen_ok,binOp,Sem.run_bind,apY hQ hT hrx hry hf he w];rfl
   cases hk
  cases hk
 ·rename_i fl e xs hx hy;rw[hx]at xn;rw[hy]at Un;split at hk
  ·rename_i hT;obtain⟨hT,qT⟩:=hT;cases hs:E.sl T with
   |none=>rw[hs]at hT;cases hT
   |some e'=>
    obtain⟨te,hu,_⟩:=Hq hE hs;split at hk;cases hk
    ·rename_i hlen;have asE:∃b ob n k,a.eval x=.slice (some ⟨b,ob,none⟩) n k:=by
      have hc:=fH xn;have key:∀{S:Nat->Nat->Prop},ky w S (.sl e) [a.eval x] xs->∃b ob n k,a.eval x=.slice (some ⟨b,ob,none⟩) n k:=by rintro S ⟨u,WQ,h1⟩;simp at WQ;rcases h1 with⟨_,rfl⟩|⟨b,ob,cap,hv,_⟩;simp at hlen;exact⟨b,ob,_,_,by rw[WQ];exact hv⟩
      cases fl with
      |own t=>cases qT
      |nest _ _ _ _ _ _=>cases qT
      |part _ _ _ _=>cases qT
      |gB _ _ _=>cases qT
      |arg _=>exact key hc.2
      |loc ep pv=>
       have AY:ep=st.ep:=by simpa[sO.live]using qT
       exact key (hc.2.2.2.1 AY)
     obtain⟨b,ob,n,k,hv⟩:=asE;have hyn:=(fH Un).1;have fD:(Op.equal T (a.eval x) (a.eval y)).run P w=.ok false w:=by rw[hv,hyn];exact M9 w 9999 T te hu _ _ _
     have hgd:(eqGuard op T x y (a.eval x) (a.eval y)).run P w=.ok () w:=by rw[hv,hyn];unfold eqGuard;split<;>rfl
     unfold F3 at hk;cases op<;>simp only at hk<;>(try (cases hk;done));all_goals refine fin _ _ ?_ (CW _) hk;rw[Sem.run_bind,hgd];rw[hv,hyn]at fD⊢;simp only[Result.andThen_ok,binOp,Sem.run_bind,fD];rfl
  cases hk
 ·rename_i hx hy;rw[hx]at xn;rw[hy]at Un;split at hk
  ·rename_i hT;cases hs:E.sl T with
   |none=>rw[hs]at hT;cases hT
   |some e'=>
    obtain⟨te,hu,_⟩:=Hq hE hs;have hxn:=(fH xn).1;have hyn:=(fH Un).1;have fD:(Op.equal T (.slice none 0 0) (.slice none 0 0)).run P w=.ok true w:=by exact OX w 9999 T te hu
    have hgd:(eqGuard op T x y (.slice none 0 0) (.slice none 0 0)).run P w=.ok () w:=by unfold eqGuard;split<;>rfl
    unfold F3 at hk;cases op<;>simp only at hk<;>(try (cases hk;done));all_goals refine fin _ _ ?_ (CW _) hk;rw[hxn,hyn,Sem.run_bind,hgd];simp only[Result.andThen_ok,binOp,Sem.run_bind,fD];rfl
  cases hk
 rename_i va vb J4 EA hn3 hn4;unfold Iq at hk;split at hk;rename_i k p k' q hx hy;rw[hx]at xn;rw[hy]at Un;split at hk;split at hk;cases hk;rename_i hq;refine fin _ _ ?_ (lU _ _) hk;rw[jR xn,jR Un,Sem.run_bind,QD];simp only[Result.andThen_ok,binOp,Op.shift,hq,cC];rfl;split at hk;cases hk;rename_i hq;refine fin _ _ ?_ (lU _ _) hk;rw[jR xn,jR Un,Sem.run_bind,QD];simp only[Result.andThen_ok,binOp,Op.shift,hq,cC];rfl;split at hk;rename_i S5;subst S5;obtain⟨c,v,fD,fZ,hkc⟩:=ahz (P:=P) hk T w;refine fin v c ?_ fZ hkc;rw[jR xn,jR Un,Sem.run_bind,QD];exact fD;cases hk;rename_i p q hx hy;rw[hx]at xn;rw[hy]at Un;obtain⟨c,v,fD,fZ,hkc⟩:=aiW (P:=P) hk T w;refine fin v c ?_ fZ hkc;rw[(fH xn).1,(fH Un).1,Sem.run_bind,akz];exact fD;rename_i p q hx hy;exact absurd hy (J4 p q hx);rename_i xs ys hx hy;exact absurd hy (EA xs ys hx);cases hk
theorem alh {E:Env}(hE:kG P E.ty){o:Oper}(ho:o.op=.call {callee:=.builtin .len,args,argTypes:=ts})(h:qe C st a w){K:AS->aB R}(hk:Ri E o ts.toList args.toList st K=some r):ox P C o a w K r:=by
 obtain⟨g,hg⟩:=id h;unfold Ri at hk;split at hk;rename_i t s vS ib;obtain⟨x,hx,hxs⟩:∃x,args.toList=[x]/\st.rd x=.val false [.str s]:=by cases hl:args.toList with|nil=>rw[hl]at ib;simp at ib|cons x l=>rw[hl]at ib;simp at ib;exact⟨x,by rw[ib.2],ib.1⟩
 have ea:args=#[x]:=by apply gj;simpa using hx
 have et:ts=#[t]:=by apply gj;simpa using vS
 subst ea;subst et;split at hk;rename_i hT;have xn:=hg.rd x;rw[hxs]at xn;have hv:=(fH xn).1;refine xx h (.int .i64 _) _ ?_ (lU _ _) hk;simp[execOp,ho,resolve,invoke,builtin,Builtin.len_,underlying,XK hE hT,hv,goInt,zW];cases hk;rename_i t fl e xs vS ib;obtain⟨x,hx,hxs⟩:∃x,args.toList=[x]/\st.rd x=.val false [.sl fl e xs]:=by cases hl:args.toList with|nil=>rw[hl]at ib;simp at ib|cons x l=>rw[hl]at ib;simp at ib;exact⟨x,by rw[ib.2],ib.1⟩
 have ea:args=#[x]:=by apply gj;simpa using hx
 have et:ts=#[t]:=by apply gj;simpa using vS
 subst ea;subst et;split at hk;rename_i hT;have xn:=hg.rd x;rw[hxs]at xn;obtain⟨e',he'⟩:=Option.isSome_iff_exists.1 hT;obtain⟨te,hu,_⟩:=Hq hE he';have hv:∃b cap,a.eval x=.slice b xs.length cap:=by
  have hc:=fH xn;cases fl with
  |nest _ _ _ _ _ _=>obtain⟨_,_,⟨o1,n1,k1,h1,h2⟩,_⟩:=hc;exact⟨o1,k1,by rw[h1,h2]⟩
  |part _ _ _ _=>obtain⟨_,_,⟨o1,n1,k1,h1,h2⟩,_⟩:=hc;exact⟨o1,k1,by rw[h1,h2]⟩
  |gB _ _ _=>obtain⟨_,⟨k,_,b,o0,cap,arr,T,fr,fps,h1,_⟩,_⟩:=hc;exact⟨_,_,h1⟩
  |own t=>obtain⟨⟨u,hu,ho⟩,_⟩:=hc;simp at hu;subst hu;rcases ho with⟨⟨_,h1⟩,rfl,_⟩|⟨b,_,cap,_,_,_,_,h1,_⟩;exact⟨_,_,h1⟩;exact⟨_,_,h1⟩
  |arg _=>obtain⟨_,u,hu,ho⟩:=hc;simp at hu;subst hu;rcases ho with⟨⟨ad,h1⟩,rfl⟩|⟨b,ob,cap,h1,_⟩;exact⟨ad,0,h1⟩;exact⟨_,_,h1⟩
  |loc ep pv=>obtain⟨_,_,⟨b,n,k,h1,h2⟩,_⟩:=hc;exact⟨b,k,by rw[h1,h2]⟩
 obtain⟨b,cap,hv⟩:=hv;refine xx h (.int .i64 _) _ ?_ (lU _ _) hk;simp[execOp,ho,resolve,invoke,builtin,Builtin.len_,underlying,hu,hv,goInt];cases hk;cases hk
theorem Su {u v:AV}(h:args.toList.map st.rd=[u,v]):∃x y,args=#[x,y]/\st.rd x=u/\st.rd y=v:=by match hl:args.toList with|[]=>rw[hl]at h;simp at h|[_]=>rw[hl]at h;simp at h|[x,y]=>rw[hl]at h;simp at h;exact⟨x,y,by apply gj;simpa using hl,h.1,h.2⟩|_::_::_::_=>rw[hl]at h;simp at h
theorem als {o:Oper}(ho:o.op=.call {callee:=.builtin .min,args,argTypes:=ts})(h:qe C st a w){K:AS->aB R}(hk:Th o args.toList st K=some r):ox P C o a w K r:=by obtain⟨g,hg⟩:=id h;unfold Th at hk;split at hk;rename_i k x k' y ib;obtain⟨p,q,rfl,hp,hq⟩:=Su ib;have xm:=hg.rd p;have hqv:=hg.rd q;rw[hp]at xm;rw[hq]at hqv;refine xx h (.int k _) _ ?_ (lU _ _) hk;simp[execOp,ho,resolve,invoke,builtin,Builtin.min_,Builtin.min2,jR xm,jR hqv];cases hk
theorem alq {o:Oper}(ho:o.op=.call {callee:=.builtin .max,args,argTypes:=ts})(h:qe C st a w){K:AS->aB R}(hk:Tg o args.toList st K=some r):ox P C o a w K r:=by obtain⟨g,hg⟩:=id h;unfold Tg at hk;split at hk;rename_i k x k' y ib;obtain⟨p,q,rfl,hp,hq⟩:=Su ib;have xm:=hg.rd p;have hqv:=hg.rd q;rw[hp]at xm;rw[hq]at hqv;refine xx h (.int k _) _ ?_ (lU _ _) hk;simp[execOp,ho,resolve,invoke,builtin,Builtin.max_,Builtin.max2,jR xm,jR hqv];cases hk
end Go.Dn
