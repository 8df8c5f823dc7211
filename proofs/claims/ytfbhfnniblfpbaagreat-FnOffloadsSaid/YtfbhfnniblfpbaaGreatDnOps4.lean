import Derived.Test.YtfbhfnniblfpbaaGreatDnOps3
import Derived.Test.YtfbhfnniblfpbaaGreatDnEq
/- Part 4: addresses, numbers, strings, slices of slices. -/
namespace Go.Dn
open Go.RowKit
variable {P:Program} {C:Ctx} {st:AS} {a:Act} {w:World} {R:Type} {r:R}
variable {args:Array Operand} {ts:Array TypeId} {x:Operand} {T:TypeId}
theorem aaJ {E:Env}(hE:kQ P E.ty){o:Oper}{S:TypeId}{p:Operand}{f:Nat}(ho:o.op=.fieldAddr S p f)(h:qo C st a w){K:AS->aA R}(hk:Di E o S p f st K=some r):oK P C o a w K r:=by
 unfold Di at hk
 have run:∀(sh:Shape),kl E.ty S=some sh->sh.agg=true->∀fo n,nth sh.lE f=some (fo,n)->∀b off,a.eval p=.pointer (some ⟨b,off,none⟩)->
  (execOp a.eval o).run P w=.ok (.value (.pointer (some ⟨b,off+fo,none⟩))) w:=by
  intro sh hS Pt fo n hf b off hv
  obtain⟨fs,hu,KH⟩:=(hE S sh hS).agg Pt
  rw[eV]at hf
  obtain⟨fd,hfd,SV,hn,i,hi,wv⟩:=KH f fo n hf
  simp only[execOp,ho,hv,Instr.fieldAt,Instr.sureAddr,underlying,Sem.run_bind,run_program,hu,Result.andThen_ok,Sem.run_pure,hfd,fieldPlace,sizeOf,typeInfo,hi,wv,SV]
  rw[lH]
  simp[pj]
 obtain⟨g,hg⟩:=id h;have xH:=hg.rd p;split at hk;rename_i ct lE s off hS hp;split at hk;rename_i fo n hf;rw[hp]at xH;have hv:=Ey xH;have hpr:=(fN xH).2.1;refine⟨_,_,_,.inl (run _ hS rfl fo n hf _ _ hv),?_,hk⟩;exact⟨g,hg.quiet o.dst (oz ⟨rfl,hpr,rfl⟩)⟩;cases hk;rename_i ct lE fl e x i off hS hp;split at hk;rename_i fo n hf;rw[hp]at xH;have hc:=fN xH;cases fl with
 |own t=>exact hc.elim
 |nest _ _ _ _ _ _=>exact hc.elim
 |part _ _ _ _=>exact hc.elim
 |gr _ _ _=>exact hc.elim
 |arg _=>obtain⟨h1,b,ob,hv,h2⟩:=hc;refine⟨_,_,_,.inl (run _ hS rfl fo n hf _ _ hv),?_,hk⟩;exact⟨g,hg.quiet o.dst (oz ⟨rfl,b,ob,by rw[gn],h2⟩)⟩
 |loc ep pv=>obtain⟨h1,b,ob,hv,h2⟩:=hc;refine⟨_,_,_,.inl (run _ hS rfl fo n hf _ _ hv),?_,hk⟩;exact⟨g,hg.quiet o.dst (oz ⟨rfl,b,ob,by rw[gn],h2⟩)⟩
 cases hk;cases hk
theorem Ie {E:Env}(hE:kQ P E.ty){e:CT}(h:E.sl T=some e):∃te,P.underlying T=some (.slice te)/\PM P te e:=by unfold Env.sl at h;split at h;rename_i e' lE hT;simp at h;subst h;obtain⟨te,hu,he,_⟩:=(hE T _ hT).sl _ rfl rfl;exact⟨te,hu,he⟩;cases h
theorem WS {E:Env}(hE:kQ P E.ty)(h:E.str T=true):P.underlying T=some .string:=by unfold Env.str at h;split at h;rename_i lE hT;exact(hE T _ hT).str rfl rfl;cases h
theorem ajq {E:Env}(hE:kQ P E.ty)(h:E.bool T=true):P.underlying T=some .bool:=by unfold Env.bool at h;split at h;rename_i lE hT;exact(hE T _ hT).bool rfl rfl;cases h
theorem bw {α:Type}{xs:ax α}{n:Int}{y:α}(h:idx xs n=some y):∃k:Nat,n=k/\k<xs.length/\xs[k]?=some y:=by obtain⟨k,h1,h2⟩:=Yh h;exact⟨k,h1,(aD.1 h2).1,h2⟩
theorem Rc {E:Env}(hE:kQ P E.ty){o:Oper}{i:Operand}(ho:o.op=.indexAddr T x i)(h:qo C st a w){K:AS->aA R}(hk:oy E o T x i st K=some r):oK P C o a w K r:=by
 unfold oy at hk;obtain⟨g,hg⟩:=id h;have xI:=hg.fresh (hg.rd x);have hiv:=hg.rd i;split at hk;rename_i e' fl e xs kd n hT hx hi;split at hk;rename_i hc;obtain⟨rfl,ri⟩:=hc;rw[hx]at xI;rw[hi]at hiv;have hxc:=fN xI;have zw:=kf hiv;cases HL:idx xs n with
 |none=>rw[HL]at hk;cases hk
 |some y=>
  rw[HL]at hk;simp only[aa]at hk;obtain⟨k,rfl,hkl,hky⟩:=bw HL;obtain⟨te,hu,⟨inf,z,Fu,wv,_⟩,_⟩:=Ie hE hT;have run:∀b ob cap,a.eval x=.slice (some ⟨b,ob,none⟩) xs.length cap->(execOp a.eval o).run P w=.ok (.value (.pointer (some ⟨b,ob+k*e'.size,none⟩))) w:=by intro b ob cap hv;simp[execOp,ho,hv,zw,Instr.indexAt,asIntOf,underlying,hu,sizeOf,typeInfo,Fu,wv,hkl,pj]
  cases fl with
  |own t=>cases ri
  |nest _ _ _ _ _ _=>cases ri
  |part _ _ _ _=>cases ri
  |gr _ _ _=>cases ri
  |arg _=>obtain⟨_,v,hv,hr⟩:=hxc;simp at hv;subst hv;rcases hr with⟨_,rfl⟩|⟨b,ob,cap,hv,_,hr⟩;simp at hky;obtain⟨cs,MX,K9⟩:=hr k y hky;refine⟨_,_,_,.inl (run b ob cap hv),?_,hk⟩;exact⟨g,hg.quiet o.dst (oz ⟨rfl,b,ob+k*e'.size,rfl,cs,MX,K9⟩)⟩
  |loc ep pv=>
   obtain⟨_,BG,_,K9,xH⟩:=hxc;have asC:ep=st.ep:=by simpa[tu.live]using ri
   obtain⟨v,hv,hr⟩:=K9 asC;simp at hv;subst hv;rcases hr with⟨_,rfl⟩|⟨b,ob,cap,hv,_,hr⟩;simp at hky;obtain⟨cs,MX,ahz⟩:=hr k y hky;refine⟨_,_,_,.inl (run b ob cap hv),?_,hk⟩;refine⟨g,hg.quiet o.dst (oz ⟨rfl,b,ob+k*e'.size,rfl,BG,λ_=>⟨cs,MX,ahz⟩,λrt t hp=>?_⟩)⟩;obtain⟨h1,h2⟩:=xH rt t hp;exact⟨h1,k,ob,xs.length,cap,rfl,by rw[<-h2,hv],hkl,rfl⟩
 cases hk;cases hk
theorem AD (s:ax UInt8):(ByteArray.mk s.toArray).size=s.length:=by show s.toArray.size=s.length;simp
theorem adV (s:ax UInt8)(n:Nat):(ByteArray.mk s.toArray)[n]?=s[n]?:=by
 simp only[getElem?_def];by_cases h:n<s.length;have h':n<(ByteArray.mk s.toArray).size:=by rw[AD];exact h
 rw[dif_pos h',dif_pos h];rfl;have h':¬n<(ByteArray.mk s.toArray).size:=by rw[AD];exact h
 rw[dif_neg h',dif_neg h]
theorem abf {E:Env}(hE:kQ P E.ty){o:Oper}{i:Operand}(ho:o.op=.index T x i)(h:qo C st a w){K:AS->aA R}(hk:EX E o T x i st K=some r):oK P C o a w K r:=by
 unfold EX at hk;obtain⟨g,hg⟩:=id h;have xI:=hg.rd x;have hiv:=hg.rd i;split at hk;rename_i s kd n hx hi;split at hk;rename_i hT;rw[hx]at xI;rw[hi]at hiv;have hxc:=(fN xI).1;have zw:=kf hiv;cases HL:idx s n with
 |none=>rw[HL]at hk;cases hk
 |some y=>
  rw[HL]at hk;simp only[aa]at hk;obtain⟨k,rfl,hkl,hky⟩:=bw HL;have hu:=WS hE hT;have fz:(execOp a.eval o).run P w=.ok (.value (.int .u8 y.toNat)) w:=by simp[execOp,ho,hxc,zw,Instr.index,asIntOf,underlying,hu,adV,hky]
  refine⟨_,_,_,.inl fz,?_,hk⟩;exact⟨g,hg.quiet o.dst (oz ⟨rfl,rfl⟩)⟩
 cases hk;cases hk
theorem xO {o:Oper}(h:qo C st a w){K:AS->aA R}(v:Value)(c:AC)(fz:(execOp a.eval o).run P w=.ok (.value v) w)(fE:∀rc:RC,je rc v c [])(hk:K (st.put o.dst (.one c))=some r):oK P C o a w K r:=by obtain⟨g,hg⟩:=h;exact⟨v,w,_,.inl fz,⟨g,hg.quiet o.dst (oz (fE _))⟩,hk⟩
theorem mi (k:IntKind)(n:Int)(rc:RC):je rc (.int k n) (.int k n) []:=⟨rfl,rfl⟩
theorem DK (b:Bool)(rc:RC):je rc (.bool b) (.bool b) []:=⟨rfl,rfl⟩
theorem PB (s:ax UInt8)(rc:RC):je rc (.string ⟨s.toArray⟩) (.str s) []:=⟨rfl,rfl⟩
theorem akG {o:Oper}{op:UnOp}(ho:o.op=.unOp op T x)(h:qo C st a w){K:AS->aA R}(hk:(unC op (st.rd x) λc=>K (st.put o.dst (.one c)))=some r):oK P C o a w K r:=by obtain⟨g,hg⟩:=id h;have xI:=hg.rd x;unfold unC at hk;split at hk;rename_i b hx;rw[hx]at xI;have hv:=yp xI;exact xO h _ _ (by simp[execOp,ho,hv,Op.unary]) (DK _) hk;rename_i k n hx;rw[hx]at xI;have hv:=kf xI;exact xO h _ _ (by simp only[execOp,ho,hv,Op.unary,Op.intArith];rfl) (mi _ _) hk;rename_i k n hx;rw[hx]at xI;have hv:=kf xI;exact xO h _ _ (by simp only[execOp,ho,hv,Op.unary,Op.intBits];rfl) (mi _ _) hk;cases hk
theorem Nq {o:Oper}(ho:o.op=.nilCheck x)(h:qo C st a w){K:AS->aA R}{fl:tu}{e:CT}{y:e.D}{i:Int}{off:Nat}(hx:st.rd x=.val false [.Ef fl e y i off])(hk:K (st.put o.dst (.one (.Ef fl e y i off)))=some r):oK P C o a w K r:=by
 obtain⟨g,hg⟩:=id h;have xI:=hg.rd x;rw[hx]at xI;have hc:=fN xI;have hv:∃b q,a.eval x=.pointer (some ⟨b,q,none⟩):=by
  cases fl with
  |own t=>exact hc.elim
  |nest _ _ _ _ _ _=>exact hc.elim
  |part _ _ _ _=>exact hc.elim
  |gr _ _ _=>exact hc.elim
  |arg _=>obtain⟨_,b,q,hv,_⟩:=hc;exact⟨b,_,hv⟩
  |loc ep pv=>obtain⟨_,b,q,hv,_⟩:=hc;exact⟨b,_,hv⟩
 obtain⟨b,q,hv⟩:=hv;exact⟨.pointer (some ⟨b,q,none⟩),_,_,.inl (by simp only[execOp,ho,hv];rfl),⟨g,hg.quiet o.dst (by rw[<-hv];exact xI)⟩,hk⟩
theorem Ta {o:Oper}(ho:o.op=.nilCheck x)(h:qo C st a w){K:AS->aA R}{s off:Nat}(hx:st.rd x=.val false [.ptr s off])(hk:K (st.put o.dst (.one (.ptr s off)))=some r):oK P C o a w K r:=by obtain⟨g,hg⟩:=id h;have xI:=hg.rd x;rw[hx]at xI;have hv:=Ey xI;exact⟨.pointer (some ⟨g.β s,off,none⟩),_,_,.inl (by simp only[execOp,ho,hv];rfl),⟨g,hg.quiet o.dst (oz (x:=.ptr s off) ⟨rfl,(fN xI).2.1,rfl⟩)⟩,hk⟩
theorem aeQ {op:BinOp}{k:IntKind}{x y:Int}{K:AC->aA R}(hk:Ls op k x y K=some r)(T:TypeId)(w:World): ∃c v,(binOp op T (.int k x) (.int k y)).run P w=.ok v w/\(∀rc:RC,je rc v c [])/\K c=some r:=by
 cases op<;>simp only[Ls]at hk<;>(try (cases hk;done))<;>simp only[binOp,ne_eq,not_true_eq_false,cG]
 case quo=>
  split at hk
  ·cases hk
  ·rename_i hy
   exact⟨_,.int k _,by simp only[Op.intDiv,hy,cG];rfl,mi _ _,hk⟩
 case rem=>
  split at hk
  ·cases hk
  ·rename_i hy
   exact⟨_,.int k _,by simp only[Op.intDiv,hy,cG];rfl,mi _ _,hk⟩
 case add=>exact⟨_,_,rfl,mi _ _,hk⟩
 case sub=>exact⟨_,_,rfl,mi _ _,hk⟩
 case mul=>exact⟨_,_,rfl,mi _ _,hk⟩
 case and=>exact⟨_,_,rfl,mi _ _,hk⟩
 case or=>exact⟨_,_,rfl,mi _ _,hk⟩
 case xor=>exact⟨_,_,rfl,mi _ _,hk⟩
 case andNot=>exact⟨_,_,rfl,mi _ _,hk⟩
 all_goals exact⟨_,_,rfl,DK _,hk⟩
theorem adQ (x y:ax UInt8):(ByteArray.mk x.toArray)++(ByteArray.mk y.toArray)=ByteArray.mk (x++y).toArray:=by apply ByteArray.ext;rw[ByteArray.data_append];simp
theorem agk {op:BinOp}{x y:ax UInt8}{K:AC->aA R}(hk:OH op x y K=some r)(T:TypeId)(w:World): ∃c v,(binOp op T (.string ⟨x.toArray⟩) (.string ⟨y.toArray⟩)).run P w=.ok v w/\(∀rc:RC,je rc v c [])/\K c=some r:=by
 cases op<;>simp only[OH]at hk<;>(try (cases hk;done))<;>simp only[binOp,Op.stringOp,toList_mk]
 case add=>
  unfold room at hk
  split at hk
  ·rename_i hle
   have hs:¬(((ByteArray.mk x.toArray).size+(ByteArray.mk y.toArray).size:Nat):Int)>IntKind.i64.max:=by
    have e1:=AD x;have e2:=AD y;rw[e1,e2];have:IntKind.i64.max=9223372036854775807:=by decide
    omega
   exact⟨_,_,by rw[aK hs,adQ];rfl,PB _,hk⟩
  ·cases hk
 all_goals exact⟨_,_,rfl,DK _,hk⟩
theorem O8 (w:World)(D:Nat)(T te:TypeId)(hu:P.underlying T=some (.slice te)):(Op.equalIn (D+1) T (.slice none 0 0) (.slice none 0 0)).run P w=.ok true w:=by unfold Op.equalIn;simp only[underlying,Sem.run_bind,run_program,hu,Result.andThen_ok,Sem.run_pure];rfl
theorem NB (w:World)(D:Nat)(T te:TypeId)(hu:P.underlying T=some (.slice te))(ad:Addr)(n k:Nat):(Op.equalIn (D+1) T (.slice (some ad) n k) (.slice none 0 0)).run P w=.ok false w:=by unfold Op.equalIn;simp only[underlying,Sem.run_bind,run_program,hu,Result.andThen_ok,Sem.run_pure]
theorem agO {E:Env}(hE:kQ P E.ty)(hQ:Xf P E.eqs){o:Oper}{op:BinOp}{T':TypeId}{y:Operand}(ho:o.op=.binOp op T x y T')(h:qo C st a w){K:AS->aA R}(hk:D9 E o op T x y st K=some r):oK P C o a w K r:=by
 obtain⟨g,hg⟩:=id h;have xI:=hg.rd x;have Ue:=hg.rd y;have fin:∀v c,(do eqGuard op T x y (a.eval x) (a.eval y);binOp op T (a.eval x) (a.eval y):Sem Value).run P w=.ok v w->(∀rc:RC,je rc v c [])->K (st.put o.dst (.one c))=some r->oK P C o a w K r:=by intro v c fz fE SU;refine⟨v,w,_,.inl ?_,⟨g,hg.quiet o.dst (oz (fE _))⟩,SU⟩;simp only[execOp,ho];show((do eqGuard op T x y (a.eval x) (a.eval y);binOp op T (a.eval x) (a.eval y):Sem Value)>>=λv=>pure (Next.value v)).run P w=_;rw[Sem.run_bind,fz];rfl
 have QM:∀{k k':IntKind}{p q:Int},(eqGuard op T x y (.int k p) (.int k' q)).run P w=.ok () w:=by intros;unfold eqGuard;split<;>rfl
 have ahh:∀{p q:ByteArray},(eqGuard op T x y (.string p) (.string q)).run P w=.ok () w:=by intros;unfold eqGuard;split<;>rfl
 have aej:∀{p q:Bool},(eqGuard op T x y (.bool p) (.bool q)).run P w=.ok () w:=by intros;unfold eqGuard;split<;>rfl
 unfold D9 at hk;split at hk
 ·rename_i p q hx hy;rw[hx]at xI;rw[hy]at Ue;split at hk;·rename_i hT;have hu:=ajq hE hT;simp only[Jj]at hk;cases op<;>simp only at hk<;>(try (cases hk;done));all_goals refine fin _ _ ?_ (DK _) hk;rw[yp xI,yp Ue,Sem.run_bind,aej];simp only[Result.andThen_ok,binOp,Op.equal,Op.maxDepth,Sem.run_bind];rw[run_equalIn_bool' w 9999 T p q hu];rfl
  cases hk
 ·rename_i xs ys hx hy;rw[hx]at xI;rw[hy]at Ue;split at hk
  ·rename_i ls hT;split at hk
   ·rename_i hf;obtain⟨vs,hcx,Yf⟩:=xI;obtain⟨us,hcy,hry⟩:=Ue;simp only[Cut,cL]at hcx hcy;have hgd:(eqGuard op T x y (.agg vs.toArray) (.agg us.toArray)).run P w=.ok () w:=by have hgt:=(hQ T ls hT).2.2;unfold eqGuard;cases op<;>simp[hgt]
    simp only[Jj]at hk;cases op<;>simp only at hk<;>(try (cases hk;done));all_goals cases he:xN xs ys with|none=>rw[he]at hk;cases hk|some b=>rw[he]at hk;simp only[aa]at hk;refine fin _ _ ?_ (DK _) hk;rw[hcx,hcy,Sem.run_bind,hgd];simp only[Result.andThen_ok,binOp,Sem.run_bind,aln hQ hT Yf hry hf he w];rfl
   cases hk
  cases hk
 ·rename_i fl e xs hx hy;rw[hx]at xI;rw[hy]at Ue;split at hk
  ·rename_i hT;obtain⟨hT,ri⟩:=hT;cases hs:E.sl T with
   |none=>rw[hs]at hT;cases hT
   |some e'=>
    obtain⟨te,hu,_⟩:=Ie hE hs;split at hk;cases hk
    ·rename_i hlen;have am0:∃b ob n k,a.eval x=.slice (some ⟨b,ob,none⟩) n k:=by
      have hc:=fN xI;have key:∀{S:Nat->Nat->Prop},kE w S (.sl e) [a.eval x] xs->∃b ob n k,a.eval x=.slice (some ⟨b,ob,none⟩) n k:=by rintro S ⟨u,hu',h1⟩;simp at hu';rcases h1 with⟨_,rfl⟩|⟨b,ob,cap,hv,_⟩;simp at hlen;exact⟨b,ob,_,_,by rw[hu'];exact hv⟩
      cases fl with
      |own t=>cases ri
      |nest _ _ _ _ _ _=>cases ri
      |part _ _ _ _=>cases ri
      |gr _ _ _=>cases ri
      |arg _=>exact key hc.2
      |loc ep pv=>
       have BG:ep=st.ep:=by simpa[tu.live]using ri
       exact key (hc.2.2.2.1 BG)
     obtain⟨b,ob,n,k,hv⟩:=am0;have hyn:=(fN Ue).1;have fz:(Op.equal T (a.eval x) (a.eval y)).run P w=.ok false w:=by rw[hv,hyn];exact NB w 9999 T te hu _ _ _
     have hgd:(eqGuard op T x y (a.eval x) (a.eval y)).run P w=.ok () w:=by rw[hv,hyn];unfold eqGuard;split<;>rfl
     unfold G6 at hk;cases op<;>simp only at hk<;>(try (cases hk;done));all_goals refine fin _ _ ?_ (DK _) hk;rw[Sem.run_bind,hgd];rw[hv,hyn]at fz⊢;simp only[Result.andThen_ok,binOp,Sem.run_bind,fz];rfl
  cases hk
 ·rename_i hx hy;rw[hx]at xI;rw[hy]at Ue;split at hk
  ·rename_i hT;cases hs:E.sl T with
   |none=>rw[hs]at hT;cases hT
   |some e'=>
    obtain⟨te,hu,_⟩:=Ie hE hs;have hxn:=(fN xI).1;have hyn:=(fN Ue).1;have fz:(Op.equal T (.slice none 0 0) (.slice none 0 0)).run P w=.ok true w:=by exact O8 w 9999 T te hu
    have hgd:(eqGuard op T x y (.slice none 0 0) (.slice none 0 0)).run P w=.ok () w:=by unfold eqGuard;split<;>rfl
    unfold G6 at hk;cases op<;>simp only at hk<;>(try (cases hk;done));all_goals refine fin _ _ ?_ (DK _) hk;rw[hxn,hyn,Sem.run_bind,hgd];simp only[Result.andThen_ok,binOp,Sem.run_bind,fz];rfl
  cases hk
 rename_i va vb MZ Hn hn3 hn4;unfold Jj at hk;split at hk;rename_i k p k' q hx hy;rw[hx]at xI;rw[hy]at Ue;split at hk;split at hk;cases hk;rename_i hq;refine fin _ _ ?_ (mi _ _) hk;rw[kf xI,kf Ue,Sem.run_bind,QM];simp only[Result.andThen_ok,binOp,Op.shift,hq,cG];rfl;split at hk;cases hk;rename_i hq;refine fin _ _ ?_ (mi _ _) hk;rw[kf xI,kf Ue,Sem.run_bind,QM];simp only[Result.andThen_ok,binOp,Op.shift,hq,cG];rfl;split at hk;rename_i SU;subst SU;obtain⟨c,v,fz,fE,hkc⟩:=aeQ (P:=P) hk T w;refine fin v c ?_ fE hkc;rw[kf xI,kf Ue,Sem.run_bind,QM];exact fz;cases hk;rename_i p q hx hy;rw[hx]at xI;rw[hy]at Ue;obtain⟨c,v,fz,fE,hkc⟩:=agk (P:=P) hk T w;refine fin v c ?_ fE hkc;rw[(fN xI).1,(fN Ue).1,Sem.run_bind,ahh];exact fz;rename_i p q hx hy;exact absurd hy (MZ p q hx);rename_i xs ys hx hy;exact absurd hy (Hn xs ys hx);cases hk
theorem ah2 {E:Env}(hE:kQ P E.ty){o:Oper}(ho:o.op=.call {callee:=.builtin .len,args,argTypes:=ts})(h:qo C st a w){K:AS->aA R}(hk:Rj E o ts.toList args.toList st K=some r):oK P C o a w K r:=by
 obtain⟨g,hg⟩:=id h;unfold Rj at hk;split at hk;rename_i t s wx gN;obtain⟨x,hx,hxs⟩:∃x,args.toList=[x]/\st.rd x=.val false [.str s]:=by cases hl:args.toList with|nil=>rw[hl]at gN;simp at gN|cons x l=>rw[hl]at gN;simp at gN;exact⟨x,by rw[gN.2],gN.1⟩
 have ea:args=#[x]:=by apply fY;simpa using hx
 have et:ts=#[t]:=by apply fY;simpa using wx
 subst ea;subst et;split at hk;rename_i hT;have xI:=hg.rd x;rw[hxs]at xI;have hv:=(fN xI).1;refine xO h (.int .i64 _) _ ?_ (mi _ _) hk;simp[execOp,ho,resolve,invoke,builtin,Builtin.len_,underlying,WS hE hT,hv,goInt,AD];cases hk;rename_i t fl e xs wx gN;obtain⟨x,hx,hxs⟩:∃x,args.toList=[x]/\st.rd x=.val false [.sl fl e xs]:=by cases hl:args.toList with|nil=>rw[hl]at gN;simp at gN|cons x l=>rw[hl]at gN;simp at gN;exact⟨x,by rw[gN.2],gN.1⟩
 have ea:args=#[x]:=by apply fY;simpa using hx
 have et:ts=#[t]:=by apply fY;simpa using wx
 subst ea;subst et;split at hk;rename_i hT;have xI:=hg.rd x;rw[hxs]at xI;obtain⟨e',he'⟩:=Option.isSome_iff_exists.1 hT;obtain⟨te,hu,_⟩:=Ie hE he';have hv:∃b cap,a.eval x=.slice b xs.length cap:=by
  have hc:=fN xI;cases fl with
  |nest _ _ _ _ _ _=>obtain⟨_,_,⟨o1,n1,k1,h1,h2⟩,_⟩:=hc;exact⟨o1,k1,by rw[h1,h2]⟩
  |part _ _ _ _=>obtain⟨_,_,⟨o1,n1,k1,h1,h2⟩,_⟩:=hc;exact⟨o1,k1,by rw[h1,h2]⟩
  |gr _ _ _=>obtain⟨_,⟨k,_,b,o0,cap,arr,T,fr,fps,h1,_⟩,_⟩:=hc;exact⟨_,_,h1⟩
  |own t=>obtain⟨⟨u,hu,ho⟩,_⟩:=hc;simp at hu;subst hu;rcases ho with⟨⟨_,h1⟩,rfl,_⟩|⟨b,_,cap,_,_,_,_,h1,_⟩;exact⟨_,_,h1⟩;exact⟨_,_,h1⟩
  |arg _=>obtain⟨_,u,hu,ho⟩:=hc;simp at hu;subst hu;rcases ho with⟨⟨ad,h1⟩,rfl⟩|⟨b,ob,cap,h1,_⟩;exact⟨ad,0,h1⟩;exact⟨_,_,h1⟩
  |loc ep pv=>obtain⟨_,_,⟨b,n,k,h1,h2⟩,_⟩:=hc;exact⟨b,k,by rw[h1,h2]⟩
 obtain⟨b,cap,hv⟩:=hv;refine xO h (.int .i64 _) _ ?_ (mi _ _) hk;simp[execOp,ho,resolve,invoke,builtin,Builtin.len_,underlying,hu,hv,goInt];cases hk;cases hk
theorem Sn {u v:AV}(h:args.toList.map st.rd=[u,v]):∃x y,args=#[x,y]/\st.rd x=u/\st.rd y=v:=by match hl:args.toList with|[]=>rw[hl]at h;simp at h|[_]=>rw[hl]at h;simp at h|[x,y]=>rw[hl]at h;simp at h;exact⟨x,y,by apply fY;simpa using hl,h.1,h.2⟩|_::_::_::_=>rw[hl]at h;simp at h
theorem aib {o:Oper}(ho:o.op=.call {callee:=.builtin .min,args,argTypes:=ts})(h:qo C st a w){K:AS->aA R}(hk:S6 o args.toList st K=some r):oK P C o a w K r:=by obtain⟨g,hg⟩:=id h;unfold S6 at hk;split at hk;rename_i k x k' y gN;obtain⟨p,q,rfl,hp,hq⟩:=Sn gN;have xH:=hg.rd p;have hqv:=hg.rd q;rw[hp]at xH;rw[hq]at hqv;refine xO h (.int k _) _ ?_ (mi _ _) hk;simp[execOp,ho,resolve,invoke,builtin,Builtin.min_,Builtin.min2,kf xH,kf hqv];cases hk
theorem aia {o:Oper}(ho:o.op=.call {callee:=.builtin .max,args,argTypes:=ts})(h:qo C st a w){K:AS->aA R}(hk:S5 o args.toList st K=some r):oK P C o a w K r:=by obtain⟨g,hg⟩:=id h;unfold S5 at hk;split at hk;rename_i k x k' y gN;obtain⟨p,q,rfl,hp,hq⟩:=Sn gN;have xH:=hg.rd p;have hqv:=hg.rd q;rw[hp]at xH;rw[hq]at hqv;refine xO h (.int k _) _ ?_ (mi _ _) hk;simp[execOp,ho,resolve,invoke,builtin,Builtin.max_,Builtin.max2,kf xH,kf hqv];cases hk
end Go.Dn
