import Derived.Test.YtbebkmajekhclaaGreatDnOps3
import Derived.Test.YtbebkmajekhclaaGreatDnEq
/- Part 4: addresses, numbers, strings, slices of slices. -/
namespace Go.Dn
open Go.RowKit
variable {P:Program} {C:Ctx} {st:AS} {a:Act} {w:World} {R:Type} {r:R}
variable {args:Array Operand} {ts:Array TypeId} {x:Operand} {T:TypeId}
theorem acU {E:Env}(hE:ka P E.ty){o:Oper}{S:TypeId}{p:Operand}{f:Nat}(ho:o.op=.fieldAddr S p f)(h:py C st a w){K:AS->az R}(hk:CO E o S p f st K=some r):nG P C o a w K r:=by
 unfold CO at hk
 have run:∀(sh:Shape),jK E.ty S=some sh->sh.agg=true->∀fo n,nth sh.kF f=some (fo,n)->∀b off,a.eval p=.pointer (some ⟨b,off,none⟩)->
  (execOp a.eval o).run P w=.ok (.value (.pointer (some ⟨b,off+fo,none⟩))) w:=by
  intro sh hS Pw fo n hf b off hv
  obtain⟨fs,hu,KN⟩:=(hE S sh hS).agg Pw
  rw[ez]at hf
  obtain⟨fd,hfd,Tg,hn,i,hi,uU⟩:=KN f fo n hf
  simp only[execOp,ho,hv,Instr.fieldAt,Instr.sureAddr,underlying,Sem.run_bind,run_program,hu,Result.andThen_ok,Sem.run_pure,hfd,fieldPlace,sizeOf,typeInfo,hi,uU,Tg]
  rw[nI]
  simp[om]
 obtain⟨g,hg⟩:=id h;have xd:=hg.rd p;split at hk;rename_i ct kF s off hS hp;split at hk;rename_i fo n hf;rw[hp]at xd;have hv:=Eg xd;have hpr:=(fu xd).2.1;refine⟨_,_,_,.inl (run _ hS rfl fo n hf _ _ hv),?_,hk⟩;exact⟨g,hg.quiet o.dst (nq ⟨rfl,hpr,rfl⟩)⟩;cases hk;rename_i ct kF fl e x i off hS hp;split at hk;rename_i fo n hf;rw[hp]at xd;have hc:=fu xd;cases fl with
 |own t=>exact hc.elim
 |nest _ _ _ _ _ _=>exact hc.elim
 |part _ _ _ _=>exact hc.elim
 |fS _ _ _=>exact hc.elim
 |arg _=>obtain⟨h1,b,ob,hv,h2⟩:=hc;refine⟨_,_,_,.inl (run _ hS rfl fo n hf _ _ hv),?_,hk⟩;exact⟨g,hg.quiet o.dst (nq ⟨rfl,b,ob,by rw[gi],h2⟩)⟩
 |loc ep pv=>obtain⟨h1,b,ob,hv,h2⟩:=hc;refine⟨_,_,_,.inl (run _ hS rfl fo n hf _ _ hv),?_,hk⟩;exact⟨g,hg.quiet o.dst (nq ⟨rfl,b,ob,by rw[gi],h2⟩)⟩
 cases hk;cases hk
theorem H4 {E:Env}(hE:ka P E.ty){e:CT}(h:E.sl T=some e):∃te,P.underlying T=some (.slice te)/\PQ P te e:=by unfold Env.sl at h;split at h;rename_i e' kF hT;simp at h;subst h;obtain⟨te,hu,he,_⟩:=(hE T _ hT).sl _ rfl rfl;exact⟨te,hu,he⟩;cases h
theorem XO {E:Env}(hE:ka P E.ty)(h:E.str T=true):P.underlying T=some .string:=by unfold Env.str at h;split at h;rename_i kF hT;exact(hE T _ hT).str rfl rfl;cases h
theorem anj {E:Env}(hE:ka P E.ty)(h:E.bool T=true):P.underlying T=some .bool:=by unfold Env.bool at h;split at h;rename_i kF hT;exact(hE T _ hT).bool rfl rfl;cases h
theorem bc {α:Type}{xs:aw α}{n:Int}{y:α}(h:idx xs n=some y):∃k:Nat,n=k/\k<xs.length/\xs[k]?=some y:=by obtain⟨k,h1,h2⟩:=ZA h;exact⟨k,h1,(aC.1 h2).1,h2⟩
theorem Rk {E:Env}(hE:ka P E.ty){o:Oper}{i:Operand}(ho:o.op=.indexAddr T x i)(h:py C st a w){K:AS->az R}(hk:np E o T x i st K=some r):nG P C o a w K r:=by
 unfold np at hk;obtain⟨g,hg⟩:=id h;have xe:=hg.fresh (hg.rd x);have hiv:=hg.rd i;split at hk;rename_i e' fl e xs kd n hT hx hi;split at hk;rename_i hc;obtain⟨rfl,qm⟩:=hc;rw[hx]at xe;rw[hi]at hiv;have hxc:=fu xe;have yK:=jq hiv;cases HD:idx xs n with
 |none=>rw[HD]at hk;cases hk
 |some y=>
  rw[HD]at hk;simp only[aa]at hk;obtain⟨k,rfl,SQ,hky⟩:=bc HD;obtain⟨te,hu,⟨inf,z,Fa,uU,_⟩,_⟩:=H4 hE hT;have run:∀b ob cap,a.eval x=.slice (some ⟨b,ob,none⟩) xs.length cap->(execOp a.eval o).run P w=.ok (.value (.pointer (some ⟨b,ob+k*e'.size,none⟩))) w:=by intro b ob cap hv;simp[execOp,ho,hv,yK,Instr.indexAt,asIntOf,underlying,hu,sizeOf,typeInfo,Fa,uU,SQ,om]
  cases fl with
  |own t=>cases qm
  |nest _ _ _ _ _ _=>cases qm
  |part _ _ _ _=>cases qm
  |fS _ _ _=>cases qm
  |arg _=>obtain⟨_,v,hv,hr⟩:=hxc;simp at hv;subst hv;rcases hr with⟨_,rfl⟩|⟨b,ob,cap,hv,_,hr⟩;simp at hky;obtain⟨cs,MB,Ls⟩:=hr k y hky;refine⟨_,_,_,.inl (run b ob cap hv),?_,hk⟩;exact⟨g,hg.quiet o.dst (nq ⟨rfl,b,ob+k*e'.size,rfl,cs,MB,Ls⟩)⟩
  |loc ep pv=>
   obtain⟨_,Bs,_,Ls,xd⟩:=hxc;have ayf:ep=st.ep:=by simpa[sn.live]using qm
   obtain⟨v,hv,hr⟩:=Ls ayf;simp at hv;subst hv;rcases hr with⟨_,rfl⟩|⟨b,ob,cap,hv,_,hr⟩;simp at hky;obtain⟨cs,MB,akZ⟩:=hr k y hky;refine⟨_,_,_,.inl (run b ob cap hv),?_,hk⟩;refine⟨g,hg.quiet o.dst (nq ⟨rfl,b,ob+k*e'.size,rfl,Bs,λ_=>⟨cs,MB,akZ⟩,λrt t hp=>?_⟩)⟩;obtain⟨h1,h2⟩:=xd rt t hp;exact⟨h1,k,ob,xs.length,cap,rfl,by rw[<-h2,hv],SQ,rfl⟩
 cases hk;cases hk
theorem Ad (s:aw UInt8):(ByteArray.mk s.toArray).size=s.length:=by show s.toArray.size=s.length;simp
theorem agG (s:aw UInt8)(n:Nat):(ByteArray.mk s.toArray)[n]?=s[n]?:=by
 simp only[getElem?_def];by_cases h:n<s.length;have h':n<(ByteArray.mk s.toArray).size:=by rw[Ad];exact h
 rw[dif_pos h',dif_pos h];rfl;have h':¬n<(ByteArray.mk s.toArray).size:=by rw[Ad];exact h
 rw[dif_neg h',dif_neg h]
theorem adx {E:Env}(hE:ka P E.ty){o:Oper}{i:Operand}(ho:o.op=.index T x i)(h:py C st a w){K:AS->az R}(hk:EH E o T x i st K=some r):nG P C o a w K r:=by
 unfold EH at hk;obtain⟨g,hg⟩:=id h;have xe:=hg.rd x;have hiv:=hg.rd i;split at hk;rename_i s kd n hx hi;split at hk;rename_i hT;rw[hx]at xe;rw[hi]at hiv;have hxc:=(fu xe).1;have yK:=jq hiv;cases HD:idx s n with
 |none=>rw[HD]at hk;cases hk
 |some y=>
  rw[HD]at hk;simp only[aa]at hk;obtain⟨k,rfl,SQ,hky⟩:=bc HD;have hu:=XO hE hT;have fg:(execOp a.eval o).run P w=.ok (.value (.int .u8 y.toNat)) w:=by simp[execOp,ho,hxc,yK,Instr.index,asIntOf,underlying,hu,agG,hky]
  refine⟨_,_,_,.inl fg,?_,hk⟩;exact⟨g,hg.quiet o.dst (nq ⟨rfl,rfl⟩)⟩
 cases hk;cases hk
theorem xm {o:Oper}(h:py C st a w){K:AS->az R}(v:Value)(c:AC)(fg:(execOp a.eval o).run P w=.ok (.value v) w)(fO:∀rc:RC,iy rc v c [])(hk:K (st.put o.dst (.one c))=some r):nG P C o a w K r:=by obtain⟨g,hg⟩:=h;exact⟨v,w,_,.inl fg,⟨g,hg.quiet o.dst (nq (fO _))⟩,hk⟩
theorem lh (k:IntKind)(n:Int)(rc:RC):iy rc (.int k n) (.int k n) []:=⟨rfl,rfl⟩
theorem De (b:Bool)(rc:RC):iy rc (.bool b) (.bool b) []:=⟨rfl,rfl⟩
theorem PH (s:aw UInt8)(rc:RC):iy rc (.string ⟨s.toArray⟩) (.str s) []:=⟨rfl,rfl⟩
theorem aoL {o:Oper}{op:UnOp}(ho:o.op=.unOp op T x)(h:py C st a w){K:AS->az R}(hk:(unC op (st.rd x) λc=>K (st.put o.dst (.one c)))=some r):nG P C o a w K r:=by obtain⟨g,hg⟩:=id h;have xe:=hg.rd x;unfold unC at hk;split at hk;rename_i b hx;rw[hx]at xe;have hv:=xP xe;exact xm h _ _ (by simp[execOp,ho,hv,Op.unary]) (De _) hk;rename_i k n hx;rw[hx]at xe;have hv:=jq xe;exact xm h _ _ (by simp only[execOp,ho,hv,Op.unary,Op.intArith];rfl) (lh _ _) hk;rename_i k n hx;rw[hx]at xe;have hv:=jq xe;exact xm h _ _ (by simp only[execOp,ho,hv,Op.unary,Op.intBits];rfl) (lh _ _) hk;cases hk
theorem Na {o:Oper}(ho:o.op=.nilCheck x)(h:py C st a w){K:AS->az R}{fl:sn}{e:CT}{y:e.D}{i:Int}{off:Nat}(hx:st.rd x=.val false [.Ey fl e y i off])(hk:K (st.put o.dst (.one (.Ey fl e y i off)))=some r):nG P C o a w K r:=by
 obtain⟨g,hg⟩:=id h;have xe:=hg.rd x;rw[hx]at xe;have hc:=fu xe;have hv:∃b q,a.eval x=.pointer (some ⟨b,q,none⟩):=by
  cases fl with
  |own t=>exact hc.elim
  |nest _ _ _ _ _ _=>exact hc.elim
  |part _ _ _ _=>exact hc.elim
  |fS _ _ _=>exact hc.elim
  |arg _=>obtain⟨_,b,q,hv,_⟩:=hc;exact⟨b,_,hv⟩
  |loc ep pv=>obtain⟨_,b,q,hv,_⟩:=hc;exact⟨b,_,hv⟩
 obtain⟨b,q,hv⟩:=hv;exact⟨.pointer (some ⟨b,q,none⟩),_,_,.inl (by simp only[execOp,ho,hv];rfl),⟨g,hg.quiet o.dst (by rw[<-hv];exact xe)⟩,hk⟩
theorem Tw {o:Oper}(ho:o.op=.nilCheck x)(h:py C st a w){K:AS->az R}{s off:Nat}(hx:st.rd x=.val false [.ptr s off])(hk:K (st.put o.dst (.one (.ptr s off)))=some r):nG P C o a w K r:=by obtain⟨g,hg⟩:=id h;have xe:=hg.rd x;rw[hx]at xe;have hv:=Eg xe;exact⟨.pointer (some ⟨g.β s,off,none⟩),_,_,.inl (by simp only[execOp,ho,hv];rfl),⟨g,hg.quiet o.dst (nq (x:=.ptr s off) ⟨rfl,(fu xe).2.1,rfl⟩)⟩,hk⟩
theorem aht {op:BinOp}{k:IntKind}{x y:Int}{K:AC->az R}(hk:LA op k x y K=some r)(T:TypeId)(w:World): ∃c v,(binOp op T (.int k x) (.int k y)).run P w=.ok v w/\(∀rc:RC,iy rc v c [])/\K c=some r:=by
 cases op<;>simp only[LA]at hk<;>(try (cases hk;done))<;>simp only[binOp,ne_eq,not_true_eq_false,cJ]
 case quo=>
  split at hk
  ·cases hk
  ·rename_i hy
   exact⟨_,.int k _,by simp only[Op.intDiv,hy,cJ];rfl,lh _ _,hk⟩
 case rem=>
  split at hk
  ·cases hk
  ·rename_i hy
   exact⟨_,.int k _,by simp only[Op.intDiv,hy,cJ];rfl,lh _ _,hk⟩
 case add=>exact⟨_,_,rfl,lh _ _,hk⟩
 case sub=>exact⟨_,_,rfl,lh _ _,hk⟩
 case mul=>exact⟨_,_,rfl,lh _ _,hk⟩
 case and=>exact⟨_,_,rfl,lh _ _,hk⟩
 case or=>exact⟨_,_,rfl,lh _ _,hk⟩
 case xor=>exact⟨_,_,rfl,lh _ _,hk⟩
 case andNot=>exact⟨_,_,rfl,lh _ _,hk⟩
 all_goals exact⟨_,_,rfl,De _,hk⟩
theorem agA (x y:aw UInt8):(ByteArray.mk x.toArray)++(ByteArray.mk y.toArray)=ByteArray.mk (x++y).toArray:=by apply ByteArray.ext;rw[ByteArray.data_append];simp
theorem aiW {op:BinOp}{x y:aw UInt8}{K:AC->az R}(hk:Ow op x y K=some r)(T:TypeId)(w:World): ∃c v,(binOp op T (.string ⟨x.toArray⟩) (.string ⟨y.toArray⟩)).run P w=.ok v w/\(∀rc:RC,iy rc v c [])/\K c=some r:=by
 cases op<;>simp only[Ow]at hk<;>(try (cases hk;done))<;>simp only[binOp,Op.stringOp,toList_mk]
 case add=>
  unfold room at hk
  split at hk
  ·rename_i hle
   have hs:¬(((ByteArray.mk x.toArray).size+(ByteArray.mk y.toArray).size:Nat):Int)>IntKind.i64.max:=by
    have e1:=Ad x;have e2:=Ad y;rw[e1,e2];have:IntKind.i64.max=9223372036854775807:=by decide
    omega
   exact⟨_,_,by rw[aK hs,agA];rfl,PH _,hk⟩
  ·cases hk
 all_goals exact⟨_,_,rfl,De _,hk⟩
theorem Pd (w:World)(D:Nat)(T te:TypeId)(hu:P.underlying T=some (.slice te)):(Op.equalIn (D+1) T (.slice none 0 0) (.slice none 0 0)).run P w=.ok true w:=by unfold Op.equalIn;simp only[underlying,Sem.run_bind,run_program,hu,Result.andThen_ok,Sem.run_pure];rfl
theorem Nn (w:World)(D:Nat)(T te:TypeId)(hu:P.underlying T=some (.slice te))(ad:Addr)(n k:Nat):(Op.equalIn (D+1) T (.slice (some ad) n k) (.slice none 0 0)).run P w=.ok false w:=by unfold Op.equalIn;simp only[underlying,Sem.run_bind,run_program,hu,Result.andThen_ok,Sem.run_pure]
theorem ajo {E:Env}(hE:ka P E.ty)(hQ:X2 P E.eqs){o:Oper}{op:BinOp}{T':TypeId}{y:Operand}(ho:o.op=.binOp op T x y T')(h:py C st a w){K:AS->az R}(hk:DK E o op T x y st K=some r):nG P C o a w K r:=by
 obtain⟨g,hg⟩:=id h;have xe:=hg.rd x;have UF:=hg.rd y;have fin:∀v c,(do eqGuard op T x y (a.eval x) (a.eval y);binOp op T (a.eval x) (a.eval y):Sem Value).run P w=.ok v w->(∀rc:RC,iy rc v c [])->K (st.put o.dst (.one c))=some r->nG P C o a w K r:=by intro v c fg fO WM;refine⟨v,w,_,.inl ?_,⟨g,hg.quiet o.dst (nq (fO _))⟩,WM⟩;simp only[execOp,ho];show((do eqGuard op T x y (a.eval x) (a.eval y);binOp op T (a.eval x) (a.eval y):Sem Value)>>=λv=>pure (Next.value v)).run P w=_;rw[Sem.run_bind,fg];rfl
 have QX:∀{k k':IntKind}{p q:Int},(eqGuard op T x y (.int k p) (.int k' q)).run P w=.ok () w:=by intros;unfold eqGuard;split<;>rfl
 have akK:∀{p q:ByteArray},(eqGuard op T x y (.string p) (.string q)).run P w=.ok () w:=by intros;unfold eqGuard;split<;>rfl
 have ag3:∀{p q:Bool},(eqGuard op T x y (.bool p) (.bool q)).run P w=.ok () w:=by intros;unfold eqGuard;split<;>rfl
 unfold DK at hk;split at hk
 ·rename_i p q hx hy;rw[hx]at xe;rw[hy]at UF;split at hk;·rename_i hT;have hu:=anj hE hT;simp only[Jc]at hk;cases op<;>simp only at hk<;>(try (cases hk;done));all_goals refine fin _ _ ?_ (De _) hk;rw[xP xe,xP UF,Sem.run_bind,ag3];simp only[Result.andThen_ok,binOp,Op.equal,Op.maxDepth,Sem.run_bind];rw[run_equalIn_bool' w 9999 T p q hu];rfl
  cases hk
 ·rename_i xs ys hx hy;rw[hx]at xe;rw[hy]at UF;split at hk
  ·rename_i ls hT;split at hk
   ·rename_i hf;obtain⟨vs,hcx,hrx⟩:=xe;obtain⟨us,hcy,hry⟩:=UF;simp only[Cut,cz]at hcx hcy;have hgd:(eqGuard op T x y (.agg vs.toArray) (.agg us.toArray)).run P w=.ok () w:=by have hgt:=(hQ T ls hT).2.2;unfold eqGuard;cases op<;>simp[hgt]
    simp only[Jc]at hk;cases op<;>simp only at hk<;>(try (cases hk;done));all_goals cases he:xl xs ys with|none=>rw[he]at hk;cases hk|some b=>rw[he]at hk;simp only[aa]at hk;refine fin _ _ ?_ (De _) hk;rw[hcx,hcy,Sem.run_bind,hgd];simp only[Result.andThen_ok,binOp,Sem.run_bind,aqb hQ hT hrx hry hf he w];rfl
   cases hk
  cases hk
 ·rename_i fl e xs hx hy;rw[hx]at xe;rw[hy]at UF;split at hk
  ·rename_i hT;obtain⟨hT,qm⟩:=hT;cases hs:E.sl T with
   |none=>rw[hs]at hT;cases hT
   |some e'=>
    obtain⟨te,hu,_⟩:=H4 hE hs;split at hk;cases hk
    ·rename_i hlen;have asQ:∃b ob n k,a.eval x=.slice (some ⟨b,ob,none⟩) n k:=by
      have hc:=fu xe;have key:∀{S:Nat->Nat->Prop},jM w S (.sl e) [a.eval x] xs->∃b ob n k,a.eval x=.slice (some ⟨b,ob,none⟩) n k:=by rintro S ⟨u,WR,h1⟩;simp at WR;rcases h1 with⟨_,rfl⟩|⟨b,ob,cap,hv,_⟩;simp at hlen;exact⟨b,ob,_,_,by rw[WR];exact hv⟩
      cases fl with
      |own t=>cases qm
      |nest _ _ _ _ _ _=>cases qm
      |part _ _ _ _=>cases qm
      |fS _ _ _=>cases qm
      |arg _=>exact key hc.2
      |loc ep pv=>
       have Bs:ep=st.ep:=by simpa[sn.live]using qm
       exact key (hc.2.2.2.1 Bs)
     obtain⟨b,ob,n,k,hv⟩:=asQ;have hyn:=(fu UF).1;have fg:(Op.equal T (a.eval x) (a.eval y)).run P w=.ok false w:=by rw[hv,hyn];exact Nn w 9999 T te hu _ _ _
     have hgd:(eqGuard op T x y (a.eval x) (a.eval y)).run P w=.ok () w:=by rw[hv,hyn];unfold eqGuard;split<;>rfl
     unfold GP at hk;cases op<;>simp only at hk<;>(try (cases hk;done));all_goals refine fin _ _ ?_ (De _) hk;rw[Sem.run_bind,hgd];rw[hv,hyn]at fg⊢;simp only[Result.andThen_ok,binOp,Sem.run_bind,fg];rfl
  cases hk
 ·rename_i hx hy;rw[hx]at xe;rw[hy]at UF;split at hk
  ·rename_i hT;cases hs:E.sl T with
   |none=>rw[hs]at hT;cases hT
   |some e'=>
    obtain⟨te,hu,_⟩:=H4 hE hs;have hxn:=(fu xe).1;have hyn:=(fu UF).1;have fg:(Op.equal T (.slice none 0 0) (.slice none 0 0)).run P w=.ok true w:=by exact Pd w 9999 T te hu
    have hgd:(eqGuard op T x y (.slice none 0 0) (.slice none 0 0)).run P w=.ok () w:=by unfold eqGuard;split<;>rfl
    unfold GP at hk;cases op<;>simp only at hk<;>(try (cases hk;done));all_goals refine fin _ _ ?_ (De _) hk;rw[hxn,hyn,Sem.run_bind,hgd];simp only[Result.andThen_ok,binOp,Sem.run_bind,fg];rfl
  cases hk
 rename_i va vb KQ Fc hn3 hn4;unfold Jc at hk;split at hk;rename_i k p k' q hx hy;rw[hx]at xe;rw[hy]at UF;split at hk;split at hk;cases hk;rename_i hq;refine fin _ _ ?_ (lh _ _) hk;rw[jq xe,jq UF,Sem.run_bind,QX];simp only[Result.andThen_ok,binOp,Op.shift,hq,cJ];rfl;split at hk;cases hk;rename_i hq;refine fin _ _ ?_ (lh _ _) hk;rw[jq xe,jq UF,Sem.run_bind,QX];simp only[Result.andThen_ok,binOp,Op.shift,hq,cJ];rfl;split at hk;rename_i WM;subst WM;obtain⟨c,v,fg,fO,hkc⟩:=aht (P:=P) hk T w;refine fin v c ?_ fO hkc;rw[jq xe,jq UF,Sem.run_bind,QX];exact fg;cases hk;rename_i p q hx hy;rw[hx]at xe;rw[hy]at UF;obtain⟨c,v,fg,fO,hkc⟩:=aiW (P:=P) hk T w;refine fin v c ?_ fO hkc;rw[(fu xe).1,(fu UF).1,Sem.run_bind,akK];exact fg;rename_i p q hx hy;exact absurd hy (KQ p q hx);rename_i xs ys hx hy;exact absurd hy (Fc xs ys hx);cases hk
theorem alo {E:Env}(hE:ka P E.ty){o:Oper}(ho:o.op=.call {callee:=.builtin .len,args,argTypes:=ts})(h:py C st a w){K:AS->az R}(hk:Rt E o ts.toList args.toList st K=some r):nG P C o a w K r:=by
 obtain⟨g,hg⟩:=id h;unfold Rt at hk;split at hk;rename_i t s vK gP;obtain⟨x,hx,hxs⟩:∃x,args.toList=[x]/\st.rd x=.val false [.str s]:=by cases hl:args.toList with|nil=>rw[hl]at gP;simp at gP|cons x l=>rw[hl]at gP;simp at gP;exact⟨x,by rw[gP.2],gP.1⟩
 have ea:args=#[x]:=by apply fN;simpa using hx
 have et:ts=#[t]:=by apply fN;simpa using vK
 subst ea;subst et;split at hk;rename_i hT;have xe:=hg.rd x;rw[hxs]at xe;have hv:=(fu xe).1;refine xm h (.int .i64 _) _ ?_ (lh _ _) hk;simp[execOp,ho,resolve,invoke,builtin,Builtin.len_,underlying,XO hE hT,hv,goInt,Ad];cases hk;rename_i t fl e xs vK gP;obtain⟨x,hx,hxs⟩:∃x,args.toList=[x]/\st.rd x=.val false [.sl fl e xs]:=by cases hl:args.toList with|nil=>rw[hl]at gP;simp at gP|cons x l=>rw[hl]at gP;simp at gP;exact⟨x,by rw[gP.2],gP.1⟩
 have ea:args=#[x]:=by apply fN;simpa using hx
 have et:ts=#[t]:=by apply fN;simpa using vK
 subst ea;subst et;split at hk;rename_i hT;have xe:=hg.rd x;rw[hxs]at xe;obtain⟨e',he'⟩:=Option.isSome_iff_exists.1 hT;obtain⟨te,hu,_⟩:=H4 hE he';have hv:∃b cap,a.eval x=.slice b xs.length cap:=by
  have hc:=fu xe;cases fl with
  |nest _ _ _ _ _ _=>obtain⟨_,_,⟨o1,n1,k1,h1,h2⟩,_⟩:=hc;exact⟨o1,k1,by rw[h1,h2]⟩
  |part _ _ _ _=>obtain⟨_,_,⟨o1,n1,k1,h1,h2⟩,_⟩:=hc;exact⟨o1,k1,by rw[h1,h2]⟩
  |fS _ _ _=>obtain⟨_,⟨k,_,b,o0,cap,arr,T,fr,fps,h1,_⟩,_⟩:=hc;exact⟨_,_,h1⟩
  |own t=>obtain⟨⟨u,hu,ho⟩,_⟩:=hc;simp at hu;subst hu;rcases ho with⟨⟨_,h1⟩,rfl,_⟩|⟨b,_,cap,_,_,_,_,h1,_⟩;exact⟨_,_,h1⟩;exact⟨_,_,h1⟩
  |arg _=>obtain⟨_,u,hu,ho⟩:=hc;simp at hu;subst hu;rcases ho with⟨⟨ad,h1⟩,rfl⟩|⟨b,ob,cap,h1,_⟩;exact⟨ad,0,h1⟩;exact⟨_,_,h1⟩
  |loc ep pv=>obtain⟨_,_,⟨b,n,k,h1,h2⟩,_⟩:=hc;exact⟨b,k,by rw[h1,h2]⟩
 obtain⟨b,cap,hv⟩:=hv;refine xm h (.int .i64 _) _ ?_ (lh _ _) hk;simp[execOp,ho,resolve,invoke,builtin,Builtin.len_,underlying,hu,hv,goInt];cases hk;cases hk
theorem SH {u v:AV}(h:args.toList.map st.rd=[u,v]):∃x y,args=#[x,y]/\st.rd x=u/\st.rd y=v:=by match hl:args.toList with|[]=>rw[hl]at h;simp at h|[_]=>rw[hl]at h;simp at h|[x,y]=>rw[hl]at h;simp at h;exact⟨x,y,by apply fN;simpa using hl,h.1,h.2⟩|_::_::_::_=>rw[hl]at h;simp at h
theorem aly {o:Oper}(ho:o.op=.call {callee:=.builtin .min,args,argTypes:=ts})(h:py C st a w){K:AS->az R}(hk:Tq o args.toList st K=some r):nG P C o a w K r:=by obtain⟨g,hg⟩:=id h;unfold Tq at hk;split at hk;rename_i k x k' y gP;obtain⟨p,q,rfl,hp,hq⟩:=SH gP;have xd:=hg.rd p;have hqv:=hg.rd q;rw[hp]at xd;rw[hq]at hqv;refine xm h (.int k _) _ ?_ (lh _ _) hk;simp[execOp,ho,resolve,invoke,builtin,Builtin.min_,Builtin.min2,jq xd,jq hqv];cases hk
theorem alw {o:Oper}(ho:o.op=.call {callee:=.builtin .max,args,argTypes:=ts})(h:py C st a w){K:AS->az R}(hk:Tp o args.toList st K=some r):nG P C o a w K r:=by obtain⟨g,hg⟩:=id h;unfold Tp at hk;split at hk;rename_i k x k' y gP;obtain⟨p,q,rfl,hp,hq⟩:=SH gP;have xd:=hg.rd p;have hqv:=hg.rd q;rw[hp]at xd;rw[hq]at hqv;refine xm h (.int k _) _ ?_ (lh _ _) hk;simp[execOp,ho,resolve,invoke,builtin,Builtin.max_,Builtin.max2,jq xd,jq hqv];cases hk
end Go.Dn
