import Derived.Test.YtainmjjkipbciaaGreatDnOps3
import Derived.Test.YtainmjjkipbciaaGreatDnEq
/- Part 4: addresses, numbers, strings, slices of slices. -/
namespace Go.Dn
open Go.RowKit
variable {P:Program} {C:Ctx} {st:AS} {a:Act} {w:World} {R:Type} {r:R}
variable {args:Array Operand} {ts:Array TypeId} {x:Operand} {T:TypeId}
theorem UH {E:Env}(hE:ja P E.ty){o:Oper}{S:TypeId}{p:Operand}{f:Nat}(ho:o.op=.fieldAddr S p f)(h:mZ C st a w){K:AS->ax R}(hk:xS E o S p f st K=some r):lS P C o a w K r:=by
 unfold xS at hk
 have run:∀(sh:Shape),iQ E.ty S=some sh->sh.agg=true->∀fo n,nth sh.jv f=some (fo,n)->∀b off,a.eval p=.pointer (some ⟨b,off,none⟩)->
  (execOp a.eval o).run P w=.ok (.value (.pointer (some ⟨b,off+fo,none⟩))) w:=by
  intro sh hS IS fo n hf b off hv
  obtain⟨fs,hu,EL⟩:=(hE S sh hS).agg IS
  rw[dI]at hf
  obtain⟨fd,hfd,L8,hn,i,hi,sV⟩:=EL f fo n hf
  simp only[execOp,ho,hv,Instr.fieldAt,Instr.sureAddr,underlying,Sem.run_bind,run_program,hu,Result.andThen_ok,Sem.run_pure,hfd,fieldPlace,sizeOf,typeInfo,hi,sV,L8]
  rw[lR]
  simp[mx]
 obtain⟨g,hg⟩:=id h;have sU:=hg.rd p;split at hk;rename_i ct jv s off hS hp;split at hk;rename_i fo n hf;rw[hp]at sU;have hv:=yT sU;have YD:=(ej sU).2.1;refine⟨_,_,_,.inl (run _ hS rfl fo n hf _ _ hv),?_,hk⟩;exact⟨g,hg.quiet o.dst (lK ⟨rfl,YD,rfl⟩)⟩;cases hk;rename_i ct jv fl e x i off hS hp;split at hk;rename_i fo n hf;rw[hp]at sU;have hc:=ej sU;cases fl with
 |own t=>exact hc.elim
 |nest _ _ _ _ _ _=>exact hc.elim
 |part _ _ _ _=>exact hc.elim
 |fa _ _ _=>exact hc.elim
 |arg _=>obtain⟨h1,b,ob,hv,h2⟩:=hc;refine⟨_,_,_,.inl (run _ hS rfl fo n hf _ _ hv),?_,hk⟩;exact⟨g,hg.quiet o.dst (lK ⟨rfl,b,ob,by rw[ft],h2⟩)⟩
 |loc ep pv=>obtain⟨h1,b,ob,hv,h2⟩:=hc;refine⟨_,_,_,.inl (run _ hS rfl fo n hf _ _ hv),?_,hk⟩;exact⟨g,hg.quiet o.dst (lK ⟨rfl,b,ob,by rw[ft],h2⟩)⟩
 cases hk;cases hk
theorem CD {E:Env}(hE:ja P E.ty){e:CT}(h:E.sl T=some e):∃te,P.underlying T=some (.slice te)/\I6 P te e:=by unfold Env.sl at h;split at h;rename_i e' jv hT;simp at h;subst h;obtain⟨te,hu,he,_⟩:=(hE T _ hT).sl _ rfl rfl;exact⟨te,hu,he⟩;cases h
theorem Qp {E:Env}(hE:ja P E.ty)(h:E.str T=true):P.underlying T=some .string:=by unfold Env.str at h;split at h;rename_i jv hT;exact(hE T _ hT).str rfl rfl;cases h
theorem aey {E:Env}(hE:ja P E.ty)(h:E.bool T=true):P.underlying T=some .bool:=by unfold Env.bool at h;split at h;rename_i jv hT;exact(hE T _ hT).bool rfl rfl;cases h
theorem bn {α:Type}{xs:aw α}{n:Int}{y:α}(h:idx xs n=some y):∃k:Nat,n=k/\k<xs.length/\xs[k]?=some y:=by obtain⟨k,h1,h2⟩:=R9 h;exact⟨k,h1,(aG.1 h2).1,h2⟩
theorem KE {E:Env}(hE:ja P E.ty){o:Oper}{i:Operand}(ho:o.op=.indexAddr T x i)(h:mZ C st a w){K:AS->ax R}(hk:lJ E o T x i st K=some r):lS P C o a w K r:=by
 unfold lJ at hk;obtain⟨g,hg⟩:=id h;have sW:=hg.fresh (hg.rd x);have hiv:=hg.rd i;split at hk;rename_i e' fl e xs kd n hT hx hi;split at hk;rename_i hc;obtain⟨rfl,nL⟩:=hc;rw[hx]at sW;rw[hi]at hiv;have hxc:=ej sW;have sv:=iD hiv;cases Cf:idx xs n with
 |none=>rw[Cf]at hk;cases hk
 |some y=>
  rw[Cf]at hk;simp only[aa]at hk;obtain⟨k,rfl,hkl,hky⟩:=bn Cf;obtain⟨te,hu,⟨inf,z,zO,sV,_⟩,_⟩:=CD hE hT;have run:∀b ob cap,a.eval x=.slice (some ⟨b,ob,none⟩) xs.length cap->(execOp a.eval o).run P w=.ok (.value (.pointer (some ⟨b,ob+k*e'.size,none⟩))) w:=by intro b ob cap hv;simp[execOp,ho,hv,sv,Instr.indexAt,asIntOf,underlying,hu,sizeOf,typeInfo,zO,sV,hkl,mx]
  cases fl with
  |own t=>cases nL
  |nest _ _ _ _ _ _=>cases nL
  |part _ _ _ _=>cases nL
  |fa _ _ _=>cases nL
  |arg _=>obtain⟨_,v,hv,hr⟩:=hxc;simp at hv;subst hv;rcases hr with⟨_,rfl⟩|⟨b,ob,cap,hv,_,hr⟩;simp at hky;obtain⟨cs,GD,Fh⟩:=hr k y hky;refine⟨_,_,_,.inl (run b ob cap hv),?_,hk⟩;exact⟨g,hg.quiet o.dst (lK ⟨rfl,b,ob+k*e'.size,rfl,cs,GD,Fh⟩)⟩
  |loc ep pv=>
   obtain⟨_,wB,_,Fh,sU⟩:=hxc;have arF:ep=st.ep:=by simpa[pj.live]using nL
   obtain⟨v,hv,hr⟩:=Fh arF;simp at hv;subst hv;rcases hr with⟨_,rfl⟩|⟨b,ob,cap,hv,_,hr⟩;simp at hky;obtain⟨cs,GD,abH⟩:=hr k y hky;refine⟨_,_,_,.inl (run b ob cap hv),?_,hk⟩;refine⟨g,hg.quiet o.dst (lK ⟨rfl,b,ob+k*e'.size,rfl,wB,λ_=>⟨cs,GD,abH⟩,λrt t hp=>?_⟩)⟩;obtain⟨h1,h2⟩:=sU rt t hp;exact⟨h1,k,ob,xs.length,cap,rfl,by rw[<-h2,hv],hkl,rfl⟩
 cases hk;cases hk
theorem vD (s:aw UInt8):(ByteArray.mk s.toArray).size=s.length:=by show s.toArray.size=s.length;simp
theorem X7 (s:aw UInt8)(n:Nat):(ByteArray.mk s.toArray)[n]?=s[n]?:=by
 simp only[getElem?_def];by_cases h:n<s.length;have h':n<(ByteArray.mk s.toArray).size:=by rw[vD];exact h
 rw[dif_pos h',dif_pos h];rfl;have h':¬n<(ByteArray.mk s.toArray).size:=by rw[vD];exact h
 rw[dif_neg h',dif_neg h]
theorem Vg {E:Env}(hE:ja P E.ty){o:Oper}{i:Operand}(ho:o.op=.index T x i)(h:mZ C st a w){K:AS->ax R}(hk:zv E o T x i st K=some r):lS P C o a w K r:=by
 unfold zv at hk;obtain⟨g,hg⟩:=id h;have sW:=hg.rd x;have hiv:=hg.rd i;split at hk;rename_i s kd n hx hi;split at hk;rename_i hT;rw[hx]at sW;rw[hi]at hiv;have hxc:=(ej sW).1;have sv:=iD hiv;cases Cf:idx s n with
 |none=>rw[Cf]at hk;cases hk
 |some y=>
  rw[Cf]at hk;simp only[aa]at hk;obtain⟨k,rfl,hkl,hky⟩:=bn Cf;have hu:=Qp hE hT;have ec:(execOp a.eval o).run P w=.ok (.value (.int .u8 y.toNat)) w:=by simp[execOp,ho,hxc,sv,Instr.index,asIntOf,underlying,hu,X7,hky]
  refine⟨_,_,_,.inl ec,?_,hk⟩;exact⟨g,hg.quiet o.dst (lK ⟨rfl,rfl⟩)⟩
 cases hk;cases hk
theorem th {o:Oper}(h:mZ C st a w){K:AS->ax R}(v:Value)(c:AC)(ec:(execOp a.eval o).run P w=.ok (.value v) w)(eK:∀rc:RC,gB rc v c [])(hk:K (st.put o.dst (.one c))=some r):lS P C o a w K r:=by obtain⟨g,hg⟩:=h;exact⟨v,w,_,.inl ec,⟨g,hg.quiet o.dst (lK (eK _))⟩,hk⟩
theorem jM (k:IntKind)(n:Int)(rc:RC):gB rc (.int k n) (.int k n) []:=⟨rfl,rfl⟩
theorem yl (b:Bool)(rc:RC):gB rc (.bool b) (.bool b) []:=⟨rfl,rfl⟩
theorem IY (s:aw UInt8)(rc:RC):gB rc (.string ⟨s.toArray⟩) (.str s) []:=⟨rfl,rfl⟩
theorem afV {o:Oper}{op:UnOp}(ho:o.op=.unOp op T x)(h:mZ C st a w){K:AS->ax R}(hk:(unC op (st.rd x) λc=>K (st.put o.dst (.one c)))=some r):lS P C o a w K r:=by obtain⟨g,hg⟩:=id h;have sW:=hg.rd x;unfold unC at hk;split at hk;rename_i b hx;rw[hx]at sW;have hv:=tP sW;exact th h _ _ (by simp[execOp,ho,hv,Op.unary]) (yl _) hk;rename_i k n hx;rw[hx]at sW;have hv:=iD sW;exact th h _ _ (by simp only[execOp,ho,hv,Op.unary,Op.intArith];rfl) (jM _ _) hk;rename_i k n hx;rw[hx]at sW;have hv:=iD sW;exact th h _ _ (by simp only[execOp,ho,hv,Op.unary,Op.intBits];rfl) (jM _ _) hk;cases hk
theorem G2 {o:Oper}(ho:o.op=.nilCheck x)(h:mZ C st a w){K:AS->ax R}{fl:pj}{e:CT}{y:e.D}{i:Int}{off:Nat}(hx:st.rd x=.val false [.zk fl e y i off])(hk:K (st.put o.dst (.one (.zk fl e y i off)))=some r):lS P C o a w K r:=by
 obtain⟨g,hg⟩:=id h;have sW:=hg.rd x;rw[hx]at sW;have hc:=ej sW;have hv:∃b q,a.eval x=.pointer (some ⟨b,q,none⟩):=by
  cases fl with
  |own t=>exact hc.elim
  |nest _ _ _ _ _ _=>exact hc.elim
  |part _ _ _ _=>exact hc.elim
  |fa _ _ _=>exact hc.elim
  |arg _=>obtain⟨_,b,q,hv,_⟩:=hc;exact⟨b,_,hv⟩
  |loc ep pv=>obtain⟨_,b,q,hv,_⟩:=hc;exact⟨b,_,hv⟩
 obtain⟨b,q,hv⟩:=hv;exact⟨.pointer (some ⟨b,q,none⟩),_,_,.inl (by simp only[execOp,ho,hv];rfl),⟨g,hg.quiet o.dst (by rw[<-hv];exact sW)⟩,hk⟩
theorem Mm {o:Oper}(ho:o.op=.nilCheck x)(h:mZ C st a w){K:AS->ax R}{s off:Nat}(hx:st.rd x=.val false [.ptr s off])(hk:K (st.put o.dst (.one (.ptr s off)))=some r):lS P C o a w K r:=by obtain⟨g,hg⟩:=id h;have sW:=hg.rd x;rw[hx]at sW;have hv:=yT sW;exact⟨.pointer (some ⟨g.β s,off,none⟩),_,_,.inl (by simp only[execOp,ho,hv];rfl),⟨g,hg.quiet o.dst (lK (x:=.ptr s off) ⟨rfl,(ej sW).2.1,rfl⟩)⟩,hk⟩
theorem Zj {op:BinOp}{k:IntKind}{x y:Int}{K:AC->ax R}(hk:FB op k x y K=some r)(T:TypeId)(w:World): ∃c v,(binOp op T (.int k x) (.int k y)).run P w=.ok v w/\(∀rc:RC,gB rc v c [])/\K c=some r:=by
 cases op<;>simp only[FB]at hk<;>(try (cases hk;done))<;>simp only[binOp,ne_eq,not_true_eq_false,bX]
 case quo=>
  split at hk
  ·cases hk
  ·rename_i hy
   exact⟨_,.int k _,by simp only[Op.intDiv,hy,bX];rfl,jM _ _,hk⟩
 case rem=>
  split at hk
  ·cases hk
  ·rename_i hy
   exact⟨_,.int k _,by simp only[Op.intDiv,hy,bX];rfl,jM _ _,hk⟩
 case add=>exact⟨_,_,rfl,jM _ _,hk⟩
 case sub=>exact⟨_,_,rfl,jM _ _,hk⟩
 case mul=>exact⟨_,_,rfl,jM _ _,hk⟩
 case and=>exact⟨_,_,rfl,jM _ _,hk⟩
 case or=>exact⟨_,_,rfl,jM _ _,hk⟩
 case xor=>exact⟨_,_,rfl,jM _ _,hk⟩
 case andNot=>exact⟨_,_,rfl,jM _ _,hk⟩
 all_goals exact⟨_,_,rfl,yl _,hk⟩
theorem X0 (x y:aw UInt8):(ByteArray.mk x.toArray)++(ByteArray.mk y.toArray)=ByteArray.mk (x++y).toArray:=by apply ByteArray.ext;rw[ByteArray.data_append];simp
theorem aaE {op:BinOp}{x y:aw UInt8}{K:AC->ax R}(hk:H6 op x y K=some r)(T:TypeId)(w:World): ∃c v,(binOp op T (.string ⟨x.toArray⟩) (.string ⟨y.toArray⟩)).run P w=.ok v w/\(∀rc:RC,gB rc v c [])/\K c=some r:=by
 cases op<;>simp only[H6]at hk<;>(try (cases hk;done))<;>simp only[binOp,Op.stringOp,toList_mk]
 case add=>
  unfold room at hk
  split at hk
  ·rename_i hle
   have hs:¬(((ByteArray.mk x.toArray).size+(ByteArray.mk y.toArray).size:Nat):Int)>IntKind.i64.max:=by
    have e1:=vD x;have e2:=vD y;rw[e1,e2];have:IntKind.i64.max=9223372036854775807:=by decide
    omega
   exact⟨_,_,by rw[aH hs,X0];rfl,IY _,hk⟩
  ·cases hk
 all_goals exact⟨_,_,rfl,yl _,hk⟩
theorem IC (w:World)(D:Nat)(T te:TypeId)(hu:P.underlying T=some (.slice te)):(Op.equalIn (D+1) T (.slice none 0 0) (.slice none 0 0)).run P w=.ok true w:=by unfold Op.equalIn;simp only[underlying,Sem.run_bind,run_program,hu,Result.andThen_ok,Sem.run_pure];rfl
theorem Hf (w:World)(D:Nat)(T te:TypeId)(hu:P.underlying T=some (.slice te))(ad:Addr)(n k:Nat):(Op.equalIn (D+1) T (.slice (some ad) n k) (.slice none 0 0)).run P w=.ok false w:=by unfold Op.equalIn;simp only[underlying,Sem.run_bind,run_program,hu,Result.andThen_ok,Sem.run_pure]
theorem aa0 {E:Env}(hE:ja P E.ty)(hQ:QH P E.eqs){o:Oper}{op:BinOp}{T':TypeId}{y:Operand}(ho:o.op=.binOp op T x y T')(h:mZ C st a w){K:AS->ax R}(hk:yA E o op T x y st K=some r):lS P C o a w K r:=by
 obtain⟨g,hg⟩:=id h;have sW:=hg.rd x;have M9:=hg.rd y;have fin:∀v c,(do eqGuard op T x y (a.eval x) (a.eval y);binOp op T (a.eval x) (a.eval y):Sem Value).run P w=.ok v w->(∀rc:RC,gB rc v c [])->K (st.put o.dst (.one c))=some r->lS P C o a w K r:=by intro v c ec eK Pq;refine⟨v,w,_,.inl ?_,⟨g,hg.quiet o.dst (lK (eK _))⟩,Pq⟩;simp only[execOp,ho];show((do eqGuard op T x y (a.eval x) (a.eval y);binOp op T (a.eval x) (a.eval y):Sem Value)>>=λv=>pure (Next.value v)).run P w=_;rw[Sem.run_bind,ec];rfl
 have Kd:∀{k k':IntKind}{p q:Int},(eqGuard op T x y (.int k p) (.int k' q)).run P w=.ok () w:=by intros;unfold eqGuard;split<;>rfl
 have abt:∀{p q:ByteArray},(eqGuard op T x y (.string p) (.string q)).run P w=.ok () w:=by intros;unfold eqGuard;split<;>rfl
 have Yt:∀{p q:Bool},(eqGuard op T x y (.bool p) (.bool q)).run P w=.ok () w:=by intros;unfold eqGuard;split<;>rfl
 unfold yA at hk;split at hk
 ·rename_i p q hx hy;rw[hx]at sW;rw[hy]at M9;split at hk;·rename_i hT;have hu:=aey hE hT;simp only[Dq]at hk;cases op<;>simp only at hk<;>(try (cases hk;done));all_goals refine fin _ _ ?_ (yl _) hk;rw[tP sW,tP M9,Sem.run_bind,Yt];simp only[Result.andThen_ok,binOp,Op.equal,Op.maxDepth,Sem.run_bind];rw[run_equalIn_bool' w 9999 T p q hu];rfl
  cases hk
 ·rename_i xs ys hx hy;rw[hx]at sW;rw[hy]at M9;split at hk
  ·rename_i ls hT;split at hk
   ·rename_i hf;obtain⟨vs,hcx,YE⟩:=sW;obtain⟨us,hcy,hry⟩:=M9;simp only[Cut,bP]at hcx hcy;have hgd:(eqGuard op T x y (.agg vs.toArray) (.agg us.toArray)).run P w=.ok () w:=by have hgt:=(hQ T ls hT).2.2;unfold eqGuard;cases op<;>simp[hgt]
    simp only[Dq]at hk;cases op<;>simp only at hk<;>(try (cases hk;done));all_goals cases he:td xs ys with|none=>rw[he]at hk;cases hk|some b=>rw[he]at hk;simp only[aa]at hk;refine fin _ _ ?_ (yl _) hk;rw[hcx,hcy,Sem.run_bind,hgd];simp only[Result.andThen_ok,binOp,Sem.run_bind,ahB hQ hT YE hry hf he w];rfl
   cases hk
  cases hk
 ·rename_i fl e xs hx hy;rw[hx]at sW;rw[hy]at M9;split at hk
  ·rename_i hT;obtain⟨hT,nL⟩:=hT;cases hs:E.sl T with
   |none=>rw[hs]at hT;cases hT
   |some e'=>
    obtain⟨te,hu,_⟩:=CD hE hs;split at hk;cases hk
    ·rename_i hlen;have amW:∃b ob n k,a.eval x=.slice (some ⟨b,ob,none⟩) n k:=by
      have hc:=ej sW;have key:∀{S:Nat->Nat->Prop},iS w S (.sl e) [a.eval x] xs->∃b ob n k,a.eval x=.slice (some ⟨b,ob,none⟩) n k:=by rintro S ⟨u,Pv,h1⟩;simp at Pv;rcases h1 with⟨_,rfl⟩|⟨b,ob,cap,hv,_⟩;simp at hlen;exact⟨b,ob,_,_,by rw[Pv];exact hv⟩
      cases fl with
      |own t=>cases nL
      |nest _ _ _ _ _ _=>cases nL
      |part _ _ _ _=>cases nL
      |fa _ _ _=>cases nL
      |arg _=>exact key hc.2
      |loc ep pv=>
       have wB:ep=st.ep:=by simpa[pj.live]using nL
       exact key (hc.2.2.2.1 wB)
     obtain⟨b,ob,n,k,hv⟩:=amW;have hyn:=(ej M9).1;have ec:(Op.equal T (a.eval x) (a.eval y)).run P w=.ok false w:=by rw[hv,hyn];exact Hf w 9999 T te hu _ _ _
     have hgd:(eqGuard op T x y (a.eval x) (a.eval y)).run P w=.ok () w:=by rw[hv,hyn];unfold eqGuard;split<;>rfl
     unfold Bu at hk;cases op<;>simp only at hk<;>(try (cases hk;done));all_goals refine fin _ _ ?_ (yl _) hk;rw[Sem.run_bind,hgd];rw[hv,hyn]at ec⊢;simp only[Result.andThen_ok,binOp,Sem.run_bind,ec];rfl
  cases hk
 ·rename_i hx hy;rw[hx]at sW;rw[hy]at M9;split at hk
  ·rename_i hT;cases hs:E.sl T with
   |none=>rw[hs]at hT;cases hT
   |some e'=>
    obtain⟨te,hu,_⟩:=CD hE hs;have hxn:=(ej sW).1;have hyn:=(ej M9).1;have ec:(Op.equal T (.slice none 0 0) (.slice none 0 0)).run P w=.ok true w:=by exact IC w 9999 T te hu
    have hgd:(eqGuard op T x y (.slice none 0 0) (.slice none 0 0)).run P w=.ok () w:=by unfold eqGuard;split<;>rfl
    unfold Bu at hk;cases op<;>simp only at hk<;>(try (cases hk;done));all_goals refine fin _ _ ?_ (yl _) hk;rw[hxn,hyn,Sem.run_bind,hgd];simp only[Result.andThen_ok,binOp,Sem.run_bind,ec];rfl
  cases hk
 rename_i va vb GG BL hn3 hn4;unfold Dq at hk;split at hk;rename_i k p k' q hx hy;rw[hx]at sW;rw[hy]at M9;split at hk;split at hk;cases hk;rename_i hq;refine fin _ _ ?_ (jM _ _) hk;rw[iD sW,iD M9,Sem.run_bind,Kd];simp only[Result.andThen_ok,binOp,Op.shift,hq,bX];rfl;split at hk;cases hk;rename_i hq;refine fin _ _ ?_ (jM _ _) hk;rw[iD sW,iD M9,Sem.run_bind,Kd];simp only[Result.andThen_ok,binOp,Op.shift,hq,bX];rfl;split at hk;rename_i Pq;subst Pq;obtain⟨c,v,ec,eK,hkc⟩:=Zj (P:=P) hk T w;refine fin v c ?_ eK hkc;rw[iD sW,iD M9,Sem.run_bind,Kd];exact ec;cases hk;rename_i p q hx hy;rw[hx]at sW;rw[hy]at M9;obtain⟨c,v,ec,eK,hkc⟩:=aaE (P:=P) hk T w;refine fin v c ?_ eK hkc;rw[(ej sW).1,(ej M9).1,Sem.run_bind,abt];exact ec;rename_i p q hx hy;exact absurd hy (GG p q hx);rename_i xs ys hx hy;exact absurd hy (BL xs ys hx);cases hk
theorem acb {E:Env}(hE:ja P E.ty){o:Oper}(ho:o.op=.call {callee:=.builtin .len,args,argTypes:=ts})(h:mZ C st a w){K:AS->ax R}(hk:KL E o ts.toList args.toList st K=some r):lS P C o a w K r:=by
 obtain⟨g,hg⟩:=id h;unfold KL at hk;split at hk;rename_i t s rH fM;obtain⟨x,hx,hxs⟩:∃x,args.toList=[x]/\st.rd x=.val false [.str s]:=by cases hl:args.toList with|nil=>rw[hl]at fM;simp at fM|cons x l=>rw[hl]at fM;simp at fM;exact⟨x,by rw[fM.2],fM.1⟩
 have ea:args=#[x]:=by apply eQ;simpa using hx
 have et:ts=#[t]:=by apply eQ;simpa using rH
 subst ea;subst et;split at hk;rename_i hT;have sW:=hg.rd x;rw[hxs]at sW;have hv:=(ej sW).1;refine th h (.int .i64 _) _ ?_ (jM _ _) hk;simp[execOp,ho,resolve,invoke,builtin,Builtin.len_,underlying,Qp hE hT,hv,goInt,vD];cases hk;rename_i t fl e xs rH fM;obtain⟨x,hx,hxs⟩:∃x,args.toList=[x]/\st.rd x=.val false [.sl fl e xs]:=by cases hl:args.toList with|nil=>rw[hl]at fM;simp at fM|cons x l=>rw[hl]at fM;simp at fM;exact⟨x,by rw[fM.2],fM.1⟩
 have ea:args=#[x]:=by apply eQ;simpa using hx
 have et:ts=#[t]:=by apply eQ;simpa using rH
 subst ea;subst et;split at hk;rename_i hT;have sW:=hg.rd x;rw[hxs]at sW;obtain⟨e',he'⟩:=Option.isSome_iff_exists.1 hT;obtain⟨te,hu,_⟩:=CD hE he';have hv:∃b cap,a.eval x=.slice b xs.length cap:=by
  have hc:=ej sW;cases fl with
  |nest _ _ _ _ _ _=>obtain⟨_,_,⟨o1,n1,k1,h1,h2⟩,_⟩:=hc;exact⟨o1,k1,by rw[h1,h2]⟩
  |part _ _ _ _=>obtain⟨_,_,⟨o1,n1,k1,h1,h2⟩,_⟩:=hc;exact⟨o1,k1,by rw[h1,h2]⟩
  |fa _ _ _=>obtain⟨_,⟨k,_,b,o0,cap,arr,T,fr,fps,h1,_⟩,_⟩:=hc;exact⟨_,_,h1⟩
  |own t=>obtain⟨⟨u,hu,ho⟩,_⟩:=hc;simp at hu;subst hu;rcases ho with⟨⟨_,h1⟩,rfl,_⟩|⟨b,_,cap,_,_,_,_,h1,_⟩;exact⟨_,_,h1⟩;exact⟨_,_,h1⟩
  |arg _=>obtain⟨_,u,hu,ho⟩:=hc;simp at hu;subst hu;rcases ho with⟨⟨ad,h1⟩,rfl⟩|⟨b,ob,cap,h1,_⟩;exact⟨ad,0,h1⟩;exact⟨_,_,h1⟩
  |loc ep pv=>obtain⟨_,_,⟨b,n,k,h1,h2⟩,_⟩:=hc;exact⟨b,k,by rw[h1,h2]⟩
 obtain⟨b,cap,hv⟩:=hv;refine th h (.int .i64 _) _ ?_ (jM _ _) hk;simp[execOp,ho,resolve,invoke,builtin,Builtin.len_,underlying,hu,hv,goInt];cases hk;cases hk
theorem LG {u v:AV}(h:args.toList.map st.rd=[u,v]):∃x y,args=#[x,y]/\st.rd x=u/\st.rd y=v:=by match hl:args.toList with|[]=>rw[hl]at h;simp at h|[_]=>rw[hl]at h;simp at h|[x,y]=>rw[hl]at h;simp at h;exact⟨x,y,by apply eQ;simpa using hl,h.1,h.2⟩|_::_::_::_=>rw[hl]at h;simp at h
theorem ack {o:Oper}(ho:o.op=.call {callee:=.builtin .min,args,argTypes:=ts})(h:mZ C st a w){K:AS->ax R}(hk:Mi o args.toList st K=some r):lS P C o a w K r:=by obtain⟨g,hg⟩:=id h;unfold Mi at hk;split at hk;rename_i k x k' y fM;obtain⟨p,q,rfl,hp,hq⟩:=LG fM;have sU:=hg.rd p;have hqv:=hg.rd q;rw[hp]at sU;rw[hq]at hqv;refine th h (.int k _) _ ?_ (jM _ _) hk;simp[execOp,ho,resolve,invoke,builtin,Builtin.min_,Builtin.min2,iD sU,iD hqv];cases hk
theorem acj {o:Oper}(ho:o.op=.call {callee:=.builtin .max,args,argTypes:=ts})(h:mZ C st a w){K:AS->ax R}(hk:Mh o args.toList st K=some r):lS P C o a w K r:=by obtain⟨g,hg⟩:=id h;unfold Mh at hk;split at hk;rename_i k x k' y fM;obtain⟨p,q,rfl,hp,hq⟩:=LG fM;have sU:=hg.rd p;have hqv:=hg.rd q;rw[hp]at sU;rw[hq]at hqv;refine th h (.int k _) _ ?_ (jM _ _) hk;simp[execOp,ho,resolve,invoke,builtin,Builtin.max_,Builtin.max2,iD sU,iD hqv];cases hk
end Go.Dn
