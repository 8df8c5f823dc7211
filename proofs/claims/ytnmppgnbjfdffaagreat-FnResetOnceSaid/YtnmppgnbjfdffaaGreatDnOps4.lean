import Derived.Test.YtnmppgnbjfdffaaGreatDnOps3
import Derived.Test.YtnmppgnbjfdffaaGreatDnEq
/- Part 4: addresses, numbers, strings, slices of slices. -/
namespace Go.Dn
open Go.RowKit
variable {P:Program} {C:Ctx} {st:AS} {a:Act} {w:World} {R:Type} {r:R}
variable {args:Array Operand} {ts:Array TypeId} {x:Operand} {T:TypeId}
theorem Ty {E:Env}(hE:iY P E.ty){o:Oper}{S:TypeId}{p:Operand}{f:Nat}(ho:o.op=.fieldAddr S p f)(h:mP C st a w){K:AS->ay R}(hk:xC E o S p f st K=some r):lH P C o a w K r:=by
 unfold xC at hk
 have run:∀(sh:Shape),iP E.ty S=some sh->sh.agg=true->∀fo n,nth sh.jv f=some (fo,n)->∀b off,a.eval p=.pointer (some ⟨b,off,none⟩)->
  (execOp a.eval o).run P w=.ok (.value (.pointer (some ⟨b,off+fo,none⟩))) w:=by
  intro sh hS IA fo n hf b off hv
  obtain⟨fs,hu,En⟩:=(hE S sh hS).agg IA
  rw[dF]at hf
  obtain⟨fd,hfd,Lq,hn,i,hi,sB⟩:=En f fo n hf
  simp only[execOp,ho,hv,Instr.fieldAt,Instr.sureAddr,underlying,Sem.run_bind,run_program,hu,Result.andThen_ok,Sem.run_pure,hfd,fieldPlace,sizeOf,typeInfo,hi,sB,Lq]
  rw[lF]
  simp[md]
 obtain⟨g,hg⟩:=id h;have sA:=hg.rd p;split at hk;rename_i ct jv s off hS hp;split at hk;rename_i fo n hf;rw[hp]at sA;have hv:=yB sA;have Xd:=(ee sA).2.1;refine⟨_,_,_,.inl (run _ hS rfl fo n hf _ _ hv),?_,hk⟩;exact⟨g,hg.quiet o.dst (ly ⟨rfl,Xd,rfl⟩)⟩;cases hk;rename_i ct jv fl e x i off hS hp;split at hk;rename_i fo n hf;rw[hp]at sA;have hc:=ee sA;cases fl with
 |own t=>exact hc.elim
 |nest _ _ _ _ _ _=>exact hc.elim
 |part _ _ _ _=>exact hc.elim
 |eX _ _ _=>exact hc.elim
 |arg _=>obtain⟨h1,b,ob,hv,h2⟩:=hc;refine⟨_,_,_,.inl (run _ hS rfl fo n hf _ _ hv),?_,hk⟩;exact⟨g,hg.quiet o.dst (ly ⟨rfl,b,ob,by rw[fu],h2⟩)⟩
 |loc ep pv=>obtain⟨h1,b,ob,hv,h2⟩:=hc;refine⟨_,_,_,.inl (run _ hS rfl fo n hf _ _ hv),?_,hk⟩;exact⟨g,hg.quiet o.dst (ly ⟨rfl,b,ob,by rw[fu],h2⟩)⟩
 cases hk;cases hk
theorem Cc {E:Env}(hE:iY P E.ty){e:CT}(h:E.sl T=some e):∃te,P.underlying T=some (.slice te)/\IQ P te e:=by unfold Env.sl at h;split at h;rename_i e' jv hT;simp at h;subst h;obtain⟨te,hu,he,_⟩:=(hE T _ hT).sl _ rfl rfl;exact⟨te,hu,he⟩;cases h
theorem Pa {E:Env}(hE:iY P E.ty)(h:E.str T=true):P.underlying T=some .string:=by unfold Env.str at h;split at h;rename_i jv hT;exact(hE T _ hT).str rfl rfl;cases h
theorem acK {E:Env}(hE:iY P E.ty)(h:E.bool T=true):P.underlying T=some .bool:=by unfold Env.bool at h;split at h;rename_i jv hT;exact(hE T _ hT).bool rfl rfl;cases h
theorem bz {α:Type}{xs:aw α}{n:Int}{y:α}(h:idx xs n=some y):∃k:Nat,n=k/\k<xs.length/\xs[k]?=some y:=by obtain⟨k,h1,h2⟩:=QD h;exact⟨k,h1,(aE.1 h2).1,h2⟩
theorem JW {E:Env}(hE:iY P E.ty){o:Oper}{i:Operand}(ho:o.op=.indexAddr T x i)(h:mP C st a w){K:AS->ay R}(hk:lx E o T x i st K=some r):lH P C o a w K r:=by
 unfold lx at hk;obtain⟨g,hg⟩:=id h;have sC:=hg.fresh (hg.rd x);have hiv:=hg.rd i;split at hk;rename_i e' fl e xs kd n hT hx hi;split at hk;rename_i hc;obtain⟨rfl,nA⟩:=hc;rw[hx]at sC;rw[hi]at hiv;have hxc:=ee sC;have rP:=iD hiv;cases BJ:idx xs n with
 |none=>rw[BJ]at hk;cases hk
 |some y=>
  rw[BJ]at hk;simp only[aa]at hk;obtain⟨k,rfl,hkl,hky⟩:=bz BJ;obtain⟨te,hu,⟨inf,z,zv,sB,_⟩,_⟩:=Cc hE hT;have run:∀b ob cap,a.eval x=.slice (some ⟨b,ob,none⟩) xs.length cap->(execOp a.eval o).run P w=.ok (.value (.pointer (some ⟨b,ob+k*e'.size,none⟩))) w:=by intro b ob cap hv;simp[execOp,ho,hv,rP,Instr.indexAt,asIntOf,underlying,hu,sizeOf,typeInfo,zv,sB,hkl,md]
  cases fl with
  |own t=>cases nA
  |nest _ _ _ _ _ _=>cases nA
  |part _ _ _ _=>cases nA
  |eX _ _ _=>cases nA
  |arg _=>obtain⟨_,v,hv,hr⟩:=hxc;simp at hv;subst hv;rcases hr with⟨_,rfl⟩|⟨b,ob,cap,hv,_,hr⟩;simp at hky;obtain⟨cs,Gl,EZ⟩:=hr k y hky;refine⟨_,_,_,.inl (run b ob cap hv),?_,hk⟩;exact⟨g,hg.quiet o.dst (ly ⟨rfl,b,ob+k*e'.size,rfl,cs,Gl,EZ⟩)⟩
  |loc ep pv=>
   obtain⟨_,vY,_,EZ,sA⟩:=hxc;have alv:ep=st.ep:=by simpa[oP.live]using nA
   obtain⟨v,hv,hr⟩:=EZ alv;simp at hv;subst hv;rcases hr with⟨_,rfl⟩|⟨b,ob,cap,hv,_,hr⟩;simp at hky;obtain⟨cs,Gl,aaM⟩:=hr k y hky;refine⟨_,_,_,.inl (run b ob cap hv),?_,hk⟩;refine⟨g,hg.quiet o.dst (ly ⟨rfl,b,ob+k*e'.size,rfl,vY,λ_=>⟨cs,Gl,aaM⟩,λrt t hp=>?_⟩)⟩;obtain⟨h1,h2⟩:=sA rt t hp;exact⟨h1,k,ob,xs.length,cap,rfl,by rw[<-h2,hv],hkl,rfl⟩
 cases hk;cases hk
theorem vc (s:aw UInt8):(ByteArray.mk s.toArray).size=s.length:=by show s.toArray.size=s.length;simp
theorem WJ (s:aw UInt8)(n:Nat):(ByteArray.mk s.toArray)[n]?=s[n]?:=by
 simp only[getElem?_def];by_cases h:n<s.length;have h':n<(ByteArray.mk s.toArray).size:=by rw[vc];exact h
 rw[dif_pos h',dif_pos h];rfl;have h':¬n<(ByteArray.mk s.toArray).size:=by rw[vc];exact h
 rw[dif_neg h',dif_neg h]
theorem T5 {E:Env}(hE:iY P E.ty){o:Oper}{i:Operand}(ho:o.op=.index T x i)(h:mP C st a w){K:AS->ay R}(hk:yW E o T x i st K=some r):lH P C o a w K r:=by
 unfold yW at hk;obtain⟨g,hg⟩:=id h;have sC:=hg.rd x;have hiv:=hg.rd i;split at hk;rename_i s kd n hx hi;split at hk;rename_i hT;rw[hx]at sC;rw[hi]at hiv;have hxc:=(ee sC).1;have rP:=iD hiv;cases BJ:idx s n with
 |none=>rw[BJ]at hk;cases hk
 |some y=>
  rw[BJ]at hk;simp only[aa]at hk;obtain⟨k,rfl,hkl,hky⟩:=bz BJ;have hu:=Pa hE hT;have dV:(execOp a.eval o).run P w=.ok (.value (.int .u8 y.toNat)) w:=by simp[execOp,ho,hxc,rP,Instr.index,asIntOf,underlying,hu,WJ,hky]
  refine⟨_,_,_,.inl dV,?_,hk⟩;exact⟨g,hg.quiet o.dst (ly ⟨rfl,rfl⟩)⟩
 cases hk;cases hk
theorem sJ {o:Oper}(h:mP C st a w){K:AS->ay R}(v:Value)(c:AC)(dV:(execOp a.eval o).run P w=.ok (.value v) w)(eI:∀rc:RC,gy rc v c [])(hk:K (st.put o.dst (.one c))=some r):lH P C o a w K r:=by obtain⟨g,hg⟩:=h;exact⟨v,w,_,.inl dV,⟨g,hg.quiet o.dst (ly (eI _))⟩,hk⟩
theorem jN (k:IntKind)(n:Int)(rc:RC):gy rc (.int k n) (.int k n) []:=⟨rfl,rfl⟩
theorem xV (b:Bool)(rc:RC):gy rc (.bool b) (.bool b) []:=⟨rfl,rfl⟩
theorem IG (s:aw UInt8)(rc:RC):gy rc (.string ⟨s.toArray⟩) (.str s) []:=⟨rfl,rfl⟩
theorem ad0 {o:Oper}{op:UnOp}(ho:o.op=.unOp op T x)(h:mP C st a w){K:AS->ay R}(hk:(unC op (st.rd x) λc=>K (st.put o.dst (.one c)))=some r):lH P C o a w K r:=by obtain⟨g,hg⟩:=id h;have sC:=hg.rd x;unfold unC at hk;split at hk;rename_i b hx;rw[hx]at sC;have hv:=tp sC;exact sJ h _ _ (by simp[execOp,ho,hv,Op.unary]) (xV _) hk;rename_i k n hx;rw[hx]at sC;have hv:=iD sC;exact sJ h _ _ (by simp only[execOp,ho,hv,Op.unary,Op.intArith];rfl) (jN _ _) hk;rename_i k n hx;rw[hx]at sC;have hv:=iD sC;exact sJ h _ _ (by simp only[execOp,ho,hv,Op.unary,Op.intBits];rfl) (jN _ _) hk;cases hk
theorem GK {o:Oper}(ho:o.op=.nilCheck x)(h:mP C st a w){K:AS->ay R}{fl:oP}{e:CT}{y:e.D}{i:Int}{off:Nat}(hx:st.rd x=.val false [.yP fl e y i off])(hk:K (st.put o.dst (.one (.yP fl e y i off)))=some r):lH P C o a w K r:=by
 obtain⟨g,hg⟩:=id h;have sC:=hg.rd x;rw[hx]at sC;have hc:=ee sC;have hv:∃b q,a.eval x=.pointer (some ⟨b,q,none⟩):=by
  cases fl with
  |own t=>exact hc.elim
  |nest _ _ _ _ _ _=>exact hc.elim
  |part _ _ _ _=>exact hc.elim
  |eX _ _ _=>exact hc.elim
  |arg _=>obtain⟨_,b,q,hv,_⟩:=hc;exact⟨b,_,hv⟩
  |loc ep pv=>obtain⟨_,b,q,hv,_⟩:=hc;exact⟨b,_,hv⟩
 obtain⟨b,q,hv⟩:=hv;exact⟨.pointer (some ⟨b,q,none⟩),_,_,.inl (by simp only[execOp,ho,hv];rfl),⟨g,hg.quiet o.dst (by rw[<-hv];exact sC)⟩,hk⟩
theorem LD {o:Oper}(ho:o.op=.nilCheck x)(h:mP C st a w){K:AS->ay R}{s off:Nat}(hx:st.rd x=.val false [.ptr s off])(hk:K (st.put o.dst (.one (.ptr s off)))=some r):lH P C o a w K r:=by obtain⟨g,hg⟩:=id h;have sC:=hg.rd x;rw[hx]at sC;have hv:=yB sC;exact⟨.pointer (some ⟨g.β s,off,none⟩),_,_,.inl (by simp only[execOp,ho,hv];rfl),⟨g,hg.quiet o.dst (ly (x:=.ptr s off) ⟨rfl,(ee sC).2.1,rfl⟩)⟩,hk⟩
theorem XE {op:BinOp}{k:IntKind}{x y:Int}{K:AC->ay R}(hk:Fi op k x y K=some r)(T:TypeId)(w:World): ∃c v,(binOp op T (.int k x) (.int k y)).run P w=.ok v w/\(∀rc:RC,gy rc v c [])/\K c=some r:=by
 cases op<;>simp only[Fi]at hk<;>(try (cases hk;done))<;>simp only[binOp,ne_eq,not_true_eq_false,bQ]
 case quo=>
  split at hk
  ·cases hk
  ·rename_i hy
   exact⟨_,.int k _,by simp only[Op.intDiv,hy,bQ];rfl,jN _ _,hk⟩
 case rem=>
  split at hk
  ·cases hk
  ·rename_i hy
   exact⟨_,.int k _,by simp only[Op.intDiv,hy,bQ];rfl,jN _ _,hk⟩
 case add=>exact⟨_,_,rfl,jN _ _,hk⟩
 case sub=>exact⟨_,_,rfl,jN _ _,hk⟩
 case mul=>exact⟨_,_,rfl,jN _ _,hk⟩
 case and=>exact⟨_,_,rfl,jN _ _,hk⟩
 case or=>exact⟨_,_,rfl,jN _ _,hk⟩
 case xor=>exact⟨_,_,rfl,jN _ _,hk⟩
 case andNot=>exact⟨_,_,rfl,jN _ _,hk⟩
 all_goals exact⟨_,_,rfl,xV _,hk⟩
theorem WB (x y:aw UInt8):(ByteArray.mk x.toArray)++(ByteArray.mk y.toArray)=ByteArray.mk (x++y).toArray:=by apply ByteArray.ext;rw[ByteArray.data_append];simp
theorem YV {op:BinOp}{x y:aw UInt8}{K:AC->ay R}(hk:HS op x y K=some r)(T:TypeId)(w:World): ∃c v,(binOp op T (.string ⟨x.toArray⟩) (.string ⟨y.toArray⟩)).run P w=.ok v w/\(∀rc:RC,gy rc v c [])/\K c=some r:=by
 cases op<;>simp only[HS]at hk<;>(try (cases hk;done))<;>simp only[binOp,Op.stringOp,toList_mk]
 case add=>
  unfold room at hk
  split at hk
  ·rename_i hle
   have hs:¬(((ByteArray.mk x.toArray).size+(ByteArray.mk y.toArray).size:Nat):Int)>IntKind.i64.max:=by
    have e1:=vc x;have e2:=vc y;rw[e1,e2];have:IntKind.i64.max=9223372036854775807:=by decide
    omega
   exact⟨_,_,by rw[aG hs,WB];rfl,IG _,hk⟩
  ·cases hk
 all_goals exact⟨_,_,rfl,xV _,hk⟩
theorem Io (w:World)(D:Nat)(T te:TypeId)(hu:P.underlying T=some (.slice te)):(Op.equalIn (D+1) T (.slice none 0 0) (.slice none 0 0)).run P w=.ok true w:=by unfold Op.equalIn;simp only[underlying,Sem.run_bind,run_program,hu,Result.andThen_ok,Sem.run_pure];rfl
theorem GZ (w:World)(D:Nat)(T te:TypeId)(hu:P.underlying T=some (.slice te))(ad:Addr)(n k:Nat):(Op.equalIn (D+1) T (.slice (some ad) n k) (.slice none 0 0)).run P w=.ok false w:=by unfold Op.equalIn;simp only[underlying,Sem.run_bind,run_program,hu,Result.andThen_ok,Sem.run_pure]
theorem ZF {E:Env}(hE:iY P E.ty)(hQ:Pv P E.eqs){o:Oper}{op:BinOp}{T':TypeId}{y:Operand}(ho:o.op=.binOp op T x y T')(h:mP C st a w){K:AS->ay R}(hk:yi E o op T x y st K=some r):lH P C o a w K r:=by
 obtain⟨g,hg⟩:=id h;have sC:=hg.rd x;have Mt:=hg.rd y;have fin:∀v c,(do eqGuard op T x y (a.eval x) (a.eval y);binOp op T (a.eval x) (a.eval y):Sem Value).run P w=.ok v w->(∀rc:RC,gy rc v c [])->K (st.put o.dst (.one c))=some r->lH P C o a w K r:=by intro v c dV eI Oe;refine⟨v,w,_,.inl ?_,⟨g,hg.quiet o.dst (ly (eI _))⟩,Oe⟩;simp only[execOp,ho];show((do eqGuard op T x y (a.eval x) (a.eval y);binOp op T (a.eval x) (a.eval y):Sem Value)>>=λv=>pure (Next.value v)).run P w=_;rw[Sem.run_bind,dV];rfl
 have Jz:∀{k k':IntKind}{p q:Int},(eqGuard op T x y (.int k p) (.int k' q)).run P w=.ok () w:=by intros;unfold eqGuard;split<;>rfl
 have aay:∀{p q:ByteArray},(eqGuard op T x y (.string p) (.string q)).run P w=.ok () w:=by intros;unfold eqGuard;split<;>rfl
 have W3:∀{p q:Bool},(eqGuard op T x y (.bool p) (.bool q)).run P w=.ok () w:=by intros;unfold eqGuard;split<;>rfl
 unfold yi at hk;split at hk
 ·rename_i p q hx hy;rw[hx]at sC;rw[hy]at Mt;split at hk;·rename_i hT;have hu:=acK hE hT;simp only[C2]at hk;cases op<;>simp only at hk<;>(try (cases hk;done));all_goals refine fin _ _ ?_ (xV _) hk;rw[tp sC,tp Mt,Sem.run_bind,W3];simp only[Result.andThen_ok,binOp,Op.equal,Op.maxDepth,Sem.run_bind];rw[run_equalIn_bool' w 9999 T p q hu];rfl
  cases hk
 ·rename_i xs ys hx hy;rw[hx]at sC;rw[hy]at Mt;split at hk
  ·rename_i ls hT;split at hk
   ·rename_i hf;obtain⟨vs,hcx,Xe⟩:=sC;obtain⟨us,hcy,hry⟩:=Mt;simp only[Cut,bM]at hcx hcy;have hgd:(eqGuard op T x y (.agg vs.toArray) (.agg us.toArray)).run P w=.ok () w:=by have hgt:=(hQ T ls hT).2.2;unfold eqGuard;cases op<;>simp[hgt]
    simp only[C2]at hk;cases op<;>simp only at hk<;>(try (cases hk;done));all_goals cases he:sH xs ys with|none=>rw[he]at hk;cases hk|some b=>rw[he]at hk;simp only[aa]at hk;refine fin _ _ ?_ (xV _) hk;rw[hcx,hcy,Sem.run_bind,hgd];simp only[Result.andThen_ok,binOp,Sem.run_bind,ae8 hQ hT Xe hry hf he w];rfl
   cases hk
  cases hk
 ·rename_i fl e xs hx hy;rw[hx]at sC;rw[hy]at Mt;split at hk
  ·rename_i hT;obtain⟨hT,nA⟩:=hT;cases hs:E.sl T with
   |none=>rw[hs]at hT;cases hT
   |some e'=>
    obtain⟨te,hu,_⟩:=Cc hE hs;split at hk;cases hk
    ·rename_i hlen;have ahA:∃b ob n k,a.eval x=.slice (some ⟨b,ob,none⟩) n k:=by
      have hc:=ee sC;have key:∀{S:Nat->Nat->Prop},iR w S (.sl e) [a.eval x] xs->∃b ob n k,a.eval x=.slice (some ⟨b,ob,none⟩) n k:=by rintro S ⟨u,Oi,h1⟩;simp at Oi;rcases h1 with⟨_,rfl⟩|⟨b,ob,cap,hv,_⟩;simp at hlen;exact⟨b,ob,_,_,by rw[Oi];exact hv⟩
      cases fl with
      |own t=>cases nA
      |nest _ _ _ _ _ _=>cases nA
      |part _ _ _ _=>cases nA
      |eX _ _ _=>cases nA
      |arg _=>exact key hc.2
      |loc ep pv=>
       have vY:ep=st.ep:=by simpa[oP.live]using nA
       exact key (hc.2.2.2.1 vY)
     obtain⟨b,ob,n,k,hv⟩:=ahA;have hyn:=(ee Mt).1;have dV:(Op.equal T (a.eval x) (a.eval y)).run P w=.ok false w:=by rw[hv,hyn];exact GZ w 9999 T te hu _ _ _
     have hgd:(eqGuard op T x y (a.eval x) (a.eval y)).run P w=.ok () w:=by rw[hv,hyn];unfold eqGuard;split<;>rfl
     unfold AQ at hk;cases op<;>simp only at hk<;>(try (cases hk;done));all_goals refine fin _ _ ?_ (xV _) hk;rw[Sem.run_bind,hgd];rw[hv,hyn]at dV⊢;simp only[Result.andThen_ok,binOp,Sem.run_bind,dV];rfl
  cases hk
 ·rename_i hx hy;rw[hx]at sC;rw[hy]at Mt;split at hk
  ·rename_i hT;cases hs:E.sl T with
   |none=>rw[hs]at hT;cases hT
   |some e'=>
    obtain⟨te,hu,_⟩:=Cc hE hs;have hxn:=(ee sC).1;have hyn:=(ee Mt).1;have dV:(Op.equal T (.slice none 0 0) (.slice none 0 0)).run P w=.ok true w:=by exact Io w 9999 T te hu
    have hgd:(eqGuard op T x y (.slice none 0 0) (.slice none 0 0)).run P w=.ok () w:=by unfold eqGuard;split<;>rfl
    unfold AQ at hk;cases op<;>simp only at hk<;>(try (cases hk;done));all_goals refine fin _ _ ?_ (xV _) hk;rw[hxn,hyn,Sem.run_bind,hgd];simp only[Result.andThen_ok,binOp,Sem.run_bind,dV];rfl
  cases hk
 rename_i va vb Gn Bg hn3 hn4;unfold C2 at hk;split at hk;rename_i k p k' q hx hy;rw[hx]at sC;rw[hy]at Mt;split at hk;split at hk;cases hk;rename_i hq;refine fin _ _ ?_ (jN _ _) hk;rw[iD sC,iD Mt,Sem.run_bind,Jz];simp only[Result.andThen_ok,binOp,Op.shift,hq,bQ];rfl;split at hk;cases hk;rename_i hq;refine fin _ _ ?_ (jN _ _) hk;rw[iD sC,iD Mt,Sem.run_bind,Jz];simp only[Result.andThen_ok,binOp,Op.shift,hq,bQ];rfl;split at hk;rename_i Oe;subst Oe;obtain⟨c,v,dV,eI,hkc⟩:=XE (P:=P) hk T w;refine fin v c ?_ eI hkc;rw[iD sC,iD Mt,Sem.run_bind,Jz];exact dV;cases hk;rename_i p q hx hy;rw[hx]at sC;rw[hy]at Mt;obtain⟨c,v,dV,eI,hkc⟩:=YV (P:=P) hk T w;refine fin v c ?_ eI hkc;rw[(ee sC).1,(ee Mt).1,Sem.run_bind,aay];exact dV;rename_i p q hx hy;exact absurd hy (Gn p q hx);rename_i xs ys hx hy;exact absurd hy (Bg xs ys hx);cases hk
theorem abe {E:Env}(hE:iY P E.ty){o:Oper}(ho:o.op=.call {callee:=.builtin .len,args,argTypes:=ts})(h:mP C st a w){K:AS->ay R}(hk:J5 E o ts.toList args.toList st K=some r):lH P C o a w K r:=by
 obtain⟨g,hg⟩:=id h;unfold J5 at hk;split at hk;rename_i t s rb fL;obtain⟨x,hx,hxs⟩:∃x,args.toList=[x]/\st.rd x=.val false [.str s]:=by cases hl:args.toList with|nil=>rw[hl]at fL;simp at fL|cons x l=>rw[hl]at fL;simp at fL;exact⟨x,by rw[fL.2],fL.1⟩
 have ea:args=#[x]:=by apply eO;simpa using hx
 have et:ts=#[t]:=by apply eO;simpa using rb
 subst ea;subst et;split at hk;rename_i hT;have sC:=hg.rd x;rw[hxs]at sC;have hv:=(ee sC).1;refine sJ h (.int .i64 _) _ ?_ (jN _ _) hk;simp[execOp,ho,resolve,invoke,builtin,Builtin.len_,underlying,Pa hE hT,hv,goInt,vc];cases hk;rename_i t fl e xs rb fL;obtain⟨x,hx,hxs⟩:∃x,args.toList=[x]/\st.rd x=.val false [.sl fl e xs]:=by cases hl:args.toList with|nil=>rw[hl]at fL;simp at fL|cons x l=>rw[hl]at fL;simp at fL;exact⟨x,by rw[fL.2],fL.1⟩
 have ea:args=#[x]:=by apply eO;simpa using hx
 have et:ts=#[t]:=by apply eO;simpa using rb
 subst ea;subst et;split at hk;rename_i hT;have sC:=hg.rd x;rw[hxs]at sC;obtain⟨e',he'⟩:=Option.isSome_iff_exists.1 hT;obtain⟨te,hu,_⟩:=Cc hE he';have hv:∃b cap,a.eval x=.slice b xs.length cap:=by
  have hc:=ee sC;cases fl with
  |nest _ _ _ _ _ _=>obtain⟨_,_,⟨o1,n1,k1,h1,h2⟩,_⟩:=hc;exact⟨o1,k1,by rw[h1,h2]⟩
  |part _ _ _ _=>obtain⟨_,_,⟨o1,n1,k1,h1,h2⟩,_⟩:=hc;exact⟨o1,k1,by rw[h1,h2]⟩
  |eX _ _ _=>obtain⟨_,⟨k,_,b,o0,cap,arr,T,fr,fps,h1,_⟩,_⟩:=hc;exact⟨_,_,h1⟩
  |own t=>obtain⟨⟨u,hu,ho⟩,_⟩:=hc;simp at hu;subst hu;rcases ho with⟨⟨_,h1⟩,rfl,_⟩|⟨b,_,cap,_,_,_,_,h1,_⟩;exact⟨_,_,h1⟩;exact⟨_,_,h1⟩
  |arg _=>obtain⟨_,u,hu,ho⟩:=hc;simp at hu;subst hu;rcases ho with⟨⟨ad,h1⟩,rfl⟩|⟨b,ob,cap,h1,_⟩;exact⟨ad,0,h1⟩;exact⟨_,_,h1⟩
  |loc ep pv=>obtain⟨_,_,⟨b,n,k,h1,h2⟩,_⟩:=hc;exact⟨b,k,by rw[h1,h2]⟩
 obtain⟨b,cap,hv⟩:=hv;refine sJ h (.int .i64 _) _ ?_ (jN _ _) hk;simp[execOp,ho,resolve,invoke,builtin,Builtin.len_,underlying,hu,hv,goInt];cases hk;cases hk
theorem KZ {u v:AV}(h:args.toList.map st.rd=[u,v]):∃x y,args=#[x,y]/\st.rd x=u/\st.rd y=v:=by match hl:args.toList with|[]=>rw[hl]at h;simp at h|[_]=>rw[hl]at h;simp at h|[x,y]=>rw[hl]at h;simp at h;exact⟨x,y,by apply eO;simpa using hl,h.1,h.2⟩|_::_::_::_=>rw[hl]at h;simp at h
theorem abl {o:Oper}(ho:o.op=.call {callee:=.builtin .min,args,argTypes:=ts})(h:mP C st a w){K:AS->ay R}(hk:Lz o args.toList st K=some r):lH P C o a w K r:=by obtain⟨g,hg⟩:=id h;unfold Lz at hk;split at hk;rename_i k x k' y fL;obtain⟨p,q,rfl,hp,hq⟩:=KZ fL;have sA:=hg.rd p;have hqv:=hg.rd q;rw[hp]at sA;rw[hq]at hqv;refine sJ h (.int k _) _ ?_ (jN _ _) hk;simp[execOp,ho,resolve,invoke,builtin,Builtin.min_,Builtin.min2,iD sA,iD hqv];cases hk
theorem abk {o:Oper}(ho:o.op=.call {callee:=.builtin .max,args,argTypes:=ts})(h:mP C st a w){K:AS->ay R}(hk:Ly o args.toList st K=some r):lH P C o a w K r:=by obtain⟨g,hg⟩:=id h;unfold Ly at hk;split at hk;rename_i k x k' y fL;obtain⟨p,q,rfl,hp,hq⟩:=KZ fL;have sA:=hg.rd p;have hqv:=hg.rd q;rw[hp]at sA;rw[hq]at hqv;refine sJ h (.int k _) _ ?_ (jN _ _) hk;simp[execOp,ho,resolve,invoke,builtin,Builtin.max_,Builtin.max2,iD sA,iD hqv];cases hk
end Go.Dn
