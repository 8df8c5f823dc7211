import Derived.Test.YtbebkmajekhclaaGreatDnOps3
import Derived.Test.YtbebkmajekhclaaGreatDnEq
/- Part 4: addresses, numbers, strings, slices of slices. -/
namespace Go.Dn
open Go.RowKit
variable {P:Program} {C:Ctx} {st:AS} {a:Act} {w:World} {R:Type} {r:R}
variable {args:Array Operand} {ts:Array TypeId} {x:Operand} {T:TypeId}
theorem abi {E:Env}(hE:kq P E.ty){o:Oper}{S:TypeId}{p:Operand}{f:Nat}(ho:o.op=.fieldAddr S p f)(h:pL C st a w){K:AS->az R}(hk:B7 E o S p f st K=some r):oa P C o a w K r:=by
 unfold B7 at hk
 have run:∀(sh:Shape),jU E.ty S=some sh->sh.agg=true->∀fo n,nth sh.kU f=some (fo,n)->∀b off,a.eval p=.pointer (some ⟨b,off,none⟩)->
  (execOp a.eval o).run P w=.ok (.value (.pointer (some ⟨b,off+fo,none⟩))) w:=by
  intro sh hS Om fo n hf b off hv
  obtain⟨fs,hu,Jp⟩:=(hE S sh hS).agg Om
  rw[eH]at hf
  obtain⟨fd,hfd,RU,hn,i,hi,vZ⟩:=Jp f fo n hf
  simp only[execOp,ho,hv,Instr.fieldAt,Instr.sureAddr,underlying,Sem.run_bind,run_program,hu,Result.andThen_ok,Sem.run_pure,hfd,fieldPlace,sizeOf,typeInfo,hi,vZ,RU]
  rw[nU]
  simp[oF]
 obtain⟨g,hg⟩:=id h;have wM:=hg.rd p;split at hk;rename_i ct kU s off hS hp;split at hk;rename_i fo n hf;rw[hp]at wM;have hv:=Dg wM;have hpr:=(fw wM).2.1;refine⟨_,_,_,.inl (run _ hS rfl fo n hf _ _ hv),?_,hk⟩;exact⟨g,hg.quiet o.dst (nP ⟨rfl,hpr,rfl⟩)⟩;cases hk;rename_i ct kU fl e x i off hS hp;split at hk;rename_i fo n hf;rw[hp]at wM;have hc:=fw wM;cases fl with
 |own t=>exact hc.elim
 |nest _ _ _ _ _ _=>exact hc.elim
 |part _ _ _ _=>exact hc.elim
 |ga _ _ _=>exact hc.elim
 |arg _=>obtain⟨h1,b,ob,hv,h2⟩:=hc;refine⟨_,_,_,.inl (run _ hS rfl fo n hf _ _ hv),?_,hk⟩;exact⟨g,hg.quiet o.dst (nP ⟨rfl,b,ob,by rw[gy],h2⟩)⟩
 |loc ep pv=>obtain⟨h1,b,ob,hv,h2⟩:=hc;refine⟨_,_,_,.inl (run _ hS rfl fo n hf _ _ hv),?_,hk⟩;exact⟨g,hg.quiet o.dst (nP ⟨rfl,b,ob,by rw[gy],h2⟩)⟩
 cases hk;cases hk
theorem GP {E:Env}(hE:kq P E.ty){e:CT}(h:E.sl T=some e):∃te,P.underlying T=some (.slice te)/\OE P te e:=by unfold Env.sl at h;split at h;rename_i e' kU hT;simp at h;subst h;obtain⟨te,hu,he,_⟩:=(hE T _ hT).sl _ rfl rfl;exact⟨te,hu,he⟩;cases h
theorem Wh {E:Env}(hE:kq P E.ty)(h:E.str T=true):P.underlying T=some .string:=by unfold Env.str at h;split at h;rename_i kU hT;exact(hE T _ hT).str rfl rfl;cases h
theorem alz {E:Env}(hE:kq P E.ty)(h:E.bool T=true):P.underlying T=some .bool:=by unfold Env.bool at h;split at h;rename_i kU hT;exact(hE T _ hT).bool rfl rfl;cases h
theorem br {α:Type}{xs:ax α}{n:Int}{y:α}(h:idx xs n=some y):∃k:Nat,n=k/\k<xs.length/\xs[k]?=some y:=by obtain⟨k,h1,h2⟩:=XV h;exact⟨k,h1,(aA.1 h2).1,h2⟩
theorem P9 {E:Env}(hE:kq P E.ty){o:Oper}{i:Operand}(ho:o.op=.indexAddr T x i)(h:pL C st a w){K:AS->az R}(hk:nO E o T x i st K=some r):oa P C o a w K r:=by
 unfold nO at hk;obtain⟨g,hg⟩:=id h;have wN:=hg.fresh (hg.rd x);have hiv:=hg.rd i;split at hk;rename_i e' fl e xs kd n hT hx hi;split at hk;rename_i hc;obtain⟨rfl,qB⟩:=hc;rw[hx]at wN;rw[hi]at hiv;have hxc:=fw wN;have uB:=jD hiv;cases Gl:idx xs n with
 |none=>rw[Gl]at hk;cases hk
 |some y=>
  rw[Gl]at hk;simp only[aa]at hk;obtain⟨k,rfl,Ry,hky⟩:=br Gl;obtain⟨te,hu,⟨inf,z,D6,vZ,_⟩,_⟩:=GP hE hT;have run:∀b ob cap,a.eval x=.slice (some ⟨b,ob,none⟩) xs.length cap->(execOp a.eval o).run P w=.ok (.value (.pointer (some ⟨b,ob+k*e'.size,none⟩))) w:=by intro b ob cap hv;simp[execOp,ho,hv,uB,Instr.indexAt,asIntOf,underlying,hu,sizeOf,typeInfo,D6,vZ,Ry,oF]
  cases fl with
  |own t=>cases qB
  |nest _ _ _ _ _ _=>cases qB
  |part _ _ _ _=>cases qB
  |ga _ _ _=>cases qB
  |arg _=>obtain⟨_,v,hv,hr⟩:=hxc;simp at hv;subst hv;rcases hr with⟨_,rfl⟩|⟨b,ob,cap,hv,_,hr⟩;simp at hky;obtain⟨cs,Lz,JZ⟩:=hr k y hky;refine⟨_,_,_,.inl (run b ob cap hv),?_,hk⟩;exact⟨g,hg.quiet o.dst (nP ⟨rfl,b,ob+k*e'.size,rfl,cs,Lz,JZ⟩)⟩
  |loc ep pv=>
   obtain⟨_,Aw,_,JZ,wM⟩:=hxc;have avu:ep=st.ep:=by simpa[sj.live]using qB
   obtain⟨v,hv,hr⟩:=JZ avu;simp at hv;subst hv;rcases hr with⟨_,rfl⟩|⟨b,ob,cap,hv,_,hr⟩;simp at hky;obtain⟨cs,Lz,aje⟩:=hr k y hky;refine⟨_,_,_,.inl (run b ob cap hv),?_,hk⟩;refine⟨g,hg.quiet o.dst (nP ⟨rfl,b,ob+k*e'.size,rfl,Aw,λ_=>⟨cs,Lz,aje⟩,λrt t hp=>?_⟩)⟩;obtain⟨h1,h2⟩:=wM rt t hp;exact⟨h1,k,ob,xs.length,cap,rfl,by rw[<-h2,hv],Ry,rfl⟩
 cases hk;cases hk
theorem zB (s:ax UInt8):(ByteArray.mk s.toArray).size=s.length:=by show s.toArray.size=s.length;simp
theorem ae3 (s:ax UInt8)(n:Nat):(ByteArray.mk s.toArray)[n]?=s[n]?:=by
 simp only[getElem?_def];by_cases h:n<s.length;have h':n<(ByteArray.mk s.toArray).size:=by rw[zB];exact h
 rw[dif_pos h',dif_pos h];rfl;have h':¬n<(ByteArray.mk s.toArray).size:=by rw[zB];exact h
 rw[dif_neg h',dif_neg h]
theorem abW {E:Env}(hE:kq P E.ty){o:Oper}{i:Operand}(ho:o.op=.index T x i)(h:pL C st a w){K:AS->az R}(hk:DH E o T x i st K=some r):oa P C o a w K r:=by
 unfold DH at hk;obtain⟨g,hg⟩:=id h;have wN:=hg.rd x;have hiv:=hg.rd i;split at hk;rename_i s kd n hx hi;split at hk;rename_i hT;rw[hx]at wN;rw[hi]at hiv;have hxc:=(fw wN).1;have uB:=jD hiv;cases Gl:idx s n with
 |none=>rw[Gl]at hk;cases hk
 |some y=>
  rw[Gl]at hk;simp only[aa]at hk;obtain⟨k,rfl,Ry,hky⟩:=br Gl;have hu:=Wh hE hT;have fg:(execOp a.eval o).run P w=.ok (.value (.int .u8 y.toNat)) w:=by simp[execOp,ho,hxc,uB,Instr.index,asIntOf,underlying,hu,ae3,hky]
  refine⟨_,_,_,.inl fg,?_,hk⟩;exact⟨g,hg.quiet o.dst (nP ⟨rfl,rfl⟩)⟩
 cases hk;cases hk
theorem wV {o:Oper}(h:pL C st a w){K:AS->az R}(v:Value)(c:AC)(fg:(execOp a.eval o).run P w=.ok (.value v) w)(fM:∀rc:RC,iC rc v c [])(hk:K (st.put o.dst (.one c))=some r):oa P C o a w K r:=by obtain⟨g,hg⟩:=h;exact⟨v,w,_,.inl fg,⟨g,hg.quiet o.dst (nP (fM _))⟩,hk⟩
theorem lD (k:IntKind)(n:Int)(rc:RC):iC rc (.int k n) (.int k n) []:=⟨rfl,rfl⟩
theorem Cx (b:Bool)(rc:RC):iC rc (.bool b) (.bool b) []:=⟨rfl,rfl⟩
theorem Ov (s:ax UInt8)(rc:RC):iC rc (.string ⟨s.toArray⟩) (.str s) []:=⟨rfl,rfl⟩
theorem amJ {o:Oper}{op:UnOp}(ho:o.op=.unOp op T x)(h:pL C st a w){K:AS->az R}(hk:(unC op (st.rd x) λc=>K (st.put o.dst (.one c)))=some r):oa P C o a w K r:=by obtain⟨g,hg⟩:=id h;have wN:=hg.rd x;unfold unC at hk;split at hk;rename_i b hx;rw[hx]at wN;have hv:=xG wN;exact wV h _ _ (by simp[execOp,ho,hv,Op.unary]) (Cx _) hk;rename_i k n hx;rw[hx]at wN;have hv:=jD wN;exact wV h _ _ (by simp only[execOp,ho,hv,Op.unary,Op.intArith];rfl) (lD _ _) hk;rename_i k n hx;rw[hx]at wN;have hv:=jD wN;exact wV h _ _ (by simp only[execOp,ho,hv,Op.unary,Op.intBits];rfl) (lD _ _) hk;cases hk
theorem L4 {o:Oper}(ho:o.op=.nilCheck x)(h:pL C st a w){K:AS->az R}{fl:sj}{e:CT}{y:e.D}{i:Int}{off:Nat}(hx:st.rd x=.val false [.Dy fl e y i off])(hk:K (st.put o.dst (.one (.Dy fl e y i off)))=some r):oa P C o a w K r:=by
 obtain⟨g,hg⟩:=id h;have wN:=hg.rd x;rw[hx]at wN;have hc:=fw wN;have hv:∃b q,a.eval x=.pointer (some ⟨b,q,none⟩):=by
  cases fl with
  |own t=>exact hc.elim
  |nest _ _ _ _ _ _=>exact hc.elim
  |part _ _ _ _=>exact hc.elim
  |ga _ _ _=>exact hc.elim
  |arg _=>obtain⟨_,b,q,hv,_⟩:=hc;exact⟨b,_,hv⟩
  |loc ep pv=>obtain⟨_,b,q,hv,_⟩:=hc;exact⟨b,_,hv⟩
 obtain⟨b,q,hv⟩:=hv;exact⟨.pointer (some ⟨b,q,none⟩),_,_,.inl (by simp only[execOp,ho,hv];rfl),⟨g,hg.quiet o.dst (by rw[<-hv];exact wN)⟩,hk⟩
theorem Sb {o:Oper}(ho:o.op=.nilCheck x)(h:pL C st a w){K:AS->az R}{s off:Nat}(hx:st.rd x=.val false [.ptr s off])(hk:K (st.put o.dst (.one (.ptr s off)))=some r):oa P C o a w K r:=by obtain⟨g,hg⟩:=id h;have wN:=hg.rd x;rw[hx]at wN;have hv:=Dg wN;exact⟨.pointer (some ⟨g.β s,off,none⟩),_,_,.inl (by simp only[execOp,ho,hv];rfl),⟨g,hg.quiet o.dst (nP (x:=.ptr s off) ⟨rfl,(fw wN).2.1,rfl⟩)⟩,hk⟩
theorem af1 {op:BinOp}{k:IntKind}{x y:Int}{K:AC->az R}(hk:Kl op k x y K=some r)(T:TypeId)(w:World): ∃c v,(binOp op T (.int k x) (.int k y)).run P w=.ok v w/\(∀rc:RC,iC rc v c [])/\K c=some r:=by
 cases op<;>simp only[Kl]at hk<;>(try (cases hk;done))<;>simp only[binOp,ne_eq,not_true_eq_false,cw]
 case quo=>
  split at hk
  ·cases hk
  ·rename_i hy
   exact⟨_,.int k _,by simp only[Op.intDiv,hy,cw];rfl,lD _ _,hk⟩
 case rem=>
  split at hk
  ·cases hk
  ·rename_i hy
   exact⟨_,.int k _,by simp only[Op.intDiv,hy,cw];rfl,lD _ _,hk⟩
 case add=>exact⟨_,_,rfl,lD _ _,hk⟩
 case sub=>exact⟨_,_,rfl,lD _ _,hk⟩
 case mul=>exact⟨_,_,rfl,lD _ _,hk⟩
 case and=>exact⟨_,_,rfl,lD _ _,hk⟩
 case or=>exact⟨_,_,rfl,lD _ _,hk⟩
 case xor=>exact⟨_,_,rfl,lD _ _,hk⟩
 case andNot=>exact⟨_,_,rfl,lD _ _,hk⟩
 all_goals exact⟨_,_,rfl,Cx _,hk⟩
theorem aeW (x y:ax UInt8):(ByteArray.mk x.toArray)++(ByteArray.mk y.toArray)=ByteArray.mk (x++y).toArray:=by apply ByteArray.ext;rw[ByteArray.data_append];simp
theorem ahn {op:BinOp}{x y:ax UInt8}{K:AC->az R}(hk:Ns op x y K=some r)(T:TypeId)(w:World): ∃c v,(binOp op T (.string ⟨x.toArray⟩) (.string ⟨y.toArray⟩)).run P w=.ok v w/\(∀rc:RC,iC rc v c [])/\K c=some r:=by
 cases op<;>simp only[Ns]at hk<;>(try (cases hk;done))<;>simp only[binOp,Op.stringOp,toList_mk]
 case add=>
  unfold room at hk
  split at hk
  ·rename_i hle
   have hs:¬(((ByteArray.mk x.toArray).size+(ByteArray.mk y.toArray).size:Nat):Int)>IntKind.i64.max:=by
    have e1:=zB x;have e2:=zB y;rw[e1,e2];have:IntKind.i64.max=9223372036854775807:=by decide
    omega
   exact⟨_,_,by rw[aG hs,aeW];rfl,Ov _,hk⟩
  ·cases hk
 all_goals exact⟨_,_,rfl,Cx _,hk⟩
theorem N6 (w:World)(D:Nat)(T te:TypeId)(hu:P.underlying T=some (.slice te)):(Op.equalIn (D+1) T (.slice none 0 0) (.slice none 0 0)).run P w=.ok true w:=by unfold Op.equalIn;simp only[underlying,Sem.run_bind,run_program,hu,Result.andThen_ok,Sem.run_pure];rfl
theorem Mm (w:World)(D:Nat)(T te:TypeId)(hu:P.underlying T=some (.slice te))(ad:Addr)(n k:Nat):(Op.equalIn (D+1) T (.slice (some ad) n k) (.slice none 0 0)).run P w=.ok false w:=by unfold Op.equalIn;simp only[underlying,Sem.run_bind,run_program,hu,Result.andThen_ok,Sem.run_pure]
theorem ahR {E:Env}(hE:kq P E.ty)(hQ:Wz P E.eqs){o:Oper}{op:BinOp}{T':TypeId}{y:Operand}(ho:o.op=.binOp op T x y T')(h:pL C st a w){K:AS->az R}(hk:CU E o op T x y st K=some r):oa P C o a w K r:=by
 obtain⟨g,hg⟩:=id h;have wN:=hg.rd x;have S4:=hg.rd y;have fin:∀v c,(do eqGuard op T x y (a.eval x) (a.eval y);binOp op T (a.eval x) (a.eval y):Sem Value).run P w=.ok v w->(∀rc:RC,iC rc v c [])->K (st.put o.dst (.one c))=some r->oa P C o a w K r:=by intro v c fg fM Vl;refine⟨v,w,_,.inl ?_,⟨g,hg.quiet o.dst (nP (fM _))⟩,Vl⟩;simp only[execOp,ho];show((do eqGuard op T x y (a.eval x) (a.eval y);binOp op T (a.eval x) (a.eval y):Sem Value)>>=λv=>pure (Next.value v)).run P w=_;rw[Sem.run_bind,fg];rfl
 have PI:∀{k k':IntKind}{p q:Int},(eqGuard op T x y (.int k p) (.int k' q)).run P w=.ok () w:=by intros;unfold eqGuard;split<;>rfl
 have aiZ:∀{p q:ByteArray},(eqGuard op T x y (.string p) (.string q)).run P w=.ok () w:=by intros;unfold eqGuard;split<;>rfl
 have afs:∀{p q:Bool},(eqGuard op T x y (.bool p) (.bool q)).run P w=.ok () w:=by intros;unfold eqGuard;split<;>rfl
 unfold CU at hk;split at hk
 ·rename_i p q hx hy;rw[hx]at wN;rw[hy]at S4;split at hk;·rename_i hT;have hu:=alz hE hT;simp only[HP]at hk;cases op<;>simp only at hk<;>(try (cases hk;done));all_goals refine fin _ _ ?_ (Cx _) hk;rw[xG wN,xG S4,Sem.run_bind,afs];simp only[Result.andThen_ok,binOp,Op.equal,Op.maxDepth,Sem.run_bind];rw[run_equalIn_bool' w 9999 T p q hu];rfl
  cases hk
 ·rename_i xs ys hx hy;rw[hx]at wN;rw[hy]at S4;split at hk
  ·rename_i ls hT;split at hk
   ·rename_i hf;obtain⟨vs,hcx,hrx⟩:=wN;obtain⟨us,hcy,hry⟩:=S4;simp only[Cut,ch]at hcx hcy;have hgd:(eqGuard op T x y (.agg vs.toArray) (.agg us.toArray)).run P w=.ok () w:=by have hgt:=(hQ T ls hT).2.2;unfold eqGuard;cases op<;>simp[hgt]
    simp only[HP]at hk;cases op<;>simp only at hk<;>(try (cases hk;done));all_goals cases he:wU xs ys with|none=>rw[he]at hk;cases hk|some b=>rw[he]at hk;simp only[aa]at hk;refine fin _ _ ?_ (Cx _) hk;rw[hcx,hcy,Sem.run_bind,hgd];simp only[Result.andThen_ok,binOp,Sem.run_bind,an8 hQ hT hrx hry hf he w];rfl
   cases hk
  cases hk
 ·rename_i fl e xs hx hy;rw[hx]at wN;rw[hy]at S4;split at hk
  ·rename_i hT;obtain⟨hT,qB⟩:=hT;cases hs:E.sl T with
   |none=>rw[hs]at hT;cases hT
   |some e'=>
    obtain⟨te,hu,_⟩:=GP hE hs;split at hk;cases hk
    ·rename_i hlen;have aqM:∃b ob n k,a.eval x=.slice (some ⟨b,ob,none⟩) n k:=by
      have hc:=fw wN;have key:∀{S:Nat->Nat->Prop},jX w S (.sl e) [a.eval x] xs->∃b ob n k,a.eval x=.slice (some ⟨b,ob,none⟩) n k:=by rintro S ⟨u,Vp,h1⟩;simp at Vp;rcases h1 with⟨_,rfl⟩|⟨b,ob,cap,hv,_⟩;simp at hlen;exact⟨b,ob,_,_,by rw[Vp];exact hv⟩
      cases fl with
      |own t=>cases qB
      |nest _ _ _ _ _ _=>cases qB
      |part _ _ _ _=>cases qB
      |ga _ _ _=>cases qB
      |arg _=>exact key hc.2
      |loc ep pv=>
       have Aw:ep=st.ep:=by simpa[sj.live]using qB
       exact key (hc.2.2.2.1 Aw)
     obtain⟨b,ob,n,k,hv⟩:=aqM;have hyn:=(fw S4).1;have fg:(Op.equal T (a.eval x) (a.eval y)).run P w=.ok false w:=by rw[hv,hyn];exact Mm w 9999 T te hu _ _ _
     have hgd:(eqGuard op T x y (a.eval x) (a.eval y)).run P w=.ok () w:=by rw[hv,hyn];unfold eqGuard;split<;>rfl
     unfold Fz at hk;cases op<;>simp only at hk<;>(try (cases hk;done));all_goals refine fin _ _ ?_ (Cx _) hk;rw[Sem.run_bind,hgd];rw[hv,hyn]at fg⊢;simp only[Result.andThen_ok,binOp,Sem.run_bind,fg];rfl
  cases hk
 ·rename_i hx hy;rw[hx]at wN;rw[hy]at S4;split at hk
  ·rename_i hT;cases hs:E.sl T with
   |none=>rw[hs]at hT;cases hT
   |some e'=>
    obtain⟨te,hu,_⟩:=GP hE hs;have hxn:=(fw wN).1;have hyn:=(fw S4).1;have fg:(Op.equal T (.slice none 0 0) (.slice none 0 0)).run P w=.ok true w:=by exact N6 w 9999 T te hu
    have hgd:(eqGuard op T x y (.slice none 0 0) (.slice none 0 0)).run P w=.ok () w:=by unfold eqGuard;split<;>rfl
    unfold Fz at hk;cases op<;>simp only at hk<;>(try (cases hk;done));all_goals refine fin _ _ ?_ (Cx _) hk;rw[hxn,hyn,Sem.run_bind,hgd];simp only[Result.andThen_ok,binOp,Sem.run_bind,fg];rfl
  cases hk
 rename_i va vb Js BL hn3 hn4;unfold HP at hk;split at hk;rename_i k p k' q hx hy;rw[hx]at wN;rw[hy]at S4;split at hk;split at hk;cases hk;rename_i hq;refine fin _ _ ?_ (lD _ _) hk;rw[jD wN,jD S4,Sem.run_bind,PI];simp only[Result.andThen_ok,binOp,Op.shift,hq,cw];rfl;split at hk;cases hk;rename_i hq;refine fin _ _ ?_ (lD _ _) hk;rw[jD wN,jD S4,Sem.run_bind,PI];simp only[Result.andThen_ok,binOp,Op.shift,hq,cw];rfl;split at hk;rename_i Vl;subst Vl;obtain⟨c,v,fg,fM,hkc⟩:=af1 (P:=P) hk T w;refine fin v c ?_ fM hkc;rw[jD wN,jD S4,Sem.run_bind,PI];exact fg;cases hk;rename_i p q hx hy;rw[hx]at wN;rw[hy]at S4;obtain⟨c,v,fg,fM,hkc⟩:=ahn (P:=P) hk T w;refine fin v c ?_ fM hkc;rw[(fw wN).1,(fw S4).1,Sem.run_bind,aiZ];exact fg;rename_i p q hx hy;exact absurd hy (Js p q hx);rename_i xs ys hx hy;exact absurd hy (BL xs ys hx);cases hk
theorem ajH {E:Env}(hE:kq P E.ty){o:Oper}(ho:o.op=.call {callee:=.builtin .len,args,argTypes:=ts})(h:pL C st a w){K:AS->az R}(hk:Qi E o ts.toList args.toList st K=some r):oa P C o a w K r:=by
 obtain⟨g,hg⟩:=id h;unfold Qi at hk;split at hk;rename_i t s vr gP;obtain⟨x,hx,hxs⟩:∃x,args.toList=[x]/\st.rd x=.val false [.str s]:=by cases hl:args.toList with|nil=>rw[hl]at gP;simp at gP|cons x l=>rw[hl]at gP;simp at gP;exact⟨x,by rw[gP.2],gP.1⟩
 have ea:args=#[x]:=by apply fR;simpa using hx
 have et:ts=#[t]:=by apply fR;simpa using vr
 subst ea;subst et;split at hk;rename_i hT;have wN:=hg.rd x;rw[hxs]at wN;have hv:=(fw wN).1;refine wV h (.int .i64 _) _ ?_ (lD _ _) hk;simp[execOp,ho,resolve,invoke,builtin,Builtin.len_,underlying,Wh hE hT,hv,goInt,zB];cases hk;rename_i t fl e xs vr gP;obtain⟨x,hx,hxs⟩:∃x,args.toList=[x]/\st.rd x=.val false [.sl fl e xs]:=by cases hl:args.toList with|nil=>rw[hl]at gP;simp at gP|cons x l=>rw[hl]at gP;simp at gP;exact⟨x,by rw[gP.2],gP.1⟩
 have ea:args=#[x]:=by apply fR;simpa using hx
 have et:ts=#[t]:=by apply fR;simpa using vr
 subst ea;subst et;split at hk;rename_i hT;have wN:=hg.rd x;rw[hxs]at wN;obtain⟨e',he'⟩:=Option.isSome_iff_exists.1 hT;obtain⟨te,hu,_⟩:=GP hE he';have hv:∃b cap,a.eval x=.slice b xs.length cap:=by
  have hc:=fw wN;cases fl with
  |nest _ _ _ _ _ _=>obtain⟨_,_,⟨o1,n1,k1,h1,h2⟩,_⟩:=hc;exact⟨o1,k1,by rw[h1,h2]⟩
  |part _ _ _ _=>obtain⟨_,_,⟨o1,n1,k1,h1,h2⟩,_⟩:=hc;exact⟨o1,k1,by rw[h1,h2]⟩
  |ga _ _ _=>obtain⟨_,⟨k,_,b,o0,cap,arr,T,fr,fps,h1,_⟩,_⟩:=hc;exact⟨_,_,h1⟩
  |own t=>obtain⟨⟨u,hu,ho⟩,_⟩:=hc;simp at hu;subst hu;rcases ho with⟨⟨_,h1⟩,rfl,_⟩|⟨b,_,cap,_,_,_,_,h1,_⟩;exact⟨_,_,h1⟩;exact⟨_,_,h1⟩
  |arg _=>obtain⟨_,u,hu,ho⟩:=hc;simp at hu;subst hu;rcases ho with⟨⟨ad,h1⟩,rfl⟩|⟨b,ob,cap,h1,_⟩;exact⟨ad,0,h1⟩;exact⟨_,_,h1⟩
  |loc ep pv=>obtain⟨_,_,⟨b,n,k,h1,h2⟩,_⟩:=hc;exact⟨b,k,by rw[h1,h2]⟩
 obtain⟨b,cap,hv⟩:=hv;refine wV h (.int .i64 _) _ ?_ (lD _ _) hk;simp[execOp,ho,resolve,invoke,builtin,Builtin.len_,underlying,hu,hv,goInt];cases hk;cases hk
theorem Rl {u v:AV}(h:args.toList.map st.rd=[u,v]):∃x y,args=#[x,y]/\st.rd x=u/\st.rd y=v:=by match hl:args.toList with|[]=>rw[hl]at h;simp at h|[_]=>rw[hl]at h;simp at h|[x,y]=>rw[hl]at h;simp at h;exact⟨x,y,by apply fR;simpa using hl,h.1,h.2⟩|_::_::_::_=>rw[hl]at h;simp at h
theorem ajQ {o:Oper}(ho:o.op=.call {callee:=.builtin .min,args,argTypes:=ts})(h:pL C st a w){K:AS->az R}(hk:R5 o args.toList st K=some r):oa P C o a w K r:=by obtain⟨g,hg⟩:=id h;unfold R5 at hk;split at hk;rename_i k x k' y gP;obtain⟨p,q,rfl,hp,hq⟩:=Rl gP;have wM:=hg.rd p;have hqv:=hg.rd q;rw[hp]at wM;rw[hq]at hqv;refine wV h (.int k _) _ ?_ (lD _ _) hk;simp[execOp,ho,resolve,invoke,builtin,Builtin.min_,Builtin.min2,jD wM,jD hqv];cases hk
theorem ajN {o:Oper}(ho:o.op=.call {callee:=.builtin .max,args,argTypes:=ts})(h:pL C st a w){K:AS->az R}(hk:R4 o args.toList st K=some r):oa P C o a w K r:=by obtain⟨g,hg⟩:=id h;unfold R4 at hk;split at hk;rename_i k x k' y gP;obtain⟨p,q,rfl,hp,hq⟩:=Rl gP;have wM:=hg.rd p;have hqv:=hg.rd q;rw[hp]at wM;rw[hq]at hqv;refine wV h (.int k _) _ ?_ (lD _ _) hk;simp[execOp,ho,resolve,invoke,builtin,Builtin.max_,Builtin.max2,jD wM,jD hqv];cases hk
end Go.Dn
