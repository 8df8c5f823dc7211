import Derived.Test.YtehfjiddofkdnaaGreatDnOps3
import Derived.Test.YtehfjiddofkdnaaGreatDnEq
/- Part 4: addresses, numbers, strings, slices of slices. -/
open Bool renaming false->G
open Option renaming none->W,some->I
namespace Go.Dn
open Go.RowKit
variable {P:Program} {C:Ctx} {st:AS} {a:Act} {w:World} {R:Type} {r:R}
variable {args:Array Operand} {Y:Array TypeId} {x:Operand} {T:TypeId}
theorem ahE {E}(Q:mL P E.ty){o S p f}(T:o.op=.fieldAddr S p f)(h:ub C st a w){K}(j:HY E o S p f st K=I r):rD P C o a w K r:=by
 unfold HY at j
 have run:∀(u:Shape),lV E.ty S=I u->u.agg=true->∀fo n,nth u.nt f=I (fo,n)->∀b d,a.eval p=.pointer (I ⟨b,d,W⟩)->
  (execOp a.eval o).run P w=.ok (.value (.pointer (I ⟨b,d+fo,W⟩))) w:=by
  intro u m z fo n k b d l
  obtain⟨Z,U,B⟩:=(Q S u m).agg z
  rw[fJ]at k
  obtain⟨Y,A,D,hn,i,R,J⟩:=B f fo n k
  simp only[execOp,T,l,Instr.fieldAt,Instr.sureAddr,underlying,Sem.run_bind,run_program,U,Result.andThen_ok,Sem.run_pure,A,fieldPlace,sizeOf,typeInfo,R,J,D]
  rw[nQ]
  simp[sv]
 obtain⟨g,v⟩:=id h;have c:=v.rd p;split at j;rename_i ct V s d m F;split at j;rename_i fo n k;rw[F]at c;have l:=Jo c;have H:=(gk c).2.1;refine⟨_,_,_,.inl (run _ m rfl fo n k _ _ l),?_,j⟩;exact⟨g,v.quiet o.dst (qZ ⟨rfl,H,rfl⟩)⟩;cases j;rename_i ct V M e x i d m F;split at j;rename_i fo n k;rw[F]at c;have q:=gk c;cases M with
 |own t=>exact q.elim
 |nest _ _ _ _ _ _=>exact q.elim
 |part _ _ _ _=>exact q.elim
 |im _ _ _=>exact q.elim
 |arg _=>obtain⟨N,b,L,l,y⟩:=q;refine⟨_,_,_,.inl (run _ m rfl fo n k _ _ l),?_,j⟩;exact⟨g,v.quiet o.dst (qZ ⟨rfl,b,L,by rw[ig],y⟩)⟩
 |loc X pv=>obtain⟨N,b,L,l,y⟩:=q;refine⟨_,_,_,.inl (run _ m rfl fo n k _ _ l),?_,j⟩;exact⟨g,v.quiet o.dst (qZ ⟨rfl,b,L,by rw[ig],y⟩)⟩
 cases j;cases j
theorem Nu {E:Env}(b:mL P E.ty){e}(h:E.sl T=I e):∃a,P.underlying T=I (.slice a)/\VK P a e:=by unfold Env.sl at h;split at h;rename_i g i c;simp at h;subst h;obtain⟨a,f,d,_⟩:=(b T _ c).sl _ rfl rfl;exact⟨a,f,d⟩;cases h
theorem adl {E:Env}(a:mL P E.ty)(h:E.str T=true):P.underlying T=I .string:=by unfold Env.str at h;split at h;rename_i c b;exact(a T _ b).str rfl rfl;cases h
theorem arw {E:Env}(a:mL P E.ty)(h:E.bool T=true):P.underlying T=I .bool:=by unfold Env.bool at h;split at h;rename_i c b;exact(a T _ b).bool rfl rfl;cases h
theorem aP {α}{a:Z α}{n:Int}{y:α}(h:idx a n=I y):∃k:Nat,n=k/\k<a.length/\a[k]?=I y:=by obtain⟨k,c,b⟩:=aeG h;exact⟨k,c,(aA.1 b).1,b⟩
theorem Xb {E}(hE:mL P E.ty){o i}(ho:o.op=.indexAddr T x i)(h:ub C st a w){K}(f:qY E o T x i st K=I r):rD P C o a w K r:=by
 unfold qY at f;obtain⟨g,A⟩:=id h;have H:=A.fresh (A.rd x);have B:=A.rd i;split at f;rename_i L fl e Y kd n hT hx hi;split at f;rename_i hc;obtain⟨rfl,j⟩:=hc;rw[hx]at H;rw[hi]at B;have F:=gk H;have Q:=lS B;cases q:idx Y n with
 |none=>rw[q]at f;cases f
 |some y=>
  rw[q]at f;simp only[U]at f;obtain⟨k,rfl,D,m⟩:=aP q;obtain⟨te,hu,⟨inf,z,R,X,_⟩,_⟩:=Nu hE hT;have run:∀b l c,a.eval x=.slice (I ⟨b,l,W⟩) Y.length c->(execOp a.eval o).run P w=.ok (.value (.pointer (I ⟨b,l+k*L.size,W⟩))) w:=by intro b l c d;simp[execOp,ho,d,Q,Instr.indexAt,asIntOf,underlying,hu,sizeOf,typeInfo,R,X,D,sv]
  cases fl with
  |own t=>cases j
  |nest _ _ _ _ _ _=>cases j
  |part _ _ _ _=>cases j
  |im _ _ _=>cases j
  |arg _=>obtain⟨_,v,d,s⟩:=F;simp at d;subst d;rcases s with⟨_,rfl⟩|⟨b,l,c,d,_,s⟩;simp at m;obtain⟨J,p,u⟩:=s k y m;refine⟨_,_,_,.inl (run b l c d),?_,f⟩;exact⟨g,A.quiet o.dst (qZ ⟨rfl,b,l+k*L.size,rfl,J,p,u⟩)⟩
  |loc Z pv=>
   obtain⟨_,M,_,u,S⟩:=F;have N:Z=st.ep:=by simpa[BH.live]using j
   obtain⟨v,d,s⟩:=u N;simp at d;subst d;rcases s with⟨_,rfl⟩|⟨b,l,c,d,_,s⟩;simp at m;obtain⟨J,p,V⟩:=s k y m;refine⟨_,_,_,.inl (run b l c d),?_,f⟩;refine⟨g,A.quiet o.dst (qZ ⟨rfl,b,l+k*L.size,rfl,M,λ_=>⟨J,p,V⟩,λrt t hp=>?_⟩)⟩;obtain⟨h1,h2⟩:=S rt t hp;exact⟨h1,k,l,Y.length,c,rfl,by rw[<-h2,d],D,rfl⟩
 cases f;cases f
theorem Fi (s:Z UInt8):(ByteArray.mk s.toArray).size=s.length:=by show s.toArray.size=s.length;simp
theorem alC (s:Z UInt8)(n:Nat):(ByteArray.mk s.toArray)[n]?=s[n]?:=by
 simp only[getElem?_def];by_cases h:n<s.length;have a:n<(ByteArray.mk s.toArray).size:=by rw[Fi];exact h
 rw[dif_pos a,dif_pos h];rfl;have a:¬n<(ByteArray.mk s.toArray).size:=by rw[Fi];exact h
 rw[dif_neg a,dif_neg h]
theorem aii {E}(p:mL P E.ty){o i}(v:o.op=.index T x i)(h:ub C st a w){K}(b:JO E o T x i st K=I r):rD P C o a w K r:=by
 unfold JO at b;obtain⟨g,f⟩:=id h;have e:=f.rd x;have d:=f.rd i;split at b;rename_i s D n B t;split at b;rename_i q;rw[B]at e;rw[t]at d;have m:=(gk e).1;have j:=lS d;cases c:idx s n with
 |none=>rw[c]at b;cases b
 |some y=>
  rw[c]at b;simp only[U]at b;obtain⟨k,rfl,u,l⟩:=aP c;have A:=adl p q;have z:(execOp a.eval o).run P w=.ok (.value (.int .u8 y.toNat)) w:=by simp[execOp,v,m,j,Instr.index,asIntOf,underlying,A,alC,l]
  refine⟨_,_,_,.inl z,?_,b⟩;exact⟨g,f.quiet o.dst (qZ ⟨rfl,rfl⟩)⟩
 cases b;cases b
theorem CA {o}(h:ub C st a w){K}v c(f:(execOp a.eval o).run P w=.ok (.value v) w)(b:∀i:RC,kh i v c [])(e:K (st.put o.dst (.one c))=I r):rD P C o a w K r:=by obtain⟨g,d⟩:=h;exact⟨v,w,_,.inl f,⟨g,d.quiet o.dst (qZ (b _))⟩,e⟩
theorem od k n a:kh a (.int k n) (.int k n) []:=⟨rfl,rfl⟩
theorem It b a:kh a (.bool b) (.bool b) []:=⟨rfl,rfl⟩
theorem VC s a:kh a (.string ⟨s.toArray⟩) (.str s) []:=⟨rfl,rfl⟩
theorem asL {o op}(j:o.op=.unOp op T x)(h:ub C st a w){K}(e:(unC op (st.rd x) λc=>K (st.put o.dst (.one c)))=I r):rD P C o a w K r:=by obtain⟨g,l⟩:=id h;have d:=l.rd x;unfold unC at e;split at e;rename_i b i;rw[i]at d;have f:=Di d;exact CA h _ _ (by simp[execOp,j,f,Op.unary]) (It _) e;rename_i k n i;rw[i]at d;have f:=lS d;exact CA h _ _ (by simp only[execOp,j,f,Op.unary,Op.intArith];rfl) (od _ _) e;rename_i k n i;rw[i]at d;have f:=lS d;exact CA h _ _ (by simp only[execOp,j,f,Op.unary,Op.intBits];rfl) (od _ _) e;cases e
theorem Tf {o}(n:o.op=.nilCheck x)(h:ub C st a w){K k e y i j}(p:st.rd x=.val G [.I7 k e y i j])(m:K (st.put o.dst (.one (.I7 k e y i j)))=I r):rD P C o a w K r:=by
 obtain⟨g,l⟩:=id h;have d:=l.rd x;rw[p]at d;have f:=gk d;have c:∃b q,a.eval x=.pointer (I ⟨b,q,W⟩):=by
  cases k with
  |own t=>exact f.elim
  |nest _ _ _ _ _ _=>exact f.elim
  |part _ _ _ _=>exact f.elim
  |im _ _ _=>exact f.elim
  |arg _=>obtain⟨_,b,q,c,_⟩:=f;exact⟨b,_,c⟩
  |loc s u=>obtain⟨_,b,q,c,_⟩:=f;exact⟨b,_,c⟩
 obtain⟨b,q,c⟩:=c;exact⟨.pointer (I ⟨b,q,W⟩),_,_,.inl (by simp only[execOp,n,c];rfl),⟨g,l.quiet o.dst (by rw[<-c];exact d)⟩,m⟩
theorem Zi {o}(f:o.op=.nilCheck x)(h:ub C st a w){K s b}(j:st.rd x=.val G [.ptr s b])(e:K (st.put o.dst (.one (.ptr s b)))=I r):rD P C o a w K r:=by obtain⟨g,d⟩:=id h;have c:=d.rd x;rw[j]at c;have i:=Jo c;exact⟨.pointer (I ⟨g.β s,b,W⟩),_,_,.inl (by simp only[execOp,f,i];rfl),⟨g,d.quiet o.dst (qZ (x:=.ptr s b) ⟨rfl,(gk c).2.1,rfl⟩)⟩,e⟩
theorem amE {op k x y K}(a:Q7 op k x y K=I r)T w: ∃c v,(binOp op T (.int k x) (.int k y)).run P w=.ok v w/\(∀d:RC,kh d v c [])/\K c=I r:=by
 cases op<;>simp only[Q7]at a<;>(try (cases a;done))<;>simp only[binOp,ne_eq,not_true_eq_false,cY]
 case quo=>
  split at a
  ·cases a
  ·rename_i b
   exact⟨_,.int k _,by simp only[Op.intDiv,b,cY];rfl,od _ _,a⟩
 case rem=>
  split at a
  ·cases a
  ·rename_i b
   exact⟨_,.int k _,by simp only[Op.intDiv,b,cY];rfl,od _ _,a⟩
 case add=>exact⟨_,_,rfl,od _ _,a⟩
 case sub=>exact⟨_,_,rfl,od _ _,a⟩
 case mul=>exact⟨_,_,rfl,od _ _,a⟩
 case and=>exact⟨_,_,rfl,od _ _,a⟩
 case or=>exact⟨_,_,rfl,od _ _,a⟩
 case xor=>exact⟨_,_,rfl,od _ _,a⟩
 case andNot=>exact⟨_,_,rfl,od _ _,a⟩
 all_goals exact⟨_,_,rfl,It _,a⟩
theorem alw (x y:Z UInt8):(ByteArray.mk x.toArray)++(ByteArray.mk y.toArray)=ByteArray.mk (x++y).toArray:=by apply ByteArray.ext;rw[ByteArray.data_append];simp
theorem aob {op x y K}(a:UM op x y K=I r)T w: ∃c v,(binOp op T (.string ⟨x.toArray⟩) (.string ⟨y.toArray⟩)).run P w=.ok v w/\(∀g:RC,kh g v c [])/\K c=I r:=by
 cases op<;>simp only[UM]at a<;>(try (cases a;done))<;>simp only[binOp,Op.stringOp,toList_mk]
 case add=>
  unfold room at a
  split at a
  ·rename_i e
   have f:¬(((ByteArray.mk x.toArray).size+(ByteArray.mk y.toArray).size:Nat):Int)>IntKind.i64.max:=by have b:=Fi x;have d:=Fi y;rw[b,d];have:IntKind.i64.max=9223372036854775807:=eR;omega
   exact⟨_,_,by rw[aK f,alw];rfl,VC _,a⟩
  ·cases a
 all_goals exact⟨_,_,rfl,It _,a⟩
theorem U9 w D T b(a:P.underlying T=I (.slice b)):(Op.equalIn (D+1) T (.slice W 0 0) (.slice W 0 0)).run P w=.ok true w:=by unfold Op.equalIn;simp only[underlying,Sem.run_bind,run_program,a,Result.andThen_ok,Sem.run_pure];rfl
theorem Tu w D T c(b:P.underlying T=I (.slice c))a n k:(Op.equalIn (D+1) T (.slice (I a) n k) (.slice W 0 0)).run P w=.ok G w:=by unfold Op.equalIn;simp only[underlying,Sem.run_bind,run_program,b,Result.andThen_ok,Sem.run_pure]
theorem aoO {E}(hE:mL P E.ty)(hQ:adx P E.eqs){o op T' y}(ho:o.op=.binOp op T x y T')(h:ub C st a w){K}(d:I3 E o op T x y st K=I r):rD P C o a w K r:=by
 obtain⟨g,hg⟩:=id h;have f:=hg.rd x;have i:=hg.rd y;have j:∀v c,(do eqGuard op T x y (a.eval x) (a.eval y);binOp op T (a.eval x) (a.eval y):Sem Value).run P w=.ok v w->(∀rc:RC,kh rc v c [])->K (st.put o.dst (.one c))=I r->rD P C o a w K r:=by intro v c F B L;refine⟨v,w,_,.inl ?_,⟨g,hg.quiet o.dst (qZ (B _))⟩,L⟩;simp only[execOp,ho];show((do eqGuard op T x y (a.eval x) (a.eval y);binOp op T (a.eval x) (a.eval y):Sem Value)>>=λv=>pure (Next.value v)).run P w=_;rw[Sem.run_bind,F];rfl
 have H:∀{k k':IntKind}{p q:Int},(eqGuard op T x y (.int k p) (.int k' q)).run P w=.ok () w:=by intros;unfold eqGuard;split<;>rfl
 have aBQ:∀{p q:ByteArray},(eqGuard op T x y (.string p) (.string q)).run P w=.ok () w:=by intros;unfold eqGuard;split<;>rfl
 have aBO:∀{p q:Bool},(eqGuard op T x y (.bool p) (.bool q)).run P w=.ok () w:=by intros;unfold eqGuard;split<;>rfl
 unfold I3 at d;split at d
 ·rename_i p q l m;rw[l]at f;rw[m]at i;split at d;·rename_i s;have X:=arw hE s;simp only[OI]at d;cases op<;>simp only at d<;>(try (cases d;done));all_goals refine j _ _ ?_ (It _) d;rw[Di f,Di i,Sem.run_bind,aBO];simp only[Result.andThen_ok,binOp,Op.equal,Op.maxDepth,Sem.run_bind];rw[run_equalIn_bool' w 9999 T p q X];rfl
  cases d
 ·rename_i xs ys l m;rw[l]at f;rw[m]at i;split at d
  ·rename_i ls s;split at d
   ·rename_i hf;obtain⟨vs,N,hrx⟩:=f;obtain⟨us,Q,hry⟩:=i;simp only[Cut,dm]at N Q;have z:(eqGuard op T x y (.agg vs.toArray) (.agg us.toArray)).run P w=.ok () w:=by have hgt:=(hQ T ls s).2.2;unfold eqGuard;cases op<;>simp[hgt]
    simp only[OI]at d;cases op<;>simp only at d<;>(try (cases d;done));all_goals cases he:Cy xs ys with|none=>rw[he]at d;cases d|some b=>rw[he]at d;simp only[U]at d;refine j _ _ ?_ (It _) d;rw[N,Q,Sem.run_bind,z];simp only[Result.andThen_ok,binOp,Sem.run_bind,ats hQ s hrx hry hf he w];rfl
   cases d
  cases d
 ·rename_i fl e xs l m;rw[l]at f;rw[m]at i;split at d
  ·rename_i s;obtain⟨s,A⟩:=s;cases V:E.sl T with
   |none=>rw[V]at s;cases s
   |some e'=>
    obtain⟨te,X,_⟩:=Nu hE V;split at d;cases d
    ·rename_i R;have aD5:∃b M n k,a.eval x=.slice (I ⟨b,M,W⟩) n k:=by
      have hc:=gk f;have key:∀{S:Nat->Nat->Prop},mq w S (.sl e) [a.eval x] xs->∃b M n k,a.eval x=.slice (I ⟨b,M,W⟩) n k:=by rintro S ⟨u,Y,h1⟩;simp at Y;rcases h1 with⟨_,rfl⟩|⟨b,M,cap,Z,_⟩;simp at R;exact⟨b,M,_,_,by rw[Y];exact Z⟩
      cases fl with
      |own t=>cases A
      |nest _ _ _ _ _ _=>cases A
      |part _ _ _ _=>cases A
      |im _ _ _=>cases A
      |arg _=>exact key hc.2
      |loc ep pv=>
       have hep:ep=st.ep:=by simpa[BH.live]using A
       exact key (hc.2.2.2.1 hep)
     obtain⟨b,M,n,k,Z⟩:=aD5;have D:=(gk i).1;have F:(Op.equal T (a.eval x) (a.eval y)).run P w=.ok G w:=by rw[Z,D];exact Tu w 9999 T te X _ _ _
     have z:(eqGuard op T x y (a.eval x) (a.eval y)).run P w=.ok () w:=by rw[Z,D];unfold eqGuard;split<;>rfl
     unfold Mc at d;cases op<;>simp only at d<;>(try (cases d;done));all_goals refine j _ _ ?_ (It _) d;rw[Sem.run_bind,z];rw[Z,D]at F⊢;simp only[Result.andThen_ok,binOp,Sem.run_bind,F];rfl
  cases d
 ·rename_i l m;rw[l]at f;rw[m]at i;split at d
  ·rename_i s;cases V:E.sl T with
   |none=>rw[V]at s;cases s
   |some e'=>
    obtain⟨te,X,_⟩:=Nu hE V;have hxn:=(gk f).1;have D:=(gk i).1;have F:(Op.equal T (.slice W 0 0) (.slice W 0 0)).run P w=.ok true w:=by exact U9 w 9999 T te X
    have z:(eqGuard op T x y (.slice W 0 0) (.slice W 0 0)).run P w=.ok () w:=by unfold eqGuard;split<;>rfl
    unfold Mc at d;cases op<;>simp only at d<;>(try (cases d;done));all_goals refine j _ _ ?_ (It _) d;rw[hxn,D,Sem.run_bind,z];simp only[Result.andThen_ok,binOp,Sem.run_bind,F];rfl
  cases d
 rename_i va vb hn1 hn2 hn3 hn4;unfold OI at d;split at d;rename_i k p k' q l m;rw[l]at f;rw[m]at i;split at d;split at d;cases d;rename_i hq;refine j _ _ ?_ (od _ _) d;rw[lS f,lS i,Sem.run_bind,H];simp only[Result.andThen_ok,binOp,Op.shift,hq,cY];rfl;split at d;cases d;rename_i hq;refine j _ _ ?_ (od _ _) d;rw[lS f,lS i,Sem.run_bind,H];simp only[Result.andThen_ok,binOp,Op.shift,hq,cY];rfl;split at d;rename_i L;subst L;obtain⟨c,v,F,B,J⟩:=amE (P:=P) d T w;refine j v c ?_ B J;rw[lS f,lS i,Sem.run_bind,H];exact F;cases d;rename_i p q l m;rw[l]at f;rw[m]at i;obtain⟨c,v,F,B,J⟩:=aob (P:=P) d T w;refine j v c ?_ B J;rw[(gk f).1,(gk i).1,Sem.run_bind,aBQ];exact F;rename_i p q l m;exact absurd m (hn1 p q l);rename_i xs ys l m;exact absurd m (hn2 xs ys l);cases d
theorem apZ {E}(Q:mL P E.ty){o}(y:o.op=.call {callee:=.builtin .len,args,argTypes:=Y})(h:ub C st a w){K}(j:Xj E o Y.toList args.toList st K=I r):rD P C o a w K r:=by
 obtain⟨g,R⟩:=id h;unfold Xj at j;split at j;rename_i t s m c;obtain⟨x,L,q⟩:∃x,args.toList=[x]/\st.rd x=.val G [.str s]:=by cases A:args.toList with|nil=>rw[A]at c;simp at c|cons x l=>rw[A]at c;simp at c;exact⟨x,by rw[c.2],c.1⟩
 have D:args=#[x]:=by apply gV;simpa using L
 have F:Y=#[t]:=by apply gV;simpa using m
 subst D;subst F;split at j;rename_i H;have i:=R.rd x;rw[q]at i;have B:=(gk i).1;refine CA h (.int .i64 _) _ ?_ (od _ _) j;simp[execOp,y,resolve,invoke,builtin,Builtin.len_,underlying,adl Q H,B,goInt,Fi];cases j;rename_i t N e S m c;obtain⟨x,L,q⟩:∃x,args.toList=[x]/\st.rd x=.val G [.sl N e S]:=by cases A:args.toList with|nil=>rw[A]at c;simp at c|cons x l=>rw[A]at c;simp at c;exact⟨x,by rw[c.2],c.1⟩
 have D:args=#[x]:=by apply gV;simpa using L
 have F:Y=#[t]:=by apply gV;simpa using m
 subst D;subst F;split at j;rename_i H;have i:=R.rd x;rw[q]at i;obtain⟨e',J⟩:=Option.isSome_iff_exists.1 H;obtain⟨te,p,_⟩:=Nu Q J;have B:∃b f,a.eval x=.slice b S.length f:=by
  have v:=gk i;cases N with
  |nest _ _ _ _ _ _=>obtain⟨_,_,⟨M,Z,k1,d,z⟩,_⟩:=v;exact⟨M,k1,by rw[d,z]⟩
  |part _ _ _ _=>obtain⟨_,_,⟨M,Z,k1,d,z⟩,_⟩:=v;exact⟨M,k1,by rw[d,z]⟩
  |im _ _ _=>obtain⟨_,⟨k,_,b,o0,f,V,T,fr,X,d,_⟩,_⟩:=v;exact⟨_,_,d⟩
  |own t=>obtain⟨⟨u,p,y⟩,_⟩:=v;simp at p;subst p;rcases y with⟨⟨_,d⟩,rfl,_⟩|⟨b,_,f,_,_,_,_,d,_⟩;exact⟨_,_,d⟩;exact⟨_,_,d⟩
  |arg _=>obtain⟨_,u,p,y⟩:=v;simp at p;subst p;rcases y with⟨⟨U,d⟩,rfl⟩|⟨b,ob,f,d,_⟩;exact⟨U,0,d⟩;exact⟨_,_,d⟩
  |loc ep pv=>obtain⟨_,_,⟨b,n,k,d,z⟩,_⟩:=v;exact⟨b,k,by rw[d,z]⟩
 obtain⟨b,f,B⟩:=B;refine CA h (.int .i64 _) _ ?_ (od _ _) j;simp[execOp,y,resolve,invoke,builtin,Builtin.len_,underlying,p,B,goInt];cases j;cases j
theorem Yw {u v}(h:args.toList.map st.rd=[u,v]):∃x y,args=#[x,y]/\st.rd x=u/\st.rd y=v:=by match a:args.toList with|[]=>rw[a]at h;simp at h|[_]=>rw[a]at h;simp at h|[x,y]=>rw[a]at h;simp at h;exact⟨x,y,by apply gV;simpa using a,h.1,h.2⟩|_::_::_::_=>rw[a]at h;simp at h
theorem ap9 {o}(i:o.op=.call {callee:=.builtin .min,args,argTypes:=Y})(h:ub C st a w){K}(d:Zc o args.toList st K=I r):rD P C o a w K r:=by obtain⟨g,f⟩:=id h;unfold Zc at d;split at d;rename_i k x m y e;obtain⟨p,q,rfl,j,l⟩:=Yw e;have b:=f.rd p;have c:=f.rd q;rw[j]at b;rw[l]at c;refine CA h (.int k _) _ ?_ (od _ _) d;simp[execOp,i,resolve,invoke,builtin,Builtin.min_,Builtin.min2,lS b,lS c];cases d
theorem ap7 {o}(i:o.op=.call {callee:=.builtin .max,args,argTypes:=Y})(h:ub C st a w){K}(d:Zb o args.toList st K=I r):rD P C o a w K r:=by obtain⟨g,f⟩:=id h;unfold Zb at d;split at d;rename_i k x m y e;obtain⟨p,q,rfl,j,l⟩:=Yw e;have b:=f.rd p;have c:=f.rd q;rw[j]at b;rw[l]at c;refine CA h (.int k _) _ ?_ (od _ _) d;simp[execOp,i,resolve,invoke,builtin,Builtin.max_,Builtin.max2,lS b,lS c];cases d
end Go.Dn
