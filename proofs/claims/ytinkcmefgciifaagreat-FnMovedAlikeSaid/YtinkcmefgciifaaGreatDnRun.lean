import Derived.Test.YtinkcmefgciifaaGreatDnAny
/- The soundness of the abstract semantics: code and functions. -/
namespace Go.Dn
open Go.RowKit
variable {P:Program} {C:Ctx} {st:AS} {a:Act} {w:World} {R:Type} {r:R}
variable {an:An} {Γ:yk} {g:Gh} {Λ:lB} {f:Nat} {hw:Nat->Nat} {A:Rg} {rs:ax (Bool×FT)} {ys:ax (Bool×ax AC)} {cs:ax AC} {xs:ax AV}
def FH:Exit->Ex->Prop
 | .normal,.normal=>True
 | .ret,.ret=>True
 | .exit i,.exit j=>i=j
 |_,_=>False
def ajm (C:Ctx)(K:Ex->AS->ay R)(r:R)(e:Exit)(a:Act)(w:World):Prop:=
 ∃ex bN,FH e ex/\ij C bN a w/\K ex bN=some r
theorem aaD {E:Env}(hS:Sound P E Γ){id:Nat}{ops:Array Oper}{d:Bool}(h:ij C st a w){K:AS->ay R}(hk:Qd E Γ an id ops.toList d st K=some r){Q:Exit->Act->World->Prop}(hq:∀bN a' w',ij C bN a' w'->K bN=some r->Q .normal a' w'):(Code.region id ops d).wp P Q a w:=by
 unfold Qd at hk;split at hk;rw[Kw]at hk;cases ho:Cr E Γ an ops.toList d st some with|none=>rw[ho]at hk;cases hk|some st1=>rw[ho]at hk;exact XD hS h ho (λa' w' hs=>hq _ _ _ hs hk)
 rename_i s hm;split at hk;rename_i ahT;rw[Kw]at hk;cases ho:Cr E Γ.calm an ops.toList d st some with|none=>rw[ho]at hk;cases hk|some st1=>rw[ho]at hk;simp only[eu]at hk;cases hb:getBool st1 s with|none=>rw[hb]at hk;cases hk|some b=>rw[hb]at hk;simp only[aa]at hk;have hn:=aaf (afb Γ) (λo Js=>aF.1 ahT o Js) ho;exact XD hS.calm h ho (λa' w' hs=>hq _ _ _ (hs.weaken hn hb) hk)
 cases hk
def xA (E:Env)(Γ:yk)(an:An)(Λ:lB)(c:Code):Prop:=
 ∃n,∀(R:Type)(st:AS)(K:Ex->AS->ay R)(r:R),(Λ (ec c)).go st K=some r->zG (an.mask (ec c)) (den E Γ an Λ c) n st K=some r
def TZ (E:Env)(Γ:yk)(an:An)(Λ:lB)(c:Code):Prop:=
 ∀(R:Type)(st:AS)(K:Ex->AS->ay R)(r:R),(Λ (Cj c)).go st K=some r->den E Γ an Λ c st (λe bN=>K e (bN.mask (an.mask (Cj c+1))))=some r
def yv (E:Env)(Γ:yk)(an:An)(Λ:lB)(c:Code):Prop:=(∀c'∈ig c,xA E Γ an Λ c')/\∀c'∈kL an.cut c,TZ E Γ an Λ c'
theorem abL (c:Code):kL [] c=[]:=by induction c with|seq a b iha ihb=>simp[kL,iha,ihb]|cond _ a b iha ihb=>simp[kL,iha,ihb]|block _ c ih=>simpa[kL]using ih|loop c ih=>simpa[kL]using ih|_=>rfl
theorem yv.of {E:Env}{c:Code}(h:∀c'∈ig c,xA E Γ an Λ c')(hc:an.cut=[]):yv E Γ an Λ c:=⟨h,by rw[hc,abL];simp⟩
theorem Pg {E:Env}(hS:Sound P E Γ):∀(c:Code)(_:yv E Γ an Λ c)(st:AS)(a:Act)(w:World)(K:Ex->AS->ay R),ij C st a w->den E Γ an Λ c st K=some r->c.wp P (ajm C K r) a w:=by
 intro c;induction c with
 |skip=>intro DD st a w K h hk;exact wp_skip ⟨.normal,st,cq,h,hk⟩
 |region id ops d=>intro DD st a w K h hk;exact aaD hS h (by simpa only[den]using hk) (λbN a' w' hs he=>⟨.normal,bN,cq,hs,he⟩)
 |seq x y ihx ihy=>
  intro DD st a w K h hk;have ihx:=ihx ⟨λc hc=>DD.1 c (by simp[ig,hc]),λc hc=>DD.2 c (by simp[kL,hc])⟩;have ihy:=ihy ⟨λc hc=>DD.1 c (by simp[ig,hc]),λc hc=>DD.2 c (by simp only[kL];cases an.cut.contains (ec y)<;>simp[hc])⟩;simp only[den]at hk;refine wp_seq (wp_mono (ihx st a w _ h hk) ?_);rintro e a' w' ⟨ex,bN,he,hs,CF⟩;cases e<;>cases ex<;>simp only[FH]at he;simp only at CF;cases fj:an.cut.contains (ec y)with|false=>rw[fj]at CF;exact ihy bN a' w' K hs CF|true=>rw[fj]at CF;have hc:=DD.2 y (by simp only[kL,fj];simp) _ _ _ _ CF;refine wp_mono (ihy _ a' w' _ (hs.mask _) hc) ?_;rintro e2 a2 w2 ⟨ex2,st2,he2,hs2,hk2⟩;exact⟨ex2,_,he2,hs2.mask _,hk2⟩
  exact⟨.exit _,bN,he,hs,CF⟩;exact⟨.ret,bN,cq,hs,CF⟩
 |cond c x y ihx ihy=>
  intro DD st a w K h hk;have ihx:=ihx ⟨λc hc=>DD.1 c (by simp[ig,hc]),λc hc=>DD.2 c (by simp[kL,hc])⟩;have ihy:=ihy ⟨λc hc=>DD.1 c (by simp[ig,hc]),λc hc=>DD.2 c (by simp[kL,hc])⟩;simp only[den]at hk;split at hk;rename_i t hc;have hv:a.eval c=.bool t:=by obtain⟨g,hg⟩:=h;have:=hg.rd c;rw[hc]at this;exact uv this
  cases t with|true=>exact wp_cond_true hv (ihx st a w K h hk)|false=>exact wp_cond_false hv (ihy st a w K h hk)
  cases hk
 |block id c ih=>intro DD st a w K h hk;have ih:=ih ⟨λc hc=>DD.1 c (by simpa[ig]using hc),λc hc=>DD.2 c (by simpa[kL]using hc)⟩;simp only[den]at hk;refine wp_block (wp_mono (ih st a w _ h hk) ?_);rintro e a' w' ⟨ex,bN,he,hs,CF⟩;cases e<;>cases ex<;>simp only[FH]at he;exact⟨.normal,bN,cq,hs,CF⟩;rename_i i j;subst he;simp only[Exit.inBlock];simp only at CF;by_cases hi:i=id;subst hi;rw[aH rfl];simp only[gI,bQ]at CF;exact⟨.normal,bN,cq,hs,CF⟩;rw[aI hi];rw[aI (by simpa using hi)]at CF;exact⟨.exit i,bN,rfl,hs,CF⟩;exact⟨.ret,bN,cq,hs,CF⟩
 |loop c ih=>
  intro DD st a w K h hk;have ih:=ih ⟨λc hc=>DD.1 c (by simp[ig,hc]),λc hc=>DD.2 c (by simpa[kL]using hc)⟩;obtain⟨n,hn⟩:=DD.1 c (by simp[ig]);simp only[den]at hk;intro b k cs
  have key:∀m st a w,ij C st a w->zG (an.mask (ec c)) (den E Γ an Λ c) m st K=some r->
   ∃e a' w',ajm C K r e a' w'/\Arrives P (lone (b.at a (.code c:: .inLoop c::k)) cs w) b k cs e a' w':=by
   intro m
   induction m with
   |zero=>intro st a w _ hk;cases hk
   |succ m ihm=>
    intro st a w h hk
    simp only[zG]at hk
    obtain⟨e,Ul,Xg,⟨ex,bN,he,hs,CF⟩,Jp⟩:=ih st a w _ h hk b (.inLoop c::k) cs
    cases e<;>cases ex<;>simp only[FH]at he
    ·obtain⟨ahs,ahj,aiT,acU,Pw⟩:=ihm _ Ul Xg (hs.mask _) CF
     exact⟨ahs,ahj,aiT,acU,.of_steps (Steps.trans Jp (.one step_inLoop)) Pw⟩
    ·exact⟨.exit _,Ul,Xg,⟨.exit _,_,he,hs.mask _,CF⟩,.pass (x:=.inLoop c) rfl (λ_ _=> .inl (by simp)) Jp⟩
    ·exact⟨.ret,Ul,Xg,⟨.ret,_,cq,hs.mask _,CF⟩,.pass (x:=.inLoop c) rfl (λ_ _=> .inl (by simp)) Jp⟩
  cases hp:an.peel.contains (ec c)with
  |false=>rw[hp]at hk;obtain⟨e,a',w',hq,Jp⟩:=key n _ a w (h.mask _) (hn _ _ _ _ hk);exact⟨e,a',w',hq,.of_steps (.one step_loop) Jp⟩
  |true=>rw[hp]at hk;simp only[ah]at hk;obtain⟨e,Ul,Xg,⟨ex,bN,he,hs,CF⟩,Jp⟩:=ih _ a w _ (h.mask _) hk b (.inLoop c::k) cs;cases e<;>cases ex<;>simp only[FH]at he;obtain⟨ahs,ahj,aiT,acU,Pw⟩:=key n _ Ul Xg (hs.mask _) (hn _ _ _ _ CF);exact⟨ahs,ahj,aiT,acU,.of_steps (Steps.trans (.one step_loop) (Steps.trans Jp (.one step_inLoop))) Pw⟩;exact⟨.exit _,Ul,Xg,⟨.exit _,_,he,hs.mask _,CF⟩,.of_steps (.one step_loop) (.pass (x:=.inLoop c) rfl (λ_ _=> .inl (by simp)) Jp)⟩;exact⟨.ret,Ul,Xg,⟨.ret,_,cq,hs.mask _,CF⟩,.of_steps (.one step_loop) (.pass (x:=.inLoop c) rfl (λ_ _=> .inl (by simp)) Jp)⟩
 |exit id=>intro DD st a w K h hk;exact wp_exit ⟨.exit id,st,rfl,h,hk⟩
 |ret=>intro DD st a w K h hk;exact wp_ret ⟨.ret,st,cq,h,hk⟩
 |_=>intro DD st a w K h hk;simp[den]at hk
theorem EE:∀{vs:iG}{xs:ax AV},pA A w vs xs->vs.length=xs.length/\∀(i:Nat)(x:AV),xs[i]?=some x->∃v,vs[i]?=some v/\fX (fK A (λ_=>0) w) v x []
 |[],[],_=>⟨rfl,by simp⟩
 |v::vs,x::xs,h=>by obtain⟨hl,hi⟩:=EE h.2;refine⟨by simp[hl],λi y hy=>?_⟩;cases i with|zero=>simp at hy;subst hy;exact⟨v,rfl,h.1⟩|succ i=>exact hi i y (by simpa using hy)
 |[],_::_,h=>h.elim
 |_::_,[],h=>h.elim
theorem Ih (hA:∀k b o,A k b o->b<w.heap.size){fn:Func}{vs:iG}(h:pA A w vs xs): ij ⟨A,λ_=>False,w,[],λk b o hb=>⟨hA k b o hb,λf=>f⟩⟩ (start fn xs) {tmps:=vs.toArray++Array.replicate (fn.ntmps-vs.toArray.size) undef,defers:=[]} w:=by
 obtain⟨hl,hi⟩:=EE h;let C:Ctx:=⟨A,λ_=>False,w,[],λk b o hb=>⟨hA k b o hb,λf=>f⟩⟩
 let g:Gh:=⟨λ_=>0,λ_=>0,λ_=>none,λ_=>undef⟩
 have hle:(fK A (λ_=>0) w).Le (cM C g (start fn xs) w):=⟨rfl,λt ht=>ht.elim,λ_ _ _ _ _ hv=>hv,aS _,λs hs=>hs.elim,λ_ b o u ho hu=>⟨ho,hu⟩⟩
 refine⟨g,rfl,?_,?_,λi av hs=>?_,λs cs hs=>?_,λk v av hk=>by simp at hk,λb x hx=>(by cases hx),Fr.refl _ _,⟨[],rfl,by simp,by simp⟩⟩;simp[start,hl];simp[start];have xi:(xs++List.replicate (fn.ntmps-xs.length) AV.bot)[i]?=some av:=hs;rcases cd i xs.length with gY|yZ;rw[bB gY]at xi;obtain⟨v,hv,hr⟩:=hi i av xi;refine⟨[],?_,by simp,by simp⟩;have hvv:(vs.toArray++Array.replicate (fn.ntmps-vs.toArray.size) undef).getD i undef=v:=by
  have afp:i<vs.length:=by omega
  have PJ:vs[i]=v:=by rw[aq afp]at hv;exact du hv
  simp[dz,Array.getElem?_append,afp,PJ]
 show fX _ ((vs.toArray++Array.replicate (fn.ntmps-vs.toArray.size) undef).getD i undef) _ _;rw[hvv];exact hr.mono hle (by simp);rw[bm yZ,dX]at xi;split at xi;cases xi;exact⟨[],fX.bot _ _,by simp,by simp⟩;cases xi;have xi:(List.replicate (xs.length+(fn.ntmps-xs.length)) (none:ay (ax AC)))[s]?=some (some cs):=hs;rw[dX]at xi;split at xi<;>cases xi
theorem W9 {v:Value}{x:AC}{fp:fy}(h:gK (cM C g st w) v x fp):gK (fK C.A g.hw w) v x.strip fp:=by
 cases x with
 |int k n=>exact h
 |bool b=>exact h
 |str s=>exact h
 |jB=>exact h
 |fn f=>exact h
 |un=>exact h
 |bot=>exact h
 |ptr s off=>exact h.2.2
 |zX fl e y i off=>cases fl with|own t=>exact h.elim|nest _ _ _ _ _ _=>exact h.elim|part _ _ _ _=>exact h.elim|fi _ _ _=>exact h.elim|arg _=>exact h.1|loc ep pv=>exact h.1
 |sl fl e xs=>
  cases fl with
  |nest _ _ _ _ _ _=>exact h.1
  |part _ _ _ _=>exact h.1
  |fi _ _ _=>obtain⟨_,⟨k,hk,h3⟩,_⟩:=h;exact⟨λq hq=>(by cases hq),⟨k,hk,h3⟩,by simp⟩
  |own t=>exact⟨h.1,by simp⟩
  |arg _=>exact h
  |loc ep pv=>exact h.1
theorem wU:∀{vs:iG}{xs:ax AC}{fp:fy},bD (cM C g st w) vs xs fp->bD (fK C.A g.hw w) vs (xs.map AC.strip) fp
 |[],[],_,h=>h
 |_::_,_::_,_,h=>by obtain⟨f1,f2,rfl,h1,h2⟩:=h;exact⟨f1,f2,rfl,W9 h1,wU h2⟩
 |[],_::_,_,h=>h.elim
 |_::_,[],_,h=>h.elim
def Bz (tmps:Array Value):ResultVar->Sem Value
 | .tmp t=>pure (tmps.getD t undef)
 | .cell a t=>do loadVar t (<-asAddr (tmps.getD a undef))
def xL:Bool×Nat->jM
 |(false,t)=> .slot t
 |(true,s)=> .box s
theorem IM {x y:Bool×Nat}(h:xL x=xL y):x=y:=by rcases x with⟨_|_,a⟩<;>rcases y with⟨_|_,b⟩<;>simp[xL]at h<;>rw[h]
theorem afY {E:Env}(hE:jk P E.ty)(h:dP C g st a w []){rv:ResultVar}{own:Bool×Nat}{gg:Bool}(hr:LF st E rv=some (own,gg,cs)): ∃v vs fp,(Bz a.tmps rv).run P w=.ok v w/\Cut gg v vs/\bD (fK C.A g.hw w) vs cs fp/\fp.Nodup/\∀b∈fp,g.ej b=some (xL own):=by
 cases rv with
 |tmp t=>simp only[LF]at hr;split at hr;rename_i g' qg nE;cases hr;obtain⟨fp,eQ,hn,hl⟩:=h.slot t;rw[nE]at eQ;obtain⟨vs,fj,eQ⟩:=eQ;exact⟨_,vs,fp,rfl,fj,wU eQ,hn,hl⟩;cases hr
 |cell t T=>
  simp only[LF]at hr;split at hr;rename_i sh s off hT hp;cases jH:(nth st.boxes s).getD none with
  |none=>rw[jH]at hr;cases hr
  |some qg=>
   rw[jH]at hr;simp only[eu]at hr;split at hr;rename_i gF;cases hr;have jH:st.boxes[s]?=some (some qg):=by rw[dK]at jH;cases hq:st.boxes[s]? with|none=>rw[hq]at jH;simp at jH|some q=>rw[hq]at jH;simp at jH;rw[jH]
   obtain⟨fp0,tG,_,_⟩:=h.slot t;rw[hp]at tG;have tG:=zK tG;obtain⟨arr,T',fr,fp,kb,rz,eQ,hn,vd,hl,Fl,Fo⟩:=h.boxes s qg jH;have hlen:=eQ.length;obtain⟨v,ed,fj⟩:=wM (hE T sh hT) (g.β s) off ((arr.toList.drop off).take sh.ct.size) (by simp at hlen⊢;omega) (M9 kb off sh.ct.size);obtain⟨f1,f2,f3,rfl,r1,r2,r3⟩:=eQ.mid off sh.ct.size;have Hx:=(aJ.1 (aJ.1 hn).1).2.1;refine⟨v,_,f2,?_,fj,wU r2,Hx,λb hb=>hl b (by simp[hb])⟩;simp only[Bz,tG,asAddr,Sem.run_bind,Sem.run_pure,Result.andThen_ok];exact ed;cases hr
  cases hr
theorem Ya {E:Env}(hE:jk P E.ty)(h:dP C g st a w [])(gf:ResultVar->Value):∀(rs:ax ResultVar)(had:ax (Bool×Nat))(ys:ax (Bool×ax AC)),rC st E had rs=some ys->
 (∀rv v,(Bz a.tmps rv).run P w=.ok v w->gf rv=v)->
 (∀rv∈rs,(Bz a.tmps rv).run P w=.ok (gf rv) w)/\∃fp,fX.qe (fK C.A g.hw w) (rs.map gf) ys fp/\fp.Nodup/\∀b∈fp,∃own,own∉had/\g.ej b=some (xL own)
 |[],had,ys,hr,hgf=>by cases hr;exact⟨by simp,[],rfl,by simp,by simp⟩
 |rv::rs,had,ys,hr,hgf=>by
  simp only[rC]at hr;cases h1:LF st E rv with
  |none=>rw[h1]at hr;cases hr
  |some x=>
   obtain⟨own,gg,cs⟩:=x;rw[h1]at hr;simp only[eu]at hr;split at hr;cases hr;rename_i Jr;have Jr:own∉had:=by simpa using Jr
   cases h2:rC st E (own::had) rs with|none=>rw[h2]at hr;cases hr|some xs=>rw[h2]at hr;simp only[eu,bc]at hr;subst hr;obtain⟨v,vs,qB,ed,fj,eQ,Hx,hl1⟩:=afY hE h h1;obtain⟨acX,fp2,KU,Cc,yn⟩:=Ya hE h gf rs (own::had) xs h2 hgf;have hv:=hgf rv v ed;refine⟨λrv' hm=>?_,qB++fp2,⟨qB,fp2,rfl,⟨vs,by rw[hv];exact fj,eQ⟩,KU⟩,?_,λb hb=>?_⟩;rcases cn.1 hm with rfl|hm;rw[hv];exact ed;exact acX rv' hm;refine aJ.2 ⟨Hx,Cc,λb hb b' gX he=>?_⟩;subst he;obtain⟨aku,Fm,CG⟩:=yn b gX;rw[hl1 b hb]at CG;have:=IM (du CG);subst this;exact Fm (by simp);rcases az.1 hb with hb|hb;exact⟨own,Jr,hl1 b hb⟩;obtain⟨aku,Fm,CG⟩:=yn b hb;exact⟨aku,λhm=>Fm (by simp[hm]),CG⟩
theorem FK.YR {fl:FK}{f:qd}(h:fl.fits f=true):f=fl.flag:=by
 unfold FK.fits at h;split at h;rename_i t t';have:t=t':=by simpa using h
 subst this;rfl;rename_i k;have:k=false:=by simpa using h
 subst this;rfl;rename_i k;have:k=true:=h;subst this;rfl;rfl;rename_i j t j' t';simp only[ae,aV]at h;obtain⟨rfl,rfl⟩:=h;rfl;cases h
theorem wO:∀{t:FT}{cs r:ax AC}{x:t.ct.D},JS t cs=some (x,r)->cs=jm t x++r:=by
 intro t;induction t with
 |int k=>intro cs r x h;cases cs with|nil=>simp[JS]at h|cons y ys=>cases y<;>simp[JS]at h;obtain⟨rfl,rfl,rfl⟩:=h;rfl
 |bool=>intro cs r x h;cases cs with|nil=>simp[JS]at h|cons y ys=>cases y<;>simp[JS]at h;obtain⟨rfl,rfl⟩:=h;rfl
 |str=>intro cs r x h;cases cs with|nil=>simp[JS]at h|cons y ys=>cases y<;>simp[JS]at h;obtain⟨rfl,rfl⟩:=h;rfl
 |sl fl e=>
  intro cs r x h;cases cs with
  |nil=>simp[JS]at h
  |cons y ys=>
   cases y with
   |sl fl' e' xs=>
    simp only[JS]at h;split at h
    ·rename_i he;subst he;cases hf:fl.fits fl' with
     |false=>rw[hf]at h;cases h
     |true=>
      rw[hf]at h;cases h;rw[FK.YR hf];have hn:fl.isNil=false:=by cases fl<;>first|rfl|(unfold FK.fits at hf;cases hf)
      simp only[jm,hn,af];rfl
    cases h
   |jB=>simp only[JS]at h;cases hn:fl.isNil with|false=>rw[hn]at h;cases h|true=>rw[hn]at h;cases h;simp only[jm,hn,ah];rfl
   |_=>simp[JS]at h
 |pair a b iha ihb=>intro cs r x h;simp only[JS]at h;obtain⟨⟨x1,r1⟩,h1,h⟩:=aO.1 h;obtain⟨⟨x2,r2⟩,h2,h⟩:=aO.1 h;cases h;have h3:r1=jm b x2++r2:=ihb h2;rw[iha h1,h3];simp[jm]
theorem IL:∀(rs:ax (Bool×FT))(ys:ax (Bool×ax AC))(y:kG rs),lu rs ys=some y->ys=aiG rs y
 |[],[],y,_=>rfl
 |[],_::_,y,h=>by simp[lu]at h
 |[(g,t)],ys,y,h=>by
  cases ys with
  |nil=>simp[lu]at h
  |cons p ys=>
   cases ys with
   |cons _ _=>simp[lu]at h
   |nil=>
    obtain⟨g',cs⟩:=p;simp only[lu]at h;cases hg:g==g' with
    |false=>rw[hg]at h;cases h
    |true=>
     rw[hg]at h;have:g=g':=by simpa using hg
     subst this;simp only[ah]at h;split at h;rename_i x hx;cases h;have:=wO hx;rw[bS]at this;rw[this];rfl;cases h
 |(g,t)::p::r,ys,y,h=>by
  cases ys with
  |nil=>simp[lu]at h
  |cons q ys=>
   obtain⟨g',cs⟩:=q;simp only[lu]at h;cases hg:g==g' with
   |false=>rw[hg]at h;cases h
   |true=>
    rw[hg]at h;have:g=g':=by simpa using hg
    subst this;simp only[ah]at h;split at h;rename_i x hx;obtain⟨z,hz,h⟩:=aO.1 h;cases h;have h1:=wO hx;rw[bS]at h1;rw[h1,IL (p::r) ys z hz];rfl;cases h
theorem IZ {E:Env}(hE:jk P E.ty){fn:Func}{bN:AS}{a':Act}{w':World}(hg:dP C g bN a' w' []){had:ax (Bool×Nat)}(Vx:rC bN E had fn.results.toList=some ys){y:kG rs}(gJ:lu rs ys=some y): ∃v fp,(Go.results fn a'.tmps).run P w'=.ok v w'/\fX (fK C.A g.hw w') v (yw rs y) fp/\fp.Nodup/\∀b∈fp,∃own,own∉had/\g.ej b=some (xL own):=by
 have hys:=IL rs ys y gJ;let gf:ResultVar->Value:=λrv=>match (Bz a'.tmps rv).run P w' with| .ok v _=>v|_=>undef
 obtain⟨acX,fp,eQ,DA,CG⟩:=Ya hE hg gf fn.results.toList had ys Vx (λrv v hv=>by simp only[gf,hv]);have ahF:=BB (P:=P) (Bz a'.tmps) gf w' fn.results (λx hx=>acX x (by simpa using hx));have ed:(Go.results fn a'.tmps).run P w'=.ok (if h:(fn.results.map gf).size=1 then(fn.results.map gf)[0] else .tuple (fn.results.map gf)) w':=by
  have:Go.results fn a'.tmps=(do
   let vs<-fn.results.mapM (Bz a'.tmps)
   pure (if h:vs.size=1 then vs[0] else .tuple vs)):=by
   unfold Go.results
   congr 1
  rw[this];simp only[Sem.run_bind,ahF,Result.andThen_ok,Sem.run_pure]
 refine⟨_,fp,ed,?_,DA,CG⟩;have RU:(fn.results.map gf).toList=fn.results.toList.map gf:=by simp
 unfold yw;rw[<-hys];cases ys with
 |nil=>
  have ahK:fn.results.toList.map gf=[]:=by cases hm:fn.results.toList.map gf with|nil=>rfl|cons u us=>rw[hm]at eQ;exact eQ.elim
  have tH:¬(fn.results.map gf).size=1:=by rw[<-Array.length_toList,RU,ahK];simp
  rw[dif_neg tH];exact⟨_,by rw[<-RU],eQ⟩
 |cons y1 ys=>
  cases ys with
  |nil=>
   obtain⟨gg,cs⟩:=y1;cases hm:fn.results.toList.map gf with
   |nil=>rw[hm]at eQ;exact eQ.elim
   |cons u us=>
    rw[hm]at eQ;obtain⟨f1,f2,rfl,Vv,tq⟩:=eQ;cases us with
    |cons _ _=>exact tq.elim
    |nil=>
     cases tq;have Jp:fn.results.map gf=#[u]:=by apply eU;rw[RU,hm]
     have:(if h:(fn.results.map gf).size=1 then(fn.results.map gf)[0] else .tuple (fn.results.map gf))=u:=by rw[dif_pos (by rw[Jp];rfl)];simp only[Jp];rfl
     rw[this,bS];exact Vv
  |cons y2 ys=>
   have tH:¬(fn.results.map gf).size=1:=by rw[<-Array.length_toList,RU];cases hm:fn.results.toList.map gf with|nil=>simp|cons u us=>rw[hm]at eQ;obtain⟨f1,f2,rfl,Vv,tq⟩:=eQ;cases us with|nil=>exact tq.elim|cons u2 us=>simp
   rw[dif_neg tH];exact⟨_,by rw[<-RU],eQ⟩
theorem LG {E:Env}(hE:jk P E.ty){fn:Func}{bN:AS}{a':Act}{w':World}(hg:dP C g bN a' w' [])(Vx:rC bN E [] fn.results.toList=some ys){y:kG rs}(gJ:lu rs ys=some y): ∃v fp,(Go.results fn a'.tmps).run P w'=.ok v w'/\fX (fK C.A g.hw w') v (yw rs y) fp/\fp.Nodup/\∀b∈fp,∃own,g.ej b=some (xL own):=by obtain⟨v,fp,h1,h2,h3,h4⟩:=IZ hE hg Vx gJ;exact⟨v,fp,h1,h2,h3,λb hb=>(h4 b hb).imp λ_ h=>h.2⟩
theorem YV {E:Env}{rs:ax (Bool×FT)}(hS:Sound P E Γ){fn:Func}(hf:P.funcs[f]?=some fn)(Ax:(fn.name== "runtime.NumGoroutine")=false)(DD:yv E Γ an Λ (fn.body.getD .skip)):gM P f {R:=kG rs,fn:=Cs E Γ an Λ fn rs,av:=yw rs}:=by
 intro xs y hy;simp only at hy;unfold Cs at hy;cases hb:fn.body with
 |none=>rw[hb]at hy;cases hy
 |some c=>
  rw[hb]at hy;simp only at hy;split at hy;refine⟨⟨fn,c,hf,hb,Ax⟩,λ_ _ A w vs hA fT=>?_,λh=>(by cases h),λh=>(by cases h),λh=>(by cases h)⟩;refine calls_of_wp hf hb (wp_mono (Pg hS c (by rw[hb]at DD;exact DD) _ _ _ _ (Ih hA fT) hy) ?_);rintro e a' w' ⟨ex,bN,he,hs,hk⟩;have main:aa (rC bN E [] fn.results.toList) (lu rs)=some y->a'.defers=[]/\∃v,(Go.results fn a'.tmps).run P w'=.ok v w'/\∃v_1 hw fp,Ending.returned v=Ending.returned v_1/\fX (fK A hw w') v_1 (yw rs y) fp/\fp.Nodup/\(∀b∈fp,w.heap.size<=b/\b<w'.heap.size)/\Fr (λ_=>False) w w':=by intro gJ;obtain⟨g,hg⟩:=hs;refine⟨hg.defers,?_⟩;cases Vx:rC bN E [] fn.results.toList with|none=>rw[Vx]at gJ;cases gJ|some ys=>rw[Vx]at gJ;obtain⟨v,fp,ed,eQ,DA,CG⟩:=LG hS.ty hg Vx gJ;refine⟨v,ed,v,g.hw,fp,rfl,eQ,DA,λb hb=>?_,hg.frame⟩;obtain⟨own,hl⟩:=CG b hb;have:=hg.fY b _ hl;exact⟨this.2.resolve_right (λf=>f),this.1⟩
  cases e<;>cases ex<;>simp only[FH]at he;exact main hk;cases hk;exact main hk;cases hy
theorem Rz {E:Env}{Mn:ax (Bool×FT)}(h2:kG Mn=kG rs)(hS:Sound P E Γ){fn:Func}(hf:P.funcs[f]?=some fn)(Ax:(fn.name== "runtime.NumGoroutine")=false)(DD:yv E Γ an Λ (fn.body.getD .skip)):gM P f {R:=Bool×kG rs,fn:=evalAlt E Γ an Λ fn rs Mn h2,av:=λy=>yw rs y.2,sel:=λy=>y.1,alt:=λy=>yw Mn (cast h2.symm y.2)}:=by
 intro xs y hy;simp only at hy;unfold evalAlt at hy;cases hb:fn.body with
 |none=>rw[hb]at hy;cases hy
 |some c=>
  rw[hb]at hy;simp only at hy;split at hy;refine⟨⟨fn,c,hf,hb,Ax⟩,λ_ _ A w vs hA fT=>?_,λh=>(by cases h),λh=>(by cases h),λh=>(by cases h)⟩;refine calls_of_wp hf hb (wp_mono (Pg hS c (by rw[hb]at DD;exact DD) _ _ _ _ (Ih hA fT) hy) ?_);rintro e a' w' ⟨ex,bN,he,hs,hk⟩
  have main:(aa (rC bN E [] fn.results.toList) λys=>match lu rs ys with
   |some y=>some (true,y)
   |none=>match lu Mn ys with
    |some y=>some (false,cast h2 y)
    |none=>none)=some y->a'.defers=[]/\∃v,(Go.results fn a'.tmps).run P w'=.ok v w'/\∃v_1 hw fp,Ending.returned v=Ending.returned v_1/\
   fX (fK A hw w') v_1 (cond y.1 (yw rs y.2) (yw Mn (cast h2.symm y.2))) fp/\fp.Nodup/\(∀b∈fp,w.heap.size<=b/\b<w'.heap.size)/\Fr (λ_=>False) w w':=by
   intro gJ
   obtain⟨g,hg⟩:=hs
   refine⟨hg.defers,?_⟩
   cases Vx:rC bN E [] fn.results.toList with
   |none=>rw[Vx]at gJ;cases gJ
   |some ys=>
    rw[Vx]at gJ
    simp only[aa]at gJ
    have fin:∀(rs':ax (Bool×FT))(y':kG rs'),lu rs' ys=some y'->∃v,(Go.results fn a'.tmps).run P w'=.ok v w'/\∃v_1 hw fp,Ending.returned v=Ending.returned v_1/\
     fX (fK A hw w') v_1 (yw rs' y') fp/\fp.Nodup/\(∀b∈fp,w.heap.size<=b/\b<w'.heap.size)/\Fr (λ_=>False) w w':=by
     intro rs' y' QN
     obtain⟨v,fp,ed,eQ,DA,CG⟩:=LG hS.ty hg Vx QN
     refine⟨v,ed,v,g.hw,fp,rfl,eQ,DA,λb hb=>?_,hg.frame⟩
     obtain⟨own,hl⟩:=CG b hb
     have:=hg.fY b _ hl
     exact⟨this.2.resolve_right (λf=>f),this.1⟩
    cases h1:lu rs ys with
    |some y1=>rw[h1]at gJ;cases gJ;exact fin rs y1 h1
    |none=>
     rw[h1]at gJ
     simp only at gJ
     cases h3:lu Mn ys with
     |none=>rw[h3]at gJ;cases gJ
     |some y1=>
      rw[h3]at gJ
      cases gJ
      simp only[af,cast_cast,cast_eq]
      exact fin Mn y1 h3
  cases e<;>cases ex<;>simp only[FH]at he;exact main hk;cases hk;exact main hk;cases hy
theorem YD {c:RC}(Zb:c.A=A)(QL:c.w=w)(D0:c.hw=hw)(Jq:∀t,t%3=1->c.iss t){all:iG}(Mz:∀t,c.hdr t=(all[t/3]?).getD undef):
 ∀(j:Nat){vs:iG}{cs:ax AC}{fp:fy},bD (fK A hw w) vs cs fp->cs.all (AC.xv true)=true->(∀i v,vs[i]?=some v->all[j+i]?=some v)->bD c vs (FA j cs) fp:=by
 intro j vs
 induction vs generalizing j with
 |nil=>intro cs fp h _ _;cases cs with
  |nil=>exact h
  |cons _ _=>exact h.elim
 |cons v vs ih=>
  intro cs fp h mB ES
  cases cs with
  |nil=>exact h.elim
  |cons x cs=>
   obtain⟨f1,f2,rfl,h1,h2⟩:=h
   simp only[cc,ae]at mB
   have i1:=ih (j+1) h2 mB.2 (λi u hu=>by rw[show j+1+i=j+(i+1) by omega];exact ES (i+1) u (by simpa using hu))
   have KW:=ES 0 v rfl
   rw[dT]at KW
   have Jo:x.jo=true->FA j (x::cs)=x::FA (j+1) cs->bD c (v::vs) (FA j (x::cs)) (f1++f2):=by rintro hf e1;obtain⟨rfl,k⟩:=qG (c':=c) h1 hf;rw[e1];exact⟨[],f2,rfl,k,i1⟩
   cases x with
   |sl fl e xs=>
    cases fl with
    |own t=>
     have gO:fg c.hw c.w (.sl e) [v] xs f1:=by rw[D0,QL];exact h1.1
     refine⟨f1,f2,rfl,⟨gO,λq hq=>?_⟩,i1⟩
     cases hq
     refine⟨Jq _ (by omega),?_⟩
     rw[Mz,show(3*j+1)/3=j by omega,KW];rfl
    |arg k=>
     have hk:k=true:=by simpa[AC.xv]using mB.1
     subst hk
     exact⟨f1,f2,rfl,⟨h1.1,by rw[QL,Zb];exact h1.2⟩,i1⟩
    |loc ep pv=>cases mB.1
    |nest _ _ _ _ _ _=>cases mB.1
    |part _ _ _ _=>cases mB.1
    |fi _ _ _=>cases mB.1
   |int k n=>exact Jo rfl rfl
   |bool b=>exact Jo rfl rfl
   |str s=>exact Jo rfl rfl
   |fn f=>exact Jo rfl rfl
   |jB=>cases mB.1
   |ptr s off=>cases mB.1
   |zX fl e y i off=>cases mB.1
   |un=>cases mB.1
   |bot=>cases mB.1
theorem Qr {fp:fy}{b:Nat}(hA:∀k b' o,A k b' o->b'<w.heap.size/\b'≠b/\b'∉fp){fn:Func}{vs:iG}{arr:Array Value}{T:TypeId}{fr:Nat×Nat}(kb:w.heap[b]?=some (.cells arr T fr))(rz:px arr fr)(eQ:bD (fK A hw w) arr.toList cs fp)(mB:cs.all (AC.xv true)=true)(hn:fp.Nodup)(vd:b∉fp)(gY:∀b'∈fp,b'<w.heap.size)(Fo:hw b=0)(h:pA A w vs xs): ij ⟨A,λb'=>b'=b\/b'∈fp,w,[.pointer (some ⟨b,0,none⟩)],λk b' o hb=>⟨(hA k b' o hb).1,λhm=>hm.elim (hA k b' o hb).2.1 (hA k b' o hb).2.2⟩⟩ (yX fn cs xs) {tmps:=(.pointer (some ⟨b,0,none⟩)::vs).toArray++Array.replicate (fn.ntmps-(Value.pointer (some ⟨b,0,none⟩)::vs).toArray.size) undef,defers:=[]} w:=by
 obtain⟨hl,hi⟩:=EE h;let v0:Value:=.pointer (some ⟨b,0,none⟩);let C:Ctx:=⟨A,λb'=>b'=b\/b'∈fp,w,[v0],λk b' o hb=>⟨(hA k b' o hb).1,λhm=>hm.elim (hA k b' o hb).2.1 (hA k b' o hb).2.2⟩⟩
 let g:Gh:=⟨hw,λ_=>b,λb'=>if b'=b\/b'∈fp then some (.box 0) else none,λt=>(arr.toList[t/3]?).getD undef⟩
 have Eb:=lP kb;have tQ:jb (yX fn cs xs) 0:=⟨FA 0 cs,rfl⟩
 have hle:(fK A (λ_=>0) w).Le (cM C g (yX fn cs xs) w):=⟨rfl,λt ht=>ht.elim,λ_ _ _ _ _ hv=>hv,aS _,λs hs=>hs.elim,λ_ b o u ho _=>absurd ho (Nat.not_lt_zero _)⟩
 have k1:=YD (c:=cM C g (yX fn cs xs) w) (A:=A) rfl rfl rfl (λt ht=> .inl (by omega)) (all:=arr.toList) (λt=>rfl) 0 eQ mB (λi v hv=>by rw[cr];exact hv);refine⟨g,rfl,?_,?_,λi av hs=>?_,λs qg hs=>?_,λk v av hk=>by simp at hk,λb' x hx=>?_,Fr.refl _ _,⟨[],⟨[],[],rfl,⟨rfl,tQ,rfl⟩,rfl⟩,by simp,by simp⟩⟩;simp[yX,start,hl];omega;simp[yX,start];have xi:((.one (.ptr 0 0)::xs)++List.replicate (fn.ntmps-(AV.one (.ptr 0 0)::xs).length) AV.bot)[i]?=some av:=hs;rcases cd i (xs.length+1)with afp|yZ;rw[bB (by simpa using afp)]at xi;cases i with
 |zero=>
  simp at xi;subst xi;refine⟨[],?_,by simp,by simp⟩;have hvv:((v0::vs).toArray++Array.replicate (fn.ntmps-(v0::vs).toArray.size) undef).getD 0 undef=v0:=by simp[dz,Array.getElem?_append]
  show fX _ (((v0::vs).toArray++Array.replicate (fn.ntmps-(v0::vs).toArray.size) undef).getD 0 undef) _ _;rw[hvv];exact mq ⟨rfl,tQ,rfl⟩
 |succ i=>
  obtain⟨v,hv,hr⟩:=hi i av (by simpa using xi);refine⟨[],?_,by simp,by simp⟩;have hvv:((v0::vs).toArray++Array.replicate (fn.ntmps-(v0::vs).toArray.size) undef).getD (i+1) undef=v:=by
   have ajQ:i<vs.length:=by omega
   have PJ:vs[i]=v:=by rw[aq ajQ]at hv;exact du hv
   simp[dz,Array.getElem?_append,ajQ,PJ]
  show fX _ (((v0::vs).toArray++Array.replicate (fn.ntmps-(v0::vs).toArray.size) undef).getD (i+1) undef) _ _;rw[hvv];exact hr.mono hle (by simp)
 rw[bm (by simpa using yZ),dX]at xi;split at xi;cases xi;exact⟨[],fX.bot _ _,by simp,by simp⟩;cases xi;have xi:(some (FA 0 cs)::List.replicate (xs.length+(fn.ntmps-(xs.length+1))) (none:ay (ax AC)))[s]?=some (some qg):=hs;cases s with|zero=>simp at xi;subst xi;refine⟨arr,T,fr,fp,kb,rz,k1,hn,vd,λb' gX=>?_,?_,Fo⟩;show(if b'=b\/b'∈fp then _ else _)=_;rw[aH (.inr gX)];show(if b=b\/b∈fp then _ else _)=_;rw[aH (.inl rfl)]|succ s=>simp only[eM,dX]at xi;split at xi<;>cases xi
 have Ab:(if b'=b\/b'∈fp then some (jM.box 0) else none)=some x:=hx;split at Ab;rename_i hm;rcases hm with rfl|hm;exact⟨Eb,.inr (.inl rfl)⟩;exact⟨gY b' hm,.inr (.inr hm)⟩;cases Ab
theorem pB {E:Env}{rs:ax (Bool×FT)}{t:FT}(hS:Sound P E Γ){fn:Func}(hf:P.funcs[f]?=some fn)(Ax:(fn.name== "runtime.NumGoroutine")=false)(DD:yv E Γ an Λ (fn.body.getD .skip)):gM P f {R:=kG rs×t.ct.D,fn:=XC E Γ an Λ fn rs t,av:=λy=>yw rs y.1,back:=λy=>jm t y.2,bx:=true}:=by
 intro xs y hy;simp only at hy;unfold XC at hy;split at hy;rename_i c cs rest hb;split at hy;rename_i hlen;refine⟨⟨fn,c,hf,hb,Ax⟩,λ_ h=>(by cases h),λh=>(by cases h),λ_ Ng akv he A w b vs arr T fr hw fp hA kb rz eQ hn vd gY Fo fT=>?_,λh=>(by cases h)⟩;injection he with he1 he2;injection he1 with _ he3;subst he2;subst he3;refine calls_of_wp hf hb (wp_mono (Pg hS c (by rw[hb]at DD;exact DD) _ _ _ _ (Qr (fn:=fn) hA kb rz eQ hlen.2 hn vd gY Fo fT) hy) ?_);rintro e a' w' ⟨ex,bN,he,hs,hk⟩
 have main:(aa (aa (rC bN E [(true,0)] fn.results.toList) (lu rs)) λr=>match bN.io,bN.boxes with
  |[.ptr 0 0],some qg::_=>(match JS t (qg.map AC.strip)with|some (x,[])=>some (r,x)|_=>none)
  |_,_=>none)=some y->
  a'.defers=[]/\∃v,(Go.results fn a'.tmps).run P w'=.ok v w'/\∃v_1 hw' fv iU T' Nw jZ,Ending.returned v=Ending.returned v_1/\fX (fK A hw' w') v_1 (yw rs y.1) fv/\w'.heap[b]?=some (.cells iU T' Nw)/\px iU Nw/\
    bD (fK A hw' w') iU.toList (jm t y.2) jZ/\jZ.Nodup/\b∉jZ/\(∀b'∈jZ,b'<w'.heap.size/\(b'∈fp\/w.heap.size<=b'))/\fv.Nodup/\(∀b'∈fv,b'<w'.heap.size/\(b'∈fp\/w.heap.size<=b')/\b'∉jZ/\b'≠b)/\Fr (λb'=>b'=b\/b'∈fp) w w':=by
  intro gJ
  obtain⟨g,hg⟩:=hs
  refine⟨hg.defers,?_⟩
  cases Vx:rC bN E [(true,0)] fn.results.toList with
  |none=>rw[Vx]at gJ;cases gJ
  |some ys=>
   rw[Vx]at gJ
   simp only[aa]at gJ
   cases hrr:lu rs ys with
   |none=>rw[hrr]at gJ;cases gJ
   |some r0=>
    rw[hrr]at gJ
    simp only at gJ
    split at gJ
    ·rename_i qg tl MB jH
     split at gJ
     ·rename_i x hx
      cases gJ
      obtain⟨v,fv,ed,vf,DA,CG⟩:=IZ hS.ty hg Vx hrr
      obtain⟨fpi,hri,_,_⟩:=hg.io
      rw[MB]at hri
      obtain⟨g1,g2,_,aox,_⟩:=hri
      have Hz:b=g.β 0:=by have:=aox.1;simp only[Value.pointer.injEq,bc,Addr.mk.injEq]at this;exact this.1
      obtain⟨iU,T',Nw,jZ,FR,R0,hr',BX,FV,Zi,ajM,_⟩:=hg.boxes 0 qg (by rw[jH];rfl)
      rw[<-Hz]at FR FV ajM
      have mF:=wU hr'
      have Hy:=wO hx
      rw[bS]at Hy
      rw[Hy]at mF
      have hM:∀b',(w.heap.size<=b'\/(b'=b\/b'∈fp))->b'≠b->b'∈fp\/w.heap.size<=b':=by rintro b' (h2|h2|h2) Al;exact .inr h2;exact absurd h2 Al;exact .inl h2
      refine⟨v,ed,v,g.hw,fv,iU,T',Nw,jZ,rfl,vf,FR,R0,mF,BX,FV,λb' gX=>?_,DA,λb' gX=>?_,hg.frame⟩
      ·have:=hg.fY b' _ (Zi b' gX)
       exact⟨this.1,hM b' this.2 (λe=>FV (e▸gX))⟩
      ·obtain⟨own,Jr,NC⟩:=CG b' gX
       have Fm:g.ej b'≠some (.box 0):=by rw[NC];intro e;have e2:xL own=xL (true,0):=du e;exact Jr (by rw[IM e2];simp)
       have Al:b'≠b:=λe=>Fm (by rw[e];exact ajM)
       have:=hg.fY b' _ NC
       exact⟨this.1,hM b' this.2 Al,λhm=>Fm (Zi b' hm),Al⟩
     ·cases gJ
    ·cases gJ
 cases e<;>cases ex<;>simp only[FH]at he;exact main hk;cases hk;exact main hk;cases hy;cases hy
theorem ajv {E:Env}{t:FT}(hS:Sound P E Γ){fn:Func}(hf:P.funcs[f]?=some fn)(Ax:(fn.name== "runtime.NumGoroutine")=false)(DD:yv E Γ an Λ (fn.body.getD .skip)):gM P f {R:=t.ct.D,fn:=Pk E Γ an Λ fn t,av:=λ_=> .bot,back:=λy=>jm t y,pr:=true}:=by
 intro xs y hy;simp only at hy;unfold Pk at hy;cases hb:fn.body with
 |none=>rw[hb]at hy;cases hy
 |some c=>
  rw[hb]at hy;simp only at hy;split at hy;have key:agq P f {R:=t.ct.D,fn:=Pk E Γ an Λ fn t,av:=λ_=> .bot,back:=λy=>jm t y,pr:=true} y xs:=by
   intro A w vs hA fT;refine calls_of_wp hf hb (wp_mono (Pg hS c (by rw[hb]at DD;exact DD) _ _ _ _ (Ih hA fT) hy) ?_);rintro e a' w' ⟨ex,bN,he,hs,hk⟩
   have main:(match fn.results.toList with
    |[.tmp i]=>match bN.get i with
     | .val false [.ptr s 0]=>match (nth bN.boxes s).getD none with
       |some cs=>if cs.all AC.Hk=true then(match JS t (cs.map AC.strip)with|some (x,[])=>some x|_=>none) else none
       |none=>none
     |_=>none
    |_=>none)=some y->a'.defers=[]/\∃v,(Go.results fn a'.tmps).run P w'=.ok v w'/\∃b arr T fr hw,Ending.returned v=.returned (.pointer (some ⟨b,0,none⟩))/\w.heap.size<=b/\w'.heap[b]?=some (.cells arr T fr)/\px arr fr/\bD (fK A hw w') arr.toList (jm t y) []/\Fr (λ_=>False) w w':=by
    intro gJ
    obtain⟨g,hg⟩:=hs
    refine⟨hg.defers,?_⟩
    split at gJ
    ·rename_i i hri
     split at gJ
     ·rename_i s hp
      cases jH:(nth bN.boxes s).getD none with
      |none=>rw[jH]at gJ;cases gJ
      |some cs=>
       rw[jH]at gJ
       simp only at gJ
       split at gJ
       ·rename_i mB
        split at gJ
        ·rename_i x hx
         cases gJ
         have jH:bN.boxes[s]?=some (some cs):=by rw[dK]at jH;cases hq:bN.boxes[s]? with|none=>rw[hq]at jH;simp at jH|some q=>rw[hq]at jH;simp at jH;rw[jH]
         obtain⟨fp0,tG,_,_⟩:=hg.slot i
         rw[hp]at tG
         have tG:=zK tG
         obtain⟨arr,T,fr,fp,kb,rz,eQ,hn,vd,hl,Fl,Fo⟩:=hg.boxes s cs jH
         obtain⟨BU,vs,fj,KU⟩:=arg_val (c:=cM _ g bN w') (c':=cM _ g bN w') rfl rfl (v:=.agg arr.toList.toArray) (x:=.val true cs) ⟨arr.toList,rfl,eQ⟩ mB
         have hvs:arr.toList=vs:=by have fj:Value.agg arr.toList.toArray=.agg vs.toArray:=fj;simp only[Value.agg.injEq]at fj;simpa using congrArg Array.toList fj
         rw[<-hvs]at KU
         have mF:=wU KU
         have Hy:=wO hx
         rw[bS]at Hy
         rw[Hy]at mF
         have ed:(Go.results fn a'.tmps).run P w'=.ok (a'.tmps.getD i undef) w':=by
          have he:fn.results=#[.tmp i]:=by apply eU;exact hri
          have ahF:=BB (P:=P) (Bz a'.tmps) (λ_=>a'.tmps.getD i undef) w' fn.results (λx hx=>by rw[he]at hx;simp at hx;subst hx;rfl)
          have hd:Go.results fn a'.tmps=(do
           let vs<-fn.results.mapM (Bz a'.tmps)
           pure (if h:vs.size=1 then vs[0] else .tuple vs)):=by
           unfold Go.results
           congr 1
          rw[hd];simp only[Sem.run_bind,ahF,Result.andThen_ok,Sem.run_pure];rw[he];simp
         refine⟨_,ed,g.β s,arr,T,fr,g.hw,congrArg Ending.returned tG,?_,kb,rz,mF,hg.frame⟩
         exact(hg.fY _ _ Fl).2.resolve_right (λf=>f)
        ·cases gJ
       ·cases gJ
     ·cases gJ
    ·cases gJ
   cases e<;>cases ex<;>simp only[FH]at he;exact main hk;cases hk;exact main hk
  refine⟨⟨fn,c,hf,hb,Ax⟩,λ_ _ A w vs hA fT=>?_,λh=>(by cases h),λh=>(by cases h),λ_=>key⟩;refine(key A w vs hA fT).mono ?_;rintro e w' ⟨b,arr,T,fr,hw,rfl,_,_,_,_,jq⟩;exact⟨_,hw,[],rfl,fX.bot _ _,List.nodup_nil,(λb hb=>by cases hb),jq⟩;cases hy
end Go.Dn
