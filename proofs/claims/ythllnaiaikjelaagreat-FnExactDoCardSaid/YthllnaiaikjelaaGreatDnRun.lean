import Derived.Test.YthllnaiaikjelaaGreatDnAny
/- The soundness of the abstract semantics: code and functions. -/
namespace Go.Dn
open Go.RowKit
variable {P:Program} {C:Ctx} {st:AS} {a:Act} {w:World} {R:Type} {r:R}
variable {an:An} {gg:Bool} {Γ:Ci} {g:Gh} {Λ:Lm} {f:Nat} {hw:Nat->Nat} {A:Rg} {rs:ar (Bool×FT)} {ys:ar (Bool×ar AC)} {cs:ar AC} {xs:ar AV} {fp:ec} {vs:iU}
def NL:Exit->Ex->Prop
 | .normal,.normal=>True
 | .ret,.ret=>True
 | .exit i,.exit j=>i=j
 |_,_=>False
def aqQ (C:Ctx)(K:Ex->AS->au R)(r:R)(e:Exit)(a:Act)(w:World):Prop:=
 ∃ex st',NL e ex/\pF C st' a w/\K ex st'=some r
theorem ajX {E:Env}(hS:Sound P E Γ){id:Nat}{ops:Array Oper}{d:Bool}(h:pF C st a w){K:AS->au R}(hk:aax E Γ an id ops.toList d st K=some r){Q:Exit->Act->World->Prop}(hq:∀st' a' w',pF C st' a' w'->K st'=some r->Q .normal a' w'):(Code.region id ops d).wp P Q a w:=by
 unfold aax at hk;split at hk;rw[UF]at hk;cases ho:LH E Γ an ops.toList d st some with|none=>rw[ho]at hk;cases hk|some st1=>rw[ho]at hk;exact ahi hS h ho (λa' w' hs=>hq _ _ _ hs hk)
 rename_i s hm;split at hk;rename_i aqi;rw[UF]at hk;cases ho:LH E Γ.calm an ops.toList d st some with|none=>rw[ho]at hk;cases hk|some st1=>rw[ho]at hk;simp only[eU]at hk;cases hb:getBool st1 s with|none=>rw[hb]at hk;cases hk|some b=>rw[hb]at hk;simp only[aa]at hk;have hn:=ajA (an4 Γ) (λo Tl=>aO.1 aqi o Tl) ho;exact ahi hS.calm h ho (λa' w' hs=>hq _ _ _ (hs.weaken hn hb) hk)
 cases hk
def LOk (E:Env)(Γ:Ci)(an:An)(Λ:Lm)(c:Code):Prop:=
 ∃n,∀(R:Type)(st:AS)(K:Ex->AS->au R)(r:R),(Λ (dR c)).go st K=some r->E3 (an.mask (dR c)) (den E Γ an Λ c) n st K=some r
def COk (E:Env)(Γ:Ci)(an:An)(Λ:Lm)(c:Code):Prop:=
 ∀(R:Type)(st:AS)(K:Ex->AS->au R)(r:R),(Λ (Cp c)).go st K=some r->den E Γ an Λ c st (λe st'=>K e (st'.mask (an.mask (Cp c+1))))=some r
def EX (E:Env)(Γ:Ci)(an:An)(Λ:Lm)(c:Code):Prop:=(∀c'∈jd c,LOk E Γ an Λ c')/\∀c'∈lW an.cut c,COk E Γ an Λ c'
theorem ak3 (c:Code):lW [] c=[]:=by induction c with|seq a b iha ihb=>simp[lW,iha,ihb]|cond _ a b iha ihb=>simp[lW,iha,ihb]|block _ c ih=>simpa[lW]using ih|loop c ih=>simpa[lW]using ih|_=>rfl
theorem EX.of {E:Env}{c:Code}(h:∀c'∈jd c,LOk E Γ an Λ c')(hc:an.cut=[]):EX E Γ an Λ c:=⟨h,by rw[hc,ak3];simp⟩
theorem Ux {E:Env}(hS:Sound P E Γ):∀(c:Code)(_:EX E Γ an Λ c)(st:AS)(a:Act)(w:World)(K:Ex->AS->au R),pF C st a w->den E Γ an Λ c st K=some r->c.wp P (aqQ C K r) a w:=by
 intro c;induction c with
 |skip=>intro Lr st a w K h hk;exact wp_skip ⟨.normal,st,bM,h,hk⟩
 |region id ops d=>intro Lr st a w K h hk;exact ajX hS h (by simpa only[den]using hk) (λst' a' w' hs he=>⟨.normal,st',bM,hs,he⟩)
 |seq x y ihx ihy=>
  intro Lr st a w K h hk;have ihx:=ihx ⟨λc hc=>Lr.1 c (by simp[jd,hc]),λc hc=>Lr.2 c (by simp[lW,hc])⟩;have ihy:=ihy ⟨λc hc=>Lr.1 c (by simp[jd,hc]),λc hc=>Lr.2 c (by simp only[lW];cases an.cut.contains (dR y)<;>simp[hc])⟩;simp only[den]at hk;refine wp_seq (wp_mono (ihx st a w _ h hk) ?_);rintro e a' w' ⟨ex,st',he,hs,LY⟩;cases e<;>cases ex<;>simp only[NL]at he;simp only at LY;cases eM:an.cut.contains (dR y)with|false=>rw[eM]at LY;exact ihy st' a' w' K hs LY|true=>rw[eM]at LY;have hc:=Lr.2 y (by simp only[lW,eM];simp) _ _ _ _ LY;refine wp_mono (ihy _ a' w' _ (hs.mask _) hc) ?_;rintro e2 a2 w2 ⟨ex2,st2,he2,hs2,hk2⟩;exact⟨ex2,_,he2,hs2.mask _,hk2⟩
  exact⟨.exit _,st',he,hs,LY⟩;exact⟨.ret,st',bM,hs,LY⟩
 |cond c x y ihx ihy=>
  intro Lr st a w K h hk;have ihx:=ihx ⟨λc hc=>Lr.1 c (by simp[jd,hc]),λc hc=>Lr.2 c (by simp[lW,hc])⟩;have ihy:=ihy ⟨λc hc=>Lr.1 c (by simp[jd,hc]),λc hc=>Lr.2 c (by simp[lW,hc])⟩;simp only[den]at hk;split at hk;rename_i t hc;have hv:a.eval c=.bool t:=by obtain⟨g,hg⟩:=h;have:=hg.rd c;rw[hc]at this;exact BB this
  cases t with|true=>exact wp_cond_true hv (ihx st a w K h hk)|false=>exact wp_cond_false hv (ihy st a w K h hk)
  cases hk
 |block id c ih=>intro Lr st a w K h hk;have ih:=ih ⟨λc hc=>Lr.1 c (by simpa[jd]using hc),λc hc=>Lr.2 c (by simpa[lW]using hc)⟩;simp only[den]at hk;refine wp_block (wp_mono (ih st a w _ h hk) ?_);rintro e a' w' ⟨ex,st',he,hs,LY⟩;cases e<;>cases ex<;>simp only[NL]at he;exact⟨.normal,st',bM,hs,LY⟩;rename_i i j;subst he;simp only[Exit.inBlock];simp only at LY;by_cases hi:i=id;subst hi;rw[aM rfl];simp only[gz,cd]at LY;exact⟨.normal,st',bM,hs,LY⟩;rw[aK hi];rw[aK (by simpa using hi)]at LY;exact⟨.exit i,st',rfl,hs,LY⟩;exact⟨.ret,st',bM,hs,LY⟩
 |loop c ih=>
  intro Lr st a w K h hk;have ih:=ih ⟨λc hc=>Lr.1 c (by simp[jd,hc]),λc hc=>Lr.2 c (by simpa[lW]using hc)⟩;obtain⟨n,hn⟩:=Lr.1 c (by simp[jd]);simp only[den]at hk;intro b k cs
  have key:∀m st a w,pF C st a w->E3 (an.mask (dR c)) (den E Γ an Λ c) m st K=some r->
   ∃e a' w',aqQ C K r e a' w'/\Arrives P (lone (b.at a (.code c:: .inLoop c::k)) cs w) b k cs e a' w':=by
   intro m
   induction m with
   |zero=>intro st a w _ hk;cases hk
   |succ m ihm=>
    intro st a w h hk
    simp only[E3]at hk
    obtain⟨e,aeA,agV,⟨ex,st',he,hs,LY⟩,Ti⟩:=ih st a w _ h hk b (.inLoop c::k) cs
    cases e<;>cases ex<;>simp only[NL]at he
    ·obtain⟨apS,apL,aqH,alX,ZO⟩:=ihm _ aeA agV (hs.mask _) LY
     exact⟨apS,apL,aqH,alX,.of_steps (Steps.trans Ti (.one step_inLoop)) ZO⟩
    ·exact⟨.exit _,aeA,agV,⟨.exit _,_,he,hs.mask _,LY⟩,.pass (x:=.inLoop c) rfl (λ_ _=> .inl (by simp)) Ti⟩
    ·exact⟨.ret,aeA,agV,⟨.ret,_,bM,hs.mask _,LY⟩,.pass (x:=.inLoop c) rfl (λ_ _=> .inl (by simp)) Ti⟩
  cases hp:an.peel.contains (dR c)with
  |false=>rw[hp]at hk;obtain⟨e,a',w',hq,Ti⟩:=key n _ a w (h.mask _) (hn _ _ _ _ hk);exact⟨e,a',w',hq,.of_steps (.one step_loop) Ti⟩
  |true=>rw[hp]at hk;simp only[af]at hk;obtain⟨e,aeA,agV,⟨ex,st',he,hs,LY⟩,Ti⟩:=ih _ a w _ (h.mask _) hk b (.inLoop c::k) cs;cases e<;>cases ex<;>simp only[NL]at he;obtain⟨apS,apL,aqH,alX,ZO⟩:=key n _ aeA agV (hs.mask _) (hn _ _ _ _ LY);exact⟨apS,apL,aqH,alX,.of_steps (Steps.trans (.one step_loop) (Steps.trans Ti (.one step_inLoop))) ZO⟩;exact⟨.exit _,aeA,agV,⟨.exit _,_,he,hs.mask _,LY⟩,.of_steps (.one step_loop) (.pass (x:=.inLoop c) rfl (λ_ _=> .inl (by simp)) Ti)⟩;exact⟨.ret,aeA,agV,⟨.ret,_,bM,hs.mask _,LY⟩,.of_steps (.one step_loop) (.pass (x:=.inLoop c) rfl (λ_ _=> .inl (by simp)) Ti)⟩
 |exit id=>intro Lr st a w K h hk;exact wp_exit ⟨.exit id,st,rfl,h,hk⟩
 |ret=>intro Lr st a w K h hk;exact wp_ret ⟨.ret,st,bM,h,hk⟩
 |_=>intro Lr st a w K h hk;simp[den]at hk
theorem Jr:∀{vs:iU}{xs:ar AV},oZ A w vs xs->vs.length=xs.length/\∀(i:Nat)(x:AV),xs[i]?=some x->∃v,vs[i]?=some v/\gi (fy A (λ_=>0) w) v x []
 |[],[],_=>⟨rfl,by simp⟩
 |v::vs,x::xs,h=>by obtain⟨hl,hi⟩:=Jr h.2;refine⟨by simp[hl],λi y hy=>?_⟩;cases i with|zero=>simp at hy;subst hy;exact⟨v,rfl,h.1⟩|succ i=>exact hi i y (by simpa using hy)
 |[],_::_,h=>h.elim
 |_::_,[],h=>h.elim
theorem Sb (hA:∀k b o,A k b o->b<w.heap.size){fn:Func}(h:oZ A w vs xs): pF ⟨A,λ_=>False,w,[],λk b o hb=>⟨hA k b o hb,λf=>f⟩⟩ (qT fn xs) {tmps:=vs.toArray++Array.replicate (fn.ntmps-vs.toArray.size) undef,defers:=[]} w:=by
 obtain⟨hl,hi⟩:=Jr h;let C:Ctx:=⟨A,λ_=>False,w,[],λk b o hb=>⟨hA k b o hb,λf=>f⟩⟩
 let g:Gh:=⟨λ_=>0,λ_=>0,λ_=>none,λ_=>undef⟩
 have hle:(fy A (λ_=>0) w).Le (cO C g (qT fn xs) w):=⟨rfl,λt ht=>ht.elim,λ_ _ _ _ _ hv=>hv,ba _,λs hs=>hs.elim,λ_ b o u ho hu=>⟨ho,hu⟩⟩
 refine⟨g,rfl,?_,?_,λi av hs=>?_,λs cs hs=>?_,λk v av hk=>by simp at hk,λb x hx=>(by cases hx),Fr.refl _ _,⟨[],rfl,by simp,by simp⟩⟩;simp[qT,hl];simp[qT];have yk:(xs++List.replicate (fn.ntmps-xs.length) AV.bot)[i]?=some av:=hs;rcases bS i xs.length with iG|Fe;rw[bF iG]at yk;obtain⟨v,hv,hr⟩:=hi i av yk;refine⟨[],?_,by simp,by simp⟩;have hvv:(vs.toArray++Array.replicate (fn.ntmps-vs.toArray.size) undef).getD i undef=v:=by
  have aiN:i<vs.length:=by omega
  have Z1:vs[i]=v:=by rw[al aiN]at hv;exact cX hv
  simp[cY,Array.getElem?_append,aiN,Z1]
 show gi _ ((vs.toArray++Array.replicate (fn.ntmps-vs.toArray.size) undef).getD i undef) _ _;rw[hvv];exact hr.mono hle (by simp);rw[bw Fe,dC]at yk;split at yk;cases yk;exact⟨[],gi.bot _ _,by simp,by simp⟩;cases yk;have yk:(List.replicate (xs.length+(fn.ntmps-xs.length)) (none:au (ar AC)))[s]?=some (some cs):=hs;rw[dC]at yk;split at yk<;>cases yk
theorem agG {v:Value}{x:AC}(h:iA (cO C g st w) v x fp):iA (fy C.A g.hw w) v x.strip fp:=by
 cases x with
 |int k n=>exact h
 |bool b=>exact h
 |str s=>exact h
 |kL=>exact h
 |fn f=>exact h
 |un=>exact h
 |bot=>exact h
 |ptr s off=>exact h.2.2
 |Hy fl e y i off=>cases fl with|own t=>exact h.elim|nest _ _ _ _ _ _=>exact h.elim|part _ _ _ _=>exact h.elim|fK _ _ _=>exact h.elim|arg _=>exact h.1|loc ep pv=>exact h.1
 |sl fl e xs=>
  cases fl with
  |nest _ _ _ _ _ _=>exact h.1
  |part _ _ _ _=>exact h.1
  |fK _ _ _=>obtain⟨_,⟨k,hk,h3⟩,_⟩:=h;exact⟨λq hq=>(by cases hq),⟨k,hk,h3⟩,by simp⟩
  |own t=>exact⟨h.1,by simp⟩
  |arg _=>exact h
  |loc ep pv=>exact h.1
theorem Er:∀{vs:iU}{xs:ar AC}{fp:ec},bD (cO C g st w) vs xs fp->bD (fy C.A g.hw w) vs (xs.map AC.strip) fp
 |[],[],_,h=>h
 |_::_,_::_,_,h=>by obtain⟨f1,f2,rfl,h1,h2⟩:=h;exact⟨f1,f2,rfl,agG h1,Er h2⟩
 |[],_::_,_,h=>h.elim
 |_::_,[],_,h=>h.elim
def Kk (tmps:Array Value):ResultVar->Sem Value
 | .tmp t=>pure (tmps.getD t undef)
 | .cell a t=>do loadVar t (<-asAddr (tmps.getD a undef))
def Fz:Bool×Nat->kb
 |(false,t)=> .slot t
 |(true,s)=> .box s
theorem SK {x y:Bool×Nat}(h:Fz x=Fz y):x=y:=by rcases x with⟨_|_,a⟩<;>rcases y with⟨_|_,b⟩<;>simp[Fz]at h<;>rw[h]
theorem aoQ {E:Env}(hE:kA P E.ty)(h:dM C g st a w []){rv:ResultVar}{own:Bool×Nat}(hr:VR st E rv=some (own,gg,cs)): ∃v vs fp,(Kk a.tmps rv).run P w=.ok v w/\Cut gg v vs/\bD (fy C.A g.hw w) vs cs fp/\fp.Nodup/\∀b∈fp,g.eo b=some (Fz own):=by
 cases rv with
 |tmp t=>simp only[VR]at hr;split at hr;rename_i g' oY oV;cases hr;obtain⟨fp,dY,hn,hl⟩:=h.slot t;rw[oV]at dY;obtain⟨vs,eM,dY⟩:=dY;exact⟨_,vs,fp,rfl,eM,Er dY,hn,hl⟩;cases hr
 |cell t T=>
  simp only[VR]at hr;split at hr;rename_i sh s off hT hp;cases kR:(nth st.boxes s).getD none with
  |none=>rw[kR]at hr;cases hr
  |some oY=>
   rw[kR]at hr;simp only[eU]at hr;split at hr;rename_i iy;cases hr;have kR:st.boxes[s]?=some (some oY):=by rw[dV]at kR;cases hq:st.boxes[s]? with|none=>rw[hq]at kR;simp at kR|some q=>rw[hq]at kR;simp at kR;rw[kR]
   obtain⟨fp0,zQ,_,_⟩:=h.slot t;rw[hp]at zQ;have zQ:=H2 zQ;obtain⟨arr,T',fr,fp,kG,uG,dY,hn,xe,hl,ND,NU⟩:=h.boxes s oY kR;have hlen:=dY.length;obtain⟨v,ej,eM⟩:=Ef (hE T sh hT) (g.β s) off ((arr.toList.drop off).take sh.ct.size) (by simp at hlen⊢;omega) (Xz kG off sh.ct.size);obtain⟨f1,f2,f3,rfl,r1,r2,r3⟩:=dY.mid off sh.ct.size;have Hq:=(aG.1 (aG.1 hn).1).2.1;refine⟨v,_,f2,?_,eM,Er r2,Hq,λb hb=>hl b (by simp[hb])⟩;simp only[Kk,zQ,asAddr,Sem.run_bind,Sem.run_pure,Result.andThen_ok];exact ej;cases hr
  cases hr
theorem ahN {E:Env}(hE:kA P E.ty)(h:dM C g st a w [])(gf:ResultVar->Value):∀(rs:ar ResultVar)(had:ar (Bool×Nat))(ys:ar (Bool×ar AC)),rG st E had rs=some ys->
 (∀rv v,(Kk a.tmps rv).run P w=.ok v w->gf rv=v)->
 (∀rv∈rs,(Kk a.tmps rv).run P w=.ok (gf rv) w)/\∃fp,gi.uw (fy C.A g.hw w) (rs.map gf) ys fp/\fp.Nodup/\∀b∈fp,∃own,own∉had/\g.eo b=some (Fz own)
 |[],had,ys,hr,hgf=>by cases hr;exact⟨by simp,[],rfl,by simp,by simp⟩
 |rv::rs,had,ys,hr,hgf=>by
  simp only[rG]at hr;cases h1:VR st E rv with
  |none=>rw[h1]at hr;cases hr
  |some x=>
   obtain⟨own,gg,cs⟩:=x;rw[h1]at hr;simp only[eU]at hr;split at hr;cases hr;rename_i Tk;have Tk:own∉had:=by simpa using Tk
   cases h2:rG st E (own::had) rs with|none=>rw[h2]at hr;cases hr|some xs=>rw[h2]at hr;simp only[eU,bf]at hr;subst hr;obtain⟨v,vs,kS,ej,eM,dY,Hq,hl1⟩:=aoQ hE h h1;obtain⟨al2,fp2,U9,C1,EH⟩:=ahN hE h gf rs (own::had) xs h2 hgf;have hv:=hgf rv v ej;refine⟨λrv' hm=>?_,kS++fp2,⟨kS,fp2,rfl,⟨vs,by rw[hv];exact eM,dY⟩,U9⟩,?_,λb hb=>?_⟩;rcases cp.1 hm with rfl|hm;rw[hv];exact ej;exact al2 rv' hm;refine aG.2 ⟨Hq,C1,λb hb b' ib he=>?_⟩;subst he;obtain⟨arG,M4,Lq⟩:=EH b ib;rw[hl1 b hb]at Lq;have:=SK (cX Lq);subst this;exact M4 (by simp);rcases aA.1 hb with hb|hb;exact⟨own,Tk,hl1 b hb⟩;obtain⟨arG,M4,Lq⟩:=EH b hb;exact⟨arG,λhm=>M4 (by simp[hm]),Lq⟩
theorem FK.aiE {fl:FK}{f:uv}(h:fl.fits f=true):f=fl.flag:=by
 unfold FK.fits at h;split at h;rename_i t t';have:t=t':=by simpa using h
 subst this;rfl;rename_i k;have:k=false:=by simpa using h
 subst this;rfl;rename_i k;have:k=true:=h;subst this;rfl;rfl;rename_i j t j' t';simp only[ah,bn]at h;obtain⟨rfl,rfl⟩:=h;rfl;cases h
theorem Eg:∀{t:FT}{cs r:ar AC}{x:t.ct.D},TQ t cs=some (x,r)->cs=jT t x++r:=by
 intro t;induction t with
 |int k=>intro cs r x h;cases cs with|nil=>simp[TQ]at h|cons y ys=>cases y<;>simp[TQ]at h;obtain⟨rfl,rfl,rfl⟩:=h;rfl
 |bool=>intro cs r x h;cases cs with|nil=>simp[TQ]at h|cons y ys=>cases y<;>simp[TQ]at h;obtain⟨rfl,rfl⟩:=h;rfl
 |str=>intro cs r x h;cases cs with|nil=>simp[TQ]at h|cons y ys=>cases y<;>simp[TQ]at h;obtain⟨rfl,rfl⟩:=h;rfl
 |sl fl e=>
  intro cs r x h;cases cs with
  |nil=>simp[TQ]at h
  |cons y ys=>
   cases y with
   |sl fl' e' xs=>
    simp only[TQ]at h;split at h
    ·rename_i he;subst he;cases hf:fl.fits fl' with
     |false=>rw[hf]at h;cases h
     |true=>
      rw[hf]at h;cases h;rw[FK.aiE hf];have hn:fl.isNil=false:=by cases fl<;>first|rfl|(unfold FK.fits at hf;cases hf)
      simp only[jT,hn,ae];rfl
    cases h
   |kL=>simp only[TQ]at h;cases hn:fl.isNil with|false=>rw[hn]at h;cases h|true=>rw[hn]at h;cases h;simp only[jT,hn,af];rfl
   |_=>simp[TQ]at h
 |pair a b iha ihb=>intro cs r x h;simp only[TQ]at h;obtain⟨⟨x1,r1⟩,h1,h⟩:=aX.1 h;obtain⟨⟨x2,r2⟩,h2,h⟩:=aX.1 h;cases h;have h3:r1=jT b x2++r2:=ihb h2;rw[iha h1,h3];simp[jT]
theorem SJ:∀(rs:ar (Bool×FT))(ys:ar (Bool×ar AC))(y:jf rs),lz rs ys=some y->ys=aqy rs y
 |[],[],y,_=>rfl
 |[],_::_,y,h=>by simp[lz]at h
 |[(g,t)],ys,y,h=>by
  cases ys with
  |nil=>simp[lz]at h
  |cons p ys=>
   cases ys with
   |cons _ _=>simp[lz]at h
   |nil=>
    obtain⟨g',cs⟩:=p;simp only[lz]at h;cases hg:g==g' with
    |false=>rw[hg]at h;cases h
    |true=>
     rw[hg]at h;have:g=g':=by simpa using hg
     subst this;simp only[af]at h;split at h;rename_i x hx;cases h;have:=Eg hx;rw[bC]at this;rw[this];rfl;cases h
 |(g,t)::p::r,ys,y,h=>by
  cases ys with
  |nil=>simp[lz]at h
  |cons q ys=>
   obtain⟨g',cs⟩:=q;simp only[lz]at h;cases hg:g==g' with
   |false=>rw[hg]at h;cases h
   |true=>
    rw[hg]at h;have:g=g':=by simpa using hg
    subst this;simp only[af]at h;split at h;rename_i x hx;obtain⟨z,hz,h⟩:=aX.1 h;cases h;have h1:=Eg hx;rw[bC]at h1;rw[h1,SJ (p::r) ys z hz];rfl;cases h
theorem SS {E:Env}(hE:kA P E.ty){fn:Func}{st':AS}{a':Act}{w':World}(hg:dM C g st' a' w' []){had:ar (Bool×Nat)}(ZY:rG st' E had fn.results.toList=some ys){y:jf rs}(fL:lz rs ys=some y): ∃v fp,(Go.results fn a'.tmps).run P w'=.ok v w'/\gi (fy C.A g.hw w') v (Cm rs y) fp/\fp.Nodup/\∀b∈fp,∃own,own∉had/\g.eo b=some (Fz own):=by
 have hys:=SJ rs ys y fL;let gf:ResultVar->Value:=λrv=>match (Kk a'.tmps rv).run P w' with| .ok v _=>v|_=>undef
 obtain⟨al2,fp,dY,JK,Lq⟩:=ahN hE hg gf fn.results.toList had ys ZY (λrv v hv=>by simp only[gf,hv]);have ap7:=Km (P:=P) (Kk a'.tmps) gf w' fn.results (λx hx=>al2 x (by simpa using hx));have ej:(Go.results fn a'.tmps).run P w'=.ok (if h:(fn.results.map gf).size=1 then(fn.results.map gf)[0] else .tuple (fn.results.map gf)) w':=by
  have:Go.results fn a'.tmps=(do
   let vs<-fn.results.mapM (Kk a'.tmps)
   pure (if h:vs.size=1 then vs[0] else .tuple vs)):=by
   unfold Go.results
   congr 1
  rw[this];simp only[Sem.run_bind,ap7,Result.andThen_ok,Sem.run_pure]
 refine⟨_,fp,ej,?_,JK,Lq⟩;have ab3:(fn.results.map gf).toList=fn.results.toList.map gf:=by simp
 unfold Cm;rw[<-hys];cases ys with
 |nil=>
  have ZW:fn.results.toList.map gf=[]:=by cases hm:fn.results.toList.map gf with|nil=>rfl|cons u us=>rw[hm]at dY;exact dY.elim
  have xp:¬(fn.results.map gf).size=1:=by rw[<-Array.length_toList,ab3,ZW];simp
  rw[dif_neg xp];exact⟨_,by rw[<-ab3],dY⟩
 |cons y1 ys=>
  cases ys with
  |nil=>
   obtain⟨gg,cs⟩:=y1;cases hm:fn.results.toList.map gf with
   |nil=>rw[hm]at dY;exact dY.elim
   |cons u us=>
    rw[hm]at dY;obtain⟨f1,f2,rfl,afd,kH⟩:=dY;cases us with
    |cons _ _=>exact kH.elim
    |nil=>
     cases kH;have Ti:fn.results.map gf=#[u]:=by apply eO;rw[ab3,hm]
     have:(if h:(fn.results.map gf).size=1 then(fn.results.map gf)[0] else .tuple (fn.results.map gf))=u:=by rw[dif_pos (by rw[Ti];rfl)];simp only[Ti];rfl
     rw[this,bC];exact afd
  |cons y2 ys=>
   have xp:¬(fn.results.map gf).size=1:=by rw[<-Array.length_toList,ab3];cases hm:fn.results.toList.map gf with|nil=>simp|cons u us=>rw[hm]at dY;obtain⟨f1,f2,rfl,afd,kH⟩:=dY;cases us with|nil=>exact kH.elim|cons u2 us=>simp
   rw[dif_neg xp];exact⟨_,by rw[<-ab3],dY⟩
theorem OZ {E:Env}(hE:kA P E.ty){fn:Func}{st':AS}{a':Act}{w':World}(hg:dM C g st' a' w' [])(ZY:rG st' E [] fn.results.toList=some ys){y:jf rs}(fL:lz rs ys=some y): ∃v fp,(Go.results fn a'.tmps).run P w'=.ok v w'/\gi (fy C.A g.hw w') v (Cm rs y) fp/\fp.Nodup/\∀b∈fp,∃own,g.eo b=some (Fz own):=by obtain⟨v,fp,h1,h2,h3,h4⟩:=SS hE hg ZY fL;exact⟨v,fp,h1,h2,h3,λb hb=>(h4 b hb).imp λ_ h=>h.2⟩
theorem aiH {E:Env}{rs:ar (Bool×FT)}(hS:Sound P E Γ){fn:Func}(hf:P.funcs[f]?=some fn)(Af:(fn.name== "runtime.NumGoroutine")=false)(Lr:EX E Γ an Λ (fn.body.getD .skip)):mz P f {R:=jf rs,fn:=LI E Γ an Λ fn rs,av:=Cm rs}:=by
 intro xs y hy;simp only at hy;unfold LI at hy;cases hb:fn.body with
 |none=>rw[hb]at hy;cases hy
 |some c=>
  rw[hb]at hy;simp only at hy;split at hy;refine⟨⟨fn,c,hf,hb,Af⟩,λ_ _ A w vs hA fJ=>?_,λh=>(by cases h),λh=>(by cases h),λh=>(by cases h)⟩;refine calls_of_wp hf hb (wp_mono (Ux hS c (by rw[hb]at Lr;exact Lr) _ _ _ _ (Sb hA fJ) hy) ?_);rintro e a' w' ⟨ex,st',he,hs,hk⟩;have main:aa (rG st' E [] fn.results.toList) (lz rs)=some y->a'.defers=[]/\∃v,(Go.results fn a'.tmps).run P w'=.ok v w'/\∃v_1 hw fp,Ending.returned v=Ending.returned v_1/\gi (fy A hw w') v_1 (Cm rs y) fp/\fp.Nodup/\(∀b∈fp,w.heap.size<=b/\b<w'.heap.size)/\Fr (λ_=>False) w w':=by intro fL;obtain⟨g,hg⟩:=hs;refine⟨hg.defers,?_⟩;cases ZY:rG st' E [] fn.results.toList with|none=>rw[ZY]at fL;cases fL|some ys=>rw[ZY]at fL;obtain⟨v,fp,ej,dY,JK,Lq⟩:=OZ hS.ty hg ZY fL;refine⟨v,ej,v,g.hw,fp,rfl,dY,JK,λb hb=>?_,hg.frame⟩;obtain⟨own,hl⟩:=Lq b hb;have:=hg.fV b _ hl;exact⟨this.2.resolve_right (λf=>f),this.1⟩
  cases e<;>cases ex<;>simp only[NL]at he;exact main hk;cases hk;exact main hk;cases hy
theorem alv {E:Env}{Tt:ar (Bool×FT)}(h2:jf Tt=jf rs)(hS:Sound P E Γ){fn:Func}(hf:P.funcs[f]?=some fn)(Af:(fn.name== "runtime.NumGoroutine")=false)(Lr:EX E Γ an Λ (fn.body.getD .skip)):mz P f {R:=Bool×jf rs,fn:=evalAlt E Γ an Λ fn rs Tt h2,av:=λy=>Cm rs y.2,sel:=λy=>y.1,alt:=λy=>Cm Tt (cast h2.symm y.2)}:=by
 intro xs y hy;simp only at hy;unfold evalAlt at hy;cases hb:fn.body with
 |none=>rw[hb]at hy;cases hy
 |some c=>
  rw[hb]at hy;simp only at hy;split at hy;refine⟨⟨fn,c,hf,hb,Af⟩,λ_ _ A w vs hA fJ=>?_,λh=>(by cases h),λh=>(by cases h),λh=>(by cases h)⟩;refine calls_of_wp hf hb (wp_mono (Ux hS c (by rw[hb]at Lr;exact Lr) _ _ _ _ (Sb hA fJ) hy) ?_);rintro e a' w' ⟨ex,st',he,hs,hk⟩
  have main:(aa (rG st' E [] fn.results.toList) λys=>match lz rs ys with
   |some y=>some (true,y)
   |none=>match lz Tt ys with
    |some y=>some (false,cast h2 y)
    |none=>none)=some y->a'.defers=[]/\∃v,(Go.results fn a'.tmps).run P w'=.ok v w'/\∃v_1 hw fp,Ending.returned v=Ending.returned v_1/\
   gi (fy A hw w') v_1 (cond y.1 (Cm rs y.2) (Cm Tt (cast h2.symm y.2))) fp/\fp.Nodup/\(∀b∈fp,w.heap.size<=b/\b<w'.heap.size)/\Fr (λ_=>False) w w':=by
   intro fL
   obtain⟨g,hg⟩:=hs
   refine⟨hg.defers,?_⟩
   cases ZY:rG st' E [] fn.results.toList with
   |none=>rw[ZY]at fL;cases fL
   |some ys=>
    rw[ZY]at fL
    simp only[aa]at fL
    have fin:∀(rs':ar (Bool×FT))(y':jf rs'),lz rs' ys=some y'->∃v,(Go.results fn a'.tmps).run P w'=.ok v w'/\∃v_1 hw fp,Ending.returned v=Ending.returned v_1/\
     gi (fy A hw w') v_1 (Cm rs' y') fp/\fp.Nodup/\(∀b∈fp,w.heap.size<=b/\b<w'.heap.size)/\Fr (λ_=>False) w w':=by
     intro rs' y' X5
     obtain⟨v,fp,ej,dY,JK,Lq⟩:=OZ hS.ty hg ZY X5
     refine⟨v,ej,v,g.hw,fp,rfl,dY,JK,λb hb=>?_,hg.frame⟩
     obtain⟨own,hl⟩:=Lq b hb
     have:=hg.fV b _ hl
     exact⟨this.2.resolve_right (λf=>f),this.1⟩
    cases h1:lz rs ys with
    |some y1=>rw[h1]at fL;cases fL;exact fin rs y1 h1
    |none=>
     rw[h1]at fL
     simp only at fL
     cases h3:lz Tt ys with
     |none=>rw[h3]at fL;cases fL
     |some y1=>
      rw[h3]at fL
      cases fL
      simp only[ae,cast_cast,cast_eq]
      exact fin Tt y1 h3
  cases e<;>cases ex<;>simp only[NL]at he;exact main hk;cases hk;exact main hk;cases hy
def alJ (vs:iU)(t:Nat):Value:=(vs[t/3-4096*1000003]?).getD undef
theorem amr {c:RC}(Tj:c.w=w)(Gv:c.hw=hw)(Lp:∀t,t%3=0->c.iss t){all:iU}(PI:∀t,c.hdr t=alJ all t):
 ∀(j:Nat){vs:iU}{cs:ar AC}{fp:ec},bD (fy A hw w) vs cs fp->cs.all AC.afE=true->(∀i v,vs[i]?=some v->all[j+i]?=some v)->
  bD c vs (afD j cs) fp/\bD c vs (GI j cs) []:=by
 intro j vs
 induction vs generalizing j with
 |nil=>intro cs fp h _ _;cases cs with
  |nil=>exact⟨h,rfl⟩
  |cons _ _=>exact h.elim
 |cons v vs ih=>
  intro cs fp h kX Ln
  cases cs with
  |nil=>exact h.elim
  |cons x cs=>
   obtain⟨f1,f2,rfl,h1,h2⟩:=h
   simp only[bV,ah]at kX
   obtain⟨i1,i2⟩:=ih (j+1) h2 kX.2 (λi u hu=>by rw[show j+1+i=j+(i+1) by omega];exact Ln (i+1) u (by simpa using hu))
   have Sz:=Ln 0 v rfl
   rw[dW]at Sz
   have nh:c.iss (Fs j)/\v=c.hdr (Fs j):=by refine⟨Lp _ (by unfold Fs;omega),?_⟩;rw[PI,alJ,show Fs j/3-4096*1000003=j by unfold Fs;omega,Sz];rfl
   have flt:x.gZ=true->afD j (x::cs)=x::afD (j+1) cs/\GI j (x::cs)=x::GI (j+1) cs->bD c (v::vs) (afD j (x::cs)) (f1++f2)/\bD c (v::vs) (GI j (x::cs)) []:=by rintro hf ⟨e1,e2⟩;obtain⟨rfl,k⟩:=nv (c':=c) h1 hf;rw[e1,e2];exact⟨⟨[],f2,rfl,k,i1⟩,⟨[],[],rfl,k,i2⟩⟩
   cases x with
   |sl fl e xs=>
    cases fl with
    |own t=>
     have fA:eS c.hw c.w (.sl e) [v] xs f1:=by rw[Gv,Tj];exact h1.1
     refine⟨⟨f1,f2,rfl,⟨fA,λq hq=>by cases hq;exact nh⟩,i1⟩,⟨[],[],rfl,⟨rfl,eT _,Qk fA,λ_=>eS.rep (λb o ho=> .inr ho) fA,λr t hp=>?_⟩,i2⟩⟩
     cases hp
     exact⟨nh.1,nh.2⟩
    |arg _=>cases kX.1
    |loc ep pv=>cases kX.1
    |nest _ _ _ _ _ _=>cases kX.1
    |part _ _ _ _=>cases kX.1
    |fK _ _ _=>cases kX.1
   |int k n=>exact flt rfl ⟨rfl,rfl⟩
   |bool b=>exact flt rfl ⟨rfl,rfl⟩
   |str s=>exact flt rfl ⟨rfl,rfl⟩
   |fn f=>exact flt rfl ⟨rfl,rfl⟩
   |kL=>cases kX.1
   |ptr s off=>cases kX.1
   |Hy fl e y i off=>cases kX.1
   |un=>cases kX.1
   |bot=>cases kX.1
theorem adU (hA:∀k b o,A k b o->b<w.heap.size/\b∉fp){fn:Func}{v0:Value}{us:iU}(eM:Cut gg v0 us)(dY:bD (fy A hw w) us cs fp)(kX:cs.all AC.afE=true)(hn:fp.Nodup)(iG:∀b∈fp,b<w.heap.size)(h:oZ A w vs xs): pF ⟨A,λb=>b∈fp,w,us,λk b o hb=>hA k b o hb⟩ (Nu fn gg cs xs) {tmps:=(v0::vs).toArray++Array.replicate (fn.ntmps-(v0::vs).toArray.size) undef,defers:=[]} w:=by
 obtain⟨hl,hi⟩:=Jr h;let C:Ctx:=⟨A,λb=>b∈fp,w,us,λk b o hb=>hA k b o hb⟩
 let g:Gh:=⟨hw,λ_=>0,λb=>if b∈fp then some .io else none,alJ us⟩
 have hle:(fy A (λ_=>0) w).Le (cO C g (Nu fn gg cs xs) w):=⟨rfl,λt ht=>ht.elim,λ_ _ _ _ _ hv=>hv,ba _,λs hs=>hs.elim,λ_ b o u ho _=>absurd ho (Nat.not_lt_zero _)⟩
 obtain⟨k1,k2⟩:=amr (c:=cO C g (Nu fn gg cs xs) w) (A:=A) rfl rfl (λt ht=> .inl (by omega)) (all:=us) (λt=>rfl) 0 dY kX (λi v hv=>by rw[cr];exact hv);refine⟨g,rfl,?_,?_,λi av hs=>?_,λs oY hs=>?_,λk v av hk=>by simp at hk,λb x hx=>?_,Fr.refl _ _,⟨fp,k1,hn,λb hb=>by show(if b∈fp then _ else _)=_;rw[aM hb]⟩⟩;simp[Nu,qT,hl];omega;·simp[Nu,qT];try omega
 have yk:((.val gg (GI 0 cs)::xs)++List.replicate (fn.ntmps-(.val gg (GI 0 cs)::xs).length) AV.bot)[i]?=some av:=hs;rcases bS i (xs.length+1)with aiN|Fe;rw[bF (by simpa using aiN)]at yk;cases i with
 |zero=>
  simp at yk;subst yk;refine⟨[],?_,by simp,by simp⟩;have hvv:((v0::vs).toArray++Array.replicate (fn.ntmps-(v0::vs).toArray.size) undef).getD 0 undef=v0:=by simp[cY,Array.getElem?_append]
  show gi _ (((v0::vs).toArray++Array.replicate (fn.ntmps-(v0::vs).toArray.size) undef).getD 0 undef) _ _;rw[hvv];exact⟨us,eM,k2⟩
 |succ i=>
  obtain⟨v,hv,hr⟩:=hi i av (by simpa using yk);refine⟨[],?_,by simp,by simp⟩;have hvv:((v0::vs).toArray++Array.replicate (fn.ntmps-(v0::vs).toArray.size) undef).getD (i+1) undef=v:=by
   have alR:i<vs.length:=by omega
   have Z1:vs[i]=v:=by rw[al alR]at hv;exact cX hv
   simp[cY,Array.getElem?_append,alR,Z1]
  show gi _ (((v0::vs).toArray++Array.replicate (fn.ntmps-(v0::vs).toArray.size) undef).getD (i+1) undef) _ _;rw[hvv];exact hr.mono hle (by simp)
 rw[bw (by simpa using Fe),dC]at yk;split at yk;cases yk;exact⟨[],gi.bot _ _,by simp,by simp⟩;cases yk;have yk:(List.replicate ((AV.val gg (GI 0 cs)::xs).length+(fn.ntmps-(AV.val gg (GI 0 cs)::xs).length)) (none:au (ar AC)))[s]?=some (some oY):=hs;rw[dC]at yk;split at yk<;>cases yk;have E2:(if b∈fp then some kb.io else none)=some x:=hx;split at E2;rename_i hm;exact⟨iG b hm,.inr hm⟩;cases E2
theorem azn {E:Env}{rs:ar (Bool×FT)}{t:CT}(hS:Sound P E Γ){fn:Func}(hf:P.funcs[f]?=some fn)(Af:(fn.name== "runtime.NumGoroutine")=false)(Lr:EX E Γ an Λ (fn.body.getD .skip)):mz P f {R:=jf rs×t.D,fn:=ae2 E Γ an Λ fn rs t,av:=λy=>Cm rs y.1,io:=true,back:=λy=>cellsOf t (.own none) y.2}:=by
 intro xs y hy;simp only at hy;unfold ae2 at hy;split at hy;rename_i c gg cs rest hb;split at hy;rename_i hlen;refine⟨⟨fn,c,hf,hb,Af⟩,λh=>(by cases h),λ_ g0 WG am5 he A w v0 vs hw fp hA dY hn iG fJ=>?_,λh=>(by cases h),λh=>(by cases h)⟩;injection he with he1 he2;injection he1 with he1 he3;subst he1;subst he2;subst he3;obtain⟨us,eM,dY⟩:=dY;refine calls_of_wp hf hb (wp_mono (Ux hS c (by rw[hb]at Lr;exact Lr) _ _ _ _ (adU (fn:=fn) hA eM dY hlen.2 hn iG fJ) hy) ?_);rintro e a' w' ⟨ex,st',he,hs,hk⟩
 have main:(aa (aa (rG st' E [] fn.results.toList) (lz rs)) λr=>match jM t st'.io with|some (x,[])=>some (r,x)|_=>none)=some y->
  a'.defers=[]/\∃v,(Go.results fn a'.tmps).run P w'=.ok v w'/\∃v_1 hw' fr jg,Ending.returned v=Ending.returned v_1/\gi (fy A hw' w') v_1 (Cm rs y.1) fr/\gi (fy A hw' w') v0 (.val gg (cellsOf t (.own none) y.2)) jg/\jg.Nodup/\(∀b∈jg,b<w'.heap.size/\(b∈fp\/w.heap.size<=b))/\Fr (λb=>b∈fp) w w':=by
  intro fL
  obtain⟨g,hg⟩:=hs
  refine⟨hg.defers,?_⟩
  cases ZY:rG st' E [] fn.results.toList with
  |none=>rw[ZY]at fL;cases fL
  |some ys=>
   rw[ZY]at fL
   simp only[aa]at fL
   cases hrr:lz rs ys with
   |none=>rw[hrr]at fL;cases fL
   |some r0=>
    rw[hrr]at fL
    simp only at fL
    split at fL
    ·rename_i x hx
     cases fL
     obtain⟨v,fr,ej,zx,JK,Lq⟩:=OZ hS.ty hg ZY hrr
     obtain⟨jg,PJ,Ff,hl'⟩:=hg.io
     obtain⟨f1,f2,rfl,fA,kH⟩:=rb PJ hx
     have ZW:us.drop t.size=[]:=by cases hd:us.drop t.size with|nil=>rfl|cons _ _=>have Va:bD _ (us.drop t.size) _ _:=kH;rw[hd]at Va;exact Va.elim
     have Jn:f2=[]:=by have Va:bD _ (us.drop t.size) [] f2:=kH;rw[ZW]at Va;exact Va
     subst Jn
     rw[bC]at Ff hl'
     have al4:us.take t.size=us:=by have:=cK t.size us;rw[ZW,bC]at this;exact this
     have IU:eS g.hw w' t us x f1:=by have IU:eS g.hw w' t (us.take t.size) x f1:=fA;rwa[al4]at IU
     refine⟨v,ej,v,g.hw,fr,f1,rfl,zx,⟨us,eM,wz (c:=fy A g.hw w') IU⟩,Ff,λb hb=>?_,hg.frame⟩
     have:=hg.fV b _ (hl' b hb)
     exact⟨this.1,this.2.symm⟩
    ·cases fL
 cases e<;>cases ex<;>simp only[NL]at he;exact main hk;cases hk;exact main hk;cases hy;cases hy
theorem aik {c:RC}(hcA:c.A=A)(Tj:c.w=w)(Gv:c.hw=hw)(Lp:∀t,t%3=1->c.iss t){all:iU}(PI:∀t,c.hdr t=(all[t/3]?).getD undef):
 ∀(j:Nat){vs:iU}{cs:ar AC}{fp:ec},bD (fy A hw w) vs cs fp->cs.all (AC.EZ true)=true->(∀i v,vs[i]?=some v->all[j+i]?=some v)->bD c vs (Pn j cs) fp:=by
 intro j vs
 induction vs generalizing j with
 |nil=>intro cs fp h _ _;cases cs with
  |nil=>exact h
  |cons _ _=>exact h.elim
 |cons v vs ih=>
  intro cs fp h kX Ln
  cases cs with
  |nil=>exact h.elim
  |cons x cs=>
   obtain⟨f1,f2,rfl,h1,h2⟩:=h
   simp only[bV,ah]at kX
   have i1:=ih (j+1) h2 kX.2 (λi u hu=>by rw[show j+1+i=j+(i+1) by omega];exact Ln (i+1) u (by simpa using hu))
   have Sz:=Ln 0 v rfl
   rw[dW]at Sz
   have flt:x.gZ=true->Pn j (x::cs)=x::Pn (j+1) cs->bD c (v::vs) (Pn j (x::cs)) (f1++f2):=by rintro hf e1;obtain⟨rfl,k⟩:=nv (c':=c) h1 hf;rw[e1];exact⟨[],f2,rfl,k,i1⟩
   cases x with
   |sl fl e xs=>
    cases fl with
    |own t=>
     have fA:eS c.hw c.w (.sl e) [v] xs f1:=by rw[Gv,Tj];exact h1.1
     refine⟨f1,f2,rfl,⟨fA,λq hq=>?_⟩,i1⟩
     cases hq
     refine⟨Lp _ (by omega),?_⟩
     rw[PI,show(3*j+1)/3=j by omega,Sz];rfl
    |arg k=>
     have hk:k=true:=by simpa[AC.EZ]using kX.1
     subst hk
     exact⟨f1,f2,rfl,⟨h1.1,by rw[Tj,hcA];exact h1.2⟩,i1⟩
    |loc ep pv=>cases kX.1
    |nest _ _ _ _ _ _=>cases kX.1
    |part _ _ _ _=>cases kX.1
    |fK _ _ _=>cases kX.1
   |int k n=>exact flt rfl rfl
   |bool b=>exact flt rfl rfl
   |str s=>exact flt rfl rfl
   |fn f=>exact flt rfl rfl
   |kL=>cases kX.1
   |ptr s off=>cases kX.1
   |Hy fl e y i off=>cases kX.1
   |un=>cases kX.1
   |bot=>cases kX.1
theorem aaQ {b:Nat}(hA:∀k b' o,A k b' o->b'<w.heap.size/\b'≠b/\b'∉fp){fn:Func}{arr:Array Value}{T:TypeId}{fr:Nat×Nat}(kG:w.heap[b]?=some (.cells arr T fr))(uG:tk arr fr)(dY:bD (fy A hw w) arr.toList cs fp)(kX:cs.all (AC.EZ true)=true)(hn:fp.Nodup)(xe:b∉fp)(iG:∀b'∈fp,b'<w.heap.size)(NU:hw b=0)(h:oZ A w vs xs): pF ⟨A,λb'=>b'=b\/b'∈fp,w,[.pointer (some ⟨b,0,none⟩)],λk b' o hb=>⟨(hA k b' o hb).1,λhm=>hm.elim (hA k b' o hb).2.1 (hA k b' o hb).2.2⟩⟩ (Hk fn cs xs) {tmps:=(.pointer (some ⟨b,0,none⟩)::vs).toArray++Array.replicate (fn.ntmps-(Value.pointer (some ⟨b,0,none⟩)::vs).toArray.size) undef,defers:=[]} w:=by
 obtain⟨hl,hi⟩:=Jr h;let v0:Value:=.pointer (some ⟨b,0,none⟩);let C:Ctx:=⟨A,λb'=>b'=b\/b'∈fp,w,[v0],λk b' o hb=>⟨(hA k b' o hb).1,λhm=>hm.elim (hA k b' o hb).2.1 (hA k b' o hb).2.2⟩⟩
 let g:Gh:=⟨hw,λ_=>b,λb'=>if b'=b\/b'∈fp then some (.box 0) else none,λt=>(arr.toList[t/3]?).getD undef⟩
 have Lv:=og kG;have uF:ic (Hk fn cs xs) 0:=⟨Pn 0 cs,rfl⟩
 have hle:(fy A (λ_=>0) w).Le (cO C g (Hk fn cs xs) w):=⟨rfl,λt ht=>ht.elim,λ_ _ _ _ _ hv=>hv,ba _,λs hs=>hs.elim,λ_ b o u ho _=>absurd ho (Nat.not_lt_zero _)⟩
 have k1:=aik (c:=cO C g (Hk fn cs xs) w) (A:=A) rfl rfl rfl (λt ht=> .inl (by omega)) (all:=arr.toList) (λt=>rfl) 0 dY kX (λi v hv=>by rw[cr];exact hv);refine⟨g,rfl,?_,?_,λi av hs=>?_,λs oY hs=>?_,λk v av hk=>by simp at hk,λb' x hx=>?_,Fr.refl _ _,⟨[],⟨[],[],rfl,⟨rfl,uF,rfl⟩,rfl⟩,by simp,by simp⟩⟩;simp[Hk,qT,hl];omega;simp[Hk,qT];have yk:((.one (.ptr 0 0)::xs)++List.replicate (fn.ntmps-(AV.one (.ptr 0 0)::xs).length) AV.bot)[i]?=some av:=hs;rcases bS i (xs.length+1)with aiN|Fe;rw[bF (by simpa using aiN)]at yk;cases i with
 |zero=>
  simp at yk;subst yk;refine⟨[],?_,by simp,by simp⟩;have hvv:((v0::vs).toArray++Array.replicate (fn.ntmps-(v0::vs).toArray.size) undef).getD 0 undef=v0:=by simp[cY,Array.getElem?_append]
  show gi _ (((v0::vs).toArray++Array.replicate (fn.ntmps-(v0::vs).toArray.size) undef).getD 0 undef) _ _;rw[hvv];exact oM ⟨rfl,uF,rfl⟩
 |succ i=>
  obtain⟨v,hv,hr⟩:=hi i av (by simpa using yk);refine⟨[],?_,by simp,by simp⟩;have hvv:((v0::vs).toArray++Array.replicate (fn.ntmps-(v0::vs).toArray.size) undef).getD (i+1) undef=v:=by
   have alR:i<vs.length:=by omega
   have Z1:vs[i]=v:=by rw[al alR]at hv;exact cX hv
   simp[cY,Array.getElem?_append,alR,Z1]
  show gi _ (((v0::vs).toArray++Array.replicate (fn.ntmps-(v0::vs).toArray.size) undef).getD (i+1) undef) _ _;rw[hvv];exact hr.mono hle (by simp)
 rw[bw (by simpa using Fe),dC]at yk;split at yk;cases yk;exact⟨[],gi.bot _ _,by simp,by simp⟩;cases yk;have yk:(some (Pn 0 cs)::List.replicate (xs.length+(fn.ntmps-(xs.length+1))) (none:au (ar AC)))[s]?=some (some oY):=hs;cases s with|zero=>simp at yk;subst yk;refine⟨arr,T,fr,fp,kG,uG,k1,hn,xe,λb' ib=>?_,?_,NU⟩;show(if b'=b\/b'∈fp then _ else _)=_;rw[aM (.inr ib)];show(if b=b\/b∈fp then _ else _)=_;rw[aM (.inl rfl)]|succ s=>simp only[ff,dC]at yk;split at yk<;>cases yk
 have E2:(if b'=b\/b'∈fp then some (kb.box 0) else none)=some x:=hx;split at E2;rename_i hm;rcases hm with rfl|hm;exact⟨Lv,.inr (.inl rfl)⟩;exact⟨iG b' hm,.inr (.inr hm)⟩;cases E2
theorem aqZ {E:Env}{rs:ar (Bool×FT)}{t:FT}(hS:Sound P E Γ){fn:Func}(hf:P.funcs[f]?=some fn)(Af:(fn.name== "runtime.NumGoroutine")=false)(Lr:EX E Γ an Λ (fn.body.getD .skip)):mz P f {R:=jf rs×t.ct.D,fn:=ZI E Γ an Λ fn rs t,av:=λy=>Cm rs y.1,back:=λy=>jT t y.2,bx:=true}:=by
 intro xs y hy;simp only at hy;unfold ZI at hy;split at hy;rename_i c cs rest hb;split at hy;rename_i hlen;refine⟨⟨fn,c,hf,hb,Af⟩,λ_ h=>(by cases h),λh=>(by cases h),λ_ WG am5 he A w b vs arr T fr hw fp hA kG uG dY hn xe iG NU fJ=>?_,λh=>(by cases h)⟩;injection he with he1 he2;injection he1 with _ he3;subst he2;subst he3;refine calls_of_wp hf hb (wp_mono (Ux hS c (by rw[hb]at Lr;exact Lr) _ _ _ _ (aaQ (fn:=fn) hA kG uG dY hlen.2 hn xe iG NU fJ) hy) ?_);rintro e a' w' ⟨ex,st',he,hs,hk⟩
 have main:(aa (aa (rG st' E [(true,0)] fn.results.toList) (lz rs)) λr=>match st'.io,st'.boxes with
  |[.ptr 0 0],some oY::_=>(match TQ t (oY.map AC.strip)with|some (x,[])=>some (r,x)|_=>none)
  |_,_=>none)=some y->
  a'.defers=[]/\∃v,(Go.results fn a'.tmps).run P w'=.ok v w'/\∃v_1 hw' fv jS T' XX jg,Ending.returned v=Ending.returned v_1/\gi (fy A hw' w') v_1 (Cm rs y.1) fv/\w'.heap[b]?=some (.cells jS T' XX)/\tk jS XX/\
    bD (fy A hw' w') jS.toList (jT t y.2) jg/\jg.Nodup/\b∉jg/\(∀b'∈jg,b'<w'.heap.size/\(b'∈fp\/w.heap.size<=b'))/\fv.Nodup/\(∀b'∈fv,b'<w'.heap.size/\(b'∈fp\/w.heap.size<=b')/\b'∉jg/\b'≠b)/\Fr (λb'=>b'=b\/b'∈fp) w w':=by
  intro fL
  obtain⟨g,hg⟩:=hs
  refine⟨hg.defers,?_⟩
  cases ZY:rG st' E [(true,0)] fn.results.toList with
  |none=>rw[ZY]at fL;cases fL
  |some ys=>
   rw[ZY]at fL
   simp only[aa]at fL
   cases hrr:lz rs ys with
   |none=>rw[hrr]at fL;cases fL
   |some r0=>
    rw[hrr]at fL
    simp only at fL
    split at fL
    ·rename_i oY tl PJ kR
     split at fL
     ·rename_i x hx
      cases fL
      obtain⟨v,fv,ej,zx,JK,Lq⟩:=SS hS.ty hg ZY hrr
      obtain⟨fpi,hri,_,_⟩:=hg.io
      rw[PJ]at hri
      obtain⟨g1,g2,_,azT,_⟩:=hri
      have ON:b=g.β 0:=by have:=azT.1;simp only[Value.pointer.injEq,bf,Addr.mk.injEq]at this;exact this.1
      obtain⟨jS,T',XX,jg,PF,aca,hr',Ff,NF,hl',ard,_⟩:=hg.boxes 0 oY (by rw[kR];rfl)
      rw[<-ON]at PF NF ard
      have nh:=Er hr'
      have PO:=Eg hx
      rw[bC]at PO
      rw[PO]at nh
      have hM:∀b',(w.heap.size<=b'\/(b'=b\/b'∈fp))->b'≠b->b'∈fp\/w.heap.size<=b':=by rintro b' (h2|h2|h2) Jo;exact .inr h2;exact absurd h2 Jo;exact .inl h2
      refine⟨v,ej,v,g.hw,fv,jS,T',XX,jg,rfl,zx,PF,aca,nh,Ff,NF,λb' ib=>?_,JK,λb' ib=>?_,hg.frame⟩
      ·have:=hg.fV b' _ (hl' b' ib)
       exact⟨this.1,hM b' this.2 (λe=>NF (e▸ib))⟩
      ·obtain⟨own,Tk,X1⟩:=Lq b' ib
       have M4:g.eo b'≠some (.box 0):=by rw[X1];intro e;have e2:Fz own=Fz (true,0):=cX e;exact Tk (by rw[SK e2];simp)
       have Jo:b'≠b:=λe=>M4 (by rw[e];exact ard)
       have:=hg.fV b' _ X1
       exact⟨this.1,hM b' this.2 Jo,λhm=>M4 (hl' b' hm),Jo⟩
     ·cases fL
    ·cases fL
 cases e<;>cases ex<;>simp only[NL]at he;exact main hk;cases hk;exact main hk;cases hy;cases hy
theorem aq0 {E:Env}{t:FT}(hS:Sound P E Γ){fn:Func}(hf:P.funcs[f]?=some fn)(Af:(fn.name== "runtime.NumGoroutine")=false)(Lr:EX E Γ an Λ (fn.body.getD .skip)):mz P f {R:=t.ct.D,fn:=TK E Γ an Λ fn t,av:=λ_=> .bot,back:=λy=>jT t y,pr:=true}:=by
 intro xs y hy;simp only at hy;unfold TK at hy;cases hb:fn.body with
 |none=>rw[hb]at hy;cases hy
 |some c=>
  rw[hb]at hy;simp only at hy;split at hy;have key:apj P f {R:=t.ct.D,fn:=TK E Γ an Λ fn t,av:=λ_=> .bot,back:=λy=>jT t y,pr:=true} y xs:=by
   intro A w vs hA fJ;refine calls_of_wp hf hb (wp_mono (Ux hS c (by rw[hb]at Lr;exact Lr) _ _ _ _ (Sb hA fJ) hy) ?_);rintro e a' w' ⟨ex,st',he,hs,hk⟩
   have main:(match fn.results.toList with
    |[.tmp i]=>match st'.get i with
     | .val false [.ptr s 0]=>match (nth st'.boxes s).getD none with
       |some cs=>if cs.all AC.Q9=true then(match TQ t (cs.map AC.strip)with|some (x,[])=>some x|_=>none) else none
       |none=>none
     |_=>none
    |_=>none)=some y->a'.defers=[]/\∃v,(Go.results fn a'.tmps).run P w'=.ok v w'/\∃b arr T fr hw,Ending.returned v=.returned (.pointer (some ⟨b,0,none⟩))/\w.heap.size<=b/\w'.heap[b]?=some (.cells arr T fr)/\tk arr fr/\bD (fy A hw w') arr.toList (jT t y) []/\Fr (λ_=>False) w w':=by
    intro fL
    obtain⟨g,hg⟩:=hs
    refine⟨hg.defers,?_⟩
    split at fL
    ·rename_i i hri
     split at fL
     ·rename_i s hp
      cases kR:(nth st'.boxes s).getD none with
      |none=>rw[kR]at fL;cases fL
      |some cs=>
       rw[kR]at fL
       simp only at fL
       split at fL
       ·rename_i kX
        split at fL
        ·rename_i x hx
         cases fL
         have kR:st'.boxes[s]?=some (some cs):=by rw[dV]at kR;cases hq:st'.boxes[s]? with|none=>rw[hq]at kR;simp at kR|some q=>rw[hq]at kR;simp at kR;rw[kR]
         obtain⟨fp0,zQ,_,_⟩:=hg.slot i
         rw[hp]at zQ
         have zQ:=H2 zQ
         obtain⟨arr,T,fr,fp,kG,uG,dY,hn,xe,hl,ND,NU⟩:=hg.boxes s cs kR
         obtain⟨Hp,vs,eM,U9⟩:=arg_val (c:=cO _ g st' w') (c':=cO _ g st' w') rfl rfl (v:=.agg arr.toList.toArray) (x:=.val true cs) ⟨arr.toList,rfl,dY⟩ kX
         have hvs:arr.toList=vs:=by have eM:Value.agg arr.toList.toArray=.agg vs.toArray:=eM;simp only[Value.agg.injEq]at eM;simpa using congrArg Array.toList eM
         rw[<-hvs]at U9
         have nh:=Er U9
         have PO:=Eg hx
         rw[bC]at PO
         rw[PO]at nh
         have ej:(Go.results fn a'.tmps).run P w'=.ok (a'.tmps.getD i undef) w':=by
          have he:fn.results=#[.tmp i]:=by apply eO;exact hri
          have ap7:=Km (P:=P) (Kk a'.tmps) (λ_=>a'.tmps.getD i undef) w' fn.results (λx hx=>by rw[he]at hx;simp at hx;subst hx;rfl)
          have hd:Go.results fn a'.tmps=(do
           let vs<-fn.results.mapM (Kk a'.tmps)
           pure (if h:vs.size=1 then vs[0] else .tuple vs)):=by
           unfold Go.results
           congr 1
          rw[hd];simp only[Sem.run_bind,ap7,Result.andThen_ok,Sem.run_pure];rw[he];simp
         refine⟨_,ej,g.β s,arr,T,fr,g.hw,congrArg Ending.returned zQ,?_,kG,uG,nh,hg.frame⟩
         exact(hg.fV _ _ ND).2.resolve_right (λf=>f)
        ·cases fL
       ·cases fL
     ·cases fL
    ·cases fL
   cases e<;>cases ex<;>simp only[NL]at he;exact main hk;cases hk;exact main hk
  refine⟨⟨fn,c,hf,hb,Af⟩,λ_ _ A w vs hA fJ=>?_,λh=>(by cases h),λh=>(by cases h),λ_=>key⟩;refine(key A w vs hA fJ).mono ?_;rintro e w' ⟨b,arr,T,fr,hw,rfl,_,_,_,_,iw⟩;exact⟨_,hw,[],rfl,gi.bot _ _,List.nodup_nil,(λb hb=>by cases hb),iw⟩;cases hy
end Go.Dn
