import Derived.Test.YthllnaiaikjelaaGreatDnAny
/- The soundness of the abstract semantics: code and functions. -/
namespace Go.Dn
open Go.RowKit
variable {P:Program} {C:Ctx} {st:AS} {a:Act} {w:World} {R:Type} {r:R}
variable {an:An} {gg:Bool} {Γ:Cr} {g:Gh} {Λ:LG} {f:Nat} {hw:Nat->Nat} {A:Rg} {rs:ar (Bool×FT)} {ys:ar (Bool×ar AC)} {cs:ar AC} {xs:ar AV} {fp:ei} {vs:iW}
def N2:Exit->Ex->Prop
 | .normal,.normal=>True
 | .ret,.ret=>True
 | .exit i,.exit j=>i=j
 |_,_=>False
def arh (C:Ctx)(K:Ex->AS->au R)(r:R)(e:Exit)(a:Act)(w:World):Prop:=
 ∃ex st',N2 e ex/\pL C st' a w/\K ex st'=some r
theorem akl {E:Env}(hS:Sound P E Γ){id:Nat}{ops:Array Oper}{d:Bool}(h:pL C st a w){K:AS->au R}(hk:aaP E Γ an id ops.toList d st K=some r){Q:Exit->Act->World->Prop}(hq:∀st' a' w',pL C st' a' w'->K st'=some r->Q .normal a' w'):(Code.region id ops d).wp P Q a w:=by
 unfold aaP at hk;split at hk;rw[U1]at hk;cases ho:L7 E Γ an ops.toList d st some with|none=>rw[ho]at hk;cases hk|some st1=>rw[ho]at hk;exact ahI hS h ho (λa' w' hs=>hq _ _ _ hs hk)
 rename_i s hm;split at hk;rename_i aqI;rw[U1]at hk;cases ho:L7 E Γ.calm an ops.toList d st some with|none=>rw[ho]at hk;cases hk|some st1=>rw[ho]at hk;simp only[eV]at hk;cases hb:getBool st1 s with|none=>rw[hb]at hk;cases hk|some b=>rw[hb]at hk;simp only[aa]at hk;have hn:=ajY (aot Γ) (λo TH=>aP.1 aqI o TH) ho;exact ahI hS.calm h ho (λa' w' hs=>hq _ _ _ (hs.weaken hn hb) hk)
 cases hk
def LOk (E:Env)(Γ:Cr)(an:An)(Λ:LG)(c:Code):Prop:=
 ∃n,∀(R:Type)(st:AS)(K:Ex->AS->au R)(r:R),(Λ (dV c)).go st K=some r->Ff (an.mask (dV c)) (den E Γ an Λ c) n st K=some r
def COk (E:Env)(Γ:Cr)(an:An)(Λ:LG)(c:Code):Prop:=
 ∀(R:Type)(st:AS)(K:Ex->AS->au R)(r:R),(Λ (CD c)).go st K=some r->den E Γ an Λ c st (λe st'=>K e (st'.mask (an.mask (CD c+1))))=some r
def E8 (E:Env)(Γ:Cr)(an:An)(Λ:LG)(c:Code):Prop:=(∀c'∈jf c,LOk E Γ an Λ c')/\∀c'∈mc an.cut c,COk E Γ an Λ c'
theorem alu (c:Code):mc [] c=[]:=by induction c with|seq a b iha ihb=>simp[mc,iha,ihb]|cond _ a b iha ihb=>simp[mc,iha,ihb]|block _ c ih=>simpa[mc]using ih|loop c ih=>simpa[mc]using ih|_=>rfl
theorem E8.of {E:Env}{c:Code}(h:∀c'∈jf c,LOk E Γ an Λ c')(hc:an.cut=[]):E8 E Γ an Λ c:=⟨h,by rw[hc,alu];simp⟩
theorem US {E:Env}(hS:Sound P E Γ):∀(c:Code)(_:E8 E Γ an Λ c)(st:AS)(a:Act)(w:World)(K:Ex->AS->au R),pL C st a w->den E Γ an Λ c st K=some r->c.wp P (arh C K r) a w:=by
 intro c;induction c with
 |skip=>intro LN st a w K h hk;exact wp_skip ⟨.normal,st,bF,h,hk⟩
 |region id ops d=>intro LN st a w K h hk;exact akl hS h (by simpa only[den]using hk) (λst' a' w' hs he=>⟨.normal,st',bF,hs,he⟩)
 |seq x y ihx ihy=>
  intro LN st a w K h hk;have ihx:=ihx ⟨λc hc=>LN.1 c (by simp[jf,hc]),λc hc=>LN.2 c (by simp[mc,hc])⟩;have ihy:=ihy ⟨λc hc=>LN.1 c (by simp[jf,hc]),λc hc=>LN.2 c (by simp only[mc];cases an.cut.contains (dV y)<;>simp[hc])⟩;simp only[den]at hk;refine wp_seq (wp_mono (ihx st a w _ h hk) ?_);rintro e a' w' ⟨ex,st',he,hs,Mk⟩;cases e<;>cases ex<;>simp only[N2]at he;simp only at Mk;cases eP:an.cut.contains (dV y)with|false=>rw[eP]at Mk;exact ihy st' a' w' K hs Mk|true=>rw[eP]at Mk;have hc:=LN.2 y (by simp only[mc,eP];simp) _ _ _ _ Mk;refine wp_mono (ihy _ a' w' _ (hs.mask _) hc) ?_;rintro e2 a2 w2 ⟨ex2,st2,he2,hs2,hk2⟩;exact⟨ex2,_,he2,hs2.mask _,hk2⟩
  exact⟨.exit _,st',he,hs,Mk⟩;exact⟨.ret,st',bF,hs,Mk⟩
 |cond c x y ihx ihy=>
  intro LN st a w K h hk;have ihx:=ihx ⟨λc hc=>LN.1 c (by simp[jf,hc]),λc hc=>LN.2 c (by simp[mc,hc])⟩;have ihy:=ihy ⟨λc hc=>LN.1 c (by simp[jf,hc]),λc hc=>LN.2 c (by simp[mc,hc])⟩;simp only[den]at hk;split at hk;rename_i t hc;have hv:a.eval c=.bool t:=by obtain⟨g,hg⟩:=h;have:=hg.rd c;rw[hc]at this;exact BM this
  cases t with|true=>exact wp_cond_true hv (ihx st a w K h hk)|false=>exact wp_cond_false hv (ihy st a w K h hk)
  cases hk
 |block id c ih=>intro LN st a w K h hk;have ih:=ih ⟨λc hc=>LN.1 c (by simpa[jf]using hc),λc hc=>LN.2 c (by simpa[mc]using hc)⟩;simp only[den]at hk;refine wp_block (wp_mono (ih st a w _ h hk) ?_);rintro e a' w' ⟨ex,st',he,hs,Mk⟩;cases e<;>cases ex<;>simp only[N2]at he;exact⟨.normal,st',bF,hs,Mk⟩;rename_i i j;subst he;simp only[Exit.inBlock];simp only at Mk;by_cases hi:i=id;subst hi;rw[aM rfl];simp only[gC,cd]at Mk;exact⟨.normal,st',bF,hs,Mk⟩;rw[aK hi];rw[aK (by simpa using hi)]at Mk;exact⟨.exit i,st',rfl,hs,Mk⟩;exact⟨.ret,st',bF,hs,Mk⟩
 |loop c ih=>
  intro LN st a w K h hk;have ih:=ih ⟨λc hc=>LN.1 c (by simp[jf,hc]),λc hc=>LN.2 c (by simpa[mc]using hc)⟩;obtain⟨n,hn⟩:=LN.1 c (by simp[jf]);simp only[den]at hk;intro b k cs
  have key:∀m st a w,pL C st a w->Ff (an.mask (dV c)) (den E Γ an Λ c) m st K=some r->
   ∃e a' w',arh C K r e a' w'/\Arrives P (lone (b.at a (.code c:: .inLoop c::k)) cs w) b k cs e a' w':=by
   intro m
   induction m with
   |zero=>intro st a w _ hk;cases hk
   |succ m ihm=>
    intro st a w h hk
    simp only[Ff]at hk
    obtain⟨e,aeY,aho,⟨ex,st',he,hs,Mk⟩,TE⟩:=ih st a w _ h hk b (.inLoop c::k) cs
    cases e<;>cases ex<;>simp only[N2]at he
    ·obtain⟨aqi,aqa,aq7,amm,aaa⟩:=ihm _ aeY aho (hs.mask _) Mk
     exact⟨aqi,aqa,aq7,amm,.of_steps (Steps.trans TE (.one step_inLoop)) aaa⟩
    ·exact⟨.exit _,aeY,aho,⟨.exit _,_,he,hs.mask _,Mk⟩,.pass (x:=.inLoop c) rfl (λ_ _=> .inl (by simp)) TE⟩
    ·exact⟨.ret,aeY,aho,⟨.ret,_,bF,hs.mask _,Mk⟩,.pass (x:=.inLoop c) rfl (λ_ _=> .inl (by simp)) TE⟩
  cases hp:an.peel.contains (dV c)with
  |false=>rw[hp]at hk;obtain⟨e,a',w',hq,TE⟩:=key n _ a w (h.mask _) (hn _ _ _ _ hk);exact⟨e,a',w',hq,.of_steps (.one step_loop) TE⟩
  |true=>rw[hp]at hk;simp only[af]at hk;obtain⟨e,aeY,aho,⟨ex,st',he,hs,Mk⟩,TE⟩:=ih _ a w _ (h.mask _) hk b (.inLoop c::k) cs;cases e<;>cases ex<;>simp only[N2]at he;obtain⟨aqi,aqa,aq7,amm,aaa⟩:=key n _ aeY aho (hs.mask _) (hn _ _ _ _ Mk);exact⟨aqi,aqa,aq7,amm,.of_steps (Steps.trans (.one step_loop) (Steps.trans TE (.one step_inLoop))) aaa⟩;exact⟨.exit _,aeY,aho,⟨.exit _,_,he,hs.mask _,Mk⟩,.of_steps (.one step_loop) (.pass (x:=.inLoop c) rfl (λ_ _=> .inl (by simp)) TE)⟩;exact⟨.ret,aeY,aho,⟨.ret,_,bF,hs.mask _,Mk⟩,.of_steps (.one step_loop) (.pass (x:=.inLoop c) rfl (λ_ _=> .inl (by simp)) TE)⟩
 |exit id=>intro LN st a w K h hk;exact wp_exit ⟨.exit id,st,rfl,h,hk⟩
 |ret=>intro LN st a w K h hk;exact wp_ret ⟨.ret,st,bF,h,hk⟩
 |_=>intro LN st a w K h hk;simp[den]at hk
theorem JI:∀{vs:iW}{xs:ar AV},pc A w vs xs->vs.length=xs.length/\∀(i:Nat)(x:AV),xs[i]?=some x->∃v,vs[i]?=some v/\gj (fA A (λ_=>0) w) v x []
 |[],[],_=>⟨rfl,by simp⟩
 |v::vs,x::xs,h=>by obtain⟨hl,hi⟩:=JI h.2;refine⟨by simp[hl],λi y hy=>?_⟩;cases i with|zero=>simp at hy;subst hy;exact⟨v,rfl,h.1⟩|succ i=>exact hi i y (by simpa using hy)
 |[],_::_,h=>h.elim
 |_::_,[],h=>h.elim
theorem Sx (hA:∀k b o,A k b o->b<w.heap.size){fn:Func}(h:pc A w vs xs): pL ⟨A,λ_=>False,w,[],λk b o hb=>⟨hA k b o hb,λf=>f⟩⟩ (qY fn xs) {tmps:=vs.toArray++Array.replicate (fn.ntmps-vs.toArray.size) undef,defers:=[]} w:=by
 obtain⟨hl,hi⟩:=JI h;let C:Ctx:=⟨A,λ_=>False,w,[],λk b o hb=>⟨hA k b o hb,λf=>f⟩⟩
 let g:Gh:=⟨λ_=>0,λ_=>0,λ_=>none,λ_=>undef⟩
 have hle:(fA A (λ_=>0) w).Le (cP C g (qY fn xs) w):=⟨rfl,λt ht=>ht.elim,λ_ _ _ _ _ hv=>hv,ba _,λs hs=>hs.elim,λ_ b o u ho hu=>⟨ho,hu⟩⟩
 refine⟨g,rfl,?_,?_,λi av hs=>?_,λs cs hs=>?_,λk v av hk=>by simp at hk,λb x hx=>(by cases hx),Fr.refl _ _,⟨[],rfl,by simp,by simp⟩⟩;simp[qY,hl];simp[qY];have yu:(xs++List.replicate (fn.ntmps-xs.length) AV.bot)[i]?=some av:=hs;rcases bS i xs.length with iJ|Fp;rw[bI iJ]at yu;obtain⟨v,hv,hr⟩:=hi i av yu;refine⟨[],?_,by simp,by simp⟩;have hvv:(vs.toArray++Array.replicate (fn.ntmps-vs.toArray.size) undef).getD i undef=v:=by
  have ajb:i<vs.length:=by omega
  have hv':vs[i]=v:=by rw[al ajb]at hv;exact cY hv
  simp[db,Array.getElem?_append,ajb,hv']
 show gj _ ((vs.toArray++Array.replicate (fn.ntmps-vs.toArray.size) undef).getD i undef) _ _;rw[hvv];exact hr.mono hle (by simp);rw[bw Fp,dE]at yu;split at yu;cases yu;exact⟨[],gj.bot _ _,by simp,by simp⟩;cases yu;have yu:(List.replicate (xs.length+(fn.ntmps-xs.length)) (none:au (ar AC)))[s]?=some (some cs):=hs;rw[dE]at yu;split at yu<;>cases yu
theorem ag9 {v:Value}{x:AC}(h:iD (cP C g st w) v x fp):iD (fA C.A g.hw w) v x.strip fp:=by
 cases x with
 |int k n=>exact h
 |bool b=>exact h
 |str s=>exact h
 |kS=>exact h
 |fn f=>exact h
 |un=>exact h
 |bot=>exact h
 |ptr s off=>exact h.2.2
 |HM fl e y i off=>cases fl with|own t=>exact h.elim|nest _ _ _ _ _ _=>exact h.elim|part _ _ _ _=>exact h.elim|fL _ _ _=>exact h.elim|arg _=>exact h.1|loc ep pv=>exact h.1
 |sl fl e xs=>
  cases fl with
  |nest _ _ _ _ _ _=>exact h.1
  |part _ _ _ _=>exact h.1
  |fL _ _ _=>obtain⟨_,⟨k,hk,h3⟩,_⟩:=h;exact⟨λq hq=>(by cases hq),⟨k,hk,h3⟩,by simp⟩
  |own t=>exact⟨h.1,by simp⟩
  |arg _=>exact h
  |loc ep pv=>exact h.1
theorem EB:∀{vs:iW}{xs:ar AC}{fp:ei},bE (cP C g st w) vs xs fp->bE (fA C.A g.hw w) vs (xs.map AC.strip) fp
 |[],[],_,h=>h
 |_::_,_::_,_,h=>by obtain⟨f1,f2,rfl,h1,h2⟩:=h;exact⟨f1,f2,rfl,ag9 h1,EB h2⟩
 |[],_::_,_,h=>h.elim
 |_::_,[],_,h=>h.elim
def KD (tmps:Array Value):ResultVar->Sem Value
 | .tmp t=>pure (tmps.getD t undef)
 | .cell a t=>do loadVar t (<-asAddr (tmps.getD a undef))
def FJ:Bool×Nat->ki
 |(false,t)=> .slot t
 |(true,s)=> .box s
theorem S5 {x y:Bool×Nat}(h:FJ x=FJ y):x=y:=by rcases x with⟨_|_,a⟩<;>rcases y with⟨_|_,b⟩<;>simp[FJ]at h<;>rw[h]
theorem ape {E:Env}(hE:kG P E.ty)(h:dN C g st a w []){rv:ResultVar}{own:Bool×Nat}(hr:Wa st E rv=some (own,gg,cs)): ∃v vs fp,(KD a.tmps rv).run P w=.ok v w/\Cut gg v vs/\bE (fA C.A g.hw w) vs cs fp/\fp.Nodup/\∀b∈fp,g.eC b=some (FJ own):=by
 cases rv with
 |tmp t=>simp only[Wa]at hr;split at hr;rename_i g' pb oY;cases hr;obtain⟨fp,ee,hn,hl⟩:=h.slot t;rw[oY]at ee;obtain⟨vs,eP,ee⟩:=ee;exact⟨_,vs,fp,rfl,eP,EB ee,hn,hl⟩;cases hr
 |cell t T=>
  simp only[Wa]at hr;split at hr;rename_i sh s off hT hp;cases kW:(nth st.boxes s).getD none with
  |none=>rw[kW]at hr;cases hr
  |some pb=>
   rw[kW]at hr;simp only[eV]at hr;split at hr;rename_i iB;cases hr;have kW:st.boxes[s]?=some (some pb):=by rw[dY]at kW;cases hq:st.boxes[s]? with|none=>rw[hq]at kW;simp at kW|some q=>rw[hq]at kW;simp at kW;rw[kW]
   obtain⟨fp0,Ab,_,_⟩:=h.slot t;rw[hp]at Ab;have Ab:=Ik Ab;obtain⟨arr,T',fr,fp,kL,uI,ee,hn,xk,hl,LW,Ob⟩:=h.boxes s pb kW;have hlen:=ee.length;obtain⟨v,ez,eP⟩:=Eo (hE T sh hT) (g.β s) off ((arr.toList.drop off).take sh.ct.size) (by simp at hlen⊢;omega) (XS kL off sh.ct.size);obtain⟨f1,f2,f3,rfl,r1,r2,r3⟩:=ee.mid off sh.ct.size;have HE:=(aG.1 (aG.1 hn).1).2.1;refine⟨v,_,f2,?_,eP,EB r2,HE,λb hb=>hl b (by simp[hb])⟩;simp only[KD,Ab,asAddr,Sem.run_bind,Sem.run_pure,Result.andThen_ok];exact ez;cases hr
  cases hr
theorem aid {E:Env}(hE:kG P E.ty)(h:dN C g st a w [])(gf:ResultVar->Value):∀(rs:ar ResultVar)(had:ar (Bool×Nat))(ys:ar (Bool×ar AC)),rJ st E had rs=some ys->
 (∀rv v,(KD a.tmps rv).run P w=.ok v w->gf rv=v)->
 (∀rv∈rs,(KD a.tmps rv).run P w=.ok (gf rv) w)/\∃fp,gj.uy (fA C.A g.hw w) (rs.map gf) ys fp/\fp.Nodup/\∀b∈fp,∃own,own∉had/\g.eC b=some (FJ own)
 |[],had,ys,hr,hgf=>by cases hr;exact⟨by simp,[],rfl,by simp,by simp⟩
 |rv::rs,had,ys,hr,hgf=>by
  simp only[rJ]at hr;cases h1:Wa st E rv with
  |none=>rw[h1]at hr;cases hr
  |some x=>
   obtain⟨own,gg,cs⟩:=x;rw[h1]at hr;simp only[eV]at hr;split at hr;cases hr;rename_i TG;have TG:own∉had:=by simpa using TG
   cases h2:rJ st E (own::had) rs with|none=>rw[h2]at hr;cases hr|some xs=>rw[h2]at hr;simp only[eV,bf]at hr;subst hr;obtain⟨v,vs,kX,ez,eP,ee,HE,hl1⟩:=ape hE h h1;obtain⟨amr,fp2,Vt,Dc,ER⟩:=aid hE h gf rs (own::had) xs h2 hgf;have hv:=hgf rv v ez;refine⟨λrv' hm=>?_,kX++fp2,⟨kX,fp2,rfl,⟨vs,by rw[hv];exact eP,ee⟩,Vt⟩,?_,λb hb=>?_⟩;rcases cq.1 hm with rfl|hm;rw[hv];exact ez;exact amr rv' hm;refine aG.2 ⟨HE,Dc,λb hb b' ig he=>?_⟩;subst he;obtain⟨ar6,Nn,LM⟩:=ER b ig;rw[hl1 b hb]at LM;have:=S5 (cY LM);subst this;exact Nn (by simp);rcases aA.1 hb with hb|hb;exact⟨own,TG,hl1 b hb⟩;obtain⟨ar6,Nn,LM⟩:=ER b hb;exact⟨ar6,λhm=>Nn (by simp[hm]),LM⟩
theorem FK.ai2 {fl:FK}{f:ux}(h:fl.fits f=true):f=fl.flag:=by
 unfold FK.fits at h;split at h;rename_i t t';have:t=t':=by simpa using h
 subst this;rfl;rename_i k;have:k=false:=by simpa using h
 subst this;rfl;rename_i k;have:k=true:=h;subst this;rfl;rfl;rename_i j t j' t';simp only[ah,bn]at h;obtain⟨rfl,rfl⟩:=h;rfl;cases h
theorem Ep:∀{t:FT}{cs r:ar AC}{x:t.ct.D},Ud t cs=some (x,r)->cs=jW t x++r:=by
 intro t;induction t with
 |int k=>intro cs r x h;cases cs with|nil=>simp[Ud]at h|cons y ys=>cases y<;>simp[Ud]at h;obtain⟨rfl,rfl,rfl⟩:=h;rfl
 |bool=>intro cs r x h;cases cs with|nil=>simp[Ud]at h|cons y ys=>cases y<;>simp[Ud]at h;obtain⟨rfl,rfl⟩:=h;rfl
 |str=>intro cs r x h;cases cs with|nil=>simp[Ud]at h|cons y ys=>cases y<;>simp[Ud]at h;obtain⟨rfl,rfl⟩:=h;rfl
 |sl fl e=>
  intro cs r x h;cases cs with
  |nil=>simp[Ud]at h
  |cons y ys=>
   cases y with
   |sl fl' e' xs=>
    simp only[Ud]at h;split at h
    ·rename_i he;subst he;cases hf:fl.fits fl' with
     |false=>rw[hf]at h;cases h
     |true=>
      rw[hf]at h;cases h;rw[FK.ai2 hf];have hn:fl.isNil=false:=by cases fl<;>first|rfl|(unfold FK.fits at hf;cases hf)
      simp only[jW,hn,ae];rfl
    cases h
   |kS=>simp only[Ud]at h;cases hn:fl.isNil with|false=>rw[hn]at h;cases h|true=>rw[hn]at h;cases h;simp only[jW,hn,af];rfl
   |_=>simp[Ud]at h
 |pair a b iha ihb=>intro cs r x h;simp only[Ud]at h;obtain⟨⟨x1,r1⟩,h1,h⟩:=aY.1 h;obtain⟨⟨x2,r2⟩,h2,h⟩:=aY.1 h;cases h;have h3:r1=jW b x2++r2:=ihb h2;rw[iha h1,h3];simp[jW]
theorem S4:∀(rs:ar (Bool×FT))(ys:ar (Bool×ar AC))(y:jh rs),lF rs ys=some y->ys=aqY rs y
 |[],[],y,_=>rfl
 |[],_::_,y,h=>by simp[lF]at h
 |[(g,t)],ys,y,h=>by
  cases ys with
  |nil=>simp[lF]at h
  |cons p ys=>
   cases ys with
   |cons _ _=>simp[lF]at h
   |nil=>
    obtain⟨g',cs⟩:=p;simp only[lF]at h;cases hg:g==g' with
    |false=>rw[hg]at h;cases h
    |true=>
     rw[hg]at h;have:g=g':=by simpa using hg
     subst this;simp only[af]at h;split at h;rename_i x hx;cases h;have:=Ep hx;rw[bD]at this;rw[this];rfl;cases h
 |(g,t)::p::r,ys,y,h=>by
  cases ys with
  |nil=>simp[lF]at h
  |cons q ys=>
   obtain⟨g',cs⟩:=q;simp only[lF]at h;cases hg:g==g' with
   |false=>rw[hg]at h;cases h
   |true=>
    rw[hg]at h;have:g=g':=by simpa using hg
    subst this;simp only[af]at h;split at h;rename_i x hx;obtain⟨z,hz,h⟩:=aY.1 h;cases h;have h1:=Ep hx;rw[bD]at h1;rw[h1,S4 (p::r) ys z hz];rfl;cases h
theorem Td {E:Env}(hE:kG P E.ty){fn:Func}{st':AS}{a':Act}{w':World}(hg:dN C g st' a' w' []){had:ar (Bool×Nat)}(hra:rJ st' E had fn.results.toList=some ys){y:jh rs}(fM:lF rs ys=some y): ∃v fp,(Go.results fn a'.tmps).run P w'=.ok v w'/\gj (fA C.A g.hw w') v (Cy rs y) fp/\fp.Nodup/\∀b∈fp,∃own,own∉had/\g.eC b=some (FJ own):=by
 have hys:=S4 rs ys y fM;let gf:ResultVar->Value:=λrv=>match (KD a'.tmps rv).run P w' with| .ok v _=>v|_=>undef
 obtain⟨amr,fp,ee,J0,LM⟩:=aid hE hg gf fn.results.toList had ys hra (λrv v hv=>by simp only[gf,hv]);have aqx:=KF (P:=P) (KD a'.tmps) gf w' fn.results (λx hx=>amr x (by simpa using hx));have ez:(Go.results fn a'.tmps).run P w'=.ok (if h:(fn.results.map gf).size=1 then(fn.results.map gf)[0] else .tuple (fn.results.map gf)) w':=by
  have:Go.results fn a'.tmps=(do
   let vs<-fn.results.mapM (KD a'.tmps)
   pure (if h:vs.size=1 then vs[0] else .tuple vs)):=by
   unfold Go.results
   congr 1
  rw[this];simp only[Sem.run_bind,aqx,Result.andThen_ok,Sem.run_pure]
 refine⟨_,fp,ez,?_,J0,LM⟩;have acp:(fn.results.map gf).toList=fn.results.toList.map gf:=by simp
 unfold Cy;rw[<-hys];cases ys with
 |nil=>
  have aaf:fn.results.toList.map gf=[]:=by cases hm:fn.results.toList.map gf with|nil=>rfl|cons u us=>rw[hm]at ee;exact ee.elim
  have xx:¬(fn.results.map gf).size=1:=by rw[<-Array.length_toList,acp,aaf];simp
  rw[dif_neg xx];exact⟨_,by rw[<-acp],ee⟩
 |cons y1 ys=>
  cases ys with
  |nil=>
   obtain⟨gg,cs⟩:=y1;cases hm:fn.results.toList.map gf with
   |nil=>rw[hm]at ee;exact ee.elim
   |cons u us=>
    rw[hm]at ee;obtain⟨f1,f2,rfl,afD,kM⟩:=ee;cases us with
    |cons _ _=>exact kM.elim
    |nil=>
     cases kM;have TE:fn.results.map gf=#[u]:=by apply eQ;rw[acp,hm]
     have:(if h:(fn.results.map gf).size=1 then(fn.results.map gf)[0] else .tuple (fn.results.map gf))=u:=by rw[dif_pos (by rw[TE];rfl)];simp only[TE];rfl
     rw[this,bD];exact afD
  |cons y2 ys=>
   have xx:¬(fn.results.map gf).size=1:=by rw[<-Array.length_toList,acp];cases hm:fn.results.toList.map gf with|nil=>simp|cons u us=>rw[hm]at ee;obtain⟨f1,f2,rfl,afD,kM⟩:=ee;cases us with|nil=>exact kM.elim|cons u2 us=>simp
   rw[dif_neg xx];exact⟨_,by rw[<-acp],ee⟩
theorem Pg {E:Env}(hE:kG P E.ty){fn:Func}{st':AS}{a':Act}{w':World}(hg:dN C g st' a' w' [])(hra:rJ st' E [] fn.results.toList=some ys){y:jh rs}(fM:lF rs ys=some y): ∃v fp,(Go.results fn a'.tmps).run P w'=.ok v w'/\gj (fA C.A g.hw w') v (Cy rs y) fp/\fp.Nodup/\∀b∈fp,∃own,g.eC b=some (FJ own):=by obtain⟨v,fp,h1,h2,h3,h4⟩:=Td hE hg hra fM;exact⟨v,fp,h1,h2,h3,λb hb=>(h4 b hb).imp λ_ h=>h.2⟩
theorem ai5 {E:Env}{rs:ar (Bool×FT)}(hS:Sound P E Γ){fn:Func}(hf:P.funcs[f]?=some fn)(Aq:(fn.name== "runtime.NumGoroutine")=false)(LN:E8 E Γ an Λ (fn.body.getD .skip)):mD P f {R:=jh rs,fn:=L8 E Γ an Λ fn rs,av:=Cy rs}:=by
 intro xs y hy;simp only at hy;unfold L8 at hy;cases hb:fn.body with
 |none=>rw[hb]at hy;cases hy
 |some c=>
  rw[hb]at hy;simp only at hy;split at hy;refine⟨⟨fn,c,hf,hb,Aq⟩,λ_ _ A w vs hA fK=>?_,λh=>(by cases h),λh=>(by cases h),λh=>(by cases h)⟩;refine calls_of_wp hf hb (wp_mono (US hS c (by rw[hb]at LN;exact LN) _ _ _ _ (Sx hA fK) hy) ?_);rintro e a' w' ⟨ex,st',he,hs,hk⟩;have main:aa (rJ st' E [] fn.results.toList) (lF rs)=some y->a'.defers=[]/\∃v,(Go.results fn a'.tmps).run P w'=.ok v w'/\∃v_1 hw fp,Ending.returned v=Ending.returned v_1/\gj (fA A hw w') v_1 (Cy rs y) fp/\fp.Nodup/\(∀b∈fp,w.heap.size<=b/\b<w'.heap.size)/\Fr (λ_=>False) w w':=by intro fM;obtain⟨g,hg⟩:=hs;refine⟨hg.defers,?_⟩;cases hra:rJ st' E [] fn.results.toList with|none=>rw[hra]at fM;cases fM|some ys=>rw[hra]at fM;obtain⟨v,fp,ez,ee,J0,LM⟩:=Pg hS.ty hg hra fM;refine⟨v,ez,v,g.hw,fp,rfl,ee,J0,λb hb=>?_,hg.frame⟩;obtain⟨own,hl⟩:=LM b hb;have:=hg.fW b _ hl;exact⟨this.2.resolve_right (λf=>f),this.1⟩
  cases e<;>cases ex<;>simp only[N2]at he;exact main hk;cases hk;exact main hk;cases hy
theorem alU {E:Env}{TP:ar (Bool×FT)}(h2:jh TP=jh rs)(hS:Sound P E Γ){fn:Func}(hf:P.funcs[f]?=some fn)(Aq:(fn.name== "runtime.NumGoroutine")=false)(LN:E8 E Γ an Λ (fn.body.getD .skip)):mD P f {R:=Bool×jh rs,fn:=evalAlt E Γ an Λ fn rs TP h2,av:=λy=>Cy rs y.2,sel:=λy=>y.1,alt:=λy=>Cy TP (cast h2.symm y.2)}:=by
 intro xs y hy;simp only at hy;unfold evalAlt at hy;cases hb:fn.body with
 |none=>rw[hb]at hy;cases hy
 |some c=>
  rw[hb]at hy;simp only at hy;split at hy;refine⟨⟨fn,c,hf,hb,Aq⟩,λ_ _ A w vs hA fK=>?_,λh=>(by cases h),λh=>(by cases h),λh=>(by cases h)⟩;refine calls_of_wp hf hb (wp_mono (US hS c (by rw[hb]at LN;exact LN) _ _ _ _ (Sx hA fK) hy) ?_);rintro e a' w' ⟨ex,st',he,hs,hk⟩
  have main:(aa (rJ st' E [] fn.results.toList) λys=>match lF rs ys with
   |some y=>some (true,y)
   |none=>match lF TP ys with
    |some y=>some (false,cast h2 y)
    |none=>none)=some y->a'.defers=[]/\∃v,(Go.results fn a'.tmps).run P w'=.ok v w'/\∃v_1 hw fp,Ending.returned v=Ending.returned v_1/\
   gj (fA A hw w') v_1 (cond y.1 (Cy rs y.2) (Cy TP (cast h2.symm y.2))) fp/\fp.Nodup/\(∀b∈fp,w.heap.size<=b/\b<w'.heap.size)/\Fr (λ_=>False) w w':=by
   intro fM
   obtain⟨g,hg⟩:=hs
   refine⟨hg.defers,?_⟩
   cases hra:rJ st' E [] fn.results.toList with
   |none=>rw[hra]at fM;cases fM
   |some ys=>
    rw[hra]at fM
    simp only[aa]at fM
    have fin:∀(rs':ar (Bool×FT))(y':jh rs'),lF rs' ys=some y'->∃v,(Go.results fn a'.tmps).run P w'=.ok v w'/\∃v_1 hw fp,Ending.returned v=Ending.returned v_1/\
     gj (fA A hw w') v_1 (Cy rs' y') fp/\fp.Nodup/\(∀b∈fp,w.heap.size<=b/\b<w'.heap.size)/\Fr (λ_=>False) w w':=by
     intro rs' y' Yq
     obtain⟨v,fp,ez,ee,J0,LM⟩:=Pg hS.ty hg hra Yq
     refine⟨v,ez,v,g.hw,fp,rfl,ee,J0,λb hb=>?_,hg.frame⟩
     obtain⟨own,hl⟩:=LM b hb
     have:=hg.fW b _ hl
     exact⟨this.2.resolve_right (λf=>f),this.1⟩
    cases h1:lF rs ys with
    |some y1=>rw[h1]at fM;cases fM;exact fin rs y1 h1
    |none=>
     rw[h1]at fM
     simp only at fM
     cases h3:lF TP ys with
     |none=>rw[h3]at fM;cases fM
     |some y1=>
      rw[h3]at fM
      cases fM
      simp only[ae,cast_cast,cast_eq]
      exact fin TP y1 h3
  cases e<;>cases ex<;>simp only[N2]at he;exact main hk;cases hk;exact main hk;cases hy
def al8 (vs:iW)(t:Nat):Value:=(vs[t/3-4096*1000003]?).getD undef
theorem amQ {c:RC}(TF:c.w=w)(GH:c.hw=hw)(LJ:∀t,t%3=0->c.iss t){all:iW}(P4:∀t,c.hdr t=al8 all t):
 ∀(j:Nat){vs:iW}{cs:ar AC}{fp:ei},bE (fA A hw w) vs cs fp->cs.all AC.af4=true->(∀i v,vs[i]?=some v->all[j+i]?=some v)->
  bE c vs (af3 j cs) fp/\bE c vs (GU j cs) []:=by
 intro j vs
 induction vs generalizing j with
 |nil=>intro cs fp h _ _;cases cs with
  |nil=>exact⟨h,rfl⟩
  |cons _ _=>exact h.elim
 |cons v vs ih=>
  intro cs fp h lg LH
  cases cs with
  |nil=>exact h.elim
  |cons x cs=>
   obtain⟨f1,f2,rfl,h1,h2⟩:=h
   simp only[bV,ah]at lg
   obtain⟨i1,i2⟩:=ih (j+1) h2 lg.2 (λi u hu=>by rw[show j+1+i=j+(i+1) by omega];exact LH (i+1) u (by simpa using hu))
   have SW:=LH 0 v rfl
   rw[dZ]at SW
   have nm:c.iss (FC j)/\v=c.hdr (FC j):=by refine⟨LJ _ (by unfold FC;omega),?_⟩;rw[P4,al8,show FC j/3-4096*1000003=j by unfold FC;omega,SW];rfl
   have flt:x.hY=true->af3 j (x::cs)=x::af3 (j+1) cs/\GU j (x::cs)=x::GU (j+1) cs->bE c (v::vs) (af3 j (x::cs)) (f1++f2)/\bE c (v::vs) (GU j (x::cs)) []:=by rintro hf ⟨e1,e2⟩;obtain⟨rfl,k⟩:=nA (c':=c) h1 hf;rw[e1,e2];exact⟨⟨[],f2,rfl,k,i1⟩,⟨[],[],rfl,k,i2⟩⟩
   cases x with
   |sl fl e xs=>
    cases fl with
    |own t=>
     have fB:eU c.hw c.w (.sl e) [v] xs f1:=by rw[GH,TF];exact h1.1
     refine⟨⟨f1,f2,rfl,⟨fB,λq hq=>by cases hq;exact nm⟩,i1⟩,⟨[],[],rfl,⟨rfl,eh _,QC fB,λ_=>eU.rep (λb o ho=> .inr ho) fB,λr t hp=>?_⟩,i2⟩⟩
     cases hp
     exact⟨nm.1,nm.2⟩
    |arg _=>cases lg.1
    |loc ep pv=>cases lg.1
    |nest _ _ _ _ _ _=>cases lg.1
    |part _ _ _ _=>cases lg.1
    |fL _ _ _=>cases lg.1
   |int k n=>exact flt rfl ⟨rfl,rfl⟩
   |bool b=>exact flt rfl ⟨rfl,rfl⟩
   |str s=>exact flt rfl ⟨rfl,rfl⟩
   |fn f=>exact flt rfl ⟨rfl,rfl⟩
   |kS=>cases lg.1
   |ptr s off=>cases lg.1
   |HM fl e y i off=>cases lg.1
   |un=>cases lg.1
   |bot=>cases lg.1
theorem aef (hA:∀k b o,A k b o->b<w.heap.size/\b∉fp){fn:Func}{v0:Value}{us:iW}(eP:Cut gg v0 us)(ee:bE (fA A hw w) us cs fp)(lg:cs.all AC.af4=true)(hn:fp.Nodup)(iJ:∀b∈fp,b<w.heap.size)(h:pc A w vs xs): pL ⟨A,λb=>b∈fp,w,us,λk b o hb=>hA k b o hb⟩ (NM fn gg cs xs) {tmps:=(v0::vs).toArray++Array.replicate (fn.ntmps-(v0::vs).toArray.size) undef,defers:=[]} w:=by
 obtain⟨hl,hi⟩:=JI h;let C:Ctx:=⟨A,λb=>b∈fp,w,us,λk b o hb=>hA k b o hb⟩
 let g:Gh:=⟨hw,λ_=>0,λb=>if b∈fp then some .io else none,al8 us⟩
 have hle:(fA A (λ_=>0) w).Le (cP C g (NM fn gg cs xs) w):=⟨rfl,λt ht=>ht.elim,λ_ _ _ _ _ hv=>hv,ba _,λs hs=>hs.elim,λ_ b o u ho _=>absurd ho (Nat.not_lt_zero _)⟩
 obtain⟨k1,k2⟩:=amQ (c:=cP C g (NM fn gg cs xs) w) (A:=A) rfl rfl (λt ht=> .inl (by omega)) (all:=us) (λt=>rfl) 0 ee lg (λi v hv=>by rw[cv];exact hv);refine⟨g,rfl,?_,?_,λi av hs=>?_,λs pb hs=>?_,λk v av hk=>by simp at hk,λb x hx=>?_,Fr.refl _ _,⟨fp,k1,hn,λb hb=>by show(if b∈fp then _ else _)=_;rw[aM hb]⟩⟩;simp[NM,qY,hl];omega;·simp[NM,qY];try omega
 have yu:((.val gg (GU 0 cs)::xs)++List.replicate (fn.ntmps-(.val gg (GU 0 cs)::xs).length) AV.bot)[i]?=some av:=hs;rcases bS i (xs.length+1)with ajb|Fp;rw[bI (by simpa using ajb)]at yu;cases i with
 |zero=>
  simp at yu;subst yu;refine⟨[],?_,by simp,by simp⟩;have hvv:((v0::vs).toArray++Array.replicate (fn.ntmps-(v0::vs).toArray.size) undef).getD 0 undef=v0:=by simp[db,Array.getElem?_append]
  show gj _ (((v0::vs).toArray++Array.replicate (fn.ntmps-(v0::vs).toArray.size) undef).getD 0 undef) _ _;rw[hvv];exact⟨us,eP,k2⟩
 |succ i=>
  obtain⟨v,hv,hr⟩:=hi i av (by simpa using yu);refine⟨[],?_,by simp,by simp⟩;have hvv:((v0::vs).toArray++Array.replicate (fn.ntmps-(v0::vs).toArray.size) undef).getD (i+1) undef=v:=by
   have amg:i<vs.length:=by omega
   have hv':vs[i]=v:=by rw[al amg]at hv;exact cY hv
   simp[db,Array.getElem?_append,amg,hv']
  show gj _ (((v0::vs).toArray++Array.replicate (fn.ntmps-(v0::vs).toArray.size) undef).getD (i+1) undef) _ _;rw[hvv];exact hr.mono hle (by simp)
 rw[bw (by simpa using Fp),dE]at yu;split at yu;cases yu;exact⟨[],gj.bot _ _,by simp,by simp⟩;cases yu;have yu:(List.replicate ((AV.val gg (GU 0 cs)::xs).length+(fn.ntmps-(AV.val gg (GU 0 cs)::xs).length)) (none:au (ar AC)))[s]?=some (some pb):=hs;rw[dE]at yu;split at yu<;>cases yu;have Fe:(if b∈fp then some ki.io else none)=some x:=hx;split at Fe;rename_i hm;exact⟨iJ b hm,.inr hm⟩;cases Fe
theorem azP {E:Env}{rs:ar (Bool×FT)}{t:CT}(hS:Sound P E Γ){fn:Func}(hf:P.funcs[f]?=some fn)(Aq:(fn.name== "runtime.NumGoroutine")=false)(LN:E8 E Γ an Λ (fn.body.getD .skip)):mD P f {R:=jh rs×t.D,fn:=afs E Γ an Λ fn rs t,av:=λy=>Cy rs y.1,io:=true,back:=λy=>cellsOf t (.own none) y.2}:=by
 intro xs y hy;simp only at hy;unfold afs at hy;split at hy;rename_i c gg cs rest hb;split at hy;rename_i hlen;refine⟨⟨fn,c,hf,hb,Aq⟩,λh=>(by cases h),λ_ g0 W0 anv he A w v0 vs hw fp hA ee hn iJ fK=>?_,λh=>(by cases h),λh=>(by cases h)⟩;injection he with he1 he2;injection he1 with he1 he3;subst he1;subst he2;subst he3;obtain⟨us,eP,ee⟩:=ee;refine calls_of_wp hf hb (wp_mono (US hS c (by rw[hb]at LN;exact LN) _ _ _ _ (aef (fn:=fn) hA eP ee hlen.2 hn iJ fK) hy) ?_);rintro e a' w' ⟨ex,st',he,hs,hk⟩
 have main:(aa (aa (rJ st' E [] fn.results.toList) (lF rs)) λr=>match jP t st'.io with|some (x,[])=>some (r,x)|_=>none)=some y->
  a'.defers=[]/\∃v,(Go.results fn a'.tmps).run P w'=.ok v w'/\∃v_1 hw' fr ji,Ending.returned v=Ending.returned v_1/\gj (fA A hw' w') v_1 (Cy rs y.1) fr/\gj (fA A hw' w') v0 (.val gg (cellsOf t (.own none) y.2)) ji/\ji.Nodup/\(∀b∈ji,b<w'.heap.size/\(b∈fp\/w.heap.size<=b))/\Fr (λb=>b∈fp) w w':=by
  intro fM
  obtain⟨g,hg⟩:=hs
  refine⟨hg.defers,?_⟩
  cases hra:rJ st' E [] fn.results.toList with
  |none=>rw[hra]at fM;cases fM
  |some ys=>
   rw[hra]at fM
   simp only[aa]at fM
   cases hrr:lF rs ys with
   |none=>rw[hrr]at fM;cases fM
   |some r0=>
    rw[hrr]at fM
    simp only at fM
    split at fM
    ·rename_i x hx
     cases fM
     obtain⟨v,fr,ez,zI,J0,LM⟩:=Pg hS.ty hg hra hrr
     obtain⟨ji,P5,Fq,hl'⟩:=hg.io
     obtain⟨f1,f2,rfl,fB,kM⟩:=rh P5 hx
     have aaf:us.drop t.size=[]:=by cases hd:us.drop t.size with|nil=>rfl|cons _ _=>have Vu:bE _ (us.drop t.size) _ _:=kM;rw[hd]at Vu;exact Vu.elim
     have JF:f2=[]:=by have Vu:bE _ (us.drop t.size) [] f2:=kM;rw[aaf]at Vu;exact Vu
     subst JF
     rw[bD]at Fq hl'
     have amt:us.take t.size=us:=by have:=cK t.size us;rw[aaf,bD]at this;exact this
     have Jb:eU g.hw w' t us x f1:=by have Jb:eU g.hw w' t (us.take t.size) x f1:=fB;rwa[amt]at Jb
     refine⟨v,ez,v,g.hw,fr,f1,rfl,zI,⟨us,eP,wE (c:=fA A g.hw w') Jb⟩,Fq,λb hb=>?_,hg.frame⟩
     have:=hg.fW b _ (hl' b hb)
     exact⟨this.1,this.2.symm⟩
    ·cases fM
 cases e<;>cases ex<;>simp only[N2]at he;exact main hk;cases hk;exact main hk;cases hy;cases hy
theorem aiJ {c:RC}(hcA:c.A=A)(TF:c.w=w)(GH:c.hw=hw)(LJ:∀t,t%3=1->c.iss t){all:iW}(P4:∀t,c.hdr t=(all[t/3]?).getD undef):
 ∀(j:Nat){vs:iW}{cs:ar AC}{fp:ei},bE (fA A hw w) vs cs fp->cs.all (AC.Fa true)=true->(∀i v,vs[i]?=some v->all[j+i]?=some v)->bE c vs (PH j cs) fp:=by
 intro j vs
 induction vs generalizing j with
 |nil=>intro cs fp h _ _;cases cs with
  |nil=>exact h
  |cons _ _=>exact h.elim
 |cons v vs ih=>
  intro cs fp h lg LH
  cases cs with
  |nil=>exact h.elim
  |cons x cs=>
   obtain⟨f1,f2,rfl,h1,h2⟩:=h
   simp only[bV,ah]at lg
   have i1:=ih (j+1) h2 lg.2 (λi u hu=>by rw[show j+1+i=j+(i+1) by omega];exact LH (i+1) u (by simpa using hu))
   have SW:=LH 0 v rfl
   rw[dZ]at SW
   have flt:x.hY=true->PH j (x::cs)=x::PH (j+1) cs->bE c (v::vs) (PH j (x::cs)) (f1++f2):=by rintro hf e1;obtain⟨rfl,k⟩:=nA (c':=c) h1 hf;rw[e1];exact⟨[],f2,rfl,k,i1⟩
   cases x with
   |sl fl e xs=>
    cases fl with
    |own t=>
     have fB:eU c.hw c.w (.sl e) [v] xs f1:=by rw[GH,TF];exact h1.1
     refine⟨f1,f2,rfl,⟨fB,λq hq=>?_⟩,i1⟩
     cases hq
     refine⟨LJ _ (by omega),?_⟩
     rw[P4,show(3*j+1)/3=j by omega,SW];rfl
    |arg k=>
     have hk:k=true:=by simpa[AC.Fa]using lg.1
     subst hk
     exact⟨f1,f2,rfl,⟨h1.1,by rw[TF,hcA];exact h1.2⟩,i1⟩
    |loc ep pv=>cases lg.1
    |nest _ _ _ _ _ _=>cases lg.1
    |part _ _ _ _=>cases lg.1
    |fL _ _ _=>cases lg.1
   |int k n=>exact flt rfl rfl
   |bool b=>exact flt rfl rfl
   |str s=>exact flt rfl rfl
   |fn f=>exact flt rfl rfl
   |kS=>cases lg.1
   |ptr s off=>cases lg.1
   |HM fl e y i off=>cases lg.1
   |un=>cases lg.1
   |bot=>cases lg.1
theorem abb {b:Nat}(hA:∀k b' o,A k b' o->b'<w.heap.size/\b'≠b/\b'∉fp){fn:Func}{arr:Array Value}{T:TypeId}{fr:Nat×Nat}(kL:w.heap[b]?=some (.cells arr T fr))(uI:tp arr fr)(ee:bE (fA A hw w) arr.toList cs fp)(lg:cs.all (AC.Fa true)=true)(hn:fp.Nodup)(xk:b∉fp)(iJ:∀b'∈fp,b'<w.heap.size)(Ob:hw b=0)(h:pc A w vs xs): pL ⟨A,λb'=>b'=b\/b'∈fp,w,[.pointer (some ⟨b,0,none⟩)],λk b' o hb=>⟨(hA k b' o hb).1,λhm=>hm.elim (hA k b' o hb).2.1 (hA k b' o hb).2.2⟩⟩ (Hy fn cs xs) {tmps:=(.pointer (some ⟨b,0,none⟩)::vs).toArray++Array.replicate (fn.ntmps-(Value.pointer (some ⟨b,0,none⟩)::vs).toArray.size) undef,defers:=[]} w:=by
 obtain⟨hl,hi⟩:=JI h;let v0:Value:=.pointer (some ⟨b,0,none⟩);let C:Ctx:=⟨A,λb'=>b'=b\/b'∈fp,w,[v0],λk b' o hb=>⟨(hA k b' o hb).1,λhm=>hm.elim (hA k b' o hb).2.1 (hA k b' o hb).2.2⟩⟩
 let g:Gh:=⟨hw,λ_=>b,λb'=>if b'=b\/b'∈fp then some (.box 0) else none,λt=>(arr.toList[t/3]?).getD undef⟩
 have LU:=oo kL;have uH:ij (Hy fn cs xs) 0:=⟨PH 0 cs,rfl⟩
 have hle:(fA A (λ_=>0) w).Le (cP C g (Hy fn cs xs) w):=⟨rfl,λt ht=>ht.elim,λ_ _ _ _ _ hv=>hv,ba _,λs hs=>hs.elim,λ_ b o u ho _=>absurd ho (Nat.not_lt_zero _)⟩
 have k1:=aiJ (c:=cP C g (Hy fn cs xs) w) (A:=A) rfl rfl rfl (λt ht=> .inl (by omega)) (all:=arr.toList) (λt=>rfl) 0 ee lg (λi v hv=>by rw[cv];exact hv);refine⟨g,rfl,?_,?_,λi av hs=>?_,λs pb hs=>?_,λk v av hk=>by simp at hk,λb' x hx=>?_,Fr.refl _ _,⟨[],⟨[],[],rfl,⟨rfl,uH,rfl⟩,rfl⟩,by simp,by simp⟩⟩;simp[Hy,qY,hl];omega;simp[Hy,qY];have yu:((.one (.ptr 0 0)::xs)++List.replicate (fn.ntmps-(AV.one (.ptr 0 0)::xs).length) AV.bot)[i]?=some av:=hs;rcases bS i (xs.length+1)with ajb|Fp;rw[bI (by simpa using ajb)]at yu;cases i with
 |zero=>
  simp at yu;subst yu;refine⟨[],?_,by simp,by simp⟩;have hvv:((v0::vs).toArray++Array.replicate (fn.ntmps-(v0::vs).toArray.size) undef).getD 0 undef=v0:=by simp[db,Array.getElem?_append]
  show gj _ (((v0::vs).toArray++Array.replicate (fn.ntmps-(v0::vs).toArray.size) undef).getD 0 undef) _ _;rw[hvv];exact oP ⟨rfl,uH,rfl⟩
 |succ i=>
  obtain⟨v,hv,hr⟩:=hi i av (by simpa using yu);refine⟨[],?_,by simp,by simp⟩;have hvv:((v0::vs).toArray++Array.replicate (fn.ntmps-(v0::vs).toArray.size) undef).getD (i+1) undef=v:=by
   have amg:i<vs.length:=by omega
   have hv':vs[i]=v:=by rw[al amg]at hv;exact cY hv
   simp[db,Array.getElem?_append,amg,hv']
  show gj _ (((v0::vs).toArray++Array.replicate (fn.ntmps-(v0::vs).toArray.size) undef).getD (i+1) undef) _ _;rw[hvv];exact hr.mono hle (by simp)
 rw[bw (by simpa using Fp),dE]at yu;split at yu;cases yu;exact⟨[],gj.bot _ _,by simp,by simp⟩;cases yu;have yu:(some (PH 0 cs)::List.replicate (xs.length+(fn.ntmps-(xs.length+1))) (none:au (ar AC)))[s]?=some (some pb):=hs;cases s with|zero=>simp at yu;subst yu;refine⟨arr,T,fr,fp,kL,uI,k1,hn,xk,λb' ig=>?_,?_,Ob⟩;show(if b'=b\/b'∈fp then _ else _)=_;rw[aM (.inr ig)];show(if b=b\/b∈fp then _ else _)=_;rw[aM (.inl rfl)]|succ s=>simp only[fg,dE]at yu;split at yu<;>cases yu
 have Fe:(if b'=b\/b'∈fp then some (ki.box 0) else none)=some x:=hx;split at Fe;rename_i hm;rcases hm with rfl|hm;exact⟨LU,.inr (.inl rfl)⟩;exact⟨iJ b' hm,.inr (.inr hm)⟩;cases Fe
theorem ars {E:Env}{rs:ar (Bool×FT)}{t:FT}(hS:Sound P E Γ){fn:Func}(hf:P.funcs[f]?=some fn)(Aq:(fn.name== "runtime.NumGoroutine")=false)(LN:E8 E Γ an Λ (fn.body.getD .skip)):mD P f {R:=jh rs×t.ct.D,fn:=Z3 E Γ an Λ fn rs t,av:=λy=>Cy rs y.1,back:=λy=>jW t y.2,bx:=true}:=by
 intro xs y hy;simp only at hy;unfold Z3 at hy;split at hy;rename_i c cs rest hb;split at hy;rename_i hlen;refine⟨⟨fn,c,hf,hb,Aq⟩,λ_ h=>(by cases h),λh=>(by cases h),λ_ W0 anv he A w b vs arr T fr hw fp hA kL uI ee hn xk iJ Ob fK=>?_,λh=>(by cases h)⟩;injection he with he1 he2;injection he1 with _ he3;subst he2;subst he3;refine calls_of_wp hf hb (wp_mono (US hS c (by rw[hb]at LN;exact LN) _ _ _ _ (abb (fn:=fn) hA kL uI ee hlen.2 hn xk iJ Ob fK) hy) ?_);rintro e a' w' ⟨ex,st',he,hs,hk⟩
 have main:(aa (aa (rJ st' E [(true,0)] fn.results.toList) (lF rs)) λr=>match st'.io,st'.boxes with
  |[.ptr 0 0],some pb::_=>(match Ud t (pb.map AC.strip)with|some (x,[])=>some (r,x)|_=>none)
  |_,_=>none)=some y->
  a'.defers=[]/\∃v,(Go.results fn a'.tmps).run P w'=.ok v w'/\∃v_1 hw' fv jV T' Yh ji,Ending.returned v=Ending.returned v_1/\gj (fA A hw' w') v_1 (Cy rs y.1) fv/\w'.heap[b]?=some (.cells jV T' Yh)/\tp jV Yh/\
    bE (fA A hw' w') jV.toList (jW t y.2) ji/\ji.Nodup/\b∉ji/\(∀b'∈ji,b'<w'.heap.size/\(b'∈fp\/w.heap.size<=b'))/\fv.Nodup/\(∀b'∈fv,b'<w'.heap.size/\(b'∈fp\/w.heap.size<=b')/\b'∉ji/\b'≠b)/\Fr (λb'=>b'=b\/b'∈fp) w w':=by
  intro fM
  obtain⟨g,hg⟩:=hs
  refine⟨hg.defers,?_⟩
  cases hra:rJ st' E [(true,0)] fn.results.toList with
  |none=>rw[hra]at fM;cases fM
  |some ys=>
   rw[hra]at fM
   simp only[aa]at fM
   cases hrr:lF rs ys with
   |none=>rw[hrr]at fM;cases fM
   |some r0=>
    rw[hrr]at fM
    simp only at fM
    split at fM
    ·rename_i pb tl P5 kW
     split at fM
     ·rename_i x hx
      cases fM
      obtain⟨v,fv,ez,zI,J0,LM⟩:=Td hS.ty hg hra hrr
      obtain⟨fpi,hri,_,_⟩:=hg.io
      rw[P5]at hri
      obtain⟨g1,g2,_,aAl,_⟩:=hri
      have O4:b=g.β 0:=by have:=aAl.1;simp only[Value.pointer.injEq,bf,Addr.mk.injEq]at this;exact this.1
      obtain⟨jV,T',Yh,ji,P1,acx,hr',Fq,NV,hl',arG,_⟩:=hg.boxes 0 pb (by rw[kW];rfl)
      rw[<-O4]at P1 NV arG
      have nm:=EB hr'
      have P9:=Ep hx
      rw[bD]at P9
      rw[P9]at nm
      have hM:∀b',(w.heap.size<=b'\/(b'=b\/b'∈fp))->b'≠b->b'∈fp\/w.heap.size<=b':=by rintro b' (h2|h2|h2) JG;exact .inr h2;exact absurd h2 JG;exact .inl h2
      refine⟨v,ez,v,g.hw,fv,jV,T',Yh,ji,rfl,zI,P1,acx,nm,Fq,NV,λb' ig=>?_,J0,λb' ig=>?_,hg.frame⟩
      ·have:=hg.fW b' _ (hl' b' ig)
       exact⟨this.1,hM b' this.2 (λe=>NV (e▸ig))⟩
      ·obtain⟨own,TG,Ym⟩:=LM b' ig
       have Nn:g.eC b'≠some (.box 0):=by rw[Ym];intro e;have e2:FJ own=FJ (true,0):=cY e;exact TG (by rw[S5 e2];simp)
       have JG:b'≠b:=λe=>Nn (by rw[e];exact arG)
       have:=hg.fW b' _ Ym
       exact⟨this.1,hM b' this.2 JG,λhm=>Nn (hl' b' hm),JG⟩
     ·cases fM
    ·cases fM
 cases e<;>cases ex<;>simp only[N2]at he;exact main hk;cases hk;exact main hk;cases hy;cases hy
theorem art {E:Env}{t:FT}(hS:Sound P E Γ){fn:Func}(hf:P.funcs[f]?=some fn)(Aq:(fn.name== "runtime.NumGoroutine")=false)(LN:E8 E Γ an Λ (fn.body.getD .skip)):mD P f {R:=t.ct.D,fn:=T7 E Γ an Λ fn t,av:=λ_=> .bot,back:=λy=>jW t y,pr:=true}:=by
 intro xs y hy;simp only at hy;unfold T7 at hy;cases hb:fn.body with
 |none=>rw[hb]at hy;cases hy
 |some c=>
  rw[hb]at hy;simp only at hy;split at hy;have key:apI P f {R:=t.ct.D,fn:=T7 E Γ an Λ fn t,av:=λ_=> .bot,back:=λy=>jW t y,pr:=true} y xs:=by
   intro A w vs hA fK;refine calls_of_wp hf hb (wp_mono (US hS c (by rw[hb]at LN;exact LN) _ _ _ _ (Sx hA fK) hy) ?_);rintro e a' w' ⟨ex,st',he,hs,hk⟩
   have main:(match fn.results.toList with
    |[.tmp i]=>match st'.get i with
     | .val false [.ptr s 0]=>match (nth st'.boxes s).getD none with
       |some cs=>if cs.all AC.Ru=true then(match Ud t (cs.map AC.strip)with|some (x,[])=>some x|_=>none) else none
       |none=>none
     |_=>none
    |_=>none)=some y->a'.defers=[]/\∃v,(Go.results fn a'.tmps).run P w'=.ok v w'/\∃b arr T fr hw,Ending.returned v=.returned (.pointer (some ⟨b,0,none⟩))/\w.heap.size<=b/\w'.heap[b]?=some (.cells arr T fr)/\tp arr fr/\bE (fA A hw w') arr.toList (jW t y) []/\Fr (λ_=>False) w w':=by
    intro fM
    obtain⟨g,hg⟩:=hs
    refine⟨hg.defers,?_⟩
    split at fM
    ·rename_i i hri
     split at fM
     ·rename_i s hp
      cases kW:(nth st'.boxes s).getD none with
      |none=>rw[kW]at fM;cases fM
      |some cs=>
       rw[kW]at fM
       simp only at fM
       split at fM
       ·rename_i lg
        split at fM
        ·rename_i x hx
         cases fM
         have kW:st'.boxes[s]?=some (some cs):=by rw[dY]at kW;cases hq:st'.boxes[s]? with|none=>rw[hq]at kW;simp at kW|some q=>rw[hq]at kW;simp at kW;rw[kW]
         obtain⟨fp0,Ab,_,_⟩:=hg.slot i
         rw[hp]at Ab
         have Ab:=Ik Ab
         obtain⟨arr,T,fr,fp,kL,uI,ee,hn,xk,hl,LW,Ob⟩:=hg.boxes s cs kW
         obtain⟨HD,vs,eP,Vt⟩:=arg_val (c:=cP _ g st' w') (c':=cP _ g st' w') rfl rfl (v:=.agg arr.toList.toArray) (x:=.val true cs) ⟨arr.toList,rfl,ee⟩ lg
         have hvs:arr.toList=vs:=by have eP:Value.agg arr.toList.toArray=.agg vs.toArray:=eP;simp only[Value.agg.injEq]at eP;simpa using congrArg Array.toList eP
         rw[<-hvs]at Vt
         have nm:=EB Vt
         have P9:=Ep hx
         rw[bD]at P9
         rw[P9]at nm
         have ez:(Go.results fn a'.tmps).run P w'=.ok (a'.tmps.getD i undef) w':=by
          have he:fn.results=#[.tmp i]:=by apply eQ;exact hri
          have aqx:=KF (P:=P) (KD a'.tmps) (λ_=>a'.tmps.getD i undef) w' fn.results (λx hx=>by rw[he]at hx;simp at hx;subst hx;rfl)
          have hd:Go.results fn a'.tmps=(do
           let vs<-fn.results.mapM (KD a'.tmps)
           pure (if h:vs.size=1 then vs[0] else .tuple vs)):=by
           unfold Go.results
           congr 1
          rw[hd];simp only[Sem.run_bind,aqx,Result.andThen_ok,Sem.run_pure];rw[he];simp
         refine⟨_,ez,g.β s,arr,T,fr,g.hw,congrArg Ending.returned Ab,?_,kL,uI,nm,hg.frame⟩
         exact(hg.fW _ _ LW).2.resolve_right (λf=>f)
        ·cases fM
       ·cases fM
     ·cases fM
    ·cases fM
   cases e<;>cases ex<;>simp only[N2]at he;exact main hk;cases hk;exact main hk
  refine⟨⟨fn,c,hf,hb,Aq⟩,λ_ _ A w vs hA fK=>?_,λh=>(by cases h),λh=>(by cases h),λ_=>key⟩;refine(key A w vs hA fK).mono ?_;rintro e w' ⟨b,arr,T,fr,hw,rfl,_,_,_,_,iA⟩;exact⟨_,hw,[],rfl,gj.bot _ _,List.nodup_nil,(λb hb=>by cases hb),iA⟩;cases hy
end Go.Dn
