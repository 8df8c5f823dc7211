import Derived.Test.YtfbhfnniblfpbaaGreatDnAny
/- The soundness of the abstract semantics: code and functions. -/
namespace Go.Dn
open Go.RowKit
variable {P:Program} {C:Ctx} {st:AS} {a:Act} {w:World} {R:Type} {r:R}
variable {an:An} {gg:Bool} {Γ:xV} {g:Gh} {Λ:GD} {f:Nat} {hw:Nat->Nat} {A:Rg} {rs:aq (Bool×FT)} {ys:aq (Bool×aq AC)} {cs:aq AC} {xs:aq AV} {fp:dX} {vs:ie}
def IE:Exit->Ex->Prop
 | .normal,.normal=>True
 | .ret,.ret=>True
 | .exit i,.exit j=>i=j
 |_,_=>False
def ai3 (C:Ctx)(K:Ex->AS->au R)(r:R)(e:Exit)(a:Act)(w:World):Prop:=
 ∃ex st',IE e ex/\nv C st' a w/\K ex st'=some r
theorem acO {E:Env}(hS:Sound P E Γ){id:Nat}{ops:Array Oper}{d:Bool}(h:nv C st a w){K:AS->au R}(hk:T9 E Γ an id ops.toList d st K=some r){Q:Exit->Act->World->Prop}(hq:∀st' a' w',nv C st' a' w'->K st'=some r->Q .normal a' w'):(Code.region id ops d).wp P Q a w:=by
 unfold T9 at hk;split at hk;rw[Oq]at hk;cases ho:GY E Γ an ops.toList d st some with|none=>rw[ho]at hk;cases hk|some st1=>rw[ho]at hk;exact aam hS h ho (λa' w' hs=>hq _ _ _ hs hk)
 rename_i s hm;split at hk;rename_i aix;rw[Oq]at hk;cases ho:GY E Γ.calm an ops.toList d st some with|none=>rw[ho]at hk;cases hk|some st1=>rw[ho]at hk;simp only[eC]at hk;cases hb:getBool st1 s with|none=>rw[hb]at hk;cases hk|some b=>rw[hb]at hk;simp only[aa]at hk;have hn:=acq (agk Γ) (λo Nj=>aW.1 aix o Nj) ho;exact aam hS.calm h ho (λa' w' hs=>hq _ _ _ (hs.weaken hn hb) hk)
 cases hk
def XJ (E:Env)(Γ:xV)(an:An)(Λ:GD)(c:Code):Prop:=
 ∃n,∀(R:Type)(st:AS)(K:Ex->AS->au R)(r:R),(Λ (dz c)).go st K=some r->AU (an.mask (dz c)) (den E Γ an Λ c) n st K=some r
def COk (E:Env)(Γ:xV)(an:An)(Λ:GD)(c:Code):Prop:=
 ∀(R:Type)(st:AS)(K:Ex->AS->au R)(r:R),(Λ (yb c)).go st K=some r->den E Γ an Λ c st (λe st'=>K e (st'.mask (an.mask (yb c+1))))=some r
def AM (E:Env)(Γ:xV)(an:An)(Λ:GD)(c:Code):Prop:=(∀c'∈iq c,XJ E Γ an Λ c')/\∀c'∈kA an.cut c,COk E Γ an Λ c'
theorem adN (c:Code):kA [] c=[]:=by induction c with|seq a b iha ihb=>simp[kA,iha,ihb]|cond _ a b iha ihb=>simp[kA,iha,ihb]|block _ c ih=>simpa[kA]using ih|loop c ih=>simpa[kA]using ih|_=>rfl
theorem AM.of {E:Env}{c:Code}(h:∀c'∈iq c,XJ E Γ an Λ c')(hc:an.cut=[]):AM E Γ an Λ c:=⟨h,by rw[hc,adN];simp⟩
theorem Oh {E:Env}(hS:Sound P E Γ):∀(c:Code)(_:AM E Γ an Λ c)(st:AS)(a:Act)(w:World)(K:Ex->AS->au R),nv C st a w->den E Γ an Λ c st K=some r->c.wp P (ai3 C K r) a w:=by
 intro c;induction c with
 |skip=>intro GJ st a w K h hk;exact wp_skip ⟨.normal,st,bN,h,hk⟩
 |region id ops d=>intro GJ st a w K h hk;exact acO hS h (by simpa only[den]using hk) (λst' a' w' hs he=>⟨.normal,st',bN,hs,he⟩)
 |seq x y ihx ihy=>
  intro GJ st a w K h hk;have ihx:=ihx ⟨λc hc=>GJ.1 c (by simp[iq,hc]),λc hc=>GJ.2 c (by simp[kA,hc])⟩;have ihy:=ihy ⟨λc hc=>GJ.1 c (by simp[iq,hc]),λc hc=>GJ.2 c (by simp only[kA];cases an.cut.contains (dz y)<;>simp[hc])⟩;simp only[den]at hk;refine wp_seq (wp_mono (ihx st a w _ h hk) ?_);rintro e a' w' ⟨ex,st',he,hs,Ha⟩;cases e<;>cases ex<;>simp only[IE]at he;simp only at Ha;cases eh:an.cut.contains (dz y)with|false=>rw[eh]at Ha;exact ihy st' a' w' K hs Ha|true=>rw[eh]at Ha;have hc:=GJ.2 y (by simp only[kA,eh];simp) _ _ _ _ Ha;refine wp_mono (ihy _ a' w' _ (hs.mask _) hc) ?_;rintro e2 a2 w2 ⟨ex2,st2,he2,hs2,hk2⟩;exact⟨ex2,_,he2,hs2.mask _,hk2⟩
  exact⟨.exit _,st',he,hs,Ha⟩;exact⟨.ret,st',bN,hs,Ha⟩
 |cond c x y ihx ihy=>
  intro GJ st a w K h hk;have ihx:=ihx ⟨λc hc=>GJ.1 c (by simp[iq,hc]),λc hc=>GJ.2 c (by simp[kA,hc])⟩;have ihy:=ihy ⟨λc hc=>GJ.1 c (by simp[iq,hc]),λc hc=>GJ.2 c (by simp[kA,hc])⟩;simp only[den]at hk;split at hk;rename_i t hc;have hv:a.eval c=.bool t:=by obtain⟨g,hg⟩:=h;have:=hg.rd c;rw[hc]at this;exact xl this
  cases t with|true=>exact wp_cond_true hv (ihx st a w K h hk)|false=>exact wp_cond_false hv (ihy st a w K h hk)
  cases hk
 |block id c ih=>intro GJ st a w K h hk;have ih:=ih ⟨λc hc=>GJ.1 c (by simpa[iq]using hc),λc hc=>GJ.2 c (by simpa[kA]using hc)⟩;simp only[den]at hk;refine wp_block (wp_mono (ih st a w _ h hk) ?_);rintro e a' w' ⟨ex,st',he,hs,Ha⟩;cases e<;>cases ex<;>simp only[IE]at he;exact⟨.normal,st',bN,hs,Ha⟩;rename_i i j;subst he;simp only[Exit.inBlock];simp only at Ha;by_cases hi:i=id;subst hi;rw[aG rfl];simp only[fZ,bL]at Ha;exact⟨.normal,st',bN,hs,Ha⟩;rw[aF hi];rw[aF (by simpa using hi)]at Ha;exact⟨.exit i,st',rfl,hs,Ha⟩;exact⟨.ret,st',bN,hs,Ha⟩
 |loop c ih=>
  intro GJ st a w K h hk;have ih:=ih ⟨λc hc=>GJ.1 c (by simp[iq,hc]),λc hc=>GJ.2 c (by simpa[kA]using hc)⟩;obtain⟨n,hn⟩:=GJ.1 c (by simp[iq]);simp only[den]at hk;intro b k cs
  have key:∀m st a w,nv C st a w->AU (an.mask (dz c)) (den E Γ an Λ c) m st K=some r->
   ∃e a' w',ai3 C K r e a' w'/\Arrives P (lone (b.at a (.code c:: .inLoop c::k)) cs w) b k cs e a' w':=by
   intro m
   induction m with
   |zero=>intro st a w _ hk;cases hk
   |succ m ihm=>
    intro st a w h hk
    simp only[AU]at hk
    obtain⟨e,XT,Z2,⟨ex,st',he,hs,Ha⟩,Ng⟩:=ih st a w _ h hk b (.inLoop c::k) cs
    cases e<;>cases ex<;>simp only[IE]at he
    ·obtain⟨ah8,ah0,aiV,aew,Tj⟩:=ihm _ XT Z2 (hs.mask _) Ha
     exact⟨ah8,ah0,aiV,aew,.of_steps (Steps.trans Ng (.one step_inLoop)) Tj⟩
    ·exact⟨.exit _,XT,Z2,⟨.exit _,_,he,hs.mask _,Ha⟩,.pass (x:=.inLoop c) rfl (λ_ _=> .inl (by simp)) Ng⟩
    ·exact⟨.ret,XT,Z2,⟨.ret,_,bN,hs.mask _,Ha⟩,.pass (x:=.inLoop c) rfl (λ_ _=> .inl (by simp)) Ng⟩
  cases hp:an.peel.contains (dz c)with
  |false=>rw[hp]at hk;obtain⟨e,a',w',hq,Ng⟩:=key n _ a w (h.mask _) (hn _ _ _ _ hk);exact⟨e,a',w',hq,.of_steps (.one step_loop) Ng⟩
  |true=>rw[hp]at hk;simp only[af]at hk;obtain⟨e,XT,Z2,⟨ex,st',he,hs,Ha⟩,Ng⟩:=ih _ a w _ (h.mask _) hk b (.inLoop c::k) cs;cases e<;>cases ex<;>simp only[IE]at he;obtain⟨ah8,ah0,aiV,aew,Tj⟩:=key n _ XT Z2 (hs.mask _) (hn _ _ _ _ Ha);exact⟨ah8,ah0,aiV,aew,.of_steps (Steps.trans (.one step_loop) (Steps.trans Ng (.one step_inLoop))) Tj⟩;exact⟨.exit _,XT,Z2,⟨.exit _,_,he,hs.mask _,Ha⟩,.of_steps (.one step_loop) (.pass (x:=.inLoop c) rfl (λ_ _=> .inl (by simp)) Ng)⟩;exact⟨.ret,XT,Z2,⟨.ret,_,bN,hs.mask _,Ha⟩,.of_steps (.one step_loop) (.pass (x:=.inLoop c) rfl (λ_ _=> .inl (by simp)) Ng)⟩
 |exit id=>intro GJ st a w K h hk;exact wp_exit ⟨.exit id,st,rfl,h,hk⟩
 |ret=>intro GJ st a w K h hk;exact wp_ret ⟨.ret,st,bN,h,hk⟩
 |_=>intro GJ st a w K h hk;simp[den]at hk
theorem EP:∀{vs:ie}{xs:aq AV},nf A w vs xs->vs.length=xs.length/\∀(i:Nat)(x:AV),xs[i]?=some x->∃v,vs[i]?=some v/\fL (eQ A (λ_=>0) w) v x []
 |[],[],_=>⟨rfl,by simp⟩
 |v::vs,x::xs,h=>by obtain⟨hl,hi⟩:=EP h.2;refine⟨by simp[hl],λi y hy=>?_⟩;cases i with|zero=>simp at hy;subst hy;exact⟨v,rfl,h.1⟩|succ i=>exact hi i y (by simpa using hy)
 |[],_::_,h=>h.elim
 |_::_,[],h=>h.elim
theorem Mh (hA:∀k b o,A k b o->b<w.heap.size){fn:Func}(h:nf A w vs xs): nv ⟨A,λ_=>False,w,[],λk b o hb=>⟨hA k b o hb,λf=>f⟩⟩ (oh fn xs) {tmps:=vs.toArray++Array.replicate (fn.ntmps-vs.toArray.size) undef,defers:=[]} w:=by
 obtain⟨hl,hi⟩:=EP h;let C:Ctx:=⟨A,λ_=>False,w,[],λk b o hb=>⟨hA k b o hb,λf=>f⟩⟩
 let g:Gh:=⟨λ_=>0,λ_=>0,λ_=>none,λ_=>undef⟩
 have hle:(eQ A (λ_=>0) w).Le (cy C g (oh fn xs) w):=⟨rfl,λt ht=>ht.elim,λ_ _ _ _ _ hv=>hv,aR _,λs hs=>hs.elim,λ_ b o u ho hu=>⟨ho,hu⟩⟩
 refine⟨g,rfl,?_,?_,λi av hs=>?_,λs cs hs=>?_,λk v av hk=>by simp at hk,λb x hx=>(by cases hx),Fr.refl _ _,⟨[],rfl,by simp,by simp⟩⟩;simp[oh,hl];simp[oh];have ux:(xs++List.replicate (fn.ntmps-xs.length) AV.bot)[i]?=some av:=hs;rcases bS i xs.length with gV|BM;rw[bw gV]at ux;obtain⟨v,hv,hr⟩:=hi i av ux;refine⟨[],?_,by simp,by simp⟩;have hvv:(vs.toArray++Array.replicate (fn.ntmps-vs.toArray.size) undef).getD i undef=v:=by
  have abB:i<vs.length:=by omega
  have Tx:vs[i]=v:=by rw[al abB]at hv;exact cE hv
  simp[cK,Array.getElem?_append,abB,Tx]
 show fL _ ((vs.toArray++Array.replicate (fn.ntmps-vs.toArray.size) undef).getD i undef) _ _;rw[hvv];exact hr.mono hle (by simp);rw[bq BM,dk]at ux;split at ux;cases ux;exact⟨[],fL.bot _ _,by simp,by simp⟩;cases ux;have ux:(List.replicate (xs.length+(fn.ntmps-xs.length)) (none:au (aq AC)))[s]?=some (some cs):=hs;rw[dk]at ux;split at ux<;>cases ux
theorem ZT {v:Value}{x:AC}(h:gM (cy C g st w) v x fp):gM (eQ C.A g.hw w) v x.strip fp:=by
 cases x with
 |int k n=>exact h
 |bool b=>exact h
 |str s=>exact h
 |jB=>exact h
 |fn f=>exact h
 |un=>exact h
 |bot=>exact h
 |ptr s off=>exact h.2.2
 |Da fl e y i off=>cases fl with|own t=>exact h.elim|nest _ _ _ _ _ _=>exact h.elim|part _ _ _ _=>exact h.elim|fe _ _ _=>exact h.elim|arg _=>exact h.1|loc ep pv=>exact h.1
 |sl fl e xs=>
  cases fl with
  |nest _ _ _ _ _ _=>exact h.1
  |part _ _ _ _=>exact h.1
  |fe _ _ _=>obtain⟨_,⟨k,hk,h3⟩,_⟩:=h;exact⟨λq hq=>(by cases hq),⟨k,hk,h3⟩,by simp⟩
  |own t=>exact⟨h.1,by simp⟩
  |arg _=>exact h
  |loc ep pv=>exact h.1
theorem Al:∀{vs:ie}{xs:aq AC}{fp:dX},bn (cy C g st w) vs xs fp->bn (eQ C.A g.hw w) vs (xs.map AC.strip) fp
 |[],[],_,h=>h
 |_::_,_::_,_,h=>by obtain⟨f1,f2,rfl,h1,h2⟩:=h;exact⟨f1,f2,rfl,ZT h1,Al h2⟩
 |[],_::_,_,h=>h.elim
 |_::_,[],_,h=>h.elim
def FD (tmps:Array Value):ResultVar->Sem Value
 | .tmp t=>pure (tmps.getD t undef)
 | .cell a t=>do loadVar t (<-asAddr (tmps.getD a undef))
def Bn:Bool×Nat->je
 |(false,t)=> .slot t
 |(true,s)=> .box s
theorem MJ {x y:Bool×Nat}(h:Bn x=Bn y):x=y:=by rcases x with⟨_|_,a⟩<;>rcases y with⟨_|_,b⟩<;>simp[Bn]at h<;>rw[h]
theorem ag8 {E:Env}(hE:js P E.ty)(h:dx C g st a w []){rv:ResultVar}{own:Bool×Nat}(hr:PC st E rv=some (own,gg,cs)): ∃v vs fp,(FD a.tmps rv).run P w=.ok v w/\Cut gg v vs/\bn (eQ C.A g.hw w) vs cs fp/\fp.Nodup/\∀b∈fp,g.dK b=some (Bn own):=by
 cases rv with
 |tmp t=>simp only[PC]at hr;split at hr;rename_i g' nd na;cases hr;obtain⟨fp,dD,hn,hl⟩:=h.slot t;rw[na]at dD;obtain⟨vs,eh,dD⟩:=dD;exact⟨_,vs,fp,rfl,eh,Al dD,hn,hl⟩;cases hr
 |cell t T=>
  simp only[PC]at hr;split at hr;rename_i sh s off hT hp;cases jE:(nth st.boxes s).getD none with
  |none=>rw[jE]at hr;cases hr
  |some nd=>
   rw[jE]at hr;simp only[eC]at hr;split at hr;rename_i gI;cases hr;have jE:st.boxes[s]?=some (some nd):=by rw[dB]at jE;cases hq:st.boxes[s]? with|none=>rw[hq]at jE;simp at jE|some q=>rw[hq]at jE;simp at jE;rw[jE]
   obtain⟨fp0,vS,_,_⟩:=h.slot t;rw[hp]at vS;have vS:=DH vS;obtain⟨arr,T',fr,fp,jw,qV,dD,hn,ti,hl,Hb,IQ⟩:=h.boxes s nd jE;have hlen:=dD.length;obtain⟨v,dJ,eh⟩:=Ab (hE T sh hT) (g.β s) off ((arr.toList.drop off).take sh.ct.size) (by simp at hlen⊢;omega) (Rh jw off sh.ct.size);obtain⟨f1,f2,f3,rfl,r1,r2,r3⟩:=dD.mid off sh.ct.size;have EM:=(aB.1 (aB.1 hn).1).2.1;refine⟨v,_,f2,?_,eh,Al r2,EM,λb hb=>hl b (by simp[hb])⟩;simp only[FD,vS,asAddr,Sem.run_bind,Sem.run_pure,Result.andThen_ok];exact dJ;cases hr
  cases hr
theorem aaK {E:Env}(hE:js P E.ty)(h:dx C g st a w [])(gf:ResultVar->Value):∀(rs:aq ResultVar)(had:aq (Bool×Nat))(ys:aq (Bool×aq AC)),oQ st E had rs=some ys->
 (∀rv v,(FD a.tmps rv).run P w=.ok v w->gf rv=v)->
 (∀rv∈rs,(FD a.tmps rv).run P w=.ok (gf rv) w)/\∃fp,fL.qM (eQ C.A g.hw w) (rs.map gf) ys fp/\fp.Nodup/\∀b∈fp,∃own,own∉had/\g.dK b=some (Bn own)
 |[],had,ys,hr,hgf=>by cases hr;exact⟨by simp,[],rfl,by simp,by simp⟩
 |rv::rs,had,ys,hr,hgf=>by
  simp only[oQ]at hr;cases h1:PC st E rv with
  |none=>rw[h1]at hr;cases hr
  |some x=>
   obtain⟨own,gg,cs⟩:=x;rw[h1]at hr;simp only[eC]at hr;split at hr;cases hr;rename_i Ni;have Ni:own∉had:=by simpa using Ni
   cases h2:oQ st E (own::had) rs with|none=>rw[h2]at hr;cases hr|some xs=>rw[h2]at hr;simp only[eC,aZ]at hr;subst hr;obtain⟨v,vs,jG,dJ,eh,dD,EM,hl1⟩:=ag8 hE h h1;obtain⟨aeB,fp2,OR,C2,AA⟩:=aaK hE h gf rs (own::had) xs h2 hgf;have hv:=hgf rv v dJ;refine⟨λrv' hm=>?_,jG++fp2,⟨jG,fp2,rfl,⟨vs,by rw[hv];exact eh,dD⟩,OR⟩,?_,λb hb=>?_⟩;rcases cv.1 hm with rfl|hm;rw[hv];exact dJ;exact aeB rv' hm;refine aB.2 ⟨EM,C2,λb hb b' gL he=>?_⟩;subst he;obtain⟨ajM,JT,GI⟩:=AA b gL;rw[hl1 b hb]at GI;have:=MJ (cE GI);subst this;exact JT (by simp);rcases az.1 hb with hb|hb;exact⟨own,Ni,hl1 b hb⟩;obtain⟨ajM,JT,GI⟩:=AA b hb;exact⟨ajM,λhm=>JT (by simp[hm]),GI⟩
theorem FK.abr {fl:FK}{f:qL}(h:fl.fits f=true):f=fl.flag:=by
 unfold FK.fits at h;split at h;rename_i t t';have:t=t':=by simpa using h
 subst this;rfl;rename_i k;have:k=false:=by simpa using h
 subst this;rfl;rename_i k;have:k=true:=h;subst this;rfl;rfl;rename_i j t j' t';simp only[ah,bD]at h;obtain⟨rfl,rfl⟩:=h;rfl;cases h
theorem Ac:∀{t:FT}{cs r:aq AC}{x:t.ct.D},NL t cs=some (x,r)->cs=iY t x++r:=by
 intro t;induction t with
 |int k=>intro cs r x h;cases cs with|nil=>simp[NL]at h|cons y ys=>cases y<;>simp[NL]at h;obtain⟨rfl,rfl,rfl⟩:=h;rfl
 |bool=>intro cs r x h;cases cs with|nil=>simp[NL]at h|cons y ys=>cases y<;>simp[NL]at h;obtain⟨rfl,rfl⟩:=h;rfl
 |str=>intro cs r x h;cases cs with|nil=>simp[NL]at h|cons y ys=>cases y<;>simp[NL]at h;obtain⟨rfl,rfl⟩:=h;rfl
 |sl fl e=>
  intro cs r x h;cases cs with
  |nil=>simp[NL]at h
  |cons y ys=>
   cases y with
   |sl fl' e' xs=>
    simp only[NL]at h;split at h
    ·rename_i he;subst he;cases hf:fl.fits fl' with
     |false=>rw[hf]at h;cases h
     |true=>
      rw[hf]at h;cases h;rw[FK.abr hf];have hn:fl.isNil=false:=by cases fl<;>first|rfl|(unfold FK.fits at hf;cases hf)
      simp only[iY,hn,ae];rfl
    cases h
   |jB=>simp only[NL]at h;cases hn:fl.isNil with|false=>rw[hn]at h;cases h|true=>rw[hn]at h;cases h;simp only[iY,hn,af];rfl
   |_=>simp[NL]at h
 |pair a b iha ihb=>intro cs r x h;simp only[NL]at h;obtain⟨⟨x1,r1⟩,h1,h⟩:=aL.1 h;obtain⟨⟨x2,r2⟩,h2,h⟩:=aL.1 h;cases h;have h3:r1=iY b x2++r2:=ihb h2;rw[iha h1,h3];simp[iY]
theorem MI:∀(rs:aq (Bool×FT))(ys:aq (Bool×aq AC))(y:iu rs),jY rs ys=some y->ys=aiL rs y
 |[],[],y,_=>rfl
 |[],_::_,y,h=>by simp[jY]at h
 |[(g,t)],ys,y,h=>by
  cases ys with
  |nil=>simp[jY]at h
  |cons p ys=>
   cases ys with
   |cons _ _=>simp[jY]at h
   |nil=>
    obtain⟨g',cs⟩:=p;simp only[jY]at h;cases hg:g==g' with
    |false=>rw[hg]at h;cases h
    |true=>
     rw[hg]at h;have:g=g':=by simpa using hg
     subst this;simp only[af]at h;split at h;rename_i x hx;cases h;have:=Ac hx;rw[bp]at this;rw[this];rfl;cases h
 |(g,t)::p::r,ys,y,h=>by
  cases ys with
  |nil=>simp[jY]at h
  |cons q ys=>
   obtain⟨g',cs⟩:=q;simp only[jY]at h;cases hg:g==g' with
   |false=>rw[hg]at h;cases h
   |true=>
    rw[hg]at h;have:g=g':=by simpa using hg
    subst this;simp only[af]at h;split at h;rename_i x hx;obtain⟨z,hz,h⟩:=aL.1 h;cases h;have h1:=Ac hx;rw[bp]at h1;rw[h1,MI (p::r) ys z hz];rfl;cases h
theorem MS {E:Env}(hE:js P E.ty){fn:Func}{st':AS}{a':Act}{w':World}(hg:dx C g st' a' w' []){had:aq (Bool×Nat)}(Tt:oQ st' E had fn.results.toList=some ys){y:iu rs}(ft:jY rs ys=some y): ∃v fp,(Go.results fn a'.tmps).run P w'=.ok v w'/\fL (eQ C.A g.hw w') v (xZ rs y) fp/\fp.Nodup/\∀b∈fp,∃own,own∉had/\g.dK b=some (Bn own):=by
 have hys:=MI rs ys y ft;let gf:ResultVar->Value:=λrv=>match (FD a'.tmps rv).run P w' with| .ok v _=>v|_=>undef
 obtain⟨aeB,fp,dD,E3,GI⟩:=aaK hE hg gf fn.results.toList had ys Tt (λrv v hv=>by simp only[gf,hv]);have aim:=FE (P:=P) (FD a'.tmps) gf w' fn.results (λx hx=>aeB x (by simpa using hx));have dJ:(Go.results fn a'.tmps).run P w'=.ok (if h:(fn.results.map gf).size=1 then(fn.results.map gf)[0] else .tuple (fn.results.map gf)) w':=by
  have:Go.results fn a'.tmps=(do
   let vs<-fn.results.mapM (FD a'.tmps)
   pure (if h:vs.size=1 then vs[0] else .tuple vs)):=by
   unfold Go.results
   congr 1
  rw[this];simp only[Sem.run_bind,aim,Result.andThen_ok,Sem.run_pure]
 refine⟨_,fp,dJ,?_,E3,GI⟩;have VD:(fn.results.map gf).toList=fn.results.toList.map gf:=by simp
 unfold xZ;rw[<-hys];cases ys with
 |nil=>
  have Tr:fn.results.toList.map gf=[]:=by cases hm:fn.results.toList.map gf with|nil=>rfl|cons u us=>rw[hm]at dD;exact dD.elim
  have tw:¬(fn.results.map gf).size=1:=by rw[<-Array.length_toList,VD,Tr];simp
  rw[dif_neg tw];exact⟨_,by rw[<-VD],dD⟩
 |cons y1 ys=>
  cases ys with
  |nil=>
   obtain⟨gg,cs⟩:=y1;cases hm:fn.results.toList.map gf with
   |nil=>rw[hm]at dD;exact dD.elim
   |cons u us=>
    rw[hm]at dD;obtain⟨f1,f2,rfl,Yv,jx⟩:=dD;cases us with
    |cons _ _=>exact jx.elim
    |nil=>
     cases jx;have Ng:fn.results.map gf=#[u]:=by apply ei;rw[VD,hm]
     have:(if h:(fn.results.map gf).size=1 then(fn.results.map gf)[0] else .tuple (fn.results.map gf))=u:=by rw[dif_pos (by rw[Ng];rfl)];simp only[Ng];rfl
     rw[this,bp];exact Yv
  |cons y2 ys=>
   have tw:¬(fn.results.map gf).size=1:=by rw[<-Array.length_toList,VD];cases hm:fn.results.toList.map gf with|nil=>simp|cons u us=>rw[hm]at dD;obtain⟨f1,f2,rfl,Yv,jx⟩:=dD;cases us with|nil=>exact jx.elim|cons u2 us=>simp
   rw[dif_neg tw];exact⟨_,by rw[<-VD],dD⟩
theorem JH {E:Env}(hE:js P E.ty){fn:Func}{st':AS}{a':Act}{w':World}(hg:dx C g st' a' w' [])(Tt:oQ st' E [] fn.results.toList=some ys){y:iu rs}(ft:jY rs ys=some y): ∃v fp,(Go.results fn a'.tmps).run P w'=.ok v w'/\fL (eQ C.A g.hw w') v (xZ rs y) fp/\fp.Nodup/\∀b∈fp,∃own,g.dK b=some (Bn own):=by obtain⟨v,fp,h1,h2,h3,h4⟩:=MS hE hg Tt ft;exact⟨v,fp,h1,h2,h3,λb hb=>(h4 b hb).imp λ_ h=>h.2⟩
theorem abu {E:Env}{rs:aq (Bool×FT)}(hS:Sound P E Γ){fn:Func}(hf:P.funcs[f]?=some fn)(we:(fn.name== "runtime.NumGoroutine")=false)(GJ:AM E Γ an Λ (fn.body.getD .skip)):kX P f {R:=iu rs,fn:=GZ E Γ an Λ fn rs,av:=xZ rs}:=by
 intro xs y hy;simp only at hy;unfold GZ at hy;cases hb:fn.body with
 |none=>rw[hb]at hy;cases hy
 |some c=>
  rw[hb]at hy;simp only at hy;split at hy;refine⟨⟨fn,c,hf,hb,we⟩,λ_ _ A w vs hA fb=>?_,λh=>(by cases h),λh=>(by cases h),λh=>(by cases h)⟩;refine calls_of_wp hf hb (wp_mono (Oh hS c (by rw[hb]at GJ;exact GJ) _ _ _ _ (Mh hA fb) hy) ?_);rintro e a' w' ⟨ex,st',he,hs,hk⟩;have main:aa (oQ st' E [] fn.results.toList) (jY rs)=some y->a'.defers=[]/\∃v,(Go.results fn a'.tmps).run P w'=.ok v w'/\∃v_1 hw fp,Ending.returned v=Ending.returned v_1/\fL (eQ A hw w') v_1 (xZ rs y) fp/\fp.Nodup/\(∀b∈fp,w.heap.size<=b/\b<w'.heap.size)/\Fr (λ_=>False) w w':=by intro ft;obtain⟨g,hg⟩:=hs;refine⟨hg.defers,?_⟩;cases Tt:oQ st' E [] fn.results.toList with|none=>rw[Tt]at ft;cases ft|some ys=>rw[Tt]at ft;obtain⟨v,fp,dJ,dD,E3,GI⟩:=JH hS.ty hg Tt ft;refine⟨v,dJ,v,g.hw,fp,rfl,dD,E3,λb hb=>?_,hg.frame⟩;obtain⟨own,hl⟩:=GI b hb;have:=hg.fB b _ hl;exact⟨this.2.resolve_right (λf=>f),this.1⟩
  cases e<;>cases ex<;>simp only[IE]at he;exact main hk;cases hk;exact main hk;cases hy
theorem ad8 {E:Env}{Np:aq (Bool×FT)}(h2:iu Np=iu rs)(hS:Sound P E Γ){fn:Func}(hf:P.funcs[f]?=some fn)(we:(fn.name== "runtime.NumGoroutine")=false)(GJ:AM E Γ an Λ (fn.body.getD .skip)):kX P f {R:=Bool×iu rs,fn:=evalAlt E Γ an Λ fn rs Np h2,av:=λy=>xZ rs y.2,sel:=λy=>y.1,alt:=λy=>xZ Np (cast h2.symm y.2)}:=by
 intro xs y hy;simp only at hy;unfold evalAlt at hy;cases hb:fn.body with
 |none=>rw[hb]at hy;cases hy
 |some c=>
  rw[hb]at hy;simp only at hy;split at hy;refine⟨⟨fn,c,hf,hb,we⟩,λ_ _ A w vs hA fb=>?_,λh=>(by cases h),λh=>(by cases h),λh=>(by cases h)⟩;refine calls_of_wp hf hb (wp_mono (Oh hS c (by rw[hb]at GJ;exact GJ) _ _ _ _ (Mh hA fb) hy) ?_);rintro e a' w' ⟨ex,st',he,hs,hk⟩
  have main:(aa (oQ st' E [] fn.results.toList) λys=>match jY rs ys with
   |some y=>some (true,y)
   |none=>match jY Np ys with
    |some y=>some (false,cast h2 y)
    |none=>none)=some y->a'.defers=[]/\∃v,(Go.results fn a'.tmps).run P w'=.ok v w'/\∃v_1 hw fp,Ending.returned v=Ending.returned v_1/\
   fL (eQ A hw w') v_1 (cond y.1 (xZ rs y.2) (xZ Np (cast h2.symm y.2))) fp/\fp.Nodup/\(∀b∈fp,w.heap.size<=b/\b<w'.heap.size)/\Fr (λ_=>False) w w':=by
   intro ft
   obtain⟨g,hg⟩:=hs
   refine⟨hg.defers,?_⟩
   cases Tt:oQ st' E [] fn.results.toList with
   |none=>rw[Tt]at ft;cases ft
   |some ys=>
    rw[Tt]at ft
    simp only[aa]at ft
    have fin:∀(rs':aq (Bool×FT))(y':iu rs'),jY rs' ys=some y'->∃v,(Go.results fn a'.tmps).run P w'=.ok v w'/\∃v_1 hw fp,Ending.returned v=Ending.returned v_1/\
     fL (eQ A hw w') v_1 (xZ rs' y') fp/\fp.Nodup/\(∀b∈fp,w.heap.size<=b/\b<w'.heap.size)/\Fr (λ_=>False) w w':=by
     intro rs' y' RJ
     obtain⟨v,fp,dJ,dD,E3,GI⟩:=JH hS.ty hg Tt RJ
     refine⟨v,dJ,v,g.hw,fp,rfl,dD,E3,λb hb=>?_,hg.frame⟩
     obtain⟨own,hl⟩:=GI b hb
     have:=hg.fB b _ hl
     exact⟨this.2.resolve_right (λf=>f),this.1⟩
    cases h1:jY rs ys with
    |some y1=>rw[h1]at ft;cases ft;exact fin rs y1 h1
    |none=>
     rw[h1]at ft
     simp only at ft
     cases h3:jY Np ys with
     |none=>rw[h3]at ft;cases ft
     |some y1=>
      rw[h3]at ft
      cases ft
      simp only[ae,cast_cast,cast_eq]
      exact fin Np y1 h3
  cases e<;>cases ex<;>simp only[IE]at he;exact main hk;cases hk;exact main hk;cases hy
def aej (vs:ie)(t:Nat):Value:=(vs[t/3-4096*1000003]?).getD undef
theorem aeZ {c:RC}(Nh:c.w=w)(B7:c.hw=hw)(GH:∀t,t%3=0->c.iss t){all:ie}(Ka:∀t,c.hdr t=aej all t):
 ∀(j:Nat){vs:ie}{cs:aq AC}{fp:dX},bn (eQ A hw w) vs cs fp->cs.all AC.YS=true->(∀i v,vs[i]?=some v->all[j+i]?=some v)->
  bn c vs (YR j cs) fp/\bn c vs (Ch j cs) []:=by
 intro j vs
 induction vs generalizing j with
 |nil=>intro cs fp h _ _;cases cs with
  |nil=>exact⟨h,rfl⟩
  |cons _ _=>exact h.elim
 |cons v vs ih=>
  intro cs fp h ku GF
  cases cs with
  |nil=>exact h.elim
  |cons x cs=>
   obtain⟨f1,f2,rfl,h1,h2⟩:=h
   simp only[bQ,ah]at ku
   obtain⟨i1,i2⟩:=ih (j+1) h2 ku.2 (λi u hu=>by rw[show j+1+i=j+(i+1) by omega];exact GF (i+1) u (by simpa using hu))
   have MA:=GF 0 v rfl
   rw[dM]at MA
   have lH:c.iss (Bk j)/\v=c.hdr (Bk j):=by refine⟨GH _ (by unfold Bk;omega),?_⟩;rw[Ka,aej,show Bk j/3-4096*1000003=j by unfold Bk;omega,MA];rfl
   have flt:x.gv=true->YR j (x::cs)=x::YR (j+1) cs/\Ch j (x::cs)=x::Ch (j+1) cs->bn c (v::vs) (YR j (x::cs)) (f1++f2)/\bn c (v::vs) (Ch j (x::cs)) []:=by rintro hf ⟨e1,e2⟩;obtain⟨rfl,k⟩:=lT (c':=c) h1 hf;rw[e1,e2];exact⟨⟨[],f2,rfl,k,i1⟩,⟨[],[],rfl,k,i2⟩⟩
   cases x with
   |sl fl e xs=>
    cases fl with
    |own t=>
     have eR:ez c.hw c.w (.sl e) [v] xs f1:=by rw[B7,Nh];exact h1.1
     refine⟨⟨f1,f2,rfl,⟨eR,λq hq=>by cases hq;exact lH⟩,i1⟩,⟨[],[],rfl,⟨rfl,dR _,KG eR,λ_=>ez.rep (λb o ho=> .inr ho) eR,λr t hp=>?_⟩,i2⟩⟩
     cases hp
     exact⟨lH.1,lH.2⟩
    |arg _=>cases ku.1
    |loc ep pv=>cases ku.1
    |nest _ _ _ _ _ _=>cases ku.1
    |part _ _ _ _=>cases ku.1
    |fe _ _ _=>cases ku.1
   |int k n=>exact flt rfl ⟨rfl,rfl⟩
   |bool b=>exact flt rfl ⟨rfl,rfl⟩
   |str s=>exact flt rfl ⟨rfl,rfl⟩
   |fn f=>exact flt rfl ⟨rfl,rfl⟩
   |jB=>cases ku.1
   |ptr s off=>cases ku.1
   |Da fl e y i off=>cases ku.1
   |un=>cases ku.1
   |bot=>cases ku.1
theorem W5 (hA:∀k b o,A k b o->b<w.heap.size/\b∉fp){fn:Func}{v0:Value}{us:ie}(eh:Cut gg v0 us)(dD:bn (eQ A hw w) us cs fp)(ku:cs.all AC.YS=true)(hn:fp.Nodup)(gV:∀b∈fp,b<w.heap.size)(h:nf A w vs xs): nv ⟨A,λb=>b∈fp,w,us,λk b o hb=>hA k b o hb⟩ (It fn gg cs xs) {tmps:=(v0::vs).toArray++Array.replicate (fn.ntmps-(v0::vs).toArray.size) undef,defers:=[]} w:=by
 obtain⟨hl,hi⟩:=EP h;let C:Ctx:=⟨A,λb=>b∈fp,w,us,λk b o hb=>hA k b o hb⟩
 let g:Gh:=⟨hw,λ_=>0,λb=>if b∈fp then some .io else none,aej us⟩
 have hle:(eQ A (λ_=>0) w).Le (cy C g (It fn gg cs xs) w):=⟨rfl,λt ht=>ht.elim,λ_ _ _ _ _ hv=>hv,aR _,λs hs=>hs.elim,λ_ b o u ho _=>absurd ho (Nat.not_lt_zero _)⟩
 obtain⟨k1,k2⟩:=aeZ (c:=cy C g (It fn gg cs xs) w) (A:=A) rfl rfl (λt ht=> .inl (by omega)) (all:=us) (λt=>rfl) 0 dD ku (λi v hv=>by rw[cm];exact hv);refine⟨g,rfl,?_,?_,λi av hs=>?_,λs nd hs=>?_,λk v av hk=>by simp at hk,λb x hx=>?_,Fr.refl _ _,⟨fp,k1,hn,λb hb=>by show(if b∈fp then _ else _)=_;rw[aG hb]⟩⟩;simp[It,oh,hl];omega;·simp[It,oh];try omega
 have ux:((.val gg (Ch 0 cs)::xs)++List.replicate (fn.ntmps-(.val gg (Ch 0 cs)::xs).length) AV.bot)[i]?=some av:=hs;rcases bS i (xs.length+1)with abB|BM;rw[bw (by simpa using abB)]at ux;cases i with
 |zero=>
  simp at ux;subst ux;refine⟨[],?_,by simp,by simp⟩;have hvv:((v0::vs).toArray++Array.replicate (fn.ntmps-(v0::vs).toArray.size) undef).getD 0 undef=v0:=by simp[cK,Array.getElem?_append]
  show fL _ (((v0::vs).toArray++Array.replicate (fn.ntmps-(v0::vs).toArray.size) undef).getD 0 undef) _ _;rw[hvv];exact⟨us,eh,k2⟩
 |succ i=>
  obtain⟨v,hv,hr⟩:=hi i av (by simpa using ux);refine⟨[],?_,by simp,by simp⟩;have hvv:((v0::vs).toArray++Array.replicate (fn.ntmps-(v0::vs).toArray.size) undef).getD (i+1) undef=v:=by
   have aer:i<vs.length:=by omega
   have Tx:vs[i]=v:=by rw[al aer]at hv;exact cE hv
   simp[cK,Array.getElem?_append,aer,Tx]
  show fL _ (((v0::vs).toArray++Array.replicate (fn.ntmps-(v0::vs).toArray.size) undef).getD (i+1) undef) _ _;rw[hvv];exact hr.mono hle (by simp)
 rw[bq (by simpa using BM),dk]at ux;split at ux;cases ux;exact⟨[],fL.bot _ _,by simp,by simp⟩;cases ux;have ux:(List.replicate ((AV.val gg (Ch 0 cs)::xs).length+(fn.ntmps-(AV.val gg (Ch 0 cs)::xs).length)) (none:au (aq AC)))[s]?=some (some nd):=hs;rw[dk]at ux;split at ux<;>cases ux;have AR:(if b∈fp then some je.io else none)=some x:=hx;split at AR;rename_i hm;exact⟨gV b hm,.inr hm⟩;cases AR
theorem aqe {E:Env}{rs:aq (Bool×FT)}{t:CT}(hS:Sound P E Γ){fn:Func}(hf:P.funcs[f]?=some fn)(we:(fn.name== "runtime.NumGoroutine")=false)(GJ:AM E Γ an Λ (fn.body.getD .skip)):kX P f {R:=iu rs×t.D,fn:=Yg E Γ an Λ fn rs t,av:=λy=>xZ rs y.1,io:=true,back:=λy=>cellsOf t (.own none) y.2}:=by
 intro xs y hy;simp only at hy;unfold Yg at hy;split at hy;rename_i c gg cs rest hb;split at hy;rename_i hlen;refine⟨⟨fn,c,hf,hb,we⟩,λh=>(by cases h),λ_ g0 Qr afy he A w v0 vs hw fp hA dD hn gV fb=>?_,λh=>(by cases h),λh=>(by cases h)⟩;injection he with he1 he2;injection he1 with he1 he3;subst he1;subst he2;subst he3;obtain⟨us,eh,dD⟩:=dD;refine calls_of_wp hf hb (wp_mono (Oh hS c (by rw[hb]at GJ;exact GJ) _ _ _ _ (W5 (fn:=fn) hA eh dD hlen.2 hn gV fb) hy) ?_);rintro e a' w' ⟨ex,st',he,hs,hk⟩
 have main:(aa (aa (oQ st' E [] fn.results.toList) (jY rs)) λr=>match iS t st'.io with|some (x,[])=>some (r,x)|_=>none)=some y->
  a'.defers=[]/\∃v,(Go.results fn a'.tmps).run P w'=.ok v w'/\∃v_1 hw' fr iw,Ending.returned v=Ending.returned v_1/\fL (eQ A hw' w') v_1 (xZ rs y.1) fr/\fL (eQ A hw' w') v0 (.val gg (cellsOf t (.own none) y.2)) iw/\iw.Nodup/\(∀b∈iw,b<w'.heap.size/\(b∈fp\/w.heap.size<=b))/\Fr (λb=>b∈fp) w w':=by
  intro ft
  obtain⟨g,hg⟩:=hs
  refine⟨hg.defers,?_⟩
  cases Tt:oQ st' E [] fn.results.toList with
  |none=>rw[Tt]at ft;cases ft
  |some ys=>
   rw[Tt]at ft
   simp only[aa]at ft
   cases hrr:jY rs ys with
   |none=>rw[hrr]at ft;cases ft
   |some r0=>
    rw[hrr]at ft
    simp only at ft
    split at ft
    ·rename_i x hx
     cases ft
     obtain⟨v,fr,dJ,vy,E3,GI⟩:=JH hS.ty hg Tt hrr
     obtain⟨iw,Kb,Cb,hl'⟩:=hg.io
     obtain⟨f1,f2,rfl,eR,jx⟩:=oz Kb hx
     have Tr:us.drop t.size=[]:=by cases hd:us.drop t.size with|nil=>rfl|cons _ _=>have OS:bn _ (us.drop t.size) _ _:=jx;rw[hd]at OS;exact OS.elim
     have H5:f2=[]:=by have OS:bn _ (us.drop t.size) [] f2:=jx;rw[Tr]at OS;exact OS
     subst H5
     rw[bp]at Cb hl'
     have aeD:us.take t.size=us:=by have:=cp t.size us;rw[Tr,bp]at this;exact this
     have En:ez g.hw w' t us x f1:=by have En:ez g.hw w' t (us.take t.size) x f1:=eR;rwa[aeD]at En
     refine⟨v,dJ,v,g.hw,fr,f1,rfl,vy,⟨us,eh,sE (c:=eQ A g.hw w') En⟩,Cb,λb hb=>?_,hg.frame⟩
     have:=hg.fB b _ (hl' b hb)
     exact⟨this.1,this.2.symm⟩
    ·cases ft
 cases e<;>cases ex<;>simp only[IE]at he;exact main hk;cases hk;exact main hk;cases hy;cases hy
theorem aba {c:RC}(Yo:c.A=A)(Nh:c.w=w)(B7:c.hw=hw)(GH:∀t,t%3=1->c.iss t){all:ie}(Ka:∀t,c.hdr t=(all[t/3]?).getD undef):
 ∀(j:Nat){vs:ie}{cs:aq AC}{fp:dX},bn (eQ A hw w) vs cs fp->cs.all (AC.AO true)=true->(∀i v,vs[i]?=some v->all[j+i]?=some v)->bn c vs (JY j cs) fp:=by
 intro j vs
 induction vs generalizing j with
 |nil=>intro cs fp h _ _;cases cs with
  |nil=>exact h
  |cons _ _=>exact h.elim
 |cons v vs ih=>
  intro cs fp h ku GF
  cases cs with
  |nil=>exact h.elim
  |cons x cs=>
   obtain⟨f1,f2,rfl,h1,h2⟩:=h
   simp only[bQ,ah]at ku
   have i1:=ih (j+1) h2 ku.2 (λi u hu=>by rw[show j+1+i=j+(i+1) by omega];exact GF (i+1) u (by simpa using hu))
   have MA:=GF 0 v rfl
   rw[dM]at MA
   have flt:x.gv=true->JY j (x::cs)=x::JY (j+1) cs->bn c (v::vs) (JY j (x::cs)) (f1++f2):=by rintro hf e1;obtain⟨rfl,k⟩:=lT (c':=c) h1 hf;rw[e1];exact⟨[],f2,rfl,k,i1⟩
   cases x with
   |sl fl e xs=>
    cases fl with
    |own t=>
     have eR:ez c.hw c.w (.sl e) [v] xs f1:=by rw[B7,Nh];exact h1.1
     refine⟨f1,f2,rfl,⟨eR,λq hq=>?_⟩,i1⟩
     cases hq
     refine⟨GH _ (by omega),?_⟩
     rw[Ka,show(3*j+1)/3=j by omega,MA];rfl
    |arg k=>
     have hk:k=true:=by simpa[AC.AO]using ku.1
     subst hk
     exact⟨f1,f2,rfl,⟨h1.1,by rw[Nh,Yo];exact h1.2⟩,i1⟩
    |loc ep pv=>cases ku.1
    |nest _ _ _ _ _ _=>cases ku.1
    |part _ _ _ _=>cases ku.1
    |fe _ _ _=>cases ku.1
   |int k n=>exact flt rfl rfl
   |bool b=>exact flt rfl rfl
   |str s=>exact flt rfl rfl
   |fn f=>exact flt rfl rfl
   |jB=>cases ku.1
   |ptr s off=>cases ku.1
   |Da fl e y i off=>cases ku.1
   |un=>cases ku.1
   |bot=>cases ku.1
theorem Us {b:Nat}(hA:∀k b' o,A k b' o->b'<w.heap.size/\b'≠b/\b'∉fp){fn:Func}{arr:Array Value}{T:TypeId}{fr:Nat×Nat}(jw:w.heap[b]?=some (.cells arr T fr))(qV:qe arr fr)(dD:bn (eQ A hw w) arr.toList cs fp)(ku:cs.all (AC.AO true)=true)(hn:fp.Nodup)(ti:b∉fp)(gV:∀b'∈fp,b'<w.heap.size)(IQ:hw b=0)(h:nf A w vs xs): nv ⟨A,λb'=>b'=b\/b'∈fp,w,[.pointer (some ⟨b,0,none⟩)],λk b' o hb=>⟨(hA k b' o hb).1,λhm=>hm.elim (hA k b' o hb).2.1 (hA k b' o hb).2.2⟩⟩ (CV fn cs xs) {tmps:=(.pointer (some ⟨b,0,none⟩)::vs).toArray++Array.replicate (fn.ntmps-(Value.pointer (some ⟨b,0,none⟩)::vs).toArray.size) undef,defers:=[]} w:=by
 obtain⟨hl,hi⟩:=EP h;let v0:Value:=.pointer (some ⟨b,0,none⟩);let C:Ctx:=⟨A,λb'=>b'=b\/b'∈fp,w,[v0],λk b' o hb=>⟨(hA k b' o hb).1,λhm=>hm.elim (hA k b' o hb).2.1 (hA k b' o hb).2.2⟩⟩
 let g:Gh:=⟨hw,λ_=>b,λb'=>if b'=b\/b'∈fp then some (.box 0) else none,λt=>(arr.toList[t/3]?).getD undef⟩
 have II:=mr jw;have qU:gA (CV fn cs xs) 0:=⟨JY 0 cs,rfl⟩
 have hle:(eQ A (λ_=>0) w).Le (cy C g (CV fn cs xs) w):=⟨rfl,λt ht=>ht.elim,λ_ _ _ _ _ hv=>hv,aR _,λs hs=>hs.elim,λ_ b o u ho _=>absurd ho (Nat.not_lt_zero _)⟩
 have k1:=aba (c:=cy C g (CV fn cs xs) w) (A:=A) rfl rfl rfl (λt ht=> .inl (by omega)) (all:=arr.toList) (λt=>rfl) 0 dD ku (λi v hv=>by rw[cm];exact hv);refine⟨g,rfl,?_,?_,λi av hs=>?_,λs nd hs=>?_,λk v av hk=>by simp at hk,λb' x hx=>?_,Fr.refl _ _,⟨[],⟨[],[],rfl,⟨rfl,qU,rfl⟩,rfl⟩,by simp,by simp⟩⟩;simp[CV,oh,hl];omega;simp[CV,oh];have ux:((.one (.ptr 0 0)::xs)++List.replicate (fn.ntmps-(AV.one (.ptr 0 0)::xs).length) AV.bot)[i]?=some av:=hs;rcases bS i (xs.length+1)with abB|BM;rw[bw (by simpa using abB)]at ux;cases i with
 |zero=>
  simp at ux;subst ux;refine⟨[],?_,by simp,by simp⟩;have hvv:((v0::vs).toArray++Array.replicate (fn.ntmps-(v0::vs).toArray.size) undef).getD 0 undef=v0:=by simp[cK,Array.getElem?_append]
  show fL _ (((v0::vs).toArray++Array.replicate (fn.ntmps-(v0::vs).toArray.size) undef).getD 0 undef) _ _;rw[hvv];exact mO ⟨rfl,qU,rfl⟩
 |succ i=>
  obtain⟨v,hv,hr⟩:=hi i av (by simpa using ux);refine⟨[],?_,by simp,by simp⟩;have hvv:((v0::vs).toArray++Array.replicate (fn.ntmps-(v0::vs).toArray.size) undef).getD (i+1) undef=v:=by
   have aer:i<vs.length:=by omega
   have Tx:vs[i]=v:=by rw[al aer]at hv;exact cE hv
   simp[cK,Array.getElem?_append,aer,Tx]
  show fL _ (((v0::vs).toArray++Array.replicate (fn.ntmps-(v0::vs).toArray.size) undef).getD (i+1) undef) _ _;rw[hvv];exact hr.mono hle (by simp)
 rw[bq (by simpa using BM),dk]at ux;split at ux;cases ux;exact⟨[],fL.bot _ _,by simp,by simp⟩;cases ux;have ux:(some (JY 0 cs)::List.replicate (xs.length+(fn.ntmps-(xs.length+1))) (none:au (aq AC)))[s]?=some (some nd):=hs;cases s with|zero=>simp at ux;subst ux;refine⟨arr,T,fr,fp,jw,qV,k1,hn,ti,λb' gL=>?_,?_,IQ⟩;show(if b'=b\/b'∈fp then _ else _)=_;rw[aG (.inr gL)];show(if b=b\/b∈fp then _ else _)=_;rw[aG (.inl rfl)]|succ s=>simp only[eI,dk]at ux;split at ux<;>cases ux
 have AR:(if b'=b\/b'∈fp then some (je.box 0) else none)=some x:=hx;split at AR;rename_i hm;rcases hm with rfl|hm;exact⟨II,.inr (.inl rfl)⟩;exact⟨gV b' hm,.inr (.inr hm)⟩;cases AR
theorem ai8 {E:Env}{rs:aq (Bool×FT)}{t:FT}(hS:Sound P E Γ){fn:Func}(hf:P.funcs[f]?=some fn)(we:(fn.name== "runtime.NumGoroutine")=false)(GJ:AM E Γ an Λ (fn.body.getD .skip)):kX P f {R:=iu rs×t.ct.D,fn:=Tc E Γ an Λ fn rs t,av:=λy=>xZ rs y.1,back:=λy=>iY t y.2,bx:=true}:=by
 intro xs y hy;simp only at hy;unfold Tc at hy;split at hy;rename_i c cs rest hb;split at hy;rename_i hlen;refine⟨⟨fn,c,hf,hb,we⟩,λ_ h=>(by cases h),λh=>(by cases h),λ_ Qr afy he A w b vs arr T fr hw fp hA jw qV dD hn ti gV IQ fb=>?_,λh=>(by cases h)⟩;injection he with he1 he2;injection he1 with _ he3;subst he2;subst he3;refine calls_of_wp hf hb (wp_mono (Oh hS c (by rw[hb]at GJ;exact GJ) _ _ _ _ (Us (fn:=fn) hA jw qV dD hlen.2 hn ti gV IQ fb) hy) ?_);rintro e a' w' ⟨ex,st',he,hs,hk⟩
 have main:(aa (aa (oQ st' E [(true,0)] fn.results.toList) (jY rs)) λr=>match st'.io,st'.boxes with
  |[.ptr 0 0],some nd::_=>(match NL t (nd.map AC.strip)with|some (x,[])=>some (r,x)|_=>none)
  |_,_=>none)=some y->
  a'.defers=[]/\∃v,(Go.results fn a'.tmps).run P w'=.ok v w'/\∃v_1 hw' fv iX T' RA iw,Ending.returned v=Ending.returned v_1/\fL (eQ A hw' w') v_1 (xZ rs y.1) fv/\w'.heap[b]?=some (.cells iX T' RA)/\qe iX RA/\
    bn (eQ A hw' w') iX.toList (iY t y.2) iw/\iw.Nodup/\b∉iw/\(∀b'∈iw,b'<w'.heap.size/\(b'∈fp\/w.heap.size<=b'))/\fv.Nodup/\(∀b'∈fv,b'<w'.heap.size/\(b'∈fp\/w.heap.size<=b')/\b'∉iw/\b'≠b)/\Fr (λb'=>b'=b\/b'∈fp) w w':=by
  intro ft
  obtain⟨g,hg⟩:=hs
  refine⟨hg.defers,?_⟩
  cases Tt:oQ st' E [(true,0)] fn.results.toList with
  |none=>rw[Tt]at ft;cases ft
  |some ys=>
   rw[Tt]at ft
   simp only[aa]at ft
   cases hrr:jY rs ys with
   |none=>rw[hrr]at ft;cases ft
   |some r0=>
    rw[hrr]at ft
    simp only at ft
    split at ft
    ·rename_i nd tl Kb jE
     split at ft
     ·rename_i x hx
      cases ft
      obtain⟨v,fv,dJ,vy,E3,GI⟩:=MS hS.ty hg Tt hrr
      obtain⟨fpi,hri,_,_⟩:=hg.io
      rw[Kb]at hri
      obtain⟨g1,g2,_,aqH,_⟩:=hri
      have Jx:b=g.β 0:=by have:=aqH.1;simp only[Value.pointer.injEq,aZ,Addr.mk.injEq]at this;exact this.1
      obtain⟨iX,T',RA,iw,J7,VM,hr',Cb,IB,hl',ajm,_⟩:=hg.boxes 0 nd (by rw[jE];rfl)
      rw[<-Jx]at J7 IB ajm
      have lH:=Al hr'
      have Kf:=Ac hx
      rw[bp]at Kf
      rw[Kf]at lH
      have hM:∀b',(w.heap.size<=b'\/(b'=b\/b'∈fp))->b'≠b->b'∈fp\/w.heap.size<=b':=by rintro b' (h2|h2|h2) E4;exact .inr h2;exact absurd h2 E4;exact .inl h2
      refine⟨v,dJ,v,g.hw,fv,iX,T',RA,iw,rfl,vy,J7,VM,lH,Cb,IB,λb' gL=>?_,E3,λb' gL=>?_,hg.frame⟩
      ·have:=hg.fB b' _ (hl' b' gL)
       exact⟨this.1,hM b' this.2 (λe=>IB (e▸gL))⟩
      ·obtain⟨own,Ni,RF⟩:=GI b' gL
       have JT:g.dK b'≠some (.box 0):=by rw[RF];intro e;have e2:Bn own=Bn (true,0):=cE e;exact Ni (by rw[MJ e2];simp)
       have E4:b'≠b:=λe=>JT (by rw[e];exact ajm)
       have:=hg.fB b' _ RF
       exact⟨this.1,hM b' this.2 E4,λhm=>JT (hl' b' hm),E4⟩
     ·cases ft
    ·cases ft
 cases e<;>cases ex<;>simp only[IE]at he;exact main hk;cases hk;exact main hk;cases hy;cases hy
theorem ai9 {E:Env}{t:FT}(hS:Sound P E Γ){fn:Func}(hf:P.funcs[f]?=some fn)(we:(fn.name== "runtime.NumGoroutine")=false)(GJ:AM E Γ an Λ (fn.body.getD .skip)):kX P f {R:=t.ct.D,fn:=NF E Γ an Λ fn t,av:=λ_=> .bot,back:=λy=>iY t y,pr:=true}:=by
 intro xs y hy;simp only at hy;unfold NF at hy;cases hb:fn.body with
 |none=>rw[hb]at hy;cases hy
 |some c=>
  rw[hb]at hy;simp only at hy;split at hy;have key:ahC P f {R:=t.ct.D,fn:=NF E Γ an Λ fn t,av:=λ_=> .bot,back:=λy=>iY t y,pr:=true} y xs:=by
   intro A w vs hA fb;refine calls_of_wp hf hb (wp_mono (Oh hS c (by rw[hb]at GJ;exact GJ) _ _ _ _ (Mh hA fb) hy) ?_);rintro e a' w' ⟨ex,st',he,hs,hk⟩
   have main:(match fn.results.toList with
    |[.tmp i]=>match st'.get i with
     | .val false [.ptr s 0]=>match (nth st'.boxes s).getD none with
       |some cs=>if cs.all AC.Lq=true then(match NL t (cs.map AC.strip)with|some (x,[])=>some x|_=>none) else none
       |none=>none
     |_=>none
    |_=>none)=some y->a'.defers=[]/\∃v,(Go.results fn a'.tmps).run P w'=.ok v w'/\∃b arr T fr hw,Ending.returned v=.returned (.pointer (some ⟨b,0,none⟩))/\w.heap.size<=b/\w'.heap[b]?=some (.cells arr T fr)/\qe arr fr/\bn (eQ A hw w') arr.toList (iY t y) []/\Fr (λ_=>False) w w':=by
    intro ft
    obtain⟨g,hg⟩:=hs
    refine⟨hg.defers,?_⟩
    split at ft
    ·rename_i i hri
     split at ft
     ·rename_i s hp
      cases jE:(nth st'.boxes s).getD none with
      |none=>rw[jE]at ft;cases ft
      |some cs=>
       rw[jE]at ft
       simp only at ft
       split at ft
       ·rename_i ku
        split at ft
        ·rename_i x hx
         cases ft
         have jE:st'.boxes[s]?=some (some cs):=by rw[dB]at jE;cases hq:st'.boxes[s]? with|none=>rw[hq]at jE;simp at jE|some q=>rw[hq]at jE;simp at jE;rw[jE]
         obtain⟨fp0,vS,_,_⟩:=hg.slot i
         rw[hp]at vS
         have vS:=DH vS
         obtain⟨arr,T,fr,fp,jw,qV,dD,hn,ti,hl,Hb,IQ⟩:=hg.boxes s cs jE
         obtain⟨C1,vs,eh,OR⟩:=arg_val (c:=cy _ g st' w') (c':=cy _ g st' w') rfl rfl (v:=.agg arr.toList.toArray) (x:=.val true cs) ⟨arr.toList,rfl,dD⟩ ku
         have hvs:arr.toList=vs:=by have eh:Value.agg arr.toList.toArray=.agg vs.toArray:=eh;simp only[Value.agg.injEq]at eh;simpa using congrArg Array.toList eh
         rw[<-hvs]at OR
         have lH:=Al OR
         have Kf:=Ac hx
         rw[bp]at Kf
         rw[Kf]at lH
         have dJ:(Go.results fn a'.tmps).run P w'=.ok (a'.tmps.getD i undef) w':=by
          have he:fn.results=#[.tmp i]:=by apply ei;exact hri
          have aim:=FE (P:=P) (FD a'.tmps) (λ_=>a'.tmps.getD i undef) w' fn.results (λx hx=>by rw[he]at hx;simp at hx;subst hx;rfl)
          have hd:Go.results fn a'.tmps=(do
           let vs<-fn.results.mapM (FD a'.tmps)
           pure (if h:vs.size=1 then vs[0] else .tuple vs)):=by
           unfold Go.results
           congr 1
          rw[hd];simp only[Sem.run_bind,aim,Result.andThen_ok,Sem.run_pure];rw[he];simp
         refine⟨_,dJ,g.β s,arr,T,fr,g.hw,congrArg Ending.returned vS,?_,jw,qV,lH,hg.frame⟩
         exact(hg.fB _ _ Hb).2.resolve_right (λf=>f)
        ·cases ft
       ·cases ft
     ·cases ft
    ·cases ft
   cases e<;>cases ex<;>simp only[IE]at he;exact main hk;cases hk;exact main hk
  refine⟨⟨fn,c,hf,hb,we⟩,λ_ _ A w vs hA fb=>?_,λh=>(by cases h),λh=>(by cases h),λ_=>key⟩;refine(key A w vs hA fb).mono ?_;rintro e w' ⟨b,arr,T,fr,hw,rfl,_,_,_,_,gP⟩;exact⟨_,hw,[],rfl,fL.bot _ _,List.nodup_nil,(λb hb=>by cases hb),gP⟩;cases hy
end Go.Dn
