import Derived.Test.YthllnaiaikjelaaGreatDnAny
/- The soundness of the abstract semantics: code and functions. -/
namespace Go.Dn
open Go.RowKit
variable {P:Program} {C:Ctx} {st:AS} {a:Act} {w:World} {R:Type} {r:R}
variable {an:An} {gg:Bool} {Γ:xf} {g:Gh} {Λ:F0} {f:Nat} {hw:Nat->Nat} {A:Rg} {rs:aq (Bool×FT)} {ys:aq (Bool×aq AC)} {cs:aq AC} {xs:aq AV} {fp:dy} {vs:gO}
def HX:Exit->Ex->Prop
 | .normal,.normal=>True
 | .ret,.ret=>True
 | .exit i,.exit j=>i=j
 |_,_=>False
def ah0 (C:Ctx)(K:Ex->AS->ar R)(r:R)(e:Exit)(a:Act)(w:World):Prop:=
 ∃ex st',HX e ex/\mM C st' a w/\K ex st'=some r
theorem abM {E:Env}(hS:Sound P E Γ){id:Nat}{ops:Array Oper}{d:Bool}(h:mM C st a w){K:AS->ar R}(hk:Tb E Γ an id ops.toList d st K=some r){Q:Exit->Act->World->Prop}(hq:∀st' a' w',mM C st' a' w'->K st'=some r->Q .normal a' w'):(Code.region id ops d).wp P Q a w:=by
 unfold Tb at hk;split at hk;rw[NM]at hk;cases ho:F7 E Γ an ops.toList d st some with|none=>rw[ho]at hk;cases hk|some st1=>rw[ho]at hk;exact Zk hS h ho (λa' w' hs=>hq _ _ _ hs hk)
 rename_i s hm;split at hk;rename_i ahv;rw[NM]at hk;cases ho:F7 E Γ.calm an ops.toList d st some with|none=>rw[ho]at hk;cases hk|some st1=>rw[ho]at hk;simp only[dZ]at hk;cases hb:getBool st1 s with|none=>rw[hb]at hk;cases hk|some b=>rw[hb]at hk;simp only[aa]at hk;have hn:=abq (afl Γ) (λo MB=>ba.1 ahv o MB) ho;exact Zk hS.calm h ho (λa' w' hs=>hq _ _ _ (hs.weaken hn hb) hk)
 cases hk
def Y6 (E:Env)(Γ:xf)(an:An)(Λ:F0)(c:Code):Prop:=
 ∃n,∀(R:Type)(st:AS)(K:Ex->AS->ar R)(r:R),(Λ (du c)).go st K=some r->zV (an.mask (du c)) (den E Γ an Λ c) n st K=some r
def COk (E:Env)(Γ:xf)(an:An)(Λ:F0)(c:Code):Prop:=
 ∀(R:Type)(st:AS)(K:Ex->AS->ar R)(r:R),(Λ (xl c)).go st K=some r->den E Γ an Λ c st (λe st'=>K e (st'.mask (an.mask (xl c+1))))=some r
def zP (E:Env)(Γ:xf)(an:An)(Λ:F0)(c:Code):Prop:=(∀c'∈gY c,Y6 E Γ an Λ c')/\∀c'∈jU an.cut c,COk E Γ an Λ c'
theorem acD (c:Code):jU [] c=[]:=by induction c with|seq a b iha ihb=>simp[jU,iha,ihb]|cond _ a b iha ihb=>simp[jU,iha,ihb]|block _ c ih=>simpa[jU]using ih|loop c ih=>simpa[jU]using ih|_=>rfl
theorem zP.of {E:Env}{c:Code}(h:∀c'∈gY c,Y6 E Γ an Λ c')(hc:an.cut=[]):zP E Γ an Λ c:=⟨h,by rw[hc,acD];simp⟩
theorem ND {E:Env}(hS:Sound P E Γ):∀(c:Code)(_:zP E Γ an Λ c)(st:AS)(a:Act)(w:World)(K:Ex->AS->ar R),mM C st a w->den E Γ an Λ c st K=some r->c.wp P (ah0 C K r) a w:=by
 intro c;induction c with
 |skip=>intro FX st a w K h hk;exact wp_skip ⟨.normal,st,bX,h,hk⟩
 |region id ops d=>intro FX st a w K h hk;exact abM hS h (by simpa only[den]using hk) (λst' a' w' hs he=>⟨.normal,st',bX,hs,he⟩)
 |seq x y ihx ihy=>
  intro FX st a w K h hk;have ihx:=ihx ⟨λc hc=>FX.1 c (by simp[gY,hc]),λc hc=>FX.2 c (by simp[jU,hc])⟩;have ihy:=ihy ⟨λc hc=>FX.1 c (by simp[gY,hc]),λc hc=>FX.2 c (by simp only[jU];cases an.cut.contains (du y)<;>simp[hc])⟩;simp only[den]at hk;refine wp_seq (wp_mono (ihx st a w _ h hk) ?_);rintro e a' w' ⟨ex,st',he,hs,Gk⟩;cases e<;>cases ex<;>simp only[HX]at he;simp only at Gk;cases dU:an.cut.contains (du y)with|false=>rw[dU]at Gk;exact ihy st' a' w' K hs Gk|true=>rw[dU]at Gk;have hc:=FX.2 y (by simp only[jU,dU];simp) _ _ _ _ Gk;refine wp_mono (ihy _ a' w' _ (hs.mask _) hc) ?_;rintro e2 a2 w2 ⟨ex2,st2,he2,hs2,hk2⟩;exact⟨ex2,_,he2,hs2.mask _,hk2⟩
  exact⟨.exit _,st',he,hs,Gk⟩;exact⟨.ret,st',bX,hs,Gk⟩
 |cond c x y ihx ihy=>
  intro FX st a w K h hk;have ihx:=ihx ⟨λc hc=>FX.1 c (by simp[gY,hc]),λc hc=>FX.2 c (by simp[jU,hc])⟩;have ihy:=ihy ⟨λc hc=>FX.1 c (by simp[gY,hc]),λc hc=>FX.2 c (by simp[jU,hc])⟩;simp only[den]at hk;split at hk;rename_i t hc;have hv:a.eval c=.bool t:=by obtain⟨g,hg⟩:=h;have:=hg.rd c;rw[hc]at this;exact wv this
  cases t with|true=>exact wp_cond_true hv (ihx st a w K h hk)|false=>exact wp_cond_false hv (ihy st a w K h hk)
  cases hk
 |block id c ih=>intro FX st a w K h hk;have ih:=ih ⟨λc hc=>FX.1 c (by simpa[gY]using hc),λc hc=>FX.2 c (by simpa[jU]using hc)⟩;simp only[den]at hk;refine wp_block (wp_mono (ih st a w _ h hk) ?_);rintro e a' w' ⟨ex,st',he,hs,Gk⟩;cases e<;>cases ex<;>simp only[HX]at he;exact⟨.normal,st',bX,hs,Gk⟩;rename_i i j;subst he;simp only[Exit.inBlock];simp only at Gk;by_cases hi:i=id;subst hi;rw[aH rfl];simp only[fG,bF]at Gk;exact⟨.normal,st',bX,hs,Gk⟩;rw[aG hi];rw[aG (by simpa using hi)]at Gk;exact⟨.exit i,st',rfl,hs,Gk⟩;exact⟨.ret,st',bX,hs,Gk⟩
 |loop c ih=>
  intro FX st a w K h hk;have ih:=ih ⟨λc hc=>FX.1 c (by simp[gY,hc]),λc hc=>FX.2 c (by simpa[jU]using hc)⟩;obtain⟨n,hn⟩:=FX.1 c (by simp[gY]);simp only[den]at hk;intro b k cs
  have key:∀m st a w,mM C st a w->zV (an.mask (du c)) (den E Γ an Λ c) m st K=some r->
   ∃e a' w',ah0 C K r e a' w'/\Arrives P (lone (b.at a (.code c:: .inLoop c::k)) cs w) b k cs e a' w':=by
   intro m
   induction m with
   |zero=>intro st a w _ hk;cases hk
   |succ m ihm=>
    intro st a w h hk
    simp only[zV]at hk
    obtain⟨e,WY,Y4,⟨ex,st',he,hs,Gk⟩,My⟩:=ih st a w _ h hk b (.inLoop c::k) cs
    cases e<;>cases ex<;>simp only[HX]at he
    ·obtain⟨ag5,agV,ahU,ads,Su⟩:=ihm _ WY Y4 (hs.mask _) Gk
     exact⟨ag5,agV,ahU,ads,.of_steps (Steps.trans My (.one step_inLoop)) Su⟩
    ·exact⟨.exit _,WY,Y4,⟨.exit _,_,he,hs.mask _,Gk⟩,.pass (x:=.inLoop c) rfl (λ_ _=> .inl (by simp)) My⟩
    ·exact⟨.ret,WY,Y4,⟨.ret,_,bX,hs.mask _,Gk⟩,.pass (x:=.inLoop c) rfl (λ_ _=> .inl (by simp)) My⟩
  cases hp:an.aiJ.contains (du c)with
  |false=>rw[hp]at hk;obtain⟨e,a',w',hq,My⟩:=key n _ a w (h.mask _) (hn _ _ _ _ hk);exact⟨e,a',w',hq,.of_steps (.one step_loop) My⟩
  |true=>rw[hp]at hk;simp only[af]at hk;obtain⟨e,WY,Y4,⟨ex,st',he,hs,Gk⟩,My⟩:=ih _ a w _ (h.mask _) hk b (.inLoop c::k) cs;cases e<;>cases ex<;>simp only[HX]at he;obtain⟨ag5,agV,ahU,ads,Su⟩:=key n _ WY Y4 (hs.mask _) (hn _ _ _ _ Gk);exact⟨ag5,agV,ahU,ads,.of_steps (Steps.trans (.one step_loop) (Steps.trans My (.one step_inLoop))) Su⟩;exact⟨.exit _,WY,Y4,⟨.exit _,_,he,hs.mask _,Gk⟩,.of_steps (.one step_loop) (.pass (x:=.inLoop c) rfl (λ_ _=> .inl (by simp)) My)⟩;exact⟨.ret,WY,Y4,⟨.ret,_,bX,hs.mask _,Gk⟩,.of_steps (.one step_loop) (.pass (x:=.inLoop c) rfl (λ_ _=> .inl (by simp)) My)⟩
 |exit id=>intro FX st a w K h hk;exact wp_exit ⟨.exit id,st,rfl,h,hk⟩
 |ret=>intro FX st a w K h hk;exact wp_ret ⟨.ret,st,bX,h,hk⟩
 |_=>intro FX st a w K h hk;simp[den]at hk
theorem D6:∀{vs:gO}{xs:aq AV},mu A w vs xs->vs.length=xs.length/\∀(i:Nat)(x:AV),xs[i]?=some x->∃v,vs[i]?=some v/\fA (eJ A (λ_=>0) w) v x []
 |[],[],_=>⟨rfl,by simp⟩
 |v::vs,x::xs,h=>by obtain⟨hl,hi⟩:=D6 h.2;refine⟨by simp[hl],λi y hy=>?_⟩;cases i with|zero=>simp at hy;subst hy;exact⟨v,rfl,h.1⟩|succ i=>exact hi i y (by simpa using hy)
 |[],_::_,h=>h.elim
 |_::_,[],h=>h.elim
theorem LH (hA:∀k b o,A k b o->b<w.heap.size){fn:Func}(h:mu A w vs xs): mM ⟨A,λ_=>False,w,[],λk b o hb=>⟨hA k b o hb,λf=>f⟩⟩ (nG fn xs) {tmps:=vs.toArray++Array.replicate (fn.ntmps-vs.toArray.size) undef,defers:=[]} w:=by
 obtain⟨hl,hi⟩:=D6 h;let C:Ctx:=⟨A,λ_=>False,w,[],λk b o hb=>⟨hA k b o hb,λf=>f⟩⟩
 let g:Gh:=⟨λ_=>0,λ_=>0,λ_=>none,λ_=>undef⟩
 have hle:(eJ A (λ_=>0) w).Le (cv C g (nG fn xs) w):=⟨rfl,λt ht=>ht.elim,λ_ _ _ _ _ hv=>hv,bc _,λs hs=>hs.elim,λ_ b o u ho hu=>⟨ho,hu⟩⟩
 refine⟨g,rfl,?_,?_,λi av hs=>?_,λs cs hs=>?_,λk v av hk=>by simp at hk,λb x hx=>(by cases hx),Fr.refl _ _,⟨[],rfl,by simp,by simp⟩⟩;simp[nG,hl];simp[nG];have tB:(xs++List.replicate (fn.ntmps-xs.length) AV.bot)[i]?=some av:=hs;rcases bH i xs.length with gM|Ad;rw[bu gM]at tB;obtain⟨v,hv,hr⟩:=hi i av tB;refine⟨[],?_,by simp,by simp⟩;have WI:(vs.toArray++Array.replicate (fn.ntmps-vs.toArray.size) undef).getD i undef=v:=by
  have aaH:i<vs.length:=by omega
  have SJ:vs[i]=v:=by rw[ax aaH]at hv;exact di hv
  simp[cE,Array.getElem?_append,aaH,SJ]
 show fA _ ((vs.toArray++Array.replicate (fn.ntmps-vs.toArray.size) undef).getD i undef) _ _;rw[WI];exact hr.mono hle (by simp);rw[bq Ad,df]at tB;split at tB;cases tB;exact⟨[],fA.bot _ _,by simp,by simp⟩;cases tB;have tB:(List.replicate (xs.length+(fn.ntmps-xs.length)) (none:ar (aq AC)))[s]?=some (some cs):=hs;rw[df]at tB;split at tB<;>cases tB
theorem YN {v:Value}{x:AC}(h:gy (cv C g st w) v x fp):gy (eJ C.A g.hw w) v x.strip fp:=by
 cases x with
 |int k n=>exact h
 |bool b=>exact h
 |str s=>exact h
 |jd=>exact h
 |fn f=>exact h
 |un=>exact h
 |bot=>exact h
 |ptr s off=>exact h.2.2
 |Cg fl e y i off=>cases fl with|own t=>exact h.elim|nest _ _ _ _ _ _=>exact h.elim|part _ _ _ _=>exact h.elim|eS _ _ _=>exact h.elim|arg _=>exact h.1|loc ep pv=>exact h.1
 |sl fl e xs=>
  cases fl with
  |nest _ _ _ _ _ _=>exact h.1
  |part _ _ _ _=>exact h.1
  |eS _ _ _=>obtain⟨_,⟨k,hk,h3⟩,_⟩:=h;exact⟨λq hq=>(by cases hq),⟨k,hk,h3⟩,by simp⟩
  |own t=>exact⟨h.1,by simp⟩
  |arg _=>exact h
  |loc ep pv=>exact h.1
theorem zl:∀{vs:gO}{xs:aq AC}{fp:dy},bn (cv C g st w) vs xs fp->bn (eJ C.A g.hw w) vs (xs.map AC.strip) fp
 |[],[],_,h=>h
 |_::_,_::_,_,h=>by obtain⟨f1,f2,rfl,h1,h2⟩:=h;exact⟨f1,f2,rfl,YN h1,zl h2⟩
 |[],_::_,_,h=>h.elim
 |_::_,[],_,h=>h.elim
def EW (tmps:Array Value):ResultVar->Sem Value
 | .tmp t=>pure (tmps.getD t undef)
 | .cell a t=>do loadVar t (<-asAddr (tmps.getD a undef))
def Aw:Bool×Nat->iO
 |(false,t)=> .slot t
 |(true,s)=> .box s
theorem Ma {x y:Bool×Nat}(h:Aw x=Aw y):x=y:=by rcases x with⟨_|_,a⟩<;>rcases y with⟨_|_,b⟩<;>simp[Aw]at h<;>rw[h]
theorem af0 {E:Env}(hE:iV P E.ty)(h:dr C g st a w []){rv:ResultVar}{own:Bool×Nat}(hr:OX st E rv=some (own,gg,cs)): ∃v vs fp,(EW a.tmps rv).run P w=.ok v w/\Cut gg v vs/\bn (eJ C.A g.hw w) vs cs fp/\fp.Nodup/\∀b∈fp,g.dE b=some (Aw own):=by
 cases rv with
 |tmp t=>simp only[OX]at hr;split at hr;rename_i g' mr ml;cases hr;obtain⟨fp,dx,hn,hl⟩:=h.slot t;rw[ml]at dx;obtain⟨vs,dU,dx⟩:=dx;exact⟨_,vs,fp,rfl,dU,zl dx,hn,hl⟩;cases hr
 |cell t T=>
  simp only[OX]at hr;split at hr;rename_i sh s off hT hp;cases ji:(nth st.boxes s).getD none with
  |none=>rw[ji]at hr;cases hr
  |some mr=>
   rw[ji]at hr;simp only[dZ]at hr;split at hr;rename_i gv;cases hr;have ji:st.boxes[s]?=some (some mr):=by rw[dv]at ji;cases hq:st.boxes[s]? with|none=>rw[hq]at ji;simp at ji|some q=>rw[hq]at ji;simp at ji;rw[ji]
   obtain⟨Zl,uR,_,_⟩:=h.slot t;rw[hp]at uR;have uR:=CJ uR;obtain⟨arr,T',fr,fp,iZ,qf,dx,hn,sr,hl,HQ,H8⟩:=h.boxes s mr ji;have hlen:=dx.length;obtain⟨v,dD,dU⟩:=yW (hE T sh hT) (g.β s) off ((arr.toList.drop off).take sh.ct.size) (by simp at hlen⊢;omega) (Qy iZ off sh.ct.size);obtain⟨f1,f2,f3,rfl,r1,r2,r3⟩:=dx.mid off sh.ct.size;have D1:=(aB.1 (aB.1 hn).1).2.1;refine⟨v,_,f2,?_,dU,zl r2,D1,λb hb=>hl b (by simp[hb])⟩;simp only[EW,uR,asAddr,Sem.run_bind,Sem.run_pure,Result.andThen_ok];exact dD;cases hr
  cases hr
theorem ZU {E:Env}(hE:iV P E.ty)(h:dr C g st a w [])(gf:ResultVar->Value):∀(rs:aq ResultVar)(had:aq (Bool×Nat))(ys:aq (Bool×aq AC)),nU st E had rs=some ys->
 (∀rv v,(EW a.tmps rv).run P w=.ok v w->gf rv=v)->
 (∀rv∈rs,(EW a.tmps rv).run P w=.ok (gf rv) w)/\∃fp,fA.pX (eJ C.A g.hw w) (rs.map gf) ys fp/\fp.Nodup/\∀b∈fp,∃own,own∉had/\g.dE b=some (Aw own)
 |[],had,ys,hr,hgf=>by cases hr;exact⟨by simp,[],rfl,by simp,by simp⟩
 |rv::rs,had,ys,hr,hgf=>by
  simp only[nU]at hr;cases h1:OX st E rv with
  |none=>rw[h1]at hr;cases hr
  |some x=>
   obtain⟨own,gg,cs⟩:=x;rw[h1]at hr;simp only[dZ]at hr;split at hr;cases hr;rename_i MA;have MA:own∉had:=by simpa using MA
   cases h2:nU st E (own::had) rs with|none=>rw[h2]at hr;cases hr|some xs=>rw[h2]at hr;simp only[dZ,aZ]at hr;subst hr;obtain⟨v,vs,jj,dD,dU,dx,D1,hl1⟩:=af0 hE h h1;obtain⟨adx,fp2,N9,B6,zT⟩:=ZU hE h gf rs (own::had) xs h2 hgf;have hv:=hgf rv v dD;refine⟨λrv' hm=>?_,jj++fp2,⟨jj,fp2,rfl,⟨vs,by rw[hv];exact dU,dx⟩,N9⟩,?_,λb hb=>?_⟩;rcases bU.1 hm with rfl|hm;rw[hv];exact dD;exact adx rv' hm;refine aB.2 ⟨D1,B6,λb hb b' gA he=>?_⟩;subst he;obtain⟨aiI,Hj,FW⟩:=zT b gA;rw[hl1 b hb]at FW;have:=Ma (di FW);subst this;exact Hj (by simp);rcases ay.1 hb with hb|hb;exact⟨own,MA,hl1 b hb⟩;obtain⟨aiI,Hj,FW⟩:=zT b hb;exact⟨aiI,λhm=>Hj (by simp[hm]),FW⟩
theorem FK.aaA {fl:FK}{f:pW}(h:fl.fits f=true):f=fl.flag:=by
 unfold FK.fits at h;split at h;rename_i t t';have:t=t':=by simpa using h
 subst this;rfl;rename_i k;have:k=false:=by simpa using h
 subst this;rfl;rename_i k;have:k=true:=h;subst this;rfl;rfl;rename_i j t j' t';simp only[ah,bk]at h;obtain⟨rfl,rfl⟩:=h;rfl;cases h
theorem yY:∀{t:FT}{cs r:aq AC}{x:t.ct.D},M4 t cs=some (x,r)->cs=iH t x++r:=by
 intro t;induction t with
 |int k=>intro cs r x h;cases cs with|nil=>simp[M4]at h|cons y ys=>cases y<;>simp[M4]at h;obtain⟨rfl,rfl,rfl⟩:=h;rfl
 |bool=>intro cs r x h;cases cs with|nil=>simp[M4]at h|cons y ys=>cases y<;>simp[M4]at h;obtain⟨rfl,rfl⟩:=h;rfl
 |str=>intro cs r x h;cases cs with|nil=>simp[M4]at h|cons y ys=>cases y<;>simp[M4]at h;obtain⟨rfl,rfl⟩:=h;rfl
 |sl fl e=>
  intro cs r x h;cases cs with
  |nil=>simp[M4]at h
  |cons y ys=>
   cases y with
   |sl fl' e' xs=>
    simp only[M4]at h;split at h
    ·rename_i he;subst he;cases hf:fl.fits fl' with
     |false=>rw[hf]at h;cases h
     |true=>
      rw[hf]at h;cases h;rw[FK.aaA hf];have hn:fl.isNil=false:=by cases fl<;>first|rfl|(unfold FK.fits at hf;cases hf)
      simp only[iH,hn,ae];rfl
    cases h
   |jd=>simp only[M4]at h;cases hn:fl.isNil with|false=>rw[hn]at h;cases h|true=>rw[hn]at h;cases h;simp only[iH,hn,af];rfl
   |_=>simp[M4]at h
 |pair a b iha ihb=>intro cs r x h;simp only[M4]at h;obtain⟨⟨x1,r1⟩,h1,h⟩:=aI.1 h;obtain⟨⟨x2,r2⟩,h2,h⟩:=aI.1 h;cases h;have h3:r1=iH b x2++r2:=ihb h2;rw[iha h1,h3];simp[iH]
theorem L9:∀(rs:aq (Bool×FT))(ys:aq (Bool×aq AC))(y:hY rs),jB rs ys=some y->ys=ahL rs y
 |[],[],y,_=>rfl
 |[],_::_,y,h=>by simp[jB]at h
 |[(g,t)],ys,y,h=>by
  cases ys with
  |nil=>simp[jB]at h
  |cons p ys=>
   cases ys with
   |cons _ _=>simp[jB]at h
   |nil=>
    obtain⟨g',cs⟩:=p;simp only[jB]at h;cases hg:g==g' with
    |false=>rw[hg]at h;cases h
    |true=>
     rw[hg]at h;have:g=g':=by simpa using hg
     subst this;simp only[af]at h;split at h;rename_i x hx;cases h;have:=yY hx;rw[bt]at this;rw[this];rfl;cases h
 |(g,t)::p::r,ys,y,h=>by
  cases ys with
  |nil=>simp[jB]at h
  |cons q ys=>
   obtain⟨g',cs⟩:=q;simp only[jB]at h;cases hg:g==g' with
   |false=>rw[hg]at h;cases h
   |true=>
    rw[hg]at h;have:g=g':=by simpa using hg
    subst this;simp only[af]at h;split at h;rename_i x hx;obtain⟨z,hz,h⟩:=aI.1 h;cases h;have h1:=yY hx;rw[bt]at h1;rw[h1,L9 (p::r) ys z hz];rfl;cases h
theorem Mg {E:Env}(hE:iV P E.ty){fn:Func}{st':AS}{a':Act}{w':World}(hg:dr C g st' a' w' []){had:aq (Bool×Nat)}(SF:nU st' E had fn.results.toList=some ys){y:hY rs}(eT:jB rs ys=some y): ∃v fp,(Go.results fn a'.tmps).run P w'=.ok v w'/\fA (eJ C.A g.hw w') v (xj rs y) fp/\fp.Nodup/\∀b∈fp,∃own,own∉had/\g.dE b=some (Aw own):=by
 have hys:=L9 rs ys y eT;let gf:ResultVar->Value:=λrv=>match (EW a'.tmps rv).run P w' with| .ok v _=>v|_=>undef
 obtain⟨adx,fp,dx,El,FW⟩:=ZU hE hg gf fn.results.toList had ys SF (λrv v hv=>by simp only[gf,hv]);have ahk:=EY (P:=P) (EW a'.tmps) gf w' fn.results (λx hx=>adx x (by simpa using hx));have dD:(Go.results fn a'.tmps).run P w'=.ok (if h:(fn.results.map gf).size=1 then(fn.results.map gf)[0] else .tuple (fn.results.map gf)) w':=by
  have:Go.results fn a'.tmps=(do
   let vs<-fn.results.mapM (EW a'.tmps)
   pure (if h:vs.size=1 then vs[0] else .tuple vs)):=by
   unfold Go.results
   congr 1
  rw[this];simp only[Sem.run_bind,ahk,Result.andThen_ok,Sem.run_pure]
 refine⟨_,fp,dD,?_,El,FW⟩;have UL:(fn.results.map gf).toList=fn.results.toList.map gf:=by simp
 unfold xj;rw[<-hys];cases ys with
 |nil=>
  have SC:fn.results.toList.map gf=[]:=by cases hm:fn.results.toList.map gf with|nil=>rfl|cons u us=>rw[hm]at dx;exact dx.elim
  have sD:¬(fn.results.map gf).size=1:=by rw[<-Array.length_toList,UL,SC];simp
  rw[dif_neg sD];exact⟨_,by rw[<-UL],dx⟩
 |cons y1 ys=>
  cases ys with
  |nil=>
   obtain⟨gg,cs⟩:=y1;cases hm:fn.results.toList.map gf with
   |nil=>rw[hm]at dx;exact dx.elim
   |cons u us=>
    rw[hm]at dx;obtain⟨f1,f2,rfl,XB,ja⟩:=dx;cases us with
    |cons _ _=>exact ja.elim
    |nil=>
     cases ja;have My:fn.results.map gf=#[u]:=by apply dV;rw[UL,hm]
     have:(if h:(fn.results.map gf).size=1 then(fn.results.map gf)[0] else .tuple (fn.results.map gf))=u:=by rw[dif_pos (by rw[My];rfl)];simp only[My];rfl
     rw[this,bt];exact XB
  |cons y2 ys=>
   have sD:¬(fn.results.map gf).size=1:=by rw[<-Array.length_toList,UL];cases hm:fn.results.toList.map gf with|nil=>simp|cons u us=>rw[hm]at dx;obtain⟨f1,f2,rfl,XB,ja⟩:=dx;cases us with|nil=>exact ja.elim|cons u2 us=>simp
   rw[dif_neg sD];exact⟨_,by rw[<-UL],dx⟩
theorem I6 {E:Env}(hE:iV P E.ty){fn:Func}{st':AS}{a':Act}{w':World}(hg:dr C g st' a' w' [])(SF:nU st' E [] fn.results.toList=some ys){y:hY rs}(eT:jB rs ys=some y): ∃v fp,(Go.results fn a'.tmps).run P w'=.ok v w'/\fA (eJ C.A g.hw w') v (xj rs y) fp/\fp.Nodup/\∀b∈fp,∃own,g.dE b=some (Aw own):=by obtain⟨v,fp,h1,h2,h3,h4⟩:=Mg hE hg SF eT;exact⟨v,fp,h1,h2,h3,λb hb=>(h4 b hb).imp λ_ h=>h.2⟩
theorem aaC {E:Env}{rs:aq (Bool×FT)}(hS:Sound P E Γ){fn:Func}(hf:P.funcs[f]?=some fn)(vc:(fn.name== "runtime.NumGoroutine")=false)(FX:zP E Γ an Λ (fn.body.getD .skip)):kh P f {R:=hY rs,fn:=F8 E Γ an Λ fn rs,av:=xj rs}:=by
 intro xs y hy;simp only at hy;unfold F8 at hy;cases hb:fn.body with
 |none=>rw[hb]at hy;cases hy
 |some c=>
  rw[hb]at hy;simp only at hy;split at hy;refine⟨⟨fn,c,hf,hb,vc⟩,λ_ _ A w vs hA eR=>?_,λh=>(by cases h),λh=>(by cases h),λh=>(by cases h)⟩;refine calls_of_wp hf hb (wp_mono (ND hS c (by rw[hb]at FX;exact FX) _ _ _ _ (LH hA eR) hy) ?_);rintro e a' w' ⟨ex,st',he,hs,hk⟩;have main:aa (nU st' E [] fn.results.toList) (jB rs)=some y->a'.defers=[]/\∃v,(Go.results fn a'.tmps).run P w'=.ok v w'/\∃v_1 hw fp,Ending.returned v=Ending.returned v_1/\fA (eJ A hw w') v_1 (xj rs y) fp/\fp.Nodup/\(∀b∈fp,w.heap.size<=b/\b<w'.heap.size)/\Fr (λ_=>False) w w':=by intro eT;obtain⟨g,hg⟩:=hs;refine⟨hg.defers,?_⟩;cases SF:nU st' E [] fn.results.toList with|none=>rw[SF]at eT;cases eT|some ys=>rw[SF]at eT;obtain⟨v,fp,dD,dx,El,FW⟩:=I6 hS.ty hg SF eT;refine⟨v,dD,v,g.hw,fp,rfl,dx,El,λb hb=>?_,hg.frame⟩;obtain⟨own,hl⟩:=FW b hb;have:=hg.ff b _ hl;exact⟨this.2.resolve_right (λf=>f),this.1⟩
  cases e<;>cases ex<;>simp only[HX]at he;exact main hk;cases hk;exact main hk;cases hy
theorem agA {E:Env}{MI:aq (Bool×FT)}(h2:hY MI=hY rs)(hS:Sound P E Γ){fn:Func}(hf:P.funcs[f]?=some fn)(vc:(fn.name== "runtime.NumGoroutine")=false)(FX:zP E Γ an Λ (fn.body.getD .skip)):kh P f {R:=Bool×hY rs,fn:=evalAlt E Γ an Λ fn rs MI h2,av:=λy=>xj rs y.2,sel:=λy=>y.1,alt:=λy=>xj MI (cast h2.symm y.2)}:=by
 intro xs y hy;simp only at hy;unfold evalAlt at hy;cases hb:fn.body with
 |none=>rw[hb]at hy;cases hy
 |some c=>
  rw[hb]at hy;simp only at hy;split at hy;refine⟨⟨fn,c,hf,hb,vc⟩,λ_ _ A w vs hA eR=>?_,λh=>(by cases h),λh=>(by cases h),λh=>(by cases h)⟩;refine calls_of_wp hf hb (wp_mono (ND hS c (by rw[hb]at FX;exact FX) _ _ _ _ (LH hA eR) hy) ?_);rintro e a' w' ⟨ex,st',he,hs,hk⟩
  have main:(aa (nU st' E [] fn.results.toList) λys=>match jB rs ys with
   |some y=>some (true,y)
   |none=>match jB MI ys with
    |some y=>some (false,cast h2 y)
    |none=>none)=some y->a'.defers=[]/\∃v,(Go.results fn a'.tmps).run P w'=.ok v w'/\∃v_1 hw fp,Ending.returned v=Ending.returned v_1/\
   fA (eJ A hw w') v_1 (cond y.1 (xj rs y.2) (xj MI (cast h2.symm y.2))) fp/\fp.Nodup/\(∀b∈fp,w.heap.size<=b/\b<w'.heap.size)/\Fr (λ_=>False) w w':=by
   intro eT
   obtain⟨g,hg⟩:=hs
   refine⟨hg.defers,?_⟩
   cases SF:nU st' E [] fn.results.toList with
   |none=>rw[SF]at eT;cases eT
   |some ys=>
    rw[SF]at eT
    simp only[aa]at eT
    have fin:∀(rs':aq (Bool×FT))(y':hY rs'),jB rs' ys=some y'->∃v,(Go.results fn a'.tmps).run P w'=.ok v w'/\∃v_1 hw fp,Ending.returned v=Ending.returned v_1/\
     fA (eJ A hw w') v_1 (xj rs' y') fp/\fp.Nodup/\(∀b∈fp,w.heap.size<=b/\b<w'.heap.size)/\Fr (λ_=>False) w w':=by
     intro rs' y' QY
     obtain⟨v,fp,dD,dx,El,FW⟩:=I6 hS.ty hg SF QY
     refine⟨v,dD,v,g.hw,fp,rfl,dx,El,λb hb=>?_,hg.frame⟩
     obtain⟨own,hl⟩:=FW b hb
     have:=hg.ff b _ hl
     exact⟨this.2.resolve_right (λf=>f),this.1⟩
    cases h1:jB rs ys with
    |some y1=>rw[h1]at eT;cases eT;exact fin rs y1 h1
    |none=>
     rw[h1]at eT
     simp only at eT
     cases h3:jB MI ys with
     |none=>rw[h3]at eT;cases eT
     |some y1=>
      rw[h3]at eT
      cases eT
      simp only[ae,cast_cast,cast_eq]
      exact fin MI y1 h3
  cases e<;>cases ex<;>simp only[HX]at he;exact main hk;cases hk;exact main hk;cases hy
def adf (vs:gO)(t:Nat):Value:=(vs[t/3-4096*1000003]?).getD undef
theorem adZ {c:RC}(Mz:c.w=w)(Bn:c.hw=hw)(FV:∀t,t%3=0->c.iss t){all:gO}(JI:∀t,c.hdr t=adf all t):
 ∀(j:Nat){vs:gO}{cs:aq AC}{fp:dy},bn (eJ A hw w) vs cs fp->cs.all AC.XW=true->(∀i v,vs[i]?=some v->all[j+i]?=some v)->
  bn c vs (XV j cs) fp/\bn c vs (Bw j cs) []:=by
 intro j vs
 induction vs generalizing j with
 |nil=>intro cs fp h _ _;cases cs with
  |nil=>exact⟨h,rfl⟩
  |cons _ _=>exact h.elim
 |cons v vs ih=>
  intro cs fp h jQ FU
  cases cs with
  |nil=>exact h.elim
  |cons x cs=>
   obtain⟨f1,f2,rfl,h1,h2⟩:=h
   simp only[bC,ah]at jQ
   obtain⟨i1,i2⟩:=ih (j+1) h2 jQ.2 (λi u hu=>by rw[show j+1+i=j+(i+1) by omega];exact FU (i+1) u (by simpa using hu))
   have L3:=FU 0 v rfl
   rw[dF]at L3
   have lh:c.iss (Ao j)/\v=c.hdr (Ao j):=by refine⟨FV _ (by unfold Ao;omega),?_⟩;rw[JI,adf,show Ao j/3-4096*1000003=j by unfold Ao;omega,L3];rfl
   have flt:x.fT=true->XV j (x::cs)=x::XV (j+1) cs/\Bw j (x::cs)=x::Bw (j+1) cs->bn c (v::vs) (XV j (x::cs)) (f1++f2)/\bn c (v::vs) (Bw j (x::cs)) []:=by rintro hf ⟨e1,e2⟩;obtain⟨rfl,k⟩:=kT (c':=c) h1 hf;rw[e1,e2];exact⟨⟨[],f2,rfl,k,i1⟩,⟨[],[],rfl,k,i2⟩⟩
   cases x with
   |sl fl e xs=>
    cases fl with
    |own t=>
     have eK:dY c.hw c.w (.sl e) [v] xs f1:=by rw[Bn,Mz];exact h1.1
     refine⟨⟨f1,f2,rfl,⟨eK,λq hq=>by cases hq;exact lh⟩,i1⟩,⟨[],[],rfl,⟨rfl,fB _,Kf eK,λ_=>dY.rep (λb o ho=> .inr ho) eK,λr t hp=>?_⟩,i2⟩⟩
     cases hp
     exact⟨lh.1,lh.2⟩
    |arg _=>cases jQ.1
    |loc ep pv=>cases jQ.1
    |nest _ _ _ _ _ _=>cases jQ.1
    |part _ _ _ _=>cases jQ.1
    |eS _ _ _=>cases jQ.1
   |int k n=>exact flt rfl ⟨rfl,rfl⟩
   |bool b=>exact flt rfl ⟨rfl,rfl⟩
   |str s=>exact flt rfl ⟨rfl,rfl⟩
   |fn f=>exact flt rfl ⟨rfl,rfl⟩
   |jd=>cases jQ.1
   |ptr s off=>cases jQ.1
   |Cg fl e y i off=>cases jQ.1
   |un=>cases jQ.1
   |bot=>cases jQ.1
theorem V4 (hA:∀k b o,A k b o->b<w.heap.size/\b∉fp){fn:Func}{v0:Value}{us:gO}(dU:Cut gg v0 us)(dx:bn (eJ A hw w) us cs fp)(jQ:cs.all AC.XW=true)(hn:fp.Nodup)(gM:∀b∈fp,b<w.heap.size)(h:mu A w vs xs): mM ⟨A,λb=>b∈fp,w,us,λk b o hb=>hA k b o hb⟩ (HF fn gg cs xs) {tmps:=(v0::vs).toArray++Array.replicate (fn.ntmps-(v0::vs).toArray.size) undef,defers:=[]} w:=by
 obtain⟨hl,hi⟩:=D6 h;let C:Ctx:=⟨A,λb=>b∈fp,w,us,λk b o hb=>hA k b o hb⟩
 let g:Gh:=⟨hw,λ_=>0,λb=>if b∈fp then some .io else none,adf us⟩
 have hle:(eJ A (λ_=>0) w).Le (cv C g (HF fn gg cs xs) w):=⟨rfl,λt ht=>ht.elim,λ_ _ _ _ _ hv=>hv,bc _,λs hs=>hs.elim,λ_ b o u ho _=>absurd ho (Nat.not_lt_zero _)⟩
 obtain⟨k1,k2⟩:=adZ (c:=cv C g (HF fn gg cs xs) w) (A:=A) rfl rfl (λt ht=> .inl (by omega)) (all:=us) (λt=>rfl) 0 dx jQ (λi v hv=>by rw[cj];exact hv);refine⟨g,rfl,?_,?_,λi av hs=>?_,λs mr hs=>?_,λk v av hk=>by simp at hk,λb x hx=>?_,Fr.refl _ _,⟨fp,k1,hn,λb hb=>by show(if b∈fp then _ else _)=_;rw[aH hb]⟩⟩;simp[HF,nG,hl];omega;·simp[HF,nG];try omega
 have tB:((.val gg (Bw 0 cs)::xs)++List.replicate (fn.ntmps-(.val gg (Bw 0 cs)::xs).length) AV.bot)[i]?=some av:=hs;rcases bH i (xs.length+1)with aaH|Ad;rw[bu (by simpa using aaH)]at tB;cases i with
 |zero=>
  simp at tB;subst tB;refine⟨[],?_,by simp,by simp⟩;have WI:((v0::vs).toArray++Array.replicate (fn.ntmps-(v0::vs).toArray.size) undef).getD 0 undef=v0:=by simp[cE,Array.getElem?_append]
  show fA _ (((v0::vs).toArray++Array.replicate (fn.ntmps-(v0::vs).toArray.size) undef).getD 0 undef) _ _;rw[WI];exact⟨us,dU,k2⟩
 |succ i=>
  obtain⟨v,hv,hr⟩:=hi i av (by simpa using tB);refine⟨[],?_,by simp,by simp⟩;have WI:((v0::vs).toArray++Array.replicate (fn.ntmps-(v0::vs).toArray.size) undef).getD (i+1) undef=v:=by
   have adn:i<vs.length:=by omega
   have SJ:vs[i]=v:=by rw[ax adn]at hv;exact di hv
   simp[cE,Array.getElem?_append,adn,SJ]
  show fA _ (((v0::vs).toArray++Array.replicate (fn.ntmps-(v0::vs).toArray.size) undef).getD (i+1) undef) _ _;rw[WI];exact hr.mono hle (by simp)
 rw[bq (by simpa using Ad),df]at tB;split at tB;cases tB;exact⟨[],fA.bot _ _,by simp,by simp⟩;cases tB;have tB:(List.replicate ((AV.val gg (Bw 0 cs)::xs).length+(fn.ntmps-(AV.val gg (Bw 0 cs)::xs).length)) (none:ar (aq AC)))[s]?=some (some mr):=hs;rw[df]at tB;split at tB<;>cases tB;have zU:(if b∈fp then some iO.io else none)=some x:=hx;split at zU;rename_i hm;exact⟨gM b hm,.inr hm⟩;cases zU
theorem apj {E:Env}{rs:aq (Bool×FT)}{t:CT}(hS:Sound P E Γ){fn:Func}(hf:P.funcs[f]?=some fn)(vc:(fn.name== "runtime.NumGoroutine")=false)(FX:zP E Γ an Λ (fn.body.getD .skip)):kh P f {R:=hY rs×t.D,fn:=Xn E Γ an Λ fn rs t,av:=λy=>xj rs y.1,io:=true,back:=λy=>cellsOf t (.own none) y.2}:=by
 intro xs y hy;simp only at hy;unfold Xn at hy;split at hy;rename_i c gg cs rest hb;split at hy;rename_i hlen;refine⟨⟨fn,c,hf,hb,vc⟩,λh=>(by cases h),λ_ g0 PH aey he A w v0 vs hw fp hA dx hn gM eR=>?_,λh=>(by cases h),λh=>(by cases h)⟩;injection he with he1 he2;injection he1 with he1 he3;subst he1;subst he2;subst he3;obtain⟨us,dU,dx⟩:=dx;refine calls_of_wp hf hb (wp_mono (ND hS c (by rw[hb]at FX;exact FX) _ _ _ _ (V4 (fn:=fn) hA dU dx hlen.2 hn gM eR) hy) ?_);rintro e a' w' ⟨ex,st',he,hs,hk⟩
 have main:(aa (aa (nU st' E [] fn.results.toList) (jB rs)) λr=>match iy t st'.io with|some (x,[])=>some (r,x)|_=>none)=some y->
  a'.defers=[]/\∃v,(Go.results fn a'.tmps).run P w'=.ok v w'/\∃v_1 hw' fr hZ,Ending.returned v=Ending.returned v_1/\fA (eJ A hw' w') v_1 (xj rs y.1) fr/\fA (eJ A hw' w') v0 (.val gg (cellsOf t (.own none) y.2)) hZ/\hZ.Nodup/\(∀b∈hZ,b<w'.heap.size/\(b∈fp\/w.heap.size<=b))/\Fr (λb=>b∈fp) w w':=by
  intro eT
  obtain⟨g,hg⟩:=hs
  refine⟨hg.defers,?_⟩
  cases SF:nU st' E [] fn.results.toList with
  |none=>rw[SF]at eT;cases eT
  |some ys=>
   rw[SF]at eT
   simp only[aa]at eT
   cases hrr:jB rs ys with
   |none=>rw[hrr]at eT;cases eT
   |some r0=>
    rw[hrr]at eT
    simp only at eT
    split at eT
    ·rename_i x hx
     cases eT
     obtain⟨v,fr,dD,uC,El,FW⟩:=I6 hS.ty hg SF hrr
     obtain⟨hZ,JJ,Ae,hl'⟩:=hg.io
     obtain⟨f1,f2,rfl,eK,ja⟩:=nK JJ hx
     have SC:us.drop t.size=[]:=by cases hd:us.drop t.size with|nil=>rfl|cons _ _=>have Oa:bn _ (us.drop t.size) _ _:=ja;rw[hd]at Oa;exact Oa.elim
     have D0:f2=[]:=by have Oa:bn _ (us.drop t.size) [] f2:=ja;rw[SC]at Oa;exact Oa
     subst D0
     rw[bt]at Ae hl'
     have adz:us.take t.size=us:=by have:=cg t.size us;rw[SC,bt]at this;exact this
     have Ds:dY g.hw w' t us x f1:=by have Ds:dY g.hw w' t (us.take t.size) x f1:=eK;rwa[adz]at Ds
     refine⟨v,dD,v,g.hw,fr,f1,rfl,uC,⟨us,dU,rN (c:=eJ A g.hw w') Ds⟩,Ae,λb hb=>?_,hg.frame⟩
     have:=hg.ff b _ (hl' b hb)
     exact⟨this.1,this.2.symm⟩
    ·cases eT
 cases e<;>cases ex<;>simp only[HX]at he;exact main hk;cases hk;exact main hk;cases hy;cases hy
theorem aal {c:RC}(Xu:c.A=A)(Mz:c.w=w)(Bn:c.hw=hw)(FV:∀t,t%3=1->c.iss t){all:gO}(JI:∀t,c.hdr t=(all[t/3]?).getD undef):
 ∀(j:Nat){vs:gO}{cs:aq AC}{fp:dy},bn (eJ A hw w) vs cs fp->cs.all (AC.zR true)=true->(∀i v,vs[i]?=some v->all[j+i]?=some v)->bn c vs (Js j cs) fp:=by
 intro j vs
 induction vs generalizing j with
 |nil=>intro cs fp h _ _;cases cs with
  |nil=>exact h
  |cons _ _=>exact h.elim
 |cons v vs ih=>
  intro cs fp h jQ FU
  cases cs with
  |nil=>exact h.elim
  |cons x cs=>
   obtain⟨f1,f2,rfl,h1,h2⟩:=h
   simp only[bC,ah]at jQ
   have i1:=ih (j+1) h2 jQ.2 (λi u hu=>by rw[show j+1+i=j+(i+1) by omega];exact FU (i+1) u (by simpa using hu))
   have L3:=FU 0 v rfl
   rw[dF]at L3
   have flt:x.fT=true->Js j (x::cs)=x::Js (j+1) cs->bn c (v::vs) (Js j (x::cs)) (f1++f2):=by rintro hf e1;obtain⟨rfl,k⟩:=kT (c':=c) h1 hf;rw[e1];exact⟨[],f2,rfl,k,i1⟩
   cases x with
   |sl fl e xs=>
    cases fl with
    |own t=>
     have eK:dY c.hw c.w (.sl e) [v] xs f1:=by rw[Bn,Mz];exact h1.1
     refine⟨f1,f2,rfl,⟨eK,λq hq=>?_⟩,i1⟩
     cases hq
     refine⟨FV _ (by omega),?_⟩
     rw[JI,show(3*j+1)/3=j by omega,L3];rfl
    |arg k=>
     have hk:k=true:=by simpa[AC.zR]using jQ.1
     subst hk
     exact⟨f1,f2,rfl,⟨h1.1,by rw[Mz,Xu];exact h1.2⟩,i1⟩
    |loc ep pv=>cases jQ.1
    |nest _ _ _ _ _ _=>cases jQ.1
    |part _ _ _ _=>cases jQ.1
    |eS _ _ _=>cases jQ.1
   |int k n=>exact flt rfl rfl
   |bool b=>exact flt rfl rfl
   |str s=>exact flt rfl rfl
   |fn f=>exact flt rfl rfl
   |jd=>cases jQ.1
   |ptr s off=>cases jQ.1
   |Cg fl e y i off=>cases jQ.1
   |un=>cases jQ.1
   |bot=>cases jQ.1
theorem Tt {b:Nat}(hA:∀k b' o,A k b' o->b'<w.heap.size/\b'≠b/\b'∉fp){fn:Func}{arr:Array Value}{T:TypeId}{fr:Nat×Nat}(iZ:w.heap[b]?=some (.cells arr T fr))(qf:pe arr fr)(dx:bn (eJ A hw w) arr.toList cs fp)(jQ:cs.all (AC.zR true)=true)(hn:fp.Nodup)(sr:b∉fp)(gM:∀b'∈fp,b'<w.heap.size)(H8:hw b=0)(h:mu A w vs xs): mM ⟨A,λb'=>b'=b\/b'∈fp,w,[.pointer (some ⟨b,0,none⟩)],λk b' o hb=>⟨(hA k b' o hb).1,λhm=>hm.elim (hA k b' o hb).2.1 (hA k b' o hb).2.2⟩⟩ (BZ fn cs xs) {tmps:=(.pointer (some ⟨b,0,none⟩)::vs).toArray++Array.replicate (fn.ntmps-(Value.pointer (some ⟨b,0,none⟩)::vs).toArray.size) undef,defers:=[]} w:=by
 obtain⟨hl,hi⟩:=D6 h;let v0:Value:=.pointer (some ⟨b,0,none⟩);let C:Ctx:=⟨A,λb'=>b'=b\/b'∈fp,w,[v0],λk b' o hb=>⟨(hA k b' o hb).1,λhm=>hm.elim (hA k b' o hb).2.1 (hA k b' o hb).2.2⟩⟩
 let g:Gh:=⟨hw,λ_=>b,λb'=>if b'=b\/b'∈fp then some (.box 0) else none,λt=>(arr.toList[t/3]?).getD undef⟩
 have H0:=lE iZ;have qe:fY (BZ fn cs xs) 0:=⟨Js 0 cs,rfl⟩
 have hle:(eJ A (λ_=>0) w).Le (cv C g (BZ fn cs xs) w):=⟨rfl,λt ht=>ht.elim,λ_ _ _ _ _ hv=>hv,bc _,λs hs=>hs.elim,λ_ b o u ho _=>absurd ho (Nat.not_lt_zero _)⟩
 have k1:=aal (c:=cv C g (BZ fn cs xs) w) (A:=A) rfl rfl rfl (λt ht=> .inl (by omega)) (all:=arr.toList) (λt=>rfl) 0 dx jQ (λi v hv=>by rw[cj];exact hv);refine⟨g,rfl,?_,?_,λi av hs=>?_,λs mr hs=>?_,λk v av hk=>by simp at hk,λb' x hx=>?_,Fr.refl _ _,⟨[],⟨[],[],rfl,⟨rfl,qe,rfl⟩,rfl⟩,by simp,by simp⟩⟩;simp[BZ,nG,hl];omega;simp[BZ,nG];have tB:((.one (.ptr 0 0)::xs)++List.replicate (fn.ntmps-(AV.one (.ptr 0 0)::xs).length) AV.bot)[i]?=some av:=hs;rcases bH i (xs.length+1)with aaH|Ad;rw[bu (by simpa using aaH)]at tB;cases i with
 |zero=>
  simp at tB;subst tB;refine⟨[],?_,by simp,by simp⟩;have WI:((v0::vs).toArray++Array.replicate (fn.ntmps-(v0::vs).toArray.size) undef).getD 0 undef=v0:=by simp[cE,Array.getElem?_append]
  show fA _ (((v0::vs).toArray++Array.replicate (fn.ntmps-(v0::vs).toArray.size) undef).getD 0 undef) _ _;rw[WI];exact ma ⟨rfl,qe,rfl⟩
 |succ i=>
  obtain⟨v,hv,hr⟩:=hi i av (by simpa using tB);refine⟨[],?_,by simp,by simp⟩;have WI:((v0::vs).toArray++Array.replicate (fn.ntmps-(v0::vs).toArray.size) undef).getD (i+1) undef=v:=by
   have adn:i<vs.length:=by omega
   have SJ:vs[i]=v:=by rw[ax adn]at hv;exact di hv
   simp[cE,Array.getElem?_append,adn,SJ]
  show fA _ (((v0::vs).toArray++Array.replicate (fn.ntmps-(v0::vs).toArray.size) undef).getD (i+1) undef) _ _;rw[WI];exact hr.mono hle (by simp)
 rw[bq (by simpa using Ad),df]at tB;split at tB;cases tB;exact⟨[],fA.bot _ _,by simp,by simp⟩;cases tB;have tB:(some (Js 0 cs)::List.replicate (xs.length+(fn.ntmps-(xs.length+1))) (none:ar (aq AC)))[s]?=some (some mr):=hs;cases s with|zero=>simp at tB;subst tB;refine⟨arr,T,fr,fp,iZ,qf,k1,hn,sr,λb' gA=>?_,?_,H8⟩;show(if b'=b\/b'∈fp then _ else _)=_;rw[aH (.inr gA)];show(if b=b\/b∈fp then _ else _)=_;rw[aH (.inl rfl)]|succ s=>simp only[eC,df]at tB;split at tB<;>cases tB
 have zU:(if b'=b\/b'∈fp then some (iO.box 0) else none)=some x:=hx;split at zU;rename_i hm;rcases hm with rfl|hm;exact⟨H0,.inr (.inl rfl)⟩;exact⟨gM b' hm,.inr (.inr hm)⟩;cases zU
theorem ah6 {E:Env}{rs:aq (Bool×FT)}{t:FT}(hS:Sound P E Γ){fn:Func}(hf:P.funcs[f]?=some fn)(vc:(fn.name== "runtime.NumGoroutine")=false)(FX:zP E Γ an Λ (fn.body.getD .skip)):kh P f {R:=hY rs×t.ct.D,fn:=Sn E Γ an Λ fn rs t,av:=λy=>xj rs y.1,back:=λy=>iH t y.2,bx:=true}:=by
 intro xs y hy;simp only at hy;unfold Sn at hy;split at hy;rename_i c cs rest hb;split at hy;rename_i hlen;refine⟨⟨fn,c,hf,hb,vc⟩,λ_ h=>(by cases h),λh=>(by cases h),λ_ PH aey he A w b vs arr T fr hw fp hA iZ qf dx hn sr gM H8 eR=>?_,λh=>(by cases h)⟩;injection he with he1 he2;injection he1 with _ he3;subst he2;subst he3;refine calls_of_wp hf hb (wp_mono (ND hS c (by rw[hb]at FX;exact FX) _ _ _ _ (Tt (fn:=fn) hA iZ qf dx hlen.2 hn sr gM H8 eR) hy) ?_);rintro e a' w' ⟨ex,st',he,hs,hk⟩
 have main:(aa (aa (nU st' E [(true,0)] fn.results.toList) (jB rs)) λr=>match st'.io,st'.boxes with
  |[.ptr 0 0],some mr::_=>(match M4 t (mr.map AC.strip)with|some (x,[])=>some (r,x)|_=>none)
  |_,_=>none)=some y->
  a'.defers=[]/\∃v,(Go.results fn a'.tmps).run P w'=.ok v w'/\∃v_1 hw' fv iG T' QQ hZ,Ending.returned v=Ending.returned v_1/\fA (eJ A hw' w') v_1 (xj rs y.1) fv/\w'.heap[b]?=some (.cells iG T' QQ)/\pe iG QQ/\
    bn (eJ A hw' w') iG.toList (iH t y.2) hZ/\hZ.Nodup/\b∉hZ/\(∀b'∈hZ,b'<w'.heap.size/\(b'∈fp\/w.heap.size<=b'))/\fv.Nodup/\(∀b'∈fv,b'<w'.heap.size/\(b'∈fp\/w.heap.size<=b')/\b'∉hZ/\b'≠b)/\Fr (λb'=>b'=b\/b'∈fp) w w':=by
  intro eT
  obtain⟨g,hg⟩:=hs
  refine⟨hg.defers,?_⟩
  cases SF:nU st' E [(true,0)] fn.results.toList with
  |none=>rw[SF]at eT;cases eT
  |some ys=>
   rw[SF]at eT
   simp only[aa]at eT
   cases hrr:jB rs ys with
   |none=>rw[hrr]at eT;cases eT
   |some r0=>
    rw[hrr]at eT
    simp only at eT
    split at eT
    ·rename_i mr tl JJ ji
     split at eT
     ·rename_i x hx
      cases eT
      obtain⟨v,fv,dD,uC,El,FW⟩:=Mg hS.ty hg SF hrr
      obtain⟨fpi,hri,_,_⟩:=hg.io
      rw[JJ]at hri
      obtain⟨g1,g2,_,apO,_⟩:=hri
      have IT:b=g.β 0:=by have:=apO.1;simp only[Value.pointer.injEq,aZ,Addr.mk.injEq]at this;exact this.1
      obtain⟨iG,T',QQ,hZ,JE,US,hr',Ae,HR,hl',ail,_⟩:=hg.boxes 0 mr (by rw[ji];rfl)
      rw[<-IT]at JE HR ail
      have lh:=zl hr'
      have JN:=yY hx
      rw[bt]at JN
      rw[JN]at lh
      have hM:∀b',(w.heap.size<=b'\/(b'=b\/b'∈fp))->b'≠b->b'∈fp\/w.heap.size<=b':=by rintro b' (h2|h2|h2) D2;exact .inr h2;exact absurd h2 D2;exact .inl h2
      refine⟨v,dD,v,g.hw,fv,iG,T',QQ,hZ,rfl,uC,JE,US,lh,Ae,HR,λb' gA=>?_,El,λb' gA=>?_,hg.frame⟩
      ·have:=hg.ff b' _ (hl' b' gA)
       exact⟨this.1,hM b' this.2 (λe=>HR (e▸gA))⟩
      ·obtain⟨own,MA,QU⟩:=FW b' gA
       have Hj:g.dE b'≠some (.box 0):=by rw[QU];intro e;have e2:Aw own=Aw (true,0):=di e;exact MA (by rw[Ma e2];simp)
       have D2:b'≠b:=λe=>Hj (by rw[e];exact ail)
       have:=hg.ff b' _ QU
       exact⟨this.1,hM b' this.2 D2,λhm=>Hj (hl' b' hm),D2⟩
     ·cases eT
    ·cases eT
 cases e<;>cases ex<;>simp only[HX]at he;exact main hk;cases hk;exact main hk;cases hy;cases hy
theorem ah7 {E:Env}{t:FT}(hS:Sound P E Γ){fn:Func}(hf:P.funcs[f]?=some fn)(vc:(fn.name== "runtime.NumGoroutine")=false)(FX:zP E Γ an Λ (fn.body.getD .skip)):kh P f {R:=t.ct.D,fn:=MW E Γ an Λ fn t,av:=λ_=> .bot,back:=λy=>iH t y,pr:=true}:=by
 intro xs y hy;simp only at hy;unfold MW at hy;cases hb:fn.body with
 |none=>rw[hb]at hy;cases hy
 |some c=>
  rw[hb]at hy;simp only at hy;split at hy;have key:agu P f {R:=t.ct.D,fn:=MW E Γ an Λ fn t,av:=λ_=> .bot,back:=λy=>iH t y,pr:=true} y xs:=by
   intro A w vs hA eR;refine calls_of_wp hf hb (wp_mono (ND hS c (by rw[hb]at FX;exact FX) _ _ _ _ (LH hA eR) hy) ?_);rintro e a' w' ⟨ex,st',he,hs,hk⟩
   have main:(match fn.results.toList with
    |[.tmp i]=>match st'.get i with
     | .val false [.ptr s 0]=>match (nth st'.boxes s).getD none with
       |some cs=>if cs.all AC.KV=true then(match M4 t (cs.map AC.strip)with|some (x,[])=>some x|_=>none) else none
       |none=>none
     |_=>none
    |_=>none)=some y->a'.defers=[]/\∃v,(Go.results fn a'.tmps).run P w'=.ok v w'/\∃b arr T fr hw,Ending.returned v=.returned (.pointer (some ⟨b,0,none⟩))/\w.heap.size<=b/\w'.heap[b]?=some (.cells arr T fr)/\pe arr fr/\bn (eJ A hw w') arr.toList (iH t y) []/\Fr (λ_=>False) w w':=by
    intro eT
    obtain⟨g,hg⟩:=hs
    refine⟨hg.defers,?_⟩
    split at eT
    ·rename_i i hri
     split at eT
     ·rename_i s hp
      cases ji:(nth st'.boxes s).getD none with
      |none=>rw[ji]at eT;cases eT
      |some cs=>
       rw[ji]at eT
       simp only at eT
       split at eT
       ·rename_i jQ
        split at eT
        ·rename_i x hx
         cases eT
         have ji:st'.boxes[s]?=some (some cs):=by rw[dv]at ji;cases hq:st'.boxes[s]? with|none=>rw[hq]at ji;simp at ji|some q=>rw[hq]at ji;simp at ji;rw[ji]
         obtain⟨Zl,uR,_,_⟩:=hg.slot i
         rw[hp]at uR
         have uR:=CJ uR
         obtain⟨arr,T,fr,fp,iZ,qf,dx,hn,sr,hl,HQ,H8⟩:=hg.boxes s cs ji
         obtain⟨B5,vs,dU,N9⟩:=arg_val (c:=cv _ g st' w') (c':=cv _ g st' w') rfl rfl (v:=.agg arr.toList.toArray) (x:=.val true cs) ⟨arr.toList,rfl,dx⟩ jQ
         have hvs:arr.toList=vs:=by have dU:Value.agg arr.toList.toArray=.agg vs.toArray:=dU;simp only[Value.agg.injEq]at dU;simpa using congrArg Array.toList dU
         rw[<-hvs]at N9
         have lh:=zl N9
         have JN:=yY hx
         rw[bt]at JN
         rw[JN]at lh
         have dD:(Go.results fn a'.tmps).run P w'=.ok (a'.tmps.getD i undef) w':=by
          have he:fn.results=#[.tmp i]:=by apply dV;exact hri
          have ahk:=EY (P:=P) (EW a'.tmps) (λ_=>a'.tmps.getD i undef) w' fn.results (λx hx=>by rw[he]at hx;simp at hx;subst hx;rfl)
          have hd:Go.results fn a'.tmps=(do
           let vs<-fn.results.mapM (EW a'.tmps)
           pure (if h:vs.size=1 then vs[0] else .tuple vs)):=by
           unfold Go.results
           congr 1
          rw[hd];simp only[Sem.run_bind,ahk,Result.andThen_ok,Sem.run_pure];rw[he];simp
         refine⟨_,dD,g.β s,arr,T,fr,g.hw,congrArg Ending.returned uR,?_,iZ,qf,lh,hg.frame⟩
         exact(hg.ff _ _ HQ).2.resolve_right (λf=>f)
        ·cases eT
       ·cases eT
     ·cases eT
    ·cases eT
   cases e<;>cases ex<;>simp only[HX]at he;exact main hk;cases hk;exact main hk
  refine⟨⟨fn,c,hf,hb,vc⟩,λ_ _ A w vs hA eR=>?_,λh=>(by cases h),λh=>(by cases h),λ_=>key⟩;refine(key A w vs hA eR).mono ?_;rintro e w' ⟨b,arr,T,fr,hw,rfl,_,_,_,_,gu⟩;exact⟨_,hw,[],rfl,fA.bot _ _,List.nodup_nil,(λb hb=>by cases hb),gu⟩;cases hy
end Go.Dn
