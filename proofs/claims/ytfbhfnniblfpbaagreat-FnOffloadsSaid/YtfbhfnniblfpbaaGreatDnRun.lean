import Derived.Test.YtfbhfnniblfpbaaGreatDnAny
/- The soundness of the abstract semantics: code and functions. -/
namespace Go.Dn
open Go.RowKit
variable {P:Program} {C:Ctx} {st:AS} {a:Act} {w:World} {R:Type} {r:R}
variable {an:An} {gg:Bool} {Γ:zu} {g:Gh} {Λ:Hg} {f:Nat} {hw:Nat->Nat} {A:Rg} {rs:ax (Bool×FT)} {ys:ax (Bool×ax AC)} {cs:ax AC} {xs:ax AV} {fp:fi} {vs:jI}
def Js:Exit->Ex->Prop
 | .normal,.normal=>True
 | .ret,.ret=>True
 | .exit i,.exit j=>i=j
 |_,_=>False
def amp (C:Ctx)(K:Ex->AS->aA R)(r:R)(e:Exit)(a:Act)(w:World):Prop:=
 ∃ex cp,Js e ex/\qo C cp a w/\K ex cp=some r
theorem afK {E:Env}(hS:Sound P E Γ){id:Nat}{ops:Array Oper}{d:Bool}(h:qo C st a w){K:AS->aA R}(hk:Ww E Γ an id ops.toList d st K=some r){Q:Exit->Act->World->Prop}(hq:∀cp a' w',qo C cp a' w'->K cp=some r->Q .normal a' w'):(Code.region id ops d).wp P Q a w:=by
 unfold Ww at hk;split at hk;rw[Qt]at hk;cases ho:HA E Γ an ops.toList d st some with|none=>rw[ho]at hk;cases hk|some st1=>rw[ho]at hk;exact acW hS h ho (λa' w' hs=>hq _ _ _ hs hk)
 rename_i s hm;split at hk;rename_i alM;rw[Qt]at hk;cases ho:HA E Γ.calm an ops.toList d st some with|none=>rw[ho]at hk;cases hk|some st1=>rw[ho]at hk;simp only[fL]at hk;cases hb:getBool st1 s with|none=>rw[hb]at hk;cases hk|some b=>rw[hb]at hk;simp only[aa]at hk;have hn:=afg (aju Γ) (λo OX=>aO.1 alM o OX) ho;exact acW hS.calm h ho (λa' w' hs=>hq _ _ _ (hs.weaken hn hb) hk)
 cases hk
def LOk (E:Env)(Γ:zu)(an:An)(Λ:Hg)(c:Code):Prop:=
 ∃n,∀(R:Type)(st:AS)(K:Ex->AS->aA R)(r:R),(Λ (eP c)).go st K=some r->B7 (an.mask (eP c)) (den E Γ an Λ c) n st K=some r
def COk (E:Env)(Γ:zu)(an:An)(Λ:Hg)(c:Code):Prop:=
 ∀(R:Type)(st:AS)(K:Ex->AS->aA R)(r:R),(Λ (zG c)).go st K=some r->den E Γ an Λ c st (λe cp=>K e (cp.mask (an.mask (zG c+1))))=some r
def BV (E:Env)(Γ:zu)(an:An)(Λ:Hg)(c:Code):Prop:=(∀c'∈jD c,LOk E Γ an Λ c')/\∀c'∈lZ an.cut c,COk E Γ an Λ c'
theorem agY (c:Code):lZ [] c=[]:=by induction c with|seq a b iha ihb=>simp[lZ,iha,ihb]|cond _ a b iha ihb=>simp[lZ,iha,ihb]|block _ c ih=>simpa[lZ]using ih|loop c ih=>simpa[lZ]using ih|_=>rfl
theorem BV.of {E:Env}{c:Code}(h:∀c'∈jD c,LOk E Γ an Λ c')(hc:an.cut=[]):BV E Γ an Λ c:=⟨h,by rw[hc,agY];simp⟩
theorem Ql {E:Env}(hS:Sound P E Γ):∀(c:Code)(_:BV E Γ an Λ c)(st:AS)(a:Act)(w:World)(K:Ex->AS->aA R),qo C st a w->den E Γ an Λ c st K=some r->c.wp P (amp C K r) a w:=by
 intro c;induction c with
 |skip=>intro Hk st a w K h hk;exact wp_skip ⟨.normal,st,dx,h,hk⟩
 |region id ops d=>intro Hk st a w K h hk;exact afK hS h (by simpa only[den]using hk) (λcp a' w' hs he=>⟨.normal,cp,dx,hs,he⟩)
 |seq x y ihx ihy=>
  intro Hk st a w K h hk;have ihx:=ihx ⟨λc hc=>Hk.1 c (by simp[jD,hc]),λc hc=>Hk.2 c (by simp[lZ,hc])⟩;have ihy:=ihy ⟨λc hc=>Hk.1 c (by simp[jD,hc]),λc hc=>Hk.2 c (by simp only[lZ];cases an.cut.contains (eP y)<;>simp[hc])⟩;simp only[den]at hk;refine wp_seq (wp_mono (ihx st a w _ h hk) ?_);rintro e a' w' ⟨ex,cp,he,hs,HM⟩;cases e<;>cases ex<;>simp only[Js]at he;simp only at HM;cases gb:an.cut.contains (eP y)with|false=>rw[gb]at HM;exact ihy cp a' w' K hs HM|true=>rw[gb]at HM;have hc:=Hk.2 y (by simp only[lZ,gb];simp) _ _ _ _ HM;refine wp_mono (ihy _ a' w' _ (hs.mask _) hc) ?_;rintro e2 a2 w2 ⟨ex2,st2,he2,hs2,hk2⟩;exact⟨ex2,_,he2,hs2.mask _,hk2⟩
  exact⟨.exit _,cp,he,hs,HM⟩;exact⟨.ret,cp,dx,hs,HM⟩
 |cond c x y ihx ihy=>
  intro Hk st a w K h hk;have ihx:=ihx ⟨λc hc=>Hk.1 c (by simp[jD,hc]),λc hc=>Hk.2 c (by simp[lZ,hc])⟩;have ihy:=ihy ⟨λc hc=>Hk.1 c (by simp[jD,hc]),λc hc=>Hk.2 c (by simp[lZ,hc])⟩;simp only[den]at hk;split at hk;rename_i t hc;have hv:a.eval c=.bool t:=by obtain⟨g,hg⟩:=h;have:=hg.rd c;rw[hc]at this;exact yp this
  cases t with|true=>exact wp_cond_true hv (ihx st a w K h hk)|false=>exact wp_cond_false hv (ihy st a w K h hk)
  cases hk
 |block id c ih=>intro Hk st a w K h hk;have ih:=ih ⟨λc hc=>Hk.1 c (by simpa[jD]using hc),λc hc=>Hk.2 c (by simpa[lZ]using hc)⟩;simp only[den]at hk;refine wp_block (wp_mono (ih st a w _ h hk) ?_);rintro e a' w' ⟨ex,cp,he,hs,HM⟩;cases e<;>cases ex<;>simp only[Js]at he;exact⟨.normal,cp,dx,hs,HM⟩;rename_i i j;subst he;simp only[Exit.inBlock];simp only at HM;by_cases hi:i=id;subst hi;rw[aI rfl];simp only[beq_self_eq_true,cL]at HM;exact⟨.normal,cp,dx,hs,HM⟩;rw[aK hi];rw[aK (by simpa using hi)]at HM;exact⟨.exit i,cp,rfl,hs,HM⟩;exact⟨.ret,cp,dx,hs,HM⟩
 |loop c ih=>
  intro Hk st a w K h hk;have ih:=ih ⟨λc hc=>Hk.1 c (by simp[jD,hc]),λc hc=>Hk.2 c (by simpa[lZ]using hc)⟩;obtain⟨n,hn⟩:=Hk.1 c (by simp[jD]);simp only[den]at hk;intro b k cs
  have key:∀m st a w,qo C st a w->B7 (an.mask (eP c)) (den E Γ an Λ c) m st K=some r->
   ∃e a' w',amp C K r e a' w'/\Arrives P (lone (b.at a (.code c:: .inLoop c::k)) cs w) b k cs e a' w':=by
   intro m
   induction m with
   |zero=>intro st a w _ hk;cases hk
   |succ m ihm=>
    intro st a w h hk
    simp only[B7]at hk
    obtain⟨e,aan,acC,⟨ex,cp,he,hs,HM⟩,OU⟩:=ih st a w _ h hk b (.inLoop c::k) cs
    cases e<;>cases ex<;>simp only[Js]at he
    ·obtain⟨alo,ale,amh,ahy,VT⟩:=ihm _ aan acC (hs.mask _) HM
     exact⟨alo,ale,amh,ahy,.of_steps (Steps.trans OU (.one step_inLoop)) VT⟩
    ·exact⟨.exit _,aan,acC,⟨.exit _,_,he,hs.mask _,HM⟩,.pass (x:=.inLoop c) rfl (λ_ _=> .inl (by simp)) OU⟩
    ·exact⟨.ret,aan,acC,⟨.ret,_,dx,hs.mask _,HM⟩,.pass (x:=.inLoop c) rfl (λ_ _=> .inl (by simp)) OU⟩
  cases hp:an.peel.contains (eP c)with
  |false=>rw[hp]at hk;obtain⟨e,a',w',hq,OU⟩:=key n _ a w (h.mask _) (hn _ _ _ _ hk);exact⟨e,a',w',hq,.of_steps (.one step_loop) OU⟩
  |true=>rw[hp]at hk;simp only[af]at hk;obtain⟨e,aan,acC,⟨ex,cp,he,hs,HM⟩,OU⟩:=ih _ a w _ (h.mask _) hk b (.inLoop c::k) cs;cases e<;>cases ex<;>simp only[Js]at he;obtain⟨alo,ale,amh,ahy,VT⟩:=key n _ aan acC (hs.mask _) (hn _ _ _ _ HM);exact⟨alo,ale,amh,ahy,.of_steps (Steps.trans (.one step_loop) (Steps.trans OU (.one step_inLoop))) VT⟩;exact⟨.exit _,aan,acC,⟨.exit _,_,he,hs.mask _,HM⟩,.of_steps (.one step_loop) (.pass (x:=.inLoop c) rfl (λ_ _=> .inl (by simp)) OU)⟩;exact⟨.ret,aan,acC,⟨.ret,_,dx,hs.mask _,HM⟩,.of_steps (.one step_loop) (.pass (x:=.inLoop c) rfl (λ_ _=> .inl (by simp)) OU)⟩
 |exit id=>intro Hk st a w K h hk;exact wp_exit ⟨.exit id,st,rfl,h,hk⟩
 |ret=>intro Hk st a w K h hk;exact wp_ret ⟨.ret,st,dx,h,hk⟩
 |_=>intro Hk st a w K h hk;simp[den]at hk
theorem F4:∀{vs:jI}{xs:ax AV},qx A w vs xs->vs.length=xs.length/\∀(i:Nat)(x:AV),xs[i]?=some x->∃v,vs[i]?=some v/\gV (gh A (λ_=>0) w) v x []
 |[],[],_=>⟨rfl,by simp⟩
 |v::vs,x::xs,h=>by obtain⟨hl,hi⟩:=F4 h.2;refine⟨by simp[hl],λi y hy=>?_⟩;cases i with|zero=>simp at hy;subst hy;exact⟨v,rfl,h.1⟩|succ i=>exact hi i y (by simpa using hy)
 |[],_::_,h=>h.elim
 |_::_,[],h=>h.elim
theorem NL (hA:∀k b o,A k b o->b<w.heap.size){fn:Func}(h:qx A w vs xs): qo ⟨A,λ_=>False,w,[],λk b o hb=>⟨hA k b o hb,λf=>f⟩⟩ (qm fn xs) {tmps:=vs.toArray++Array.replicate (fn.ntmps-vs.toArray.size) undef,defers:=[]} w:=by
 obtain⟨hl,hi⟩:=F4 h;let C:Ctx:=⟨A,λ_=>False,w,[],λk b o hb=>⟨hA k b o hb,λf=>f⟩⟩
 let g:Gh:=⟨λ_=>0,λ_=>0,λ_=>none,λ_=>undef⟩
 have hle:(gh A (λ_=>0) w).Le (dy C g (qm fn xs) w):=⟨rfl,λt ht=>ht.elim,λ_ _ _ _ _ hv=>hv,bc _,λs hs=>hs.elim,λ_ b o u ho hu=>⟨ho,hu⟩⟩
 refine⟨g,rfl,?_,?_,λi av hs=>?_,λs cs hs=>?_,λk v av hk=>by simp at hk,λb x hx=>(by cases hx),Fr.refl _ _,⟨[],rfl,by simp,by simp⟩⟩;simp[qm,hl];simp[qm];have wu:(xs++List.replicate (fn.ntmps-xs.length) AV.bot)[i]?=some av:=hs;rcases ca i xs.length with iA|B0;rw[bB iA]at wu;obtain⟨v,hv,hr⟩:=hi i av wu;refine⟨[],?_,by simp,by simp⟩;have hvv:(vs.toArray++Array.replicate (fn.ntmps-vs.toArray.size) undef).getD i undef=v:=by
  have aen:i<vs.length:=by omega
  have Uc:vs[i]=v:=by rw[ay aen]at hv;exact bQ hv
  simp[dz,Array.getElem?_append,aen,Uc]
 show gV _ ((vs.toArray++Array.replicate (fn.ntmps-vs.toArray.size) undef).getD i undef) _ _;rw[hvv];exact hr.mono hle (by simp);rw[bJ B0,dU]at wu;split at wu;cases wu;exact⟨[],gV.bot _ _,by simp,by simp⟩;cases wu;have wu:(List.replicate (xs.length+(fn.ntmps-xs.length)) (none:aA (ax AC)))[s]?=some (some cs):=hs;rw[dU]at wu;split at wu<;>cases wu
theorem acv {v:Value}{x:AC}(h:je (dy C g st w) v x fp):je (gh C.A g.hw w) v x.strip fp:=by
 cases x with
 |int k n=>exact h
 |bool b=>exact h
 |str s=>exact h
 |kS=>exact h
 |fn f=>exact h
 |un=>exact h
 |bot=>exact h
 |ptr s off=>exact h.2.2
 |Ef fl e y i off=>cases fl with|own t=>exact h.elim|nest _ _ _ _ _ _=>exact h.elim|part _ _ _ _=>exact h.elim|gr _ _ _=>exact h.elim|arg _=>exact h.1|loc ep pv=>exact h.1
 |sl fl e xs=>
  cases fl with
  |nest _ _ _ _ _ _=>exact h.1
  |part _ _ _ _=>exact h.1
  |gr _ _ _=>obtain⟨_,⟨k,hk,h3⟩,_⟩:=h;exact⟨λq hq=>(by cases hq),⟨k,hk,h3⟩,by simp⟩
  |own t=>exact⟨h.1,by simp⟩
  |arg _=>exact h
  |loc ep pv=>exact h.1
theorem Bx:∀{vs:jI}{xs:ax AC}{fp:fi},bW (dy C g st w) vs xs fp->bW (gh C.A g.hw w) vs (xs.map AC.strip) fp
 |[],[],_,h=>h
 |_::_,_::_,_,h=>by obtain⟨f1,f2,rfl,h1,h2⟩:=h;exact⟨f1,f2,rfl,acv h1,Bx h2⟩
 |[],_::_,_,h=>h.elim
 |_::_,[],_,h=>h.elim
def GA (tmps:Array Value):ResultVar->Sem Value
 | .tmp t=>pure (tmps.getD t undef)
 | .cell a t=>do loadVar t (<-asAddr (tmps.getD a undef))
def Cs:Bool×Nat->kX
 |(false,t)=> .slot t
 |(true,s)=> .box s
theorem Ol {x y:Bool×Nat}(h:Cs x=Cs y):x=y:=by rcases x with⟨_|_,a⟩<;>rcases y with⟨_|_,b⟩<;>simp[Cs]at h<;>rw[h]
theorem akj {E:Env}(hE:kQ P E.ty)(h:eZ C g st a w []){rv:ResultVar}{own:Bool×Nat}(hr:RQ st E rv=some (own,gg,cs)): ∃v vs fp,(GA a.tmps rv).run P w=.ok v w/\Cut gg v vs/\bW (gh C.A g.hw w) vs cs fp/\fp.Nodup/\∀b∈fp,g.fK b=some (Cs own):=by
 cases rv with
 |tmp t=>simp only[RQ]at hr;split at hr;rename_i g' tr qn;cases hr;obtain⟨fp,fE,hn,hl⟩:=h.slot t;rw[qn]at fE;obtain⟨vs,gb,fE⟩:=fE;exact⟨_,vs,fp,rfl,gb,Bx fE,hn,hl⟩;cases hr
 |cell t T=>
  simp only[RQ]at hr;split at hr;rename_i sh s off hT hp;cases lB:(nth st.boxes s).getD none with
  |none=>rw[lB]at hr;cases hr
  |some tr=>
   rw[lB]at hr;simp only[fL]at hr;split at hr;rename_i iW;cases hr;have lB:st.boxes[s]?=some (some tr):=by rw[eV]at lB;cases hq:st.boxes[s]? with|none=>rw[hq]at lB;simp at lB|some q=>rw[hq]at lB;simp at lB;rw[lB]
   obtain⟨fp0,xH,_,_⟩:=h.slot t;rw[hp]at xH;have xH:=Ey xH;obtain⟨arr,T',fr,fp,ma,vx,fE,hn,zb,hl,KI,KK⟩:=h.boxes s tr lB;have hlen:=fE.length;obtain⟨v,fz,gb⟩:=Bm (hE T sh hT) (g.β s) off ((arr.toList.drop off).take sh.ct.size) (by simp at hlen⊢;omega) (TD ma off sh.ct.size);obtain⟨f1,f2,f3,rfl,r1,r2,r3⟩:=fE.mid off sh.ct.size;have MZ:=(aN.1 (aN.1 hn).1).2.1;refine⟨v,_,f2,?_,gb,Bx r2,MZ,λb hb=>hl b (by simp[hb])⟩;simp only[GA,xH,asAddr,Sem.run_bind,Sem.run_pure,Result.andThen_ok];exact fz;cases hr
  cases hr
theorem adn {E:Env}(hE:kQ P E.ty)(h:eZ C g st a w [])(gf:ResultVar->Value):∀(rs:ax ResultVar)(had:ax (Bool×Nat))(ys:ax (Bool×ax AC)),qK st E had rs=some ys->
 (∀rv v,(GA a.tmps rv).run P w=.ok v w->gf rv=v)->
 (∀rv∈rs,(GA a.tmps rv).run P w=.ok (gf rv) w)/\∃fp,gV.tw (gh C.A g.hw w) (rs.map gf) ys fp/\fp.Nodup/\∀b∈fp,∃own,own∉had/\g.fK b=some (Cs own)
 |[],had,ys,hr,hgf=>by cases hr;exact⟨by simp,[],rfl,by simp,by simp⟩
 |rv::rs,had,ys,hr,hgf=>by
  simp only[qK]at hr;cases h1:RQ st E rv with
  |none=>rw[h1]at hr;cases hr
  |some x=>
   obtain⟨own,gg,cs⟩:=x;rw[h1]at hr;simp only[fL]at hr;split at hr;cases hr;rename_i OW;have OW:own∉had:=by simpa using OW
   cases h2:qK st E (own::had) rs with|none=>rw[h2]at hr;cases hr|some xs=>rw[h2]at hr;simp only[fL,br]at hr;subst hr;obtain⟨v,vs,ud,fz,gb,fE,MZ,hl1⟩:=akj hE h h1;obtain⟨ahB,fp2,QX,Hn,B4⟩:=adn hE h gf rs (own::had) xs h2 hgf;have hv:=hgf rv v fz;refine⟨λrv' hm=>?_,ud++fp2,⟨ud,fp2,rfl,⟨vs,by rw[hv];exact gb,fE⟩,QX⟩,?_,λb hb=>?_⟩;rcases cy.1 hm with rfl|hm;rw[hv];exact fz;exact ahB rv' hm;refine aN.2 ⟨MZ,Hn,λb hb b' iq he=>?_⟩;subst he;obtain⟨ang,KJ,Hj⟩:=B4 b iq;rw[hl1 b hb]at Hj;have:=Ol (bQ Hj);subst this;exact KJ (by simp);rcases aB.1 hb with hb|hb;exact⟨own,OW,hl1 b hb⟩;obtain⟨ang,KJ,Hj⟩:=B4 b hb;exact⟨ang,λhm=>KJ (by simp[hm]),Hj⟩
theorem FK.aea {fl:FK}{f:tu}(h:fl.fits f=true):f=fl.flag:=by
 unfold FK.fits at h;split at h;rename_i t t';have:t=t':=by simpa using h
 subst this;rfl;rename_i k;have:k=false:=by simpa using h
 subst this;rfl;rename_i k;have:k=true:=h;subst this;rfl;rfl;rename_i j t j' t';simp only[ah,bD]at h;obtain⟨rfl,rfl⟩:=h;rfl;cases h
theorem Bn:∀{t:FT}{cs r:ax AC}{x:t.ct.D},PA t cs=some (x,r)->cs=ks t x++r:=by
 intro t;induction t with
 |int k=>intro cs r x h;cases cs with|nil=>simp[PA]at h|cons y ys=>cases y<;>simp[PA]at h;obtain⟨rfl,rfl,rfl⟩:=h;rfl
 |bool=>intro cs r x h;cases cs with|nil=>simp[PA]at h|cons y ys=>cases y<;>simp[PA]at h;obtain⟨rfl,rfl⟩:=h;rfl
 |str=>intro cs r x h;cases cs with|nil=>simp[PA]at h|cons y ys=>cases y<;>simp[PA]at h;obtain⟨rfl,rfl⟩:=h;rfl
 |sl fl e=>
  intro cs r x h;cases cs with
  |nil=>simp[PA]at h
  |cons y ys=>
   cases y with
   |sl fl' e' xs=>
    simp only[PA]at h;split at h
    ·rename_i he;subst he;cases hf:fl.fits fl' with
     |false=>rw[hf]at h;cases h
     |true=>
      rw[hf]at h;cases h;rw[FK.aea hf];have hn:fl.isNil=false:=by cases fl<;>first|rfl|(unfold FK.fits at hf;cases hf)
      simp only[ks,hn,ae];rfl
    cases h
   |kS=>simp only[PA]at h;cases hn:fl.isNil with|false=>rw[hn]at h;cases h|true=>rw[hn]at h;cases h;simp only[ks,hn,af];rfl
   |_=>simp[PA]at h
 |pair a b iha ihb=>intro cs r x h;simp only[PA]at h;obtain⟨⟨x1,r1⟩,h1,h⟩:=aY.1 h;obtain⟨⟨x2,r2⟩,h2,h⟩:=aY.1 h;cases h;have h3:r1=ks b x2++r2:=ihb h2;rw[iha h1,h3];simp[ks]
theorem Oj:∀(rs:ax (Bool×FT))(ys:ax (Bool×ax AC))(y:jK rs),lD rs ys=some y->ys=al8 rs y
 |[],[],y,_=>rfl
 |[],_::_,y,h=>by simp[lD]at h
 |[(g,t)],ys,y,h=>by
  cases ys with
  |nil=>simp[lD]at h
  |cons p ys=>
   cases ys with
   |cons _ _=>simp[lD]at h
   |nil=>
    obtain⟨g',cs⟩:=p;simp only[lD]at h;cases hg:g==g' with
    |false=>rw[hg]at h;cases h
    |true=>
     rw[hg]at h;have:g=g':=by simpa using hg
     subst this;simp only[af]at h;split at h;rename_i x hx;cases h;have:=Bn hx;rw[bg]at this;rw[this];rfl;cases h
 |(g,t)::p::r,ys,y,h=>by
  cases ys with
  |nil=>simp[lD]at h
  |cons q ys=>
   obtain⟨g',cs⟩:=q;simp only[lD]at h;cases hg:g==g' with
   |false=>rw[hg]at h;cases h
   |true=>
    rw[hg]at h;have:g=g':=by simpa using hg
    subst this;simp only[af]at h;split at h;rename_i x hx;obtain⟨z,hz,h⟩:=aY.1 h;cases h;have h1:=Bn hx;rw[bg]at h1;rw[h1,Oj (p::r) ys z hz];rfl;cases h
theorem Ov {E:Env}(hE:kQ P E.ty){fn:Func}{cp:AS}{a':Act}{w':World}(hg:eZ C g cp a' w' []){had:ax (Bool×Nat)}(V4:qK cp E had fn.results.toList=some ys){y:jK rs}(gW:lD rs ys=some y): ∃v fp,(Go.results fn a'.tmps).run P w'=.ok v w'/\gV (gh C.A g.hw w') v (zC rs y) fp/\fp.Nodup/\∀b∈fp,∃own,own∉had/\g.fK b=some (Cs own):=by
 have hys:=Oj rs ys y gW;let gf:ResultVar->Value:=λrv=>match (GA a'.tmps rv).run P w' with| .ok v _=>v|_=>undef
 obtain⟨ahB,fp,fE,HN,Hj⟩:=adn hE hg gf fn.results.toList had ys V4 (λrv v hv=>by simp only[gf,hv]);have aaV:=GB (P:=P) (GA a'.tmps) gf w' fn.results (λx hx=>ahB x (by simpa using hx));have fz:(Go.results fn a'.tmps).run P w'=.ok (if h:(fn.results.map gf).size=1 then(fn.results.map gf)[0] else .tuple (fn.results.map gf)) w':=by
  have:Go.results fn a'.tmps=(do
   let vs<-fn.results.mapM (GA a'.tmps)
   pure (if h:vs.size=1 then vs[0] else .tuple vs)):=by
   unfold Go.results
   congr 1
  rw[this];simp only[Sem.run_bind,aaV,Result.andThen_ok,Sem.run_pure]
 refine⟨_,fp,fz,?_,HN,Hj⟩;have X8:(fn.results.map gf).toList=fn.results.toList.map gf:=by simp
 unfold zC;rw[<-hys];cases ys with
 |nil=>
  have V3:fn.results.toList.map gf=[]:=by cases hm:fn.results.toList.map gf with|nil=>rfl|cons u us=>rw[hm]at fE;exact fE.elim
  have wv:¬(fn.results.map gf).size=1:=by rw[<-Array.length_toList,X8,V3];simp
  rw[dif_neg wv];exact⟨_,by rw[<-X8],fE⟩
 |cons y1 ys=>
  cases ys with
  |nil=>
   obtain⟨gg,cs⟩:=y1;cases hm:fn.results.toList.map gf with
   |nil=>rw[hm]at fE;exact fE.elim
   |cons u us=>
    rw[hm]at fE;obtain⟨f1,f2,rfl,aaX,oI⟩:=fE;cases us with
    |cons _ _=>exact oI.elim
    |nil=>
     cases oI;have OU:fn.results.map gf=#[u]:=by apply fY;rw[X8,hm]
     have:(if h:(fn.results.map gf).size=1 then(fn.results.map gf)[0] else .tuple (fn.results.map gf))=u:=by rw[dif_pos (by rw[OU];rfl)];simp only[OU];rfl
     rw[this,bg];exact aaX
  |cons y2 ys=>
   have wv:¬(fn.results.map gf).size=1:=by rw[<-Array.length_toList,X8];cases hm:fn.results.toList.map gf with|nil=>simp|cons u us=>rw[hm]at fE;obtain⟨f1,f2,rfl,aaX,oI⟩:=fE;cases us with|nil=>exact oI.elim|cons u2 us=>simp
   rw[dif_neg wv];exact⟨_,by rw[<-X8],fE⟩
theorem Ku {E:Env}(hE:kQ P E.ty){fn:Func}{cp:AS}{a':Act}{w':World}(hg:eZ C g cp a' w' [])(V4:qK cp E [] fn.results.toList=some ys){y:jK rs}(gW:lD rs ys=some y): ∃v fp,(Go.results fn a'.tmps).run P w'=.ok v w'/\gV (gh C.A g.hw w') v (zC rs y) fp/\fp.Nodup/\∀b∈fp,∃own,g.fK b=some (Cs own):=by obtain⟨v,fp,h1,h2,h3,h4⟩:=Ov hE hg V4 gW;exact⟨v,fp,h1,h2,h3,λb hb=>(h4 b hb).imp λ_ h=>h.2⟩
theorem aee {E:Env}{rs:ax (Bool×FT)}(hS:Sound P E Γ){fn:Func}(hf:P.funcs[f]?=some fn)(Dt:(fn.name== "runtime.NumGoroutine")=false)(Hk:BV E Γ an Λ (fn.body.getD .skip)):nn P f {R:=jK rs,fn:=HB E Γ an Λ fn rs,av:=zC rs}:=by
 intro xs y hy;simp only at hy;unfold HB at hy;cases hb:fn.body with
 |none=>rw[hb]at hy;cases hy
 |some c=>
  rw[hb]at hy;simp only at hy;split at hy;refine⟨⟨fn,c,hf,hb,Dt⟩,λ_ _ A w vs hA gN=>?_,λh=>(by cases h),λh=>(by cases h),λh=>(by cases h)⟩;refine calls_of_wp hf hb (wp_mono (Ql hS c (by rw[hb]at Hk;exact Hk) _ _ _ _ (NL hA gN) hy) ?_);rintro e a' w' ⟨ex,cp,he,hs,hk⟩;have main:aa (qK cp E [] fn.results.toList) (lD rs)=some y->a'.defers=[]/\∃v,(Go.results fn a'.tmps).run P w'=.ok v w'/\∃v_1 hw fp,Ending.returned v=Ending.returned v_1/\gV (gh A hw w') v_1 (zC rs y) fp/\fp.Nodup/\(∀b∈fp,w.heap.size<=b/\b<w'.heap.size)/\Fr (λ_=>False) w w':=by intro gW;obtain⟨g,hg⟩:=hs;refine⟨hg.defers,?_⟩;cases V4:qK cp E [] fn.results.toList with|none=>rw[V4]at gW;cases gW|some ys=>rw[V4]at gW;obtain⟨v,fp,fz,fE,HN,Hj⟩:=Ku hS.ty hg V4 gW;refine⟨v,fz,v,g.hw,fp,rfl,fE,HN,λb hb=>?_,hg.frame⟩;obtain⟨own,hl⟩:=Hj b hb;have:=hg.ir b _ hl;exact⟨this.2.resolve_right (λf=>f),this.1⟩
  cases e<;>cases ex<;>simp only[Js]at he;exact main hk;cases hk;exact main hk;cases hy
theorem ahe {E:Env}{O6:ax (Bool×FT)}(h2:jK O6=jK rs)(hS:Sound P E Γ){fn:Func}(hf:P.funcs[f]?=some fn)(Dt:(fn.name== "runtime.NumGoroutine")=false)(Hk:BV E Γ an Λ (fn.body.getD .skip)):nn P f {R:=Bool×jK rs,fn:=evalAlt E Γ an Λ fn rs O6 h2,av:=λy=>zC rs y.2,sel:=λy=>y.1,alt:=λy=>zC O6 (cast h2.symm y.2)}:=by
 intro xs y hy;simp only at hy;unfold evalAlt at hy;cases hb:fn.body with
 |none=>rw[hb]at hy;cases hy
 |some c=>
  rw[hb]at hy;simp only at hy;split at hy;refine⟨⟨fn,c,hf,hb,Dt⟩,λ_ _ A w vs hA gN=>?_,λh=>(by cases h),λh=>(by cases h),λh=>(by cases h)⟩;refine calls_of_wp hf hb (wp_mono (Ql hS c (by rw[hb]at Hk;exact Hk) _ _ _ _ (NL hA gN) hy) ?_);rintro e a' w' ⟨ex,cp,he,hs,hk⟩
  have main:(aa (qK cp E [] fn.results.toList) λys=>match lD rs ys with
   |some y=>some (true,y)
   |none=>match lD O6 ys with
    |some y=>some (false,cast h2 y)
    |none=>none)=some y->a'.defers=[]/\∃v,(Go.results fn a'.tmps).run P w'=.ok v w'/\∃v_1 hw fp,Ending.returned v=Ending.returned v_1/\
   gV (gh A hw w') v_1 (cond y.1 (zC rs y.2) (zC O6 (cast h2.symm y.2))) fp/\fp.Nodup/\(∀b∈fp,w.heap.size<=b/\b<w'.heap.size)/\Fr (λ_=>False) w w':=by
   intro gW
   obtain⟨g,hg⟩:=hs
   refine⟨hg.defers,?_⟩
   cases V4:qK cp E [] fn.results.toList with
   |none=>rw[V4]at gW;cases gW
   |some ys=>
    rw[V4]at gW
    simp only[aa]at gW
    have fin:∀(rs':ax (Bool×FT))(y':jK rs'),lD rs' ys=some y'->∃v,(Go.results fn a'.tmps).run P w'=.ok v w'/\∃v_1 hw fp,Ending.returned v=Ending.returned v_1/\
     gV (gh A hw w') v_1 (zC rs' y') fp/\fp.Nodup/\(∀b∈fp,w.heap.size<=b/\b<w'.heap.size)/\Fr (λ_=>False) w w':=by
     intro rs' y' Ud
     obtain⟨v,fp,fz,fE,HN,Hj⟩:=Ku hS.ty hg V4 Ud
     refine⟨v,fz,v,g.hw,fp,rfl,fE,HN,λb hb=>?_,hg.frame⟩
     obtain⟨own,hl⟩:=Hj b hb
     have:=hg.ir b _ hl
     exact⟨this.2.resolve_right (λf=>f),this.1⟩
    cases h1:lD rs ys with
    |some y1=>rw[h1]at gW;cases gW;exact fin rs y1 h1
    |none=>
     rw[h1]at gW
     simp only at gW
     cases h3:lD O6 ys with
     |none=>rw[h3]at gW;cases gW
     |some y1=>
      rw[h3]at gW
      cases gW
      simp only[ae,cast_cast,cast_eq]
      exact fin O6 y1 h3
  cases e<;>cases ex<;>simp only[Js]at he;exact main hk;cases hk;exact main hk;cases hy
def ahk (vs:jI)(t:Nat):Value:=(vs[t/3-4096*1000003]?).getD undef
theorem ahX {c:RC}(T8:c.w=w)(Hh:c.hw=hw)(K6:∀t,t%3=0->c.iss t){all:jI}(OV:∀t,c.hdr t=ahk all t):
 ∀(j:Nat){vs:jI}{cs:ax AC}{fp:fi},bW (gh A hw w) vs cs fp->cs.all AC.abj=true->(∀i v,vs[i]?=some v->all[j+i]?=some v)->
  bW c vs (abi j cs) fp/\bW c vs (DD j cs) []:=by
 intro j vs
 induction vs generalizing j with
 |nil=>intro cs fp h _ _;cases cs with
  |nil=>exact⟨h,rfl⟩
  |cons _ _=>exact h.elim
 |cons v vs ih=>
  intro cs fp h lV uh
  cases cs with
  |nil=>exact h.elim
  |cons x cs=>
   obtain⟨f1,f2,rfl,h1,h2⟩:=h
   simp only[cx,ah]at lV
   obtain⟨i1,i2⟩:=ih (j+1) h2 lV.2 (λi u hu=>by rw[show j+1+i=j+(i+1) by omega];exact uh (i+1) u (by simpa using hu))
   have Ob:=uh 0 v rfl
   rw[eT]at Ob
   have mI:c.iss (Cr j)/\v=c.hdr (Cr j):=by refine⟨K6 _ (by unfold Cr;omega),?_⟩;rw[OV,ahk,show Cr j/3-4096*1000003=j by unfold Cr;omega,Ob];rfl
   have Fj:x.kB=true->abi j (x::cs)=x::abi (j+1) cs/\DD j (x::cs)=x::DD (j+1) cs->bW c (v::vs) (abi j (x::cs)) (f1++f2)/\bW c (v::vs) (DD j (x::cs)) []:=by rintro hf ⟨e1,e2⟩;obtain⟨rfl,k⟩:=rY (c':=c) h1 hf;rw[e1,e2];exact⟨⟨[],f2,rfl,k,i1⟩,⟨[],[],rfl,k,i2⟩⟩
   cases x with
   |sl fl e xs=>
    cases fl with
    |own t=>
     have ix:fZ c.hw c.w (.sl e) [v] xs f1:=by rw[Hh,T8];exact h1.1
     refine⟨⟨f1,f2,rfl,⟨ix,λq hq=>by cases hq;exact mI⟩,i1⟩,⟨[],[],rfl,⟨rfl,cU _,LI ix,λ_=>fZ.rep (λb o ho=> .inr ho) ix,λr t hp=>?_⟩,i2⟩⟩
     cases hp
     exact⟨mI.1,mI.2⟩
    |arg _=>cases lV.1
    |loc ep pv=>cases lV.1
    |nest _ _ _ _ _ _=>cases lV.1
    |part _ _ _ _=>cases lV.1
    |gr _ _ _=>cases lV.1
   |int k n=>exact Fj rfl ⟨rfl,rfl⟩
   |bool b=>exact Fj rfl ⟨rfl,rfl⟩
   |str s=>exact Fj rfl ⟨rfl,rfl⟩
   |fn f=>exact Fj rfl ⟨rfl,rfl⟩
   |kS=>cases lV.1
   |ptr s off=>cases lV.1
   |Ef fl e y i off=>cases lV.1
   |un=>cases lV.1
   |bot=>cases lV.1
theorem ZO (hA:∀k b o,A k b o->b<w.heap.size/\b∉fp){fn:Func}{v0:Value}{us:jI}(gb:Cut gg v0 us)(fE:bW (gh A hw w) us cs fp)(lV:cs.all AC.abj=true)(hn:fp.Nodup)(iA:∀b∈fp,b<w.heap.size)(h:qx A w vs xs): qo ⟨A,λb=>b∈fp,w,us,λk b o hb=>hA k b o hb⟩ (Je fn gg cs xs) {tmps:=(v0::vs).toArray++Array.replicate (fn.ntmps-(v0::vs).toArray.size) undef,defers:=[]} w:=by
 obtain⟨hl,hi⟩:=F4 h;let C:Ctx:=⟨A,λb=>b∈fp,w,us,λk b o hb=>hA k b o hb⟩
 let g:Gh:=⟨hw,λ_=>0,λb=>if b∈fp then some .io else none,ahk us⟩
 have hle:(gh A (λ_=>0) w).Le (dy C g (Je fn gg cs xs) w):=⟨rfl,λt ht=>ht.elim,λ_ _ _ _ _ hv=>hv,bc _,λs hs=>hs.elim,λ_ b o u ho _=>absurd ho (Nat.not_lt_zero _)⟩
 obtain⟨k1,k2⟩:=ahX (c:=dy C g (Je fn gg cs xs) w) (A:=A) rfl rfl (λt ht=> .inl (by omega)) (all:=us) (λt=>rfl) 0 fE lV (λi v hv=>by rw[cJ];exact hv);refine⟨g,rfl,?_,?_,λi av hs=>?_,λs tr hs=>?_,λk v av hk=>by simp at hk,λb x hx=>?_,Fr.refl _ _,⟨fp,k1,hn,λb hb=>by show(if b∈fp then _ else _)=_;rw[aI hb]⟩⟩;simp[Je,qm,hl];omega;·simp[Je,qm];try omega
 have wu:((.val gg (DD 0 cs)::xs)++List.replicate (fn.ntmps-(.val gg (DD 0 cs)::xs).length) AV.bot)[i]?=some av:=hs;rcases ca i (xs.length+1)with aen|B0;rw[bB (by simpa using aen)]at wu;cases i with
 |zero=>
  simp at wu;subst wu;refine⟨[],?_,by simp,by simp⟩;have hvv:((v0::vs).toArray++Array.replicate (fn.ntmps-(v0::vs).toArray.size) undef).getD 0 undef=v0:=by simp[dz,Array.getElem?_append]
  show gV _ (((v0::vs).toArray++Array.replicate (fn.ntmps-(v0::vs).toArray.size) undef).getD 0 undef) _ _;rw[hvv];exact⟨us,gb,k2⟩
 |succ i=>
  obtain⟨v,hv,hr⟩:=hi i av (by simpa using wu);refine⟨[],?_,by simp,by simp⟩;have hvv:((v0::vs).toArray++Array.replicate (fn.ntmps-(v0::vs).toArray.size) undef).getD (i+1) undef=v:=by
   have ahs:i<vs.length:=by omega
   have Uc:vs[i]=v:=by rw[ay ahs]at hv;exact bQ hv
   simp[dz,Array.getElem?_append,ahs,Uc]
  show gV _ (((v0::vs).toArray++Array.replicate (fn.ntmps-(v0::vs).toArray.size) undef).getD (i+1) undef) _ _;rw[hvv];exact hr.mono hle (by simp)
 rw[bJ (by simpa using B0),dU]at wu;split at wu;cases wu;exact⟨[],gV.bot _ _,by simp,by simp⟩;cases wu;have wu:(List.replicate ((AV.val gg (DD 0 cs)::xs).length+(fn.ntmps-(AV.val gg (DD 0 cs)::xs).length)) (none:aA (ax AC)))[s]?=some (some tr):=hs;rw[dU]at wu;split at wu<;>cases wu;have Dv:(if b∈fp then some kX.io else none)=some x:=hx;split at Dv;rename_i hm;exact⟨iA b hm,.inr hm⟩;cases Dv
theorem ass {E:Env}{rs:ax (Bool×FT)}{t:CT}(hS:Sound P E Γ){fn:Func}(hf:P.funcs[f]?=some fn)(Dt:(fn.name== "runtime.NumGoroutine")=false)(Hk:BV E Γ an Λ (fn.body.getD .skip)):nn P f {R:=jK rs×t.D,fn:=aaH E Γ an Λ fn rs t,av:=λy=>zC rs y.1,io:=true,back:=λy=>cellsOf t (.own none) y.2}:=by
 intro xs y hy;simp only at hy;unfold aaH at hy;split at hy;rename_i c gg cs rest hb;split at hy;rename_i hlen;refine⟨⟨fn,c,hf,hb,Dt⟩,λh=>(by cases h),λ_ g0 SA aiD he A w v0 vs hw fp hA fE hn iA gN=>?_,λh=>(by cases h),λh=>(by cases h)⟩;injection he with he1 he2;injection he1 with he1 he3;subst he1;subst he2;subst he3;obtain⟨us,gb,fE⟩:=fE;refine calls_of_wp hf hb (wp_mono (Ql hS c (by rw[hb]at Hk;exact Hk) _ _ _ _ (ZO (fn:=fn) hA gb fE hlen.2 hn iA gN) hy) ?_);rintro e a' w' ⟨ex,cp,he,hs,hk⟩
 have main:(aa (aa (qK cp E [] fn.results.toList) (lD rs)) λr=>match kJ t cp.io with|some (x,[])=>some (r,x)|_=>none)=some y->
  a'.defers=[]/\∃v,(Go.results fn a'.tmps).run P w'=.ok v w'/\∃v_1 hw' fr kZ,Ending.returned v=Ending.returned v_1/\gV (gh A hw' w') v_1 (zC rs y.1) fr/\gV (gh A hw' w') v0 (.val gg (cellsOf t (.own none) y.2)) kZ/\kZ.Nodup/\(∀b∈kZ,b<w'.heap.size/\(b∈fp\/w.heap.size<=b))/\Fr (λb=>b∈fp) w w':=by
  intro gW
  obtain⟨g,hg⟩:=hs
  refine⟨hg.defers,?_⟩
  cases V4:qK cp E [] fn.results.toList with
  |none=>rw[V4]at gW;cases gW
  |some ys=>
   rw[V4]at gW
   simp only[aa]at gW
   cases hrr:lD rs ys with
   |none=>rw[hrr]at gW;cases gW
   |some r0=>
    rw[hrr]at gW
    simp only at gW
    split at gW
    ·rename_i x hx
     cases gW
     obtain⟨v,fr,fz,xp,HN,Hj⟩:=Ku hS.ty hg V4 hrr
     obtain⟨kZ,QP,D5,hl'⟩:=hg.io
     obtain⟨f1,f2,rfl,ix,oI⟩:=tN QP hx
     have V3:us.drop t.size=[]:=by cases hd:us.drop t.size with|nil=>rfl|cons _ _=>have QY:bW _ (us.drop t.size) _ _:=oI;rw[hd]at QY;exact QY.elim
     have F1:f2=[]:=by have QY:bW _ (us.drop t.size) [] f2:=oI;rw[V3]at QY;exact QY
     subst F1
     rw[bg]at D5 hl'
     have ahD:us.take t.size=us:=by have:=cg t.size us;rw[V3,bg]at this;exact this
     have Fw:fZ g.hw w' t us x f1:=by have Fw:fZ g.hw w' t (us.take t.size) x f1:=ix;rwa[ahD]at Fw
     refine⟨v,fz,v,g.hw,fr,f1,rfl,xp,⟨us,gb,xy (c:=gh A g.hw w') Fw⟩,D5,λb hb=>?_,hg.frame⟩
     have:=hg.ir b _ (hl' b hb)
     exact⟨this.1,this.2.symm⟩
    ·cases gW
 cases e<;>cases ex<;>simp only[Js]at he;exact main hk;cases hk;exact main hk;cases hy;cases hy
theorem adT {c:RC}(hcA:c.A=A)(T8:c.w=w)(Hh:c.hw=hw)(K6:∀t,t%3=1->c.iss t){all:jI}(OV:∀t,c.hdr t=(all[t/3]?).getD undef):
 ∀(j:Nat){vs:jI}{cs:ax AC}{fp:fi},bW (gh A hw w) vs cs fp->cs.all (AC.BX true)=true->(∀i v,vs[i]?=some v->all[j+i]?=some v)->bW c vs (KT j cs) fp:=by
 intro j vs
 induction vs generalizing j with
 |nil=>intro cs fp h _ _;cases cs with
  |nil=>exact h
  |cons _ _=>exact h.elim
 |cons v vs ih=>
  intro cs fp h lV uh
  cases cs with
  |nil=>exact h.elim
  |cons x cs=>
   obtain⟨f1,f2,rfl,h1,h2⟩:=h
   simp only[cx,ah]at lV
   have i1:=ih (j+1) h2 lV.2 (λi u hu=>by rw[show j+1+i=j+(i+1) by omega];exact uh (i+1) u (by simpa using hu))
   have Ob:=uh 0 v rfl
   rw[eT]at Ob
   have Fj:x.kB=true->KT j (x::cs)=x::KT (j+1) cs->bW c (v::vs) (KT j (x::cs)) (f1++f2):=by rintro hf e1;obtain⟨rfl,k⟩:=rY (c':=c) h1 hf;rw[e1];exact⟨[],f2,rfl,k,i1⟩
   cases x with
   |sl fl e xs=>
    cases fl with
    |own t=>
     have ix:fZ c.hw c.w (.sl e) [v] xs f1:=by rw[Hh,T8];exact h1.1
     refine⟨f1,f2,rfl,⟨ix,λq hq=>?_⟩,i1⟩
     cases hq
     refine⟨K6 _ (by omega),?_⟩
     rw[OV,show(3*j+1)/3=j by omega,Ob];rfl
    |arg k=>
     have hk:k=true:=by simpa[AC.BX]using lV.1
     subst hk
     exact⟨f1,f2,rfl,⟨h1.1,by rw[T8,hcA];exact h1.2⟩,i1⟩
    |loc ep pv=>cases lV.1
    |nest _ _ _ _ _ _=>cases lV.1
    |part _ _ _ _=>cases lV.1
    |gr _ _ _=>cases lV.1
   |int k n=>exact Fj rfl rfl
   |bool b=>exact Fj rfl rfl
   |str s=>exact Fj rfl rfl
   |fn f=>exact Fj rfl rfl
   |kS=>cases lV.1
   |ptr s off=>cases lV.1
   |Ef fl e y i off=>cases lV.1
   |un=>cases lV.1
   |bot=>cases lV.1
theorem WO {b:Nat}(hA:∀k b' o,A k b' o->b'<w.heap.size/\b'≠b/\b'∉fp){fn:Func}{arr:Array Value}{T:TypeId}{fr:Nat×Nat}(ma:w.heap[b]?=some (.cells arr T fr))(vx:sE arr fr)(fE:bW (gh A hw w) arr.toList cs fp)(lV:cs.all (AC.BX true)=true)(hn:fp.Nodup)(zb:b∉fp)(iA:∀b'∈fp,b'<w.heap.size)(KK:hw b=0)(h:qx A w vs xs): qo ⟨A,λb'=>b'=b\/b'∈fp,w,[.pointer (some ⟨b,0,none⟩)],λk b' o hb=>⟨(hA k b' o hb).1,λhm=>hm.elim (hA k b' o hb).2.1 (hA k b' o hb).2.2⟩⟩ (DV fn cs xs) {tmps:=(.pointer (some ⟨b,0,none⟩)::vs).toArray++Array.replicate (fn.ntmps-(Value.pointer (some ⟨b,0,none⟩)::vs).toArray.size) undef,defers:=[]} w:=by
 obtain⟨hl,hi⟩:=F4 h;let v0:Value:=.pointer (some ⟨b,0,none⟩);let C:Ctx:=⟨A,λb'=>b'=b\/b'∈fp,w,[v0],λk b' o hb=>⟨(hA k b' o hb).1,λhm=>hm.elim (hA k b' o hb).2.1 (hA k b' o hb).2.2⟩⟩
 let g:Gh:=⟨hw,λ_=>b,λb'=>if b'=b\/b'∈fp then some (.box 0) else none,λt=>(arr.toList[t/3]?).getD undef⟩
 have Jw:=nR ma;have xR:kD (DV fn cs xs) 0:=⟨KT 0 cs,rfl⟩
 have hle:(gh A (λ_=>0) w).Le (dy C g (DV fn cs xs) w):=⟨rfl,λt ht=>ht.elim,λ_ _ _ _ _ hv=>hv,bc _,λs hs=>hs.elim,λ_ b o u ho _=>absurd ho (Nat.not_lt_zero _)⟩
 have k1:=adT (c:=dy C g (DV fn cs xs) w) (A:=A) rfl rfl rfl (λt ht=> .inl (by omega)) (all:=arr.toList) (λt=>rfl) 0 fE lV (λi v hv=>by rw[cJ];exact hv);refine⟨g,rfl,?_,?_,λi av hs=>?_,λs tr hs=>?_,λk v av hk=>by simp at hk,λb' x hx=>?_,Fr.refl _ _,⟨[],⟨[],[],rfl,⟨rfl,xR,rfl⟩,rfl⟩,by simp,by simp⟩⟩;simp[DV,qm,hl];omega;simp[DV,qm];have wu:((.one (.ptr 0 0)::xs)++List.replicate (fn.ntmps-(AV.one (.ptr 0 0)::xs).length) AV.bot)[i]?=some av:=hs;rcases ca i (xs.length+1)with aen|B0;rw[bB (by simpa using aen)]at wu;cases i with
 |zero=>
  simp at wu;subst wu;refine⟨[],?_,by simp,by simp⟩;have hvv:((v0::vs).toArray++Array.replicate (fn.ntmps-(v0::vs).toArray.size) undef).getD 0 undef=v0:=by simp[dz,Array.getElem?_append]
  show gV _ (((v0::vs).toArray++Array.replicate (fn.ntmps-(v0::vs).toArray.size) undef).getD 0 undef) _ _;rw[hvv];exact oz ⟨rfl,xR,rfl⟩
 |succ i=>
  obtain⟨v,hv,hr⟩:=hi i av (by simpa using wu);refine⟨[],?_,by simp,by simp⟩;have hvv:((v0::vs).toArray++Array.replicate (fn.ntmps-(v0::vs).toArray.size) undef).getD (i+1) undef=v:=by
   have ahs:i<vs.length:=by omega
   have Uc:vs[i]=v:=by rw[ay ahs]at hv;exact bQ hv
   simp[dz,Array.getElem?_append,ahs,Uc]
  show gV _ (((v0::vs).toArray++Array.replicate (fn.ntmps-(v0::vs).toArray.size) undef).getD (i+1) undef) _ _;rw[hvv];exact hr.mono hle (by simp)
 rw[bJ (by simpa using B0),dU]at wu;split at wu;cases wu;exact⟨[],gV.bot _ _,by simp,by simp⟩;cases wu;have wu:(some (KT 0 cs)::List.replicate (xs.length+(fn.ntmps-(xs.length+1))) (none:aA (ax AC)))[s]?=some (some tr):=hs;cases s with|zero=>simp at wu;subst wu;refine⟨arr,T,fr,fp,ma,vx,k1,hn,zb,λb' iq=>?_,?_,KK⟩;show(if b'=b\/b'∈fp then _ else _)=_;rw[aI (.inr iq)];show(if b=b\/b∈fp then _ else _)=_;rw[aI (.inl rfl)]|succ s=>simp only[fS,dU]at wu;split at wu<;>cases wu
 have Dv:(if b'=b\/b'∈fp then some (kX.box 0) else none)=some x:=hx;split at Dv;rename_i hm;rcases hm with rfl|hm;exact⟨Jw,.inr (.inl rfl)⟩;exact⟨iA b' hm,.inr (.inr hm)⟩;cases Dv
theorem amx {E:Env}{rs:ax (Bool×FT)}{t:FT}(hS:Sound P E Γ){fn:Func}(hf:P.funcs[f]?=some fn)(Dt:(fn.name== "runtime.NumGoroutine")=false)(Hk:BV E Γ an Λ (fn.body.getD .skip)):nn P f {R:=jK rs×t.ct.D,fn:=VK E Γ an Λ fn rs t,av:=λy=>zC rs y.1,back:=λy=>ks t y.2,bx:=true}:=by
 intro xs y hy;simp only at hy;unfold VK at hy;split at hy;rename_i c cs rest hb;split at hy;rename_i hlen;refine⟨⟨fn,c,hf,hb,Dt⟩,λ_ h=>(by cases h),λh=>(by cases h),λ_ SA aiD he A w b vs arr T fr hw fp hA ma vx fE hn zb iA KK gN=>?_,λh=>(by cases h)⟩;injection he with he1 he2;injection he1 with _ he3;subst he2;subst he3;refine calls_of_wp hf hb (wp_mono (Ql hS c (by rw[hb]at Hk;exact Hk) _ _ _ _ (WO (fn:=fn) hA ma vx fE hlen.2 hn zb iA KK gN) hy) ?_);rintro e a' w' ⟨ex,cp,he,hs,hk⟩
 have main:(aa (aa (qK cp E [(true,0)] fn.results.toList) (lD rs)) λr=>match cp.io,cp.boxes with
  |[.ptr 0 0],some tr::_=>(match PA t (tr.map AC.strip)with|some (x,[])=>some (r,x)|_=>none)
  |_,_=>none)=some y->
  a'.defers=[]/\∃v,(Go.results fn a'.tmps).run P w'=.ok v w'/\∃v_1 hw' fv kq T' NZ kZ,Ending.returned v=Ending.returned v_1/\gV (gh A hw' w') v_1 (zC rs y.1) fv/\w'.heap[b]?=some (.cells kq T' NZ)/\sE kq NZ/\
    bW (gh A hw' w') kq.toList (ks t y.2) kZ/\kZ.Nodup/\b∉kZ/\(∀b'∈kZ,b'<w'.heap.size/\(b'∈fp\/w.heap.size<=b'))/\fv.Nodup/\(∀b'∈fv,b'<w'.heap.size/\(b'∈fp\/w.heap.size<=b')/\b'∉kZ/\b'≠b)/\Fr (λb'=>b'=b\/b'∈fp) w w':=by
  intro gW
  obtain⟨g,hg⟩:=hs
  refine⟨hg.defers,?_⟩
  cases V4:qK cp E [(true,0)] fn.results.toList with
  |none=>rw[V4]at gW;cases gW
  |some ys=>
   rw[V4]at gW
   simp only[aa]at gW
   cases hrr:lD rs ys with
   |none=>rw[hrr]at gW;cases gW
   |some r0=>
    rw[hrr]at gW
    simp only at gW
    split at gW
    ·rename_i tr tl QP lB
     split at gW
     ·rename_i x hx
      cases gW
      obtain⟨v,fv,fz,xp,HN,Hj⟩:=Ov hS.ty hg V4 hrr
      obtain⟨fpi,hri,_,_⟩:=hg.io
      rw[QP]at hri
      obtain⟨g1,g2,_,asU,_⟩:=hri
      have M3:b=g.β 0:=by have:=asU.1;simp only[Value.pointer.injEq,br,Addr.mk.injEq]at this;exact this.1
      obtain⟨kq,T',NZ,kZ,K5,Yg,hr',D5,K7,hl',amO,_⟩:=hg.boxes 0 tr (by rw[lB];rfl)
      rw[<-M3]at K5 K7 amO
      have mI:=Bx hr'
      have ME:=Bn hx
      rw[bg]at ME
      rw[ME]at mI
      have hM:∀b',(w.heap.size<=b'\/(b'=b\/b'∈fp))->b'≠b->b'∈fp\/w.heap.size<=b':=by rintro b' (h2|h2|h2) Fa;exact .inr h2;exact absurd h2 Fa;exact .inl h2
      refine⟨v,fz,v,g.hw,fv,kq,T',NZ,kZ,rfl,xp,K5,Yg,mI,D5,K7,λb' iq=>?_,HN,λb' iq=>?_,hg.frame⟩
      ·have:=hg.ir b' _ (hl' b' iq)
       exact⟨this.1,hM b' this.2 (λe=>K7 (e▸iq))⟩
      ·obtain⟨own,OW,T9⟩:=Hj b' iq
       have KJ:g.fK b'≠some (.box 0):=by rw[T9];intro e;have e2:Cs own=Cs (true,0):=bQ e;exact OW (by rw[Ol e2];simp)
       have Fa:b'≠b:=λe=>KJ (by rw[e];exact amO)
       have:=hg.ir b' _ T9
       exact⟨this.1,hM b' this.2 Fa,λhm=>KJ (hl' b' hm),Fa⟩
     ·cases gW
    ·cases gW
 cases e<;>cases ex<;>simp only[Js]at he;exact main hk;cases hk;exact main hk;cases hy;cases hy
theorem amy {E:Env}{t:FT}(hS:Sound P E Γ){fn:Func}(hf:P.funcs[f]?=some fn)(Dt:(fn.name== "runtime.NumGoroutine")=false)(Hk:BV E Γ an Λ (fn.body.getD .skip)):nn P f {R:=t.ct.D,fn:=Pr E Γ an Λ fn t,av:=λ_=> .bot,back:=λy=>ks t y,pr:=true}:=by
 intro xs y hy;simp only at hy;unfold Pr at hy;cases hb:fn.body with
 |none=>rw[hb]at hy;cases hy
 |some c=>
  rw[hb]at hy;simp only at hy;split at hy;have key:akK P f {R:=t.ct.D,fn:=Pr E Γ an Λ fn t,av:=λ_=> .bot,back:=λy=>ks t y,pr:=true} y xs:=by
   intro A w vs hA gN;refine calls_of_wp hf hb (wp_mono (Ql hS c (by rw[hb]at Hk;exact Hk) _ _ _ _ (NL hA gN) hy) ?_);rintro e a' w' ⟨ex,cp,he,hs,hk⟩
   have main:(match fn.results.toList with
    |[.tmp i]=>match cp.get i with
     | .val false [.ptr s 0]=>match (nth cp.boxes s).getD none with
       |some cs=>if cs.all AC.MM=true then(match PA t (cs.map AC.strip)with|some (x,[])=>some x|_=>none) else none
       |none=>none
     |_=>none
    |_=>none)=some y->a'.defers=[]/\∃v,(Go.results fn a'.tmps).run P w'=.ok v w'/\∃b arr T fr hw,Ending.returned v=.returned (.pointer (some ⟨b,0,none⟩))/\w.heap.size<=b/\w'.heap[b]?=some (.cells arr T fr)/\sE arr fr/\bW (gh A hw w') arr.toList (ks t y) []/\Fr (λ_=>False) w w':=by
    intro gW
    obtain⟨g,hg⟩:=hs
    refine⟨hg.defers,?_⟩
    split at gW
    ·rename_i i hri
     split at gW
     ·rename_i s hp
      cases lB:(nth cp.boxes s).getD none with
      |none=>rw[lB]at gW;cases gW
      |some cs=>
       rw[lB]at gW
       simp only at gW
       split at gW
       ·rename_i lV
        split at gW
        ·rename_i x hx
         cases gW
         have lB:cp.boxes[s]?=some (some cs):=by rw[eV]at lB;cases hq:cp.boxes[s]? with|none=>rw[hq]at lB;simp at lB|some q=>rw[hq]at lB;simp at lB;rw[lB]
         obtain⟨fp0,xH,_,_⟩:=hg.slot i
         rw[hp]at xH
         have xH:=Ey xH
         obtain⟨arr,T,fr,fp,ma,vx,fE,hn,zb,hl,KI,KK⟩:=hg.boxes s cs lB
         obtain⟨Ha,vs,gb,QX⟩:=arg_val (c:=dy _ g cp w') (c':=dy _ g cp w') rfl rfl (v:=.agg arr.toList.toArray) (x:=.val true cs) ⟨arr.toList,rfl,fE⟩ lV
         have hvs:arr.toList=vs:=by have gb:Value.agg arr.toList.toArray=.agg vs.toArray:=gb;simp only[Value.agg.injEq]at gb;simpa using congrArg Array.toList gb
         rw[<-hvs]at QX
         have mI:=Bx QX
         have ME:=Bn hx
         rw[bg]at ME
         rw[ME]at mI
         have fz:(Go.results fn a'.tmps).run P w'=.ok (a'.tmps.getD i undef) w':=by
          have he:fn.results=#[.tmp i]:=by apply fY;exact hri
          have aaV:=GB (P:=P) (GA a'.tmps) (λ_=>a'.tmps.getD i undef) w' fn.results (λx hx=>by rw[he]at hx;simp at hx;subst hx;rfl)
          have hd:Go.results fn a'.tmps=(do
           let vs<-fn.results.mapM (GA a'.tmps)
           pure (if h:vs.size=1 then vs[0] else .tuple vs)):=by
           unfold Go.results
           congr 1
          rw[hd];simp only[Sem.run_bind,aaV,Result.andThen_ok,Sem.run_pure];rw[he];simp
         refine⟨_,fz,g.β s,arr,T,fr,g.hw,congrArg Ending.returned xH,?_,ma,vx,mI,hg.frame⟩
         exact(hg.ir _ _ KI).2.resolve_right (λf=>f)
        ·cases gW
       ·cases gW
     ·cases gW
    ·cases gW
   cases e<;>cases ex<;>simp only[Js]at he;exact main hk;cases hk;exact main hk
  refine⟨⟨fn,c,hf,hb,Dt⟩,λ_ _ A w vs hA gN=>?_,λh=>(by cases h),λh=>(by cases h),λ_=>key⟩;refine(key A w vs hA gN).mono ?_;rintro e w' ⟨b,arr,T,fr,hw,rfl,_,_,_,_,km⟩;exact⟨_,hw,[],rfl,gV.bot _ _,List.nodup_nil,(λb hb=>by cases hb),km⟩;cases hy
end Go.Dn
