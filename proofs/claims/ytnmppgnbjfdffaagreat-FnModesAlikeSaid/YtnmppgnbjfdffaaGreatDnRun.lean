import Derived.Test.YtnmppgnbjfdffaaGreatDnAny
/- The soundness of the abstract semantics: code and functions. -/
namespace Go.Dn
open Go.RowKit
variable {P:Program} {C:Ctx} {st:AS} {a:Act} {w:World} {R:Type} {r:R}
variable {an:An} {Γ:zP} {g:Gh} {Λ:mS} {f:Nat} {hw:Nat->Nat} {A:Rg} {rs:ay (Bool×FT)} {ys:ay (Bool×ay AC)} {cs:ay AC} {xs:ay AV}
def Hb:Exit->Ex->Prop
 | .normal,.normal=>True
 | .ret,.ret=>True
 | .exit i,.exit j=>i=j
 |_,_=>False
def akR (C:Ctx)(K:Ex->AS->aC R)(r:R)(e:Exit)(a:Act)(w:World):Prop:=
 ∃ex bX,Hb e ex/\oE C bX a w/\K ex bX=some r
theorem acg {E:Env}(hS:Sound P E Γ){id:Nat}{ops:Array Oper}{d:Bool}(h:oE C st a w){K:AS->aC R}(hk:Sh E Γ an id ops.toList d st K=some r){Q:Exit->Act->World->Prop}(hq:∀bX a' w',oE C bX a' w'->K bX=some r->Q .normal a' w'):(Code.region id ops d).wp P Q a w:=by
 unfold Sh at hk;split at hk;rw[L7]at hk;cases ho:DX E Γ an ops.toList d st some with|none=>rw[ho]at hk;cases hk|some st1=>rw[ho]at hk;exact Zo hS h ho (λa' w' hs=>hq _ _ _ hs hk)
 rename_i s hm;split at hk;rename_i ajw;rw[L7]at hk;cases ho:DX E Γ.calm an ops.toList d st some with|none=>rw[ho]at hk;cases hk|some st1=>rw[ho]at hk;simp only[fg]at hk;cases hb:getBool st1 s with|none=>rw[hb]at hk;cases hk|some b=>rw[hb]at hk;simp only[aa]at hk;have hn:=abL (agz Γ) (λo KS=>aL.1 ajw o KS) ho;exact Zo hS.calm h ho (λa' w' hs=>hq _ _ _ (hs.weaken hn hb) hk)
 cases hk
def yF (E:Env)(Γ:zP)(an:An)(Λ:mS)(c:Code):Prop:=
 ∃n,∀(R:Type)(st:AS)(K:Ex->AS->aC R)(r:R),(Λ (fa c)).go st K=some r->Bg (an.mask (fa c)) (den E Γ an Λ c) n st K=some r
def VU (E:Env)(Γ:zP)(an:An)(Λ:mS)(c:Code):Prop:=
 ∀(R:Type)(st:AS)(K:Ex->AS->aC R)(r:R),(Λ (DP c)).go st K=some r->den E Γ an Λ c st (λe bX=>K e (bX.mask (an.mask (DP c+1))))=some r
def zO (E:Env)(Γ:zP)(an:An)(Λ:mS)(c:Code):Prop:=(∀c'∈ji c,yF E Γ an Λ c')/\∀c'∈lH an.cut c,VU E Γ an Λ c'
theorem adl (c:Code):lH [] c=[]:=by induction c with|seq a b iha ihb=>simp[lH,iha,ihb]|cond _ a b iha ihb=>simp[lH,iha,ihb]|block _ c ih=>simpa[lH]using ih|loop c ih=>simpa[lH]using ih|_=>rfl
theorem zO.of {E:Env}{c:Code}(h:∀c'∈ji c,yF E Γ an Λ c')(hc:an.cut=[]):zO E Γ an Λ c:=⟨h,by rw[hc,adl];simp⟩
theorem Rq {E:Env}(hS:Sound P E Γ):∀(c:Code)(_:zO E Γ an Λ c)(st:AS)(a:Act)(w:World)(K:Ex->AS->aC R),oE C st a w->den E Γ an Λ c st K=some r->c.wp P (akR C K r) a w:=by
 intro c;induction c with
 |skip=>intro Fe st a w K h hk;exact wp_skip ⟨.normal,st,dq,h,hk⟩
 |region id ops d=>intro Fe st a w K h hk;exact acg hS h (by simpa only[den]using hk) (λbX a' w' hs he=>⟨.normal,bX,dq,hs,he⟩)
 |seq x y ihx ihy=>
  intro Fe st a w K h hk;have ihx:=ihx ⟨λc hc=>Fe.1 c (by simp[ji,hc]),λc hc=>Fe.2 c (by simp[lH,hc])⟩;have ihy:=ihy ⟨λc hc=>Fe.1 c (by simp[ji,hc]),λc hc=>Fe.2 c (by simp only[lH];cases an.cut.contains (fa y)<;>simp[hc])⟩;simp only[den]at hk;refine wp_seq (wp_mono (ihx st a w _ h hk) ?_);rintro e a' w' ⟨ex,bX,he,hs,Ee⟩;cases e<;>cases ex<;>simp only[Hb]at he;simp only at Ee;cases gm:an.cut.contains (fa y)with|false=>rw[gm]at Ee;exact ihy bX a' w' K hs Ee|true=>rw[gm]at Ee;have hc:=Fe.2 y (by simp only[lH,gm];simp) _ _ _ _ Ee;refine wp_mono (ihy _ a' w' _ (hs.mask _) hc) ?_;rintro e2 a2 w2 ⟨ex2,st2,he2,hs2,Zy⟩;exact⟨ex2,_,he2,hs2.mask _,Zy⟩
  exact⟨.exit _,bX,he,hs,Ee⟩;exact⟨.ret,bX,dq,hs,Ee⟩
 |cond c x y ihx ihy=>
  intro Fe st a w K h hk;have ihx:=ihx ⟨λc hc=>Fe.1 c (by simp[ji,hc]),λc hc=>Fe.2 c (by simp[lH,hc])⟩;have ihy:=ihy ⟨λc hc=>Fe.1 c (by simp[ji,hc]),λc hc=>Fe.2 c (by simp[lH,hc])⟩;simp only[den]at hk;split at hk;rename_i t hc;have hv:a.eval c=.bool t:=by obtain⟨g,hg⟩:=h;have:=hg.rd c;rw[hc]at this;exact vF this
  cases t with|true=>exact wp_cond_true hv (ihx st a w K h hk)|false=>exact wp_cond_false hv (ihy st a w K h hk)
  cases hk
 |block id c ih=>intro Fe st a w K h hk;have ih:=ih ⟨λc hc=>Fe.1 c (by simpa[ji]using hc),λc hc=>Fe.2 c (by simpa[lH]using hc)⟩;simp only[den]at hk;refine wp_block (wp_mono (ih st a w _ h hk) ?_);rintro e a' w' ⟨ex,bX,he,hs,Ee⟩;cases e<;>cases ex<;>simp only[Hb]at he;exact⟨.normal,bX,dq,hs,Ee⟩;rename_i i j;subst he;simp only[Exit.inBlock];simp only at Ee;by_cases hi:i=id;subst hi;rw[aF rfl];simp only[fO,cc]at Ee;exact⟨.normal,bX,dq,hs,Ee⟩;rw[aH hi];rw[aH (by simpa using hi)]at Ee;exact⟨.exit i,bX,rfl,hs,Ee⟩;exact⟨.ret,bX,dq,hs,Ee⟩
 |loop c ih=>
  intro Fe st a w K h hk;have ih:=ih ⟨λc hc=>Fe.1 c (by simp[ji,hc]),λc hc=>Fe.2 c (by simpa[lH]using hc)⟩;obtain⟨n,hn⟩:=Fe.1 c (by simp[ji]);simp only[den]at hk;intro b k cs
  have key:∀m st a w,oE C st a w->Bg (an.mask (fa c)) (den E Γ an Λ c) m st K=some r->
   ∃e a' w',akR C K r e a' w'/\Arrives P (lone (b.at a (.code c:: .inLoop c::k)) cs w) b k cs e a' w':=by
   intro m
   induction m with
   |zero=>intro st a w _ hk;cases hk
   |succ m ihm=>
    intro st a w h hk
    simp only[Bg]at hk
    obtain⟨e,Wg,YL,⟨ex,bX,he,hs,Ee⟩,KP⟩:=ih st a w _ h hk b (.inLoop c::k) cs
    cases e<;>cases ex<;>simp only[Hb]at he
    ·obtain⟨ai7,aiZ,akq,aem,RD⟩:=ihm _ Wg YL (hs.mask _) Ee
     exact⟨ai7,aiZ,akq,aem,.of_steps (Steps.trans KP (.one step_inLoop)) RD⟩
    ·exact⟨.exit _,Wg,YL,⟨.exit _,_,he,hs.mask _,Ee⟩,.pass (x:=.inLoop c) rfl (λ_ _=> .inl (by simp)) KP⟩
    ·exact⟨.ret,Wg,YL,⟨.ret,_,dq,hs.mask _,Ee⟩,.pass (x:=.inLoop c) rfl (λ_ _=> .inl (by simp)) KP⟩
  cases hp:an.peel.contains (fa c)with
  |false=>rw[hp]at hk;obtain⟨e,a',w',hq,KP⟩:=key n _ a w (h.mask _) (hn _ _ _ _ hk);exact⟨e,a',w',hq,.of_steps (.one step_loop) KP⟩
  |true=>rw[hp]at hk;simp only[ah]at hk;obtain⟨e,Wg,YL,⟨ex,bX,he,hs,Ee⟩,KP⟩:=ih _ a w _ (h.mask _) hk b (.inLoop c::k) cs;cases e<;>cases ex<;>simp only[Hb]at he;obtain⟨ai7,aiZ,akq,aem,RD⟩:=key n _ Wg YL (hs.mask _) (hn _ _ _ _ Ee);exact⟨ai7,aiZ,akq,aem,.of_steps (Steps.trans (.one step_loop) (Steps.trans KP (.one step_inLoop))) RD⟩;exact⟨.exit _,Wg,YL,⟨.exit _,_,he,hs.mask _,Ee⟩,.of_steps (.one step_loop) (.pass (x:=.inLoop c) rfl (λ_ _=> .inl (by simp)) KP)⟩;exact⟨.ret,Wg,YL,⟨.ret,_,dq,hs.mask _,Ee⟩,.of_steps (.one step_loop) (.pass (x:=.inLoop c) rfl (λ_ _=> .inl (by simp)) KP)⟩
 |exit id=>intro Fe st a w K h hk;exact wp_exit ⟨.exit id,st,rfl,h,hk⟩
 |ret=>intro Fe st a w K h hk;exact wp_ret ⟨.ret,st,dq,h,hk⟩
 |_=>intro Fe st a w K h hk;simp[den]at hk
theorem F9:∀{vs:jz}{xs:ay AV},qj A w vs xs->vs.length=xs.length/\∀(i:Nat)(x:AV),xs[i]?=some x->∃v,vs[i]?=some v/\gW (gC A (λ_=>0) w) v x []
 |[],[],_=>⟨rfl,by simp⟩
 |v::vs,x::xs,h=>by obtain⟨hl,hi⟩:=F9 h.2;refine⟨by simp[hl],λi y hy=>?_⟩;cases i with|zero=>simp at hy;subst hy;exact⟨v,rfl,h.1⟩|succ i=>exact hi i y (by simpa using hy)
 |[],_::_,h=>h.elim
 |_::_,[],h=>h.elim
theorem JI (hA:∀k b o,A k b o->b<w.heap.size){fn:Func}{vs:jz}(h:qj A w vs xs): oE ⟨A,λ_=>False,w,[],λk b o hb=>⟨hA k b o hb,λf=>f⟩⟩ (start fn xs) {tmps:=vs.toArray++Array.replicate (fn.ntmps-vs.toArray.size) undef,defers:=[]} w:=by
 obtain⟨hl,hi⟩:=F9 h;let C:Ctx:=⟨A,λ_=>False,w,[],λk b o hb=>⟨hA k b o hb,λf=>f⟩⟩
 let g:Gh:=⟨λ_=>0,λ_=>0,λ_=>none,λ_=>undef⟩
 have hle:(gC A (λ_=>0) w).Le (dk C g (start fn xs) w):=⟨rfl,λt ht=>ht.elim,λ_ _ _ _ _ hv=>hv,aV _,λs hs=>hs.elim,λ_ b o u ho hu=>⟨ho,hu⟩⟩
 refine⟨g,rfl,?_,?_,λi av hs=>?_,λs cs hs=>?_,λk v av hk=>by simp at hk,λb x hx=>(by cases hx),Fr.refl _ _,⟨[],rfl,by simp,by simp⟩⟩;simp[start,hl];simp[start];have yj:(xs++List.replicate (fn.ntmps-xs.length) AV.bot)[i]?=some av:=hs;rcases bW i xs.length with ir|zH;rw[bp ir]at yj;obtain⟨v,hv,hr⟩:=hi i av yj;refine⟨[],?_,by simp,by simp⟩;have hvv:(vs.toArray++Array.replicate (fn.ntmps-vs.toArray.size) undef).getD i undef=v:=by
  have agL:i<vs.length:=by omega
  have SQ:vs[i]=v:=by rw[aw agL]at hv;exact cb hv
  simp[dQ,Array.getElem?_append,agL,SQ]
 show gW _ ((vs.toArray++Array.replicate (fn.ntmps-vs.toArray.size) undef).getD i undef) _ _;rw[hvv];exact hr.mono hle (by simp);rw[bz zH,eD]at yj;split at yj;cases yj;exact⟨[],gW.bot _ _,by simp,by simp⟩;cases yj;have yj:(List.replicate (xs.length+(fn.ntmps-xs.length)) (none:aC (ay AC)))[s]?=some (some cs):=hs;rw[eD]at yj;split at yj<;>cases yj
theorem YF {v:Value}{x:AC}{fp:fR}(h:iI (dk C g st w) v x fp):iI (gC C.A g.hw w) v x.strip fp:=by
 cases x with
 |int k n=>exact h
 |bool b=>exact h
 |str s=>exact h
 |kx=>exact h
 |fn f=>exact h
 |un=>exact h
 |bot=>exact h
 |ptr s off=>exact h.2.2
 |BA fl e y i off=>cases fl with|own t=>exact h.elim|nest _ _ _ _ _ _=>exact h.elim|part _ _ _ _=>exact h.elim|gj _ _ _=>exact h.elim|arg _=>exact h.1|loc ep pv=>exact h.1
 |sl fl e xs=>
  cases fl with
  |nest _ _ _ _ _ _=>exact h.1
  |part _ _ _ _=>exact h.1
  |gj _ _ _=>obtain⟨_,⟨k,hk,h3⟩,_⟩:=h;exact⟨λq hq=>(by cases hq),⟨k,hk,h3⟩,by simp⟩
  |own t=>exact⟨h.1,by simp⟩
  |arg _=>exact h
  |loc ep pv=>exact h.1
theorem xZ:∀{vs:jz}{xs:ay AC}{fp:fR},bR (dk C g st w) vs xs fp->bR (gC C.A g.hw w) vs (xs.map AC.strip) fp
 |[],[],_,h=>h
 |_::_,_::_,_,h=>by obtain⟨f1,f2,rfl,h1,h2⟩:=h;exact⟨f1,f2,rfl,YF h1,xZ h2⟩
 |[],_::_,_,h=>h.elim
 |_::_,[],_,h=>h.elim
def C6 (tmps:Array Value):ResultVar->Sem Value
 | .tmp t=>pure (tmps.getD t undef)
 | .cell a t=>do loadVar t (<-asAddr (tmps.getD a undef))
def yT:Bool×Nat->kI
 |(false,t)=> .slot t
 |(true,s)=> .box s
theorem Ki {x y:Bool×Nat}(h:yT x=yT y):x=y:=by rcases x with⟨_|_,a⟩<;>rcases y with⟨_|_,b⟩<;>simp[yT]at h<;>rw[h]
theorem ahv {E:Env}(hE:jX P E.ty)(h:eK C g st a w []){rv:ResultVar}{own:Bool×Nat}{gg:Bool}(hr:Nt st E rv=some (own,gg,cs)): ∃v vs fp,(C6 a.tmps rv).run P w=.ok v w/\Cut gg v vs/\bR (gC C.A g.hw w) vs cs fp/\fp.Nodup/\∀b∈fp,g.fe b=some (yT own):=by
 cases rv with
 |tmp t=>simp only[Nt]at hr;split at hr;rename_i g' qO oB;cases hr;obtain⟨fp,fJ,hn,hl⟩:=h.slot t;rw[oB]at fJ;obtain⟨vs,gm,fJ⟩:=fJ;exact⟨_,vs,fp,rfl,gm,xZ fJ,hn,hl⟩;cases hr
 |cell t T=>
  simp only[Nt]at hr;split at hr;rename_i sh s off hT hp;cases kC:(nth st.boxes s).getD none with
  |none=>rw[kC]at hr;cases hr
  |some qO=>
   rw[kC]at hr;simp only[fg]at hr;split at hr;rename_i iB;cases hr;have kC:st.boxes[s]?=some (some qO):=by rw[eH]at kC;cases hq:st.boxes[s]? with|none=>rw[hq]at kC;simp at kC|some q=>rw[hq]at kC;simp at kC;rw[kC]
   obtain⟨fp0,uK,_,_⟩:=h.slot t;rw[hp]at uK;have uK:=Bk uK;obtain⟨arr,T',fr,fp,kU,sE,fJ,hn,wA,hl,GQ,GS⟩:=h.boxes s qO kC;have hlen:=fJ.length;obtain⟨v,fb,gm⟩:=xT (hE T sh hT) (g.β s) off ((arr.toList.drop off).take sh.ct.size) (by simp at hlen⊢;omega) (O9 kU off sh.ct.size);obtain⟨f1,f2,f3,rfl,r1,r2,r3⟩:=fJ.mid off sh.ct.size;have IX:=(aM.1 (aM.1 hn).1).2.1;refine⟨v,_,f2,?_,gm,xZ r2,IX,λb hb=>hl b (by simp[hb])⟩;simp only[C6,uK,asAddr,Sem.run_bind,Sem.run_pure,Result.andThen_ok];exact fb;cases hr
  cases hr
theorem ZY {E:Env}(hE:jX P E.ty)(h:eK C g st a w [])(gf:ResultVar->Value):∀(rs:ay ResultVar)(had:ay (Bool×Nat))(ys:ay (Bool×ay AC)),sF st E had rs=some ys->
 (∀rv v,(C6 a.tmps rv).run P w=.ok v w->gf rv=v)->
 (∀rv∈rs,(C6 a.tmps rv).run P w=.ok (gf rv) w)/\∃fp,gW.qM (gC C.A g.hw w) (rs.map gf) ys fp/\fp.Nodup/\∀b∈fp,∃own,own∉had/\g.fe b=some (yT own)
 |[],had,ys,hr,hgf=>by cases hr;exact⟨by simp,[],rfl,by simp,by simp⟩
 |rv::rs,had,ys,hr,hgf=>by
  simp only[sF]at hr;cases h1:Nt st E rv with
  |none=>rw[h1]at hr;cases hr
  |some x=>
   obtain⟨own,gg,cs⟩:=x;rw[h1]at hr;simp only[fg]at hr;split at hr;cases hr;rename_i KR;have KR:own∉had:=by simpa using KR
   cases h2:sF st E (own::had) rs with|none=>rw[h2]at hr;cases hr|some xs=>rw[h2]at hr;simp only[fg,bu]at hr;subst hr;obtain⟨v,vs,rp,fb,gm,fJ,IX,hl1⟩:=ahv hE h h1;obtain⟨aep,fp2,MB,DJ,zI⟩:=ZY hE h gf rs (own::had) xs h2 hgf;have hv:=hgf rv v fb;refine⟨λrv' hm=>?_,rp++fp2,⟨rp,fp2,rfl,⟨vs,by rw[hv];exact gm,fJ⟩,MB⟩,?_,λb hb=>?_⟩;rcases cw.1 hm with rfl|hm;rw[hv];exact fb;exact aep rv' hm;refine aM.2 ⟨IX,DJ,λb hb b' im he=>?_⟩;subst he;obtain⟨alW,GR,Ef⟩:=zI b im;rw[hl1 b hb]at Ef;have:=Ki (cb Ef);subst this;exact GR (by simp);rcases ax.1 hb with hb|hb;exact⟨own,KR,hl1 b hb⟩;obtain⟨alW,GR,Ef⟩:=zI b hb;exact⟨alW,λhm=>GR (by simp[hm]),Ef⟩
theorem FK.aaF {fl:FK}{f:qL}(h:fl.fits f=true):f=fl.flag:=by
 unfold FK.fits at h;split at h;rename_i t t';have:t=t':=by simpa using h
 subst this;rfl;rename_i k;have:k=false:=by simpa using h
 subst this;rfl;rename_i k;have:k=true:=h;subst this;rfl;rfl;rename_i j t j' t';simp only[ab,bm]at h;obtain⟨rfl,rfl⟩:=h;rfl;cases h
theorem xV:∀{t:FT}{cs r:ay AC}{x:t.ct.D},Ll t cs=some (x,r)->cs=jZ t x++r:=by
 intro t;induction t with
 |int k=>intro cs r x h;cases cs with|nil=>simp[Ll]at h|cons y ys=>cases y<;>simp[Ll]at h;obtain⟨rfl,rfl,rfl⟩:=h;rfl
 |bool=>intro cs r x h;cases cs with|nil=>simp[Ll]at h|cons y ys=>cases y<;>simp[Ll]at h;obtain⟨rfl,rfl⟩:=h;rfl
 |str=>intro cs r x h;cases cs with|nil=>simp[Ll]at h|cons y ys=>cases y<;>simp[Ll]at h;obtain⟨rfl,rfl⟩:=h;rfl
 |sl fl e=>
  intro cs r x h;cases cs with
  |nil=>simp[Ll]at h
  |cons y ys=>
   cases y with
   |sl fl' e' xs=>
    simp only[Ll]at h;split at h
    ·rename_i he;subst he;cases hf:fl.fits fl' with
     |false=>rw[hf]at h;cases h
     |true=>
      rw[hf]at h;cases h;rw[FK.aaF hf];have hn:fl.isNil=false:=by cases fl<;>first|rfl|(unfold FK.fits at hf;cases hf)
      simp only[jZ,hn,af];rfl
    cases h
   |kx=>simp only[Ll]at h;cases hn:fl.isNil with|false=>rw[hn]at h;cases h|true=>rw[hn]at h;cases h;simp only[jZ,hn,ah];rfl
   |_=>simp[Ll]at h
 |pair a b iha ihb=>intro cs r x h;simp only[Ll]at h;obtain⟨⟨x1,r1⟩,h1,h⟩:=aW.1 h;obtain⟨⟨x2,r2⟩,h2,h⟩:=aW.1 h;cases h;have h3:r1=jZ b x2++r2:=ihb h2;rw[iha h1,h3];simp[jZ]
theorem Kg:∀(rs:ay (Bool×FT))(ys:ay (Bool×ay AC))(y:lB rs),mf rs ys=some y->ys=akh rs y
 |[],[],y,_=>rfl
 |[],_::_,y,h=>by simp[mf]at h
 |[(g,t)],ys,y,h=>by
  cases ys with
  |nil=>simp[mf]at h
  |cons p ys=>
   cases ys with
   |cons _ _=>simp[mf]at h
   |nil=>
    obtain⟨g',cs⟩:=p;simp only[mf]at h;cases hg:g==g' with
    |false=>rw[hg]at h;cases h
    |true=>
     rw[hg]at h;have:g=g':=by simpa using hg
     subst this;simp only[ah]at h;split at h;rename_i x hx;cases h;have:=xV hx;rw[bA]at this;rw[this];rfl;cases h
 |(g,t)::p::r,ys,y,h=>by
  cases ys with
  |nil=>simp[mf]at h
  |cons q ys=>
   obtain⟨g',cs⟩:=q;simp only[mf]at h;cases hg:g==g' with
   |false=>rw[hg]at h;cases h
   |true=>
    rw[hg]at h;have:g=g':=by simpa using hg
    subst this;simp only[ah]at h;split at h;rename_i x hx;obtain⟨z,hz,h⟩:=aW.1 h;cases h;have h1:=xV hx;rw[bA]at h1;rw[h1,Kg (p::r) ys z hz];rfl;cases h
theorem Ko {E:Env}(hE:jX P E.ty){fn:Func}{bX:AS}{a':Act}{w':World}(hg:eK C g bX a' w' []){had:ay (Bool×Nat)}(Xk:sF bX E had fn.results.toList=some ys){y:lB rs}(iE:mf rs ys=some y): ∃v fp,(Go.results fn a'.tmps).run P w'=.ok v w'/\gW (gC C.A g.hw w') v (zR rs y) fp/\fp.Nodup/\∀b∈fp,∃own,own∉had/\g.fe b=some (yT own):=by
 have hys:=Kg rs ys y iE;let gf:ResultVar->Value:=λrv=>match (C6 a'.tmps rv).run P w' with| .ok v _=>v|_=>undef
 obtain⟨aep,fp,fJ,Fc,Ef⟩:=ZY hE hg gf fn.results.toList had ys Xk (λrv v hv=>by simp only[gf,hv]);have Xg:=C7 (P:=P) (C6 a'.tmps) gf w' fn.results (λx hx=>aep x (by simpa using hx));have fb:(Go.results fn a'.tmps).run P w'=.ok (if h:(fn.results.map gf).size=1 then(fn.results.map gf)[0] else .tuple (fn.results.map gf)) w':=by
  have:Go.results fn a'.tmps=(do
   let vs<-fn.results.mapM (C6 a'.tmps)
   pure (if h:vs.size=1 then vs[0] else .tuple vs)):=by
   unfold Go.results
   congr 1
  rw[this];simp only[Sem.run_bind,Xg,Result.andThen_ok,Sem.run_pure]
 refine⟨_,fp,fb,?_,Fc,Ef⟩;have TY:(fn.results.map gf).toList=fn.results.toList.map gf:=by simp
 unfold zR;rw[<-hys];cases ys with
 |nil=>
  have ajn:fn.results.toList.map gf=[]:=by cases hm:fn.results.toList.map gf with|nil=>rfl|cons u us=>rw[hm]at fJ;exact fJ.elim
  have uL:¬(fn.results.map gf).size=1:=by rw[<-Array.length_toList,TY,ajn];simp
  rw[dif_neg uL];exact⟨_,by rw[<-TY],fJ⟩
 |cons y1 ys=>
  cases ys with
  |nil=>
   obtain⟨gg,cs⟩:=y1;cases hm:fn.results.toList.map gf with
   |nil=>rw[hm]at fJ;exact fJ.elim
   |cons u us=>
    rw[hm]at fJ;obtain⟨f1,f2,rfl,Xi,uu⟩:=fJ;cases us with
    |cons _ _=>exact uu.elim
    |nil=>
     cases uu;have KP:fn.results.map gf=#[u]:=by apply fN;rw[TY,hm]
     have:(if h:(fn.results.map gf).size=1 then(fn.results.map gf)[0] else .tuple (fn.results.map gf))=u:=by rw[dif_pos (by rw[KP];rfl)];simp only[KP];rfl
     rw[this,bA];exact Xi
  |cons y2 ys=>
   have uL:¬(fn.results.map gf).size=1:=by rw[<-Array.length_toList,TY];cases hm:fn.results.toList.map gf with|nil=>simp|cons u us=>rw[hm]at fJ;obtain⟨f1,f2,rfl,Xi,uu⟩:=fJ;cases us with|nil=>exact uu.elim|cons u2 us=>simp
   rw[dif_neg uL];exact⟨_,by rw[<-TY],fJ⟩
theorem Nu {E:Env}(hE:jX P E.ty){fn:Func}{bX:AS}{a':Act}{w':World}(hg:eK C g bX a' w' [])(Xk:sF bX E [] fn.results.toList=some ys){y:lB rs}(iE:mf rs ys=some y): ∃v fp,(Go.results fn a'.tmps).run P w'=.ok v w'/\gW (gC C.A g.hw w') v (zR rs y) fp/\fp.Nodup/\∀b∈fp,∃own,g.fe b=some (yT own):=by obtain⟨v,fp,h1,h2,h3,h4⟩:=Ko hE hg Xk iE;exact⟨v,fp,h1,h2,h3,λb hb=>(h4 b hb).imp λ_ h=>h.2⟩
theorem aaJ {E:Env}{rs:ay (Bool×FT)}(hS:Sound P E Γ){fn:Func}(hf:P.funcs[f]?=some fn)(Cb:(fn.name== "runtime.NumGoroutine")=false)(Fe:zO E Γ an Λ (fn.body.getD .skip)):iW P f {R:=lB rs,fn:=DY E Γ an Λ fn rs,av:=zR rs}:=by
 intro xs y hy;simp only at hy;unfold DY at hy;cases hb:fn.body with
 |none=>rw[hb]at hy;cases hy
 |some c=>
  rw[hb]at hy;simp only at hy;split at hy;refine⟨⟨fn,c,hf,hb,Cb⟩,λ_ _ A w vs hA gP=>?_,λh=>(by cases h),λh=>(by cases h),λh=>(by cases h)⟩;refine calls_of_wp hf hb (wp_mono (Rq hS c (by rw[hb]at Fe;exact Fe) _ _ _ _ (JI hA gP) hy) ?_);rintro e a' w' ⟨ex,bX,he,hs,hk⟩;have main:aa (sF bX E [] fn.results.toList) (mf rs)=some y->a'.defers=[]/\∃v,(Go.results fn a'.tmps).run P w'=.ok v w'/\∃v_1 hw fp,Ending.returned v=Ending.returned v_1/\gW (gC A hw w') v_1 (zR rs y) fp/\fp.Nodup/\(∀b∈fp,w.heap.size<=b/\b<w'.heap.size)/\Fr (λ_=>False) w w':=by intro iE;obtain⟨g,hg⟩:=hs;refine⟨hg.defers,?_⟩;cases Xk:sF bX E [] fn.results.toList with|none=>rw[Xk]at iE;cases iE|some ys=>rw[Xk]at iE;obtain⟨v,fp,fb,fJ,Fc,Ef⟩:=Nu hS.ty hg Xk iE;refine⟨v,fb,v,g.hw,fp,rfl,fJ,Fc,λb hb=>?_,hg.frame⟩;obtain⟨own,hl⟩:=Ef b hb;have:=hg.gY b _ hl;exact⟨this.2.resolve_right (λf=>f),this.1⟩
  cases e<;>cases ex<;>simp only[Hb]at he;exact main hk;cases hk;exact main hk;cases hy
theorem ad6 {E:Env}{Oc:ay (Bool×FT)}(h2:lB Oc=lB rs)(hS:Sound P E Γ){fn:Func}(hf:P.funcs[f]?=some fn)(Cb:(fn.name== "runtime.NumGoroutine")=false)(Fe:zO E Γ an Λ (fn.body.getD .skip)):iW P f {R:=Bool×lB rs,fn:=evalAlt E Γ an Λ fn rs Oc h2,av:=λy=>zR rs y.2,sel:=λy=>y.1,alt:=λy=>zR Oc (cast h2.symm y.2)}:=by
 intro xs y hy;simp only at hy;unfold evalAlt at hy;cases hb:fn.body with
 |none=>rw[hb]at hy;cases hy
 |some c=>
  rw[hb]at hy;simp only at hy;split at hy;refine⟨⟨fn,c,hf,hb,Cb⟩,λ_ _ A w vs hA gP=>?_,λh=>(by cases h),λh=>(by cases h),λh=>(by cases h)⟩;refine calls_of_wp hf hb (wp_mono (Rq hS c (by rw[hb]at Fe;exact Fe) _ _ _ _ (JI hA gP) hy) ?_);rintro e a' w' ⟨ex,bX,he,hs,hk⟩
  have main:(aa (sF bX E [] fn.results.toList) λys=>match mf rs ys with
   |some y=>some (true,y)
   |none=>match mf Oc ys with
    |some y=>some (false,cast h2 y)
    |none=>none)=some y->a'.defers=[]/\∃v,(Go.results fn a'.tmps).run P w'=.ok v w'/\∃v_1 hw fp,Ending.returned v=Ending.returned v_1/\
   gW (gC A hw w') v_1 (cond y.1 (zR rs y.2) (zR Oc (cast h2.symm y.2))) fp/\fp.Nodup/\(∀b∈fp,w.heap.size<=b/\b<w'.heap.size)/\Fr (λ_=>False) w w':=by
   intro iE
   obtain⟨g,hg⟩:=hs
   refine⟨hg.defers,?_⟩
   cases Xk:sF bX E [] fn.results.toList with
   |none=>rw[Xk]at iE;cases iE
   |some ys=>
    rw[Xk]at iE
    simp only[aa]at iE
    have fin:∀(rs':ay (Bool×FT))(y':lB rs'),mf rs' ys=some y'->∃v,(Go.results fn a'.tmps).run P w'=.ok v w'/\∃v_1 hw fp,Ending.returned v=Ending.returned v_1/\
     gW (gC A hw w') v_1 (zR rs' y') fp/\fp.Nodup/\(∀b∈fp,w.heap.size<=b/\b<w'.heap.size)/\Fr (λ_=>False) w w':=by
     intro rs' y' SR
     obtain⟨v,fp,fb,fJ,Fc,Ef⟩:=Nu hS.ty hg Xk SR
     refine⟨v,fb,v,g.hw,fp,rfl,fJ,Fc,λb hb=>?_,hg.frame⟩
     obtain⟨own,hl⟩:=Ef b hb
     have:=hg.gY b _ hl
     exact⟨this.2.resolve_right (λf=>f),this.1⟩
    cases h1:mf rs ys with
    |some y1=>rw[h1]at iE;cases iE;exact fin rs y1 h1
    |none=>
     rw[h1]at iE
     simp only at iE
     cases h3:mf Oc ys with
     |none=>rw[h3]at iE;cases iE
     |some y1=>
      rw[h3]at iE
      cases iE
      simp only[af,cast_cast,cast_eq]
      exact fin Oc y1 h3
  cases e<;>cases ex<;>simp only[Hb]at he;exact main hk;cases hk;exact main hk;cases hy
theorem aap {c:RC}(hcA:c.A=A)(SP:c.w=w)(FC:c.hw=hw)(KQ:∀t,t%3=1->c.iss t){all:jz}(Oo:∀t,c.hdr t=(all[t/3]?).getD undef):
 ∀(j:Nat){vs:jz}{cs:ay AC}{fp:fR},bR (gC A hw w) vs cs fp->cs.all (AC.yz true)=true->(∀i v,vs[i]?=some v->all[j+i]?=some v)->bR c vs (G2 j cs) fp:=by
 intro j vs
 induction vs generalizing j with
 |nil=>intro cs fp h _ _;cases cs with
  |nil=>exact h
  |cons _ _=>exact h.elim
 |cons v vs ih=>
  intro cs fp h oC uJ
  cases cs with
  |nil=>exact h.elim
  |cons x cs=>
   obtain⟨f1,f2,rfl,h1,h2⟩:=h
   simp only[cv,ab]at oC
   have i1:=ih (j+1) h2 oC.2 (λi u hu=>by rw[show j+1+i=j+(i+1) by omega];exact uJ (i+1) u (by simpa using hu))
   have MD:=uJ 0 v rfl
   rw[dX]at MD
   have GO:x.kc=true->G2 j (x::cs)=x::G2 (j+1) cs->bR c (v::vs) (G2 j (x::cs)) (f1++f2):=by rintro hf e1;obtain⟨rfl,k⟩:=rA (c':=c) h1 hf;rw[e1];exact⟨[],f2,rfl,k,i1⟩
   cases x with
   |sl fl e xs=>
    cases fl with
    |own t=>
     have iL:gi c.hw c.w (.sl e) [v] xs f1:=by rw[FC,SP];exact h1.1
     refine⟨f1,f2,rfl,⟨iL,λq hq=>?_⟩,i1⟩
     cases hq
     refine⟨KQ _ (by omega),?_⟩
     rw[Oo,show(3*j+1)/3=j by omega,MD];rfl
    |arg k=>
     have hk:k=true:=by simpa[AC.yz]using oC.1
     subst hk
     exact⟨f1,f2,rfl,⟨h1.1,by rw[SP,hcA];exact h1.2⟩,i1⟩
    |loc ep pv=>cases oC.1
    |nest _ _ _ _ _ _=>cases oC.1
    |part _ _ _ _=>cases oC.1
    |gj _ _ _=>cases oC.1
   |int k n=>exact GO rfl rfl
   |bool b=>exact GO rfl rfl
   |str s=>exact GO rfl rfl
   |fn f=>exact GO rfl rfl
   |kx=>cases oC.1
   |ptr s off=>cases oC.1
   |BA fl e y i off=>cases oC.1
   |un=>cases oC.1
   |bot=>cases oC.1
theorem Sv {fp:fR}{b:Nat}(hA:∀k b' o,A k b' o->b'<w.heap.size/\b'≠b/\b'∉fp){fn:Func}{vs:jz}{arr:Array Value}{T:TypeId}{fr:Nat×Nat}(kU:w.heap[b]?=some (.cells arr T fr))(sE:qh arr fr)(fJ:bR (gC A hw w) arr.toList cs fp)(oC:cs.all (AC.yz true)=true)(hn:fp.Nodup)(wA:b∉fp)(ir:∀b'∈fp,b'<w.heap.size)(GS:hw b=0)(h:qj A w vs xs): oE ⟨A,λb'=>b'=b\/b'∈fp,w,[.pointer (some ⟨b,0,none⟩)],λk b' o hb=>⟨(hA k b' o hb).1,λhm=>hm.elim (hA k b' o hb).2.1 (hA k b' o hb).2.2⟩⟩ (Ax fn cs xs) {tmps:=(.pointer (some ⟨b,0,none⟩)::vs).toArray++Array.replicate (fn.ntmps-(Value.pointer (some ⟨b,0,none⟩)::vs).toArray.size) undef,defers:=[]} w:=by
 obtain⟨hl,hi⟩:=F9 h;let v0:Value:=.pointer (some ⟨b,0,none⟩);let C:Ctx:=⟨A,λb'=>b'=b\/b'∈fp,w,[v0],λk b' o hb=>⟨(hA k b' o hb).1,λhm=>hm.elim (hA k b' o hb).2.1 (hA k b' o hb).2.2⟩⟩
 let g:Gh:=⟨hw,λ_=>b,λb'=>if b'=b\/b'∈fp then some (.box 0) else none,λt=>(arr.toList[t/3]?).getD undef⟩
 have FL:=mH kU;have uY:jO (Ax fn cs xs) 0:=⟨G2 0 cs,rfl⟩
 have hle:(gC A (λ_=>0) w).Le (dk C g (Ax fn cs xs) w):=⟨rfl,λt ht=>ht.elim,λ_ _ _ _ _ hv=>hv,aV _,λs hs=>hs.elim,λ_ b o u ho _=>absurd ho (Nat.not_lt_zero _)⟩
 have k1:=aap (c:=dk C g (Ax fn cs xs) w) (A:=A) rfl rfl rfl (λt ht=> .inl (by omega)) (all:=arr.toList) (λt=>rfl) 0 fJ oC (λi v hv=>by rw[cK];exact hv);refine⟨g,rfl,?_,?_,λi av hs=>?_,λs qO hs=>?_,λk v av hk=>by simp at hk,λb' x hx=>?_,Fr.refl _ _,⟨[],⟨[],[],rfl,⟨rfl,uY,rfl⟩,rfl⟩,by simp,by simp⟩⟩;simp[Ax,start,hl];omega;simp[Ax,start];have yj:((.one (.ptr 0 0)::xs)++List.replicate (fn.ntmps-(AV.one (.ptr 0 0)::xs).length) AV.bot)[i]?=some av:=hs;rcases bW i (xs.length+1)with agL|zH;rw[bp (by simpa using agL)]at yj;cases i with
 |zero=>
  simp at yj;subst yj;refine⟨[],?_,by simp,by simp⟩;have hvv:((v0::vs).toArray++Array.replicate (fn.ntmps-(v0::vs).toArray.size) undef).getD 0 undef=v0:=by simp[dQ,Array.getElem?_append]
  show gW _ (((v0::vs).toArray++Array.replicate (fn.ntmps-(v0::vs).toArray.size) undef).getD 0 undef) _ _;rw[hvv];exact mZ ⟨rfl,uY,rfl⟩
 |succ i=>
  obtain⟨v,hv,hr⟩:=hi i av (by simpa using yj);refine⟨[],?_,by simp,by simp⟩;have hvv:((v0::vs).toArray++Array.replicate (fn.ntmps-(v0::vs).toArray.size) undef).getD (i+1) undef=v:=by
   have alh:i<vs.length:=by omega
   have SQ:vs[i]=v:=by rw[aw alh]at hv;exact cb hv
   simp[dQ,Array.getElem?_append,alh,SQ]
  show gW _ (((v0::vs).toArray++Array.replicate (fn.ntmps-(v0::vs).toArray.size) undef).getD (i+1) undef) _ _;rw[hvv];exact hr.mono hle (by simp)
 rw[bz (by simpa using zH),eD]at yj;split at yj;cases yj;exact⟨[],gW.bot _ _,by simp,by simp⟩;cases yj;have yj:(some (G2 0 cs)::List.replicate (xs.length+(fn.ntmps-(xs.length+1))) (none:aC (ay AC)))[s]?=some (some qO):=hs;cases s with|zero=>simp at yj;subst yj;refine⟨arr,T,fr,fp,kU,sE,k1,hn,wA,λb' im=>?_,?_,GS⟩;show(if b'=b\/b'∈fp then _ else _)=_;rw[aF (.inr im)];show(if b=b\/b∈fp then _ else _)=_;rw[aF (.inl rfl)]|succ s=>simp only[fG,eD]at yj;split at yj<;>cases yj
 have AG:(if b'=b\/b'∈fp then some (kI.box 0) else none)=some x:=hx;split at AG;rename_i hm;rcases hm with rfl|hm;exact⟨FL,.inr (.inl rfl)⟩;exact⟨ir b' hm,.inr (.inr hm)⟩;cases AG
theorem qn {E:Env}{rs:ay (Bool×FT)}{t:FT}(hS:Sound P E Γ){fn:Func}(hf:P.funcs[f]?=some fn)(Cb:(fn.name== "runtime.NumGoroutine")=false)(Fe:zO E Γ an Λ (fn.body.getD .skip)):iW P f {R:=lB rs×t.ct.D,fn:=Zn E Γ an Λ fn rs t,av:=λy=>zR rs y.1,back:=λy=>jZ t y.2,bx:=true}:=by
 intro xs y hy;simp only at hy;unfold Zn at hy;split at hy;rename_i c cs rest hb;split at hy;rename_i hlen;refine⟨⟨fn,c,hf,hb,Cb⟩,λ_ h=>(by cases h),λh=>(by cases h),λ_ Pe alX he A w b vs arr T fr hw fp hA kU sE fJ hn wA ir GS gP=>?_,λh=>(by cases h)⟩;injection he with he1 he2;injection he1 with _ he3;subst he2;subst he3;refine calls_of_wp hf hb (wp_mono (Rq hS c (by rw[hb]at Fe;exact Fe) _ _ _ _ (Sv (fn:=fn) hA kU sE fJ hlen.2 hn wA ir GS gP) hy) ?_);rintro e a' w' ⟨ex,bX,he,hs,hk⟩
 have main:(aa (aa (sF bX E [(true,0)] fn.results.toList) (mf rs)) λr=>match bX.io,bX.boxes with
  |[.ptr 0 0],some qO::_=>(match Ll t (qO.map AC.strip)with|some (x,[])=>some (r,x)|_=>none)
  |_,_=>none)=some y->
  a'.defers=[]/\∃v,(Go.results fn a'.tmps).run P w'=.ok v w'/\∃v_1 hw' fv jJ T' JZ kS,Ending.returned v=Ending.returned v_1/\gW (gC A hw' w') v_1 (zR rs y.1) fv/\w'.heap[b]?=some (.cells jJ T' JZ)/\qh jJ JZ/\
    bR (gC A hw' w') jJ.toList (jZ t y.2) kS/\kS.Nodup/\b∉kS/\(∀b'∈kS,b'<w'.heap.size/\(b'∈fp\/w.heap.size<=b'))/\fv.Nodup/\(∀b'∈fv,b'<w'.heap.size/\(b'∈fp\/w.heap.size<=b')/\b'∉kS/\b'≠b)/\Fr (λb'=>b'=b\/b'∈fp) w w':=by
  intro iE
  obtain⟨g,hg⟩:=hs
  refine⟨hg.defers,?_⟩
  cases Xk:sF bX E [(true,0)] fn.results.toList with
  |none=>rw[Xk]at iE;cases iE
  |some ys=>
   rw[Xk]at iE
   simp only[aa]at iE
   cases hrr:mf rs ys with
   |none=>rw[hrr]at iE;cases iE
   |some r0=>
    rw[hrr]at iE
    simp only at iE
    split at iE
    ·rename_i qO tl Ot kC
     split at iE
     ·rename_i x hx
      cases iE
      obtain⟨v,fv,fb,wB,Fc,Ef⟩:=Ko hS.ty hg Xk hrr
      obtain⟨fpi,hri,_,_⟩:=hg.io
      rw[Ot]at hri
      obtain⟨g1,g2,_,apI,_⟩:=hri
      have IZ:b=g.β 0:=by have:=apI.1;simp only[Value.pointer.injEq,bu,Addr.mk.injEq]at this;exact this.1
      obtain⟨jJ,T',JZ,kS,Hj,T5,hr',Cx,Hl,hl',ald,_⟩:=hg.boxes 0 qO (by rw[kC];rfl)
      rw[<-IZ]at Hj Hl ald
      have nt:=xZ hr'
      have IY:=xV hx
      rw[bA]at IY
      rw[IY]at nt
      have hM:∀b',(w.heap.size<=b'\/(b'=b\/b'∈fp))->b'≠b->b'∈fp\/w.heap.size<=b':=by rintro b' (h2|h2|h2) Cy;exact .inr h2;exact absurd h2 Cy;exact .inl h2
      refine⟨v,fb,v,g.hw,fv,jJ,T',JZ,kS,rfl,wB,Hj,T5,nt,Cx,Hl,λb' im=>?_,Fc,λb' im=>?_,hg.frame⟩
      ·have:=hg.gY b' _ (hl' b' im)
       exact⟨this.1,hM b' this.2 (λe=>Hl (e▸im))⟩
      ·obtain⟨own,KR,PC⟩:=Ef b' im
       have GR:g.fe b'≠some (.box 0):=by rw[PC];intro e;have e2:yT own=yT (true,0):=cb e;exact KR (by rw[Ki e2];simp)
       have Cy:b'≠b:=λe=>GR (by rw[e];exact ald)
       have:=hg.gY b' _ PC
       exact⟨this.1,hM b' this.2 Cy,λhm=>GR (hl' b' hm),Cy⟩
     ·cases iE
    ·cases iE
 cases e<;>cases ex<;>simp only[Hb]at he;exact main hk;cases hk;exact main hk;cases hy;cases hy
theorem akX {E:Env}{t:FT}(hS:Sound P E Γ){fn:Func}(hf:P.funcs[f]?=some fn)(Cb:(fn.name== "runtime.NumGoroutine")=false)(Fe:zO E Γ an Λ (fn.body.getD .skip)):iW P f {R:=t.ct.D,fn:=Rs E Γ an Λ fn t,av:=λ_=> .bot,back:=λy=>jZ t y,pr:=true}:=by
 intro xs y hy;simp only at hy;unfold Rs at hy;cases hb:fn.body with
 |none=>rw[hb]at hy;cases hy
 |some c=>
  rw[hb]at hy;simp only at hy;split at hy;have key:ahY P f {R:=t.ct.D,fn:=Rs E Γ an Λ fn t,av:=λ_=> .bot,back:=λy=>jZ t y,pr:=true} y xs:=by
   intro A w vs hA gP;refine calls_of_wp hf hb (wp_mono (Rq hS c (by rw[hb]at Fe;exact Fe) _ _ _ _ (JI hA gP) hy) ?_);rintro e a' w' ⟨ex,bX,he,hs,hk⟩
   have main:(match fn.results.toList with
    |[.tmp i]=>match bX.get i with
     | .val false [.ptr s 0]=>match (nth bX.boxes s).getD none with
       |some cs=>if cs.all AC.IG=true then(match Ll t (cs.map AC.strip)with|some (x,[])=>some x|_=>none) else none
       |none=>none
     |_=>none
    |_=>none)=some y->a'.defers=[]/\∃v,(Go.results fn a'.tmps).run P w'=.ok v w'/\∃b arr T fr hw,Ending.returned v=.returned (.pointer (some ⟨b,0,none⟩))/\w.heap.size<=b/\w'.heap[b]?=some (.cells arr T fr)/\qh arr fr/\bR (gC A hw w') arr.toList (jZ t y) []/\Fr (λ_=>False) w w':=by
    intro iE
    obtain⟨g,hg⟩:=hs
    refine⟨hg.defers,?_⟩
    split at iE
    ·rename_i i hri
     split at iE
     ·rename_i s hp
      cases kC:(nth bX.boxes s).getD none with
      |none=>rw[kC]at iE;cases iE
      |some cs=>
       rw[kC]at iE
       simp only at iE
       split at iE
       ·rename_i oC
        split at iE
        ·rename_i x hx
         cases iE
         have kC:bX.boxes[s]?=some (some cs):=by rw[eH]at kC;cases hq:bX.boxes[s]? with|none=>rw[hq]at kC;simp at kC|some q=>rw[hq]at kC;simp at kC;rw[kC]
         obtain⟨fp0,uK,_,_⟩:=hg.slot i
         rw[hp]at uK
         have uK:=Bk uK
         obtain⟨arr,T,fr,fp,kU,sE,fJ,hn,wA,hl,GQ,GS⟩:=hg.boxes s cs kC
         obtain⟨Dw,vs,gm,MB⟩:=arg_val (c:=dk _ g bX w') (c':=dk _ g bX w') rfl rfl (v:=.agg arr.toList.toArray) (x:=.val true cs) ⟨arr.toList,rfl,fJ⟩ oC
         have hvs:arr.toList=vs:=by have gm:Value.agg arr.toList.toArray=.agg vs.toArray:=gm;simp only[Value.agg.injEq]at gm;simpa using congrArg Array.toList gm
         rw[<-hvs]at MB
         have nt:=xZ MB
         have IY:=xV hx
         rw[bA]at IY
         rw[IY]at nt
         have fb:(Go.results fn a'.tmps).run P w'=.ok (a'.tmps.getD i undef) w':=by
          have he:fn.results=#[.tmp i]:=by apply fN;exact hri
          have Xg:=C7 (P:=P) (C6 a'.tmps) (λ_=>a'.tmps.getD i undef) w' fn.results (λx hx=>by rw[he]at hx;simp at hx;subst hx;rfl)
          have hd:Go.results fn a'.tmps=(do
           let vs<-fn.results.mapM (C6 a'.tmps)
           pure (if h:vs.size=1 then vs[0] else .tuple vs)):=by
           unfold Go.results
           congr 1
          rw[hd];simp only[Sem.run_bind,Xg,Result.andThen_ok,Sem.run_pure];rw[he];simp
         refine⟨_,fb,g.β s,arr,T,fr,g.hw,congrArg Ending.returned uK,?_,kU,sE,nt,hg.frame⟩
         exact(hg.gY _ _ GQ).2.resolve_right (λf=>f)
        ·cases iE
       ·cases iE
     ·cases iE
    ·cases iE
   cases e<;>cases ex<;>simp only[Hb]at he;exact main hk;cases hk;exact main hk
  refine⟨⟨fn,c,hf,hb,Cb⟩,λ_ _ A w vs hA gP=>?_,λh=>(by cases h),λh=>(by cases h),λ_=>key⟩;refine(key A w vs hA gP).mono ?_;rintro e w' ⟨b,arr,T,fr,hw,rfl,_,_,_,_,jQ⟩;exact⟨_,hw,[],rfl,gW.bot _ _,List.nodup_nil,(λb hb=>by cases hb),jQ⟩;cases hy
end Go.Dn
