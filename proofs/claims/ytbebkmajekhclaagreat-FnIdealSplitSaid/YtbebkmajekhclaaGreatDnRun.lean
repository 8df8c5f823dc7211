import Derived.Test.YtbebkmajekhclaaGreatDnAny
/- The soundness of the abstract semantics: code and functions. -/
namespace Go.Dn
open Go.RowKit
variable {P:Program} {C:Ctx} {st:AS} {a:Act} {w:World} {R:Type} {r:R}
variable {an:An} {Γ:Dy} {g:Gh} {Λ:kC} {f:Nat} {hw:Nat->Nat} {A:Rg} {rs:aw (Bool×FT)} {ys:aw (Bool×aw AC)} {cs:aw AC} {xs:aw AV}
def NP:Exit->Ex->Prop
 | .normal,.normal=>True
 | .ret,.ret=>True
 | .exit i,.exit j=>i=j
 |_,_=>False
def asd (C:Ctx)(K:Ex->AS->az R)(r:R)(e:Exit)(a:Act)(w:World):Prop:=
 ∃ex cp,NP e ex/\py C cp a w/\K ex cp=some r
theorem aih {E:Env}(hS:Sound P E Γ){id:Nat}{ops:Array Oper}{d:Bool}(h:py C st a w){K:AS->az R}(hk:Xr E Γ an id ops.toList d st K=some r){Q:Exit->Act->World->Prop}(hq:∀cp a' w',py C cp a' w'->K cp=some r->Q .normal a' w'):(Code.region id ops d).wp P Q a w:=by
 unfold Xr at hk;split at hk;rw[QC]at hk;cases ho:Hs E Γ an ops.toList d st some with|none=>rw[ho]at hk;cases hk|some st1=>rw[ho]at hk;exact afl hS h ho (λa' w' hs=>hq _ _ _ hs hk)
 rename_i s hm;split at hk;rename_i aqC;rw[QC]at hk;cases ho:Hs E Γ.calm an ops.toList d st some with|none=>rw[ho]at hk;cases hk|some st1=>rw[ho]at hk;simp only[ft]at hk;cases hb:getBool st1 s with|none=>rw[hb]at hk;cases hk|some b=>rw[hb]at hk;simp only[aa]at hk;have hn:=ahQ (anp Γ) (λo O7=>aF.1 aqC o O7) ho;exact afl hS.calm h ho (λa' w' hs=>hq _ _ _ (hs.weaken hn hb) hk)
 cases hk
def uL (E:Env)(Γ:Dy)(an:An)(Λ:kC)(c:Code):Prop:=
 ∃n,∀(R:Type)(st:AS)(K:Ex->AS->az R)(r:R),(Λ (eZ c)).go st K=some r->Ed (an.mask (eZ c)) (den E Γ an Λ c) n st K=some r
def Mz (E:Env)(Γ:Dy)(an:An)(Λ:kC)(c:Code):Prop:=
 ∀(R:Type)(st:AS)(K:Ex->AS->az R)(r:R),(Λ (Hj c)).go st K=some r->den E Γ an Λ c st (λe cp=>K e (cp.mask (an.mask (Hj c+1))))=some r
def DF (E:Env)(Γ:Dy)(an:An)(Λ:kC)(c:Code):Prop:=(∀c'∈iM c,uL E Γ an Λ c')/\∀c'∈la an.cut c,Mz E Γ an Λ c'
theorem ajy (c:Code):la [] c=[]:=by induction c with|seq a b iha ihb=>simp[la,iha,ihb]|cond _ a b iha ihb=>simp[la,iha,ihb]|block _ c ih=>simpa[la]using ih|loop c ih=>simpa[la]using ih|_=>rfl
theorem DF.of {E:Env}{c:Code}(h:∀c'∈iM c,uL E Γ an Λ c')(hc:an.cut=[]):DF E Γ an Λ c:=⟨h,by rw[hc,ajy];simp⟩
theorem acL {E:Env}(hS:Sound P E Γ):∀(c:Code)(_:DF E Γ an Λ c)(st:AS)(a:Act)(w:World)(K:Ex->AS->az R),py C st a w->den E Γ an Λ c st K=some r->c.wp P (asd C K r) a w:=by
 intro c;induction c with
 |skip=>intro Ks st a w K h hk;exact wp_skip ⟨.normal,st,cq,h,hk⟩
 |region id ops d=>intro Ks st a w K h hk;exact aih hS h (by simpa only[den]using hk) (λcp a' w' hs he=>⟨.normal,cp,cq,hs,he⟩)
 |seq x y ihx ihy=>
  intro Ks st a w K h hk;have ihx:=ihx ⟨λc hc=>Ks.1 c (by simp[iM,hc]),λc hc=>Ks.2 c (by simp[la,hc])⟩;have ihy:=ihy ⟨λc hc=>Ks.1 c (by simp[iM,hc]),λc hc=>Ks.2 c (by simp only[la];cases an.cut.contains (eZ y)<;>simp[hc])⟩;simp only[den]at hk;refine wp_seq (wp_mono (ihx st a w _ h hk) ?_);rintro e a' w' ⟨ex,cp,he,hs,HE⟩;cases e<;>cases ex<;>simp only[NP]at he;simp only at HE;cases fU:an.cut.contains (eZ y)with|false=>rw[fU]at HE;exact ihy cp a' w' K hs HE|true=>rw[fU]at HE;have hc:=Ks.2 y (by simp only[la,fU];simp) _ _ _ _ HE;refine wp_mono (ihy _ a' w' _ (hs.mask _) hc) ?_;rintro e2 a2 w2 ⟨ex2,st2,he2,hs2,Uy⟩;exact⟨ex2,_,he2,hs2.mask _,Uy⟩
  exact⟨.exit _,cp,he,hs,HE⟩;exact⟨.ret,cp,cq,hs,HE⟩
 |cond c x y ihx ihy=>
  intro Ks st a w K h hk;have ihx:=ihx ⟨λc hc=>Ks.1 c (by simp[iM,hc]),λc hc=>Ks.2 c (by simp[la,hc])⟩;have ihy:=ihy ⟨λc hc=>Ks.1 c (by simp[iM,hc]),λc hc=>Ks.2 c (by simp[la,hc])⟩;simp only[den]at hk;split at hk;rename_i t hc;have hv:a.eval c=.bool t:=by obtain⟨g,hg⟩:=h;have:=hg.rd c;rw[hc]at this;exact xP this
  cases t with|true=>exact wp_cond_true hv (ihx st a w K h hk)|false=>exact wp_cond_false hv (ihy st a w K h hk)
  cases hk
 |block id c ih=>intro Ks st a w K h hk;have ih:=ih ⟨λc hc=>Ks.1 c (by simpa[iM]using hc),λc hc=>Ks.2 c (by simpa[la]using hc)⟩;simp only[den]at hk;refine wp_block (wp_mono (ih st a w _ h hk) ?_);rintro e a' w' ⟨ex,cp,he,hs,HE⟩;cases e<;>cases ex<;>simp only[NP]at he;exact⟨.normal,cp,cq,hs,HE⟩;rename_i i j;subst he;simp only[Exit.inBlock];simp only at HE;by_cases hi:i=id;subst hi;rw[aI rfl];simp only[gG,cz]at HE;exact⟨.normal,cp,cq,hs,HE⟩;rw[aK hi];rw[aK (by simpa using hi)]at HE;exact⟨.exit i,cp,rfl,hs,HE⟩;exact⟨.ret,cp,cq,hs,HE⟩
 |loop c ih=>
  intro Ks st a w K h hk;have ih:=ih ⟨λc hc=>Ks.1 c (by simp[iM,hc]),λc hc=>Ks.2 c (by simpa[la]using hc)⟩;obtain⟨n,hn⟩:=Ks.1 c (by simp[iM]);simp only[den]at hk;intro b k cs
  have key:∀m st a w,py C st a w->Ed (an.mask (eZ c)) (den E Γ an Λ c) m st K=some r->
   ∃e a' w',asd C K r e a' w'/\Arrives P (lone (b.at a (.code c:: .inLoop c::k)) cs w) b k cs e a' w':=by
   intro m
   induction m with
   |zero=>intro st a w _ hk;cases hk
   |succ m ihm=>
    intro st a w h hk
    simp only[Ed]at hk
    obtain⟨e,abR,aeU,⟨ex,cp,he,hs,HE⟩,O4⟩:=ih st a w _ h hk b (.inLoop c::k) cs
    cases e<;>cases ex<;>simp only[NP]at he
    ·obtain⟨aqc,ap3,arK,akY,WD⟩:=ihm _ abR aeU (hs.mask _) HE
     exact⟨aqc,ap3,arK,akY,.of_steps (Steps.trans O4 (.one step_inLoop)) WD⟩
    ·exact⟨.exit _,abR,aeU,⟨.exit _,_,he,hs.mask _,HE⟩,.pass (x:=.inLoop c) rfl (λ_ _=> .inl (by simp)) O4⟩
    ·exact⟨.ret,abR,aeU,⟨.ret,_,cq,hs.mask _,HE⟩,.pass (x:=.inLoop c) rfl (λ_ _=> .inl (by simp)) O4⟩
  cases hp:an.atq.contains (eZ c)with
  |false=>rw[hp]at hk;obtain⟨e,a',w',hq,O4⟩:=key n _ a w (h.mask _) (hn _ _ _ _ hk);exact⟨e,a',w',hq,.of_steps (.one step_loop) O4⟩
  |true=>rw[hp]at hk;simp only[ah]at hk;obtain⟨e,abR,aeU,⟨ex,cp,he,hs,HE⟩,O4⟩:=ih _ a w _ (h.mask _) hk b (.inLoop c::k) cs;cases e<;>cases ex<;>simp only[NP]at he;obtain⟨aqc,ap3,arK,akY,WD⟩:=key n _ abR aeU (hs.mask _) (hn _ _ _ _ HE);exact⟨aqc,ap3,arK,akY,.of_steps (Steps.trans (.one step_loop) (Steps.trans O4 (.one step_inLoop))) WD⟩;exact⟨.exit _,abR,aeU,⟨.exit _,_,he,hs.mask _,HE⟩,.of_steps (.one step_loop) (.pass (x:=.inLoop c) rfl (λ_ _=> .inl (by simp)) O4)⟩;exact⟨.ret,abR,aeU,⟨.ret,_,cq,hs.mask _,HE⟩,.of_steps (.one step_loop) (.pass (x:=.inLoop c) rfl (λ_ _=> .inl (by simp)) O4)⟩
 |exit id=>intro Ks st a w K h hk;exact wp_exit ⟨.exit id,st,rfl,h,hk⟩
 |ret=>intro Ks st a w K h hk;exact wp_ret ⟨.ret,st,cq,h,hk⟩
 |_=>intro Ks st a w K h hk;simp[den]at hk
theorem J6:∀{vs:jf}{xs:aw AV},rq A w vs xs->vs.length=xs.length/\∀(i:Nat)(x:AV),xs[i]?=some x->∃v,vs[i]?=some v/\gS (gC A (λ_=>0) w) v x []
 |[],[],_=>⟨rfl,by simp⟩
 |v::vs,x::xs,h=>by obtain⟨hl,hi⟩:=J6 h.2;refine⟨by simp[hl],λi y hy=>?_⟩;cases i with|zero=>simp at hy;subst hy;exact⟨v,rfl,h.1⟩|succ i=>exact hi i y (by simpa using hy)
 |[],_::_,h=>h.elim
 |_::_,[],h=>h.elim
theorem VB (hA:∀k b o,A k b o->b<w.heap.size){fn:Func}{vs:jf}(h:rq A w vs xs): py ⟨A,λ_=>False,w,[],λk b o hb=>⟨hA k b o hb,λf=>f⟩⟩ (start fn xs) {tmps:=vs.toArray++Array.replicate (fn.ntmps-vs.toArray.size) undef,defers:=[]} w:=by
 obtain⟨hl,hi⟩:=J6 h;let C:Ctx:=⟨A,λ_=>False,w,[],λk b o hb=>⟨hA k b o hb,λf=>f⟩⟩
 let g:Gh:=⟨λ_=>0,λ_=>0,λ_=>none,λ_=>undef⟩
 have hle:(gC A (λ_=>0) w).Le (dq C g (start fn xs) w):=⟨rfl,λt ht=>ht.elim,λ_ _ _ _ _ hv=>hv,bt _,λs hs=>hs.elim,λ_ b o u ho hu=>⟨ho,hu⟩⟩
 refine⟨g,rfl,?_,?_,λi av hs=>?_,λs cs hs=>?_,λk v av hk=>by simp at hk,λb x hx=>(by cases hx),Fr.refl _ _,⟨[],rfl,by simp,by simp⟩⟩;simp[start,hl];simp[start];have yD:(xs++List.replicate (fn.ntmps-xs.length) AV.bot)[i]?=some av:=hs;rcases bT i xs.length with gr|BN;rw[bK gr]at yD;obtain⟨v,hv,hr⟩:=hi i av yD;refine⟨[],?_,by simp,by simp⟩;have hvv:(vs.toArray++Array.replicate (fn.ntmps-vs.toArray.size) undef).getD i undef=v:=by
  have anJ:i<vs.length:=by omega
  have hv':vs[i]=v:=by rw[ak anJ]at hv;exact bM hv
  simp[dQ,Array.getElem?_append,anJ,hv']
 show gS _ ((vs.toArray++Array.replicate (fn.ntmps-vs.toArray.size) undef).getD i undef) _ _;rw[hvv];exact hr.mono hle (by simp);rw[bA BN,eS]at yD;split at yD;cases yD;exact⟨[],gS.bot _ _,by simp,by simp⟩;cases yD;have yD:(List.replicate (xs.length+(fn.ntmps-xs.length)) (none:az (aw AC)))[s]?=some (some cs):=hs;rw[eS]at yD;split at yD<;>cases yD
theorem aeM {v:Value}{x:AC}{fp:fA}(h:iy (dq C g st w) v x fp):iy (gC C.A g.hw w) v x.strip fp:=by
 cases x with
 |int k n=>exact h
 |bool b=>exact h
 |str s=>exact h
 |kv=>exact h
 |fn f=>exact h
 |un=>exact h
 |bot=>exact h
 |ptr s off=>exact h.2.2
 |Ey fl e y i off=>cases fl with|own t=>exact h.elim|nest _ _ _ _ _ _=>exact h.elim|part _ _ _ _=>exact h.elim|fS _ _ _=>exact h.elim|arg _=>exact h.1|loc ep pv=>exact h.1
 |sl fl e xs=>
  cases fl with
  |nest _ _ _ _ _ _=>exact h.1
  |part _ _ _ _=>exact h.1
  |fS _ _ _=>obtain⟨_,⟨k,hk,h3⟩,_⟩:=h;exact⟨λq hq=>(by cases hq),⟨k,hk,h3⟩,by simp⟩
  |own t=>exact⟨h.1,by simp⟩
  |arg _=>exact h
  |loc ep pv=>exact h.1
theorem Bf:∀{vs:jf}{xs:aw AC}{fp:fA},ca (dq C g st w) vs xs fp->ca (gC C.A g.hw w) vs (xs.map AC.strip) fp
 |[],[],_,h=>h
 |_::_,_::_,_,h=>by obtain⟨f1,f2,rfl,h1,h2⟩:=h;exact⟨f1,f2,rfl,aeM h1,Bf h2⟩
 |[],_::_,_,h=>h.elim
 |_::_,[],_,h=>h.elim
def Gn (tmps:Array Value):ResultVar->Sem Value
 | .tmp t=>pure (tmps.getD t undef)
 | .cell a t=>do loadVar t (<-asAddr (tmps.getD a undef))
def B4:Bool×Nat->kK
 |(false,t)=> .slot t
 |(true,s)=> .box s
theorem Oa {x y:Bool×Nat}(h:B4 x=B4 y):x=y:=by rcases x with⟨_|_,a⟩<;>rcases y with⟨_|_,b⟩<;>simp[B4]at h<;>rw[h]
theorem aop {E:Env}(hE:ka P E.ty)(h:eE C g st a w []){rv:ResultVar}{own:Bool×Nat}{gg:Bool}(hr:RZ st E rv=some (own,gg,cs)): ∃v vs fp,(Gn a.tmps rv).run P w=.ok v w/\Cut gg v vs/\ca (gC C.A g.hw w) vs cs fp/\fp.Nodup/\∀b∈fp,g.fj b=some (B4 own):=by
 cases rv with
 |tmp t=>simp only[RZ]at hr;split at hr;rename_i g' sB pw;cases hr;obtain⟨fp,fO,hn,hl⟩:=h.slot t;rw[pw]at fO;obtain⟨vs,fU,fO⟩:=fO;exact⟨_,vs,fp,rfl,fU,Bf fO,hn,hl⟩;cases hr
 |cell t T=>
  simp only[RZ]at hr;split at hr;rename_i sh s off hT hp;cases kD:(nth st.boxes s).getD none with
  |none=>rw[kD]at hr;cases hr
  |some sB=>
   rw[kD]at hr;simp only[ft]at hr;split at hr;rename_i ik;cases hr;have kD:st.boxes[s]?=some (some sB):=by rw[ez]at kD;cases hq:st.boxes[s]? with|none=>rw[hq]at kD;simp at kD|some q=>rw[hq]at kD;simp at kD;rw[kD]
   obtain⟨fp0,xd,_,_⟩:=h.slot t;rw[hp]at xd;have xd:=Eg xd;obtain⟨arr,T',fr,fp,lf,uO,fO,hn,yL,hl,KO,KR⟩:=h.boxes s sB kD;have hlen:=fO.length;obtain⟨v,fg,fU⟩:=AR (hE T sh hT) (g.β s) off ((arr.toList.drop off).take sh.ct.size) (by simp at hlen⊢;omega) (TV lf off sh.ct.size);obtain⟨f1,f2,f3,rfl,r1,r2,r3⟩:=fO.mid off sh.ct.size;have KQ:=(aQ.1 (aQ.1 hn).1).2.1;refine⟨v,_,f2,?_,fU,Bf r2,KQ,λb hb=>hl b (by simp[hb])⟩;simp only[Gn,xd,asAddr,Sem.run_bind,Sem.run_pure,Result.andThen_ok];exact fg;cases hr
  cases hr
theorem afQ {E:Env}(hE:ka P E.ty)(h:eE C g st a w [])(gf:ResultVar->Value):∀(rs:aw ResultVar)(had:aw (Bool×Nat))(ys:aw (Bool×aw AC)),yY st E had rs=some ys->
 (∀rv v,(Gn a.tmps rv).run P w=.ok v w->gf rv=v)->
 (∀rv∈rs,(Gn a.tmps rv).run P w=.ok (gf rv) w)/\∃fp,gS.so (gC C.A g.hw w) (rs.map gf) ys fp/\fp.Nodup/\∀b∈fp,∃own,own∉had/\g.fj b=some (B4 own)
 |[],had,ys,hr,hgf=>by cases hr;exact⟨by simp,[],rfl,by simp,by simp⟩
 |rv::rs,had,ys,hr,hgf=>by
  simp only[yY]at hr;cases h1:RZ st E rv with
  |none=>rw[h1]at hr;cases hr
  |some x=>
   obtain⟨own,gg,cs⟩:=x;rw[h1]at hr;simp only[ft]at hr;split at hr;cases hr;rename_i O6;have O6:own∉had:=by simpa using O6
   cases h2:yY st E (own::had) rs with|none=>rw[h2]at hr;cases hr|some xs=>rw[h2]at hr;simp only[ft,bq]at hr;subst hr;obtain⟨v,vs,tt,fg,fU,fO,KQ,hl1⟩:=aop hE h h1;obtain⟨ak1,fp2,Q9,Fc,Cz⟩:=afQ hE h gf rs (own::had) xs h2 hgf;have hv:=hgf rv v fg;refine⟨λrv' hm=>?_,tt++fp2,⟨tt,fp2,rfl,⟨vs,by rw[hv];exact fU,fO⟩,Q9⟩,?_,λb hb=>?_⟩;rcases bZ.1 hm with rfl|hm;rw[hv];exact fg;exact ak1 rv' hm;refine aQ.2 ⟨KQ,Fc,λb hb b' iz he=>?_⟩;subst he;obtain⟨atp,Js,Ko⟩:=Cz b iz;rw[hl1 b hb]at Ko;have:=Oa (bM Ko);subst this;exact Js (by simp);rcases aA.1 hb with hb|hb;exact⟨own,O6,hl1 b hb⟩;obtain⟨atp,Js,Ko⟩:=Cz b hb;exact⟨atp,λhm=>Js (by simp[hm]),Ko⟩
theorem FK.agS {fl:FK}{f:sn}(h:fl.fits f=true):f=fl.flag:=by
 unfold FK.fits at h;split at h;rename_i t t';have:t=t':=by simpa using h
 subst this;rfl;rename_i k;have:k=false:=by simpa using h
 subst this;rfl;rename_i k;have:k=true:=h;subst this;rfl;rfl;rename_i j t j' t';simp only[af,ba]at h;obtain⟨rfl,rfl⟩:=h;rfl;cases h
theorem AW:∀{t:FT}{cs r:aw AC}{x:t.ct.D},PC t cs=some (x,r)->cs=kc t x++r:=by
 intro t;induction t with
 |int k=>intro cs r x h;cases cs with|nil=>simp[PC]at h|cons y ys=>cases y<;>simp[PC]at h;obtain⟨rfl,rfl,rfl⟩:=h;rfl
 |bool=>intro cs r x h;cases cs with|nil=>simp[PC]at h|cons y ys=>cases y<;>simp[PC]at h;obtain⟨rfl,rfl⟩:=h;rfl
 |str=>intro cs r x h;cases cs with|nil=>simp[PC]at h|cons y ys=>cases y<;>simp[PC]at h;obtain⟨rfl,rfl⟩:=h;rfl
 |sl fl e=>
  intro cs r x h;cases cs with
  |nil=>simp[PC]at h
  |cons y ys=>
   cases y with
   |sl fl' e' xs=>
    simp only[PC]at h;split at h
    ·rename_i he;subst he;cases hf:fl.fits fl' with
     |false=>rw[hf]at h;cases h
     |true=>
      rw[hf]at h;cases h;rw[FK.agS hf];have hn:fl.isNil=false:=by cases fl<;>first|rfl|(unfold FK.fits at hf;cases hf)
      simp only[kc,hn,ae];rfl
    cases h
   |kv=>simp only[PC]at h;cases hn:fl.isNil with|false=>rw[hn]at h;cases h|true=>rw[hn]at h;cases h;simp only[kc,hn,ah];rfl
   |_=>simp[PC]at h
 |pair a b iha ihb=>intro cs r x h;simp only[PC]at h;obtain⟨⟨x1,r1⟩,h1,h⟩:=aY.1 h;obtain⟨⟨x2,r2⟩,h2,h⟩:=aY.1 h;cases h;have h3:r1=kc b x2++r2:=ihb h2;rw[iha h1,h3];simp[kc]
theorem N9:∀(rs:aw (Bool×FT))(ys:aw (Bool×aw AC))(y:rj rs),wL rs ys=some y->ys=arz rs y
 |[],[],y,_=>rfl
 |[],_::_,y,h=>by simp[wL]at h
 |[(g,t)],ys,y,h=>by
  cases ys with
  |nil=>simp[wL]at h
  |cons p ys=>
   cases ys with
   |cons _ _=>simp[wL]at h
   |nil=>
    obtain⟨g',cs⟩:=p;simp only[wL]at h;cases hg:g==g' with
    |false=>rw[hg]at h;cases h
    |true=>
     rw[hg]at h;have:g=g':=by simpa using hg
     subst this;simp only[ah]at h;split at h;rename_i x hx;cases h;have:=AW hx;rw[bR]at this;rw[this];rfl;cases h
 |(g,t)::p::r,ys,y,h=>by
  cases ys with
  |nil=>simp[wL]at h
  |cons q ys=>
   obtain⟨g',cs⟩:=q;simp only[wL]at h;cases hg:g==g' with
   |false=>rw[hg]at h;cases h
   |true=>
    rw[hg]at h;have:g=g':=by simpa using hg
    subst this;simp only[ah]at h;split at h;rename_i x hx;obtain⟨z,hz,h⟩:=aY.1 h;cases h;have h1:=AW hx;rw[bR]at h1;rw[h1,N9 (p::r) ys z hz];rfl;cases h
theorem Oi {E:Env}(hE:ka P E.ty){fn:Func}{cp:AS}{a':Act}{w':World}(hg:eE C g cp a' w' []){had:aw (Bool×Nat)}(hra:yY cp E had fn.results.toList=some ys){y:rj rs}(jO:wL rs ys=some y): ∃v fp,(Go.results fn a'.tmps).run P w'=.ok v w'/\gS (gC C.A g.hw w') v (Jb rs y) fp/\fp.Nodup/\∀b∈fp,∃own,own∉had/\g.fj b=some (B4 own):=by
 have hys:=N9 rs ys y jO;let gf:ResultVar->Value:=λrv=>match (Gn a'.tmps rv).run P w' with| .ok v _=>v|_=>undef
 obtain⟨ak1,fp,fO,Jr,Ko⟩:=afQ hE hg gf fn.results.toList had ys hra (λrv v hv=>by simp only[gf,hv]);have aqo:=Gr (P:=P) (Gn a'.tmps) gf w' fn.results (λx hx=>ak1 x (by simpa using hx));have fg:(Go.results fn a'.tmps).run P w'=.ok (if h:(fn.results.map gf).size=1 then(fn.results.map gf)[0] else .tuple (fn.results.map gf)) w':=by
  have:Go.results fn a'.tmps=(do
   let vs<-fn.results.mapM (Gn a'.tmps)
   pure (if h:vs.size=1 then vs[0] else .tuple vs)):=by
   unfold Go.results
   congr 1
  rw[this];simp only[Sem.run_bind,aqo,Result.andThen_ok,Sem.run_pure]
 refine⟨_,fp,fg,?_,Jr,Ko⟩;have Zt:(fn.results.map gf).toList=fn.results.toList.map gf:=by simp
 unfold Jb;rw[<-hys];cases ys with
 |nil=>
  have aqt:fn.results.toList.map gf=[]:=by cases hm:fn.results.toList.map gf with|nil=>rfl|cons u us=>rw[hm]at fO;exact fO.elim
  have uU:¬(fn.results.map gf).size=1:=by rw[<-Array.length_toList,Zt,aqt];simp
  rw[dif_neg uU];exact⟨_,by rw[<-Zt],fO⟩
 |cons y1 ys=>
  cases ys with
  |nil=>
   obtain⟨gg,cs⟩:=y1;cases hm:fn.results.toList.map gf with
   |nil=>rw[hm]at fO;exact fO.elim
   |cons u us=>
    rw[hm]at fO;obtain⟨f1,f2,rfl,adk,wW⟩:=fO;cases us with
    |cons _ _=>exact wW.elim
    |nil=>
     cases wW;have O4:fn.results.map gf=#[u]:=by apply fN;rw[Zt,hm]
     have:(if h:(fn.results.map gf).size=1 then(fn.results.map gf)[0] else .tuple (fn.results.map gf))=u:=by rw[dif_pos (by rw[O4];rfl)];simp only[O4];rfl
     rw[this,bR];exact adk
  |cons y2 ys=>
   have uU:¬(fn.results.map gf).size=1:=by rw[<-Array.length_toList,Zt];cases hm:fn.results.toList.map gf with|nil=>simp|cons u us=>rw[hm]at fO;obtain⟨f1,f2,rfl,adk,wW⟩:=fO;cases us with|nil=>exact wW.elim|cons u2 us=>simp
   rw[dif_neg uU];exact⟨_,by rw[<-Zt],fO⟩
theorem aeg {E:Env}(hE:ka P E.ty){fn:Func}{cp:AS}{a':Act}{w':World}(hg:eE C g cp a' w' [])(hra:yY cp E [] fn.results.toList=some ys){y:rj rs}(jO:wL rs ys=some y): ∃v fp,(Go.results fn a'.tmps).run P w'=.ok v w'/\gS (gC C.A g.hw w') v (Jb rs y) fp/\fp.Nodup/\∀b∈fp,∃own,g.fj b=some (B4 own):=by obtain⟨v,fp,h1,h2,h3,h4⟩:=Oi hE hg hra jO;exact⟨v,fp,h1,h2,h3,λb hb=>(h4 b hb).imp λ_ h=>h.2⟩
theorem ac1 {E:Env}{rs:aw (Bool×FT)}(hS:Sound P E Γ){fn:Func}(hf:P.funcs[f]?=some fn)(HF:(fn.name== "runtime.NumGoroutine")=false)(Ks:DF E Γ an Λ (fn.body.getD .skip)):jl P f {R:=rj rs,fn:=FP E Γ an Λ fn rs,av:=Jb rs}:=by
 intro xs y hy;simp only at hy;unfold FP at hy;cases hb:fn.body with
 |none=>rw[hb]at hy;cases hy
 |some c=>
  rw[hb]at hy;simp only at hy;split at hy;refine⟨⟨fn,c,hf,hb,HF⟩,λ_ _ A w vs hA gP=>?_,λh=>(by cases h),λh=>(by cases h),λh=>(by cases h)⟩;refine calls_of_wp hf hb (wp_mono (acL hS c (by rw[hb]at Ks;exact Ks) _ _ _ _ (VB hA gP) hy) ?_);rintro e a' w' ⟨ex,cp,he,hs,hk⟩;have main:aa (yY cp E [] fn.results.toList) (wL rs)=some y->a'.defers=[]/\∃v,(Go.results fn a'.tmps).run P w'=.ok v w'/\∃v_1 hw fp,Ending.returned v=Ending.returned v_1/\gS (gC A hw w') v_1 (Jb rs y) fp/\fp.Nodup/\(∀b∈fp,w.heap.size<=b/\b<w'.heap.size)/\Fr (λ_=>False) w w':=by intro jO;obtain⟨g,hg⟩:=hs;refine⟨hg.defers,?_⟩;cases hra:yY cp E [] fn.results.toList with|none=>rw[hra]at jO;cases jO|some ys=>rw[hra]at jO;obtain⟨v,fp,fg,fO,Jr,Ko⟩:=aeg hS.ty hg hra jO;refine⟨v,fg,v,g.hw,fp,rfl,fO,Jr,λb hb=>?_,hg.frame⟩;obtain⟨own,hl⟩:=Ko b hb;have:=hg.gN b _ hl;exact⟨this.2.resolve_right (λf=>f),this.1⟩
  cases e<;>cases ex<;>simp only[NP]at he;exact main hk;cases hk;exact main hk;cases hy
theorem agE {c:RC}(hcA:c.A=A)(XZ:c.w=w)(Je:c.hw=hw)(O5:∀t,t%3=1->c.iss t){all:jf}(Te:∀t,c.hdr t=(all[t/3]?).getD undef):
 ∀(j:Nat){vs:jf}{cs:aw AC}{fp:fA},ca (gC A hw w) vs cs fp->cs.all (AC.BE true)=true->(∀i v,vs[i]?=some v->all[j+i]?=some v)->ca c vs (KZ j cs) fp:=by
 intro j vs
 induction vs generalizing j with
 |nil=>intro cs fp h _ _;cases cs with
  |nil=>exact h
  |cons _ _=>exact h.elim
 |cons v vs ih=>
  intro cs fp h px Km
  cases cs with
  |nil=>exact h.elim
  |cons x cs=>
   obtain⟨f1,f2,rfl,h1,h2⟩:=h
   simp only[bX,af]at px
   have i1:=ih (j+1) h2 px.2 (λi u hu=>by rw[show j+1+i=j+(i+1) by omega];exact Km (i+1) u (by simpa using hu))
   have Rb:=Km 0 v rfl
   rw[eN]at Rb
   have sF:x.kh=true->KZ j (x::cs)=x::KZ (j+1) cs->ca c (v::vs) (KZ j (x::cs)) (f1++f2):=by rintro hf e1;obtain⟨rfl,k⟩:=tA (c':=c) h1 hf;rw[e1];exact⟨[],f2,rfl,k,i1⟩
   cases x with
   |sl fl e xs=>
    cases fl with
    |own t=>
     have iG:fR c.hw c.w (.sl e) [v] xs f1:=by rw[Je,XZ];exact h1.1
     refine⟨f1,f2,rfl,⟨iG,λq hq=>?_⟩,i1⟩
     cases hq
     refine⟨O5 _ (by omega),?_⟩
     rw[Te,show(3*j+1)/3=j by omega,Rb];rfl
    |arg k=>
     have hk:k=true:=by simpa[AC.BE]using px.1
     subst hk
     exact⟨f1,f2,rfl,⟨h1.1,by rw[XZ,hcA];exact h1.2⟩,i1⟩
    |loc ep pv=>cases px.1
    |nest _ _ _ _ _ _=>cases px.1
    |part _ _ _ _=>cases px.1
    |fS _ _ _=>cases px.1
   |int k n=>exact sF rfl rfl
   |bool b=>exact sF rfl rfl
   |str s=>exact sF rfl rfl
   |fn f=>exact sF rfl rfl
   |kv=>cases px.1
   |ptr s off=>cases px.1
   |Ey fl e y i off=>cases px.1
   |un=>cases px.1
   |bot=>cases px.1
theorem XK {fp:fA}{b:Nat}(hA:∀k b' o,A k b' o->b'<w.heap.size/\b'≠b/\b'∉fp){fn:Func}{vs:jf}{arr:Array Value}{T:TypeId}{fr:Nat×Nat}(lf:w.heap[b]?=some (.cells arr T fr))(uO:rm arr fr)(fO:ca (gC A hw w) arr.toList cs fp)(px:cs.all (AC.BE true)=true)(hn:fp.Nodup)(yL:b∉fp)(gr:∀b'∈fp,b'<w.heap.size)(KR:hw b=0)(h:rq A w vs xs): py ⟨A,λb'=>b'=b\/b'∈fp,w,[.pointer (some ⟨b,0,none⟩)],λk b' o hb=>⟨(hA k b' o hb).1,λhm=>hm.elim (hA k b' o hb).2.1 (hA k b' o hb).2.2⟩⟩ (Dt fn cs xs) {tmps:=(.pointer (some ⟨b,0,none⟩)::vs).toArray++Array.replicate (fn.ntmps-(Value.pointer (some ⟨b,0,none⟩)::vs).toArray.size) undef,defers:=[]} w:=by
 obtain⟨hl,hi⟩:=J6 h;let v0:Value:=.pointer (some ⟨b,0,none⟩);let C:Ctx:=⟨A,λb'=>b'=b\/b'∈fp,w,[v0],λk b' o hb=>⟨(hA k b' o hb).1,λhm=>hm.elim (hA k b' o hb).2.1 (hA k b' o hb).2.2⟩⟩
 let g:Gh:=⟨hw,λ_=>b,λb'=>if b'=b\/b'∈fp then some (.box 0) else none,λt=>(arr.toList[t/3]?).getD undef⟩
 have IG:=mQ lf;have xo:jL (Dt fn cs xs) 0:=⟨KZ 0 cs,rfl⟩
 have hle:(gC A (λ_=>0) w).Le (dq C g (Dt fn cs xs) w):=⟨rfl,λt ht=>ht.elim,λ_ _ _ _ _ hv=>hv,bt _,λs hs=>hs.elim,λ_ b o u ho _=>absurd ho (Nat.not_lt_zero _)⟩
 have k1:=agE (c:=dq C g (Dt fn cs xs) w) (A:=A) rfl rfl rfl (λt ht=> .inl (by omega)) (all:=arr.toList) (λt=>rfl) 0 fO px (λi v hv=>by rw[cO];exact hv);refine⟨g,rfl,?_,?_,λi av hs=>?_,λs sB hs=>?_,λk v av hk=>by simp at hk,λb' x hx=>?_,Fr.refl _ _,⟨[],⟨[],[],rfl,⟨rfl,xo,rfl⟩,rfl⟩,by simp,by simp⟩⟩;simp[Dt,start,hl];omega;simp[Dt,start];have yD:((.one (.ptr 0 0)::xs)++List.replicate (fn.ntmps-(AV.one (.ptr 0 0)::xs).length) AV.bot)[i]?=some av:=hs;rcases bT i (xs.length+1)with anJ|BN;rw[bK (by simpa using anJ)]at yD;cases i with
 |zero=>
  simp at yD;subst yD;refine⟨[],?_,by simp,by simp⟩;have hvv:((v0::vs).toArray++Array.replicate (fn.ntmps-(v0::vs).toArray.size) undef).getD 0 undef=v0:=by simp[dQ,Array.getElem?_append]
  show gS _ (((v0::vs).toArray++Array.replicate (fn.ntmps-(v0::vs).toArray.size) undef).getD 0 undef) _ _;rw[hvv];exact nq ⟨rfl,xo,rfl⟩
 |succ i=>
  obtain⟨v,hv,hr⟩:=hi i av (by simpa using yD);refine⟨[],?_,by simp,by simp⟩;have hvv:((v0::vs).toArray++Array.replicate (fn.ntmps-(v0::vs).toArray.size) undef).getD (i+1) undef=v:=by
   have asG:i<vs.length:=by omega
   have hv':vs[i]=v:=by rw[ak asG]at hv;exact bM hv
   simp[dQ,Array.getElem?_append,asG,hv']
  show gS _ (((v0::vs).toArray++Array.replicate (fn.ntmps-(v0::vs).toArray.size) undef).getD (i+1) undef) _ _;rw[hvv];exact hr.mono hle (by simp)
 rw[bA (by simpa using BN),eS]at yD;split at yD;cases yD;exact⟨[],gS.bot _ _,by simp,by simp⟩;cases yD;have yD:(some (KZ 0 cs)::List.replicate (xs.length+(fn.ntmps-(xs.length+1))) (none:az (aw AC)))[s]?=some (some sB):=hs;cases s with|zero=>simp at yD;subst yD;refine⟨arr,T,fr,fp,lf,uO,k1,hn,yL,λb' iz=>?_,?_,KR⟩;show(if b'=b\/b'∈fp then _ else _)=_;rw[aI (.inr iz)];show(if b=b\/b∈fp then _ else _)=_;rw[aI (.inl rfl)]|succ s=>simp only[fI,eS]at yD;split at yD<;>cases yD
 have D6:(if b'=b\/b'∈fp then some (kK.box 0) else none)=some x:=hx;split at D6;rename_i hm;rcases hm with rfl|hm;exact⟨IG,.inr (.inl rfl)⟩;exact⟨gr b' hm,.inr (.inr hm)⟩;cases D6
theorem rz {E:Env}{rs:aw (Bool×FT)}{t:FT}(hS:Sound P E Γ){fn:Func}(hf:P.funcs[f]?=some fn)(HF:(fn.name== "runtime.NumGoroutine")=false)(Ks:DF E Γ an Λ (fn.body.getD .skip)):jl P f {R:=rj rs×t.ct.D,fn:=afk E Γ an Λ fn rs t,av:=λy=>Jb rs y.1,back:=λy=>kc t y.2,bx:=true}:=by
 intro xs y hy;simp only at hy;unfold afk at hy;split at hy;rename_i c cs rest hb;split at hy;rename_i hlen;refine⟨⟨fn,c,hf,hb,HF⟩,λ_ h=>(by cases h),λh=>(by cases h),λ_ T0 ats he A w b vs arr T fr hw fp hA lf uO fO hn yL gr KR gP=>?_,λh=>(by cases h)⟩;injection he with he1 he2;injection he1 with _ he3;subst he2;subst he3;refine calls_of_wp hf hb (wp_mono (acL hS c (by rw[hb]at Ks;exact Ks) _ _ _ _ (XK (fn:=fn) hA lf uO fO hlen.2 hn yL gr KR gP) hy) ?_);rintro e a' w' ⟨ex,cp,he,hs,hk⟩
 have main:(aa (aa (yY cp E [(true,0)] fn.results.toList) (wL rs)) λr=>match cp.io,cp.boxes with
  |[.ptr 0 0],some sB::_=>(match PC t (sB.map AC.strip)with|some (x,[])=>some (r,x)|_=>none)
  |_,_=>none)=some y->
  a'.defers=[]/\∃v,(Go.results fn a'.tmps).run P w'=.ok v w'/\∃v_1 hw' fv jv T' Uj ld,Ending.returned v=Ending.returned v_1/\gS (gC A hw' w') v_1 (Jb rs y.1) fv/\w'.heap[b]?=some (.cells jv T' Uj)/\rm jv Uj/\
    ca (gC A hw' w') jv.toList (kc t y.2) ld/\ld.Nodup/\b∉ld/\(∀b'∈ld,b'<w'.heap.size/\(b'∈fp\/w.heap.size<=b'))/\fv.Nodup/\(∀b'∈fv,b'<w'.heap.size/\(b'∈fp\/w.heap.size<=b')/\b'∉ld/\b'≠b)/\Fr (λb'=>b'=b\/b'∈fp) w w':=by
  intro jO
  obtain⟨g,hg⟩:=hs
  refine⟨hg.defers,?_⟩
  cases hra:yY cp E [(true,0)] fn.results.toList with
  |none=>rw[hra]at jO;cases jO
  |some ys=>
   rw[hra]at jO
   simp only[aa]at jO
   cases hrr:wL rs ys with
   |none=>rw[hrr]at jO;cases jO
   |some r0=>
    rw[hrr]at jO
    simp only at jO
    split at jO
    ·rename_i sB tl Tf kD
     split at jO
     ·rename_i x hx
      cases jO
      obtain⟨v,fv,fg,yM,Jr,Ko⟩:=Oi hS.ty hg hra hrr
      obtain⟨fpi,hri,_,_⟩:=hg.io
      rw[Tf]at hri
      obtain⟨g1,g2,_,ayz,_⟩:=hri
      have MU:b=g.β 0:=by have:=ayz.1;simp only[Value.pointer.injEq,bq,Addr.mk.injEq]at this;exact this.1
      obtain⟨jv,T',Uj,ld,Lo,Zy,hr',Fb,Lp,hl',asC,_⟩:=hg.boxes 0 sB (by rw[kD];rfl)
      rw[<-MU]at Lo Lp asC
      have nD:=Bf hr'
      have MT:=AW hx
      rw[bR]at MT
      rw[MT]at nD
      have hM:∀b',(w.heap.size<=b'\/(b'=b\/b'∈fp))->b'≠b->b'∈fp\/w.heap.size<=b':=by rintro b' (h2|h2|h2) Fe;exact .inr h2;exact absurd h2 Fe;exact .inl h2
      refine⟨v,fg,v,g.hw,fv,jv,T',Uj,ld,rfl,yM,Lo,Zy,nD,Fb,Lp,λb' iz=>?_,Jr,λb' iz=>?_,hg.frame⟩
      ·have:=hg.gN b' _ (hl' b' iz)
       exact⟨this.1,hM b' this.2 (λe=>Lp (e▸iz))⟩
      ·obtain⟨own,O6,Uz⟩:=Ko b' iz
       have Js:g.fj b'≠some (.box 0):=by rw[Uz];intro e;have e2:B4 own=B4 (true,0):=bM e;exact O6 (by rw[Oa e2];simp)
       have Fe:b'≠b:=λe=>Js (by rw[e];exact asC)
       have:=hg.gN b' _ Uz
       exact⟨this.1,hM b' this.2 Fe,λhm=>Js (hl' b' hm),Fe⟩
     ·cases jO
    ·cases jO
 cases e<;>cases ex<;>simp only[NP]at he;exact main hk;cases hk;exact main hk;cases hy;cases hy
theorem asl {E:Env}{t:FT}(hS:Sound P E Γ){fn:Func}(hf:P.funcs[f]?=some fn)(HF:(fn.name== "runtime.NumGoroutine")=false)(Ks:DF E Γ an Λ (fn.body.getD .skip)):jl P f {R:=t.ct.D,fn:=Ws E Γ an Λ fn t,av:=λ_=> .bot,back:=λy=>kc t y,pr:=true}:=by
 intro xs y hy;simp only at hy;unfold Ws at hy;cases hb:fn.body with
 |none=>rw[hb]at hy;cases hy
 |some c=>
  rw[hb]at hy;simp only at hy;split at hy;have key:aoT P f {R:=t.ct.D,fn:=Ws E Γ an Λ fn t,av:=λ_=> .bot,back:=λy=>kc t y,pr:=true} y xs:=by
   intro A w vs hA gP;refine calls_of_wp hf hb (wp_mono (acL hS c (by rw[hb]at Ks;exact Ks) _ _ _ _ (VB hA gP) hy) ?_);rintro e a' w' ⟨ex,cp,he,hs,hk⟩
   have main:(match fn.results.toList with
    |[.tmp i]=>match cp.get i with
     | .val false [.ptr s 0]=>match (nth cp.boxes s).getD none with
       |some cs=>if cs.all AC.MH=true then(match PC t (cs.map AC.strip)with|some (x,[])=>some x|_=>none) else none
       |none=>none
     |_=>none
    |_=>none)=some y->a'.defers=[]/\∃v,(Go.results fn a'.tmps).run P w'=.ok v w'/\∃b arr T fr hw,Ending.returned v=.returned (.pointer (some ⟨b,0,none⟩))/\w.heap.size<=b/\w'.heap[b]?=some (.cells arr T fr)/\rm arr fr/\ca (gC A hw w') arr.toList (kc t y) []/\Fr (λ_=>False) w w':=by
    intro jO
    obtain⟨g,hg⟩:=hs
    refine⟨hg.defers,?_⟩
    split at jO
    ·rename_i i hri
     split at jO
     ·rename_i s hp
      cases kD:(nth cp.boxes s).getD none with
      |none=>rw[kD]at jO;cases jO
      |some cs=>
       rw[kD]at jO
       simp only at jO
       split at jO
       ·rename_i px
        split at jO
        ·rename_i x hx
         cases jO
         have kD:cp.boxes[s]?=some (some cs):=by rw[ez]at kD;cases hq:cp.boxes[s]? with|none=>rw[hq]at kD;simp at kD|some q=>rw[hq]at kD;simp at kD;rw[kD]
         obtain⟨fp0,xd,_,_⟩:=hg.slot i
         rw[hp]at xd
         have xd:=Eg xd
         obtain⟨arr,T,fr,fp,lf,uO,fO,hn,yL,hl,KO,KR⟩:=hg.boxes s cs kD
         obtain⟨GR,vs,fU,Q9⟩:=arg_val (c:=dq _ g cp w') (c':=dq _ g cp w') rfl rfl (v:=.agg arr.toList.toArray) (x:=.val true cs) ⟨arr.toList,rfl,fO⟩ px
         have hvs:arr.toList=vs:=by have fU:Value.agg arr.toList.toArray=.agg vs.toArray:=fU;simp only[Value.agg.injEq]at fU;simpa using congrArg Array.toList fU
         rw[<-hvs]at Q9
         have nD:=Bf Q9
         have MT:=AW hx
         rw[bR]at MT
         rw[MT]at nD
         have fg:(Go.results fn a'.tmps).run P w'=.ok (a'.tmps.getD i undef) w':=by
          have he:fn.results=#[.tmp i]:=by apply fN;exact hri
          have aqo:=Gr (P:=P) (Gn a'.tmps) (λ_=>a'.tmps.getD i undef) w' fn.results (λx hx=>by rw[he]at hx;simp at hx;subst hx;rfl)
          have hd:Go.results fn a'.tmps=(do
           let vs<-fn.results.mapM (Gn a'.tmps)
           pure (if h:vs.size=1 then vs[0] else .tuple vs)):=by
           unfold Go.results
           congr 1
          rw[hd];simp only[Sem.run_bind,aqo,Result.andThen_ok,Sem.run_pure];rw[he];simp
         refine⟨_,fg,g.β s,arr,T,fr,g.hw,congrArg Ending.returned xd,?_,lf,uO,nD,hg.frame⟩
         exact(hg.gN _ _ KO).2.resolve_right (λf=>f)
        ·cases jO
       ·cases jO
     ·cases jO
    ·cases jO
   cases e<;>cases ex<;>simp only[NP]at he;exact main hk;cases hk;exact main hk
  refine⟨⟨fn,c,hf,hb,HF⟩,λ_ _ A w vs hA gP=>?_,λh=>(by cases h),λh=>(by cases h),λ_=>key⟩;refine(key A w vs hA gP).mono ?_;rintro e w' ⟨b,arr,T,fr,hw,rfl,_,_,_,_,jt⟩;exact⟨_,hw,[],rfl,gS.bot _ _,List.nodup_nil,(λb hb=>by cases hb),jt⟩;cases hy
end Go.Dn
