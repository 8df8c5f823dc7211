import Derived.Test.YtfbhfnniblfpbaaGreatDnAny
/- The soundness of the abstract semantics: code and functions. -/
namespace Go.Dn
open Go.RowKit
variable {P:Program} {C:Ctx} {st:AS} {a:Act} {w:World} {R:Type} {r:R}
variable {an:An} {gg:Bool} {Γ:xg} {g:Gh} {Λ:FL} {f:Nat} {hw:Nat->Nat} {A:Rg} {rs:au (Bool×FT)} {ys:au (Bool×au AC)} {cs:au AC} {xs:au AV} {fp:dI} {vs:gP}
def HM:Exit->Ex->Prop
 | .normal,.normal=>True
 | .ret,.ret=>True
 | .exit i,.exit j=>i=j
 |_,_=>False
def ahQ (C:Ctx)(K:Ex->AS->aw R)(r:R)(e:Exit)(a:Act)(w:World):Prop:=
 ∃ex st',HM e ex/\nb C st' a w/\K ex st'=some r
theorem abS {E:Env}(hS:Sound P E Γ){id:Nat}{ops:Array Oper}{d:Bool}(h:nb C st a w){K:AS->aw R}(hk:Tl E Γ an id ops.toList d st K=some r){Q:Exit->Act->World->Prop}(hq:∀st' a' w',nb C st' a' w'->K st'=some r->Q .normal a' w'):(Code.region id ops d).wp P Q a w:=by
 unfold Tl at hk;split at hk;rw[NM]at hk;cases ho:F4 E Γ an ops.toList d st some with|none=>rw[ho]at hk;cases hk|some st1=>rw[ho]at hk;exact Zp hS h ho (λa' w' hs=>hq _ _ _ hs hk)
 rename_i s hm;split at hk;rename_i ahk;rw[NM]at hk;cases ho:F4 E Γ.calm an ops.toList d st some with|none=>rw[ho]at hk;cases hk|some st1=>rw[ho]at hk;simp only[dX]at hk;cases hb:getBool st1 s with|none=>rw[hb]at hk;cases hk|some b=>rw[hb]at hk;simp only[aa]at hk;have hn:=abv (afb Γ) (λo MF=>aW.1 ahk o MF) ho;exact Zp hS.calm h ho (λa' w' hs=>hq _ _ _ (hs.weaken hn hb) hk)
 cases hk
def WS (E:Env)(Γ:xg)(an:An)(Λ:FL)(c:Code):Prop:=
 ∃n,∀(R:Type)(st:AS)(K:Ex->AS->aw R)(r:R),(Λ (dp c)).go st K=some r->zZ (an.mask (dp c)) (den E Γ an Λ c) n st K=some r
def COk (E:Env)(Γ:xg)(an:An)(Λ:FL)(c:Code):Prop:=
 ∀(R:Type)(st:AS)(K:Ex->AS->aw R)(r:R),(Λ (xo c)).go st K=some r->den E Γ an Λ c st (λe st'=>K e (st'.mask (an.mask (xo c+1))))=some r
def zS (E:Env)(Γ:xg)(an:An)(Λ:FL)(c:Code):Prop:=(∀c'∈gZ c,WS E Γ an Λ c')/\∀c'∈kf an.cut c,COk E Γ an Λ c'
theorem acR (c:Code):kf [] c=[]:=by induction c with|seq a b iha ihb=>simp[kf,iha,ihb]|cond _ a b iha ihb=>simp[kf,iha,ihb]|block _ c ih=>simpa[kf]using ih|loop c ih=>simpa[kf]using ih|_=>rfl
theorem zS.of {E:Env}{c:Code}(h:∀c'∈gZ c,WS E Γ an Λ c')(hc:an.cut=[]):zS E Γ an Λ c:=⟨h,by rw[hc,acR];simp⟩
theorem NC {E:Env}(hS:Sound P E Γ):∀(c:Code)(_:zS E Γ an Λ c)(st:AS)(a:Act)(w:World)(K:Ex->AS->aw R),nb C st a w->den E Γ an Λ c st K=some r->c.wp P (ahQ C K r) a w:=by
 intro c;induction c with
 |skip=>intro FQ st a w K h hk;exact wp_skip ⟨.normal,st,df,h,hk⟩
 |region id ops d=>intro FQ st a w K h hk;exact abS hS h (by simpa only[den]using hk) (λst' a' w' hs he=>⟨.normal,st',df,hs,he⟩)
 |seq x y ihx ihy=>
  intro FQ st a w K h hk;have ihx:=ihx ⟨λc hc=>FQ.1 c (by simp[gZ,hc]),λc hc=>FQ.2 c (by simp[kf,hc])⟩;have ihy:=ihy ⟨λc hc=>FQ.1 c (by simp[gZ,hc]),λc hc=>FQ.2 c (by simp only[kf];cases an.cut.contains (dp y)<;>simp[hc])⟩;simp only[den]at hk;refine wp_seq (wp_mono (ihx st a w _ h hk) ?_);rintro e a' w' ⟨ex,st',he,hs,Gf⟩;cases e<;>cases ex<;>simp only[HM]at he;simp only at Gf;cases dM:an.cut.contains (dp y)with|false=>rw[dM]at Gf;exact ihy st' a' w' K hs Gf|true=>rw[dM]at Gf;have hc:=FQ.2 y (by simp only[kf,dM];simp) _ _ _ _ Gf;refine wp_mono (ihy _ a' w' _ (hs.mask _) hc) ?_;rintro e2 a2 w2 ⟨ex2,st2,he2,hs2,hk2⟩;exact⟨ex2,_,he2,hs2.mask _,hk2⟩
  exact⟨.exit _,st',he,hs,Gf⟩;exact⟨.ret,st',df,hs,Gf⟩
 |cond c x y ihx ihy=>
  intro FQ st a w K h hk;have ihx:=ihx ⟨λc hc=>FQ.1 c (by simp[gZ,hc]),λc hc=>FQ.2 c (by simp[kf,hc])⟩;have ihy:=ihy ⟨λc hc=>FQ.1 c (by simp[gZ,hc]),λc hc=>FQ.2 c (by simp[kf,hc])⟩;simp only[den]at hk;split at hk;rename_i t hc;have hv:a.eval c=.bool t:=by obtain⟨g,hg⟩:=h;have:=hg.rd c;rw[hc]at this;exact wz this
  cases t with|true=>exact wp_cond_true hv (ihx st a w K h hk)|false=>exact wp_cond_false hv (ihy st a w K h hk)
  cases hk
 |block id c ih=>intro FQ st a w K h hk;have ih:=ih ⟨λc hc=>FQ.1 c (by simpa[gZ]using hc),λc hc=>FQ.2 c (by simpa[kf]using hc)⟩;simp only[den]at hk;refine wp_block (wp_mono (ih st a w _ h hk) ?_);rintro e a' w' ⟨ex,st',he,hs,Gf⟩;cases e<;>cases ex<;>simp only[HM]at he;exact⟨.normal,st',df,hs,Gf⟩;rename_i i j;subst he;simp only[Exit.inBlock];simp only at Gf;by_cases hi:i=id;subst hi;rw[aF rfl];simp only[beq_self_eq_true,bN]at Gf;exact⟨.normal,st',df,hs,Gf⟩;rw[aE hi];rw[aE (by simpa using hi)]at Gf;exact⟨.exit i,st',rfl,hs,Gf⟩;exact⟨.ret,st',df,hs,Gf⟩
 |loop c ih=>
  intro FQ st a w K h hk;have ih:=ih ⟨λc hc=>FQ.1 c (by simp[gZ,hc]),λc hc=>FQ.2 c (by simpa[kf]using hc)⟩;obtain⟨n,hn⟩:=FQ.1 c (by simp[gZ]);simp only[den]at hk;intro b k cs
  have key:∀m st a w,nb C st a w->zZ (an.mask (dp c)) (den E Γ an Λ c) m st K=some r->
   ∃e a' w',ahQ C K r e a' w'/\Arrives P (lone (b.at a (.code c:: .inLoop c::k)) cs w) b k cs e a' w':=by
   intro m
   induction m with
   |zero=>intro st a w _ hk;cases hk
   |succ m ihm=>
    intro st a w h hk
    simp only[zZ]at hk
    obtain⟨e,W2,Y6,⟨ex,st',he,hs,Gf⟩,MC⟩:=ih st a w _ h hk b (.inLoop c::k) cs
    cases e<;>cases ex<;>simp only[HM]at he
    ·obtain⟨agT,agL,ahI,adv,Sz⟩:=ihm _ W2 Y6 (hs.mask _) Gf
     exact⟨agT,agL,ahI,adv,.of_steps (Steps.trans MC (.one step_inLoop)) Sz⟩
    ·exact⟨.exit _,W2,Y6,⟨.exit _,_,he,hs.mask _,Gf⟩,.pass (x:=.inLoop c) rfl (λ_ _=> .inl (by simp)) MC⟩
    ·exact⟨.ret,W2,Y6,⟨.ret,_,df,hs.mask _,Gf⟩,.pass (x:=.inLoop c) rfl (λ_ _=> .inl (by simp)) MC⟩
  cases hp:an.peel.contains (dp c)with
  |false=>rw[hp]at hk;obtain⟨e,a',w',hq,MC⟩:=key n _ a w (h.mask _) (hn _ _ _ _ hk);exact⟨e,a',w',hq,.of_steps (.one step_loop) MC⟩
  |true=>rw[hp]at hk;simp only[af]at hk;obtain⟨e,W2,Y6,⟨ex,st',he,hs,Gf⟩,MC⟩:=ih _ a w _ (h.mask _) hk b (.inLoop c::k) cs;cases e<;>cases ex<;>simp only[HM]at he;obtain⟨agT,agL,ahI,adv,Sz⟩:=key n _ W2 Y6 (hs.mask _) (hn _ _ _ _ Gf);exact⟨agT,agL,ahI,adv,.of_steps (Steps.trans (.one step_loop) (Steps.trans MC (.one step_inLoop))) Sz⟩;exact⟨.exit _,W2,Y6,⟨.exit _,_,he,hs.mask _,Gf⟩,.of_steps (.one step_loop) (.pass (x:=.inLoop c) rfl (λ_ _=> .inl (by simp)) MC)⟩;exact⟨.ret,W2,Y6,⟨.ret,_,df,hs.mask _,Gf⟩,.of_steps (.one step_loop) (.pass (x:=.inLoop c) rfl (λ_ _=> .inl (by simp)) MC)⟩
 |exit id=>intro FQ st a w K h hk;exact wp_exit ⟨.exit id,st,rfl,h,hk⟩
 |ret=>intro FQ st a w K h hk;exact wp_ret ⟨.ret,st,df,h,hk⟩
 |_=>intro FQ st a w K h hk;simp[den]at hk
theorem DZ:∀{vs:gP}{xs:au AV},mL A w vs xs->vs.length=xs.length/\∀(i:Nat)(x:AV),xs[i]?=some x->∃v,vs[i]?=some v/\fy (eD A (λ_=>0) w) v x []
 |[],[],_=>⟨rfl,by simp⟩
 |v::vs,x::xs,h=>by obtain⟨hl,hi⟩:=DZ h.2;refine⟨by simp[hl],λi y hy=>?_⟩;cases i with|zero=>simp at hy;subst hy;exact⟨v,rfl,h.1⟩|succ i=>exact hi i y (by simpa using hy)
 |[],_::_,h=>h.elim
 |_::_,[],h=>h.elim
theorem Lu (hA:∀k b o,A k b o->b<w.heap.size){fn:Func}(h:mL A w vs xs): nb ⟨A,λ_=>False,w,[],λk b o hb=>⟨hA k b o hb,λf=>f⟩⟩ (nS fn xs) {tmps:=vs.toArray++Array.replicate (fn.ntmps-vs.toArray.size) undef,defers:=[]} w:=by
 obtain⟨hl,hi⟩:=DZ h;let C:Ctx:=⟨A,λ_=>False,w,[],λk b o hb=>⟨hA k b o hb,λf=>f⟩⟩
 let g:Gh:=⟨λ_=>0,λ_=>0,λ_=>none,λ_=>undef⟩
 have hle:(eD A (λ_=>0) w).Le (cq C g (nS fn xs) w):=⟨rfl,λt ht=>ht.elim,λ_ _ _ _ _ hv=>hv,aX _,λs hs=>hs.elim,λ_ b o u ho hu=>⟨ho,hu⟩⟩
 refine⟨g,rfl,?_,?_,λi av hs=>?_,λs cs hs=>?_,λk v av hk=>by simp at hk,λb x hx=>(by cases hx),Fr.refl _ _,⟨[],rfl,by simp,by simp⟩⟩;simp[nS,hl];simp[nS];have tV:(xs++List.replicate (fn.ntmps-xs.length) AV.bot)[i]?=some av:=hs;rcases bL i xs.length with gq|zX;rw[bA gq]at tV;obtain⟨v,hv,hr⟩:=hi i av tV;refine⟨[],?_,by simp,by simp⟩;have ZA:(vs.toArray++Array.replicate (fn.ntmps-vs.toArray.size) undef).getD i undef=v:=by
  have aaM:i<vs.length:=by omega
  have SO:vs[i]=v:=by rw[al aaM]at hv;exact cx hv
  simp[cG,Array.getElem?_append,aaM,SO]
 show fy _ ((vs.toArray++Array.replicate (fn.ntmps-vs.toArray.size) undef).getD i undef) _ _;rw[ZA];exact hr.mono hle (by simp);rw[bq zX,db]at tV;split at tV;cases tV;exact⟨[],fy.bot _ _,by simp,by simp⟩;cases tV;have tV:(List.replicate (xs.length+(fn.ntmps-xs.length)) (none:aw (au AC)))[s]?=some (some cs):=hs;rw[db]at tV;split at tV<;>cases tV
theorem YU {v:Value}{x:AC}(h:gr (cq C g st w) v x fp):gr (eD C.A g.hw w) v x.strip fp:=by
 cases x with
 |int k n=>exact h
 |bool b=>exact h
 |str s=>exact h
 |jl=>exact h
 |fn f=>exact h
 |un=>exact h
 |bot=>exact h
 |ptr s off=>exact h.2.2
 |Cg fl e y i off=>cases fl with|own t=>exact h.elim|nest _ _ _ _ _ _=>exact h.elim|part _ _ _ _=>exact h.elim|eQ _ _ _=>exact h.elim|arg _=>exact h.1|loc ep pv=>exact h.1
 |sl fl e xs=>
  cases fl with
  |nest _ _ _ _ _ _=>exact h.1
  |part _ _ _ _=>exact h.1
  |eQ _ _ _=>obtain⟨_,⟨k,hk,h3⟩,_⟩:=h;exact⟨λq hq=>(by cases hq),⟨k,hk,h3⟩,by simp⟩
  |own t=>exact⟨h.1,by simp⟩
  |arg _=>exact h
  |loc ep pv=>exact h.1
theorem zn:∀{vs:gP}{xs:au AC}{fp:dI},bp (cq C g st w) vs xs fp->bp (eD C.A g.hw w) vs (xs.map AC.strip) fp
 |[],[],_,h=>h
 |_::_,_::_,_,h=>by obtain⟨f1,f2,rfl,h1,h2⟩:=h;exact⟨f1,f2,rfl,YU h1,zn h2⟩
 |[],_::_,_,h=>h.elim
 |_::_,[],_,h=>h.elim
def EK (tmps:Array Value):ResultVar->Sem Value
 | .tmp t=>pure (tmps.getD t undef)
 | .cell a t=>do loadVar t (<-asAddr (tmps.getD a undef))
def Av:Bool×Nat->iT
 |(false,t)=> .slot t
 |(true,s)=> .box s
theorem L3 {x y:Bool×Nat}(h:Av x=Av y):x=y:=by rcases x with⟨_|_,a⟩<;>rcases y with⟨_|_,b⟩<;>simp[Av]at h<;>rw[h]
theorem afS {E:Env}(hE:jf P E.ty)(h:dk C g st a w []){rv:ResultVar}{own:Bool×Nat}(hr:OY st E rv=some (own,gg,cs)): ∃v vs fp,(EK a.tmps rv).run P w=.ok v w/\Cut gg v vs/\bp (eD C.A g.hw w) vs cs fp/\fp.Nodup/\∀b∈fp,g.dB b=some (Av own):=by
 cases rv with
 |tmp t=>simp only[OY]at hr;split at hr;rename_i g' mK mI;cases hr;obtain⟨fp,dx,hn,hl⟩:=h.slot t;rw[mI]at dx;obtain⟨vs,dM,dx⟩:=dx;exact⟨_,vs,fp,rfl,dM,zn dx,hn,hl⟩;cases hr
 |cell t T=>
  simp only[OY]at hr;split at hr;rename_i sh s off hT hp;cases jq:(nth st.boxes s).getD none with
  |none=>rw[jq]at hr;cases hr
  |some mK=>
   rw[jq]at hr;simp only[dX]at hr;split at hr;rename_i gk;cases hr;have jq:st.boxes[s]?=some (some mK):=by rw[dv]at jq;cases hq:st.boxes[s]? with|none=>rw[hq]at jq;simp at jq|some q=>rw[hq]at jq;simp at jq;rw[jq]
   obtain⟨Zr,vo,_,_⟩:=h.slot t;rw[hp]at vo;have vo:=CM vo;obtain⟨arr,T',fr,fp,jh,qG,dx,hn,sO,hl,Gg,HV⟩:=h.boxes s mK jq;have hlen:=dx.length;obtain⟨v,dA,dM⟩:=yZ (hE T sh hT) (g.β s) off ((arr.toList.drop off).take sh.ct.size) (by simp at hlen⊢;omega) (QC jh off sh.ct.size);obtain⟨f1,f2,f3,rfl,r1,r2,r3⟩:=dx.mid off sh.ct.size;have DW:=(aB.1 (aB.1 hn).1).2.1;refine⟨v,_,f2,?_,dM,zn r2,DW,λb hb=>hl b (by simp[hb])⟩;simp only[EK,vo,asAddr,Sem.run_bind,Sem.run_pure,Result.andThen_ok];exact dA;cases hr
  cases hr
theorem ZW {E:Env}(hE:jf P E.ty)(h:dk C g st a w [])(gf:ResultVar->Value):∀(rs:au ResultVar)(had:au (Bool×Nat))(ys:au (Bool×au AC)),oz st E had rs=some ys->
 (∀rv v,(EK a.tmps rv).run P w=.ok v w->gf rv=v)->
 (∀rv∈rs,(EK a.tmps rv).run P w=.ok (gf rv) w)/\∃fp,fy.qu (eD C.A g.hw w) (rs.map gf) ys fp/\fp.Nodup/\∀b∈fp,∃own,own∉had/\g.dB b=some (Av own)
 |[],had,ys,hr,hgf=>by cases hr;exact⟨by simp,[],rfl,by simp,by simp⟩
 |rv::rs,had,ys,hr,hgf=>by
  simp only[oz]at hr;cases h1:OY st E rv with
  |none=>rw[h1]at hr;cases hr
  |some x=>
   obtain⟨own,gg,cs⟩:=x;rw[h1]at hr;simp only[dX]at hr;split at hr;cases hr;rename_i ME;have ME:own∉had:=by simpa using ME
   cases h2:oz st E (own::had) rs with|none=>rw[h2]at hr;cases hr|some xs=>rw[h2]at hr;simp only[dX,aZ]at hr;subst hr;obtain⟨v,vs,jr,dA,dM,dx,DW,hl1⟩:=afS hE h h1;obtain⟨adA,fp2,Ob,B8,zH⟩:=ZW hE h gf rs (own::had) xs h2 hgf;have hv:=hgf rv v dA;refine⟨λrv' hm=>?_,jr++fp2,⟨jr,fp2,rfl,⟨vs,by rw[hv];exact dM,dx⟩,Ob⟩,?_,λb hb=>?_⟩;rcases cg.1 hm with rfl|hm;rw[hv];exact dA;exact adA rv' hm;refine aB.2 ⟨DW,B8,λb hb b' gn he=>?_⟩;subst he;obtain⟨aiA,I4,FP⟩:=zH b gn;rw[hl1 b hb]at FP;have:=L3 (cx FP);subst this;exact I4 (by simp);rcases ay.1 hb with hb|hb;exact⟨own,ME,hl1 b hb⟩;obtain⟨aiA,I4,FP⟩:=zH b hb;exact⟨aiA,λhm=>I4 (by simp[hm]),FP⟩
theorem FK.aaE {fl:FK}{f:qt}(h:fl.fits f=true):f=fl.flag:=by
 unfold FK.fits at h;split at h;rename_i t t';have:t=t':=by simpa using h
 subst this;rfl;rename_i k;have:k=false:=by simpa using h
 subst this;rfl;rename_i k;have:k=true:=h;subst this;rfl;rfl;rename_i j t j' t';simp only[ah,bC]at h;obtain⟨rfl,rfl⟩:=h;rfl;cases h
theorem za:∀{t:FT}{cs r:au AC}{x:t.ct.D},M4 t cs=some (x,r)->cs=iK t x++r:=by
 intro t;induction t with
 |int k=>intro cs r x h;cases cs with|nil=>simp[M4]at h|cons y ys=>cases y<;>simp[M4]at h;obtain⟨rfl,rfl,rfl⟩:=h;rfl
 |bool=>intro cs r x h;cases cs with|nil=>simp[M4]at h|cons y ys=>cases y<;>simp[M4]at h;obtain⟨rfl,rfl⟩:=h;rfl
 |str=>intro cs r x h;cases cs with|nil=>simp[M4]at h|cons y ys=>cases y<;>simp[M4]at h;obtain⟨rfl,rfl⟩:=h;rfl
 |sl fl e=>
  intro cs r x h;cases cs with
  |nil=>simp[M4]at h
  |cons y ys=>
   cases y with
   |sl fl' e' xs=>
    simp only[M4]at h;split at h
    ·rename_i he;subst he;cases hf:fl.fits fl' with
     |false=>rw[hf]at h;cases h
     |true=>
      rw[hf]at h;cases h;rw[FK.aaE hf];have hn:fl.isNil=false:=by cases fl<;>first|rfl|(unfold FK.fits at hf;cases hf)
      simp only[iK,hn,ae];rfl
    cases h
   |jl=>simp only[M4]at h;cases hn:fl.isNil with|false=>rw[hn]at h;cases h|true=>rw[hn]at h;cases h;simp only[iK,hn,af];rfl
   |_=>simp[M4]at h
 |pair a b iha ihb=>intro cs r x h;simp only[M4]at h;obtain⟨⟨x1,r1⟩,h1,h⟩:=aK.1 h;obtain⟨⟨x2,r2⟩,h2,h⟩:=aK.1 h;cases h;have h3:r1=iK b x2++r2:=ihb h2;rw[iha h1,h3];simp[iK]
theorem L2:∀(rs:au (Bool×FT))(ys:au (Bool×au AC))(y:hH rs),jI rs ys=some y->ys=ahy rs y
 |[],[],y,_=>rfl
 |[],_::_,y,h=>by simp[jI]at h
 |[(g,t)],ys,y,h=>by
  cases ys with
  |nil=>simp[jI]at h
  |cons p ys=>
   cases ys with
   |cons _ _=>simp[jI]at h
   |nil=>
    obtain⟨g',cs⟩:=p;simp only[jI]at h;cases hg:g==g' with
    |false=>rw[hg]at h;cases h
    |true=>
     rw[hg]at h;have:g=g':=by simpa using hg
     subst this;simp only[af]at h;split at h;rename_i x hx;cases h;have:=za hx;rw[br]at this;rw[this];rfl;cases h
 |(g,t)::p::r,ys,y,h=>by
  cases ys with
  |nil=>simp[jI]at h
  |cons q ys=>
   obtain⟨g',cs⟩:=q;simp only[jI]at h;cases hg:g==g' with
   |false=>rw[hg]at h;cases h
   |true=>
    rw[hg]at h;have:g=g':=by simpa using hg
    subst this;simp only[af]at h;split at h;rename_i x hx;obtain⟨z,hz,h⟩:=aK.1 h;cases h;have h1:=za hx;rw[br]at h1;rw[h1,L2 (p::r) ys z hz];rfl;cases h
theorem Mc {E:Env}(hE:jf P E.ty){fn:Func}{st':AS}{a':Act}{w':World}(hg:dk C g st' a' w' []){had:au (Bool×Nat)}(SL:oz st' E had fn.results.toList=some ys){y:hH rs}(eU:jI rs ys=some y): ∃v fp,(Go.results fn a'.tmps).run P w'=.ok v w'/\fy (eD C.A g.hw w') v (xm rs y) fp/\fp.Nodup/\∀b∈fp,∃own,own∉had/\g.dB b=some (Av own):=by
 have hys:=L2 rs ys y eU;let gf:ResultVar->Value:=λrv=>match (EK a'.tmps rv).run P w' with| .ok v _=>v|_=>undef
 obtain⟨adA,fp,dx,D9,FP⟩:=ZW hE hg gf fn.results.toList had ys SL (λrv v hv=>by simp only[gf,hv]);have ag9:=EL (P:=P) (EK a'.tmps) gf w' fn.results (λx hx=>adA x (by simpa using hx));have dA:(Go.results fn a'.tmps).run P w'=.ok (if h:(fn.results.map gf).size=1 then(fn.results.map gf)[0] else .tuple (fn.results.map gf)) w':=by
  have:Go.results fn a'.tmps=(do
   let vs<-fn.results.mapM (EK a'.tmps)
   pure (if h:vs.size=1 then vs[0] else .tuple vs)):=by
   unfold Go.results
   congr 1
  rw[this];simp only[Sem.run_bind,ag9,Result.andThen_ok,Sem.run_pure]
 refine⟨_,fp,dA,?_,D9,FP⟩;have UL:(fn.results.map gf).toList=fn.results.toList.map gf:=by simp
 unfold xm;rw[<-hys];cases ys with
 |nil=>
  have SJ:fn.results.toList.map gf=[]:=by cases hm:fn.results.toList.map gf with|nil=>rfl|cons u us=>rw[hm]at dx;exact dx.elim
  have sR:¬(fn.results.map gf).size=1:=by rw[<-Array.length_toList,UL,SJ];simp
  rw[dif_neg sR];exact⟨_,by rw[<-UL],dx⟩
 |cons y1 ys=>
  cases ys with
  |nil=>
   obtain⟨gg,cs⟩:=y1;cases hm:fn.results.toList.map gf with
   |nil=>rw[hm]at dx;exact dx.elim
   |cons u us=>
    rw[hm]at dx;obtain⟨f1,f2,rfl,XC,ji⟩:=dx;cases us with
    |cons _ _=>exact ji.elim
    |nil=>
     cases ji;have MC:fn.results.map gf=#[u]:=by apply dQ;rw[UL,hm]
     have:(if h:(fn.results.map gf).size=1 then(fn.results.map gf)[0] else .tuple (fn.results.map gf))=u:=by rw[dif_pos (by rw[MC];rfl)];simp only[MC];rfl
     rw[this,br];exact XC
  |cons y2 ys=>
   have sR:¬(fn.results.map gf).size=1:=by rw[<-Array.length_toList,UL];cases hm:fn.results.toList.map gf with|nil=>simp|cons u us=>rw[hm]at dx;obtain⟨f1,f2,rfl,XC,ji⟩:=dx;cases us with|nil=>exact ji.elim|cons u2 us=>simp
   rw[dif_neg sR];exact⟨_,by rw[<-UL],dx⟩
theorem IQ {E:Env}(hE:jf P E.ty){fn:Func}{st':AS}{a':Act}{w':World}(hg:dk C g st' a' w' [])(SL:oz st' E [] fn.results.toList=some ys){y:hH rs}(eU:jI rs ys=some y): ∃v fp,(Go.results fn a'.tmps).run P w'=.ok v w'/\fy (eD C.A g.hw w') v (xm rs y) fp/\fp.Nodup/\∀b∈fp,∃own,g.dB b=some (Av own):=by obtain⟨v,fp,h1,h2,h3,h4⟩:=Mc hE hg SL eU;exact⟨v,fp,h1,h2,h3,λb hb=>(h4 b hb).imp λ_ h=>h.2⟩
theorem aaF {E:Env}{rs:au (Bool×FT)}(hS:Sound P E Γ){fn:Func}(hf:P.funcs[f]?=some fn)(vD:(fn.name== "runtime.NumGoroutine")=false)(FQ:zS E Γ an Λ (fn.body.getD .skip)):kB P f {R:=hH rs,fn:=F5 E Γ an Λ fn rs,av:=xm rs}:=by
 intro xs y hy;simp only at hy;unfold F5 at hy;cases hb:fn.body with
 |none=>rw[hb]at hy;cases hy
 |some c=>
  rw[hb]at hy;simp only at hy;split at hy;refine⟨⟨fn,c,hf,hb,vD⟩,λ_ _ A w vs hA eP=>?_,λh=>(by cases h),λh=>(by cases h),λh=>(by cases h)⟩;refine calls_of_wp hf hb (wp_mono (NC hS c (by rw[hb]at FQ;exact FQ) _ _ _ _ (Lu hA eP) hy) ?_);rintro e a' w' ⟨ex,st',he,hs,hk⟩;have main:aa (oz st' E [] fn.results.toList) (jI rs)=some y->a'.defers=[]/\∃v,(Go.results fn a'.tmps).run P w'=.ok v w'/\∃v_1 hw fp,Ending.returned v=Ending.returned v_1/\fy (eD A hw w') v_1 (xm rs y) fp/\fp.Nodup/\(∀b∈fp,w.heap.size<=b/\b<w'.heap.size)/\Fr (λ_=>False) w w':=by intro eU;obtain⟨g,hg⟩:=hs;refine⟨hg.defers,?_⟩;cases SL:oz st' E [] fn.results.toList with|none=>rw[SL]at eU;cases eU|some ys=>rw[SL]at eU;obtain⟨v,fp,dA,dx,D9,FP⟩:=IQ hS.ty hg SL eU;refine⟨v,dA,v,g.hw,fp,rfl,dx,D9,λb hb=>?_,hg.frame⟩;obtain⟨own,hl⟩:=FP b hb;have:=hg.fa b _ hl;exact⟨this.2.resolve_right (λf=>f),this.1⟩
  cases e<;>cases ex<;>simp only[HM]at he;exact main hk;cases hk;exact main hk;cases hy
theorem ada {E:Env}{MK:au (Bool×FT)}(h2:hH MK=hH rs)(hS:Sound P E Γ){fn:Func}(hf:P.funcs[f]?=some fn)(vD:(fn.name== "runtime.NumGoroutine")=false)(FQ:zS E Γ an Λ (fn.body.getD .skip)):kB P f {R:=Bool×hH rs,fn:=evalAlt E Γ an Λ fn rs MK h2,av:=λy=>xm rs y.2,sel:=λy=>y.1,alt:=λy=>xm MK (cast h2.symm y.2)}:=by
 intro xs y hy;simp only at hy;unfold evalAlt at hy;cases hb:fn.body with
 |none=>rw[hb]at hy;cases hy
 |some c=>
  rw[hb]at hy;simp only at hy;split at hy;refine⟨⟨fn,c,hf,hb,vD⟩,λ_ _ A w vs hA eP=>?_,λh=>(by cases h),λh=>(by cases h),λh=>(by cases h)⟩;refine calls_of_wp hf hb (wp_mono (NC hS c (by rw[hb]at FQ;exact FQ) _ _ _ _ (Lu hA eP) hy) ?_);rintro e a' w' ⟨ex,st',he,hs,hk⟩
  have main:(aa (oz st' E [] fn.results.toList) λys=>match jI rs ys with
   |some y=>some (true,y)
   |none=>match jI MK ys with
    |some y=>some (false,cast h2 y)
    |none=>none)=some y->a'.defers=[]/\∃v,(Go.results fn a'.tmps).run P w'=.ok v w'/\∃v_1 hw fp,Ending.returned v=Ending.returned v_1/\
   fy (eD A hw w') v_1 (cond y.1 (xm rs y.2) (xm MK (cast h2.symm y.2))) fp/\fp.Nodup/\(∀b∈fp,w.heap.size<=b/\b<w'.heap.size)/\Fr (λ_=>False) w w':=by
   intro eU
   obtain⟨g,hg⟩:=hs
   refine⟨hg.defers,?_⟩
   cases SL:oz st' E [] fn.results.toList with
   |none=>rw[SL]at eU;cases eU
   |some ys=>
    rw[SL]at eU
    simp only[aa]at eU
    have fin:∀(rs':au (Bool×FT))(y':hH rs'),jI rs' ys=some y'->∃v,(Go.results fn a'.tmps).run P w'=.ok v w'/\∃v_1 hw fp,Ending.returned v=Ending.returned v_1/\
     fy (eD A hw w') v_1 (xm rs' y') fp/\fp.Nodup/\(∀b∈fp,w.heap.size<=b/\b<w'.heap.size)/\Fr (λ_=>False) w w':=by
     intro rs' y' Q1
     obtain⟨v,fp,dA,dx,D9,FP⟩:=IQ hS.ty hg SL Q1
     refine⟨v,dA,v,g.hw,fp,rfl,dx,D9,λb hb=>?_,hg.frame⟩
     obtain⟨own,hl⟩:=FP b hb
     have:=hg.fa b _ hl
     exact⟨this.2.resolve_right (λf=>f),this.1⟩
    cases h1:jI rs ys with
    |some y1=>rw[h1]at eU;cases eU;exact fin rs y1 h1
    |none=>
     rw[h1]at eU
     simp only at eU
     cases h3:jI MK ys with
     |none=>rw[h3]at eU;cases eU
     |some y1=>
      rw[h3]at eU
      cases eU
      simp only[ae,cast_cast,cast_eq]
      exact fin MK y1 h3
  cases e<;>cases ex<;>simp only[HM]at he;exact main hk;cases hk;exact main hk;cases hy
def adi (vs:gP)(t:Nat):Value:=(vs[t/3-4096*1000003]?).getD undef
theorem adX {c:RC}(MD:c.w=w)(Bi:c.hw=hw)(FO:∀t,t%3=0->c.iss t){all:gP}(Jo:∀t,c.hdr t=adi all t):
 ∀(j:Nat){vs:gP}{cs:au AC}{fp:dI},bp (eD A hw w) vs cs fp->cs.all AC.XY=true->(∀i v,vs[i]?=some v->all[j+i]?=some v)->
  bp c vs (XX j cs) fp/\bp c vs (Bt j cs) []:=by
 intro j vs
 induction vs generalizing j with
 |nil=>intro cs fp h _ _;cases cs with
  |nil=>exact⟨h,rfl⟩
  |cons _ _=>exact h.elim
 |cons v vs ih=>
  intro cs fp h jZ FM
  cases cs with
  |nil=>exact h.elim
  |cons x cs=>
   obtain⟨f1,f2,rfl,h1,h2⟩:=h
   simp only[bO,ah]at jZ
   obtain⟨i1,i2⟩:=ih (j+1) h2 jZ.2 (λi u hu=>by rw[show j+1+i=j+(i+1) by omega];exact FM (i+1) u (by simpa using hu))
   have LU:=FM 0 v rfl
   rw[dC]at LU
   have lf:c.iss (Ar j)/\v=c.hdr (Ar j):=by refine⟨FO _ (by unfold Ar;omega),?_⟩;rw[Jo,adi,show Ar j/3-4096*1000003=j by unfold Ar;omega,LU];rfl
   have flt:x.fS=true->XX j (x::cs)=x::XX (j+1) cs/\Bt j (x::cs)=x::Bt (j+1) cs->bp c (v::vs) (XX j (x::cs)) (f1++f2)/\bp c (v::vs) (Bt j (x::cs)) []:=by rintro hf ⟨e1,e2⟩;obtain⟨rfl,k⟩:=lr (c':=c) h1 hf;rw[e1,e2];exact⟨⟨[],f2,rfl,k,i1⟩,⟨[],[],rfl,k,i2⟩⟩
   cases x with
   |sl fl e xs=>
    cases fl with
    |own t=>
     have eE:dW c.hw c.w (.sl e) [v] xs f1:=by rw[Bi,MD];exact h1.1
     refine⟨⟨f1,f2,rfl,⟨eE,λq hq=>by cases hq;exact lf⟩,i1⟩,⟨[],[],rfl,⟨rfl,cC _,JT eE,λ_=>dW.rep (λb o ho=> .inr ho) eE,λr t hp=>?_⟩,i2⟩⟩
     cases hp
     exact⟨lf.1,lf.2⟩
    |arg _=>cases jZ.1
    |loc ep pv=>cases jZ.1
    |nest _ _ _ _ _ _=>cases jZ.1
    |part _ _ _ _=>cases jZ.1
    |eQ _ _ _=>cases jZ.1
   |int k n=>exact flt rfl ⟨rfl,rfl⟩
   |bool b=>exact flt rfl ⟨rfl,rfl⟩
   |str s=>exact flt rfl ⟨rfl,rfl⟩
   |fn f=>exact flt rfl ⟨rfl,rfl⟩
   |jl=>cases jZ.1
   |ptr s off=>cases jZ.1
   |Cg fl e y i off=>cases jZ.1
   |un=>cases jZ.1
   |bot=>cases jZ.1
theorem We (hA:∀k b o,A k b o->b<w.heap.size/\b∉fp){fn:Func}{v0:Value}{us:gP}(dM:Cut gg v0 us)(dx:bp (eD A hw w) us cs fp)(jZ:cs.all AC.XY=true)(hn:fp.Nodup)(gq:∀b∈fp,b<w.heap.size)(h:mL A w vs xs): nb ⟨A,λb=>b∈fp,w,us,λk b o hb=>hA k b o hb⟩ (HB fn gg cs xs) {tmps:=(v0::vs).toArray++Array.replicate (fn.ntmps-(v0::vs).toArray.size) undef,defers:=[]} w:=by
 obtain⟨hl,hi⟩:=DZ h;let C:Ctx:=⟨A,λb=>b∈fp,w,us,λk b o hb=>hA k b o hb⟩
 let g:Gh:=⟨hw,λ_=>0,λb=>if b∈fp then some .io else none,adi us⟩
 have hle:(eD A (λ_=>0) w).Le (cq C g (HB fn gg cs xs) w):=⟨rfl,λt ht=>ht.elim,λ_ _ _ _ _ hv=>hv,aX _,λs hs=>hs.elim,λ_ b o u ho _=>absurd ho (Nat.not_lt_zero _)⟩
 obtain⟨k1,k2⟩:=adX (c:=cq C g (HB fn gg cs xs) w) (A:=A) rfl rfl (λt ht=> .inl (by omega)) (all:=us) (λt=>rfl) 0 dx jZ (λi v hv=>by rw[cc];exact hv);refine⟨g,rfl,?_,?_,λi av hs=>?_,λs mK hs=>?_,λk v av hk=>by simp at hk,λb x hx=>?_,Fr.refl _ _,⟨fp,k1,hn,λb hb=>by show(if b∈fp then _ else _)=_;rw[aF hb]⟩⟩;simp[HB,nS,hl];omega;·simp[HB,nS];try omega
 have tV:((.val gg (Bt 0 cs)::xs)++List.replicate (fn.ntmps-(.val gg (Bt 0 cs)::xs).length) AV.bot)[i]?=some av:=hs;rcases bL i (xs.length+1)with aaM|zX;rw[bA (by simpa using aaM)]at tV;cases i with
 |zero=>
  simp at tV;subst tV;refine⟨[],?_,by simp,by simp⟩;have ZA:((v0::vs).toArray++Array.replicate (fn.ntmps-(v0::vs).toArray.size) undef).getD 0 undef=v0:=by simp[cG,Array.getElem?_append]
  show fy _ (((v0::vs).toArray++Array.replicate (fn.ntmps-(v0::vs).toArray.size) undef).getD 0 undef) _ _;rw[ZA];exact⟨us,dM,k2⟩
 |succ i=>
  obtain⟨v,hv,hr⟩:=hi i av (by simpa using tV);refine⟨[],?_,by simp,by simp⟩;have ZA:((v0::vs).toArray++Array.replicate (fn.ntmps-(v0::vs).toArray.size) undef).getD (i+1) undef=v:=by
   have adq:i<vs.length:=by omega
   have SO:vs[i]=v:=by rw[al adq]at hv;exact cx hv
   simp[cG,Array.getElem?_append,adq,SO]
  show fy _ (((v0::vs).toArray++Array.replicate (fn.ntmps-(v0::vs).toArray.size) undef).getD (i+1) undef) _ _;rw[ZA];exact hr.mono hle (by simp)
 rw[bq (by simpa using zX),db]at tV;split at tV;cases tV;exact⟨[],fy.bot _ _,by simp,by simp⟩;cases tV;have tV:(List.replicate ((AV.val gg (Bt 0 cs)::xs).length+(fn.ntmps-(AV.val gg (Bt 0 cs)::xs).length)) (none:aw (au AC)))[s]?=some (some mK):=hs;rw[db]at tV;split at tV<;>cases tV;have zY:(if b∈fp then some iT.io else none)=some x:=hx;split at zY;rename_i hm;exact⟨gq b hm,.inr hm⟩;cases zY
theorem aoz {E:Env}{rs:au (Bool×FT)}{t:CT}(hS:Sound P E Γ){fn:Func}(hf:P.funcs[f]?=some fn)(vD:(fn.name== "runtime.NumGoroutine")=false)(FQ:zS E Γ an Λ (fn.body.getD .skip)):kB P f {R:=hH rs×t.D,fn:=Xp E Γ an Λ fn rs t,av:=λy=>xm rs y.1,io:=true,back:=λy=>cellsOf t (.own none) y.2}:=by
 intro xs y hy;simp only at hy;unfold Xp at hy;split at hy;rename_i c gg cs rest hb;split at hy;rename_i hlen;refine⟨⟨fn,c,hf,hb,vD⟩,λh=>(by cases h),λ_ g0 PN aer he A w v0 vs hw fp hA dx hn gq eP=>?_,λh=>(by cases h),λh=>(by cases h)⟩;injection he with he1 he2;injection he1 with he1 he3;subst he1;subst he2;subst he3;obtain⟨us,dM,dx⟩:=dx;refine calls_of_wp hf hb (wp_mono (NC hS c (by rw[hb]at FQ;exact FQ) _ _ _ _ (We (fn:=fn) hA dM dx hlen.2 hn gq eP) hy) ?_);rintro e a' w' ⟨ex,st',he,hs,hk⟩
 have main:(aa (aa (oz st' E [] fn.results.toList) (jI rs)) λr=>match iD t st'.io with|some (x,[])=>some (r,x)|_=>none)=some y->
  a'.defers=[]/\∃v,(Go.results fn a'.tmps).run P w'=.ok v w'/\∃v_1 hw' fr hY,Ending.returned v=Ending.returned v_1/\fy (eD A hw' w') v_1 (xm rs y.1) fr/\fy (eD A hw' w') v0 (.val gg (cellsOf t (.own none) y.2)) hY/\hY.Nodup/\(∀b∈hY,b<w'.heap.size/\(b∈fp\/w.heap.size<=b))/\Fr (λb=>b∈fp) w w':=by
  intro eU
  obtain⟨g,hg⟩:=hs
  refine⟨hg.defers,?_⟩
  cases SL:oz st' E [] fn.results.toList with
  |none=>rw[SL]at eU;cases eU
  |some ys=>
   rw[SL]at eU
   simp only[aa]at eU
   cases hrr:jI rs ys with
   |none=>rw[hrr]at eU;cases eU
   |some r0=>
    rw[hrr]at eU
    simp only at eU
    split at eU
    ·rename_i x hx
     cases eU
     obtain⟨v,fr,dA,uR,D9,FP⟩:=IQ hS.ty hg SL hrr
     obtain⟨hY,Jp,Bm,hl'⟩:=hg.io
     obtain⟨f1,f2,rfl,eE,ji⟩:=oc Jp hx
     have SJ:us.drop t.size=[]:=by cases hd:us.drop t.size with|nil=>rfl|cons _ _=>have Oc:bp _ (us.drop t.size) _ _:=ji;rw[hd]at Oc;exact Oc.elim
     have Hh:f2=[]:=by have Oc:bp _ (us.drop t.size) [] f2:=ji;rw[SJ]at Oc;exact Oc
     subst Hh
     rw[br]at Bm hl'
     have adC:us.take t.size=us:=by have:=cf t.size us;rw[SJ,br]at this;exact this
     have Dw:dW g.hw w' t us x f1:=by have Dw:dW g.hw w' t (us.take t.size) x f1:=eE;rwa[adC]at Dw
     refine⟨v,dA,v,g.hw,fr,f1,rfl,uR,⟨us,dM,sa (c:=eD A g.hw w') Dw⟩,Bm,λb hb=>?_,hg.frame⟩
     have:=hg.fa b _ (hl' b hb)
     exact⟨this.1,this.2.symm⟩
    ·cases eU
 cases e<;>cases ex<;>simp only[HM]at he;exact main hk;cases hk;exact main hk;cases hy;cases hy
theorem aan {c:RC}(Xx:c.A=A)(MD:c.w=w)(Bi:c.hw=hw)(FO:∀t,t%3=1->c.iss t){all:gP}(Jo:∀t,c.hdr t=(all[t/3]?).getD undef):
 ∀(j:Nat){vs:gP}{cs:au AC}{fp:dI},bp (eD A hw w) vs cs fp->cs.all (AC.zU true)=true->(∀i v,vs[i]?=some v->all[j+i]?=some v)->bp c vs (Ja j cs) fp:=by
 intro j vs
 induction vs generalizing j with
 |nil=>intro cs fp h _ _;cases cs with
  |nil=>exact h
  |cons _ _=>exact h.elim
 |cons v vs ih=>
  intro cs fp h jZ FM
  cases cs with
  |nil=>exact h.elim
  |cons x cs=>
   obtain⟨f1,f2,rfl,h1,h2⟩:=h
   simp only[bO,ah]at jZ
   have i1:=ih (j+1) h2 jZ.2 (λi u hu=>by rw[show j+1+i=j+(i+1) by omega];exact FM (i+1) u (by simpa using hu))
   have LU:=FM 0 v rfl
   rw[dC]at LU
   have flt:x.fS=true->Ja j (x::cs)=x::Ja (j+1) cs->bp c (v::vs) (Ja j (x::cs)) (f1++f2):=by rintro hf e1;obtain⟨rfl,k⟩:=lr (c':=c) h1 hf;rw[e1];exact⟨[],f2,rfl,k,i1⟩
   cases x with
   |sl fl e xs=>
    cases fl with
    |own t=>
     have eE:dW c.hw c.w (.sl e) [v] xs f1:=by rw[Bi,MD];exact h1.1
     refine⟨f1,f2,rfl,⟨eE,λq hq=>?_⟩,i1⟩
     cases hq
     refine⟨FO _ (by omega),?_⟩
     rw[Jo,show(3*j+1)/3=j by omega,LU];rfl
    |arg k=>
     have hk:k=true:=by simpa[AC.zU]using jZ.1
     subst hk
     exact⟨f1,f2,rfl,⟨h1.1,by rw[MD,Xx];exact h1.2⟩,i1⟩
    |loc ep pv=>cases jZ.1
    |nest _ _ _ _ _ _=>cases jZ.1
    |part _ _ _ _=>cases jZ.1
    |eQ _ _ _=>cases jZ.1
   |int k n=>exact flt rfl rfl
   |bool b=>exact flt rfl rfl
   |str s=>exact flt rfl rfl
   |fn f=>exact flt rfl rfl
   |jl=>cases jZ.1
   |ptr s off=>cases jZ.1
   |Cg fl e y i off=>cases jZ.1
   |un=>cases jZ.1
   |bot=>cases jZ.1
theorem TB {b:Nat}(hA:∀k b' o,A k b' o->b'<w.heap.size/\b'≠b/\b'∉fp){fn:Func}{arr:Array Value}{T:TypeId}{fr:Nat×Nat}(jh:w.heap[b]?=some (.cells arr T fr))(qG:pL arr fr)(dx:bp (eD A hw w) arr.toList cs fp)(jZ:cs.all (AC.zU true)=true)(hn:fp.Nodup)(sO:b∉fp)(gq:∀b'∈fp,b'<w.heap.size)(HV:hw b=0)(h:mL A w vs xs): nb ⟨A,λb'=>b'=b\/b'∈fp,w,[.pointer (some ⟨b,0,none⟩)],λk b' o hb=>⟨(hA k b' o hb).1,λhm=>hm.elim (hA k b' o hb).2.1 (hA k b' o hb).2.2⟩⟩ (BW fn cs xs) {tmps:=(.pointer (some ⟨b,0,none⟩)::vs).toArray++Array.replicate (fn.ntmps-(Value.pointer (some ⟨b,0,none⟩)::vs).toArray.size) undef,defers:=[]} w:=by
 obtain⟨hl,hi⟩:=DZ h;let v0:Value:=.pointer (some ⟨b,0,none⟩);let C:Ctx:=⟨A,λb'=>b'=b\/b'∈fp,w,[v0],λk b' o hb=>⟨(hA k b' o hb).1,λhm=>hm.elim (hA k b' o hb).2.1 (hA k b' o hb).2.2⟩⟩
 let g:Gh:=⟨hw,λ_=>b,λb'=>if b'=b\/b'∈fp then some (.box 0) else none,λt=>(arr.toList[t/3]?).getD undef⟩
 have HP:=lQ jh;have qF:fX (BW fn cs xs) 0:=⟨Ja 0 cs,rfl⟩
 have hle:(eD A (λ_=>0) w).Le (cq C g (BW fn cs xs) w):=⟨rfl,λt ht=>ht.elim,λ_ _ _ _ _ hv=>hv,aX _,λs hs=>hs.elim,λ_ b o u ho _=>absurd ho (Nat.not_lt_zero _)⟩
 have k1:=aan (c:=cq C g (BW fn cs xs) w) (A:=A) rfl rfl rfl (λt ht=> .inl (by omega)) (all:=arr.toList) (λt=>rfl) 0 dx jZ (λi v hv=>by rw[cc];exact hv);refine⟨g,rfl,?_,?_,λi av hs=>?_,λs mK hs=>?_,λk v av hk=>by simp at hk,λb' x hx=>?_,Fr.refl _ _,⟨[],⟨[],[],rfl,⟨rfl,qF,rfl⟩,rfl⟩,by simp,by simp⟩⟩;simp[BW,nS,hl];omega;simp[BW,nS];have tV:((.one (.ptr 0 0)::xs)++List.replicate (fn.ntmps-(AV.one (.ptr 0 0)::xs).length) AV.bot)[i]?=some av:=hs;rcases bL i (xs.length+1)with aaM|zX;rw[bA (by simpa using aaM)]at tV;cases i with
 |zero=>
  simp at tV;subst tV;refine⟨[],?_,by simp,by simp⟩;have ZA:((v0::vs).toArray++Array.replicate (fn.ntmps-(v0::vs).toArray.size) undef).getD 0 undef=v0:=by simp[cG,Array.getElem?_append]
  show fy _ (((v0::vs).toArray++Array.replicate (fn.ntmps-(v0::vs).toArray.size) undef).getD 0 undef) _ _;rw[ZA];exact mu ⟨rfl,qF,rfl⟩
 |succ i=>
  obtain⟨v,hv,hr⟩:=hi i av (by simpa using tV);refine⟨[],?_,by simp,by simp⟩;have ZA:((v0::vs).toArray++Array.replicate (fn.ntmps-(v0::vs).toArray.size) undef).getD (i+1) undef=v:=by
   have adq:i<vs.length:=by omega
   have SO:vs[i]=v:=by rw[al adq]at hv;exact cx hv
   simp[cG,Array.getElem?_append,adq,SO]
  show fy _ (((v0::vs).toArray++Array.replicate (fn.ntmps-(v0::vs).toArray.size) undef).getD (i+1) undef) _ _;rw[ZA];exact hr.mono hle (by simp)
 rw[bq (by simpa using zX),db]at tV;split at tV;cases tV;exact⟨[],fy.bot _ _,by simp,by simp⟩;cases tV;have tV:(some (Ja 0 cs)::List.replicate (xs.length+(fn.ntmps-(xs.length+1))) (none:aw (au AC)))[s]?=some (some mK):=hs;cases s with|zero=>simp at tV;subst tV;refine⟨arr,T,fr,fp,jh,qG,k1,hn,sO,λb' gn=>?_,?_,HV⟩;show(if b'=b\/b'∈fp then _ else _)=_;rw[aF (.inr gn)];show(if b=b\/b∈fp then _ else _)=_;rw[aF (.inl rfl)]|succ s=>simp only[eh,db]at tV;split at tV<;>cases tV
 have zY:(if b'=b\/b'∈fp then some (iT.box 0) else none)=some x:=hx;split at zY;rename_i hm;rcases hm with rfl|hm;exact⟨HP,.inr (.inl rfl)⟩;exact⟨gq b' hm,.inr (.inr hm)⟩;cases zY
theorem ahV {E:Env}{rs:au (Bool×FT)}{t:FT}(hS:Sound P E Γ){fn:Func}(hf:P.funcs[f]?=some fn)(vD:(fn.name== "runtime.NumGoroutine")=false)(FQ:zS E Γ an Λ (fn.body.getD .skip)):kB P f {R:=hH rs×t.ct.D,fn:=Ss E Γ an Λ fn rs t,av:=λy=>xm rs y.1,back:=λy=>iK t y.2,bx:=true}:=by
 intro xs y hy;simp only at hy;unfold Ss at hy;split at hy;rename_i c cs rest hb;split at hy;rename_i hlen;refine⟨⟨fn,c,hf,hb,vD⟩,λ_ h=>(by cases h),λh=>(by cases h),λ_ PN aer he A w b vs arr T fr hw fp hA jh qG dx hn sO gq HV eP=>?_,λh=>(by cases h)⟩;injection he with he1 he2;injection he1 with _ he3;subst he2;subst he3;refine calls_of_wp hf hb (wp_mono (NC hS c (by rw[hb]at FQ;exact FQ) _ _ _ _ (TB (fn:=fn) hA jh qG dx hlen.2 hn sO gq HV eP) hy) ?_);rintro e a' w' ⟨ex,st',he,hs,hk⟩
 have main:(aa (aa (oz st' E [(true,0)] fn.results.toList) (jI rs)) λr=>match st'.io,st'.boxes with
  |[.ptr 0 0],some mK::_=>(match M4 t (mK.map AC.strip)with|some (x,[])=>some (r,x)|_=>none)
  |_,_=>none)=some y->
  a'.defers=[]/\∃v,(Go.results fn a'.tmps).run P w'=.ok v w'/\∃v_1 hw' fv iJ T' QV hY,Ending.returned v=Ending.returned v_1/\fy (eD A hw' w') v_1 (xm rs y.1) fv/\w'.heap[b]?=some (.cells iJ T' QV)/\pL iJ QV/\
    bp (eD A hw' w') iJ.toList (iK t y.2) hY/\hY.Nodup/\b∉hY/\(∀b'∈hY,b'<w'.heap.size/\(b'∈fp\/w.heap.size<=b'))/\fv.Nodup/\(∀b'∈fv,b'<w'.heap.size/\(b'∈fp\/w.heap.size<=b')/\b'∉hY/\b'≠b)/\Fr (λb'=>b'=b\/b'∈fp) w w':=by
  intro eU
  obtain⟨g,hg⟩:=hs
  refine⟨hg.defers,?_⟩
  cases SL:oz st' E [(true,0)] fn.results.toList with
  |none=>rw[SL]at eU;cases eU
  |some ys=>
   rw[SL]at eU
   simp only[aa]at eU
   cases hrr:jI rs ys with
   |none=>rw[hrr]at eU;cases eU
   |some r0=>
    rw[hrr]at eU
    simp only at eU
    split at eU
    ·rename_i mK tl Jp jq
     split at eU
     ·rename_i x hx
      cases eU
      obtain⟨v,fv,dA,uR,D9,FP⟩:=Mc hS.ty hg SL hrr
      obtain⟨fpi,hri,_,_⟩:=hg.io
      rw[Jp]at hri
      obtain⟨g1,g2,_,ao2,_⟩:=hri
      have ID:b=g.β 0:=by have:=ao2.1;simp only[Value.pointer.injEq,aZ,Addr.mk.injEq]at this;exact this.1
      obtain⟨iJ,T',QV,hY,Jl,UT,hr',Bm,HJ,hl',ah9,_⟩:=hg.boxes 0 mK (by rw[jq];rfl)
      rw[<-ID]at Jl HJ ah9
      have lf:=zn hr'
      have Jt:=za hx
      rw[br]at Jt
      rw[Jt]at lf
      have hM:∀b',(w.heap.size<=b'\/(b'=b\/b'∈fp))->b'≠b->b'∈fp\/w.heap.size<=b':=by rintro b' (h2|h2|h2) Ea;exact .inr h2;exact absurd h2 Ea;exact .inl h2
      refine⟨v,dA,v,g.hw,fv,iJ,T',QV,hY,rfl,uR,Jl,UT,lf,Bm,HJ,λb' gn=>?_,D9,λb' gn=>?_,hg.frame⟩
      ·have:=hg.fa b' _ (hl' b' gn)
       exact⟨this.1,hM b' this.2 (λe=>HJ (e▸gn))⟩
      ·obtain⟨own,ME,QY⟩:=FP b' gn
       have I4:g.dB b'≠some (.box 0):=by rw[QY];intro e;have e2:Av own=Av (true,0):=cx e;exact ME (by rw[L3 e2];simp)
       have Ea:b'≠b:=λe=>I4 (by rw[e];exact ah9)
       have:=hg.fa b' _ QY
       exact⟨this.1,hM b' this.2 Ea,λhm=>I4 (hl' b' hm),Ea⟩
     ·cases eU
    ·cases eU
 cases e<;>cases ex<;>simp only[HM]at he;exact main hk;cases hk;exact main hk;cases hy;cases hy
theorem ahW {E:Env}{t:FT}(hS:Sound P E Γ){fn:Func}(hf:P.funcs[f]?=some fn)(vD:(fn.name== "runtime.NumGoroutine")=false)(FQ:zS E Γ an Λ (fn.body.getD .skip)):kB P f {R:=t.ct.D,fn:=MX E Γ an Λ fn t,av:=λ_=> .bot,back:=λy=>iK t y,pr:=true}:=by
 intro xs y hy;simp only at hy;unfold MX at hy;cases hb:fn.body with
 |none=>rw[hb]at hy;cases hy
 |some c=>
  rw[hb]at hy;simp only at hy;split at hy;have key:agn P f {R:=t.ct.D,fn:=MX E Γ an Λ fn t,av:=λ_=> .bot,back:=λy=>iK t y,pr:=true} y xs:=by
   intro A w vs hA eP;refine calls_of_wp hf hb (wp_mono (NC hS c (by rw[hb]at FQ;exact FQ) _ _ _ _ (Lu hA eP) hy) ?_);rintro e a' w' ⟨ex,st',he,hs,hk⟩
   have main:(match fn.results.toList with
    |[.tmp i]=>match st'.get i with
     | .val false [.ptr s 0]=>match (nth st'.boxes s).getD none with
       |some cs=>if cs.all AC.KI=true then(match M4 t (cs.map AC.strip)with|some (x,[])=>some x|_=>none) else none
       |none=>none
     |_=>none
    |_=>none)=some y->a'.defers=[]/\∃v,(Go.results fn a'.tmps).run P w'=.ok v w'/\∃b arr T fr hw,Ending.returned v=.returned (.pointer (some ⟨b,0,none⟩))/\w.heap.size<=b/\w'.heap[b]?=some (.cells arr T fr)/\pL arr fr/\bp (eD A hw w') arr.toList (iK t y) []/\Fr (λ_=>False) w w':=by
    intro eU
    obtain⟨g,hg⟩:=hs
    refine⟨hg.defers,?_⟩
    split at eU
    ·rename_i i hri
     split at eU
     ·rename_i s hp
      cases jq:(nth st'.boxes s).getD none with
      |none=>rw[jq]at eU;cases eU
      |some cs=>
       rw[jq]at eU
       simp only at eU
       split at eU
       ·rename_i jZ
        split at eU
        ·rename_i x hx
         cases eU
         have jq:st'.boxes[s]?=some (some cs):=by rw[dv]at jq;cases hq:st'.boxes[s]? with|none=>rw[hq]at jq;simp at jq|some q=>rw[hq]at jq;simp at jq;rw[jq]
         obtain⟨Zr,vo,_,_⟩:=hg.slot i
         rw[hp]at vo
         have vo:=CM vo
         obtain⟨arr,T,fr,fp,jh,qG,dx,hn,sO,hl,Gg,HV⟩:=hg.boxes s cs jq
         obtain⟨B7,vs,dM,Ob⟩:=arg_val (c:=cq _ g st' w') (c':=cq _ g st' w') rfl rfl (v:=.agg arr.toList.toArray) (x:=.val true cs) ⟨arr.toList,rfl,dx⟩ jZ
         have hvs:arr.toList=vs:=by have dM:Value.agg arr.toList.toArray=.agg vs.toArray:=dM;simp only[Value.agg.injEq]at dM;simpa using congrArg Array.toList dM
         rw[<-hvs]at Ob
         have lf:=zn Ob
         have Jt:=za hx
         rw[br]at Jt
         rw[Jt]at lf
         have dA:(Go.results fn a'.tmps).run P w'=.ok (a'.tmps.getD i undef) w':=by
          have he:fn.results=#[.tmp i]:=by apply dQ;exact hri
          have ag9:=EL (P:=P) (EK a'.tmps) (λ_=>a'.tmps.getD i undef) w' fn.results (λx hx=>by rw[he]at hx;simp at hx;subst hx;rfl)
          have hd:Go.results fn a'.tmps=(do
           let vs<-fn.results.mapM (EK a'.tmps)
           pure (if h:vs.size=1 then vs[0] else .tuple vs)):=by
           unfold Go.results
           congr 1
          rw[hd];simp only[Sem.run_bind,ag9,Result.andThen_ok,Sem.run_pure];rw[he];simp
         refine⟨_,dA,g.β s,arr,T,fr,g.hw,congrArg Ending.returned vo,?_,jh,qG,lf,hg.frame⟩
         exact(hg.fa _ _ Gg).2.resolve_right (λf=>f)
        ·cases eU
       ·cases eU
     ·cases eU
    ·cases eU
   cases e<;>cases ex<;>simp only[HM]at he;exact main hk;cases hk;exact main hk
  refine⟨⟨fn,c,hf,hb,vD⟩,λ_ _ A w vs hA eP=>?_,λh=>(by cases h),λh=>(by cases h),λ_=>key⟩;refine(key A w vs hA eP).mono ?_;rintro e w' ⟨b,arr,T,fr,hw,rfl,_,_,_,_,gw⟩;exact⟨_,hw,[],rfl,fy.bot _ _,List.nodup_nil,(λb hb=>by cases hb),gw⟩;cases hy
end Go.Dn
