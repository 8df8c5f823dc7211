import Derived.Test.YtinkcmefgciifaaGreatDnAny
/- The soundness of the abstract semantics: code and functions. -/
namespace Go.Dn
open Go.RowKit
variable {P:Program} {C:Ctx} {st:AS} {a:Act} {w:World} {R:Type} {r:R}
variable {an:An} {Γ:Bx} {g:Gh} {Λ:nq} {f:Nat} {hw:Nat->Nat} {A:Rg} {rs:az (Bool×FT)} {ys:az (Bool×az AC)} {cs:az AC} {xs:az AV}
def I2:Exit->Ex->Prop
 | .normal,.normal=>True
 | .ret,.ret=>True
 | .exit i,.exit j=>i=j
 |_,_=>False
def MV (C:Ctx)(K:Ex->AS->aC R)(r:R)(e:Exit)(a:Act)(w:World):Prop:=
 ∃ex cc,I2 e ex/\pT C cc a w/\K ex cc=some r
theorem aeQ {E:Env}(hS:Sound P E Γ){id:Nat}{ops:Array Oper}{d:Bool}(h:pT C st a w){K:AS->aC R}(hk:UQ E Γ an id ops.toList d st K=some r){Q:Exit->Act->World->Prop}(hq:∀cc a' w',pT C cc a' w'->K cc=some r->Q .normal a' w'):(Code.region id ops d).wp P Q a w:=by
 unfold UQ at hk;split at hk;rw[Ot]at hk;cases ho:FJ E Γ an ops.toList d st some with|none=>rw[ho]at hk;cases hk|some st1=>rw[ho]at hk;exact ab3 hS h ho (λa' w' hs=>hq _ _ _ hs hk)
 rename_i s hm;split at hk;rename_i al2;rw[Ot]at hk;cases ho:FJ E Γ.calm an ops.toList d st some with|none=>rw[ho]at hk;cases hk|some st1=>rw[ho]at hk;simp only[fM]at hk;cases hb:getBool st1 s with|none=>rw[hb]at hk;cases hk|some b=>rw[hb]at hk;simp only[aa]at hk;have hn:=aer (ajk Γ) (λo M5=>aL.1 al2 o M5) ho;exact ab3 hS.calm h ho (λa' w' hs=>hq _ _ _ (hs.weaken hn hb) hk)
 cases hk
def AF (E:Env)(Γ:Bx)(an:An)(Λ:nq)(c:Code):Prop:=
 ∃n,∀(R:Type)(st:AS)(K:Ex->AS->aC R)(r:R),(Λ (fF c)).go st K=some r->CJ (an.mask (fF c)) (den E Γ an Λ c) n st K=some r
def YA (E:Env)(Γ:Bx)(an:An)(Λ:nq)(c:Code):Prop:=
 ∀(R:Type)(st:AS)(K:Ex->AS->aC R)(r:R),(Λ (FD c)).go st K=some r->den E Γ an Λ c st (λe cc=>K e (cc.mask (an.mask (FD c+1))))=some r
def BM (E:Env)(Γ:Bx)(an:An)(Λ:nq)(c:Code):Prop:=(∀c'∈jE c,AF E Γ an Λ c')/\∀c'∈mI an.cut c,YA E Γ an Λ c'
theorem afV (c:Code):mI [] c=[]:=by induction c with|seq a b iha ihb=>simp[mI,iha,ihb]|cond _ a b iha ihb=>simp[mI,iha,ihb]|block _ c ih=>simpa[mI]using ih|loop c ih=>simpa[mI]using ih|_=>rfl
theorem BM.of {E:Env}{c:Code}(h:∀c'∈jE c,AF E Γ an Λ c')(hc:an.cut=[]):BM E Γ an Λ c:=⟨h,by rw[hc,afV];simp⟩
theorem T1 {E:Env}(hS:Sound P E Γ):∀(c:Code)(_:BM E Γ an Λ c)(st:AS)(a:Act)(w:World)(K:Ex->AS->aC R),pT C st a w->den E Γ an Λ c st K=some r->c.wp P (MV C K r) a w:=by
 intro c;induction c with
 |skip=>intro GX st a w K h hk;exact wp_skip ⟨.normal,st,cM,h,hk⟩
 |region id ops d=>intro GX st a w K h hk;exact aeQ hS h (by simpa only[den]using hk) (λcc a' w' hs he=>⟨.normal,cc,cM,hs,he⟩)
 |seq x y ihx ihy=>
  intro GX st a w K h hk;have ihx:=ihx ⟨λc hc=>GX.1 c (by simp[jE,hc]),λc hc=>GX.2 c (by simp[mI,hc])⟩;have ihy:=ihy ⟨λc hc=>GX.1 c (by simp[jE,hc]),λc hc=>GX.2 c (by simp only[mI];cases an.cut.contains (fF y)<;>simp[hc])⟩;simp only[den]at hk;refine wp_seq (wp_mono (ihx st a w _ h hk) ?_);rintro e a' w' ⟨ex,cc,he,hs,FY⟩;cases e<;>cases ex<;>simp only[I2]at he;simp only at FY;cases gJ:an.cut.contains (fF y)with|false=>rw[gJ]at FY;exact ihy cc a' w' K hs FY|true=>rw[gJ]at FY;have hc:=GX.2 y (by simp only[mI,gJ];simp) _ _ _ _ FY;refine wp_mono (ihy _ a' w' _ (hs.mask _) hc) ?_;rintro e2 a2 w2 ⟨ex2,st2,he2,hs2,hk2⟩;exact⟨ex2,_,he2,hs2.mask _,hk2⟩
  exact⟨.exit _,cc,he,hs,FY⟩;exact⟨.ret,cc,cM,hs,FY⟩
 |cond c x y ihx ihy=>
  intro GX st a w K h hk;have ihx:=ihx ⟨λc hc=>GX.1 c (by simp[jE,hc]),λc hc=>GX.2 c (by simp[mI,hc])⟩;have ihy:=ihy ⟨λc hc=>GX.1 c (by simp[jE,hc]),λc hc=>GX.2 c (by simp[mI,hc])⟩;simp only[den]at hk;split at hk;rename_i t hc;have hv:a.eval c=.bool t:=by obtain⟨g,hg⟩:=h;have:=hg.rd c;rw[hc]at this;exact xf this
  cases t with|true=>exact wp_cond_true hv (ihx st a w K h hk)|false=>exact wp_cond_false hv (ihy st a w K h hk)
  cases hk
 |block id c ih=>intro GX st a w K h hk;have ih:=ih ⟨λc hc=>GX.1 c (by simpa[jE]using hc),λc hc=>GX.2 c (by simpa[mI]using hc)⟩;simp only[den]at hk;refine wp_block (wp_mono (ih st a w _ h hk) ?_);rintro e a' w' ⟨ex,cc,he,hs,FY⟩;cases e<;>cases ex<;>simp only[I2]at he;exact⟨.normal,cc,cM,hs,FY⟩;rename_i i j;subst he;simp only[Exit.inBlock];simp only at FY;by_cases hi:i=id;subst hi;rw[aJ rfl];simp only[fN,cr]at FY;exact⟨.normal,cc,cM,hs,FY⟩;rw[aI hi];rw[aI (by simpa using hi)]at FY;exact⟨.exit i,cc,rfl,hs,FY⟩;exact⟨.ret,cc,cM,hs,FY⟩
 |loop c ih=>
  intro GX st a w K h hk;have ih:=ih ⟨λc hc=>GX.1 c (by simp[jE,hc]),λc hc=>GX.2 c (by simpa[mI]using hc)⟩;obtain⟨n,hn⟩:=GX.1 c (by simp[jE]);simp only[den]at hk;intro b k cs
  have key:∀m st a w,pT C st a w->CJ (an.mask (fF c)) (den E Γ an Λ c) m st K=some r->
   ∃e a' w',MV C K r e a' w'/\Arrives P (lone (b.at a (.code c:: .inLoop c::k)) cs w) b k cs e a' w':=by
   intro m
   induction m with
   |zero=>intro st a w _ hk;cases hk
   |succ m ihm=>
    intro st a w h hk
    simp only[CJ]at hk
    obtain⟨e,YX,abE,⟨ex,cc,he,hs,FY⟩,MY⟩:=ih st a w _ h hk b (.inLoop c::k) cs
    cases e<;>cases ex<;>simp only[I2]at he
    ·obtain⟨alE,alw,amZ,ag8,Ug⟩:=ihm _ YX abE (hs.mask _) FY
     exact⟨alE,alw,amZ,ag8,.of_steps (Steps.trans MY (.one step_inLoop)) Ug⟩
    ·exact⟨.exit _,YX,abE,⟨.exit _,_,he,hs.mask _,FY⟩,.pass (x:=.inLoop c) rfl (λ_ _=> .inl (by simp)) MY⟩
    ·exact⟨.ret,YX,abE,⟨.ret,_,cM,hs.mask _,FY⟩,.pass (x:=.inLoop c) rfl (λ_ _=> .inl (by simp)) MY⟩
  cases hp:an.peel.contains (fF c)with
  |false=>rw[hp]at hk;obtain⟨e,a',w',hq,MY⟩:=key n _ a w (h.mask _) (hn _ _ _ _ hk);exact⟨e,a',w',hq,.of_steps (.one step_loop) MY⟩
  |true=>rw[hp]at hk;simp only[ah]at hk;obtain⟨e,YX,abE,⟨ex,cc,he,hs,FY⟩,MY⟩:=ih _ a w _ (h.mask _) hk b (.inLoop c::k) cs;cases e<;>cases ex<;>simp only[I2]at he;obtain⟨alE,alw,amZ,ag8,Ug⟩:=key n _ YX abE (hs.mask _) (hn _ _ _ _ FY);exact⟨alE,alw,amZ,ag8,.of_steps (Steps.trans (.one step_loop) (Steps.trans MY (.one step_inLoop))) Ug⟩;exact⟨.exit _,YX,abE,⟨.exit _,_,he,hs.mask _,FY⟩,.of_steps (.one step_loop) (.pass (x:=.inLoop c) rfl (λ_ _=> .inl (by simp)) MY)⟩;exact⟨.ret,YX,abE,⟨.ret,_,cM,hs.mask _,FY⟩,.of_steps (.one step_loop) (.pass (x:=.inLoop c) rfl (λ_ _=> .inl (by simp)) MY)⟩
 |exit id=>intro GX st a w K h hk;exact wp_exit ⟨.exit id,st,rfl,h,hk⟩
 |ret=>intro GX st a w K h hk;exact wp_ret ⟨.ret,st,cM,h,hk⟩
 |_=>intro GX st a w K h hk;simp[den]at hk
theorem HV:∀{vs:jT}{xs:az AV},rK A w vs xs->vs.length=xs.length/\∀(i:Nat)(x:AV),xs[i]?=some x->∃v,vs[i]?=some v/\iu (gT A (λ_=>0) w) v x []
 |[],[],_=>⟨rfl,by simp⟩
 |v::vs,x::xs,h=>by obtain⟨hl,hi⟩:=HV h.2;refine⟨by simp[hl],λi y hy=>?_⟩;cases i with|zero=>simp at hy;subst hy;exact⟨v,rfl,h.1⟩|succ i=>exact hi i y (by simpa using hy)
 |[],_::_,h=>h.elim
 |_::_,[],h=>h.elim
theorem LD (hA:∀k b o,A k b o->b<w.heap.size){fn:Func}{vs:jT}(h:rK A w vs xs): pT ⟨A,λ_=>False,w,[],λk b o hb=>⟨hA k b o hb,λf=>f⟩⟩ (start fn xs) {tmps:=vs.toArray++Array.replicate (fn.ntmps-vs.toArray.size) undef,defers:=[]} w:=by
 obtain⟨hl,hi⟩:=HV h;let C:Ctx:=⟨A,λ_=>False,w,[],λk b o hb=>⟨hA k b o hb,λf=>f⟩⟩
 let g:Gh:=⟨λ_=>0,λ_=>0,λ_=>none,λ_=>undef⟩
 have hle:(gT A (λ_=>0) w).Le (dp C g (start fn xs) w):=⟨rfl,λt ht=>ht.elim,λ_ _ _ _ _ hv=>hv,aX _,λs hs=>hs.elim,λ_ b o u ho hu=>⟨ho,hu⟩⟩
 refine⟨g,rfl,?_,?_,λi av hs=>?_,λs cs hs=>?_,λk v av hk=>by simp at hk,λb x hx=>(by cases hx),Fr.refl _ _,⟨[],rfl,by simp,by simp⟩⟩;simp[start,hl];simp[start];have Af:(xs++List.replicate (fn.ntmps-xs.length) AV.bot)[i]?=some av:=hs;rcases ca i xs.length with iz|BC;rw[bu iz]at Af;obtain⟨v,hv,hr⟩:=hi i av Af;refine⟨[],?_,by simp,by simp⟩;have hvv:(vs.toArray++Array.replicate (fn.ntmps-vs.toArray.size) undef).getD i undef=v:=by
  have ajy:i<vs.length:=by omega
  have KR:vs[i]=v:=by rw[aq ajy]at hv;exact bQ hv
  simp[dX,Array.getElem?_append,ajy,KR]
 show iu _ ((vs.toArray++Array.replicate (fn.ntmps-vs.toArray.size) undef).getD i undef) _ _;rw[hvv];exact hr.mono hle (by simp);rw[bE BC,eK]at Af;split at Af;cases Af;exact⟨[],iu.bot _ _,by simp,by simp⟩;cases Af;have Af:(List.replicate (xs.length+(fn.ntmps-xs.length)) (none:aC (az AC)))[s]?=some (some cs):=hs;rw[eK]at Af;split at Af<;>cases Af
theorem abx {v:Value}{x:AC}{fp:gk}(h:jh (dp C g st w) v x fp):jh (gT C.A g.hw w) v x.strip fp:=by
 cases x with
 |int k n=>exact h
 |bool b=>exact h
 |str s=>exact h
 |lj=>exact h
 |fn f=>exact h
 |un=>exact h
 |bot=>exact h
 |ptr s off=>exact h.2.2
 |C5 fl e y i off=>cases fl with|own t=>exact h.elim|nest _ _ _ _ _ _=>exact h.elim|part _ _ _ _=>exact h.elim|gH _ _ _=>exact h.elim|arg _=>exact h.1|loc ep pv=>exact h.1
 |sl fl e xs=>
  cases fl with
  |nest _ _ _ _ _ _=>exact h.1
  |part _ _ _ _=>exact h.1
  |gH _ _ _=>obtain⟨_,⟨k,hk,h3⟩,_⟩:=h;exact⟨λq hq=>(by cases hq),⟨k,hk,h3⟩,by simp⟩
  |own t=>exact⟨h.1,by simp⟩
  |arg _=>exact h
  |loc ep pv=>exact h.1
theorem zR:∀{vs:jT}{xs:az AC}{fp:gk},bT (dp C g st w) vs xs fp->bT (gT C.A g.hw w) vs (xs.map AC.strip) fp
 |[],[],_,h=>h
 |_::_,_::_,_,h=>by obtain⟨f1,f2,rfl,h1,h2⟩:=h;exact⟨f1,f2,rfl,abx h1,zR h2⟩
 |[],_::_,_,h=>h.elim
 |_::_,[],_,h=>h.elim
def EL (tmps:Array Value):ResultVar->Sem Value
 | .tmp t=>pure (tmps.getD t undef)
 | .cell a t=>do loadVar t (<-asAddr (tmps.getD a undef))
def AY:Bool×Nat->lI
 |(false,t)=> .slot t
 |(true,s)=> .box s
theorem Mj {x y:Bool×Nat}(h:AY x=AY y):x=y:=by rcases x with⟨_|_,a⟩<;>rcases y with⟨_|_,b⟩<;>simp[AY]at h<;>rw[h]
theorem aj7 {E:Env}(hE:kJ P E.ty)(h:eX C g st a w []){rv:ResultVar}{own:Bool×Nat}{gg:Bool}(hr:P5 st E rv=some (own,gg,cs)): ∃v vs fp,(EL a.tmps rv).run P w=.ok v w/\Cut gg v vs/\bT (gT C.A g.hw w) vs cs fp/\fp.Nodup/\∀b∈fp,g.fL b=some (AY own):=by
 cases rv with
 |tmp t=>simp only[P5]at hr;split at hr;rename_i g' sF pQ;cases hr;obtain⟨fp,ga,hn,hl⟩:=h.slot t;rw[pQ]at ga;obtain⟨vs,gJ,ga⟩:=ga;exact⟨_,vs,fp,rfl,gJ,zR ga,hn,hl⟩;cases hr
 |cell t T=>
  simp only[P5]at hr;split at hr;rename_i sh s off hT hp;cases lB:(nth st.boxes s).getD none with
  |none=>rw[lB]at hr;cases hr
  |some sF=>
   rw[lB]at hr;simp only[fM]at hr;split at hr;rename_i iW;cases hr;have lB:st.boxes[s]?=some (some sF):=by rw[eT]at lB;cases hq:st.boxes[s]? with|none=>rw[hq]at lB;simp at lB|some q=>rw[hq]at lB;simp at lB;rw[lB]
   obtain⟨fp0,wo,_,_⟩:=h.slot t;rw[hp]at wo;have wo:=CM wo;obtain⟨arr,T',fr,fp,lV,uj,ga,hn,xY,hl,IE,IH⟩:=h.boxes s sF lB;have hlen:=ga.length;obtain⟨v,fG,gJ⟩:=zH (hE T sh hT) (g.β s) off ((arr.toList.drop off).take sh.ct.size) (by simp at hlen⊢;omega) (RI lV off sh.ct.size);obtain⟨f1,f2,f3,rfl,r1,r2,r3⟩:=ga.mid off sh.ct.size;have KP:=(aO.1 (aO.1 hn).1).2.1;refine⟨v,_,f2,?_,gJ,zR r2,KP,λb hb=>hl b (by simp[hb])⟩;simp only[EL,wo,asAddr,Sem.run_bind,Sem.run_pure,Result.andThen_ok];exact fG;cases hr
  cases hr
theorem acC {E:Env}(hE:kJ P E.ty)(h:eX C g st a w [])(gf:ResultVar->Value):∀(rs:az ResultVar)(had:az (Bool×Nat))(ys:az (Bool×az AC)),uk st E had rs=some ys->
 (∀rv v,(EL a.tmps rv).run P w=.ok v w->gf rv=v)->
 (∀rv∈rs,(EL a.tmps rv).run P w=.ok (gf rv) w)/\∃fp,iu.sD (gT C.A g.hw w) (rs.map gf) ys fp/\fp.Nodup/\∀b∈fp,∃own,own∉had/\g.fL b=some (AY own)
 |[],had,ys,hr,hgf=>by cases hr;exact⟨by simp,[],rfl,by simp,by simp⟩
 |rv::rs,had,ys,hr,hgf=>by
  simp only[uk]at hr;cases h1:P5 st E rv with
  |none=>rw[h1]at hr;cases hr
  |some x=>
   obtain⟨own,gg,cs⟩:=x;rw[h1]at hr;simp only[fM]at hr;split at hr;cases hr;rename_i M4;have M4:own∉had:=by simpa using M4
   cases h2:uk st E (own::had) rs with|none=>rw[h2]at hr;cases hr|some xs=>rw[h2]at hr;simp only[fM,bw]at hr;subst hr;obtain⟨v,vs,td,fG,gJ,ga,KP,hl1⟩:=aj7 hE h h1;obtain⟨ahb,fp2,O2,Fv,BD⟩:=acC hE h gf rs (own::had) xs h2 hgf;have hv:=hgf rv v fG;refine⟨λrv' hm=>?_,td++fp2,⟨td,fp2,rfl,⟨vs,by rw[hv];exact gJ,ga⟩,O2⟩,?_,λb hb=>?_⟩;rcases cD.1 hm with rfl|hm;rw[hv];exact fG;exact ahb rv' hm;refine aO.2 ⟨KP,Fv,λb hb b' iB he=>?_⟩;subst he;obtain⟨aox,IG,FZ⟩:=BD b iB;rw[hl1 b hb]at FZ;have:=Mj (bQ FZ);subst this;exact IG (by simp);rcases ay.1 hb with hb|hb;exact⟨own,M4,hl1 b hb⟩;obtain⟨aox,IG,FZ⟩:=BD b hb;exact⟨aox,λhm=>IG (by simp[hm]),FZ⟩
theorem FK.adi {fl:FK}{f:sC}(h:fl.fits f=true):f=fl.flag:=by
 unfold FK.fits at h;split at h;rename_i t t';have:t=t':=by simpa using h
 subst this;rfl;rename_i k;have:k=false:=by simpa using h
 subst this;rfl;rename_i k;have:k=true:=h;subst this;rfl;rfl;rename_i j t j' t';simp only[ae,bn]at h;obtain⟨rfl,rfl⟩:=h;rfl;cases h
theorem zJ:∀{t:FT}{cs r:az AC}{x:t.ct.D},NA t cs=some (x,r)->cs=kM t x++r:=by
 intro t;induction t with
 |int k=>intro cs r x h;cases cs with|nil=>simp[NA]at h|cons y ys=>cases y<;>simp[NA]at h;obtain⟨rfl,rfl,rfl⟩:=h;rfl
 |bool=>intro cs r x h;cases cs with|nil=>simp[NA]at h|cons y ys=>cases y<;>simp[NA]at h;obtain⟨rfl,rfl⟩:=h;rfl
 |str=>intro cs r x h;cases cs with|nil=>simp[NA]at h|cons y ys=>cases y<;>simp[NA]at h;obtain⟨rfl,rfl⟩:=h;rfl
 |sl fl e=>
  intro cs r x h;cases cs with
  |nil=>simp[NA]at h
  |cons y ys=>
   cases y with
   |sl fl' e' xs=>
    simp only[NA]at h;split at h
    ·rename_i he;subst he;cases hf:fl.fits fl' with
     |false=>rw[hf]at h;cases h
     |true=>
      rw[hf]at h;cases h;rw[FK.adi hf];have hn:fl.isNil=false:=by cases fl<;>first|rfl|(unfold FK.fits at hf;cases hf)
      simp only[kM,hn,af];rfl
    cases h
   |lj=>simp only[NA]at h;cases hn:fl.isNil with|false=>rw[hn]at h;cases h|true=>rw[hn]at h;cases h;simp only[kM,hn,ah];rfl
   |_=>simp[NA]at h
 |pair a b iha ihb=>intro cs r x h;simp only[NA]at h;obtain⟨⟨x1,r1⟩,h1,h⟩:=aZ.1 h;obtain⟨⟨x2,r2⟩,h2,h⟩:=aZ.1 h;cases h;have h3:r1=kM b x2++r2:=ihb h2;rw[iha h1,h3];simp[kM]
theorem Mh:∀(rs:az (Bool×FT))(ys:az (Bool×az AC))(y:mA rs),nh rs ys=some y->ys=amP rs y
 |[],[],y,_=>rfl
 |[],_::_,y,h=>by simp[nh]at h
 |[(g,t)],ys,y,h=>by
  cases ys with
  |nil=>simp[nh]at h
  |cons p ys=>
   cases ys with
   |cons _ _=>simp[nh]at h
   |nil=>
    obtain⟨g',cs⟩:=p;simp only[nh]at h;cases hg:g==g' with
    |false=>rw[hg]at h;cases h
    |true=>
     rw[hg]at h;have:g=g':=by simpa using hg
     subst this;simp only[ah]at h;split at h;rename_i x hx;cases h;have:=zJ hx;rw[bB]at this;rw[this];rfl;cases h
 |(g,t)::p::r,ys,y,h=>by
  cases ys with
  |nil=>simp[nh]at h
  |cons q ys=>
   obtain⟨g',cs⟩:=q;simp only[nh]at h;cases hg:g==g' with
   |false=>rw[hg]at h;cases h
   |true=>
    rw[hg]at h;have:g=g':=by simpa using hg
    subst this;simp only[ah]at h;split at h;rename_i x hx;obtain⟨z,hz,h⟩:=aZ.1 h;cases h;have h1:=zJ hx;rw[bB]at h1;rw[h1,Mh (p::r) ys z hz];rfl;cases h
theorem Mt {E:Env}(hE:kJ P E.ty){fn:Func}{cc:AS}{a':Act}{w':World}(hg:eX C g cc a' w' []){had:az (Bool×Nat)}(Z9:uk cc E had fn.results.toList=some ys){y:mA rs}(ja:nh rs ys=some y): ∃v fp,(Go.results fn a'.tmps).run P w'=.ok v w'/\iu (gT C.A g.hw w') v (BN rs y) fp/\fp.Nodup/\∀b∈fp,∃own,own∉had/\g.fL b=some (AY own):=by
 have hys:=Mh rs ys y ja;let gf:ResultVar->Value:=λrv=>match (EL a'.tmps rv).run P w' with| .ok v _=>v|_=>undef
 obtain⟨ahb,fp,ga,GW,FZ⟩:=acC hE hg gf fn.results.toList had ys Z9 (λrv v hv=>by simp only[gf,hv]);have Z5:=EN (P:=P) (EL a'.tmps) gf w' fn.results (λx hx=>ahb x (by simpa using hx));have fG:(Go.results fn a'.tmps).run P w'=.ok (if h:(fn.results.map gf).size=1 then(fn.results.map gf)[0] else .tuple (fn.results.map gf)) w':=by
  have:Go.results fn a'.tmps=(do
   let vs<-fn.results.mapM (EL a'.tmps)
   pure (if h:vs.size=1 then vs[0] else .tuple vs)):=by
   unfold Go.results
   congr 1
  rw[this];simp only[Sem.run_bind,Z5,Result.andThen_ok,Sem.run_pure]
 refine⟨_,fp,fG,?_,GW,FZ⟩;have Ww:(fn.results.map gf).toList=fn.results.toList.map gf:=by simp
 unfold BN;rw[<-hys];cases ys with
 |nil=>
  have alT:fn.results.toList.map gf=[]:=by cases hm:fn.results.toList.map gf with|nil=>rfl|cons u us=>rw[hm]at ga;exact ga.elim
  have wq:¬(fn.results.map gf).size=1:=by rw[<-Array.length_toList,Ww,alT];simp
  rw[dif_neg wq];exact⟨_,by rw[<-Ww],ga⟩
 |cons y1 ys=>
  cases ys with
  |nil=>
   obtain⟨gg,cs⟩:=y1;cases hm:fn.results.toList.map gf with
   |nil=>rw[hm]at ga;exact ga.elim
   |cons u us=>
    rw[hm]at ga;obtain⟨f1,f2,rfl,Z7,vR⟩:=ga;cases us with
    |cons _ _=>exact vR.elim
    |nil=>
     cases vR;have MY:fn.results.map gf=#[u]:=by apply gj;rw[Ww,hm]
     have:(if h:(fn.results.map gf).size=1 then(fn.results.map gf)[0] else .tuple (fn.results.map gf))=u:=by rw[dif_pos (by rw[MY];rfl)];simp only[MY];rfl
     rw[this,bB];exact Z7
  |cons y2 ys=>
   have wq:¬(fn.results.map gf).size=1:=by rw[<-Array.length_toList,Ww];cases hm:fn.results.toList.map gf with|nil=>simp|cons u us=>rw[hm]at ga;obtain⟨f1,f2,rfl,Z7,vR⟩:=ga;cases us with|nil=>exact vR.elim|cons u2 us=>simp
   rw[dif_neg wq];exact⟨_,by rw[<-Ww],ga⟩
theorem P6 {E:Env}(hE:kJ P E.ty){fn:Func}{cc:AS}{a':Act}{w':World}(hg:eX C g cc a' w' [])(Z9:uk cc E [] fn.results.toList=some ys){y:mA rs}(ja:nh rs ys=some y): ∃v fp,(Go.results fn a'.tmps).run P w'=.ok v w'/\iu (gT C.A g.hw w') v (BN rs y) fp/\fp.Nodup/\∀b∈fp,∃own,g.fL b=some (AY own):=by obtain⟨v,fp,h1,h2,h3,h4⟩:=Mt hE hg Z9 ja;exact⟨v,fp,h1,h2,h3,λb hb=>(h4 b hb).imp λ_ h=>h.2⟩
theorem adm {E:Env}{rs:az (Bool×FT)}(hS:Sound P E Γ){fn:Func}(hf:P.funcs[f]?=some fn)(DK:(fn.name== "runtime.NumGoroutine")=false)(GX:BM E Γ an Λ (fn.body.getD .skip)):jj P f {R:=mA rs,fn:=FL E Γ an Λ fn rs,av:=BN rs}:=by
 intro xs y hy;simp only at hy;unfold FL at hy;cases hb:fn.body with
 |none=>rw[hb]at hy;cases hy
 |some c=>
  rw[hb]at hy;simp only at hy;split at hy;refine⟨⟨fn,c,hf,hb,DK⟩,λ_ _ A w vs hA il=>?_,λh=>(by cases h),λh=>(by cases h),λh=>(by cases h)⟩;refine calls_of_wp hf hb (wp_mono (T1 hS c (by rw[hb]at GX;exact GX) _ _ _ _ (LD hA il) hy) ?_);rintro e a' w' ⟨ex,cc,he,hs,hk⟩;have main:aa (uk cc E [] fn.results.toList) (nh rs)=some y->a'.defers=[]/\∃v,(Go.results fn a'.tmps).run P w'=.ok v w'/\∃v_1 hw fp,Ending.returned v=Ending.returned v_1/\iu (gT A hw w') v_1 (BN rs y) fp/\fp.Nodup/\(∀b∈fp,w.heap.size<=b/\b<w'.heap.size)/\Fr (λ_=>False) w w':=by intro ja;obtain⟨g,hg⟩:=hs;refine⟨hg.defers,?_⟩;cases Z9:uk cc E [] fn.results.toList with|none=>rw[Z9]at ja;cases ja|some ys=>rw[Z9]at ja;obtain⟨v,fp,fG,ga,GW,FZ⟩:=P6 hS.ty hg Z9 ja;refine⟨v,fG,v,g.hw,fp,rfl,ga,GW,λb hb=>?_,hg.frame⟩;obtain⟨own,hl⟩:=FZ b hb;have:=hg.iw b _ hl;exact⟨this.2.resolve_right (λf=>f),this.1⟩
  cases e<;>cases ex<;>simp only[I2]at he;exact main hk;cases hk;exact main hk;cases hy
theorem Wd {E:Env}{QL:az (Bool×FT)}(h2:mA QL=mA rs)(hS:Sound P E Γ){fn:Func}(hf:P.funcs[f]?=some fn)(DK:(fn.name== "runtime.NumGoroutine")=false)(GX:BM E Γ an Λ (fn.body.getD .skip)):jj P f {R:=Bool×mA rs,fn:=evalAlt E Γ an Λ fn rs QL h2,av:=λy=>BN rs y.2,sel:=λy=>y.1,alt:=λy=>BN QL (cast h2.symm y.2)}:=by
 intro xs y hy;simp only at hy;unfold evalAlt at hy;cases hb:fn.body with
 |none=>rw[hb]at hy;cases hy
 |some c=>
  rw[hb]at hy;simp only at hy;split at hy;refine⟨⟨fn,c,hf,hb,DK⟩,λ_ _ A w vs hA il=>?_,λh=>(by cases h),λh=>(by cases h),λh=>(by cases h)⟩;refine calls_of_wp hf hb (wp_mono (T1 hS c (by rw[hb]at GX;exact GX) _ _ _ _ (LD hA il) hy) ?_);rintro e a' w' ⟨ex,cc,he,hs,hk⟩
  have main:(aa (uk cc E [] fn.results.toList) λys=>match nh rs ys with
   |some y=>some (true,y)
   |none=>match nh QL ys with
    |some y=>some (false,cast h2 y)
    |none=>none)=some y->a'.defers=[]/\∃v,(Go.results fn a'.tmps).run P w'=.ok v w'/\∃v_1 hw fp,Ending.returned v=Ending.returned v_1/\
   iu (gT A hw w') v_1 (cond y.1 (BN rs y.2) (BN QL (cast h2.symm y.2))) fp/\fp.Nodup/\(∀b∈fp,w.heap.size<=b/\b<w'.heap.size)/\Fr (λ_=>False) w w':=by
   intro ja
   obtain⟨g,hg⟩:=hs
   refine⟨hg.defers,?_⟩
   cases Z9:uk cc E [] fn.results.toList with
   |none=>rw[Z9]at ja;cases ja
   |some ys=>
    rw[Z9]at ja
    simp only[aa]at ja
    have fin:∀(rs':az (Bool×FT))(y':mA rs'),nh rs' ys=some y'->∃v,(Go.results fn a'.tmps).run P w'=.ok v w'/\∃v_1 hw fp,Ending.returned v=Ending.returned v_1/\
     iu (gT A hw w') v_1 (BN rs' y') fp/\fp.Nodup/\(∀b∈fp,w.heap.size<=b/\b<w'.heap.size)/\Fr (λ_=>False) w w':=by
     intro rs' y' Vs
     obtain⟨v,fp,fG,ga,GW,FZ⟩:=P6 hS.ty hg Z9 Vs
     refine⟨v,fG,v,g.hw,fp,rfl,ga,GW,λb hb=>?_,hg.frame⟩
     obtain⟨own,hl⟩:=FZ b hb
     have:=hg.iw b _ hl
     exact⟨this.2.resolve_right (λf=>f),this.1⟩
    cases h1:nh rs ys with
    |some y1=>rw[h1]at ja;cases ja;exact fin rs y1 h1
    |none=>
     rw[h1]at ja
     simp only at ja
     cases h3:nh QL ys with
     |none=>rw[h3]at ja;cases ja
     |some y1=>
      rw[h3]at ja
      cases ja
      simp only[af,cast_cast,cast_eq]
      exact fin QL y1 h3
  cases e<;>cases ex<;>simp only[I2]at he;exact main hk;cases hk;exact main hk;cases hy
theorem ac1 {c:RC}(hcA:c.A=A)(Vr:c.w=w)(Hl:c.hw=hw)(M0:∀t,t%3=1->c.iss t){all:jT}(QZ:∀t,c.hdr t=(all[t/3]?).getD undef):
 ∀(j:Nat){vs:jT}{cs:az AC}{fp:gk},bT (gT A hw w) vs cs fp->cs.all (AC.Aw true)=true->(∀i v,vs[i]?=some v->all[j+i]?=some v)->bT c vs (IS j cs) fp:=by
 intro j vs
 induction vs generalizing j with
 |nil=>intro cs fp h _ _;cases cs with
  |nil=>exact h
  |cons _ _=>exact h.elim
 |cons v vs ih=>
  intro cs fp h pR Cn
  cases cs with
  |nil=>exact h.elim
  |cons x cs=>
   obtain⟨f1,f2,rfl,h1,h2⟩:=h
   simp only[cw,ae]at pR
   have i1:=ih (j+1) h2 pR.2 (λi u hu=>by rw[show j+1+i=j+(i+1) by omega];exact Cn (i+1) u (by simpa using hu))
   have O4:=Cn 0 v rfl
   rw[eE]at O4
   have Hk:x.kP=true->IS j (x::cs)=x::IS (j+1) cs->bT c (v::vs) (IS j (x::cs)) (f1++f2):=by rintro hf e1;obtain⟨rfl,k⟩:=tp (c':=c) h1 hf;rw[e1];exact⟨[],f2,rfl,k,i1⟩
   cases x with
   |sl fl e xs=>
    cases fl with
    |own t=>
     have jl:gG c.hw c.w (.sl e) [v] xs f1:=by rw[Hl,Vr];exact h1.1
     refine⟨f1,f2,rfl,⟨jl,λq hq=>?_⟩,i1⟩
     cases hq
     refine⟨M0 _ (by omega),?_⟩
     rw[QZ,show(3*j+1)/3=j by omega,O4];rfl
    |arg k=>
     have hk:k=true:=by simpa[AC.Aw]using pR.1
     subst hk
     exact⟨f1,f2,rfl,⟨h1.1,by rw[Vr,hcA];exact h1.2⟩,i1⟩
    |loc ep pv=>cases pR.1
    |nest _ _ _ _ _ _=>cases pR.1
    |part _ _ _ _=>cases pR.1
    |gH _ _ _=>cases pR.1
   |int k n=>exact Hk rfl rfl
   |bool b=>exact Hk rfl rfl
   |str s=>exact Hk rfl rfl
   |fn f=>exact Hk rfl rfl
   |lj=>cases pR.1
   |ptr s off=>cases pR.1
   |C5 fl e y i off=>cases pR.1
   |un=>cases pR.1
   |bot=>cases pR.1
theorem U7 {fp:gk}{b:Nat}(hA:∀k b' o,A k b' o->b'<w.heap.size/\b'≠b/\b'∉fp){fn:Func}{vs:jT}{arr:Array Value}{T:TypeId}{fr:Nat×Nat}(lV:w.heap[b]?=some (.cells arr T fr))(uj:rH arr fr)(ga:bT (gT A hw w) arr.toList cs fp)(pR:cs.all (AC.Aw true)=true)(hn:fp.Nodup)(xY:b∉fp)(iz:∀b'∈fp,b'<w.heap.size)(IH:hw b=0)(h:rK A w vs xs): pT ⟨A,λb'=>b'=b\/b'∈fp,w,[.pointer (some ⟨b,0,none⟩)],λk b' o hb=>⟨(hA k b' o hb).1,λhm=>hm.elim (hA k b' o hb).2.1 (hA k b' o hb).2.2⟩⟩ (Ci fn cs xs) {tmps:=(.pointer (some ⟨b,0,none⟩)::vs).toArray++Array.replicate (fn.ntmps-(Value.pointer (some ⟨b,0,none⟩)::vs).toArray.size) undef,defers:=[]} w:=by
 obtain⟨hl,hi⟩:=HV h;let v0:Value:=.pointer (some ⟨b,0,none⟩);let C:Ctx:=⟨A,λb'=>b'=b\/b'∈fp,w,[v0],λk b' o hb=>⟨(hA k b' o hb).1,λhm=>hm.elim (hA k b' o hb).2.1 (hA k b' o hb).2.2⟩⟩
 let g:Gh:=⟨hw,λ_=>b,λb'=>if b'=b\/b'∈fp then some (.box 0) else none,λt=>(arr.toList[t/3]?).getD undef⟩
 have Hv:=nN lV;have wG:ky (Ci fn cs xs) 0:=⟨IS 0 cs,rfl⟩
 have hle:(gT A (λ_=>0) w).Le (dp C g (Ci fn cs xs) w):=⟨rfl,λt ht=>ht.elim,λ_ _ _ _ _ hv=>hv,aX _,λs hs=>hs.elim,λ_ b o u ho _=>absurd ho (Nat.not_lt_zero _)⟩
 have k1:=ac1 (c:=dp C g (Ci fn cs xs) w) (A:=A) rfl rfl rfl (λt ht=> .inl (by omega)) (all:=arr.toList) (λt=>rfl) 0 ga pR (λi v hv=>by rw[cP];exact hv);refine⟨g,rfl,?_,?_,λi av hs=>?_,λs sF hs=>?_,λk v av hk=>by simp at hk,λb' x hx=>?_,Fr.refl _ _,⟨[],⟨[],[],rfl,⟨rfl,wG,rfl⟩,rfl⟩,by simp,by simp⟩⟩;simp[Ci,start,hl];omega;simp[Ci,start];have Af:((.one (.ptr 0 0)::xs)++List.replicate (fn.ntmps-(AV.one (.ptr 0 0)::xs).length) AV.bot)[i]?=some av:=hs;rcases ca i (xs.length+1)with ajy|BC;rw[bu (by simpa using ajy)]at Af;cases i with
 |zero=>
  simp at Af;subst Af;refine⟨[],?_,by simp,by simp⟩;have hvv:((v0::vs).toArray++Array.replicate (fn.ntmps-(v0::vs).toArray.size) undef).getD 0 undef=v0:=by simp[dX,Array.getElem?_append]
  show iu _ (((v0::vs).toArray++Array.replicate (fn.ntmps-(v0::vs).toArray.size) undef).getD 0 undef) _ _;rw[hvv];exact oc ⟨rfl,wG,rfl⟩
 |succ i=>
  obtain⟨v,hv,hr⟩:=hi i av (by simpa using Af);refine⟨[],?_,by simp,by simp⟩;have hvv:((v0::vs).toArray++Array.replicate (fn.ntmps-(v0::vs).toArray.size) undef).getD (i+1) undef=v:=by
   have anU:i<vs.length:=by omega
   have KR:vs[i]=v:=by rw[aq anU]at hv;exact bQ hv
   simp[dX,Array.getElem?_append,anU,KR]
  show iu _ (((v0::vs).toArray++Array.replicate (fn.ntmps-(v0::vs).toArray.size) undef).getD (i+1) undef) _ _;rw[hvv];exact hr.mono hle (by simp)
 rw[bE (by simpa using BC),eK]at Af;split at Af;cases Af;exact⟨[],iu.bot _ _,by simp,by simp⟩;cases Af;have Af:(some (IS 0 cs)::List.replicate (xs.length+(fn.ntmps-(xs.length+1))) (none:aC (az AC)))[s]?=some (some sF):=hs;cases s with|zero=>simp at Af;subst Af;refine⟨arr,T,fr,fp,lV,uj,k1,hn,xY,λb' iB=>?_,?_,IH⟩;show(if b'=b\/b'∈fp then _ else _)=_;rw[aJ (.inr iB)];show(if b=b\/b∈fp then _ else _)=_;rw[aJ (.inl rfl)]|succ s=>simp only[fW,eK]at Af;split at Af<;>cases Af
 have BE:(if b'=b\/b'∈fp then some (lI.box 0) else none)=some x:=hx;split at BE;rename_i hm;rcases hm with rfl|hm;exact⟨Hv,.inr (.inl rfl)⟩;exact⟨iz b' hm,.inr (.inr hm)⟩;cases BE
theorem rM {E:Env}{rs:az (Bool×FT)}{t:FT}(hS:Sound P E Γ){fn:Func}(hf:P.funcs[f]?=some fn)(DK:(fn.name== "runtime.NumGoroutine")=false)(GX:BM E Γ an Λ (fn.body.getD .skip)):jj P f {R:=mA rs×t.ct.D,fn:=ab2 E Γ an Λ fn rs t,av:=λy=>BN rs y.1,back:=λy=>kM t y.2,bx:=true}:=by
 intro xs y hy;simp only at hy;unfold ab2 at hy;split at hy;rename_i c cs rest hb;split at hy;rename_i hlen;refine⟨⟨fn,c,hf,hb,DK⟩,λ_ h=>(by cases h),λh=>(by cases h),λ_ RN aoy he A w b vs arr T fr hw fp hA lV uj ga hn xY iz IH il=>?_,λh=>(by cases h)⟩;injection he with he1 he2;injection he1 with _ he3;subst he2;subst he3;refine calls_of_wp hf hb (wp_mono (T1 hS c (by rw[hb]at GX;exact GX) _ _ _ _ (U7 (fn:=fn) hA lV uj ga hlen.2 hn xY iz IH il) hy) ?_);rintro e a' w' ⟨ex,cc,he,hs,hk⟩
 have main:(aa (aa (uk cc E [(true,0)] fn.results.toList) (nh rs)) λr=>match cc.io,cc.boxes with
  |[.ptr 0 0],some sF::_=>(match NA t (sF.map AC.strip)with|some (x,[])=>some (r,x)|_=>none)
  |_,_=>none)=some y->
  a'.defers=[]/\∃v,(Go.results fn a'.tmps).run P w'=.ok v w'/\∃v_1 hw' fv kl T' LY lT,Ending.returned v=Ending.returned v_1/\iu (gT A hw' w') v_1 (BN rs y.1) fv/\w'.heap[b]?=some (.cells kl T' LY)/\rH kl LY/\
    bT (gT A hw' w') kl.toList (kM t y.2) lT/\lT.Nodup/\b∉lT/\(∀b'∈lT,b'<w'.heap.size/\(b'∈fp\/w.heap.size<=b'))/\fv.Nodup/\(∀b'∈fv,b'<w'.heap.size/\(b'∈fp\/w.heap.size<=b')/\b'∉lT/\b'≠b)/\Fr (λb'=>b'=b\/b'∈fp) w w':=by
  intro ja
  obtain⟨g,hg⟩:=hs
  refine⟨hg.defers,?_⟩
  cases Z9:uk cc E [(true,0)] fn.results.toList with
  |none=>rw[Z9]at ja;cases ja
  |some ys=>
   rw[Z9]at ja
   simp only[aa]at ja
   cases hrr:nh rs ys with
   |none=>rw[hrr]at ja;cases ja
   |some r0=>
    rw[hrr]at ja
    simp only at ja
    split at ja
    ·rename_i sF tl Q1 lB
     split at ja
     ·rename_i x hx
      cases ja
      obtain⟨v,fv,fG,xZ,GW,FZ⟩:=Mt hS.ty hg Z9 hrr
      obtain⟨fpi,hri,_,_⟩:=hg.io
      rw[Q1]at hri
      obtain⟨g1,g2,_,asF,_⟩:=hri
      have KS:b=g.β 0:=by have:=asF.1;simp only[Value.pointer.injEq,bw,Addr.mk.injEq]at this;exact this.1
      obtain⟨kl,T',LY,lT,Ja,WC,hr',Eb,Jc,hl',anQ,_⟩:=hg.boxes 0 sF (by rw[lB];rfl)
      rw[<-KS]at Ja Jc anQ
      have oB:=zR hr'
      have KQ:=zJ hx
      rw[bB]at KQ
      rw[KQ]at oB
      have hM:∀b',(w.heap.size<=b'\/(b'=b\/b'∈fp))->b'≠b->b'∈fp\/w.heap.size<=b':=by rintro b' (h2|h2|h2) Ec;exact .inr h2;exact absurd h2 Ec;exact .inl h2
      refine⟨v,fG,v,g.hw,fv,kl,T',LY,lT,rfl,xZ,Ja,WC,oB,Eb,Jc,λb' iB=>?_,GW,λb' iB=>?_,hg.frame⟩
      ·have:=hg.iw b' _ (hl' b' iB)
       exact⟨this.1,hM b' this.2 (λe=>Jc (e▸iB))⟩
      ·obtain⟨own,M4,R8⟩:=FZ b' iB
       have IG:g.fL b'≠some (.box 0):=by rw[R8];intro e;have e2:AY own=AY (true,0):=bQ e;exact M4 (by rw[Mj e2];simp)
       have Ec:b'≠b:=λe=>IG (by rw[e];exact anQ)
       have:=hg.iw b' _ R8
       exact⟨this.1,hM b' this.2 Ec,λhm=>IG (hl' b' hm),Ec⟩
     ·cases ja
    ·cases ja
 cases e<;>cases ex<;>simp only[I2]at he;exact main hk;cases hk;exact main hk;cases hy;cases hy
theorem anA {E:Env}{t:FT}(hS:Sound P E Γ){fn:Func}(hf:P.funcs[f]?=some fn)(DK:(fn.name== "runtime.NumGoroutine")=false)(GX:BM E Γ an Λ (fn.body.getD .skip)):jj P f {R:=t.ct.D,fn:=T5 E Γ an Λ fn t,av:=λ_=> .bot,back:=λy=>kM t y,pr:=true}:=by
 intro xs y hy;simp only at hy;unfold T5 at hy;cases hb:fn.body with
 |none=>rw[hb]at hy;cases hy
 |some c=>
  rw[hb]at hy;simp only at hy;split at hy;have key:akB P f {R:=t.ct.D,fn:=T5 E Γ an Λ fn t,av:=λ_=> .bot,back:=λy=>kM t y,pr:=true} y xs:=by
   intro A w vs hA il;refine calls_of_wp hf hb (wp_mono (T1 hS c (by rw[hb]at GX;exact GX) _ _ _ _ (LD hA il) hy) ?_);rintro e a' w' ⟨ex,cc,he,hs,hk⟩
   have main:(match fn.results.toList with
    |[.tmp i]=>match cc.get i with
     | .val false [.ptr s 0]=>match (nth cc.boxes s).getD none with
       |some cs=>if cs.all AC.Ky=true then(match NA t (cs.map AC.strip)with|some (x,[])=>some x|_=>none) else none
       |none=>none
     |_=>none
    |_=>none)=some y->a'.defers=[]/\∃v,(Go.results fn a'.tmps).run P w'=.ok v w'/\∃b arr T fr hw,Ending.returned v=.returned (.pointer (some ⟨b,0,none⟩))/\w.heap.size<=b/\w'.heap[b]?=some (.cells arr T fr)/\rH arr fr/\bT (gT A hw w') arr.toList (kM t y) []/\Fr (λ_=>False) w w':=by
    intro ja
    obtain⟨g,hg⟩:=hs
    refine⟨hg.defers,?_⟩
    split at ja
    ·rename_i i hri
     split at ja
     ·rename_i s hp
      cases lB:(nth cc.boxes s).getD none with
      |none=>rw[lB]at ja;cases ja
      |some cs=>
       rw[lB]at ja
       simp only at ja
       split at ja
       ·rename_i pR
        split at ja
        ·rename_i x hx
         cases ja
         have lB:cc.boxes[s]?=some (some cs):=by rw[eT]at lB;cases hq:cc.boxes[s]? with|none=>rw[hq]at lB;simp at lB|some q=>rw[hq]at lB;simp at lB;rw[lB]
         obtain⟨fp0,wo,_,_⟩:=hg.slot i
         rw[hp]at wo
         have wo:=CM wo
         obtain⟨arr,T,fr,fp,lV,uj,ga,hn,xY,hl,IE,IH⟩:=hg.boxes s cs lB
         obtain⟨Fh,vs,gJ,O2⟩:=arg_val (c:=dp _ g cc w') (c':=dp _ g cc w') rfl rfl (v:=.agg arr.toList.toArray) (x:=.val true cs) ⟨arr.toList,rfl,ga⟩ pR
         have hvs:arr.toList=vs:=by have gJ:Value.agg arr.toList.toArray=.agg vs.toArray:=gJ;simp only[Value.agg.injEq]at gJ;simpa using congrArg Array.toList gJ
         rw[<-hvs]at O2
         have oB:=zR O2
         have KQ:=zJ hx
         rw[bB]at KQ
         rw[KQ]at oB
         have fG:(Go.results fn a'.tmps).run P w'=.ok (a'.tmps.getD i undef) w':=by
          have he:fn.results=#[.tmp i]:=by apply gj;exact hri
          have Z5:=EN (P:=P) (EL a'.tmps) (λ_=>a'.tmps.getD i undef) w' fn.results (λx hx=>by rw[he]at hx;simp at hx;subst hx;rfl)
          have hd:Go.results fn a'.tmps=(do
           let vs<-fn.results.mapM (EL a'.tmps)
           pure (if h:vs.size=1 then vs[0] else .tuple vs)):=by
           unfold Go.results
           congr 1
          rw[hd];simp only[Sem.run_bind,Z5,Result.andThen_ok,Sem.run_pure];rw[he];simp
         refine⟨_,fG,g.β s,arr,T,fr,g.hw,congrArg Ending.returned wo,?_,lV,uj,oB,hg.frame⟩
         exact(hg.iw _ _ IE).2.resolve_right (λf=>f)
        ·cases ja
       ·cases ja
     ·cases ja
    ·cases ja
   cases e<;>cases ex<;>simp only[I2]at he;exact main hk;cases hk;exact main hk
  refine⟨⟨fn,c,hf,hb,DK⟩,λ_ _ A w vs hA il=>?_,λh=>(by cases h),λh=>(by cases h),λ_=>key⟩;refine(key A w vs hA il).mono ?_;rintro e w' ⟨b,arr,T,fr,hw,rfl,_,_,_,_,kB⟩;exact⟨_,hw,[],rfl,iu.bot _ _,List.nodup_nil,(λb hb=>by cases hb),kB⟩;cases hy
end Go.Dn
