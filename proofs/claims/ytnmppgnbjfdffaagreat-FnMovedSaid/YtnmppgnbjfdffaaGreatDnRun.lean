import Derived.Test.YtnmppgnbjfdffaaGreatDnAny
/- The soundness of the abstract semantics: code and functions. -/
namespace Go.Dn
open Go.RowKit
variable {P:Program} {C:Ctx} {st:AS} {a:Act} {w:World} {R:Type} {r:R}
variable {an:An} {Γ:xT} {g:Gh} {Λ:kZ} {f:Nat} {hw:Nat->Nat} {A:Rg} {rs:aw (Bool×FT)} {ys:aw (Bool×aw AC)} {cs:aw AC} {xs:aw AV}
def Fx:Exit->Ex->Prop
 | .normal,.normal=>True
 | .ret,.ret=>True
 | .exit i,.exit j=>i=j
 |_,_=>False
def aiF (C:Ctx)(K:Ex->AS->ax R)(r:R)(e:Exit)(a:Act)(w:World):Prop:=
 ∃ex bH,Fx e ex/\np C bH a w/\K ex bH=some r
theorem Z3 {E:Env}(hS:Sound P E Γ){id:Nat}{ops:Array Oper}{d:Bool}(h:np C st a w){K:AS->ax R}(hk:PX E Γ an id ops.toList d st K=some r){Q:Exit->Act->World->Prop}(hq:∀bH a' w',np C bH a' w'->K bH=some r->Q .normal a' w'):(Code.region id ops d).wp P Q a w:=by
 unfold PX at hk;split at hk;rw[J9]at hk;cases ho:Ch E Γ an ops.toList d st some with|none=>rw[ho]at hk;cases hk|some st1=>rw[ho]at hk;exact W2 hS h ho (λa' w' hs=>hq _ _ _ hs hk)
 rename_i s hm;split at hk;rename_i ahi;rw[J9]at hk;cases ho:Ch E Γ.calm an ops.toList d st some with|none=>rw[ho]at hk;cases hk|some st1=>rw[ho]at hk;simp only[eo]at hk;cases hb:getBool st1 s with|none=>rw[hb]at hk;cases hk|some b=>rw[hb]at hk;simp only[aa]at hk;have hn:=ZD (aep Γ) (λo I9=>aG.1 ahi o I9) ho;exact W2 hS.calm h ho (λa' w' hs=>hq _ _ _ (hs.weaken hn hb) hk)
 cases hk
def xU (E:Env)(Γ:xT)(an:An)(Λ:kZ)(c:Code):Prop:=
 ∃n,∀(R:Type)(st:AS)(K:Ex->AS->ax R)(r:R),(Λ (ed c)).go st K=some r->zv (an.mask (ed c)) (den E Γ an Λ c) n st K=some r
def TF (E:Env)(Γ:xT)(an:An)(Λ:kZ)(c:Code):Prop:=
 ∀(R:Type)(st:AS)(K:Ex->AS->ax R)(r:R),(Λ (B8 c)).go st K=some r->den E Γ an Λ c st (λe bH=>K e (bH.mask (an.mask (B8 c+1))))=some r
def yf (E:Env)(Γ:xT)(an:An)(Λ:kZ)(c:Code):Prop:=(∀c'∈gX c,xU E Γ an Λ c')/\∀c'∈ks an.cut c,TF E Γ an Λ c'
theorem aa5 (c:Code):ks [] c=[]:=by induction c with|seq a b iha ihb=>simp[ks,iha,ihb]|cond _ a b iha ihb=>simp[ks,iha,ihb]|block _ c ih=>simpa[ks]using ih|loop c ih=>simpa[ks]using ih|_=>rfl
theorem yf.of {E:Env}{c:Code}(h:∀c'∈gX c,xU E Γ an Λ c')(hc:an.cut=[]):yf E Γ an Λ c:=⟨h,by rw[hc,aa5];simp⟩
theorem OW {E:Env}(hS:Sound P E Γ):∀(c:Code)(_:yf E Γ an Λ c)(st:AS)(a:Act)(w:World)(K:Ex->AS->ax R),np C st a w->den E Γ an Λ c st K=some r->c.wp P (aiF C K r) a w:=by
 intro c;induction c with
 |skip=>intro Ds st a w K h hk;exact wp_skip ⟨.normal,st,cv,h,hk⟩
 |region id ops d=>intro Ds st a w K h hk;exact Z3 hS h (by simpa only[den]using hk) (λbH a' w' hs he=>⟨.normal,bH,cv,hs,he⟩)
 |seq x y ihx ihy=>
  intro Ds st a w K h hk;have ihx:=ihx ⟨λc hc=>Ds.1 c (by simp[gX,hc]),λc hc=>Ds.2 c (by simp[ks,hc])⟩;have ihy:=ihy ⟨λc hc=>Ds.1 c (by simp[gX,hc]),λc hc=>Ds.2 c (by simp only[ks];cases an.cut.contains (ed y)<;>simp[hc])⟩;simp only[den]at hk;refine wp_seq (wp_mono (ihx st a w _ h hk) ?_);rintro e a' w' ⟨ex,bH,he,hs,Cv⟩;cases e<;>cases ex<;>simp only[Fx]at he;simp only at Cv;cases fi:an.cut.contains (ed y)with|false=>rw[fi]at Cv;exact ihy bH a' w' K hs Cv|true=>rw[fi]at Cv;have hc:=Ds.2 y (by simp only[ks,fi];simp) _ _ _ _ Cv;refine wp_mono (ihy _ a' w' _ (hs.mask _) hc) ?_;rintro e2 a2 w2 ⟨ex2,st2,he2,hs2,hk2⟩;exact⟨ex2,_,he2,hs2.mask _,hk2⟩
  exact⟨.exit _,bH,he,hs,Cv⟩;exact⟨.ret,bH,cv,hs,Cv⟩
 |cond c x y ihx ihy=>
  intro Ds st a w K h hk;have ihx:=ihx ⟨λc hc=>Ds.1 c (by simp[gX,hc]),λc hc=>Ds.2 c (by simp[ks,hc])⟩;have ihy:=ihy ⟨λc hc=>Ds.1 c (by simp[gX,hc]),λc hc=>Ds.2 c (by simp[ks,hc])⟩;simp only[den]at hk;split at hk;rename_i t hc;have hv:a.eval c=.bool t:=by obtain⟨g,hg⟩:=h;have:=hg.rd c;rw[hc]at this;exact tY this
  cases t with|true=>exact wp_cond_true hv (ihx st a w K h hk)|false=>exact wp_cond_false hv (ihy st a w K h hk)
  cases hk
 |block id c ih=>intro Ds st a w K h hk;have ih:=ih ⟨λc hc=>Ds.1 c (by simpa[gX]using hc),λc hc=>Ds.2 c (by simpa[ks]using hc)⟩;simp only[den]at hk;refine wp_block (wp_mono (ih st a w _ h hk) ?_);rintro e a' w' ⟨ex,bH,he,hs,Cv⟩;cases e<;>cases ex<;>simp only[Fx]at he;exact⟨.normal,bH,cv,hs,Cv⟩;rename_i i j;subst he;simp only[Exit.inBlock];simp only at Cv;by_cases hi:i=id;subst hi;rw[aE rfl];simp only[beq_self_eq_true,bN]at Cv;exact⟨.normal,bH,cv,hs,Cv⟩;rw[aH hi];rw[aH (by simpa using hi)]at Cv;exact⟨.exit i,bH,rfl,hs,Cv⟩;exact⟨.ret,bH,cv,hs,Cv⟩
 |loop c ih=>
  intro Ds st a w K h hk;have ih:=ih ⟨λc hc=>Ds.1 c (by simp[gX,hc]),λc hc=>Ds.2 c (by simpa[ks]using hc)⟩;obtain⟨n,hn⟩:=Ds.1 c (by simp[gX]);simp only[den]at hk;intro b k cs
  have key:∀m st a w,np C st a w->zv (an.mask (ed c)) (den E Γ an Λ c) m st K=some r->
   ∃e a' w',aiF C K r e a' w'/\Arrives P (lone (b.at a (.code c:: .inLoop c::k)) cs w) b k cs e a' w':=by
   intro m
   induction m with
   |zero=>intro st a w _ hk;cases hk
   |succ m ihm=>
    intro st a w h hk
    simp only[zv]at hk
    obtain⟨e,TW,Wz,⟨ex,bH,he,hs,Cv⟩,I6⟩:=ih st a w _ h hk b (.inLoop c::k) cs
    cases e<;>cases ex<;>simp only[Fx]at he
    ·obtain⟨agN,agF,aid,acb,Pa⟩:=ihm _ TW Wz (hs.mask _) Cv
     exact⟨agN,agF,aid,acb,.of_steps (Steps.trans I6 (.one step_inLoop)) Pa⟩
    ·exact⟨.exit _,TW,Wz,⟨.exit _,_,he,hs.mask _,Cv⟩,.pass (x:=.inLoop c) rfl (λ_ _=> .inl (by simp)) I6⟩
    ·exact⟨.ret,TW,Wz,⟨.ret,_,cv,hs.mask _,Cv⟩,.pass (x:=.inLoop c) rfl (λ_ _=> .inl (by simp)) I6⟩
  cases hp:an.peel.contains (ed c)with
  |false=>rw[hp]at hk;obtain⟨e,a',w',hq,I6⟩:=key n _ a w (h.mask _) (hn _ _ _ _ hk);exact⟨e,a',w',hq,.of_steps (.one step_loop) I6⟩
  |true=>rw[hp]at hk;simp only[ah]at hk;obtain⟨e,TW,Wz,⟨ex,bH,he,hs,Cv⟩,I6⟩:=ih _ a w _ (h.mask _) hk b (.inLoop c::k) cs;cases e<;>cases ex<;>simp only[Fx]at he;obtain⟨agN,agF,aid,acb,Pa⟩:=key n _ TW Wz (hs.mask _) (hn _ _ _ _ Cv);exact⟨agN,agF,aid,acb,.of_steps (Steps.trans (.one step_loop) (Steps.trans I6 (.one step_inLoop))) Pa⟩;exact⟨.exit _,TW,Wz,⟨.exit _,_,he,hs.mask _,Cv⟩,.of_steps (.one step_loop) (.pass (x:=.inLoop c) rfl (λ_ _=> .inl (by simp)) I6)⟩;exact⟨.ret,TW,Wz,⟨.ret,_,cv,hs.mask _,Cv⟩,.of_steps (.one step_loop) (.pass (x:=.inLoop c) rfl (λ_ _=> .inl (by simp)) I6)⟩
 |exit id=>intro Ds st a w K h hk;exact wp_exit ⟨.exit id,st,rfl,h,hk⟩
 |ret=>intro Ds st a w K h hk;exact wp_ret ⟨.ret,st,cv,h,hk⟩
 |_=>intro Ds st a w K h hk;simp[den]at hk
theorem Et:∀{vs:iq}{xs:aw AV},oT A w vs xs->vs.length=xs.length/\∀(i:Nat)(x:AV),xs[i]?=some x->∃v,vs[i]?=some v/\fR (fH A (λ_=>0) w) v x []
 |[],[],_=>⟨rfl,by simp⟩
 |v::vs,x::xs,h=>by obtain⟨hl,hi⟩:=Et h.2;refine⟨by simp[hl],λi y hy=>?_⟩;cases i with|zero=>simp at hy;subst hy;exact⟨v,rfl,h.1⟩|succ i=>exact hi i y (by simpa using hy)
 |[],_::_,h=>h.elim
 |_::_,[],h=>h.elim
theorem HW (hA:∀k b o,A k b o->b<w.heap.size){fn:Func}{vs:iq}(h:oT A w vs xs): np ⟨A,λ_=>False,w,[],λk b o hb=>⟨hA k b o hb,λf=>f⟩⟩ (start fn xs) {tmps:=vs.toArray++Array.replicate (fn.ntmps-vs.toArray.size) undef,defers:=[]} w:=by
 obtain⟨hl,hi⟩:=Et h;let C:Ctx:=⟨A,λ_=>False,w,[],λk b o hb=>⟨hA k b o hb,λf=>f⟩⟩
 let g:Gh:=⟨λ_=>0,λ_=>0,λ_=>none,λ_=>undef⟩
 have hle:(fH A (λ_=>0) w).Le (cH C g (start fn xs) w):=⟨rfl,λt ht=>ht.elim,λ_ _ _ _ _ hv=>hv,aU _,λs hs=>hs.elim,λ_ b o u ho hu=>⟨ho,hu⟩⟩
 refine⟨g,rfl,?_,?_,λi av hs=>?_,λs cs hs=>?_,λk v av hk=>by simp at hk,λb x hx=>(by cases hx),Fr.refl _ _,⟨[],rfl,by simp,by simp⟩⟩;simp[start,hl];simp[start];have wO:(xs++List.replicate (fn.ntmps-xs.length) AV.bot)[i]?=some av:=hs;rcases cc i xs.length with gQ|yP;rw[bz gQ]at wO;obtain⟨v,hv,hr⟩:=hi i av wO;refine⟨[],?_,by simp,by simp⟩;have hvv:(vs.toArray++Array.replicate (fn.ntmps-vs.toArray.size) undef).getD i undef=v:=by
  have aeE:i<vs.length:=by omega
  have Po:vs[i]=v:=by rw[al aeE]at hv;exact dp hv
  simp[du,Array.getElem?_append,aeE,Po]
 show fR _ ((vs.toArray++Array.replicate (fn.ntmps-vs.toArray.size) undef).getD i undef) _ _;rw[hvv];exact hr.mono hle (by simp);rw[bq yP,dX]at wO;split at wO;cases wO;exact⟨[],fR.bot _ _,by simp,by simp⟩;cases wO;have wO:(List.replicate (xs.length+(fn.ntmps-xs.length)) (none:ax (aw AC)))[s]?=some (some cs):=hs;rw[dX]at wO;split at wO<;>cases wO
theorem Ws {v:Value}{x:AC}{fp:fw}(h:gA (cH C g st w) v x fp):gA (fH C.A g.hw w) v x.strip fp:=by
 cases x with
 |int k n=>exact h
 |bool b=>exact h
 |str s=>exact h
 |jm=>exact h
 |fn f=>exact h
 |un=>exact h
 |bot=>exact h
 |ptr s off=>exact h.2.2
 |zM fl e y i off=>cases fl with|own t=>exact h.elim|nest _ _ _ _ _ _=>exact h.elim|part _ _ _ _=>exact h.elim|fg _ _ _=>exact h.elim|arg _=>exact h.1|loc ep pv=>exact h.1
 |sl fl e xs=>
  cases fl with
  |nest _ _ _ _ _ _=>exact h.1
  |part _ _ _ _=>exact h.1
  |fg _ _ _=>obtain⟨_,⟨k,hk,h3⟩,_⟩:=h;exact⟨λq hq=>(by cases hq),⟨k,hk,h3⟩,by simp⟩
  |own t=>exact⟨h.1,by simp⟩
  |arg _=>exact h
  |loc ep pv=>exact h.1
theorem wE:∀{vs:iq}{xs:aw AC}{fp:fw},bB (cH C g st w) vs xs fp->bB (fH C.A g.hw w) vs (xs.map AC.strip) fp
 |[],[],_,h=>h
 |_::_,_::_,_,h=>by obtain⟨f1,f2,rfl,h1,h2⟩:=h;exact⟨f1,f2,rfl,Ws h1,wE h2⟩
 |[],_::_,_,h=>h.elim
 |_::_,[],_,h=>h.elim
def Br (tmps:Array Value):ResultVar->Sem Value
 | .tmp t=>pure (tmps.getD t undef)
 | .cell a t=>do loadVar t (<-asAddr (tmps.getD a undef))
def xv:Bool×Nat->jy
 |(false,t)=> .slot t
 |(true,s)=> .box s
theorem Iw {x y:Bool×Nat}(h:xv x=xv y):x=y:=by rcases x with⟨_|_,a⟩<;>rcases y with⟨_|_,b⟩<;>simp[xv]at h<;>rw[h]
theorem afe {E:Env}(hE:ja P E.ty)(h:dM C g st a w []){rv:ResultVar}{own:Bool×Nat}{gg:Bool}(hr:Lp st E rv=some (own,gg,cs)): ∃v vs fp,(Br a.tmps rv).run P w=.ok v w/\Cut gg v vs/\bB (fH C.A g.hw w) vs cs fp/\fp.Nodup/\∀b∈fp,g.ej b=some (xv own):=by
 cases rv with
 |tmp t=>simp only[Lp]at hr;split at hr;rename_i g' pH nm;cases hr;obtain⟨fp,eL,hn,hl⟩:=h.slot t;rw[nm]at eL;obtain⟨vs,fi,eL⟩:=eL;exact⟨_,vs,fp,rfl,fi,wE eL,hn,hl⟩;cases hr
 |cell t T=>
  simp only[Lp]at hr;split at hr;rename_i sh s off hT hp;cases ju:(nth st.boxes s).getD none with
  |none=>rw[ju]at hr;cases hr
  |some pH=>
   rw[ju]at hr;simp only[eo]at hr;split at hr;rename_i gw;cases hr;have ju:st.boxes[s]?=some (some pH):=by rw[dJ]at ju;cases hq:st.boxes[s]? with|none=>rw[hq]at ju;simp at ju|some q=>rw[hq]at ju;simp at ju;rw[ju]
   obtain⟨fp0,th,_,_⟩:=h.slot t;rw[hp]at th;have th:=zy th;obtain⟨arr,T',fr,fp,jL,qZ,eL,hn,uJ,hl,Fa,Fe⟩:=h.boxes s pH ju;have hlen:=eL.length;obtain⟨v,ee,fi⟩:=wx (hE T sh hT) (g.β s) off ((arr.toList.drop off).take sh.ct.size) (by simp at hlen⊢;omega) (MT jL off sh.ct.size);obtain⟨f1,f2,f3,rfl,r1,r2,r3⟩:=eL.mid off sh.ct.size;have Fb:=(aI.1 (aI.1 hn).1).2.1;refine⟨v,_,f2,?_,fi,wE r2,Fb,λb hb=>hl b (by simp[hb])⟩;simp only[Br,th,asAddr,Sem.run_bind,Sem.run_pure,Result.andThen_ok];exact ee;cases hr
  cases hr
theorem Xy {E:Env}(hE:ja P E.ty)(h:dM C g st a w [])(gf:ResultVar->Value):∀(rs:aw ResultVar)(had:aw (Bool×Nat))(ys:aw (Bool×aw AC)),ra st E had rs=some ys->
 (∀rv v,(Br a.tmps rv).run P w=.ok v w->gf rv=v)->
 (∀rv∈rs,(Br a.tmps rv).run P w=.ok (gf rv) w)/\∃fp,fR.pF (fH C.A g.hw w) (rs.map gf) ys fp/\fp.Nodup/\∀b∈fp,∃own,own∉had/\g.ej b=some (xv own)
 |[],had,ys,hr,hgf=>by cases hr;exact⟨by simp,[],rfl,by simp,by simp⟩
 |rv::rs,had,ys,hr,hgf=>by
  simp only[ra]at hr;cases h1:Lp st E rv with
  |none=>rw[h1]at hr;cases hr
  |some x=>
   obtain⟨own,gg,cs⟩:=x;rw[h1]at hr;simp only[eo]at hr;split at hr;cases hr;rename_i I8;have I8:own∉had:=by simpa using I8
   cases h2:ra st E (own::had) rs with|none=>rw[h2]at hr;cases hr|some xs=>rw[h2]at hr;simp only[eo,aZ]at hr;subst hr;obtain⟨v,vs,qc,ee,fi,eL,Fb,hl1⟩:=afe hE h h1;obtain⟨acf,fp2,Kz,AJ,xY⟩:=Xy hE h gf rs (own::had) xs h2 hgf;have hv:=hgf rv v ee;refine⟨λrv' hm=>?_,qc++fp2,⟨qc,fp2,rfl,⟨vs,by rw[hv];exact fi,eL⟩,Kz⟩,?_,λb hb=>?_⟩;rcases bO.1 hm with rfl|hm;rw[hv];exact ee;exact acf rv' hm;refine aI.2 ⟨Fb,AJ,λb hb b' gM he=>?_⟩;subst he;obtain⟨ajJ,Fc,Cw⟩:=xY b gM;rw[hl1 b hb]at Cw;have:=Iw (dp Cw);subst this;exact Fc (by simp);rcases ay.1 hb with hb|hb;exact⟨own,I8,hl1 b hb⟩;obtain⟨ajJ,Fc,Cw⟩:=xY b hb;exact⟨ajJ,λhm=>Fc (by simp[hm]),Cw⟩
theorem FK.Yf {fl:FK}{f:pE}(h:fl.fits f=true):f=fl.flag:=by
 unfold FK.fits at h;split at h;rename_i t t';have:t=t':=by simpa using h
 subst this;rfl;rename_i k;have:k=false:=by simpa using h
 subst this;rfl;rename_i k;have:k=true:=h;subst this;rfl;rfl;rename_i j t j' t';simp only[ae,aS]at h;obtain⟨rfl,rfl⟩:=h;rfl;cases h
theorem wz:∀{t:FT}{cs r:aw AC}{x:t.ct.D},Jv t cs=some (x,r)->cs=jc t x++r:=by
 intro t;induction t with
 |int k=>intro cs r x h;cases cs with|nil=>simp[Jv]at h|cons y ys=>cases y<;>simp[Jv]at h;obtain⟨rfl,rfl,rfl⟩:=h;rfl
 |bool=>intro cs r x h;cases cs with|nil=>simp[Jv]at h|cons y ys=>cases y<;>simp[Jv]at h;obtain⟨rfl,rfl⟩:=h;rfl
 |str=>intro cs r x h;cases cs with|nil=>simp[Jv]at h|cons y ys=>cases y<;>simp[Jv]at h;obtain⟨rfl,rfl⟩:=h;rfl
 |sl fl e=>
  intro cs r x h;cases cs with
  |nil=>simp[Jv]at h
  |cons y ys=>
   cases y with
   |sl fl' e' xs=>
    simp only[Jv]at h;split at h
    ·rename_i he;subst he;cases hf:fl.fits fl' with
     |false=>rw[hf]at h;cases h
     |true=>
      rw[hf]at h;cases h;rw[FK.Yf hf];have hn:fl.isNil=false:=by cases fl<;>first|rfl|(unfold FK.fits at hf;cases hf)
      simp only[jc,hn,af];rfl
    cases h
   |jm=>simp only[Jv]at h;cases hn:fl.isNil with|false=>rw[hn]at h;cases h|true=>rw[hn]at h;cases h;simp only[jc,hn,ah];rfl
   |_=>simp[Jv]at h
 |pair a b iha ihb=>intro cs r x h;simp only[Jv]at h;obtain⟨⟨x1,r1⟩,h1,h⟩:=aL.1 h;obtain⟨⟨x2,r2⟩,h2,h⟩:=aL.1 h;cases h;have h3:r1=jc b x2++r2:=ihb h2;rw[iha h1,h3];simp[jc]
theorem Iv:∀(rs:aw (Bool×FT))(ys:aw (Bool×aw AC))(y:kj rs),kT rs ys=some y->ys=ah0 rs y
 |[],[],y,_=>rfl
 |[],_::_,y,h=>by simp[kT]at h
 |[(g,t)],ys,y,h=>by
  cases ys with
  |nil=>simp[kT]at h
  |cons p ys=>
   cases ys with
   |cons _ _=>simp[kT]at h
   |nil=>
    obtain⟨g',cs⟩:=p;simp only[kT]at h;cases hg:g==g' with
    |false=>rw[hg]at h;cases h
    |true=>
     rw[hg]at h;have:g=g':=by simpa using hg
     subst this;simp only[ah]at h;split at h;rename_i x hx;cases h;have:=wz hx;rw[bV]at this;rw[this];rfl;cases h
 |(g,t)::p::r,ys,y,h=>by
  cases ys with
  |nil=>simp[kT]at h
  |cons q ys=>
   obtain⟨g',cs⟩:=q;simp only[kT]at h;cases hg:g==g' with
   |false=>rw[hg]at h;cases h
   |true=>
    rw[hg]at h;have:g=g':=by simpa using hg
    subst this;simp only[ah]at h;split at h;rename_i x hx;obtain⟨z,hz,h⟩:=aL.1 h;cases h;have h1:=wz hx;rw[bV]at h1;rw[h1,Iv (p::r) ys z hz];rfl;cases h
theorem ID {E:Env}(hE:ja P E.ty){fn:Func}{bH:AS}{a':Act}{w':World}(hg:dM C g bH a' w' []){had:aw (Bool×Nat)}(U1:ra bH E had fn.results.toList=some ys){y:kj rs}(gy:kT rs ys=some y): ∃v fp,(Go.results fn a'.tmps).run P w'=.ok v w'/\fR (fH C.A g.hw w') v (yh rs y) fp/\fp.Nodup/\∀b∈fp,∃own,own∉had/\g.ej b=some (xv own):=by
 have hys:=Iv rs ys y gy;let gf:ResultVar->Value:=λrv=>match (Br a'.tmps rv).run P w' with| .ok v _=>v|_=>undef
 obtain⟨acf,fp,eL,Dq,Cw⟩:=Xy hE hg gf fn.results.toList had ys U1 (λrv v hv=>by simp only[gf,hv]);have ag4:=Bt (P:=P) (Br a'.tmps) gf w' fn.results (λx hx=>acf x (by simpa using hx));have ee:(Go.results fn a'.tmps).run P w'=.ok (if h:(fn.results.map gf).size=1 then(fn.results.map gf)[0] else .tuple (fn.results.map gf)) w':=by
  have:Go.results fn a'.tmps=(do
   let vs<-fn.results.mapM (Br a'.tmps)
   pure (if h:vs.size=1 then vs[0] else .tuple vs)):=by
   unfold Go.results
   congr 1
  rw[this];simp only[Sem.run_bind,ag4,Result.andThen_ok,Sem.run_pure]
 refine⟨_,fp,ee,?_,Dq,Cw⟩;have RF:(fn.results.map gf).toList=fn.results.toList.map gf:=by simp
 unfold yh;rw[<-hys];cases ys with
 |nil=>
  have ag9:fn.results.toList.map gf=[]:=by cases hm:fn.results.toList.map gf with|nil=>rfl|cons u us=>rw[hm]at eL;exact eL.elim
  have ti:¬(fn.results.map gf).size=1:=by rw[<-Array.length_toList,RF,ag9];simp
  rw[dif_neg ti];exact⟨_,by rw[<-RF],eL⟩
 |cons y1 ys=>
  cases ys with
  |nil=>
   obtain⟨gg,cs⟩:=y1;cases hm:fn.results.toList.map gf with
   |nil=>rw[hm]at eL;exact eL.elim
   |cons u us=>
    rw[hm]at eL;obtain⟨f1,f2,rfl,UZ,sT⟩:=eL;cases us with
    |cons _ _=>exact sT.elim
    |nil=>
     cases sT;have I6:fn.results.map gf=#[u]:=by apply eQ;rw[RF,hm]
     have:(if h:(fn.results.map gf).size=1 then(fn.results.map gf)[0] else .tuple (fn.results.map gf))=u:=by rw[dif_pos (by rw[I6];rfl)];simp only[I6];rfl
     rw[this,bV];exact UZ
  |cons y2 ys=>
   have ti:¬(fn.results.map gf).size=1:=by rw[<-Array.length_toList,RF];cases hm:fn.results.toList.map gf with|nil=>simp|cons u us=>rw[hm]at eL;obtain⟨f1,f2,rfl,UZ,sT⟩:=eL;cases us with|nil=>exact sT.elim|cons u2 us=>simp
   rw[dif_neg ti];exact⟨_,by rw[<-RF],eL⟩
theorem Lq {E:Env}(hE:ja P E.ty){fn:Func}{bH:AS}{a':Act}{w':World}(hg:dM C g bH a' w' [])(U1:ra bH E [] fn.results.toList=some ys){y:kj rs}(gy:kT rs ys=some y): ∃v fp,(Go.results fn a'.tmps).run P w'=.ok v w'/\fR (fH C.A g.hw w') v (yh rs y) fp/\fp.Nodup/\∀b∈fp,∃own,g.ej b=some (xv own):=by obtain⟨v,fp,h1,h2,h3,h4⟩:=ID hE hg U1 gy;exact⟨v,fp,h1,h2,h3,λb hb=>(h4 b hb).imp λ_ h=>h.2⟩
theorem Yj {E:Env}{rs:aw (Bool×FT)}(hS:Sound P E Γ){fn:Func}(hf:P.funcs[f]?=some fn)(Am:(fn.name== "runtime.NumGoroutine")=false)(Ds:yf E Γ an Λ (fn.body.getD .skip)):gC P f {R:=kj rs,fn:=Ci E Γ an Λ fn rs,av:=yh rs}:=by
 intro xs y hy;simp only at hy;unfold Ci at hy;cases hb:fn.body with
 |none=>rw[hb]at hy;cases hy
 |some c=>
  rw[hb]at hy;simp only at hy;split at hy;refine⟨⟨fn,c,hf,hb,Am⟩,λ_ _ A w vs hA fN=>?_,λh=>(by cases h),λh=>(by cases h),λh=>(by cases h)⟩;refine calls_of_wp hf hb (wp_mono (OW hS c (by rw[hb]at Ds;exact Ds) _ _ _ _ (HW hA fN) hy) ?_);rintro e a' w' ⟨ex,bH,he,hs,hk⟩;have main:aa (ra bH E [] fn.results.toList) (kT rs)=some y->a'.defers=[]/\∃v,(Go.results fn a'.tmps).run P w'=.ok v w'/\∃v_1 hw fp,Ending.returned v=Ending.returned v_1/\fR (fH A hw w') v_1 (yh rs y) fp/\fp.Nodup/\(∀b∈fp,w.heap.size<=b/\b<w'.heap.size)/\Fr (λ_=>False) w w':=by intro gy;obtain⟨g,hg⟩:=hs;refine⟨hg.defers,?_⟩;cases U1:ra bH E [] fn.results.toList with|none=>rw[U1]at gy;cases gy|some ys=>rw[U1]at gy;obtain⟨v,fp,ee,eL,Dq,Cw⟩:=Lq hS.ty hg U1 gy;refine⟨v,ee,v,g.hw,fp,rfl,eL,Dq,λb hb=>?_,hg.frame⟩;obtain⟨own,hl⟩:=Cw b hb;have:=hg.fS b _ hl;exact⟨this.2.resolve_right (λf=>f),this.1⟩
  cases e<;>cases ex<;>simp only[Fx]at he;exact main hk;cases hk;exact main hk;cases hy
theorem Rj {E:Env}{L7:aw (Bool×FT)}(h2:kj L7=kj rs)(hS:Sound P E Γ){fn:Func}(hf:P.funcs[f]?=some fn)(Am:(fn.name== "runtime.NumGoroutine")=false)(Ds:yf E Γ an Λ (fn.body.getD .skip)):gC P f {R:=Bool×kj rs,fn:=evalAlt E Γ an Λ fn rs L7 h2,av:=λy=>yh rs y.2,sel:=λy=>y.1,alt:=λy=>yh L7 (cast h2.symm y.2)}:=by
 intro xs y hy;simp only at hy;unfold evalAlt at hy;cases hb:fn.body with
 |none=>rw[hb]at hy;cases hy
 |some c=>
  rw[hb]at hy;simp only at hy;split at hy;refine⟨⟨fn,c,hf,hb,Am⟩,λ_ _ A w vs hA fN=>?_,λh=>(by cases h),λh=>(by cases h),λh=>(by cases h)⟩;refine calls_of_wp hf hb (wp_mono (OW hS c (by rw[hb]at Ds;exact Ds) _ _ _ _ (HW hA fN) hy) ?_);rintro e a' w' ⟨ex,bH,he,hs,hk⟩
  have main:(aa (ra bH E [] fn.results.toList) λys=>match kT rs ys with
   |some y=>some (true,y)
   |none=>match kT L7 ys with
    |some y=>some (false,cast h2 y)
    |none=>none)=some y->a'.defers=[]/\∃v,(Go.results fn a'.tmps).run P w'=.ok v w'/\∃v_1 hw fp,Ending.returned v=Ending.returned v_1/\
   fR (fH A hw w') v_1 (cond y.1 (yh rs y.2) (yh L7 (cast h2.symm y.2))) fp/\fp.Nodup/\(∀b∈fp,w.heap.size<=b/\b<w'.heap.size)/\Fr (λ_=>False) w w':=by
   intro gy
   obtain⟨g,hg⟩:=hs
   refine⟨hg.defers,?_⟩
   cases U1:ra bH E [] fn.results.toList with
   |none=>rw[U1]at gy;cases gy
   |some ys=>
    rw[U1]at gy
    simp only[aa]at gy
    have fin:∀(rs':aw (Bool×FT))(y':kj rs'),kT rs' ys=some y'->∃v,(Go.results fn a'.tmps).run P w'=.ok v w'/\∃v_1 hw fp,Ending.returned v=Ending.returned v_1/\
     fR (fH A hw w') v_1 (yh rs' y') fp/\fp.Nodup/\(∀b∈fp,w.heap.size<=b/\b<w'.heap.size)/\Fr (λ_=>False) w w':=by
     intro rs' y' Qz
     obtain⟨v,fp,ee,eL,Dq,Cw⟩:=Lq hS.ty hg U1 Qz
     refine⟨v,ee,v,g.hw,fp,rfl,eL,Dq,λb hb=>?_,hg.frame⟩
     obtain⟨own,hl⟩:=Cw b hb
     have:=hg.fS b _ hl
     exact⟨this.2.resolve_right (λf=>f),this.1⟩
    cases h1:kT rs ys with
    |some y1=>rw[h1]at gy;cases gy;exact fin rs y1 h1
    |none=>
     rw[h1]at gy
     simp only at gy
     cases h3:kT L7 ys with
     |none=>rw[h3]at gy;cases gy
     |some y1=>
      rw[h3]at gy
      cases gy
      simp only[af,cast_cast,cast_eq]
      exact fin L7 y1 h3
  cases e<;>cases ex<;>simp only[Fx]at he;exact main hk;cases hk;exact main hk;cases hy
theorem X0 {c:RC}(Yp:c.A=A)(Qx:c.w=w)(DP:c.hw=hw)(I7:∀t,t%3=1->c.iss t){all:iq}(Mk:∀t,c.hdr t=(all[t/3]?).getD undef):
 ∀(j:Nat){vs:iq}{cs:aw AC}{fp:fw},bB (fH A hw w) vs cs fp->cs.all (AC.xc true)=true->(∀i v,vs[i]?=some v->all[j+i]?=some v)->bB c vs (Fq j cs) fp:=by
 intro j vs
 induction vs generalizing j with
 |nil=>intro cs fp h _ _;cases cs with
  |nil=>exact h
  |cons _ _=>exact h.elim
 |cons v vs ih=>
  intro cs fp h nn EG
  cases cs with
  |nil=>exact h.elim
  |cons x cs=>
   obtain⟨f1,f2,rfl,h1,h2⟩:=h
   simp only[cb,ae]at nn
   have i1:=ih (j+1) h2 nn.2 (λi u hu=>by rw[show j+1+i=j+(i+1) by omega];exact EG (i+1) u (by simpa using hu))
   have KB:=EG 0 v rfl
   rw[dT]at KB
   have Jp:x.je=true->Fq j (x::cs)=x::Fq (j+1) cs->bB c (v::vs) (Fq j (x::cs)) (f1++f2):=by rintro hf e1;obtain⟨rfl,k⟩:=qg (c':=c) h1 hf;rw[e1];exact⟨[],f2,rfl,k,i1⟩
   cases x with
   |sl fl e xs=>
    cases fl with
    |own t=>
     have gE:ff c.hw c.w (.sl e) [v] xs f1:=by rw[DP,Qx];exact h1.1
     refine⟨f1,f2,rfl,⟨gE,λq hq=>?_⟩,i1⟩
     cases hq
     refine⟨I7 _ (by omega),?_⟩
     rw[Mk,show(3*j+1)/3=j by omega,KB];rfl
    |arg k=>
     have hk:k=true:=by simpa[AC.xc]using nn.1
     subst hk
     exact⟨f1,f2,rfl,⟨h1.1,by rw[Qx,Yp];exact h1.2⟩,i1⟩
    |loc ep pv=>cases nn.1
    |nest _ _ _ _ _ _=>cases nn.1
    |part _ _ _ _=>cases nn.1
    |fg _ _ _=>cases nn.1
   |int k n=>exact Jp rfl rfl
   |bool b=>exact Jp rfl rfl
   |str s=>exact Jp rfl rfl
   |fn f=>exact Jp rfl rfl
   |jm=>cases nn.1
   |ptr s off=>cases nn.1
   |zM fl e y i off=>cases nn.1
   |un=>cases nn.1
   |bot=>cases nn.1
theorem Qd {fp:fw}{b:Nat}(hA:∀k b' o,A k b' o->b'<w.heap.size/\b'≠b/\b'∉fp){fn:Func}{vs:iq}{arr:Array Value}{T:TypeId}{fr:Nat×Nat}(jL:w.heap[b]?=some (.cells arr T fr))(qZ:oR arr fr)(eL:bB (fH A hw w) arr.toList cs fp)(nn:cs.all (AC.xc true)=true)(hn:fp.Nodup)(uJ:b∉fp)(gQ:∀b'∈fp,b'<w.heap.size)(Fe:hw b=0)(h:oT A w vs xs): np ⟨A,λb'=>b'=b\/b'∈fp,w,[.pointer (some ⟨b,0,none⟩)],λk b' o hb=>⟨(hA k b' o hb).1,λhm=>hm.elim (hA k b' o hb).2.1 (hA k b' o hb).2.2⟩⟩ (yL fn cs xs) {tmps:=(.pointer (some ⟨b,0,none⟩)::vs).toArray++Array.replicate (fn.ntmps-(Value.pointer (some ⟨b,0,none⟩)::vs).toArray.size) undef,defers:=[]} w:=by
 obtain⟨hl,hi⟩:=Et h;let v0:Value:=.pointer (some ⟨b,0,none⟩);let C:Ctx:=⟨A,λb'=>b'=b\/b'∈fp,w,[v0],λk b' o hb=>⟨(hA k b' o hb).1,λhm=>hm.elim (hA k b' o hb).2.1 (hA k b' o hb).2.2⟩⟩
 let g:Gh:=⟨hw,λ_=>b,λb'=>if b'=b\/b'∈fp then some (.box 0) else none,λt=>(arr.toList[t/3]?).getD undef⟩
 have DY:=lB jL;have tz:iS (yL fn cs xs) 0:=⟨Fq 0 cs,rfl⟩
 have hle:(fH A (λ_=>0) w).Le (cH C g (yL fn cs xs) w):=⟨rfl,λt ht=>ht.elim,λ_ _ _ _ _ hv=>hv,aU _,λs hs=>hs.elim,λ_ b o u ho _=>absurd ho (Nat.not_lt_zero _)⟩
 have k1:=X0 (c:=cH C g (yL fn cs xs) w) (A:=A) rfl rfl rfl (λt ht=> .inl (by omega)) (all:=arr.toList) (λt=>rfl) 0 eL nn (λi v hv=>by rw[ca];exact hv);refine⟨g,rfl,?_,?_,λi av hs=>?_,λs pH hs=>?_,λk v av hk=>by simp at hk,λb' x hx=>?_,Fr.refl _ _,⟨[],⟨[],[],rfl,⟨rfl,tz,rfl⟩,rfl⟩,by simp,by simp⟩⟩;simp[yL,start,hl];omega;simp[yL,start];have wO:((.one (.ptr 0 0)::xs)++List.replicate (fn.ntmps-(AV.one (.ptr 0 0)::xs).length) AV.bot)[i]?=some av:=hs;rcases cc i (xs.length+1)with aeE|yP;rw[bz (by simpa using aeE)]at wO;cases i with
 |zero=>
  simp at wO;subst wO;refine⟨[],?_,by simp,by simp⟩;have hvv:((v0::vs).toArray++Array.replicate (fn.ntmps-(v0::vs).toArray.size) undef).getD 0 undef=v0:=by simp[du,Array.getElem?_append]
  show fR _ (((v0::vs).toArray++Array.replicate (fn.ntmps-(v0::vs).toArray.size) undef).getD 0 undef) _ _;rw[hvv];exact lT ⟨rfl,tz,rfl⟩
 |succ i=>
  obtain⟨v,hv,hr⟩:=hi i av (by simpa using wO);refine⟨[],?_,by simp,by simp⟩;have hvv:((v0::vs).toArray++Array.replicate (fn.ntmps-(v0::vs).toArray.size) undef).getD (i+1) undef=v:=by
   have ai7:i<vs.length:=by omega
   have Po:vs[i]=v:=by rw[al ai7]at hv;exact dp hv
   simp[du,Array.getElem?_append,ai7,Po]
  show fR _ (((v0::vs).toArray++Array.replicate (fn.ntmps-(v0::vs).toArray.size) undef).getD (i+1) undef) _ _;rw[hvv];exact hr.mono hle (by simp)
 rw[bq (by simpa using yP),dX]at wO;split at wO;cases wO;exact⟨[],fR.bot _ _,by simp,by simp⟩;cases wO;have wO:(some (Fq 0 cs)::List.replicate (xs.length+(fn.ntmps-(xs.length+1))) (none:ax (aw AC)))[s]?=some (some pH):=hs;cases s with|zero=>simp at wO;subst wO;refine⟨arr,T,fr,fp,jL,qZ,k1,hn,uJ,λb' gM=>?_,?_,Fe⟩;show(if b'=b\/b'∈fp then _ else _)=_;rw[aE (.inr gM)];show(if b=b\/b∈fp then _ else _)=_;rw[aE (.inl rfl)]|succ s=>simp only[dW,dX]at wO;split at wO<;>cases wO
 have zQ:(if b'=b\/b'∈fp then some (jy.box 0) else none)=some x:=hx;split at zQ;rename_i hm;rcases hm with rfl|hm;exact⟨DY,.inr (.inl rfl)⟩;exact⟨gQ b' hm,.inr (.inr hm)⟩;cases zQ
theorem oU {E:Env}{rs:aw (Bool×FT)}{t:FT}(hS:Sound P E Γ){fn:Func}(hf:P.funcs[f]?=some fn)(Am:(fn.name== "runtime.NumGoroutine")=false)(Ds:yf E Γ an Λ (fn.body.getD .skip)):gC P f {R:=kj rs×t.ct.D,fn:=W1 E Γ an Λ fn rs t,av:=λy=>yh rs y.1,back:=λy=>jc t y.2,bx:=true}:=by
 intro xs y hy;simp only at hy;unfold W1 at hy;split at hy;rename_i c cs rest hb;split at hy;rename_i hlen;refine⟨⟨fn,c,hf,hb,Am⟩,λ_ h=>(by cases h),λh=>(by cases h),λ_ MY ajK he A w b vs arr T fr hw fp hA jL qZ eL hn uJ gQ Fe fN=>?_,λh=>(by cases h)⟩;injection he with he1 he2;injection he1 with _ he3;subst he2;subst he3;refine calls_of_wp hf hb (wp_mono (OW hS c (by rw[hb]at Ds;exact Ds) _ _ _ _ (Qd (fn:=fn) hA jL qZ eL hlen.2 hn uJ gQ Fe fN) hy) ?_);rintro e a' w' ⟨ex,bH,he,hs,hk⟩
 have main:(aa (aa (ra bH E [(true,0)] fn.results.toList) (kT rs)) λr=>match bH.io,bH.boxes with
  |[.ptr 0 0],some pH::_=>(match Jv t (pH.map AC.strip)with|some (x,[])=>some (r,x)|_=>none)
  |_,_=>none)=some y->
  a'.defers=[]/\∃v,(Go.results fn a'.tmps).run P w'=.ok v w'/\∃v_1 hw' fv iJ T' Nf jK,Ending.returned v=Ending.returned v_1/\fR (fH A hw' w') v_1 (yh rs y.1) fv/\w'.heap[b]?=some (.cells iJ T' Nf)/\oR iJ Nf/\
    bB (fH A hw' w') iJ.toList (jc t y.2) jK/\jK.Nodup/\b∉jK/\(∀b'∈jK,b'<w'.heap.size/\(b'∈fp\/w.heap.size<=b'))/\fv.Nodup/\(∀b'∈fv,b'<w'.heap.size/\(b'∈fp\/w.heap.size<=b')/\b'∉jK/\b'≠b)/\Fr (λb'=>b'=b\/b'∈fp) w w':=by
  intro gy
  obtain⟨g,hg⟩:=hs
  refine⟨hg.defers,?_⟩
  cases U1:ra bH E [(true,0)] fn.results.toList with
  |none=>rw[U1]at gy;cases gy
  |some ys=>
   rw[U1]at gy
   simp only[aa]at gy
   cases hrr:kT rs ys with
   |none=>rw[hrr]at gy;cases gy
   |some r0=>
    rw[hrr]at gy
    simp only at gy
    split at gy
    ·rename_i pH tl Mm ju
     split at gy
     ·rename_i x hx
      cases gy
      obtain⟨v,fv,ee,uK,Dq,Cw⟩:=ID hS.ty hg U1 hrr
      obtain⟨fpi,hri,_,_⟩:=hg.io
      rw[Mm]at hri
      obtain⟨g1,g2,_,anz,_⟩:=hri
      have Hg:b=g.β 0:=by have:=anz.1;simp only[Value.pointer.injEq,aZ,Addr.mk.injEq]at this;exact this.1
      obtain⟨iJ,T',Nf,jK,FF,RK,hr',BP,FH,hl',ai3,_⟩:=hg.boxes 0 pH (by rw[ju];rfl)
      rw[<-Hg]at FF FH ai3
      have mi:=wE hr'
      have Hf:=wz hx
      rw[bV]at Hf
      rw[Hf]at mi
      have hM:∀b',(w.heap.size<=b'\/(b'=b\/b'∈fp))->b'≠b->b'∈fp\/w.heap.size<=b':=by rintro b' (h2|h2|h2) AY;exact .inr h2;exact absurd h2 AY;exact .inl h2
      refine⟨v,ee,v,g.hw,fv,iJ,T',Nf,jK,rfl,uK,FF,RK,mi,BP,FH,λb' gM=>?_,Dq,λb' gM=>?_,hg.frame⟩
      ·have:=hg.fS b' _ (hl' b' gM)
       exact⟨this.1,hM b' this.2 (λe=>FH (e▸gM))⟩
      ·obtain⟨own,I8,Nk⟩:=Cw b' gM
       have Fc:g.ej b'≠some (.box 0):=by rw[Nk];intro e;have e2:xv own=xv (true,0):=dp e;exact I8 (by rw[Iw e2];simp)
       have AY:b'≠b:=λe=>Fc (by rw[e];exact ai3)
       have:=hg.fS b' _ Nk
       exact⟨this.1,hM b' this.2 AY,λhm=>Fc (hl' b' hm),AY⟩
     ·cases gy
    ·cases gy
 cases e<;>cases ex<;>simp only[Fx]at he;exact main hk;cases hk;exact main hk;cases hy;cases hy
theorem aiN {E:Env}{t:FT}(hS:Sound P E Γ){fn:Func}(hf:P.funcs[f]?=some fn)(Am:(fn.name== "runtime.NumGoroutine")=false)(Ds:yf E Γ an Λ (fn.body.getD .skip)):gC P f {R:=t.ct.D,fn:=O0 E Γ an Λ fn t,av:=λ_=> .bot,back:=λy=>jc t y,pr:=true}:=by
 intro xs y hy;simp only at hy;unfold O0 at hy;cases hb:fn.body with
 |none=>rw[hb]at hy;cases hy
 |some c=>
  rw[hb]at hy;simp only at hy;split at hy;have key:afG P f {R:=t.ct.D,fn:=O0 E Γ an Λ fn t,av:=λ_=> .bot,back:=λy=>jc t y,pr:=true} y xs:=by
   intro A w vs hA fN;refine calls_of_wp hf hb (wp_mono (OW hS c (by rw[hb]at Ds;exact Ds) _ _ _ _ (HW hA fN) hy) ?_);rintro e a' w' ⟨ex,bH,he,hs,hk⟩
   have main:(match fn.results.toList with
    |[.tmp i]=>match bH.get i with
     | .val false [.ptr s 0]=>match (nth bH.boxes s).getD none with
       |some cs=>if cs.all AC.GX=true then(match Jv t (cs.map AC.strip)with|some (x,[])=>some x|_=>none) else none
       |none=>none
     |_=>none
    |_=>none)=some y->a'.defers=[]/\∃v,(Go.results fn a'.tmps).run P w'=.ok v w'/\∃b arr T fr hw,Ending.returned v=.returned (.pointer (some ⟨b,0,none⟩))/\w.heap.size<=b/\w'.heap[b]?=some (.cells arr T fr)/\oR arr fr/\bB (fH A hw w') arr.toList (jc t y) []/\Fr (λ_=>False) w w':=by
    intro gy
    obtain⟨g,hg⟩:=hs
    refine⟨hg.defers,?_⟩
    split at gy
    ·rename_i i hri
     split at gy
     ·rename_i s hp
      cases ju:(nth bH.boxes s).getD none with
      |none=>rw[ju]at gy;cases gy
      |some cs=>
       rw[ju]at gy
       simp only at gy
       split at gy
       ·rename_i nn
        split at gy
        ·rename_i x hx
         cases gy
         have ju:bH.boxes[s]?=some (some cs):=by rw[dJ]at ju;cases hq:bH.boxes[s]? with|none=>rw[hq]at ju;simp at ju|some q=>rw[hq]at ju;simp at ju;rw[ju]
         obtain⟨fp0,th,_,_⟩:=hg.slot i
         rw[hp]at th
         have th:=zy th
         obtain⟨arr,T,fr,fp,jL,qZ,eL,hn,uJ,hl,Fa,Fe⟩:=hg.boxes s cs ju
         obtain⟨BM,vs,fi,Kz⟩:=arg_val (c:=cH _ g bH w') (c':=cH _ g bH w') rfl rfl (v:=.agg arr.toList.toArray) (x:=.val true cs) ⟨arr.toList,rfl,eL⟩ nn
         have hvs:arr.toList=vs:=by have fi:Value.agg arr.toList.toArray=.agg vs.toArray:=fi;simp only[Value.agg.injEq]at fi;simpa using congrArg Array.toList fi
         rw[<-hvs]at Kz
         have mi:=wE Kz
         have Hf:=wz hx
         rw[bV]at Hf
         rw[Hf]at mi
         have ee:(Go.results fn a'.tmps).run P w'=.ok (a'.tmps.getD i undef) w':=by
          have he:fn.results=#[.tmp i]:=by apply eQ;exact hri
          have ag4:=Bt (P:=P) (Br a'.tmps) (λ_=>a'.tmps.getD i undef) w' fn.results (λx hx=>by rw[he]at hx;simp at hx;subst hx;rfl)
          have hd:Go.results fn a'.tmps=(do
           let vs<-fn.results.mapM (Br a'.tmps)
           pure (if h:vs.size=1 then vs[0] else .tuple vs)):=by
           unfold Go.results
           congr 1
          rw[hd];simp only[Sem.run_bind,ag4,Result.andThen_ok,Sem.run_pure];rw[he];simp
         refine⟨_,ee,g.β s,arr,T,fr,g.hw,congrArg Ending.returned th,?_,jL,qZ,mi,hg.frame⟩
         exact(hg.fS _ _ Fa).2.resolve_right (λf=>f)
        ·cases gy
       ·cases gy
     ·cases gy
    ·cases gy
   cases e<;>cases ex<;>simp only[Fx]at he;exact main hk;cases hk;exact main hk
  refine⟨⟨fn,c,hf,hb,Am⟩,λ_ _ A w vs hA fN=>?_,λh=>(by cases h),λh=>(by cases h),λ_=>key⟩;refine(key A w vs hA fN).mono ?_;rintro e w' ⟨b,arr,T,fr,hw,rfl,_,_,_,_,jf⟩;exact⟨_,hw,[],rfl,fR.bot _ _,List.nodup_nil,(λb hb=>by cases hb),jf⟩;cases hy
end Go.Dn
