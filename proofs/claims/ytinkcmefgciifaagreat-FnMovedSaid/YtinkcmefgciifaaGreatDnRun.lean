import Derived.Test.YtinkcmefgciifaaGreatDnAny
/- The soundness of the abstract semantics: code and functions. -/
namespace Go.Dn
open Go.RowKit
variable {P:Program} {C:Ctx} {st:AS} {a:Act} {w:World} {R:Type} {r:R}
variable {an:An} {Γ:xU} {g:Gh} {Λ:kZ} {f:Nat} {hw:Nat->Nat} {A:Rg} {rs:aw (Bool×FT)} {ys:aw (Bool×aw AC)} {cs:aw AC} {xs:aw AV}
def Fy:Exit->Ex->Prop
 | .normal,.normal=>True
 | .ret,.ret=>True
 | .exit i,.exit j=>i=j
 |_,_=>False
def aiI (C:Ctx)(K:Ex->AS->ax R)(r:R)(e:Exit)(a:Act)(w:World):Prop:=
 ∃ex bH,Fy e ex/\nq C bH a w/\K ex bH=some r
theorem Z6 {E:Env}(hS:Sound P E Γ){id:Nat}{ops:Array Oper}{d:Bool}(h:nq C st a w){K:AS->ax R}(hk:PW E Γ an id ops.toList d st K=some r){Q:Exit->Act->World->Prop}(hq:∀bH a' w',nq C bH a' w'->K bH=some r->Q .normal a' w'):(Code.region id ops d).wp P Q a w:=by
 unfold PW at hk;split at hk;rw[J8]at hk;cases ho:Ch E Γ an ops.toList d st some with|none=>rw[ho]at hk;cases hk|some st1=>rw[ho]at hk;exact W5 hS h ho (λa' w' hs=>hq _ _ _ hs hk)
 rename_i s hm;split at hk;rename_i ahg;rw[J8]at hk;cases ho:Ch E Γ.calm an ops.toList d st some with|none=>rw[ho]at hk;cases hk|some st1=>rw[ho]at hk;simp only[eo]at hk;cases hb:getBool st1 s with|none=>rw[hb]at hk;cases hk|some b=>rw[hb]at hk;simp only[aa]at hk;have hn:=ZG (aet Γ) (λo I7=>aG.1 ahg o I7) ho;exact W5 hS.calm h ho (λa' w' hs=>hq _ _ _ (hs.weaken hn hb) hk)
 cases hk
def xV (E:Env)(Γ:xU)(an:An)(Λ:kZ)(c:Code):Prop:=
 ∃n,∀(R:Type)(st:AS)(K:Ex->AS->ax R)(r:R),(Λ (ed c)).go st K=some r->zv (an.mask (ed c)) (den E Γ an Λ c) n st K=some r
def TD (E:Env)(Γ:xU)(an:An)(Λ:kZ)(c:Code):Prop:=
 ∀(R:Type)(st:AS)(K:Ex->AS->ax R)(r:R),(Λ (B8 c)).go st K=some r->den E Γ an Λ c st (λe bH=>K e (bH.mask (an.mask (B8 c+1))))=some r
def yf (E:Env)(Γ:xU)(an:An)(Λ:kZ)(c:Code):Prop:=(∀c'∈gZ c,xV E Γ an Λ c')/\∀c'∈ks an.cut c,TD E Γ an Λ c'
theorem aa8 (c:Code):ks [] c=[]:=by induction c with|seq a b iha ihb=>simp[ks,iha,ihb]|cond _ a b iha ihb=>simp[ks,iha,ihb]|block _ c ih=>simpa[ks]using ih|loop c ih=>simpa[ks]using ih|_=>rfl
theorem yf.of {E:Env}{c:Code}(h:∀c'∈gZ c,xV E Γ an Λ c')(hc:an.cut=[]):yf E Γ an Λ c:=⟨h,by rw[hc,aa8];simp⟩
theorem OV {E:Env}(hS:Sound P E Γ):∀(c:Code)(_:yf E Γ an Λ c)(st:AS)(a:Act)(w:World)(K:Ex->AS->ax R),nq C st a w->den E Γ an Λ c st K=some r->c.wp P (aiI C K r) a w:=by
 intro c;induction c with
 |skip=>intro Dt st a w K h hk;exact wp_skip ⟨.normal,st,cv,h,hk⟩
 |region id ops d=>intro Dt st a w K h hk;exact Z6 hS h (by simpa only[den]using hk) (λbH a' w' hs he=>⟨.normal,bH,cv,hs,he⟩)
 |seq x y ihx ihy=>
  intro Dt st a w K h hk;have ihx:=ihx ⟨λc hc=>Dt.1 c (by simp[gZ,hc]),λc hc=>Dt.2 c (by simp[ks,hc])⟩;have ihy:=ihy ⟨λc hc=>Dt.1 c (by simp[gZ,hc]),λc hc=>Dt.2 c (by simp only[ks];cases an.cut.contains (ed y)<;>simp[hc])⟩;simp only[den]at hk;refine wp_seq (wp_mono (ihx st a w _ h hk) ?_);rintro e a' w' ⟨ex,bH,he,hs,Cv⟩;cases e<;>cases ex<;>simp only[Fy]at he;simp only at Cv;cases fi:an.cut.contains (ed y)with|false=>rw[fi]at Cv;exact ihy bH a' w' K hs Cv|true=>rw[fi]at Cv;have hc:=Dt.2 y (by simp only[ks,fi];simp) _ _ _ _ Cv;refine wp_mono (ihy _ a' w' _ (hs.mask _) hc) ?_;rintro e2 a2 w2 ⟨ex2,st2,he2,hs2,hk2⟩;exact⟨ex2,_,he2,hs2.mask _,hk2⟩
  exact⟨.exit _,bH,he,hs,Cv⟩;exact⟨.ret,bH,cv,hs,Cv⟩
 |cond c x y ihx ihy=>
  intro Dt st a w K h hk;have ihx:=ihx ⟨λc hc=>Dt.1 c (by simp[gZ,hc]),λc hc=>Dt.2 c (by simp[ks,hc])⟩;have ihy:=ihy ⟨λc hc=>Dt.1 c (by simp[gZ,hc]),λc hc=>Dt.2 c (by simp[ks,hc])⟩;simp only[den]at hk;split at hk;rename_i t hc;have hv:a.eval c=.bool t:=by obtain⟨g,hg⟩:=h;have:=hg.rd c;rw[hc]at this;exact tZ this
  cases t with|true=>exact wp_cond_true hv (ihx st a w K h hk)|false=>exact wp_cond_false hv (ihy st a w K h hk)
  cases hk
 |block id c ih=>intro Dt st a w K h hk;have ih:=ih ⟨λc hc=>Dt.1 c (by simpa[gZ]using hc),λc hc=>Dt.2 c (by simpa[ks]using hc)⟩;simp only[den]at hk;refine wp_block (wp_mono (ih st a w _ h hk) ?_);rintro e a' w' ⟨ex,bH,he,hs,Cv⟩;cases e<;>cases ex<;>simp only[Fy]at he;exact⟨.normal,bH,cv,hs,Cv⟩;rename_i i j;subst he;simp only[Exit.inBlock];simp only at Cv;by_cases hi:i=id;subst hi;rw[aE rfl];simp only[beq_self_eq_true,bN]at Cv;exact⟨.normal,bH,cv,hs,Cv⟩;rw[aH hi];rw[aH (by simpa using hi)]at Cv;exact⟨.exit i,bH,rfl,hs,Cv⟩;exact⟨.ret,bH,cv,hs,Cv⟩
 |loop c ih=>
  intro Dt st a w K h hk;have ih:=ih ⟨λc hc=>Dt.1 c (by simp[gZ,hc]),λc hc=>Dt.2 c (by simpa[ks]using hc)⟩;obtain⟨n,hn⟩:=Dt.1 c (by simp[gZ]);simp only[den]at hk;intro b k cs
  have key:∀m st a w,nq C st a w->zv (an.mask (ed c)) (den E Γ an Λ c) m st K=some r->
   ∃e a' w',aiI C K r e a' w'/\Arrives P (lone (b.at a (.code c:: .inLoop c::k)) cs w) b k cs e a' w':=by
   intro m
   induction m with
   |zero=>intro st a w _ hk;cases hk
   |succ m ihm=>
    intro st a w h hk
    simp only[zv]at hk
    obtain⟨e,TU,WD,⟨ex,bH,he,hs,Cv⟩,I4⟩:=ih st a w _ h hk b (.inLoop c::k) cs
    cases e<;>cases ex<;>simp only[Fy]at he
    ·obtain⟨agL,agD,aie,acd,O9⟩:=ihm _ TU WD (hs.mask _) Cv
     exact⟨agL,agD,aie,acd,.of_steps (Steps.trans I4 (.one step_inLoop)) O9⟩
    ·exact⟨.exit _,TU,WD,⟨.exit _,_,he,hs.mask _,Cv⟩,.pass (x:=.inLoop c) rfl (λ_ _=> .inl (by simp)) I4⟩
    ·exact⟨.ret,TU,WD,⟨.ret,_,cv,hs.mask _,Cv⟩,.pass (x:=.inLoop c) rfl (λ_ _=> .inl (by simp)) I4⟩
  cases hp:an.peel.contains (ed c)with
  |false=>rw[hp]at hk;obtain⟨e,a',w',hq,I4⟩:=key n _ a w (h.mask _) (hn _ _ _ _ hk);exact⟨e,a',w',hq,.of_steps (.one step_loop) I4⟩
  |true=>rw[hp]at hk;simp only[ah]at hk;obtain⟨e,TU,WD,⟨ex,bH,he,hs,Cv⟩,I4⟩:=ih _ a w _ (h.mask _) hk b (.inLoop c::k) cs;cases e<;>cases ex<;>simp only[Fy]at he;obtain⟨agL,agD,aie,acd,O9⟩:=key n _ TU WD (hs.mask _) (hn _ _ _ _ Cv);exact⟨agL,agD,aie,acd,.of_steps (Steps.trans (.one step_loop) (Steps.trans I4 (.one step_inLoop))) O9⟩;exact⟨.exit _,TU,WD,⟨.exit _,_,he,hs.mask _,Cv⟩,.of_steps (.one step_loop) (.pass (x:=.inLoop c) rfl (λ_ _=> .inl (by simp)) I4)⟩;exact⟨.ret,TU,WD,⟨.ret,_,cv,hs.mask _,Cv⟩,.of_steps (.one step_loop) (.pass (x:=.inLoop c) rfl (λ_ _=> .inl (by simp)) I4)⟩
 |exit id=>intro Dt st a w K h hk;exact wp_exit ⟨.exit id,st,rfl,h,hk⟩
 |ret=>intro Dt st a w K h hk;exact wp_ret ⟨.ret,st,cv,h,hk⟩
 |_=>intro Dt st a w K h hk;simp[den]at hk
theorem Eu:∀{vs:iu}{xs:aw AV},oT A w vs xs->vs.length=xs.length/\∀(i:Nat)(x:AV),xs[i]?=some x->∃v,vs[i]?=some v/\fR (fH A (λ_=>0) w) v x []
 |[],[],_=>⟨rfl,by simp⟩
 |v::vs,x::xs,h=>by obtain⟨hl,hi⟩:=Eu h.2;refine⟨by simp[hl],λi y hy=>?_⟩;cases i with|zero=>simp at hy;subst hy;exact⟨v,rfl,h.1⟩|succ i=>exact hi i y (by simpa using hy)
 |[],_::_,h=>h.elim
 |_::_,[],h=>h.elim
theorem HV (hA:∀k b o,A k b o->b<w.heap.size){fn:Func}{vs:iu}(h:oT A w vs xs): nq ⟨A,λ_=>False,w,[],λk b o hb=>⟨hA k b o hb,λf=>f⟩⟩ (start fn xs) {tmps:=vs.toArray++Array.replicate (fn.ntmps-vs.toArray.size) undef,defers:=[]} w:=by
 obtain⟨hl,hi⟩:=Eu h;let C:Ctx:=⟨A,λ_=>False,w,[],λk b o hb=>⟨hA k b o hb,λf=>f⟩⟩
 let g:Gh:=⟨λ_=>0,λ_=>0,λ_=>none,λ_=>undef⟩
 have hle:(fH A (λ_=>0) w).Le (cH C g (start fn xs) w):=⟨rfl,λt ht=>ht.elim,λ_ _ _ _ _ hv=>hv,aU _,λs hs=>hs.elim,λ_ b o u ho hu=>⟨ho,hu⟩⟩
 refine⟨g,rfl,?_,?_,λi av hs=>?_,λs cs hs=>?_,λk v av hk=>by simp at hk,λb x hx=>(by cases hx),Fr.refl _ _,⟨[],rfl,by simp,by simp⟩⟩;simp[start,hl];simp[start];have wO:(xs++List.replicate (fn.ntmps-xs.length) AV.bot)[i]?=some av:=hs;rcases cc i xs.length with gS|yP;rw[bz gS]at wO;obtain⟨v,hv,hr⟩:=hi i av wO;refine⟨[],?_,by simp,by simp⟩;have hvv:(vs.toArray++Array.replicate (fn.ntmps-vs.toArray.size) undef).getD i undef=v:=by
  have aeH:i<vs.length:=by omega
  have Pn:vs[i]=v:=by rw[al aeH]at hv;exact dp hv
  simp[du,Array.getElem?_append,aeH,Pn]
 show fR _ ((vs.toArray++Array.replicate (fn.ntmps-vs.toArray.size) undef).getD i undef) _ _;rw[hvv];exact hr.mono hle (by simp);rw[bq yP,dX]at wO;split at wO;cases wO;exact⟨[],fR.bot _ _,by simp,by simp⟩;cases wO;have wO:(List.replicate (xs.length+(fn.ntmps-xs.length)) (none:ax (aw AC)))[s]?=some (some cs):=hs;rw[dX]at wO;split at wO<;>cases wO
theorem Ww {v:Value}{x:AC}{fp:fw}(h:gC (cH C g st w) v x fp):gC (fH C.A g.hw w) v x.strip fp:=by
 cases x with
 |int k n=>exact h
 |bool b=>exact h
 |str s=>exact h
 |jo=>exact h
 |fn f=>exact h
 |un=>exact h
 |bot=>exact h
 |ptr s off=>exact h.2.2
 |zM fl e y i off=>cases fl with|own t=>exact h.elim|nest _ _ _ _ _ _=>exact h.elim|part _ _ _ _=>exact h.elim|fg _ _ _=>exact h.elim|arg _=>exact h.1|loc ep pv=>exact h.1
 |sl fl e xs=>
  cases fl with
  |nest _ _ _ _ _ _=>exact h.1
  |part _ _ _ _=>exact h.1
  |fg _ _ _=>obtain⟨_,⟨k,hk,h3⟩,_⟩:=h;exact⟨λq hq=>(by cases hq),⟨k,hk,h3⟩,by simp⟩
  |own t=>exact⟨h.1,by simp⟩
  |arg _=>exact h
  |loc ep pv=>exact h.1
theorem wE:∀{vs:iu}{xs:aw AC}{fp:fw},bB (cH C g st w) vs xs fp->bB (fH C.A g.hw w) vs (xs.map AC.strip) fp
 |[],[],_,h=>h
 |_::_,_::_,_,h=>by obtain⟨f1,f2,rfl,h1,h2⟩:=h;exact⟨f1,f2,rfl,Ww h1,wE h2⟩
 |[],_::_,_,h=>h.elim
 |_::_,[],_,h=>h.elim
def Br (tmps:Array Value):ResultVar->Sem Value
 | .tmp t=>pure (tmps.getD t undef)
 | .cell a t=>do loadVar t (<-asAddr (tmps.getD a undef))
def xw:Bool×Nat->jA
 |(false,t)=> .slot t
 |(true,s)=> .box s
theorem Iu {x y:Bool×Nat}(h:xw x=xw y):x=y:=by rcases x with⟨_|_,a⟩<;>rcases y with⟨_|_,b⟩<;>simp[xw]at h<;>rw[h]
theorem afh {E:Env}(hE:jc P E.ty)(h:dM C g st a w []){rv:ResultVar}{own:Bool×Nat}{gg:Bool}(hr:Lo st E rv=some (own,gg,cs)): ∃v vs fp,(Br a.tmps rv).run P w=.ok v w/\Cut gg v vs/\bB (fH C.A g.hw w) vs cs fp/\fp.Nodup/\∀b∈fp,g.ej b=some (xw own):=by
 cases rv with
 |tmp t=>simp only[Lo]at hr;split at hr;rename_i g' pH nm;cases hr;obtain⟨fp,eL,hn,hl⟩:=h.slot t;rw[nm]at eL;obtain⟨vs,fi,eL⟩:=eL;exact⟨_,vs,fp,rfl,fi,wE eL,hn,hl⟩;cases hr
 |cell t T=>
  simp only[Lo]at hr;split at hr;rename_i sh s off hT hp;cases jw:(nth st.boxes s).getD none with
  |none=>rw[jw]at hr;cases hr
  |some pH=>
   rw[jw]at hr;simp only[eo]at hr;split at hr;rename_i gx;cases hr;have jw:st.boxes[s]?=some (some pH):=by rw[dJ]at jw;cases hq:st.boxes[s]? with|none=>rw[hq]at jw;simp at jw|some q=>rw[hq]at jw;simp at jw;rw[jw]
   obtain⟨fp0,th,_,_⟩:=h.slot t;rw[hp]at th;have th:=zy th;obtain⟨arr,T',fr,fp,jN,qZ,eL,hn,uK,hl,Fb,Ff⟩:=h.boxes s pH jw;have hlen:=eL.length;obtain⟨v,ee,fi⟩:=wx (hE T sh hT) (g.β s) off ((arr.toList.drop off).take sh.ct.size) (by simp at hlen⊢;omega) (MR jN off sh.ct.size);obtain⟨f1,f2,f3,rfl,r1,r2,r3⟩:=eL.mid off sh.ct.size;have Fc:=(aI.1 (aI.1 hn).1).2.1;refine⟨v,_,f2,?_,fi,wE r2,Fc,λb hb=>hl b (by simp[hb])⟩;simp only[Br,th,asAddr,Sem.run_bind,Sem.run_pure,Result.andThen_ok];exact ee;cases hr
  cases hr
theorem XB {E:Env}(hE:jc P E.ty)(h:dM C g st a w [])(gf:ResultVar->Value):∀(rs:aw ResultVar)(had:aw (Bool×Nat))(ys:aw (Bool×aw AC)),ra st E had rs=some ys->
 (∀rv v,(Br a.tmps rv).run P w=.ok v w->gf rv=v)->
 (∀rv∈rs,(Br a.tmps rv).run P w=.ok (gf rv) w)/\∃fp,fR.pF (fH C.A g.hw w) (rs.map gf) ys fp/\fp.Nodup/\∀b∈fp,∃own,own∉had/\g.ej b=some (xw own)
 |[],had,ys,hr,hgf=>by cases hr;exact⟨by simp,[],rfl,by simp,by simp⟩
 |rv::rs,had,ys,hr,hgf=>by
  simp only[ra]at hr;cases h1:Lo st E rv with
  |none=>rw[h1]at hr;cases hr
  |some x=>
   obtain⟨own,gg,cs⟩:=x;rw[h1]at hr;simp only[eo]at hr;split at hr;cases hr;rename_i I6;have I6:own∉had:=by simpa using I6
   cases h2:ra st E (own::had) rs with|none=>rw[h2]at hr;cases hr|some xs=>rw[h2]at hr;simp only[eo,aZ]at hr;subst hr;obtain⟨v,vs,qc,ee,fi,eL,Fc,hl1⟩:=afh hE h h1;obtain⟨acg,fp2,Ky,AJ,xY⟩:=XB hE h gf rs (own::had) xs h2 hgf;have hv:=hgf rv v ee;refine⟨λrv' hm=>?_,qc++fp2,⟨qc,fp2,rfl,⟨vs,by rw[hv];exact fi,eL⟩,Ky⟩,?_,λb hb=>?_⟩;rcases bO.1 hm with rfl|hm;rw[hv];exact ee;exact acg rv' hm;refine aI.2 ⟨Fc,AJ,λb hb b' gO he=>?_⟩;subst he;obtain⟨ajL,Fe,Cw⟩:=xY b gO;rw[hl1 b hb]at Cw;have:=Iu (dp Cw);subst this;exact Fe (by simp);rcases ay.1 hb with hb|hb;exact⟨own,I6,hl1 b hb⟩;obtain⟨ajL,Fe,Cw⟩:=xY b hb;exact⟨ajL,λhm=>Fe (by simp[hm]),Cw⟩
theorem FK.Yi {fl:FK}{f:pE}(h:fl.fits f=true):f=fl.flag:=by
 unfold FK.fits at h;split at h;rename_i t t';have:t=t':=by simpa using h
 subst this;rfl;rename_i k;have:k=false:=by simpa using h
 subst this;rfl;rename_i k;have:k=true:=h;subst this;rfl;rfl;rename_i j t j' t';simp only[ae,aQ]at h;obtain⟨rfl,rfl⟩:=h;rfl;cases h
theorem wz:∀{t:FT}{cs r:aw AC}{x:t.ct.D},Jt t cs=some (x,r)->cs=je t x++r:=by
 intro t;induction t with
 |int k=>intro cs r x h;cases cs with|nil=>simp[Jt]at h|cons y ys=>cases y<;>simp[Jt]at h;obtain⟨rfl,rfl,rfl⟩:=h;rfl
 |bool=>intro cs r x h;cases cs with|nil=>simp[Jt]at h|cons y ys=>cases y<;>simp[Jt]at h;obtain⟨rfl,rfl⟩:=h;rfl
 |str=>intro cs r x h;cases cs with|nil=>simp[Jt]at h|cons y ys=>cases y<;>simp[Jt]at h;obtain⟨rfl,rfl⟩:=h;rfl
 |sl fl e=>
  intro cs r x h;cases cs with
  |nil=>simp[Jt]at h
  |cons y ys=>
   cases y with
   |sl fl' e' xs=>
    simp only[Jt]at h;split at h
    ·rename_i he;subst he;cases hf:fl.fits fl' with
     |false=>rw[hf]at h;cases h
     |true=>
      rw[hf]at h;cases h;rw[FK.Yi hf];have hn:fl.isNil=false:=by cases fl<;>first|rfl|(unfold FK.fits at hf;cases hf)
      simp only[je,hn,af];rfl
    cases h
   |jo=>simp only[Jt]at h;cases hn:fl.isNil with|false=>rw[hn]at h;cases h|true=>rw[hn]at h;cases h;simp only[je,hn,ah];rfl
   |_=>simp[Jt]at h
 |pair a b iha ihb=>intro cs r x h;simp only[Jt]at h;obtain⟨⟨x1,r1⟩,h1,h⟩:=aL.1 h;obtain⟨⟨x2,r2⟩,h2,h⟩:=aL.1 h;cases h;have h3:r1=je b x2++r2:=ihb h2;rw[iha h1,h3];simp[je]
theorem It:∀(rs:aw (Bool×FT))(ys:aw (Bool×aw AC))(y:kj rs),kT rs ys=some y->ys=ah1 rs y
 |[],[],y,_=>rfl
 |[],_::_,y,h=>by simp[kT]at h
 |[(g,t)],ys,y,h=>by
  cases ys with
  |nil=>simp[kT]at h
  |cons p ys=>
   cases ys with
   |cons _ _=>simp[kT]at h
   |nil=>
    obtain⟨g',cs⟩:=p;simp only[kT]at h;cases hg:g==g' with
    |false=>rw[hg]at h;cases h
    |true=>
     rw[hg]at h;have:g=g':=by simpa using hg
     subst this;simp only[ah]at h;split at h;rename_i x hx;cases h;have:=wz hx;rw[bV]at this;rw[this];rfl;cases h
 |(g,t)::p::r,ys,y,h=>by
  cases ys with
  |nil=>simp[kT]at h
  |cons q ys=>
   obtain⟨g',cs⟩:=q;simp only[kT]at h;cases hg:g==g' with
   |false=>rw[hg]at h;cases h
   |true=>
    rw[hg]at h;have:g=g':=by simpa using hg
    subst this;simp only[ah]at h;split at h;rename_i x hx;obtain⟨z,hz,h⟩:=aL.1 h;cases h;have h1:=wz hx;rw[bV]at h1;rw[h1,It (p::r) ys z hz];rfl;cases h
theorem IB {E:Env}(hE:jc P E.ty){fn:Func}{bH:AS}{a':Act}{w':World}(hg:dM C g bH a' w' []){had:aw (Bool×Nat)}(U5:ra bH E had fn.results.toList=some ys){y:kj rs}(gz:kT rs ys=some y): ∃v fp,(Go.results fn a'.tmps).run P w'=.ok v w'/\fR (fH C.A g.hw w') v (yh rs y) fp/\fp.Nodup/\∀b∈fp,∃own,own∉had/\g.ej b=some (xw own):=by
 have hys:=It rs ys y gz;let gf:ResultVar->Value:=λrv=>match (Br a'.tmps rv).run P w' with| .ok v _=>v|_=>undef
 obtain⟨acg,fp,eL,Dr,Cw⟩:=XB hE hg gf fn.results.toList had ys U5 (λrv v hv=>by simp only[gf,hv]);have agZ:=Bt (P:=P) (Br a'.tmps) gf w' fn.results (λx hx=>acg x (by simpa using hx));have ee:(Go.results fn a'.tmps).run P w'=.ok (if h:(fn.results.map gf).size=1 then(fn.results.map gf)[0] else .tuple (fn.results.map gf)) w':=by
  have:Go.results fn a'.tmps=(do
   let vs<-fn.results.mapM (Br a'.tmps)
   pure (if h:vs.size=1 then vs[0] else .tuple vs)):=by
   unfold Go.results
   congr 1
  rw[this];simp only[Sem.run_bind,agZ,Result.andThen_ok,Sem.run_pure]
 refine⟨_,fp,ee,?_,Dr,Cw⟩;have RD:(fn.results.map gf).toList=fn.results.toList.map gf:=by simp
 unfold yh;rw[<-hys];cases ys with
 |nil=>
  have ag7:fn.results.toList.map gf=[]:=by cases hm:fn.results.toList.map gf with|nil=>rfl|cons u us=>rw[hm]at eL;exact eL.elim
  have ti:¬(fn.results.map gf).size=1:=by rw[<-Array.length_toList,RD,ag7];simp
  rw[dif_neg ti];exact⟨_,by rw[<-RD],eL⟩
 |cons y1 ys=>
  cases ys with
  |nil=>
   obtain⟨gg,cs⟩:=y1;cases hm:fn.results.toList.map gf with
   |nil=>rw[hm]at eL;exact eL.elim
   |cons u us=>
    rw[hm]at eL;obtain⟨f1,f2,rfl,U3,sT⟩:=eL;cases us with
    |cons _ _=>exact sT.elim
    |nil=>
     cases sT;have I4:fn.results.map gf=#[u]:=by apply eQ;rw[RD,hm]
     have:(if h:(fn.results.map gf).size=1 then(fn.results.map gf)[0] else .tuple (fn.results.map gf))=u:=by rw[dif_pos (by rw[I4];rfl)];simp only[I4];rfl
     rw[this,bV];exact U3
  |cons y2 ys=>
   have ti:¬(fn.results.map gf).size=1:=by rw[<-Array.length_toList,RD];cases hm:fn.results.toList.map gf with|nil=>simp|cons u us=>rw[hm]at eL;obtain⟨f1,f2,rfl,U3,sT⟩:=eL;cases us with|nil=>exact sT.elim|cons u2 us=>simp
   rw[dif_neg ti];exact⟨_,by rw[<-RD],eL⟩
theorem Lp {E:Env}(hE:jc P E.ty){fn:Func}{bH:AS}{a':Act}{w':World}(hg:dM C g bH a' w' [])(U5:ra bH E [] fn.results.toList=some ys){y:kj rs}(gz:kT rs ys=some y): ∃v fp,(Go.results fn a'.tmps).run P w'=.ok v w'/\fR (fH C.A g.hw w') v (yh rs y) fp/\fp.Nodup/\∀b∈fp,∃own,g.ej b=some (xw own):=by obtain⟨v,fp,h1,h2,h3,h4⟩:=IB hE hg U5 gz;exact⟨v,fp,h1,h2,h3,λb hb=>(h4 b hb).imp λ_ h=>h.2⟩
theorem Ym {E:Env}{rs:aw (Bool×FT)}(hS:Sound P E Γ){fn:Func}(hf:P.funcs[f]?=some fn)(Am:(fn.name== "runtime.NumGoroutine")=false)(Dt:yf E Γ an Λ (fn.body.getD .skip)):gE P f {R:=kj rs,fn:=Ci E Γ an Λ fn rs,av:=yh rs}:=by
 intro xs y hy;simp only at hy;unfold Ci at hy;cases hb:fn.body with
 |none=>rw[hb]at hy;cases hy
 |some c=>
  rw[hb]at hy;simp only at hy;split at hy;refine⟨⟨fn,c,hf,hb,Am⟩,λ_ _ A w vs hA fN=>?_,λh=>(by cases h),λh=>(by cases h),λh=>(by cases h)⟩;refine calls_of_wp hf hb (wp_mono (OV hS c (by rw[hb]at Dt;exact Dt) _ _ _ _ (HV hA fN) hy) ?_);rintro e a' w' ⟨ex,bH,he,hs,hk⟩;have main:aa (ra bH E [] fn.results.toList) (kT rs)=some y->a'.defers=[]/\∃v,(Go.results fn a'.tmps).run P w'=.ok v w'/\∃v_1 hw fp,Ending.returned v=Ending.returned v_1/\fR (fH A hw w') v_1 (yh rs y) fp/\fp.Nodup/\(∀b∈fp,w.heap.size<=b/\b<w'.heap.size)/\Fr (λ_=>False) w w':=by intro gz;obtain⟨g,hg⟩:=hs;refine⟨hg.defers,?_⟩;cases U5:ra bH E [] fn.results.toList with|none=>rw[U5]at gz;cases gz|some ys=>rw[U5]at gz;obtain⟨v,fp,ee,eL,Dr,Cw⟩:=Lp hS.ty hg U5 gz;refine⟨v,ee,v,g.hw,fp,rfl,eL,Dr,λb hb=>?_,hg.frame⟩;obtain⟨own,hl⟩:=Cw b hb;have:=hg.fS b _ hl;exact⟨this.2.resolve_right (λf=>f),this.1⟩
  cases e<;>cases ex<;>simp only[Fy]at he;exact main hk;cases hk;exact main hk;cases hy
theorem Rh {E:Env}{L6:aw (Bool×FT)}(h2:kj L6=kj rs)(hS:Sound P E Γ){fn:Func}(hf:P.funcs[f]?=some fn)(Am:(fn.name== "runtime.NumGoroutine")=false)(Dt:yf E Γ an Λ (fn.body.getD .skip)):gE P f {R:=Bool×kj rs,fn:=evalAlt E Γ an Λ fn rs L6 h2,av:=λy=>yh rs y.2,sel:=λy=>y.1,alt:=λy=>yh L6 (cast h2.symm y.2)}:=by
 intro xs y hy;simp only at hy;unfold evalAlt at hy;cases hb:fn.body with
 |none=>rw[hb]at hy;cases hy
 |some c=>
  rw[hb]at hy;simp only at hy;split at hy;refine⟨⟨fn,c,hf,hb,Am⟩,λ_ _ A w vs hA fN=>?_,λh=>(by cases h),λh=>(by cases h),λh=>(by cases h)⟩;refine calls_of_wp hf hb (wp_mono (OV hS c (by rw[hb]at Dt;exact Dt) _ _ _ _ (HV hA fN) hy) ?_);rintro e a' w' ⟨ex,bH,he,hs,hk⟩
  have main:(aa (ra bH E [] fn.results.toList) λys=>match kT rs ys with
   |some y=>some (true,y)
   |none=>match kT L6 ys with
    |some y=>some (false,cast h2 y)
    |none=>none)=some y->a'.defers=[]/\∃v,(Go.results fn a'.tmps).run P w'=.ok v w'/\∃v_1 hw fp,Ending.returned v=Ending.returned v_1/\
   fR (fH A hw w') v_1 (cond y.1 (yh rs y.2) (yh L6 (cast h2.symm y.2))) fp/\fp.Nodup/\(∀b∈fp,w.heap.size<=b/\b<w'.heap.size)/\Fr (λ_=>False) w w':=by
   intro gz
   obtain⟨g,hg⟩:=hs
   refine⟨hg.defers,?_⟩
   cases U5:ra bH E [] fn.results.toList with
   |none=>rw[U5]at gz;cases gz
   |some ys=>
    rw[U5]at gz
    simp only[aa]at gz
    have fin:∀(rs':aw (Bool×FT))(y':kj rs'),kT rs' ys=some y'->∃v,(Go.results fn a'.tmps).run P w'=.ok v w'/\∃v_1 hw fp,Ending.returned v=Ending.returned v_1/\
     fR (fH A hw w') v_1 (yh rs' y') fp/\fp.Nodup/\(∀b∈fp,w.heap.size<=b/\b<w'.heap.size)/\Fr (λ_=>False) w w':=by
     intro rs' y' Qy
     obtain⟨v,fp,ee,eL,Dr,Cw⟩:=Lp hS.ty hg U5 Qy
     refine⟨v,ee,v,g.hw,fp,rfl,eL,Dr,λb hb=>?_,hg.frame⟩
     obtain⟨own,hl⟩:=Cw b hb
     have:=hg.fS b _ hl
     exact⟨this.2.resolve_right (λf=>f),this.1⟩
    cases h1:kT rs ys with
    |some y1=>rw[h1]at gz;cases gz;exact fin rs y1 h1
    |none=>
     rw[h1]at gz
     simp only at gz
     cases h3:kT L6 ys with
     |none=>rw[h3]at gz;cases gz
     |some y1=>
      rw[h3]at gz
      cases gz
      simp only[af,cast_cast,cast_eq]
      exact fin L6 y1 h3
  cases e<;>cases ex<;>simp only[Fy]at he;exact main hk;cases hk;exact main hk;cases hy
theorem X3 {c:RC}(Ys:c.A=A)(Qw:c.w=w)(DQ:c.hw=hw)(I5:∀t,t%3=1->c.iss t){all:iu}(Mi:∀t,c.hdr t=(all[t/3]?).getD undef):
 ∀(j:Nat){vs:iu}{cs:aw AC}{fp:fw},bB (fH A hw w) vs cs fp->cs.all (AC.xc true)=true->(∀i v,vs[i]?=some v->all[j+i]?=some v)->bB c vs (Fs j cs) fp:=by
 intro j vs
 induction vs generalizing j with
 |nil=>intro cs fp h _ _;cases cs with
  |nil=>exact h
  |cons _ _=>exact h.elim
 |cons v vs ih=>
  intro cs fp h nn EH
  cases cs with
  |nil=>exact h.elim
  |cons x cs=>
   obtain⟨f1,f2,rfl,h1,h2⟩:=h
   simp only[cb,ae]at nn
   have i1:=ih (j+1) h2 nn.2 (λi u hu=>by rw[show j+1+i=j+(i+1) by omega];exact EH (i+1) u (by simpa using hu))
   have KA:=EH 0 v rfl
   rw[dT]at KA
   have Jn:x.jg=true->Fs j (x::cs)=x::Fs (j+1) cs->bB c (v::vs) (Fs j (x::cs)) (f1++f2):=by rintro hf e1;obtain⟨rfl,k⟩:=qg (c':=c) h1 hf;rw[e1];exact⟨[],f2,rfl,k,i1⟩
   cases x with
   |sl fl e xs=>
    cases fl with
    |own t=>
     have gG:ff c.hw c.w (.sl e) [v] xs f1:=by rw[DQ,Qw];exact h1.1
     refine⟨f1,f2,rfl,⟨gG,λq hq=>?_⟩,i1⟩
     cases hq
     refine⟨I5 _ (by omega),?_⟩
     rw[Mi,show(3*j+1)/3=j by omega,KA];rfl
    |arg k=>
     have hk:k=true:=by simpa[AC.xc]using nn.1
     subst hk
     exact⟨f1,f2,rfl,⟨h1.1,by rw[Qw,Ys];exact h1.2⟩,i1⟩
    |loc ep pv=>cases nn.1
    |nest _ _ _ _ _ _=>cases nn.1
    |part _ _ _ _=>cases nn.1
    |fg _ _ _=>cases nn.1
   |int k n=>exact Jn rfl rfl
   |bool b=>exact Jn rfl rfl
   |str s=>exact Jn rfl rfl
   |fn f=>exact Jn rfl rfl
   |jo=>cases nn.1
   |ptr s off=>cases nn.1
   |zM fl e y i off=>cases nn.1
   |un=>cases nn.1
   |bot=>cases nn.1
theorem Qc {fp:fw}{b:Nat}(hA:∀k b' o,A k b' o->b'<w.heap.size/\b'≠b/\b'∉fp){fn:Func}{vs:iu}{arr:Array Value}{T:TypeId}{fr:Nat×Nat}(jN:w.heap[b]?=some (.cells arr T fr))(qZ:oR arr fr)(eL:bB (fH A hw w) arr.toList cs fp)(nn:cs.all (AC.xc true)=true)(hn:fp.Nodup)(uK:b∉fp)(gS:∀b'∈fp,b'<w.heap.size)(Ff:hw b=0)(h:oT A w vs xs): nq ⟨A,λb'=>b'=b\/b'∈fp,w,[.pointer (some ⟨b,0,none⟩)],λk b' o hb=>⟨(hA k b' o hb).1,λhm=>hm.elim (hA k b' o hb).2.1 (hA k b' o hb).2.2⟩⟩ (yL fn cs xs) {tmps:=(.pointer (some ⟨b,0,none⟩)::vs).toArray++Array.replicate (fn.ntmps-(Value.pointer (some ⟨b,0,none⟩)::vs).toArray.size) undef,defers:=[]} w:=by
 obtain⟨hl,hi⟩:=Eu h;let v0:Value:=.pointer (some ⟨b,0,none⟩);let C:Ctx:=⟨A,λb'=>b'=b\/b'∈fp,w,[v0],λk b' o hb=>⟨(hA k b' o hb).1,λhm=>hm.elim (hA k b' o hb).2.1 (hA k b' o hb).2.2⟩⟩
 let g:Gh:=⟨hw,λ_=>b,λb'=>if b'=b\/b'∈fp then some (.box 0) else none,λt=>(arr.toList[t/3]?).getD undef⟩
 have DZ:=lB jN;have tA:iU (yL fn cs xs) 0:=⟨Fs 0 cs,rfl⟩
 have hle:(fH A (λ_=>0) w).Le (cH C g (yL fn cs xs) w):=⟨rfl,λt ht=>ht.elim,λ_ _ _ _ _ hv=>hv,aU _,λs hs=>hs.elim,λ_ b o u ho _=>absurd ho (Nat.not_lt_zero _)⟩
 have k1:=X3 (c:=cH C g (yL fn cs xs) w) (A:=A) rfl rfl rfl (λt ht=> .inl (by omega)) (all:=arr.toList) (λt=>rfl) 0 eL nn (λi v hv=>by rw[ca];exact hv);refine⟨g,rfl,?_,?_,λi av hs=>?_,λs pH hs=>?_,λk v av hk=>by simp at hk,λb' x hx=>?_,Fr.refl _ _,⟨[],⟨[],[],rfl,⟨rfl,tA,rfl⟩,rfl⟩,by simp,by simp⟩⟩;simp[yL,start,hl];omega;simp[yL,start];have wO:((.one (.ptr 0 0)::xs)++List.replicate (fn.ntmps-(AV.one (.ptr 0 0)::xs).length) AV.bot)[i]?=some av:=hs;rcases cc i (xs.length+1)with aeH|yP;rw[bz (by simpa using aeH)]at wO;cases i with
 |zero=>
  simp at wO;subst wO;refine⟨[],?_,by simp,by simp⟩;have hvv:((v0::vs).toArray++Array.replicate (fn.ntmps-(v0::vs).toArray.size) undef).getD 0 undef=v0:=by simp[du,Array.getElem?_append]
  show fR _ (((v0::vs).toArray++Array.replicate (fn.ntmps-(v0::vs).toArray.size) undef).getD 0 undef) _ _;rw[hvv];exact lT ⟨rfl,tA,rfl⟩
 |succ i=>
  obtain⟨v,hv,hr⟩:=hi i av (by simpa using wO);refine⟨[],?_,by simp,by simp⟩;have hvv:((v0::vs).toArray++Array.replicate (fn.ntmps-(v0::vs).toArray.size) undef).getD (i+1) undef=v:=by
   have aja:i<vs.length:=by omega
   have Pn:vs[i]=v:=by rw[al aja]at hv;exact dp hv
   simp[du,Array.getElem?_append,aja,Pn]
  show fR _ (((v0::vs).toArray++Array.replicate (fn.ntmps-(v0::vs).toArray.size) undef).getD (i+1) undef) _ _;rw[hvv];exact hr.mono hle (by simp)
 rw[bq (by simpa using yP),dX]at wO;split at wO;cases wO;exact⟨[],fR.bot _ _,by simp,by simp⟩;cases wO;have wO:(some (Fs 0 cs)::List.replicate (xs.length+(fn.ntmps-(xs.length+1))) (none:ax (aw AC)))[s]?=some (some pH):=hs;cases s with|zero=>simp at wO;subst wO;refine⟨arr,T,fr,fp,jN,qZ,k1,hn,uK,λb' gO=>?_,?_,Ff⟩;show(if b'=b\/b'∈fp then _ else _)=_;rw[aE (.inr gO)];show(if b=b\/b∈fp then _ else _)=_;rw[aE (.inl rfl)]|succ s=>simp only[dW,dX]at wO;split at wO<;>cases wO
 have zQ:(if b'=b\/b'∈fp then some (jA.box 0) else none)=some x:=hx;split at zQ;rename_i hm;rcases hm with rfl|hm;exact⟨DZ,.inr (.inl rfl)⟩;exact⟨gS b' hm,.inr (.inr hm)⟩;cases zQ
theorem oU {E:Env}{rs:aw (Bool×FT)}{t:FT}(hS:Sound P E Γ){fn:Func}(hf:P.funcs[f]?=some fn)(Am:(fn.name== "runtime.NumGoroutine")=false)(Dt:yf E Γ an Λ (fn.body.getD .skip)):gE P f {R:=kj rs×t.ct.D,fn:=W4 E Γ an Λ fn rs t,av:=λy=>yh rs y.1,back:=λy=>je t y.2,bx:=true}:=by
 intro xs y hy;simp only at hy;unfold W4 at hy;split at hy;rename_i c cs rest hb;split at hy;rename_i hlen;refine⟨⟨fn,c,hf,hb,Am⟩,λ_ h=>(by cases h),λh=>(by cases h),λ_ MW ajM he A w b vs arr T fr hw fp hA jN qZ eL hn uK gS Ff fN=>?_,λh=>(by cases h)⟩;injection he with he1 he2;injection he1 with _ he3;subst he2;subst he3;refine calls_of_wp hf hb (wp_mono (OV hS c (by rw[hb]at Dt;exact Dt) _ _ _ _ (Qc (fn:=fn) hA jN qZ eL hlen.2 hn uK gS Ff fN) hy) ?_);rintro e a' w' ⟨ex,bH,he,hs,hk⟩
 have main:(aa (aa (ra bH E [(true,0)] fn.results.toList) (kT rs)) λr=>match bH.io,bH.boxes with
  |[.ptr 0 0],some pH::_=>(match Jt t (pH.map AC.strip)with|some (x,[])=>some (r,x)|_=>none)
  |_,_=>none)=some y->
  a'.defers=[]/\∃v,(Go.results fn a'.tmps).run P w'=.ok v w'/\∃v_1 hw' fv iL T' Nc jM,Ending.returned v=Ending.returned v_1/\fR (fH A hw' w') v_1 (yh rs y.1) fv/\w'.heap[b]?=some (.cells iL T' Nc)/\oR iL Nc/\
    bB (fH A hw' w') iL.toList (je t y.2) jM/\jM.Nodup/\b∉jM/\(∀b'∈jM,b'<w'.heap.size/\(b'∈fp\/w.heap.size<=b'))/\fv.Nodup/\(∀b'∈fv,b'<w'.heap.size/\(b'∈fp\/w.heap.size<=b')/\b'∉jM/\b'≠b)/\Fr (λb'=>b'=b\/b'∈fp) w w':=by
  intro gz
  obtain⟨g,hg⟩:=hs
  refine⟨hg.defers,?_⟩
  cases U5:ra bH E [(true,0)] fn.results.toList with
  |none=>rw[U5]at gz;cases gz
  |some ys=>
   rw[U5]at gz
   simp only[aa]at gz
   cases hrr:kT rs ys with
   |none=>rw[hrr]at gz;cases gz
   |some r0=>
    rw[hrr]at gz
    simp only at gz
    split at gz
    ·rename_i pH tl Mk jw
     split at gz
     ·rename_i x hx
      cases gz
      obtain⟨v,fv,ee,uL,Dr,Cw⟩:=IB hS.ty hg U5 hrr
      obtain⟨fpi,hri,_,_⟩:=hg.io
      rw[Mk]at hri
      obtain⟨g1,g2,_,anP,_⟩:=hri
      have Hf:b=g.β 0:=by have:=anP.1;simp only[Value.pointer.injEq,aZ,Addr.mk.injEq]at this;exact this.1
      obtain⟨iL,T',Nc,jM,FG,RI,hr',BP,FI,hl',ai6,_⟩:=hg.boxes 0 pH (by rw[jw];rfl)
      rw[<-Hf]at FG FI ai6
      have mi:=wE hr'
      have He:=wz hx
      rw[bV]at He
      rw[He]at mi
      have hM:∀b',(w.heap.size<=b'\/(b'=b\/b'∈fp))->b'≠b->b'∈fp\/w.heap.size<=b':=by rintro b' (h2|h2|h2) AY;exact .inr h2;exact absurd h2 AY;exact .inl h2
      refine⟨v,ee,v,g.hw,fv,iL,T',Nc,jM,rfl,uL,FG,RI,mi,BP,FI,λb' gO=>?_,Dr,λb' gO=>?_,hg.frame⟩
      ·have:=hg.fS b' _ (hl' b' gO)
       exact⟨this.1,hM b' this.2 (λe=>FI (e▸gO))⟩
      ·obtain⟨own,I6,Ni⟩:=Cw b' gO
       have Fe:g.ej b'≠some (.box 0):=by rw[Ni];intro e;have e2:xw own=xw (true,0):=dp e;exact I6 (by rw[Iu e2];simp)
       have AY:b'≠b:=λe=>Fe (by rw[e];exact ai6)
       have:=hg.fS b' _ Ni
       exact⟨this.1,hM b' this.2 AY,λhm=>Fe (hl' b' hm),AY⟩
     ·cases gz
    ·cases gz
 cases e<;>cases ex<;>simp only[Fy]at he;exact main hk;cases hk;exact main hk;cases hy;cases hy
theorem aiQ {E:Env}{t:FT}(hS:Sound P E Γ){fn:Func}(hf:P.funcs[f]?=some fn)(Am:(fn.name== "runtime.NumGoroutine")=false)(Dt:yf E Γ an Λ (fn.body.getD .skip)):gE P f {R:=t.ct.D,fn:=OZ E Γ an Λ fn t,av:=λ_=> .bot,back:=λy=>je t y,pr:=true}:=by
 intro xs y hy;simp only at hy;unfold OZ at hy;cases hb:fn.body with
 |none=>rw[hb]at hy;cases hy
 |some c=>
  rw[hb]at hy;simp only at hy;split at hy;have key:afJ P f {R:=t.ct.D,fn:=OZ E Γ an Λ fn t,av:=λ_=> .bot,back:=λy=>je t y,pr:=true} y xs:=by
   intro A w vs hA fN;refine calls_of_wp hf hb (wp_mono (OV hS c (by rw[hb]at Dt;exact Dt) _ _ _ _ (HV hA fN) hy) ?_);rintro e a' w' ⟨ex,bH,he,hs,hk⟩
   have main:(match fn.results.toList with
    |[.tmp i]=>match bH.get i with
     | .val false [.ptr s 0]=>match (nth bH.boxes s).getD none with
       |some cs=>if cs.all AC.GY=true then(match Jt t (cs.map AC.strip)with|some (x,[])=>some x|_=>none) else none
       |none=>none
     |_=>none
    |_=>none)=some y->a'.defers=[]/\∃v,(Go.results fn a'.tmps).run P w'=.ok v w'/\∃b arr T fr hw,Ending.returned v=.returned (.pointer (some ⟨b,0,none⟩))/\w.heap.size<=b/\w'.heap[b]?=some (.cells arr T fr)/\oR arr fr/\bB (fH A hw w') arr.toList (je t y) []/\Fr (λ_=>False) w w':=by
    intro gz
    obtain⟨g,hg⟩:=hs
    refine⟨hg.defers,?_⟩
    split at gz
    ·rename_i i hri
     split at gz
     ·rename_i s hp
      cases jw:(nth bH.boxes s).getD none with
      |none=>rw[jw]at gz;cases gz
      |some cs=>
       rw[jw]at gz
       simp only at gz
       split at gz
       ·rename_i nn
        split at gz
        ·rename_i x hx
         cases gz
         have jw:bH.boxes[s]?=some (some cs):=by rw[dJ]at jw;cases hq:bH.boxes[s]? with|none=>rw[hq]at jw;simp at jw|some q=>rw[hq]at jw;simp at jw;rw[jw]
         obtain⟨fp0,th,_,_⟩:=hg.slot i
         rw[hp]at th
         have th:=zy th
         obtain⟨arr,T,fr,fp,jN,qZ,eL,hn,uK,hl,Fb,Ff⟩:=hg.boxes s cs jw
         obtain⟨BM,vs,fi,Ky⟩:=arg_val (c:=cH _ g bH w') (c':=cH _ g bH w') rfl rfl (v:=.agg arr.toList.toArray) (x:=.val true cs) ⟨arr.toList,rfl,eL⟩ nn
         have hvs:arr.toList=vs:=by have fi:Value.agg arr.toList.toArray=.agg vs.toArray:=fi;simp only[Value.agg.injEq]at fi;simpa using congrArg Array.toList fi
         rw[<-hvs]at Ky
         have mi:=wE Ky
         have He:=wz hx
         rw[bV]at He
         rw[He]at mi
         have ee:(Go.results fn a'.tmps).run P w'=.ok (a'.tmps.getD i undef) w':=by
          have he:fn.results=#[.tmp i]:=by apply eQ;exact hri
          have agZ:=Bt (P:=P) (Br a'.tmps) (λ_=>a'.tmps.getD i undef) w' fn.results (λx hx=>by rw[he]at hx;simp at hx;subst hx;rfl)
          have hd:Go.results fn a'.tmps=(do
           let vs<-fn.results.mapM (Br a'.tmps)
           pure (if h:vs.size=1 then vs[0] else .tuple vs)):=by
           unfold Go.results
           congr 1
          rw[hd];simp only[Sem.run_bind,agZ,Result.andThen_ok,Sem.run_pure];rw[he];simp
         refine⟨_,ee,g.β s,arr,T,fr,g.hw,congrArg Ending.returned th,?_,jN,qZ,mi,hg.frame⟩
         exact(hg.fS _ _ Fb).2.resolve_right (λf=>f)
        ·cases gz
       ·cases gz
     ·cases gz
    ·cases gz
   cases e<;>cases ex<;>simp only[Fy]at he;exact main hk;cases hk;exact main hk
  refine⟨⟨fn,c,hf,hb,Am⟩,λ_ _ A w vs hA fN=>?_,λh=>(by cases h),λh=>(by cases h),λ_=>key⟩;refine(key A w vs hA fN).mono ?_;rintro e w' ⟨b,arr,T,fr,hw,rfl,_,_,_,_,jh⟩;exact⟨_,hw,[],rfl,fR.bot _ _,List.nodup_nil,(λb hb=>by cases hb),jh⟩;cases hy
end Go.Dn
