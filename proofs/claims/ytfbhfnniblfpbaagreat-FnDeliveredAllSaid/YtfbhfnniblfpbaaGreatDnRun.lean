import Derived.Test.YtfbhfnniblfpbaaGreatDnAny
/- The soundness of the abstract semantics: code and functions. -/
namespace Go.Dn
open Go.RowKit
variable {P:Program} {C:Ctx} {st:AS} {a:Act} {w:World} {R:Type} {r:R}
variable {an:An} {gg:Bool} {Γ:xu} {g:Gh} {Λ:ET} {f:Nat} {hw:Nat->Nat} {A:Rg} {rs:au (Bool×FT)} {ys:au (Bool×au AC)} {cs:au AC} {xs:au AV} {fp:eo} {vs:ie}
def GY:Exit->Ex->Prop
 | .normal,.normal=>True
 | .ret,.ret=>True
 | .exit i,.exit j=>i=j
 |_,_=>False
def ah2 (C:Ctx)(K:Ex->AS->ax R)(r:R)(e:Exit)(a:Act)(w:World):Prop:=
 ∃ex bM,GY e ex/\oz C bM a w/\K ex bM=some r
theorem abQ {E:Env}(hS:Sound P E Γ){id:Nat}{ops:Array Oper}{d:Bool}(h:oz C st a w){K:AS->ax R}(hk:S2 E Γ an id ops.toList d st K=some r){Q:Exit->Act->World->Prop}(hq:∀bM a' w',oz C bM a' w'->K bM=some r->Q .normal a' w'):(Code.region id ops d).wp P Q a w:=by
 unfold S2 at hk;split at hk;rw[Nd]at hk;cases ho:E9 E Γ an ops.toList d st some with|none=>rw[ho]at hk;cases hk|some st1=>rw[ho]at hk;exact Zh hS h ho (λa' w' hs=>hq _ _ _ hs hk)
 rename_i s hm;split at hk;rename_i ahr;rw[Nd]at hk;cases ho:E9 E Γ.calm an ops.toList d st some with|none=>rw[ho]at hk;cases hk|some st1=>rw[ho]at hk;simp only[eu]at hk;cases hb:getBool st1 s with|none=>rw[hb]at hk;cases hk|some b=>rw[hb]at hk;simp only[aa]at hk;have hn:=abt (afe Γ) (λo L5=>aL.1 ahr o L5) ho;exact Zh hS.calm h ho (λa' w' hs=>hq _ _ _ (hs.weaken hn hb) hk)
 cases hk
def WE (E:Env)(Γ:xu)(an:An)(Λ:ET)(c:Code):Prop:=
 ∃n,∀(R:Type)(st:AS)(K:Ex->AS->ax R)(r:R),(Λ (dC c)).go st K=some r->Ah (an.mask (dC c)) (den E Γ an Λ c) n st K=some r
def COk (E:Env)(Γ:xu)(an:An)(Λ:ET)(c:Code):Prop:=
 ∀(R:Type)(st:AS)(K:Ex->AS->ax R)(r:R),(Λ (xC c)).go st K=some r->den E Γ an Λ c st (λe bM=>K e (bM.mask (an.mask (xC c+1))))=some r
def Aa (E:Env)(Γ:xu)(an:An)(Λ:ET)(c:Code):Prop:=(∀c'∈ia c,WE E Γ an Λ c')/\∀c'∈ky an.cut c,COk E Γ an Λ c'
theorem acX (c:Code):ky [] c=[]:=by induction c with|seq a b iha ihb=>simp[ky,iha,ihb]|cond _ a b iha ihb=>simp[ky,iha,ihb]|block _ c ih=>simpa[ky]using ih|loop c ih=>simpa[ky]using ih|_=>rfl
theorem Aa.of {E:Env}{c:Code}(h:∀c'∈ia c,WE E Γ an Λ c')(hc:an.cut=[]):Aa E Γ an Λ c:=⟨h,by rw[hc,acX];simp⟩
theorem M6 {E:Env}(hS:Sound P E Γ):∀(c:Code)(_:Aa E Γ an Λ c)(st:AS)(a:Act)(w:World)(K:Ex->AS->ax R),oz C st a w->den E Γ an Λ c st K=some r->c.wp P (ah2 C K r) a w:=by
 intro c;induction c with
 |skip=>intro EY st a w K h hk;exact wp_skip ⟨.normal,st,cv,h,hk⟩
 |region id ops d=>intro EY st a w K h hk;exact abQ hS h (by simpa only[den]using hk) (λbM a' w' hs he=>⟨.normal,bM,cv,hs,he⟩)
 |seq x y ihx ihy=>
  intro EY st a w K h hk;have ihx:=ihx ⟨λc hc=>EY.1 c (by simp[ia,hc]),λc hc=>EY.2 c (by simp[ky,hc])⟩;have ihy:=ihy ⟨λc hc=>EY.1 c (by simp[ia,hc]),λc hc=>EY.2 c (by simp only[ky];cases an.cut.contains (dC y)<;>simp[hc])⟩;simp only[den]at hk;refine wp_seq (wp_mono (ihx st a w _ h hk) ?_);rintro e a' w' ⟨ex,bM,he,hs,Fs⟩;cases e<;>cases ex<;>simp only[GY]at he;simp only at Fs;cases eR:an.cut.contains (dC y)with|false=>rw[eR]at Fs;exact ihy bM a' w' K hs Fs|true=>rw[eR]at Fs;have hc:=EY.2 y (by simp only[ky,eR];simp) _ _ _ _ Fs;refine wp_mono (ihy _ a' w' _ (hs.mask _) hc) ?_;rintro e2 a2 w2 ⟨ex2,st2,he2,hs2,hk2⟩;exact⟨ex2,_,he2,hs2.mask _,hk2⟩
  exact⟨.exit _,bM,he,hs,Fs⟩;exact⟨.ret,bM,cv,hs,Fs⟩
 |cond c x y ihx ihy=>
  intro EY st a w K h hk;have ihx:=ihx ⟨λc hc=>EY.1 c (by simp[ia,hc]),λc hc=>EY.2 c (by simp[ky,hc])⟩;have ihy:=ihy ⟨λc hc=>EY.1 c (by simp[ia,hc]),λc hc=>EY.2 c (by simp[ky,hc])⟩;simp only[den]at hk;split at hk;rename_i t hc;have hv:a.eval c=.bool t:=by obtain⟨g,hg⟩:=h;have:=hg.rd c;rw[hc]at this;exact wE this
  cases t with|true=>exact wp_cond_true hv (ihx st a w K h hk)|false=>exact wp_cond_false hv (ihy st a w K h hk)
  cases hk
 |block id c ih=>intro EY st a w K h hk;have ih:=ih ⟨λc hc=>EY.1 c (by simpa[ia]using hc),λc hc=>EY.2 c (by simpa[ky]using hc)⟩;simp only[den]at hk;refine wp_block (wp_mono (ih st a w _ h hk) ?_);rintro e a' w' ⟨ex,bM,he,hs,Fs⟩;cases e<;>cases ex<;>simp only[GY]at he;exact⟨.normal,bM,cv,hs,Fs⟩;rename_i i j;subst he;simp only[Exit.inBlock];simp only at Fs;by_cases hi:i=id;subst hi;rw[aF rfl];simp only[beq_self_eq_true,cp]at Fs;exact⟨.normal,bM,cv,hs,Fs⟩;rw[aH hi];rw[aH (by simpa using hi)]at Fs;exact⟨.exit i,bM,rfl,hs,Fs⟩;exact⟨.ret,bM,cv,hs,Fs⟩
 |loop c ih=>
  intro EY st a w K h hk;have ih:=ih ⟨λc hc=>EY.1 c (by simp[ia,hc]),λc hc=>EY.2 c (by simpa[ky]using hc)⟩;obtain⟨n,hn⟩:=EY.1 c (by simp[ia]);simp only[den]at hk;intro b k cs
  have key:∀m st a w,oz C st a w->Ah (an.mask (dC c)) (den E Γ an Λ c) m st K=some r->
   ∃e a' w',ah2 C K r e a' w'/\Arrives P (lone (b.at a (.code c:: .inLoop c::k)) cs w) b k cs e a' w':=by
   intro m
   induction m with
   |zero=>intro st a w _ hk;cases hk
   |succ m ihm=>
    intro st a w h hk
    simp only[Ah]at hk
    obtain⟨e,WU,YV,⟨ex,bM,he,hs,Fs⟩,L2⟩:=ih st a w _ h hk b (.inLoop c::k) cs
    cases e<;>cases ex<;>simp only[GY]at he
    ·obtain⟨ag3,agS,ahU,adt,Sh⟩:=ihm _ WU YV (hs.mask _) Fs
     exact⟨ag3,agS,ahU,adt,.of_steps (Steps.trans L2 (.one step_inLoop)) Sh⟩
    ·exact⟨.exit _,WU,YV,⟨.exit _,_,he,hs.mask _,Fs⟩,.pass (x:=.inLoop c) rfl (λ_ _=> .inl (by simp)) L2⟩
    ·exact⟨.ret,WU,YV,⟨.ret,_,cv,hs.mask _,Fs⟩,.pass (x:=.inLoop c) rfl (λ_ _=> .inl (by simp)) L2⟩
  cases hp:an.peel.contains (dC c)with
  |false=>rw[hp]at hk;obtain⟨e,a',w',hq,L2⟩:=key n _ a w (h.mask _) (hn _ _ _ _ hk);exact⟨e,a',w',hq,.of_steps (.one step_loop) L2⟩
  |true=>rw[hp]at hk;simp only[af]at hk;obtain⟨e,WU,YV,⟨ex,bM,he,hs,Fs⟩,L2⟩:=ih _ a w _ (h.mask _) hk b (.inLoop c::k) cs;cases e<;>cases ex<;>simp only[GY]at he;obtain⟨ag3,agS,ahU,adt,Sh⟩:=key n _ WU YV (hs.mask _) (hn _ _ _ _ Fs);exact⟨ag3,agS,ahU,adt,.of_steps (Steps.trans (.one step_loop) (Steps.trans L2 (.one step_inLoop))) Sh⟩;exact⟨.exit _,WU,YV,⟨.exit _,_,he,hs.mask _,Fs⟩,.of_steps (.one step_loop) (.pass (x:=.inLoop c) rfl (λ_ _=> .inl (by simp)) L2)⟩;exact⟨.ret,WU,YV,⟨.ret,_,cv,hs.mask _,Fs⟩,.of_steps (.one step_loop) (.pass (x:=.inLoop c) rfl (λ_ _=> .inl (by simp)) L2)⟩
 |exit id=>intro EY st a w K h hk;exact wp_exit ⟨.exit id,st,rfl,h,hk⟩
 |ret=>intro EY st a w K h hk;exact wp_ret ⟨.ret,st,cv,h,hk⟩
 |_=>intro EY st a w K h hk;simp[den]at hk
theorem DJ:∀{vs:ie}{xs:au AV},oI A w vs xs->vs.length=xs.length/\∀(i:Nat)(x:AV),xs[i]?=some x->∃v,vs[i]?=some v/\fF (eS A (λ_=>0) w) v x []
 |[],[],_=>⟨rfl,by simp⟩
 |v::vs,x::xs,h=>by obtain⟨hl,hi⟩:=DJ h.2;refine⟨by simp[hl],λi y hy=>?_⟩;cases i with|zero=>simp at hy;subst hy;exact⟨v,rfl,h.1⟩|succ i=>exact hi i y (by simpa using hy)
 |[],_::_,h=>h.elim
 |_::_,[],h=>h.elim
theorem KX (hA:∀k b o,A k b o->b<w.heap.size){fn:Func}(h:oI A w vs xs): oz ⟨A,λ_=>False,w,[],λk b o hb=>⟨hA k b o hb,λf=>f⟩⟩ (ox fn xs) {tmps:=vs.toArray++Array.replicate (fn.ntmps-vs.toArray.size) undef,defers:=[]} w:=by
 obtain⟨hl,hi⟩:=DJ h;let C:Ctx:=⟨A,λ_=>False,w,[],λk b o hb=>⟨hA k b o hb,λf=>f⟩⟩
 let g:Gh:=⟨λ_=>0,λ_=>0,λ_=>none,λ_=>undef⟩
 have hle:(eS A (λ_=>0) w).Le (cQ C g (ox fn xs) w):=⟨rfl,λt ht=>ht.elim,λ_ _ _ _ _ hv=>hv,aU _,λs hs=>hs.elim,λ_ b o u ho hu=>⟨ho,hu⟩⟩
 refine⟨g,rfl,?_,?_,λi av hs=>?_,λs cs hs=>?_,λk v av hk=>by simp at hk,λb x hx=>(by cases hx),Fr.refl _ _,⟨[],rfl,by simp,by simp⟩⟩;simp[ox,hl];simp[ox];have uo:(xs++List.replicate (fn.ntmps-xs.length) AV.bot)[i]?=some av:=hs;rcases bQ i xs.length with gB|Ae;rw[bH gB]at uo;obtain⟨v,hv,hr⟩:=hi i av uo;refine⟨[],?_,by simp,by simp⟩;have hvv:(vs.toArray++Array.replicate (fn.ntmps-vs.toArray.size) undef).getD i undef=v:=by
  have aaE:i<vs.length:=by omega
  have Zq:vs[i]=v:=by rw[al aaE]at hv;exact cC hv
  simp[cR,Array.getElem?_append,aaE,Zq]
 show fF _ ((vs.toArray++Array.replicate (fn.ntmps-vs.toArray.size) undef).getD i undef) _ _;rw[hvv];exact hr.mono hle (by simp);rw[bz Ae,dp]at uo;split at uo;cases uo;exact⟨[],fF.bot _ _,by simp,by simp⟩;cases uo;have uo:(List.replicate (xs.length+(fn.ntmps-xs.length)) (none:ax (au AC)))[s]?=some (some cs):=hs;rw[dp]at uo;split at uo<;>cases uo
theorem YQ {v:Value}{x:AC}(h:gE (cQ C g st w) v x fp):gE (eS C.A g.hw w) v x.strip fp:=by
 cases x with
 |int k n=>exact h
 |bool b=>exact h
 |str s=>exact h
 |jE=>exact h
 |fn f=>exact h
 |un=>exact h
 |bot=>exact h
 |ptr s off=>exact h.2.2
 |Cd fl e y i off=>cases fl with|own t=>exact h.elim|nest _ _ _ _ _ _=>exact h.elim|part _ _ _ _=>exact h.elim|eY _ _ _=>exact h.elim|arg _=>exact h.1|loc ep pv=>exact h.1
 |sl fl e xs=>
  cases fl with
  |nest _ _ _ _ _ _=>exact h.1
  |part _ _ _ _=>exact h.1
  |eY _ _ _=>obtain⟨_,⟨k,hk,h3⟩,_⟩:=h;exact⟨λq hq=>(by cases hq),⟨k,hk,h3⟩,by simp⟩
  |own t=>exact⟨h.1,by simp⟩
  |arg _=>exact h
  |loc ep pv=>exact h.1
theorem zE:∀{vs:ie}{xs:au AC}{fp:eo},bE (cQ C g st w) vs xs fp->bE (eS C.A g.hw w) vs (xs.map AC.strip) fp
 |[],[],_,h=>h
 |_::_,_::_,_,h=>by obtain⟨f1,f2,rfl,h1,h2⟩:=h;exact⟨f1,f2,rfl,YQ h1,zE h2⟩
 |[],_::_,_,h=>h.elim
 |_::_,[],_,h=>h.elim
def Ec (tmps:Array Value):ResultVar->Sem Value
 | .tmp t=>pure (tmps.getD t undef)
 | .cell a t=>do loadVar t (<-asAddr (tmps.getD a undef))
def AE:Bool×Nat->jI
 |(false,t)=> .slot t
 |(true,s)=> .box s
theorem Lv {x y:Bool×Nat}(h:AE x=AE y):x=y:=by rcases x with⟨_|_,a⟩<;>rcases y with⟨_|_,b⟩<;>simp[AE]at h<;>rw[h]
theorem afW {E:Env}(hE:jA P E.ty)(h:dN C g st a w []){rv:ResultVar}{own:Bool×Nat}(hr:Ow st E rv=some (own,gg,cs)): ∃v vs fp,(Ec a.tmps rv).run P w=.ok v w/\Cut gg v vs/\bE (eS C.A g.hw w) vs cs fp/\fp.Nodup/\∀b∈fp,g.ej b=some (AE own):=by
 cases rv with
 |tmp t=>simp only[Ow]at hr;split at hr;rename_i g' rf oy;cases hr;obtain⟨fp,ed,hn,hl⟩:=h.slot t;rw[oy]at ed;obtain⟨vs,eR,ed⟩:=ed;exact⟨_,vs,fp,rfl,eR,zE ed,hn,hl⟩;cases hr
 |cell t T=>
  simp only[Ow]at hr;split at hr;rename_i sh s off hT hp;cases jX:(nth st.boxes s).getD none with
  |none=>rw[jX]at hr;cases hr
  |some rf=>
   rw[jX]at hr;simp only[eu]at hr;split at hr;rename_i gy;cases hr;have jX:st.boxes[s]?=some (some rf):=by rw[dJ]at jX;cases hq:st.boxes[s]? with|none=>rw[hq]at jX;simp at jX|some q=>rw[hq]at jX;simp at jX;rw[jX]
   obtain⟨fp0,vG,_,_⟩:=h.slot t;rw[hp]at vG;have vG:=Cq vG;obtain⟨arr,T',fr,fp,kz,tw,ed,hn,xx,hl,Ia,Ic⟩:=h.boxes s rf jX;have hlen:=ed.length;obtain⟨v,dX,eR⟩:=zu (hE T sh hT) (g.β s) off ((arr.toList.drop off).take sh.ct.size) (by simp at hlen⊢;omega) (Qc kz off sh.ct.size);obtain⟨f1,f2,f3,rfl,r1,r2,r3⟩:=ed.mid off sh.ct.size;have Kk:=(aJ.1 (aJ.1 hn).1).2.1;refine⟨v,_,f2,?_,eR,zE r2,Kk,λb hb=>hl b (by simp[hb])⟩;simp only[Ec,vG,asAddr,Sem.run_bind,Sem.run_pure,Result.andThen_ok];exact dX;cases hr
  cases hr
theorem ZM {E:Env}(hE:jA P E.ty)(h:dN C g st a w [])(gf:ResultVar->Value):∀(rs:au ResultVar)(had:au (Bool×Nat))(ys:au (Bool×au AC)),oZ st E had rs=some ys->
 (∀rv v,(Ec a.tmps rv).run P w=.ok v w->gf rv=v)->
 (∀rv∈rs,(Ec a.tmps rv).run P w=.ok (gf rv) w)/\∃fp,fF.rk (eS C.A g.hw w) (rs.map gf) ys fp/\fp.Nodup/\∀b∈fp,∃own,own∉had/\g.ej b=some (AE own)
 |[],had,ys,hr,hgf=>by cases hr;exact⟨by simp,[],rfl,by simp,by simp⟩
 |rv::rs,had,ys,hr,hgf=>by
  simp only[oZ]at hr;cases h1:Ow st E rv with
  |none=>rw[h1]at hr;cases hr
  |some x=>
   obtain⟨own,gg,cs⟩:=x;rw[h1]at hr;simp only[eu]at hr;split at hr;cases hr;rename_i L4;have L4:own∉had:=by simpa using L4
   cases h2:oZ st E (own::had) rs with|none=>rw[h2]at hr;cases hr|some xs=>rw[h2]at hr;simp only[eu,ba]at hr;subst hr;obtain⟨v,vs,rZ,dX,eR,ed,Kk,hl1⟩:=afW hE h h1;obtain⟨adw,fp2,NH,E1,Af⟩:=ZM hE h gf rs (own::had) xs h2 hgf;have hv:=hgf rv v dX;refine⟨λrv' hm=>?_,rZ++fp2,⟨rZ,fp2,rfl,⟨vs,by rw[hv];exact eR,ed⟩,NH⟩,?_,λb hb=>?_⟩;rcases cg.1 hm with rfl|hm;rw[hv];exact dX;exact adw rv' hm;refine aJ.2 ⟨Kk,E1,λb hb b' gQ he=>?_⟩;subst he;obtain⟨aiT,Ib,EX⟩:=Af b gQ;rw[hl1 b hb]at EX;have:=Lv (cC EX);subst this;exact Ib (by simp);rcases aA.1 hb with hb|hb;exact⟨own,L4,hl1 b hb⟩;obtain⟨aiT,Ib,EX⟩:=Af b hb;exact⟨aiT,λhm=>Ib (by simp[hm]),EX⟩
theorem FK.aas {fl:FK}{f:rj}(h:fl.fits f=true):f=fl.flag:=by
 unfold FK.fits at h;split at h;rename_i t t';have:t=t':=by simpa using h
 subst this;rfl;rename_i k;have:k=false:=by simpa using h
 subst this;rfl;rename_i k;have:k=true:=h;subst this;rfl;rfl;rename_i j t j' t';simp only[ah,bw]at h;obtain⟨rfl,rfl⟩:=h;rfl;cases h
theorem zv:∀{t:FT}{cs r:au AC}{x:t.ct.D},Mw t cs=some (x,r)->cs=jc t x++r:=by
 intro t;induction t with
 |int k=>intro cs r x h;cases cs with|nil=>simp[Mw]at h|cons y ys=>cases y<;>simp[Mw]at h;obtain⟨rfl,rfl,rfl⟩:=h;rfl
 |bool=>intro cs r x h;cases cs with|nil=>simp[Mw]at h|cons y ys=>cases y<;>simp[Mw]at h;obtain⟨rfl,rfl⟩:=h;rfl
 |str=>intro cs r x h;cases cs with|nil=>simp[Mw]at h|cons y ys=>cases y<;>simp[Mw]at h;obtain⟨rfl,rfl⟩:=h;rfl
 |sl fl e=>
  intro cs r x h;cases cs with
  |nil=>simp[Mw]at h
  |cons y ys=>
   cases y with
   |sl fl' e' xs=>
    simp only[Mw]at h;split at h
    ·rename_i he;subst he;cases hf:fl.fits fl' with
     |false=>rw[hf]at h;cases h
     |true=>
      rw[hf]at h;cases h;rw[FK.aas hf];have hn:fl.isNil=false:=by cases fl<;>first|rfl|(unfold FK.fits at hf;cases hf)
      simp only[jc,hn,ae];rfl
    cases h
   |jE=>simp only[Mw]at h;cases hn:fl.isNil with|false=>rw[hn]at h;cases h|true=>rw[hn]at h;cases h;simp only[jc,hn,af];rfl
   |_=>simp[Mw]at h
 |pair a b iha ihb=>intro cs r x h;simp only[Mw]at h;obtain⟨⟨x1,r1⟩,h1,h⟩:=aO.1 h;obtain⟨⟨x2,r2⟩,h2,h⟩:=aO.1 h;cases h;have h3:r1=jc b x2++r2:=ihb h2;rw[iha h1,h3];simp[jc]
theorem Lu:∀(rs:au (Bool×FT))(ys:au (Bool×au AC))(y:ij rs),ka rs ys=some y->ys=ahJ rs y
 |[],[],y,_=>rfl
 |[],_::_,y,h=>by simp[ka]at h
 |[(g,t)],ys,y,h=>by
  cases ys with
  |nil=>simp[ka]at h
  |cons p ys=>
   cases ys with
   |cons _ _=>simp[ka]at h
   |nil=>
    obtain⟨g',cs⟩:=p;simp only[ka]at h;cases hg:g==g' with
    |false=>rw[hg]at h;cases h
    |true=>
     rw[hg]at h;have:g=g':=by simpa using hg
     subst this;simp only[af]at h;split at h;rename_i x hx;cases h;have:=zv hx;rw[bA]at this;rw[this];rfl;cases h
 |(g,t)::p::r,ys,y,h=>by
  cases ys with
  |nil=>simp[ka]at h
  |cons q ys=>
   obtain⟨g',cs⟩:=q;simp only[ka]at h;cases hg:g==g' with
   |false=>rw[hg]at h;cases h
   |true=>
    rw[hg]at h;have:g=g':=by simpa using hg
    subst this;simp only[af]at h;split at h;rename_i x hx;obtain⟨z,hz,h⟩:=aO.1 h;cases h;have h1:=zv hx;rw[bA]at h1;rw[h1,Lu (p::r) ys z hz];rfl;cases h
theorem LH {E:Env}(hE:jA P E.ty){fn:Func}{bM:AS}{a':Act}{w':World}(hg:dN C g bM a' w' []){had:au (Bool×Nat)}(Sr:oZ bM E had fn.results.toList=some ys){y:ij rs}(fG:ka rs ys=some y): ∃v fp,(Go.results fn a'.tmps).run P w'=.ok v w'/\fF (eS C.A g.hw w') v (xz rs y) fp/\fp.Nodup/\∀b∈fp,∃own,own∉had/\g.ej b=some (AE own):=by
 have hys:=Lu rs ys y fG;let gf:ResultVar->Value:=λrv=>match (Ec a'.tmps rv).run P w' with| .ok v _=>v|_=>undef
 obtain⟨adw,fp,ed,Ft,EX⟩:=ZM hE hg gf fn.results.toList had ys Sr (λrv v hv=>by simp only[gf,hv]);have ahe:=Ed (P:=P) (Ec a'.tmps) gf w' fn.results (λx hx=>adw x (by simpa using hx));have dX:(Go.results fn a'.tmps).run P w'=.ok (if h:(fn.results.map gf).size=1 then(fn.results.map gf)[0] else .tuple (fn.results.map gf)) w':=by
  have:Go.results fn a'.tmps=(do
   let vs<-fn.results.mapM (Ec a'.tmps)
   pure (if h:vs.size=1 then vs[0] else .tuple vs)):=by
   unfold Go.results
   congr 1
  rw[this];simp only[Sem.run_bind,ahe,Result.andThen_ok,Sem.run_pure]
 refine⟨_,fp,dX,?_,Ft,EX⟩;have UB:(fn.results.map gf).toList=fn.results.toList.map gf:=by simp
 unfold xz;rw[<-hys];cases ys with
 |nil=>
  have Sq:fn.results.toList.map gf=[]:=by cases hm:fn.results.toList.map gf with|nil=>rfl|cons u us=>rw[hm]at ed;exact ed.elim
  have uq:¬(fn.results.map gf).size=1:=by rw[<-Array.length_toList,UB,Sq];simp
  rw[dif_neg uq];exact⟨_,by rw[<-UB],ed⟩
 |cons y1 ys=>
  cases ys with
  |nil=>
   obtain⟨gg,cs⟩:=y1;cases hm:fn.results.toList.map gf with
   |nil=>rw[hm]at ed;exact ed.elim
   |cons u us=>
    rw[hm]at ed;obtain⟨f1,f2,rfl,Xr,mU⟩:=ed;cases us with
    |cons _ _=>exact mU.elim
    |nil=>
     cases mU;have L2:fn.results.map gf=#[u]:=by apply eO;rw[UB,hm]
     have:(if h:(fn.results.map gf).size=1 then(fn.results.map gf)[0] else .tuple (fn.results.map gf))=u:=by rw[dif_pos (by rw[L2];rfl)];simp only[L2];rfl
     rw[this,bA];exact Xr
  |cons y2 ys=>
   have uq:¬(fn.results.map gf).size=1:=by rw[<-Array.length_toList,UB];cases hm:fn.results.toList.map gf with|nil=>simp|cons u us=>rw[hm]at ed;obtain⟨f1,f2,rfl,Xr,mU⟩:=ed;cases us with|nil=>exact mU.elim|cons u2 us=>simp
   rw[dif_neg uq];exact⟨_,by rw[<-UB],ed⟩
theorem HX {E:Env}(hE:jA P E.ty){fn:Func}{bM:AS}{a':Act}{w':World}(hg:dN C g bM a' w' [])(Sr:oZ bM E [] fn.results.toList=some ys){y:ij rs}(fG:ka rs ys=some y): ∃v fp,(Go.results fn a'.tmps).run P w'=.ok v w'/\fF (eS C.A g.hw w') v (xz rs y) fp/\fp.Nodup/\∀b∈fp,∃own,g.ej b=some (AE own):=by obtain⟨v,fp,h1,h2,h3,h4⟩:=LH hE hg Sr fG;exact⟨v,fp,h1,h2,h3,λb hb=>(h4 b hb).imp λ_ h=>h.2⟩
theorem aav {E:Env}{rs:au (Bool×FT)}(hS:Sound P E Γ){fn:Func}(hf:P.funcs[f]?=some fn)(BB:(fn.name== "runtime.NumGoroutine")=false)(EY:Aa E Γ an Λ (fn.body.getD .skip)):lH P f {R:=ij rs,fn:=Fa E Γ an Λ fn rs,av:=xz rs}:=by
 intro xs y hy;simp only at hy;unfold Fa at hy;cases hb:fn.body with
 |none=>rw[hb]at hy;cases hy
 |some c=>
  rw[hb]at hy;simp only at hy;split at hy;refine⟨⟨fn,c,hf,hb,BB⟩,λ_ _ A w vs hA fy=>?_,λh=>(by cases h),λh=>(by cases h),λh=>(by cases h)⟩;refine calls_of_wp hf hb (wp_mono (M6 hS c (by rw[hb]at EY;exact EY) _ _ _ _ (KX hA fy) hy) ?_);rintro e a' w' ⟨ex,bM,he,hs,hk⟩;have main:aa (oZ bM E [] fn.results.toList) (ka rs)=some y->a'.defers=[]/\∃v,(Go.results fn a'.tmps).run P w'=.ok v w'/\∃Z5 hw fp,Ending.returned v=Ending.returned Z5/\fF (eS A hw w') Z5 (xz rs y) fp/\fp.Nodup/\(∀b∈fp,w.heap.size<=b/\b<w'.heap.size)/\Fr (λ_=>False) w w':=by intro fG;obtain⟨g,hg⟩:=hs;refine⟨hg.defers,?_⟩;cases Sr:oZ bM E [] fn.results.toList with|none=>rw[Sr]at fG;cases fG|some ys=>rw[Sr]at fG;obtain⟨v,fp,dX,ed,Ft,EX⟩:=HX hS.ty hg Sr fG;refine⟨v,dX,v,g.hw,fp,rfl,ed,Ft,λb hb=>?_,hg.frame⟩;obtain⟨own,hl⟩:=EX b hb;have:=hg.fR b _ hl;exact⟨this.2.resolve_right (λf=>f),this.1⟩
  cases e<;>cases ex<;>simp only[GY]at he;exact main hk;cases hk;exact main hk;cases hy
theorem ac9 {E:Env}{Mc:au (Bool×FT)}(h2:ij Mc=ij rs)(hS:Sound P E Γ){fn:Func}(hf:P.funcs[f]?=some fn)(BB:(fn.name== "runtime.NumGoroutine")=false)(EY:Aa E Γ an Λ (fn.body.getD .skip)):lH P f {R:=Bool×ij rs,fn:=evalAlt E Γ an Λ fn rs Mc h2,av:=λy=>xz rs y.2,sel:=λy=>y.1,alt:=λy=>xz Mc (cast h2.symm y.2)}:=by
 intro xs y hy;simp only at hy;unfold evalAlt at hy;cases hb:fn.body with
 |none=>rw[hb]at hy;cases hy
 |some c=>
  rw[hb]at hy;simp only at hy;split at hy;refine⟨⟨fn,c,hf,hb,BB⟩,λ_ _ A w vs hA fy=>?_,λh=>(by cases h),λh=>(by cases h),λh=>(by cases h)⟩;refine calls_of_wp hf hb (wp_mono (M6 hS c (by rw[hb]at EY;exact EY) _ _ _ _ (KX hA fy) hy) ?_);rintro e a' w' ⟨ex,bM,he,hs,hk⟩
  have main:(aa (oZ bM E [] fn.results.toList) λys=>match ka rs ys with
   |some y=>some (true,y)
   |none=>match ka Mc ys with
    |some y=>some (false,cast h2 y)
    |none=>none)=some y->a'.defers=[]/\∃v,(Go.results fn a'.tmps).run P w'=.ok v w'/\∃Z5 hw fp,Ending.returned v=Ending.returned Z5/\
   fF (eS A hw w') Z5 (cond y.1 (xz rs y.2) (xz Mc (cast h2.symm y.2))) fp/\fp.Nodup/\(∀b∈fp,w.heap.size<=b/\b<w'.heap.size)/\Fr (λ_=>False) w w':=by
   intro fG
   obtain⟨g,hg⟩:=hs
   refine⟨hg.defers,?_⟩
   cases Sr:oZ bM E [] fn.results.toList with
   |none=>rw[Sr]at fG;cases fG
   |some ys=>
    rw[Sr]at fG
    simp only[aa]at fG
    have fin:∀(rs':au (Bool×FT))(y':ij rs'),ka rs' ys=some y'->∃v,(Go.results fn a'.tmps).run P w'=.ok v w'/\∃Z5 hw fp,Ending.returned v=Ending.returned Z5/\
     fF (eS A hw w') Z5 (xz rs' y') fp/\fp.Nodup/\(∀b∈fp,w.heap.size<=b/\b<w'.heap.size)/\Fr (λ_=>False) w w':=by
     intro rs' y' QD
     obtain⟨v,fp,dX,ed,Ft,EX⟩:=HX hS.ty hg Sr QD
     refine⟨v,dX,v,g.hw,fp,rfl,ed,Ft,λb hb=>?_,hg.frame⟩
     obtain⟨own,hl⟩:=EX b hb
     have:=hg.fR b _ hl
     exact⟨this.2.resolve_right (λf=>f),this.1⟩
    cases h1:ka rs ys with
    |some y1=>rw[h1]at fG;cases fG;exact fin rs y1 h1
    |none=>
     rw[h1]at fG
     simp only at fG
     cases h3:ka Mc ys with
     |none=>rw[h3]at fG;cases fG
     |some y1=>
      rw[h3]at fG
      cases fG
      simp only[ae,cast_cast,cast_eq]
      exact fin Mc y1 h3
  cases e<;>cases ex<;>simp only[GY]at he;exact main hk;cases hk;exact main hk;cases hy
def adh (vs:ie)(t:Nat):Value:=(vs[t/3-4096*1000003]?).getD undef
theorem adQ {c:RC}(Qz:c.w=w)(EV:c.hw=hw)(II:∀t,t%3=0->c.iss t){all:ie}(L3:∀t,c.hdr t=adh all t):
 ∀(j:Nat){vs:ie}{cs:au AC}{fp:eo},bE (eS A hw w) vs cs fp->cs.all AC.XM=true->(∀i v,vs[i]?=some v->all[j+i]?=some v)->
  bE c vs (XL j cs) fp/\bE c vs (BI j cs) []:=by
 intro j vs
 induction vs generalizing j with
 |nil=>intro cs fp h _ _;cases cs with
  |nil=>exact⟨h,rfl⟩
  |cons _ _=>exact h.elim
 |cons v vs ih=>
  intro cs fp h jY EU
  cases cs with
  |nil=>exact h.elim
  |cons x cs=>
   obtain⟨f1,f2,rfl,h1,h2⟩:=h
   simp only[bR,ah]at jY
   obtain⟨i1,i2⟩:=ih (j+1) h2 jY.2 (λi u hu=>by rw[show j+1+i=j+(i+1) by omega];exact EU (i+1) u (by simpa using hu))
   have Ll:=EU 0 v rfl
   rw[eh]at Ll
   have lE:c.iss (AD j)/\v=c.hdr (AD j):=by refine⟨II _ (by unfold AD;omega),?_⟩;rw[L3,adh,show AD j/3-4096*1000003=j by unfold AD;omega,Ll];rfl
   have IC:x.jl=true->XL j (x::cs)=x::XL (j+1) cs/\BI j (x::cs)=x::BI (j+1) cs->bE c (v::vs) (XL j (x::cs)) (f1++f2)/\bE c (v::vs) (BI j (x::cs)) []:=by rintro hf ⟨e1,e2⟩;obtain⟨rfl,k⟩:=qe (c':=c) h1 hf;rw[e1,e2];exact⟨⟨[],f2,rfl,k,i1⟩,⟨[],[],rfl,k,i2⟩⟩
   cases x with
   |sl fl e xs=>
    cases fl with
    |own t=>
     have fU:eP c.hw c.w (.sl e) [v] xs f1:=by rw[EV,Qz];exact h1.1
     refine⟨⟨f1,f2,rfl,⟨fU,λq hq=>by cases hq;exact lE⟩,i1⟩,⟨[],[],rfl,⟨rfl,cd _,Ji fU,λ_=>eP.rep (λb o ho=> .inr ho) fU,λr t hp=>?_⟩,i2⟩⟩
     cases hp
     exact⟨lE.1,lE.2⟩
    |arg _=>cases jY.1
    |loc ep pv=>cases jY.1
    |nest _ _ _ _ _ _=>cases jY.1
    |part _ _ _ _=>cases jY.1
    |eY _ _ _=>cases jY.1
   |int k n=>exact IC rfl ⟨rfl,rfl⟩
   |bool b=>exact IC rfl ⟨rfl,rfl⟩
   |str s=>exact IC rfl ⟨rfl,rfl⟩
   |fn f=>exact IC rfl ⟨rfl,rfl⟩
   |jE=>cases jY.1
   |ptr s off=>cases jY.1
   |Cd fl e y i off=>cases jY.1
   |un=>cases jY.1
   |bot=>cases jY.1
theorem Wa (hA:∀k b o,A k b o->b<w.heap.size/\b∉fp){fn:Func}{v0:Value}{us:ie}(eR:Cut gg v0 us)(ed:bE (eS A hw w) us cs fp)(jY:cs.all AC.XM=true)(hn:fp.Nodup)(gB:∀b∈fp,b<w.heap.size)(h:oI A w vs xs): oz ⟨A,λb=>b∈fp,w,us,λk b o hb=>hA k b o hb⟩ (GM fn gg cs xs) {tmps:=(v0::vs).toArray++Array.replicate (fn.ntmps-(v0::vs).toArray.size) undef,defers:=[]} w:=by
 obtain⟨hl,hi⟩:=DJ h;let C:Ctx:=⟨A,λb=>b∈fp,w,us,λk b o hb=>hA k b o hb⟩
 let g:Gh:=⟨hw,λ_=>0,λb=>if b∈fp then some .io else none,adh us⟩
 have hle:(eS A (λ_=>0) w).Le (cQ C g (GM fn gg cs xs) w):=⟨rfl,λt ht=>ht.elim,λ_ _ _ _ _ hv=>hv,aU _,λs hs=>hs.elim,λ_ b o u ho _=>absurd ho (Nat.not_lt_zero _)⟩
 obtain⟨k1,k2⟩:=adQ (c:=cQ C g (GM fn gg cs xs) w) (A:=A) rfl rfl (λt ht=> .inl (by omega)) (all:=us) (λt=>rfl) 0 ed jY (λi v hv=>by rw[cl];exact hv);refine⟨g,rfl,?_,?_,λi av hs=>?_,λs rf hs=>?_,λk v av hk=>by simp at hk,λb x hx=>?_,Fr.refl _ _,⟨fp,k1,hn,λb hb=>by show(if b∈fp then _ else _)=_;rw[aF hb]⟩⟩;simp[GM,ox,hl];omega;·simp[GM,ox];try omega
 have uo:((.val gg (BI 0 cs)::xs)++List.replicate (fn.ntmps-(.val gg (BI 0 cs)::xs).length) AV.bot)[i]?=some av:=hs;rcases bQ i (xs.length+1)with aaE|Ae;rw[bH (by simpa using aaE)]at uo;cases i with
 |zero=>
  simp at uo;subst uo;refine⟨[],?_,by simp,by simp⟩;have hvv:((v0::vs).toArray++Array.replicate (fn.ntmps-(v0::vs).toArray.size) undef).getD 0 undef=v0:=by simp[cR,Array.getElem?_append]
  show fF _ (((v0::vs).toArray++Array.replicate (fn.ntmps-(v0::vs).toArray.size) undef).getD 0 undef) _ _;rw[hvv];exact⟨us,eR,k2⟩
 |succ i=>
  obtain⟨v,hv,hr⟩:=hi i av (by simpa using uo);refine⟨[],?_,by simp,by simp⟩;have hvv:((v0::vs).toArray++Array.replicate (fn.ntmps-(v0::vs).toArray.size) undef).getD (i+1) undef=v:=by
   have ado:i<vs.length:=by omega
   have Zq:vs[i]=v:=by rw[al ado]at hv;exact cC hv
   simp[cR,Array.getElem?_append,ado,Zq]
  show fF _ (((v0::vs).toArray++Array.replicate (fn.ntmps-(v0::vs).toArray.size) undef).getD (i+1) undef) _ _;rw[hvv];exact hr.mono hle (by simp)
 rw[bz (by simpa using Ae),dp]at uo;split at uo;cases uo;exact⟨[],fF.bot _ _,by simp,by simp⟩;cases uo;have uo:(List.replicate ((AV.val gg (BI 0 cs)::xs).length+(fn.ntmps-(AV.val gg (BI 0 cs)::xs).length)) (none:ax (au AC)))[s]?=some (some rf):=hs;rw[dp]at uo;split at uo<;>cases uo;have B7:(if b∈fp then some jI.io else none)=some x:=hx;split at B7;rename_i hm;exact⟨gB b hm,.inr hm⟩;cases B7
theorem an7 {E:Env}{rs:au (Bool×FT)}{t:CT}(hS:Sound P E Γ){fn:Func}(hf:P.funcs[f]?=some fn)(BB:(fn.name== "runtime.NumGoroutine")=false)(EY:Aa E Γ an Λ (fn.body.getD .skip)):lH P f {R:=ij rs×t.D,fn:=Xd E Γ an Λ fn rs t,av:=λy=>xz rs y.1,io:=true,back:=λy=>cellsOf t (.own none) y.2}:=by
 intro xs y hy;simp only at hy;unfold Xd at hy;split at hy;rename_i c gg cs rest hb;split at hy;rename_i hlen;refine⟨⟨fn,c,hf,hb,BB⟩,λh=>(by cases h),λ_ g0 Pg aeq he A w v0 vs hw fp hA ed hn gB fy=>?_,λh=>(by cases h),λh=>(by cases h)⟩;injection he with he1 he2;injection he1 with he1 he3;subst he1;subst he2;subst he3;obtain⟨us,eR,ed⟩:=ed;refine calls_of_wp hf hb (wp_mono (M6 hS c (by rw[hb]at EY;exact EY) _ _ _ _ (Wa (fn:=fn) hA eR ed hlen.2 hn gB fy) hy) ?_);rintro e a' w' ⟨ex,bM,he,hs,hk⟩
 have main:(aa (aa (oZ bM E [] fn.results.toList) (ka rs)) λr=>match jt t bM.io with|some (x,[])=>some (r,x)|_=>none)=some y->
  a'.defers=[]/\∃v,(Go.results fn a'.tmps).run P w'=.ok v w'/\∃Z5 hw' fr jL,Ending.returned v=Ending.returned Z5/\fF (eS A hw' w') Z5 (xz rs y.1) fr/\fF (eS A hw' w') v0 (.val gg (cellsOf t (.own none) y.2)) jL/\jL.Nodup/\(∀b∈jL,b<w'.heap.size/\(b∈fp\/w.heap.size<=b))/\Fr (λb=>b∈fp) w w':=by
  intro fG
  obtain⟨g,hg⟩:=hs
  refine⟨hg.defers,?_⟩
  cases Sr:oZ bM E [] fn.results.toList with
  |none=>rw[Sr]at fG;cases fG
  |some ys=>
   rw[Sr]at fG
   simp only[aa]at fG
   cases hrr:ka rs ys with
   |none=>rw[hrr]at fG;cases fG
   |some r0=>
    rw[hrr]at fG
    simp only at fG
    split at fG
    ·rename_i x hx
     cases fG
     obtain⟨v,fr,dX,vn,Ft,EX⟩:=HX hS.ty hg Sr hrr
     obtain⟨jL,Nz,Dc,hl'⟩:=hg.io
     obtain⟨f1,f2,rfl,fU,mU⟩:=rK Nz hx
     have Sq:us.drop t.size=[]:=by cases hd:us.drop t.size with|nil=>rfl|cons _ _=>have NI:bE _ (us.drop t.size) _ _:=mU;rw[hd]at NI;exact NI.elim
     have EH:f2=[]:=by have NI:bE _ (us.drop t.size) [] f2:=mU;rw[Sq]at NI;exact NI
     subst EH
     rw[bA]at Dc hl'
     have ady:us.take t.size=us:=by have:=bW t.size us;rw[Sq,bA]at this;exact this
     have De:eP g.hw w' t us x f1:=by have De:eP g.hw w' t (us.take t.size) x f1:=fU;rwa[ady]at De
     refine⟨v,dX,v,g.hw,fr,f1,rfl,vn,⟨us,eR,vw (c:=eS A g.hw w') De⟩,Dc,λb hb=>?_,hg.frame⟩
     have:=hg.fR b _ (hl' b hb)
     exact⟨this.1,this.2.symm⟩
    ·cases fG
 cases e<;>cases ex<;>simp only[GY]at he;exact main hk;cases hk;exact main hk;cases hy;cases hy
theorem aag {c:RC}(hcA:c.A=A)(Qz:c.w=w)(EV:c.hw=hw)(II:∀t,t%3=1->c.iss t){all:ie}(L3:∀t,c.hdr t=(all[t/3]?).getD undef):
 ∀(j:Nat){vs:ie}{cs:au AC}{fp:eo},bE (eS A hw w) vs cs fp->cs.all (AC.Ac true)=true->(∀i v,vs[i]?=some v->all[j+i]?=some v)->bE c vs (Io j cs) fp:=by
 intro j vs
 induction vs generalizing j with
 |nil=>intro cs fp h _ _;cases cs with
  |nil=>exact h
  |cons _ _=>exact h.elim
 |cons v vs ih=>
  intro cs fp h jY EU
  cases cs with
  |nil=>exact h.elim
  |cons x cs=>
   obtain⟨f1,f2,rfl,h1,h2⟩:=h
   simp only[bR,ah]at jY
   have i1:=ih (j+1) h2 jY.2 (λi u hu=>by rw[show j+1+i=j+(i+1) by omega];exact EU (i+1) u (by simpa using hu))
   have Ll:=EU 0 v rfl
   rw[eh]at Ll
   have IC:x.jl=true->Io j (x::cs)=x::Io (j+1) cs->bE c (v::vs) (Io j (x::cs)) (f1++f2):=by rintro hf e1;obtain⟨rfl,k⟩:=qe (c':=c) h1 hf;rw[e1];exact⟨[],f2,rfl,k,i1⟩
   cases x with
   |sl fl e xs=>
    cases fl with
    |own t=>
     have fU:eP c.hw c.w (.sl e) [v] xs f1:=by rw[EV,Qz];exact h1.1
     refine⟨f1,f2,rfl,⟨fU,λq hq=>?_⟩,i1⟩
     cases hq
     refine⟨II _ (by omega),?_⟩
     rw[L3,show(3*j+1)/3=j by omega,Ll];rfl
    |arg k=>
     have hk:k=true:=by simpa[AC.Ac]using jY.1
     subst hk
     exact⟨f1,f2,rfl,⟨h1.1,by rw[Qz,hcA];exact h1.2⟩,i1⟩
    |loc ep pv=>cases jY.1
    |nest _ _ _ _ _ _=>cases jY.1
    |part _ _ _ _=>cases jY.1
    |eY _ _ _=>cases jY.1
   |int k n=>exact IC rfl rfl
   |bool b=>exact IC rfl rfl
   |str s=>exact IC rfl rfl
   |fn f=>exact IC rfl rfl
   |jE=>cases jY.1
   |ptr s off=>cases jY.1
   |Cd fl e y i off=>cases jY.1
   |un=>cases jY.1
   |bot=>cases jY.1
theorem Ti {b:Nat}(hA:∀k b' o,A k b' o->b'<w.heap.size/\b'≠b/\b'∉fp){fn:Func}{arr:Array Value}{T:TypeId}{fr:Nat×Nat}(kz:w.heap[b]?=some (.cells arr T fr))(tw:qw arr fr)(ed:bE (eS A hw w) arr.toList cs fp)(jY:cs.all (AC.Ac true)=true)(hn:fp.Nodup)(xx:b∉fp)(gB:∀b'∈fp,b'<w.heap.size)(Ic:hw b=0)(h:oI A w vs xs): oz ⟨A,λb'=>b'=b\/b'∈fp,w,[.pointer (some ⟨b,0,none⟩)],λk b' o hb=>⟨(hA k b' o hb).1,λhm=>hm.elim (hA k b' o hb).2.1 (hA k b' o hb).2.2⟩⟩ (BU fn cs xs) {tmps:=(.pointer (some ⟨b,0,none⟩)::vs).toArray++Array.replicate (fn.ntmps-(Value.pointer (some ⟨b,0,none⟩)::vs).toArray.size) undef,defers:=[]} w:=by
 obtain⟨hl,hi⟩:=DJ h;let v0:Value:=.pointer (some ⟨b,0,none⟩);let C:Ctx:=⟨A,λb'=>b'=b\/b'∈fp,w,[v0],λk b' o hb=>⟨(hA k b' o hb).1,λhm=>hm.elim (hA k b' o hb).2.1 (hA k b' o hb).2.2⟩⟩
 let g:Gh:=⟨hw,λ_=>b,λb'=>if b'=b\/b'∈fp then some (.box 0) else none,λt=>(arr.toList[t/3]?).getD undef⟩
 have G5:=mc kz;have vT:jm (BU fn cs xs) 0:=⟨Io 0 cs,rfl⟩
 have hle:(eS A (λ_=>0) w).Le (cQ C g (BU fn cs xs) w):=⟨rfl,λt ht=>ht.elim,λ_ _ _ _ _ hv=>hv,aU _,λs hs=>hs.elim,λ_ b o u ho _=>absurd ho (Nat.not_lt_zero _)⟩
 have k1:=aag (c:=cQ C g (BU fn cs xs) w) (A:=A) rfl rfl rfl (λt ht=> .inl (by omega)) (all:=arr.toList) (λt=>rfl) 0 ed jY (λi v hv=>by rw[cl];exact hv);refine⟨g,rfl,?_,?_,λi av hs=>?_,λs rf hs=>?_,λk v av hk=>by simp at hk,λb' x hx=>?_,Fr.refl _ _,⟨[],⟨[],[],rfl,⟨rfl,vT,rfl⟩,rfl⟩,by simp,by simp⟩⟩;simp[BU,ox,hl];omega;simp[BU,ox];have uo:((.one (.ptr 0 0)::xs)++List.replicate (fn.ntmps-(AV.one (.ptr 0 0)::xs).length) AV.bot)[i]?=some av:=hs;rcases bQ i (xs.length+1)with aaE|Ae;rw[bH (by simpa using aaE)]at uo;cases i with
 |zero=>
  simp at uo;subst uo;refine⟨[],?_,by simp,by simp⟩;have hvv:((v0::vs).toArray++Array.replicate (fn.ntmps-(v0::vs).toArray.size) undef).getD 0 undef=v0:=by simp[cR,Array.getElem?_append]
  show fF _ (((v0::vs).toArray++Array.replicate (fn.ntmps-(v0::vs).toArray.size) undef).getD 0 undef) _ _;rw[hvv];exact mH ⟨rfl,vT,rfl⟩
 |succ i=>
  obtain⟨v,hv,hr⟩:=hi i av (by simpa using uo);refine⟨[],?_,by simp,by simp⟩;have hvv:((v0::vs).toArray++Array.replicate (fn.ntmps-(v0::vs).toArray.size) undef).getD (i+1) undef=v:=by
   have ado:i<vs.length:=by omega
   have Zq:vs[i]=v:=by rw[al ado]at hv;exact cC hv
   simp[cR,Array.getElem?_append,ado,Zq]
  show fF _ (((v0::vs).toArray++Array.replicate (fn.ntmps-(v0::vs).toArray.size) undef).getD (i+1) undef) _ _;rw[hvv];exact hr.mono hle (by simp)
 rw[bz (by simpa using Ae),dp]at uo;split at uo;cases uo;exact⟨[],fF.bot _ _,by simp,by simp⟩;cases uo;have uo:(some (Io 0 cs)::List.replicate (xs.length+(fn.ntmps-(xs.length+1))) (none:ax (au AC)))[s]?=some (some rf):=hs;cases s with|zero=>simp at uo;subst uo;refine⟨arr,T,fr,fp,kz,tw,k1,hn,xx,λb' gQ=>?_,?_,Ic⟩;show(if b'=b\/b'∈fp then _ else _)=_;rw[aF (.inr gQ)];show(if b=b\/b∈fp then _ else _)=_;rw[aF (.inl rfl)]|succ s=>simp only[eH,dp]at uo;split at uo<;>cases uo
 have B7:(if b'=b\/b'∈fp then some (jI.box 0) else none)=some x:=hx;split at B7;rename_i hm;rcases hm with rfl|hm;exact⟨G5,.inr (.inl rfl)⟩;exact⟨gB b' hm,.inr (.inr hm)⟩;cases B7
theorem ah8 {E:Env}{rs:au (Bool×FT)}{t:FT}(hS:Sound P E Γ){fn:Func}(hf:P.funcs[f]?=some fn)(BB:(fn.name== "runtime.NumGoroutine")=false)(EY:Aa E Γ an Λ (fn.body.getD .skip)):lH P f {R:=ij rs×t.ct.D,fn:=R8 E Γ an Λ fn rs t,av:=λy=>xz rs y.1,back:=λy=>jc t y.2,bx:=true}:=by
 intro xs y hy;simp only at hy;unfold R8 at hy;split at hy;rename_i c cs rest hb;split at hy;rename_i hlen;refine⟨⟨fn,c,hf,hb,BB⟩,λ_ h=>(by cases h),λh=>(by cases h),λ_ Pg aeq he A w b vs arr T fr hw fp hA kz tw ed hn xx gB Ic fy=>?_,λh=>(by cases h)⟩;injection he with he1 he2;injection he1 with _ he3;subst he2;subst he3;refine calls_of_wp hf hb (wp_mono (M6 hS c (by rw[hb]at EY;exact EY) _ _ _ _ (Ti (fn:=fn) hA kz tw ed hlen.2 hn xx gB Ic fy) hy) ?_);rintro e a' w' ⟨ex,bM,he,hs,hk⟩
 have main:(aa (aa (oZ bM E [(true,0)] fn.results.toList) (ka rs)) λr=>match bM.io,bM.boxes with
  |[.ptr 0 0],some rf::_=>(match Mw t (rf.map AC.strip)with|some (x,[])=>some (r,x)|_=>none)
  |_,_=>none)=some y->
  a'.defers=[]/\∃v,(Go.results fn a'.tmps).run P w'=.ok v w'/\∃Z5 hw' fv jb T' Qv jL,Ending.returned v=Ending.returned Z5/\fF (eS A hw' w') Z5 (xz rs y.1) fv/\w'.heap[b]?=some (.cells jb T' Qv)/\qw jb Qv/\
    bE (eS A hw' w') jb.toList (jc t y.2) jL/\jL.Nodup/\b∉jL/\(∀b'∈jL,b'<w'.heap.size/\(b'∈fp\/w.heap.size<=b'))/\fv.Nodup/\(∀b'∈fv,b'<w'.heap.size/\(b'∈fp\/w.heap.size<=b')/\b'∉jL/\b'≠b)/\Fr (λb'=>b'=b\/b'∈fp) w w':=by
  intro fG
  obtain⟨g,hg⟩:=hs
  refine⟨hg.defers,?_⟩
  cases Sr:oZ bM E [(true,0)] fn.results.toList with
  |none=>rw[Sr]at fG;cases fG
  |some ys=>
   rw[Sr]at fG
   simp only[aa]at fG
   cases hrr:ka rs ys with
   |none=>rw[hrr]at fG;cases fG
   |some r0=>
    rw[hrr]at fG
    simp only at fG
    split at fG
    ·rename_i rf tl Nz jX
     split at fG
     ·rename_i x hx
      cases fG
      obtain⟨v,fv,dX,vn,Ft,EX⟩:=LH hS.ty hg Sr hrr
      obtain⟨fpi,hri,_,_⟩:=hg.io
      rw[Nz]at hri
      obtain⟨g1,g2,_,aoz,_⟩:=hri
      have Km:b=g.β 0:=by have:=aoz.1;simp only[Value.pointer.injEq,ba,Addr.mk.injEq]at this;exact this.1
      obtain⟨jb,T',Qv,jL,IH,UI,hr',Dc,IJ,hl',ais,_⟩:=hg.boxes 0 rf (by rw[jX];rfl)
      rw[<-Km]at IH IJ ais
      have lE:=zE hr'
      have Kl:=zv hx
      rw[bA]at Kl
      rw[Kl]at lE
      have hM:∀b',(w.heap.size<=b'\/(b'=b\/b'∈fp))->b'≠b->b'∈fp\/w.heap.size<=b':=by rintro b' (h2|h2|h2) DT;exact .inr h2;exact absurd h2 DT;exact .inl h2
      refine⟨v,dX,v,g.hw,fv,jb,T',Qv,jL,rfl,vn,IH,UI,lE,Dc,IJ,λb' gQ=>?_,Ft,λb' gQ=>?_,hg.frame⟩
      ·have:=hg.fR b' _ (hl' b' gQ)
       exact⟨this.1,hM b' this.2 (λe=>IJ (e▸gQ))⟩
      ·obtain⟨own,L4,QA⟩:=EX b' gQ
       have Ib:g.ej b'≠some (.box 0):=by rw[QA];intro e;have e2:AE own=AE (true,0):=cC e;exact L4 (by rw[Lv e2];simp)
       have DT:b'≠b:=λe=>Ib (by rw[e];exact ais)
       have:=hg.fR b' _ QA
       exact⟨this.1,hM b' this.2 DT,λhm=>Ib (hl' b' hm),DT⟩
     ·cases fG
    ·cases fG
 cases e<;>cases ex<;>simp only[GY]at he;exact main hk;cases hk;exact main hk;cases hy;cases hy
theorem ah9 {E:Env}{t:FT}(hS:Sound P E Γ){fn:Func}(hf:P.funcs[f]?=some fn)(BB:(fn.name== "runtime.NumGoroutine")=false)(EY:Aa E Γ an Λ (fn.body.getD .skip)):lH P f {R:=t.ct.D,fn:=Mq E Γ an Λ fn t,av:=λ_=> .bot,back:=λy=>jc t y,pr:=true}:=by
 intro xs y hy;simp only at hy;unfold Mq at hy;cases hb:fn.body with
 |none=>rw[hb]at hy;cases hy
 |some c=>
  rw[hb]at hy;simp only at hy;split at hy;have key:agp P f {R:=t.ct.D,fn:=Mq E Γ an Λ fn t,av:=λ_=> .bot,back:=λy=>jc t y,pr:=true} y xs:=by
   intro A w vs hA fy;refine calls_of_wp hf hb (wp_mono (M6 hS c (by rw[hb]at EY;exact EY) _ _ _ _ (KX hA fy) hy) ?_);rintro e a' w' ⟨ex,bM,he,hs,hk⟩
   have main:(match fn.results.toList with
    |[.tmp i]=>match bM.get i with
     | .val false [.ptr s 0]=>match (nth bM.boxes s).getD none with
       |some cs=>if cs.all AC.J9=true then(match Mw t (cs.map AC.strip)with|some (x,[])=>some x|_=>none) else none
       |none=>none
     |_=>none
    |_=>none)=some y->a'.defers=[]/\∃v,(Go.results fn a'.tmps).run P w'=.ok v w'/\∃b arr T fr hw,Ending.returned v=.returned (.pointer (some ⟨b,0,none⟩))/\w.heap.size<=b/\w'.heap[b]?=some (.cells arr T fr)/\qw arr fr/\bE (eS A hw w') arr.toList (jc t y) []/\Fr (λ_=>False) w w':=by
    intro fG
    obtain⟨g,hg⟩:=hs
    refine⟨hg.defers,?_⟩
    split at fG
    ·rename_i i hri
     split at fG
     ·rename_i s hp
      cases jX:(nth bM.boxes s).getD none with
      |none=>rw[jX]at fG;cases fG
      |some cs=>
       rw[jX]at fG
       simp only at fG
       split at fG
       ·rename_i jY
        split at fG
        ·rename_i x hx
         cases fG
         have jX:bM.boxes[s]?=some (some cs):=by rw[dJ]at jX;cases hq:bM.boxes[s]? with|none=>rw[hq]at jX;simp at jX|some q=>rw[hq]at jX;simp at jX;rw[jX]
         obtain⟨fp0,vG,_,_⟩:=hg.slot i
         rw[hp]at vG
         have vG:=Cq vG
         obtain⟨arr,T,fr,fp,kz,tw,ed,hn,xx,hl,Ia,Ic⟩:=hg.boxes s cs jX
         obtain⟨EI,vs,eR,NH⟩:=arg_val (c:=cQ _ g bM w') (c':=cQ _ g bM w') rfl rfl (v:=.agg arr.toList.toArray) (x:=.val true cs) ⟨arr.toList,rfl,ed⟩ jY
         have hvs:arr.toList=vs:=by have eR:Value.agg arr.toList.toArray=.agg vs.toArray:=eR;simp only[Value.agg.injEq]at eR;simpa using congrArg Array.toList eR
         rw[<-hvs]at NH
         have lE:=zE NH
         have Kl:=zv hx
         rw[bA]at Kl
         rw[Kl]at lE
         have dX:(Go.results fn a'.tmps).run P w'=.ok (a'.tmps.getD i undef) w':=by
          have he:fn.results=#[.tmp i]:=by apply eO;exact hri
          have ahe:=Ed (P:=P) (Ec a'.tmps) (λ_=>a'.tmps.getD i undef) w' fn.results (λx hx=>by rw[he]at hx;simp at hx;subst hx;rfl)
          have hd:Go.results fn a'.tmps=(do
           let vs<-fn.results.mapM (Ec a'.tmps)
           pure (if h:vs.size=1 then vs[0] else .tuple vs)):=by
           unfold Go.results
           congr 1
          rw[hd];simp only[Sem.run_bind,ahe,Result.andThen_ok,Sem.run_pure];rw[he];simp
         refine⟨_,dX,g.β s,arr,T,fr,g.hw,congrArg Ending.returned vG,?_,kz,tw,lE,hg.frame⟩
         exact(hg.fR _ _ Ia).2.resolve_right (λf=>f)
        ·cases fG
       ·cases fG
     ·cases fG
    ·cases fG
   cases e<;>cases ex<;>simp only[GY]at he;exact main hk;cases hk;exact main hk
  refine⟨⟨fn,c,hf,hb,BB⟩,λ_ _ A w vs hA fy=>?_,λh=>(by cases h),λh=>(by cases h),λ_=>key⟩;refine(key A w vs hA fy).mono ?_;rintro e w' ⟨b,arr,T,fr,hw,rfl,_,_,_,_,jz⟩;exact⟨_,hw,[],rfl,fF.bot _ _,List.nodup_nil,(λb hb=>by cases hb),jz⟩;cases hy
end Go.Dn
