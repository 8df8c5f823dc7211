import Derived.Test.YtfbhfnniblfpbaaGreatDnAny
/- The soundness of the abstract semantics: code and functions. -/
namespace Go.Dn
open Go.RowKit
variable {P:Program} {C:Ctx} {st:AS} {a:Act} {w:World} {R:Type} {r:R}
variable {an:An} {gg:Bool} {Γ:xO} {g:Gh} {Λ:Gs} {f:Nat} {hw:Nat->Nat} {A:Rg} {rs:ar (Bool×FT)} {ys:ar (Bool×ar AC)} {cs:ar AC} {xs:ar AV} {fp:dV} {vs:ic}
def Im:Exit->Ex->Prop
 | .normal,.normal=>True
 | .ret,.ret=>True
 | .exit i,.exit j=>i=j
 |_,_=>False
def aiI (C:Ctx)(K:Ex->AS->aw R)(r:R)(e:Exit)(a:Act)(w:World):Prop:=
 ∃ex st',Im e ex/\nt C st' a w/\K ex st'=some r
theorem acy {E:Env}(hS:Sound P E Γ){id:Nat}{ops:Array Oper}{d:Bool}(h:nt C st a w){K:AS->aw R}(hk:TN E Γ an id ops.toList d st K=some r){Q:Exit->Act->World->Prop}(hq:∀st' a' w',nt C st' a' w'->K st'=some r->Q .normal a' w'):(Code.region id ops d).wp P Q a w:=by
 unfold TN at hk;split at hk;rw[N6]at hk;cases ho:GJ E Γ an ops.toList d st some with|none=>rw[ho]at hk;cases hk|some st1=>rw[ho]at hk;exact Z1 hS h ho (λa' w' hs=>hq _ _ _ hs hk)
 rename_i s hm;split at hk;rename_i aib;rw[N6]at hk;cases ho:GJ E Γ.calm an ops.toList d st some with|none=>rw[ho]at hk;cases hk|some st1=>rw[ho]at hk;simp only[eu]at hk;cases hb:getBool st1 s with|none=>rw[hb]at hk;cases hk|some b=>rw[hb]at hk;simp only[aa]at hk;have hn:=ab8 (af4 Γ) (λo MV=>aW.1 aib o MV) ho;exact Z1 hS.calm h ho (λa' w' hs=>hq _ _ _ (hs.weaken hn hb) hk)
 cases hk
def Xk (E:Env)(Γ:xO)(an:An)(Λ:Gs)(c:Code):Prop:=
 ∃n,∀(R:Type)(st:AS)(K:Ex->AS->aw R)(r:R),(Λ (dy c)).go st K=some r->AK (an.mask (dy c)) (den E Γ an Λ c) n st K=some r
def COk (E:Env)(Γ:xO)(an:An)(Λ:Gs)(c:Code):Prop:=
 ∀(R:Type)(st:AS)(K:Ex->AS->aw R)(r:R),(Λ (xT c)).go st K=some r->den E Γ an Λ c st (λe st'=>K e (st'.mask (an.mask (xT c+1))))=some r
def AD (E:Env)(Γ:xO)(an:An)(Λ:Gs)(c:Code):Prop:=(∀c'∈im c,Xk E Γ an Λ c')/\∀c'∈ku an.cut c,COk E Γ an Λ c'
theorem adx (c:Code):ku [] c=[]:=by induction c with|seq a b iha ihb=>simp[ku,iha,ihb]|cond _ a b iha ihb=>simp[ku,iha,ihb]|block _ c ih=>simpa[ku]using ih|loop c ih=>simpa[ku]using ih|_=>rfl
theorem AD.of {E:Env}{c:Code}(h:∀c'∈im c,Xk E Γ an Λ c')(hc:an.cut=[]):AD E Γ an Λ c:=⟨h,by rw[hc,adx];simp⟩
theorem NY {E:Env}(hS:Sound P E Γ):∀(c:Code)(_:AD E Γ an Λ c)(st:AS)(a:Act)(w:World)(K:Ex->AS->aw R),nt C st a w->den E Γ an Λ c st K=some r->c.wp P (aiI C K r) a w:=by
 intro c;induction c with
 |skip=>intro Gx st a w K h hk;exact wp_skip ⟨.normal,st,bV,h,hk⟩
 |region id ops d=>intro Gx st a w K h hk;exact acy hS h (by simpa only[den]using hk) (λst' a' w' hs he=>⟨.normal,st',bV,hs,he⟩)
 |seq x y ihx ihy=>
  intro Gx st a w K h hk;have ihx:=ihx ⟨λc hc=>Gx.1 c (by simp[im,hc]),λc hc=>Gx.2 c (by simp[ku,hc])⟩;have ihy:=ihy ⟨λc hc=>Gx.1 c (by simp[im,hc]),λc hc=>Gx.2 c (by simp only[ku];cases an.cut.contains (dy y)<;>simp[hc])⟩;simp only[den]at hk;refine wp_seq (wp_mono (ihx st a w _ h hk) ?_);rintro e a' w' ⟨ex,st',he,hs,GV⟩;cases e<;>cases ex<;>simp only[Im]at he;simp only at GV;cases ee:an.cut.contains (dy y)with|false=>rw[ee]at GV;exact ihy st' a' w' K hs GV|true=>rw[ee]at GV;have hc:=Gx.2 y (by simp only[ku,ee];simp) _ _ _ _ GV;refine wp_mono (ihy _ a' w' _ (hs.mask _) hc) ?_;rintro e2 a2 w2 ⟨ex2,st2,he2,hs2,hk2⟩;exact⟨ex2,_,he2,hs2.mask _,hk2⟩
  exact⟨.exit _,st',he,hs,GV⟩;exact⟨.ret,st',bV,hs,GV⟩
 |cond c x y ihx ihy=>
  intro Gx st a w K h hk;have ihx:=ihx ⟨λc hc=>Gx.1 c (by simp[im,hc]),λc hc=>Gx.2 c (by simp[ku,hc])⟩;have ihy:=ihy ⟨λc hc=>Gx.1 c (by simp[im,hc]),λc hc=>Gx.2 c (by simp[ku,hc])⟩;simp only[den]at hk;split at hk;rename_i t hc;have hv:a.eval c=.bool t:=by obtain⟨g,hg⟩:=h;have:=hg.rd c;rw[hc]at this;exact xg this
  cases t with|true=>exact wp_cond_true hv (ihx st a w K h hk)|false=>exact wp_cond_false hv (ihy st a w K h hk)
  cases hk
 |block id c ih=>intro Gx st a w K h hk;have ih:=ih ⟨λc hc=>Gx.1 c (by simpa[im]using hc),λc hc=>Gx.2 c (by simpa[ku]using hc)⟩;simp only[den]at hk;refine wp_block (wp_mono (ih st a w _ h hk) ?_);rintro e a' w' ⟨ex,st',he,hs,GV⟩;cases e<;>cases ex<;>simp only[Im]at he;exact⟨.normal,st',bV,hs,GV⟩;rename_i i j;subst he;simp only[Exit.inBlock];simp only at GV;by_cases hi:i=id;subst hi;rw[aG rfl];simp only[fY,bL]at GV;exact⟨.normal,st',bV,hs,GV⟩;rw[aF hi];rw[aF (by simpa using hi)]at GV;exact⟨.exit i,st',rfl,hs,GV⟩;exact⟨.ret,st',bV,hs,GV⟩
 |loop c ih=>
  intro Gx st a w K h hk;have ih:=ih ⟨λc hc=>Gx.1 c (by simp[im,hc]),λc hc=>Gx.2 c (by simpa[ku]using hc)⟩;obtain⟨n,hn⟩:=Gx.1 c (by simp[im]);simp only[den]at hk;intro b k cs
  have key:∀m st a w,nt C st a w->AK (an.mask (dy c)) (den E Γ an Λ c) m st K=some r->
   ∃e a' w',aiI C K r e a' w'/\Arrives P (lone (b.at a (.code c:: .inLoop c::k)) cs w) b k cs e a' w':=by
   intro m
   induction m with
   |zero=>intro st a w _ hk;cases hk
   |succ m ihm=>
    intro st a w h hk
    simp only[AK]at hk
    obtain⟨e,Xu,ZH,⟨ex,st',he,hs,GV⟩,MS⟩:=ih st a w _ h hk b (.inLoop c::k) cs
    cases e<;>cases ex<;>simp only[Im]at he
    ·obtain⟨ahN,ahG,aiA,aeh,SZ⟩:=ihm _ Xu ZH (hs.mask _) GV
     exact⟨ahN,ahG,aiA,aeh,.of_steps (Steps.trans MS (.one step_inLoop)) SZ⟩
    ·exact⟨.exit _,Xu,ZH,⟨.exit _,_,he,hs.mask _,GV⟩,.pass (x:=.inLoop c) rfl (λ_ _=> .inl (by simp)) MS⟩
    ·exact⟨.ret,Xu,ZH,⟨.ret,_,bV,hs.mask _,GV⟩,.pass (x:=.inLoop c) rfl (λ_ _=> .inl (by simp)) MS⟩
  cases hp:an.peel.contains (dy c)with
  |false=>rw[hp]at hk;obtain⟨e,a',w',hq,MS⟩:=key n _ a w (h.mask _) (hn _ _ _ _ hk);exact⟨e,a',w',hq,.of_steps (.one step_loop) MS⟩
  |true=>rw[hp]at hk;simp only[af]at hk;obtain⟨e,Xu,ZH,⟨ex,st',he,hs,GV⟩,MS⟩:=ih _ a w _ (h.mask _) hk b (.inLoop c::k) cs;cases e<;>cases ex<;>simp only[Im]at he;obtain⟨ahN,ahG,aiA,aeh,SZ⟩:=key n _ Xu ZH (hs.mask _) (hn _ _ _ _ GV);exact⟨ahN,ahG,aiA,aeh,.of_steps (Steps.trans (.one step_loop) (Steps.trans MS (.one step_inLoop))) SZ⟩;exact⟨.exit _,Xu,ZH,⟨.exit _,_,he,hs.mask _,GV⟩,.of_steps (.one step_loop) (.pass (x:=.inLoop c) rfl (λ_ _=> .inl (by simp)) MS)⟩;exact⟨.ret,Xu,ZH,⟨.ret,_,bV,hs.mask _,GV⟩,.of_steps (.one step_loop) (.pass (x:=.inLoop c) rfl (λ_ _=> .inl (by simp)) MS)⟩
 |exit id=>intro Gx st a w K h hk;exact wp_exit ⟨.exit id,st,rfl,h,hk⟩
 |ret=>intro Gx st a w K h hk;exact wp_ret ⟨.ret,st,bV,h,hk⟩
 |_=>intro Gx st a w K h hk;simp[den]at hk
theorem EE:∀{vs:ic}{xs:ar AV},nb A w vs xs->vs.length=xs.length/\∀(i:Nat)(x:AV),xs[i]?=some x->∃v,vs[i]?=some v/\fL (eQ A (λ_=>0) w) v x []
 |[],[],_=>⟨rfl,by simp⟩
 |v::vs,x::xs,h=>by obtain⟨hl,hi⟩:=EE h.2;refine⟨by simp[hl],λi y hy=>?_⟩;cases i with|zero=>simp at hy;subst hy;exact⟨v,rfl,h.1⟩|succ i=>exact hi i y (by simpa using hy)
 |[],_::_,h=>h.elim
 |_::_,[],h=>h.elim
theorem LW (hA:∀k b o,A k b o->b<w.heap.size){fn:Func}(h:nb A w vs xs): nt ⟨A,λ_=>False,w,[],λk b o hb=>⟨hA k b o hb,λf=>f⟩⟩ (od fn xs) {tmps:=vs.toArray++Array.replicate (fn.ntmps-vs.toArray.size) undef,defers:=[]} w:=by
 obtain⟨hl,hi⟩:=EE h;let C:Ctx:=⟨A,λ_=>False,w,[],λk b o hb=>⟨hA k b o hb,λf=>f⟩⟩
 let g:Gh:=⟨λ_=>0,λ_=>0,λ_=>none,λ_=>undef⟩
 have hle:(eQ A (λ_=>0) w).Le (cy C g (od fn xs) w):=⟨rfl,λt ht=>ht.elim,λ_ _ _ _ _ hv=>hv,aU _,λs hs=>hs.elim,λ_ b o u ho hu=>⟨ho,hu⟩⟩
 refine⟨g,rfl,?_,?_,λi av hs=>?_,λs cs hs=>?_,λk v av hk=>by simp at hk,λb x hx=>(by cases hx),Fr.refl _ _,⟨[],rfl,by simp,by simp⟩⟩;simp[od,hl];simp[od];have uv:(xs++List.replicate (fn.ntmps-xs.length) AV.bot)[i]?=some av:=hs;rcases bQ i xs.length with gV|BD;rw[bw gV]at uv;obtain⟨v,hv,hr⟩:=hi i av uv;refine⟨[],?_,by simp,by simp⟩;have hvv:(vs.toArray++Array.replicate (fn.ntmps-vs.toArray.size) undef).getD i undef=v:=by
  have abk:i<vs.length:=by omega
  have Td:vs[i]=v:=by rw[al abk]at hv;exact cB hv
  simp[cH,Array.getElem?_append,abk,Td]
 show fL _ ((vs.toArray++Array.replicate (fn.ntmps-vs.toArray.size) undef).getD i undef) _ _;rw[hvv];exact hr.mono hle (by simp);rw[bq BD,dk]at uv;split at uv;cases uv;exact⟨[],fL.bot _ _,by simp,by simp⟩;cases uv;have uv:(List.replicate (xs.length+(fn.ntmps-xs.length)) (none:aw (ar AC)))[s]?=some (some cs):=hs;rw[dk]at uv;split at uv<;>cases uv
theorem Zy {v:Value}{x:AC}(h:gI (cy C g st w) v x fp):gI (eQ C.A g.hw w) v x.strip fp:=by
 cases x with
 |int k n=>exact h
 |bool b=>exact h
 |str s=>exact h
 |jw=>exact h
 |fn f=>exact h
 |un=>exact h
 |bot=>exact h
 |ptr s off=>exact h.2.2
 |C1 fl e y i off=>cases fl with|own t=>exact h.elim|nest _ _ _ _ _ _=>exact h.elim|part _ _ _ _=>exact h.elim|fe _ _ _=>exact h.elim|arg _=>exact h.1|loc ep pv=>exact h.1
 |sl fl e xs=>
  cases fl with
  |nest _ _ _ _ _ _=>exact h.1
  |part _ _ _ _=>exact h.1
  |fe _ _ _=>obtain⟨_,⟨k,hk,h3⟩,_⟩:=h;exact⟨λq hq=>(by cases hq),⟨k,hk,h3⟩,by simp⟩
  |own t=>exact⟨h.1,by simp⟩
  |arg _=>exact h
  |loc ep pv=>exact h.1
theorem Ad:∀{vs:ic}{xs:ar AC}{fp:dV},bn (cy C g st w) vs xs fp->bn (eQ C.A g.hw w) vs (xs.map AC.strip) fp
 |[],[],_,h=>h
 |_::_,_::_,_,h=>by obtain⟨f1,f2,rfl,h1,h2⟩:=h;exact⟨f1,f2,rfl,Zy h1,Ad h2⟩
 |[],_::_,_,h=>h.elim
 |_::_,[],_,h=>h.elim
def Ft (tmps:Array Value):ResultVar->Sem Value
 | .tmp t=>pure (tmps.getD t undef)
 | .cell a t=>do loadVar t (<-asAddr (tmps.getD a undef))
def Bf:Bool×Nat->jc
 |(false,t)=> .slot t
 |(true,s)=> .box s
theorem Mq {x y:Bool×Nat}(h:Bf x=Bf y):x=y:=by rcases x with⟨_|_,a⟩<;>rcases y with⟨_|_,b⟩<;>simp[Bf]at h<;>rw[h]
theorem agO {E:Env}(hE:jm P E.ty)(h:dw C g st a w []){rv:ResultVar}{own:Bool×Nat}(hr:Pg st E rv=some (own,gg,cs)): ∃v vs fp,(Ft a.tmps rv).run P w=.ok v w/\Cut gg v vs/\bn (eQ C.A g.hw w) vs cs fp/\fp.Nodup/\∀b∈fp,g.dJ b=some (Bf own):=by
 cases rv with
 |tmp t=>simp only[Pg]at hr;split at hr;rename_i g' na mY;cases hr;obtain⟨fp,dC,hn,hl⟩:=h.slot t;rw[mY]at dC;obtain⟨vs,ee,dC⟩:=dC;exact⟨_,vs,fp,rfl,ee,Ad dC,hn,hl⟩;cases hr
 |cell t T=>
  simp only[Pg]at hr;split at hr;rename_i sh s off hT hp;cases jA:(nth st.boxes s).getD none with
  |none=>rw[jA]at hr;cases hr
  |some na=>
   rw[jA]at hr;simp only[eu]at hr;split at hr;rename_i gF;cases hr;have jA:st.boxes[s]?=some (some na):=by rw[dA]at jA;cases hq:st.boxes[s]? with|none=>rw[hq]at jA;simp at jA|some q=>rw[hq]at jA;simp at jA;rw[jA]
   obtain⟨Z3,vO,_,_⟩:=h.slot t;rw[hp]at vO;have vO:=Dv vO;obtain⟨arr,T',fr,fp,jr,qS,dC,hn,tc,hl,Ih,Ix⟩:=h.boxes s na jA;have hlen:=dC.length;obtain⟨v,dI,ee⟩:=zT (hE T sh hT) (g.β s) off ((arr.toList.drop off).take sh.ct.size) (by simp at hlen⊢;omega) (QX jr off sh.ct.size);obtain⟨f1,f2,f3,rfl,r1,r2,r3⟩:=dC.mid off sh.ct.size;have EA:=(aB.1 (aB.1 hn).1).2.1;refine⟨v,_,f2,?_,ee,Ad r2,EA,λb hb=>hl b (by simp[hb])⟩;simp only[Ft,vO,asAddr,Sem.run_bind,Sem.run_pure,Result.andThen_ok];exact dI;cases hr
  cases hr
theorem aat {E:Env}(hE:jm P E.ty)(h:dw C g st a w [])(gf:ResultVar->Value):∀(rs:ar ResultVar)(had:ar (Bool×Nat))(ys:ar (Bool×ar AC)),oO st E had rs=some ys->
 (∀rv v,(Ft a.tmps rv).run P w=.ok v w->gf rv=v)->
 (∀rv∈rs,(Ft a.tmps rv).run P w=.ok (gf rv) w)/\∃fp,fL.qJ (eQ C.A g.hw w) (rs.map gf) ys fp/\fp.Nodup/\∀b∈fp,∃own,own∉had/\g.dJ b=some (Bf own)
 |[],had,ys,hr,hgf=>by cases hr;exact⟨by simp,[],rfl,by simp,by simp⟩
 |rv::rs,had,ys,hr,hgf=>by
  simp only[oO]at hr;cases h1:Pg st E rv with
  |none=>rw[h1]at hr;cases hr
  |some x=>
   obtain⟨own,gg,cs⟩:=x;rw[h1]at hr;simp only[eu]at hr;split at hr;cases hr;rename_i MU;have MU:own∉had:=by simpa using MU
   cases h2:oO st E (own::had) rs with|none=>rw[h2]at hr;cases hr|some xs=>rw[h2]at hr;simp only[eu,aZ]at hr;subst hr;obtain⟨v,vs,jB,dI,ee,dC,EA,hl1⟩:=agO hE h h1;obtain⟨aem,fp2,Ox,CQ,Aq⟩:=aat hE h gf rs (own::had) xs h2 hgf;have hv:=hgf rv v dI;refine⟨λrv' hm=>?_,jB++fp2,⟨jB,fp2,rfl,⟨vs,by rw[hv];exact ee,dC⟩,Ox⟩,?_,λb hb=>?_⟩;rcases cv.1 hm with rfl|hm;rw[hv];exact dI;exact aem rv' hm;refine aB.2 ⟨EA,CQ,λb hb b' gH he=>?_⟩;subst he;obtain⟨ajr,JE,Gw⟩:=Aq b gH;rw[hl1 b hb]at Gw;have:=Mq (cB Gw);subst this;exact JE (by simp);rcases az.1 hb with hb|hb;exact⟨own,MU,hl1 b hb⟩;obtain⟨ajr,JE,Gw⟩:=Aq b hb;exact⟨ajr,λhm=>JE (by simp[hm]),Gw⟩
theorem FK.abb {fl:FK}{f:qI}(h:fl.fits f=true):f=fl.flag:=by
 unfold FK.fits at h;split at h;rename_i t t';have:t=t':=by simpa using h
 subst this;rfl;rename_i k;have:k=false:=by simpa using h
 subst this;rfl;rename_i k;have:k=true:=h;subst this;rfl;rfl;rename_i j t j' t';simp only[ah,bD]at h;obtain⟨rfl,rfl⟩:=h;rfl;cases h
theorem zU:∀{t:FT}{cs r:ar AC}{x:t.ct.D},Nr t cs=some (x,r)->cs=iW t x++r:=by
 intro t;induction t with
 |int k=>intro cs r x h;cases cs with|nil=>simp[Nr]at h|cons y ys=>cases y<;>simp[Nr]at h;obtain⟨rfl,rfl,rfl⟩:=h;rfl
 |bool=>intro cs r x h;cases cs with|nil=>simp[Nr]at h|cons y ys=>cases y<;>simp[Nr]at h;obtain⟨rfl,rfl⟩:=h;rfl
 |str=>intro cs r x h;cases cs with|nil=>simp[Nr]at h|cons y ys=>cases y<;>simp[Nr]at h;obtain⟨rfl,rfl⟩:=h;rfl
 |sl fl e=>
  intro cs r x h;cases cs with
  |nil=>simp[Nr]at h
  |cons y ys=>
   cases y with
   |sl fl' e' xs=>
    simp only[Nr]at h;split at h
    ·rename_i he;subst he;cases hf:fl.fits fl' with
     |false=>rw[hf]at h;cases h
     |true=>
      rw[hf]at h;cases h;rw[FK.abb hf];have hn:fl.isNil=false:=by cases fl<;>first|rfl|(unfold FK.fits at hf;cases hf)
      simp only[iW,hn,ae];rfl
    cases h
   |jw=>simp only[Nr]at h;cases hn:fl.isNil with|false=>rw[hn]at h;cases h|true=>rw[hn]at h;cases h;simp only[iW,hn,af];rfl
   |_=>simp[Nr]at h
 |pair a b iha ihb=>intro cs r x h;simp only[Nr]at h;obtain⟨⟨x1,r1⟩,h1,h⟩:=aL.1 h;obtain⟨⟨x2,r2⟩,h2,h⟩:=aL.1 h;cases h;have h3:r1=iW b x2++r2:=ihb h2;rw[iha h1,h3];simp[iW]
theorem Mp:∀(rs:ar (Bool×FT))(ys:ar (Bool×ar AC))(y:ir rs),jU rs ys=some y->ys=aiq rs y
 |[],[],y,_=>rfl
 |[],_::_,y,h=>by simp[jU]at h
 |[(g,t)],ys,y,h=>by
  cases ys with
  |nil=>simp[jU]at h
  |cons p ys=>
   cases ys with
   |cons _ _=>simp[jU]at h
   |nil=>
    obtain⟨g',cs⟩:=p;simp only[jU]at h;cases hg:g==g' with
    |false=>rw[hg]at h;cases h
    |true=>
     rw[hg]at h;have:g=g':=by simpa using hg
     subst this;simp only[af]at h;split at h;rename_i x hx;cases h;have:=zU hx;rw[bp]at this;rw[this];rfl;cases h
 |(g,t)::p::r,ys,y,h=>by
  cases ys with
  |nil=>simp[jU]at h
  |cons q ys=>
   obtain⟨g',cs⟩:=q;simp only[jU]at h;cases hg:g==g' with
   |false=>rw[hg]at h;cases h
   |true=>
    rw[hg]at h;have:g=g':=by simpa using hg
    subst this;simp only[af]at h;split at h;rename_i x hx;obtain⟨z,hz,h⟩:=aL.1 h;cases h;have h1:=zU hx;rw[bp]at h1;rw[h1,Mp (p::r) ys z hz];rfl;cases h
theorem Mz {E:Env}(hE:jm P E.ty){fn:Func}{st':AS}{a':Act}{w':World}(hg:dw C g st' a' w' []){had:ar (Bool×Nat)}(S9:oO st' E had fn.results.toList=some ys){y:ir rs}(fj:jU rs ys=some y): ∃v fp,(Go.results fn a'.tmps).run P w'=.ok v w'/\fL (eQ C.A g.hw w') v (xR rs y) fp/\fp.Nodup/\∀b∈fp,∃own,own∉had/\g.dJ b=some (Bf own):=by
 have hys:=Mp rs ys y fj;let gf:ResultVar->Value:=λrv=>match (Ft a'.tmps rv).run P w' with| .ok v _=>v|_=>undef
 obtain⟨aem,fp,dC,ES,Gw⟩:=aat hE hg gf fn.results.toList had ys S9 (λrv v hv=>by simp only[gf,hv]);have ah0:=Fu (P:=P) (Ft a'.tmps) gf w' fn.results (λx hx=>aem x (by simpa using hx));have dI:(Go.results fn a'.tmps).run P w'=.ok (if h:(fn.results.map gf).size=1 then(fn.results.map gf)[0] else .tuple (fn.results.map gf)) w':=by
  have:Go.results fn a'.tmps=(do
   let vs<-fn.results.mapM (Ft a'.tmps)
   pure (if h:vs.size=1 then vs[0] else .tuple vs)):=by
   unfold Go.results
   congr 1
  rw[this];simp only[Sem.run_bind,ah0,Result.andThen_ok,Sem.run_pure]
 refine⟨_,fp,dI,?_,ES,Gw⟩;have Vh:(fn.results.map gf).toList=fn.results.toList.map gf:=by simp
 unfold xR;rw[<-hys];cases ys with
 |nil=>
  have S7:fn.results.toList.map gf=[]:=by cases hm:fn.results.toList.map gf with|nil=>rfl|cons u us=>rw[hm]at dC;exact dC.elim
  have tu:¬(fn.results.map gf).size=1:=by rw[<-Array.length_toList,Vh,S7];simp
  rw[dif_neg tu];exact⟨_,by rw[<-Vh],dC⟩
 |cons y1 ys=>
  cases ys with
  |nil=>
   obtain⟨gg,cs⟩:=y1;cases hm:fn.results.toList.map gf with
   |nil=>rw[hm]at dC;exact dC.elim
   |cons u us=>
    rw[hm]at dC;obtain⟨f1,f2,rfl,X7,js⟩:=dC;cases us with
    |cons _ _=>exact js.elim
    |nil=>
     cases js;have MS:fn.results.map gf=#[u]:=by apply ef;rw[Vh,hm]
     have:(if h:(fn.results.map gf).size=1 then(fn.results.map gf)[0] else .tuple (fn.results.map gf))=u:=by rw[dif_pos (by rw[MS];rfl)];simp only[MS];rfl
     rw[this,bp];exact X7
  |cons y2 ys=>
   have tu:¬(fn.results.map gf).size=1:=by rw[<-Array.length_toList,Vh];cases hm:fn.results.toList.map gf with|nil=>simp|cons u us=>rw[hm]at dC;obtain⟨f1,f2,rfl,X7,js⟩:=dC;cases us with|nil=>exact js.elim|cons u2 us=>simp
   rw[dif_neg tu];exact⟨_,by rw[<-Vh],dC⟩
theorem Js {E:Env}(hE:jm P E.ty){fn:Func}{st':AS}{a':Act}{w':World}(hg:dw C g st' a' w' [])(S9:oO st' E [] fn.results.toList=some ys){y:ir rs}(fj:jU rs ys=some y): ∃v fp,(Go.results fn a'.tmps).run P w'=.ok v w'/\fL (eQ C.A g.hw w') v (xR rs y) fp/\fp.Nodup/\∀b∈fp,∃own,g.dJ b=some (Bf own):=by obtain⟨v,fp,h1,h2,h3,h4⟩:=Mz hE hg S9 fj;exact⟨v,fp,h1,h2,h3,λb hb=>(h4 b hb).imp λ_ h=>h.2⟩
theorem abd {E:Env}{rs:ar (Bool×FT)}(hS:Sound P E Γ){fn:Func}(hf:P.funcs[f]?=some fn)(vX:(fn.name== "runtime.NumGoroutine")=false)(Gx:AD E Γ an Λ (fn.body.getD .skip)):kV P f {R:=ir rs,fn:=GK E Γ an Λ fn rs,av:=xR rs}:=by
 intro xs y hy;simp only at hy;unfold GK at hy;cases hb:fn.body with
 |none=>rw[hb]at hy;cases hy
 |some c=>
  rw[hb]at hy;simp only at hy;split at hy;refine⟨⟨fn,c,hf,hb,vX⟩,λ_ _ A w vs hA fb=>?_,λh=>(by cases h),λh=>(by cases h),λh=>(by cases h)⟩;refine calls_of_wp hf hb (wp_mono (NY hS c (by rw[hb]at Gx;exact Gx) _ _ _ _ (LW hA fb) hy) ?_);rintro e a' w' ⟨ex,st',he,hs,hk⟩;have main:aa (oO st' E [] fn.results.toList) (jU rs)=some y->a'.defers=[]/\∃v,(Go.results fn a'.tmps).run P w'=.ok v w'/\∃v_1 hw fp,Ending.returned v=Ending.returned v_1/\fL (eQ A hw w') v_1 (xR rs y) fp/\fp.Nodup/\(∀b∈fp,w.heap.size<=b/\b<w'.heap.size)/\Fr (λ_=>False) w w':=by intro fj;obtain⟨g,hg⟩:=hs;refine⟨hg.defers,?_⟩;cases S9:oO st' E [] fn.results.toList with|none=>rw[S9]at fj;cases fj|some ys=>rw[S9]at fj;obtain⟨v,fp,dI,dC,ES,Gw⟩:=Js hS.ty hg S9 fj;refine⟨v,dI,v,g.hw,fp,rfl,dC,ES,λb hb=>?_,hg.frame⟩;obtain⟨own,hl⟩:=Gw b hb;have:=hg.fA b _ hl;exact⟨this.2.resolve_right (λf=>f),this.1⟩
  cases e<;>cases ex<;>simp only[Im]at he;exact main hk;cases hk;exact main hk;cases hy
theorem adT {E:Env}{M4:ar (Bool×FT)}(h2:ir M4=ir rs)(hS:Sound P E Γ){fn:Func}(hf:P.funcs[f]?=some fn)(vX:(fn.name== "runtime.NumGoroutine")=false)(Gx:AD E Γ an Λ (fn.body.getD .skip)):kV P f {R:=Bool×ir rs,fn:=evalAlt E Γ an Λ fn rs M4 h2,av:=λy=>xR rs y.2,sel:=λy=>y.1,alt:=λy=>xR M4 (cast h2.symm y.2)}:=by
 intro xs y hy;simp only at hy;unfold evalAlt at hy;cases hb:fn.body with
 |none=>rw[hb]at hy;cases hy
 |some c=>
  rw[hb]at hy;simp only at hy;split at hy;refine⟨⟨fn,c,hf,hb,vX⟩,λ_ _ A w vs hA fb=>?_,λh=>(by cases h),λh=>(by cases h),λh=>(by cases h)⟩;refine calls_of_wp hf hb (wp_mono (NY hS c (by rw[hb]at Gx;exact Gx) _ _ _ _ (LW hA fb) hy) ?_);rintro e a' w' ⟨ex,st',he,hs,hk⟩
  have main:(aa (oO st' E [] fn.results.toList) λys=>match jU rs ys with
   |some y=>some (true,y)
   |none=>match jU M4 ys with
    |some y=>some (false,cast h2 y)
    |none=>none)=some y->a'.defers=[]/\∃v,(Go.results fn a'.tmps).run P w'=.ok v w'/\∃v_1 hw fp,Ending.returned v=Ending.returned v_1/\
   fL (eQ A hw w') v_1 (cond y.1 (xR rs y.2) (xR M4 (cast h2.symm y.2))) fp/\fp.Nodup/\(∀b∈fp,w.heap.size<=b/\b<w'.heap.size)/\Fr (λ_=>False) w w':=by
   intro fj
   obtain⟨g,hg⟩:=hs
   refine⟨hg.defers,?_⟩
   cases S9:oO st' E [] fn.results.toList with
   |none=>rw[S9]at fj;cases fj
   |some ys=>
    rw[S9]at fj
    simp only[aa]at fj
    have fin:∀(rs':ar (Bool×FT))(y':ir rs'),jU rs' ys=some y'->∃v,(Go.results fn a'.tmps).run P w'=.ok v w'/\∃v_1 hw fp,Ending.returned v=Ending.returned v_1/\
     fL (eQ A hw w') v_1 (xR rs' y') fp/\fp.Nodup/\(∀b∈fp,w.heap.size<=b/\b<w'.heap.size)/\Fr (λ_=>False) w w':=by
     intro rs' y' Rn
     obtain⟨v,fp,dI,dC,ES,Gw⟩:=Js hS.ty hg S9 Rn
     refine⟨v,dI,v,g.hw,fp,rfl,dC,ES,λb hb=>?_,hg.frame⟩
     obtain⟨own,hl⟩:=Gw b hb
     have:=hg.fA b _ hl
     exact⟨this.2.resolve_right (λf=>f),this.1⟩
    cases h1:jU rs ys with
    |some y1=>rw[h1]at fj;cases fj;exact fin rs y1 h1
    |none=>
     rw[h1]at fj
     simp only at fj
     cases h3:jU M4 ys with
     |none=>rw[h3]at fj;cases fj
     |some y1=>
      rw[h3]at fj
      cases fj
      simp only[ae,cast_cast,cast_eq]
      exact fin M4 y1 h3
  cases e<;>cases ex<;>simp only[Im]at he;exact main hk;cases hk;exact main hk;cases hy
def ad4 (vs:ic)(t:Nat):Value:=(vs[t/3-4096*1000003]?).getD undef
theorem aeK {c:RC}(MT:c.w=w)(BU:c.hw=hw)(Gv:∀t,t%3=0->c.iss t){all:ic}(JW:∀t,c.hdr t=ad4 all t):
 ∀(j:Nat){vs:ic}{cs:ar AC}{fp:dV},bn (eQ A hw w) vs cs fp->cs.all AC.Yu=true->(∀i v,vs[i]?=some v->all[j+i]?=some v)->
  bn c vs (Yt j cs) fp/\bn c vs (B9 j cs) []:=by
 intro j vs
 induction vs generalizing j with
 |nil=>intro cs fp h _ _;cases cs with
  |nil=>exact⟨h,rfl⟩
  |cons _ _=>exact h.elim
 |cons v vs ih=>
  intro cs fp h ko Gt
  cases cs with
  |nil=>exact h.elim
  |cons x cs=>
   obtain⟨f1,f2,rfl,h1,h2⟩:=h
   simp only[bN,ah]at ko
   obtain⟨i1,i2⟩:=ih (j+1) h2 ko.2 (λi u hu=>by rw[show j+1+i=j+(i+1) by omega];exact Gt (i+1) u (by simpa using hu))
   have Mg:=Gt 0 v rfl
   rw[dL]at Mg
   have lE:c.iss (Bc j)/\v=c.hdr (Bc j):=by refine⟨Gv _ (by unfold Bc;omega),?_⟩;rw[JW,ad4,show Bc j/3-4096*1000003=j by unfold Bc;omega,Mg];rfl
   have flt:x.gu=true->Yt j (x::cs)=x::Yt (j+1) cs/\B9 j (x::cs)=x::B9 (j+1) cs->bn c (v::vs) (Yt j (x::cs)) (f1++f2)/\bn c (v::vs) (B9 j (x::cs)) []:=by rintro hf ⟨e1,e2⟩;obtain⟨rfl,k⟩:=lQ (c':=c) h1 hf;rw[e1,e2];exact⟨⟨[],f2,rfl,k,i1⟩,⟨[],[],rfl,k,i2⟩⟩
   cases x with
   |sl fl e xs=>
    cases fl with
    |own t=>
     have eR:eo c.hw c.w (.sl e) [v] xs f1:=by rw[BU,MT];exact h1.1
     refine⟨⟨f1,f2,rfl,⟨eR,λq hq=>by cases hq;exact lE⟩,i1⟩,⟨[],[],rfl,⟨rfl,eH _,Kr eR,λ_=>eo.rep (λb o ho=> .inr ho) eR,λr t hp=>?_⟩,i2⟩⟩
     cases hp
     exact⟨lE.1,lE.2⟩
    |arg _=>cases ko.1
    |loc ep pv=>cases ko.1
    |nest _ _ _ _ _ _=>cases ko.1
    |part _ _ _ _=>cases ko.1
    |fe _ _ _=>cases ko.1
   |int k n=>exact flt rfl ⟨rfl,rfl⟩
   |bool b=>exact flt rfl ⟨rfl,rfl⟩
   |str s=>exact flt rfl ⟨rfl,rfl⟩
   |fn f=>exact flt rfl ⟨rfl,rfl⟩
   |jw=>cases ko.1
   |ptr s off=>cases ko.1
   |C1 fl e y i off=>cases ko.1
   |un=>cases ko.1
   |bot=>cases ko.1
theorem WE (hA:∀k b o,A k b o->b<w.heap.size/\b∉fp){fn:Func}{v0:Value}{us:ic}(ee:Cut gg v0 us)(dC:bn (eQ A hw w) us cs fp)(ko:cs.all AC.Yu=true)(hn:fp.Nodup)(gV:∀b∈fp,b<w.heap.size)(h:nb A w vs xs): nt ⟨A,λb=>b∈fp,w,us,λk b o hb=>hA k b o hb⟩ (H7 fn gg cs xs) {tmps:=(v0::vs).toArray++Array.replicate (fn.ntmps-(v0::vs).toArray.size) undef,defers:=[]} w:=by
 obtain⟨hl,hi⟩:=EE h;let C:Ctx:=⟨A,λb=>b∈fp,w,us,λk b o hb=>hA k b o hb⟩
 let g:Gh:=⟨hw,λ_=>0,λb=>if b∈fp then some .io else none,ad4 us⟩
 have hle:(eQ A (λ_=>0) w).Le (cy C g (H7 fn gg cs xs) w):=⟨rfl,λt ht=>ht.elim,λ_ _ _ _ _ hv=>hv,aU _,λs hs=>hs.elim,λ_ b o u ho _=>absurd ho (Nat.not_lt_zero _)⟩
 obtain⟨k1,k2⟩:=aeK (c:=cy C g (H7 fn gg cs xs) w) (A:=A) rfl rfl (λt ht=> .inl (by omega)) (all:=us) (λt=>rfl) 0 dC ko (λi v hv=>by rw[cm];exact hv);refine⟨g,rfl,?_,?_,λi av hs=>?_,λs na hs=>?_,λk v av hk=>by simp at hk,λb x hx=>?_,Fr.refl _ _,⟨fp,k1,hn,λb hb=>by show(if b∈fp then _ else _)=_;rw[aG hb]⟩⟩;simp[H7,od,hl];omega;·simp[H7,od];try omega
 have uv:((.val gg (B9 0 cs)::xs)++List.replicate (fn.ntmps-(.val gg (B9 0 cs)::xs).length) AV.bot)[i]?=some av:=hs;rcases bQ i (xs.length+1)with abk|BD;rw[bw (by simpa using abk)]at uv;cases i with
 |zero=>
  simp at uv;subst uv;refine⟨[],?_,by simp,by simp⟩;have hvv:((v0::vs).toArray++Array.replicate (fn.ntmps-(v0::vs).toArray.size) undef).getD 0 undef=v0:=by simp[cH,Array.getElem?_append]
  show fL _ (((v0::vs).toArray++Array.replicate (fn.ntmps-(v0::vs).toArray.size) undef).getD 0 undef) _ _;rw[hvv];exact⟨us,ee,k2⟩
 |succ i=>
  obtain⟨v,hv,hr⟩:=hi i av (by simpa using uv);refine⟨[],?_,by simp,by simp⟩;have hvv:((v0::vs).toArray++Array.replicate (fn.ntmps-(v0::vs).toArray.size) undef).getD (i+1) undef=v:=by
   have aec:i<vs.length:=by omega
   have Td:vs[i]=v:=by rw[al aec]at hv;exact cB hv
   simp[cH,Array.getElem?_append,aec,Td]
  show fL _ (((v0::vs).toArray++Array.replicate (fn.ntmps-(v0::vs).toArray.size) undef).getD (i+1) undef) _ _;rw[hvv];exact hr.mono hle (by simp)
 rw[bq (by simpa using BD),dk]at uv;split at uv;cases uv;exact⟨[],fL.bot _ _,by simp,by simp⟩;cases uv;have uv:(List.replicate ((AV.val gg (B9 0 cs)::xs).length+(fn.ntmps-(AV.val gg (B9 0 cs)::xs).length)) (none:aw (ar AC)))[s]?=some (some na):=hs;rw[dk]at uv;split at uv<;>cases uv;have AJ:(if b∈fp then some jc.io else none)=some x:=hx;split at AJ;rename_i hm;exact⟨gV b hm,.inr hm⟩;cases AJ
theorem apS {E:Env}{rs:ar (Bool×FT)}{t:CT}(hS:Sound P E Γ){fn:Func}(hf:P.funcs[f]?=some fn)(vX:(fn.name== "runtime.NumGoroutine")=false)(Gx:AD E Γ an Λ (fn.body.getD .skip)):kV P f {R:=ir rs×t.D,fn:=XS E Γ an Λ fn rs t,av:=λy=>xR rs y.1,io:=true,back:=λy=>cellsOf t (.own none) y.2}:=by
 intro xs y hy;simp only at hy;unfold XS at hy;split at hy;rename_i c gg cs rest hb;split at hy;rename_i hlen;refine⟨⟨fn,c,hf,hb,vX⟩,λh=>(by cases h),λ_ g0 P8 afj he A w v0 vs hw fp hA dC hn gV fb=>?_,λh=>(by cases h),λh=>(by cases h)⟩;injection he with he1 he2;injection he1 with he1 he3;subst he1;subst he2;subst he3;obtain⟨us,ee,dC⟩:=dC;refine calls_of_wp hf hb (wp_mono (NY hS c (by rw[hb]at Gx;exact Gx) _ _ _ _ (WE (fn:=fn) hA ee dC hlen.2 hn gV fb) hy) ?_);rintro e a' w' ⟨ex,st',he,hs,hk⟩
 have main:(aa (aa (oO st' E [] fn.results.toList) (jU rs)) λr=>match iQ t st'.io with|some (x,[])=>some (r,x)|_=>none)=some y->
  a'.defers=[]/\∃v,(Go.results fn a'.tmps).run P w'=.ok v w'/\∃v_1 hw' fr iu,Ending.returned v=Ending.returned v_1/\fL (eQ A hw' w') v_1 (xR rs y.1) fr/\fL (eQ A hw' w') v0 (.val gg (cellsOf t (.own none) y.2)) iu/\iu.Nodup/\(∀b∈iu,b<w'.heap.size/\(b∈fp\/w.heap.size<=b))/\Fr (λb=>b∈fp) w w':=by
  intro fj
  obtain⟨g,hg⟩:=hs
  refine⟨hg.defers,?_⟩
  cases S9:oO st' E [] fn.results.toList with
  |none=>rw[S9]at fj;cases fj
  |some ys=>
   rw[S9]at fj
   simp only[aa]at fj
   cases hrr:jU rs ys with
   |none=>rw[hrr]at fj;cases fj
   |some r0=>
    rw[hrr]at fj
    simp only at fj
    split at fj
    ·rename_i x hx
     cases fj
     obtain⟨v,fr,dI,vu,ES,Gw⟩:=Js hS.ty hg S9 hrr
     obtain⟨iu,JX,BZ,hl'⟩:=hg.io
     obtain⟨f1,f2,rfl,eR,js⟩:=ox JX hx
     have S7:us.drop t.size=[]:=by cases hd:us.drop t.size with|nil=>rfl|cons _ _=>have Oy:bn _ (us.drop t.size) _ _:=js;rw[hd]at Oy;exact Oy.elim
     have HM:f2=[]:=by have Oy:bn _ (us.drop t.size) [] f2:=js;rw[S7]at Oy;exact Oy
     subst HM
     rw[bp]at BZ hl'
     have aeo:us.take t.size=us:=by have:=cp t.size us;rw[S7,bp]at this;exact this
     have Eb:eo g.hw w' t us x f1:=by have Eb:eo g.hw w' t (us.take t.size) x f1:=eR;rwa[aeo]at Eb
     refine⟨v,dI,v,g.hw,fr,f1,rfl,vu,⟨us,ee,sA (c:=eQ A g.hw w') Eb⟩,BZ,λb hb=>?_,hg.frame⟩
     have:=hg.fA b _ (hl' b hb)
     exact⟨this.1,this.2.symm⟩
    ·cases fj
 cases e<;>cases ex<;>simp only[Im]at he;exact main hk;cases hk;exact main hk;cases hy;cases hy
theorem aaT {c:RC}(X0:c.A=A)(MT:c.w=w)(BU:c.hw=hw)(Gv:∀t,t%3=1->c.iss t){all:ic}(JW:∀t,c.hdr t=(all[t/3]?).getD undef):
 ∀(j:Nat){vs:ic}{cs:ar AC}{fp:dV},bn (eQ A hw w) vs cs fp->cs.all (AC.AF true)=true->(∀i v,vs[i]?=some v->all[j+i]?=some v)->bn c vs (JK j cs) fp:=by
 intro j vs
 induction vs generalizing j with
 |nil=>intro cs fp h _ _;cases cs with
  |nil=>exact h
  |cons _ _=>exact h.elim
 |cons v vs ih=>
  intro cs fp h ko Gt
  cases cs with
  |nil=>exact h.elim
  |cons x cs=>
   obtain⟨f1,f2,rfl,h1,h2⟩:=h
   simp only[bN,ah]at ko
   have i1:=ih (j+1) h2 ko.2 (λi u hu=>by rw[show j+1+i=j+(i+1) by omega];exact Gt (i+1) u (by simpa using hu))
   have Mg:=Gt 0 v rfl
   rw[dL]at Mg
   have flt:x.gu=true->JK j (x::cs)=x::JK (j+1) cs->bn c (v::vs) (JK j (x::cs)) (f1++f2):=by rintro hf e1;obtain⟨rfl,k⟩:=lQ (c':=c) h1 hf;rw[e1];exact⟨[],f2,rfl,k,i1⟩
   cases x with
   |sl fl e xs=>
    cases fl with
    |own t=>
     have eR:eo c.hw c.w (.sl e) [v] xs f1:=by rw[BU,MT];exact h1.1
     refine⟨f1,f2,rfl,⟨eR,λq hq=>?_⟩,i1⟩
     cases hq
     refine⟨Gv _ (by omega),?_⟩
     rw[JW,show(3*j+1)/3=j by omega,Mg];rfl
    |arg k=>
     have hk:k=true:=by simpa[AC.AF]using ko.1
     subst hk
     exact⟨f1,f2,rfl,⟨h1.1,by rw[MT,X0];exact h1.2⟩,i1⟩
    |loc ep pv=>cases ko.1
    |nest _ _ _ _ _ _=>cases ko.1
    |part _ _ _ _=>cases ko.1
    |fe _ _ _=>cases ko.1
   |int k n=>exact flt rfl rfl
   |bool b=>exact flt rfl rfl
   |str s=>exact flt rfl rfl
   |fn f=>exact flt rfl rfl
   |jw=>cases ko.1
   |ptr s off=>cases ko.1
   |C1 fl e y i off=>cases ko.1
   |un=>cases ko.1
   |bot=>cases ko.1
theorem T7 {b:Nat}(hA:∀k b' o,A k b' o->b'<w.heap.size/\b'≠b/\b'∉fp){fn:Func}{arr:Array Value}{T:TypeId}{fr:Nat×Nat}(jr:w.heap[b]?=some (.cells arr T fr))(qS:qc arr fr)(dC:bn (eQ A hw w) arr.toList cs fp)(ko:cs.all (AC.AF true)=true)(hn:fp.Nodup)(tc:b∉fp)(gV:∀b'∈fp,b'<w.heap.size)(Ix:hw b=0)(h:nb A w vs xs): nt ⟨A,λb'=>b'=b\/b'∈fp,w,[.pointer (some ⟨b,0,none⟩)],λk b' o hb=>⟨(hA k b' o hb).1,λhm=>hm.elim (hA k b' o hb).2.1 (hA k b' o hb).2.2⟩⟩ (CJ fn cs xs) {tmps:=(.pointer (some ⟨b,0,none⟩)::vs).toArray++Array.replicate (fn.ntmps-(Value.pointer (some ⟨b,0,none⟩)::vs).toArray.size) undef,defers:=[]} w:=by
 obtain⟨hl,hi⟩:=EE h;let v0:Value:=.pointer (some ⟨b,0,none⟩);let C:Ctx:=⟨A,λb'=>b'=b\/b'∈fp,w,[v0],λk b' o hb=>⟨(hA k b' o hb).1,λhm=>hm.elim (hA k b' o hb).2.1 (hA k b' o hb).2.2⟩⟩
 let g:Gh:=⟨hw,λ_=>b,λb'=>if b'=b\/b'∈fp then some (.box 0) else none,λt=>(arr.toList[t/3]?).getD undef⟩
 have Ir:=mn jr;have qR:gx (CJ fn cs xs) 0:=⟨JK 0 cs,rfl⟩
 have hle:(eQ A (λ_=>0) w).Le (cy C g (CJ fn cs xs) w):=⟨rfl,λt ht=>ht.elim,λ_ _ _ _ _ hv=>hv,aU _,λs hs=>hs.elim,λ_ b o u ho _=>absurd ho (Nat.not_lt_zero _)⟩
 have k1:=aaT (c:=cy C g (CJ fn cs xs) w) (A:=A) rfl rfl rfl (λt ht=> .inl (by omega)) (all:=arr.toList) (λt=>rfl) 0 dC ko (λi v hv=>by rw[cm];exact hv);refine⟨g,rfl,?_,?_,λi av hs=>?_,λs na hs=>?_,λk v av hk=>by simp at hk,λb' x hx=>?_,Fr.refl _ _,⟨[],⟨[],[],rfl,⟨rfl,qR,rfl⟩,rfl⟩,by simp,by simp⟩⟩;simp[CJ,od,hl];omega;simp[CJ,od];have uv:((.one (.ptr 0 0)::xs)++List.replicate (fn.ntmps-(AV.one (.ptr 0 0)::xs).length) AV.bot)[i]?=some av:=hs;rcases bQ i (xs.length+1)with abk|BD;rw[bw (by simpa using abk)]at uv;cases i with
 |zero=>
  simp at uv;subst uv;refine⟨[],?_,by simp,by simp⟩;have hvv:((v0::vs).toArray++Array.replicate (fn.ntmps-(v0::vs).toArray.size) undef).getD 0 undef=v0:=by simp[cH,Array.getElem?_append]
  show fL _ (((v0::vs).toArray++Array.replicate (fn.ntmps-(v0::vs).toArray.size) undef).getD 0 undef) _ _;rw[hvv];exact mN ⟨rfl,qR,rfl⟩
 |succ i=>
  obtain⟨v,hv,hr⟩:=hi i av (by simpa using uv);refine⟨[],?_,by simp,by simp⟩;have hvv:((v0::vs).toArray++Array.replicate (fn.ntmps-(v0::vs).toArray.size) undef).getD (i+1) undef=v:=by
   have aec:i<vs.length:=by omega
   have Td:vs[i]=v:=by rw[al aec]at hv;exact cB hv
   simp[cH,Array.getElem?_append,aec,Td]
  show fL _ (((v0::vs).toArray++Array.replicate (fn.ntmps-(v0::vs).toArray.size) undef).getD (i+1) undef) _ _;rw[hvv];exact hr.mono hle (by simp)
 rw[bq (by simpa using BD),dk]at uv;split at uv;cases uv;exact⟨[],fL.bot _ _,by simp,by simp⟩;cases uv;have uv:(some (JK 0 cs)::List.replicate (xs.length+(fn.ntmps-(xs.length+1))) (none:aw (ar AC)))[s]?=some (some na):=hs;cases s with|zero=>simp at uv;subst uv;refine⟨arr,T,fr,fp,jr,qS,k1,hn,tc,λb' gH=>?_,?_,Ix⟩;show(if b'=b\/b'∈fp then _ else _)=_;rw[aG (.inr gH)];show(if b=b\/b∈fp then _ else _)=_;rw[aG (.inl rfl)]|succ s=>simp only[eG,dk]at uv;split at uv<;>cases uv
 have AJ:(if b'=b\/b'∈fp then some (jc.box 0) else none)=some x:=hx;split at AJ;rename_i hm;rcases hm with rfl|hm;exact⟨Ir,.inr (.inl rfl)⟩;exact⟨gV b' hm,.inr (.inr hm)⟩;cases AJ
theorem aiN {E:Env}{rs:ar (Bool×FT)}{t:FT}(hS:Sound P E Γ){fn:Func}(hf:P.funcs[f]?=some fn)(vX:(fn.name== "runtime.NumGoroutine")=false)(Gx:AD E Γ an Λ (fn.body.getD .skip)):kV P f {R:=ir rs×t.ct.D,fn:=SS E Γ an Λ fn rs t,av:=λy=>xR rs y.1,back:=λy=>iW t y.2,bx:=true}:=by
 intro xs y hy;simp only at hy;unfold SS at hy;split at hy;rename_i c cs rest hb;split at hy;rename_i hlen;refine⟨⟨fn,c,hf,hb,vX⟩,λ_ h=>(by cases h),λh=>(by cases h),λ_ P8 afj he A w b vs arr T fr hw fp hA jr qS dC hn tc gV Ix fb=>?_,λh=>(by cases h)⟩;injection he with he1 he2;injection he1 with _ he3;subst he2;subst he3;refine calls_of_wp hf hb (wp_mono (NY hS c (by rw[hb]at Gx;exact Gx) _ _ _ _ (T7 (fn:=fn) hA jr qS dC hlen.2 hn tc gV Ix fb) hy) ?_);rintro e a' w' ⟨ex,st',he,hs,hk⟩
 have main:(aa (aa (oO st' E [(true,0)] fn.results.toList) (jU rs)) λr=>match st'.io,st'.boxes with
  |[.ptr 0 0],some na::_=>(match Nr t (na.map AC.strip)with|some (x,[])=>some (r,x)|_=>none)
  |_,_=>none)=some y->
  a'.defers=[]/\∃v,(Go.results fn a'.tmps).run P w'=.ok v w'/\∃v_1 hw' fv iV T' Re iu,Ending.returned v=Ending.returned v_1/\fL (eQ A hw' w') v_1 (xR rs y.1) fv/\w'.heap[b]?=some (.cells iV T' Re)/\qc iV Re/\
    bn (eQ A hw' w') iV.toList (iW t y.2) iu/\iu.Nodup/\b∉iu/\(∀b'∈iu,b'<w'.heap.size/\(b'∈fp\/w.heap.size<=b'))/\fv.Nodup/\(∀b'∈fv,b'<w'.heap.size/\(b'∈fp\/w.heap.size<=b')/\b'∉iu/\b'≠b)/\Fr (λb'=>b'=b\/b'∈fp) w w':=by
  intro fj
  obtain⟨g,hg⟩:=hs
  refine⟨hg.defers,?_⟩
  cases S9:oO st' E [(true,0)] fn.results.toList with
  |none=>rw[S9]at fj;cases fj
  |some ys=>
   rw[S9]at fj
   simp only[aa]at fj
   cases hrr:jU rs ys with
   |none=>rw[hrr]at fj;cases fj
   |some r0=>
    rw[hrr]at fj
    simp only at fj
    split at fj
    ·rename_i na tl JX jA
     split at fj
     ·rename_i x hx
      cases fj
      obtain⟨v,fv,dI,vu,ES,Gw⟩:=Mz hS.ty hg S9 hrr
      obtain⟨fpi,hri,_,_⟩:=hg.io
      rw[JX]at hri
      obtain⟨g1,g2,_,aql,_⟩:=hri
      have Ji:b=g.β 0:=by have:=aql.1;simp only[Value.pointer.injEq,aZ,Addr.mk.injEq]at this;exact this.1
      obtain⟨iV,T',Re,iu,JT,Vq,hr',BZ,Ii,hl',ai1,_⟩:=hg.boxes 0 na (by rw[jA];rfl)
      rw[<-Ji]at JT Ii ai1
      have lE:=Ad hr'
      have J1:=zU hx
      rw[bp]at J1
      rw[J1]at lE
      have hM:∀b',(w.heap.size<=b'\/(b'=b\/b'∈fp))->b'≠b->b'∈fp\/w.heap.size<=b':=by rintro b' (h2|h2|h2) ET;exact .inr h2;exact absurd h2 ET;exact .inl h2
      refine⟨v,dI,v,g.hw,fv,iV,T',Re,iu,rfl,vu,JT,Vq,lE,BZ,Ii,λb' gH=>?_,ES,λb' gH=>?_,hg.frame⟩
      ·have:=hg.fA b' _ (hl' b' gH)
       exact⟨this.1,hM b' this.2 (λe=>Ii (e▸gH))⟩
      ·obtain⟨own,MU,Rj⟩:=Gw b' gH
       have JE:g.dJ b'≠some (.box 0):=by rw[Rj];intro e;have e2:Bf own=Bf (true,0):=cB e;exact MU (by rw[Mq e2];simp)
       have ET:b'≠b:=λe=>JE (by rw[e];exact ai1)
       have:=hg.fA b' _ Rj
       exact⟨this.1,hM b' this.2 ET,λhm=>JE (hl' b' hm),ET⟩
     ·cases fj
    ·cases fj
 cases e<;>cases ex<;>simp only[Im]at he;exact main hk;cases hk;exact main hk;cases hy;cases hy
theorem aiO {E:Env}{t:FT}(hS:Sound P E Γ){fn:Func}(hf:P.funcs[f]?=some fn)(vX:(fn.name== "runtime.NumGoroutine")=false)(Gx:AD E Γ an Λ (fn.body.getD .skip)):kV P f {R:=t.ct.D,fn:=Nl E Γ an Λ fn t,av:=λ_=> .bot,back:=λy=>iW t y,pr:=true}:=by
 intro xs y hy;simp only at hy;unfold Nl at hy;cases hb:fn.body with
 |none=>rw[hb]at hy;cases hy
 |some c=>
  rw[hb]at hy;simp only at hy;split at hy;have key:ahj P f {R:=t.ct.D,fn:=Nl E Γ an Λ fn t,av:=λ_=> .bot,back:=λy=>iW t y,pr:=true} y xs:=by
   intro A w vs hA fb;refine calls_of_wp hf hb (wp_mono (NY hS c (by rw[hb]at Gx;exact Gx) _ _ _ _ (LW hA fb) hy) ?_);rintro e a' w' ⟨ex,st',he,hs,hk⟩
   have main:(match fn.results.toList with
    |[.tmp i]=>match st'.get i with
     | .val false [.ptr s 0]=>match (nth st'.boxes s).getD none with
       |some cs=>if cs.all AC.K7=true then(match Nr t (cs.map AC.strip)with|some (x,[])=>some x|_=>none) else none
       |none=>none
     |_=>none
    |_=>none)=some y->a'.defers=[]/\∃v,(Go.results fn a'.tmps).run P w'=.ok v w'/\∃b arr T fr hw,Ending.returned v=.returned (.pointer (some ⟨b,0,none⟩))/\w.heap.size<=b/\w'.heap[b]?=some (.cells arr T fr)/\qc arr fr/\bn (eQ A hw w') arr.toList (iW t y) []/\Fr (λ_=>False) w w':=by
    intro fj
    obtain⟨g,hg⟩:=hs
    refine⟨hg.defers,?_⟩
    split at fj
    ·rename_i i hri
     split at fj
     ·rename_i s hp
      cases jA:(nth st'.boxes s).getD none with
      |none=>rw[jA]at fj;cases fj
      |some cs=>
       rw[jA]at fj
       simp only at fj
       split at fj
       ·rename_i ko
        split at fj
        ·rename_i x hx
         cases fj
         have jA:st'.boxes[s]?=some (some cs):=by rw[dA]at jA;cases hq:st'.boxes[s]? with|none=>rw[hq]at jA;simp at jA|some q=>rw[hq]at jA;simp at jA;rw[jA]
         obtain⟨Z3,vO,_,_⟩:=hg.slot i
         rw[hp]at vO
         have vO:=Dv vO
         obtain⟨arr,T,fr,fp,jr,qS,dC,hn,tc,hl,Ih,Ix⟩:=hg.boxes s cs jA
         obtain⟨CP,vs,ee,Ox⟩:=arg_val (c:=cy _ g st' w') (c':=cy _ g st' w') rfl rfl (v:=.agg arr.toList.toArray) (x:=.val true cs) ⟨arr.toList,rfl,dC⟩ ko
         have hvs:arr.toList=vs:=by have ee:Value.agg arr.toList.toArray=.agg vs.toArray:=ee;simp only[Value.agg.injEq]at ee;simpa using congrArg Array.toList ee
         rw[<-hvs]at Ox
         have lE:=Ad Ox
         have J1:=zU hx
         rw[bp]at J1
         rw[J1]at lE
         have dI:(Go.results fn a'.tmps).run P w'=.ok (a'.tmps.getD i undef) w':=by
          have he:fn.results=#[.tmp i]:=by apply ef;exact hri
          have ah0:=Fu (P:=P) (Ft a'.tmps) (λ_=>a'.tmps.getD i undef) w' fn.results (λx hx=>by rw[he]at hx;simp at hx;subst hx;rfl)
          have hd:Go.results fn a'.tmps=(do
           let vs<-fn.results.mapM (Ft a'.tmps)
           pure (if h:vs.size=1 then vs[0] else .tuple vs)):=by
           unfold Go.results
           congr 1
          rw[hd];simp only[Sem.run_bind,ah0,Result.andThen_ok,Sem.run_pure];rw[he];simp
         refine⟨_,dI,g.β s,arr,T,fr,g.hw,congrArg Ending.returned vO,?_,jr,qS,lE,hg.frame⟩
         exact(hg.fA _ _ Ih).2.resolve_right (λf=>f)
        ·cases fj
       ·cases fj
     ·cases fj
    ·cases fj
   cases e<;>cases ex<;>simp only[Im]at he;exact main hk;cases hk;exact main hk
  refine⟨⟨fn,c,hf,hb,vX⟩,λ_ _ A w vs hA fb=>?_,λh=>(by cases h),λh=>(by cases h),λ_=>key⟩;refine(key A w vs hA fb).mono ?_;rintro e w' ⟨b,arr,T,fr,hw,rfl,_,_,_,_,gM⟩;exact⟨_,hw,[],rfl,fL.bot _ _,List.nodup_nil,(λb hb=>by cases hb),gM⟩;cases hy
end Go.Dn
