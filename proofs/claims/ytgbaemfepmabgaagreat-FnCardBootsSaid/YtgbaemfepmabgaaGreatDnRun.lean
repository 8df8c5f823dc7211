import Derived.Test.YtgbaemfepmabgaaGreatDnAny
/- The soundness of the abstract semantics: code and functions. -/
namespace Go.Dn
open Go.RowKit
variable {P:Program} {C:Ctx} {st:AS} {a:Act} {w:World} {R:Type} {r:R}
variable {an:An} {Γ:dK} {g:Gh} {Λ:dY} {f:Nat} {hw:Nat->Nat} {A:Rg} {rs:aw (Bool×FT)} {ys:aw (Bool×aw AC)} {cs:aw AC} {xs:aw AV}
def Gn:Exit->Ex->Prop
 | .normal,.normal=>True
 | .ret,.ret=>True
 | .exit i,.exit j=>i=j
 |_,_=>False
def aob (C:Ctx)(K:Ex->AS->az R)(r:R)(e:Exit)(a:Act)(w:World):Prop:=
 ∃ex st',Gn e ex/\oa C st' a w/\K ex st'=some r
theorem ab6 {E:Env}(hS:Sound P E Γ){id:Nat}{ops:Array Oper}{d:Bool}(h:oa C st a w){K:AS->az R}(hk:RO E Γ an id ops.toList d st K=some r){Q:Exit->Act->World->Prop}(hq:∀st' a' w',oa C st' a' w'->K st'=some r->Q .normal a' w'):(Code.region id ops d).wp P Q a w:=by
 unfold RO at hk;split at hk;rw[Lv]at hk;cases ho:Dk E Γ an ops.toList d st some with|none=>rw[ho]at hk;cases hk|some st1=>rw[ho]at hk;exact Zd hS h ho (λa' w' hs=>hq _ _ _ hs hk)
 rename_i s hm;split at hk;rename_i hquiet;rw[Lv]at hk;cases ho:Dk E Γ.calm an ops.toList d st some with|none=>rw[ho]at hk;cases hk|some st1=>rw[ho]at hk;simp only[eT]at hk;cases hb:getBool st1 s with|none=>rw[hb]at hk;cases hk|some b=>rw[hb]at hk;simp only[aa]at hk;have hn:=abD (agJ Γ) (λo ho'=>aG.1 hquiet o ho') ho;exact Zd hS.calm h ho (λa' w' hs=>hq _ _ _ (hs.weaken hn hb) hk)
 cases hk
def ia (E:Env)(Γ:dK)(an:An)(Λ:dY)(c:Code):Prop:=
 ∃n,∀(R:Type)(st:AS)(K:Ex->AS->az R)(r:R),(Λ (fX c)).go st K=some r->CX (an.mask (fX c)) (den E Γ an Λ c) n st K=some r
def Nr (E:Env)(Γ:dK)(an:An)(Λ:dY)(c:Code):Prop:=
 ∀(R:Type)(st:AS)(K:Ex->AS->az R)(r:R),(Λ (C9 c)).go st K=some r->den E Γ an Λ c st (λe st'=>K e (st'.mask (an.mask (C9 c+1))))=some r
def CL (E:Env)(Γ:dK)(an:An)(Λ:dY)(c:Code):Prop:=(∀c'∈jw c,ia E Γ an Λ c')/\∀c'∈kT an.cut c,Nr E Γ an Λ c'
theorem adi (c:Code):kT [] c=[]:=by induction c with|seq a b iha ihb=>simp[kT,iha,ihb]|cond _ a b iha ihb=>simp[kT,iha,ihb]|block _ c ih=>simpa[kT]using ih|loop c ih=>simpa[kT]using ih|_=>rfl
theorem CL.of {E:Env}{c:Code}(h:∀c'∈jw c,ia E Γ an Λ c')(hc:an.cut=[]):CL E Γ an Λ c:=⟨h,by rw[hc,adi];simp⟩
theorem QX {E:Env}(hS:Sound P E Γ):∀(c:Code)(_:CL E Γ an Λ c)(st:AS)(a:Act)(w:World)(K:Ex->AS->az R),oa C st a w->den E Γ an Λ c st K=some r->c.wp P (aob C K r) a w:=by
 intro c;induction c with
 |skip=>intro hΛ st a w K h hk;exact wp_skip ⟨.normal,st,cx,h,hk⟩
 |region id ops d=>intro hΛ st a w K h hk;exact ab6 hS h (by simpa only[den]using hk) (λst' a' w' hs he=>⟨.normal,st',cx,hs,he⟩)
 |seq x y ihx ihy=>
  intro hΛ st a w K h hk;have ihx:=ihx ⟨λc hc=>hΛ.1 c (by simp[jw,hc]),λc hc=>hΛ.2 c (by simp[kT,hc])⟩;have ihy:=ihy ⟨λc hc=>hΛ.1 c (by simp[jw,hc]),λc hc=>hΛ.2 c (by simp only[kT];cases an.cut.contains (fX y)<;>simp[hc])⟩;simp only[den]at hk;refine wp_seq (wp_mono (ihx st a w _ h hk) ?_);rintro e a' w' ⟨ex,st',he,hs,hk'⟩;cases e<;>cases ex<;>simp only[Gn]at he;simp only at hk';cases hcut:an.cut.contains (fX y)with|false=>rw[hcut]at hk';exact ihy st' a' w' K hs hk'|true=>rw[hcut]at hk';have hc:=hΛ.2 y (by simp only[kT,hcut];simp) _ _ _ _ hk';refine wp_mono (ihy _ a' w' _ (hs.mask _) hc) ?_;rintro e2 a2 w2 ⟨ex2,st2,he2,hs2,hk2⟩;exact⟨ex2,_,he2,hs2.mask _,hk2⟩
  exact⟨.exit _,st',he,hs,hk'⟩;exact⟨.ret,st',cx,hs,hk'⟩
 |cond c x y ihx ihy=>
  intro hΛ st a w K h hk;have ihx:=ihx ⟨λc hc=>hΛ.1 c (by simp[jw,hc]),λc hc=>hΛ.2 c (by simp[kT,hc])⟩;have ihy:=ihy ⟨λc hc=>hΛ.1 c (by simp[jw,hc]),λc hc=>hΛ.2 c (by simp[kT,hc])⟩;simp only[den]at hk;split at hk;rename_i t hc;have hv:a.eval c=.bool t:=by obtain⟨g,hg⟩:=h;have:=hg.rd c;rw[hc]at this;exact vE this
  cases t with|true=>exact wp_cond_true hv (ihx st a w K h hk)|false=>exact wp_cond_false hv (ihy st a w K h hk)
  cases hk
 |block id c ih=>intro hΛ st a w K h hk;have ih:=ih ⟨λc hc=>hΛ.1 c (by simpa[jw]using hc),λc hc=>hΛ.2 c (by simpa[kT]using hc)⟩;simp only[den]at hk;refine wp_block (wp_mono (ih st a w _ h hk) ?_);rintro e a' w' ⟨ex,st',he,hs,hk'⟩;cases e<;>cases ex<;>simp only[Gn]at he;exact⟨.normal,st',cx,hs,hk'⟩;rename_i i j;subst he;simp only[Exit.inBlock];simp only at hk';by_cases hi:i=id;subst hi;rw[aE rfl];simp only[beq_self_eq_true,cg]at hk';exact⟨.normal,st',cx,hs,hk'⟩;rw[aD hi];rw[aD (by simpa using hi)]at hk';exact⟨.exit i,st',rfl,hs,hk'⟩;exact⟨.ret,st',cx,hs,hk'⟩
 |loop c ih=>
  intro hΛ st a w K h hk;have ih:=ih ⟨λc hc=>hΛ.1 c (by simp[jw,hc]),λc hc=>hΛ.2 c (by simpa[kT]using hc)⟩;obtain⟨n,hn⟩:=hΛ.1 c (by simp[jw]);simp only[den]at hk;intro b k cs
  have key:∀m st a w,oa C st a w->CX (an.mask (fX c)) (den E Γ an Λ c) m st K=some r->
   ∃e a' w',aob C K r e a' w'/\Arrives P (lone (b.at a (.code c:: .inLoop c::k)) cs w) b k cs e a' w':=by
   intro m
   induction m with
   |zero=>intro st a w _ hk;cases hk
   |succ m ihm=>
    intro st a w h hk
    simp only[CX]at hk
    obtain⟨e,a₁,w₁,⟨ex,st',he,hs,hk'⟩,harr⟩:=ih st a w _ h hk b (.inLoop c::k) cs
    cases e<;>cases ex<;>simp only[Gn]at he
    ·obtain⟨e₂,a₂,w₂,hq₂,harr₂⟩:=ihm _ a₁ w₁ (hs.mask _) hk'
     exact⟨e₂,a₂,w₂,hq₂,.of_steps (Steps.trans harr (.one step_inLoop)) harr₂⟩
    ·exact⟨.exit _,a₁,w₁,⟨.exit _,_,he,hs.mask _,hk'⟩,.pass (x:=.inLoop c) rfl (λ_ _=> .inl (by simp)) harr⟩
    ·exact⟨.ret,a₁,w₁,⟨.ret,_,cx,hs.mask _,hk'⟩,.pass (x:=.inLoop c) rfl (λ_ _=> .inl (by simp)) harr⟩
  cases hp:an.peel.contains (fX c)with
  |false=>rw[hp]at hk;obtain⟨e,a',w',hq,harr⟩:=key n _ a w (h.mask _) (hn _ _ _ _ hk);exact⟨e,a',w',hq,.of_steps (.one step_loop) harr⟩
  |true=>rw[hp]at hk;simp only[ah]at hk;obtain⟨e,a₁,w₁,⟨ex,st',he,hs,hk'⟩,harr⟩:=ih _ a w _ (h.mask _) hk b (.inLoop c::k) cs;cases e<;>cases ex<;>simp only[Gn]at he;obtain⟨e₂,a₂,w₂,hq₂,harr₂⟩:=key n _ a₁ w₁ (hs.mask _) (hn _ _ _ _ hk');exact⟨e₂,a₂,w₂,hq₂,.of_steps (Steps.trans (.one step_loop) (Steps.trans harr (.one step_inLoop))) harr₂⟩;exact⟨.exit _,a₁,w₁,⟨.exit _,_,he,hs.mask _,hk'⟩,.of_steps (.one step_loop) (.pass (x:=.inLoop c) rfl (λ_ _=> .inl (by simp)) harr)⟩;exact⟨.ret,a₁,w₁,⟨.ret,_,cx,hs.mask _,hk'⟩,.of_steps (.one step_loop) (.pass (x:=.inLoop c) rfl (λ_ _=> .inl (by simp)) harr)⟩
 |exit id=>intro hΛ st a w K h hk;exact wp_exit ⟨.exit id,st,rfl,h,hk⟩
 |ret=>intro hΛ st a w K h hk;exact wp_ret ⟨.ret,st,cx,h,hk⟩
 |_=>intro hΛ st a w K h hk;simp[den]at hk
theorem Fl {A:Rg}:∀{vs:iS}{xs:aw AV},pV A w vs xs->vs.length=xs.length/\∀(i:Nat)(x:AV),xs[i]?=some x->∃v,vs[i]?=some v/\gE (gi A (λ_=>0) w) v x []
 |[],[],_=>⟨rfl,by simp⟩
 |v::vs,x::xs,h=>by obtain⟨hl,hi⟩:=Fl h.2;refine⟨by simp[hl],λi y hy=>?_⟩;cases i with|zero=>simp at hy;subst hy;exact⟨v,rfl,h.1⟩|succ i=>exact hi i y (by simpa using hy)
 |[],_::_,h=>h.elim
 |_::_,[],h=>h.elim
theorem IP (hA:∀k b o,A k b o->b<w.heap.size){fn:Func}{vs:iS}(h:pV A w vs xs): oa ⟨A,λ_=>False,w,[],λk b o hb=>⟨hA k b o hb,λf=>f⟩⟩ (start fn xs) {tmps:=vs.toArray++Array.replicate (fn.ntmps-vs.toArray.size) undef,defers:=[]} w:=by
 obtain⟨hl,hi⟩:=Fl h;let C:Ctx:=⟨A,λ_=>False,w,[],λk b o hb=>⟨hA k b o hb,λf=>f⟩⟩
 let g:Gh:=⟨λ_=>0,λ_=>0,λ_=>none,λ_=>undef⟩
 have hle:(gi A (λ_=>0) w).Le (dc C g (start fn xs) w):=⟨rfl,λt ht=>ht.elim,λ_ _ _ _ _ hv=>hv,bh _,λs hs=>hs.elim,λ_ b o u ho hu=>⟨ho,hu⟩⟩
 refine⟨g,rfl,?_,?_,λi av hs=>?_,λs cs hs=>?_,λk v av hk=>by simp at hk,λb x hx=>(by cases hx),Fr.refl _ _,⟨[],rfl,by simp,by simp⟩⟩;simp[start,hl];simp[start];have hs':(xs++List.replicate (fn.ntmps-xs.length) AV.bot)[i]?=some av:=hs;rcases cq i xs.length with hlt|hge;rw[bD hlt]at hs';obtain⟨v,hv,hr⟩:=hi i av hs';refine⟨[],?_,by simp,by simp⟩;have hvv:(vs.toArray++Array.replicate (fn.ntmps-vs.toArray.size) undef).getD i undef=v:=by
  have hlt':i<vs.length:=by omega
  have hv':vs[i]=v:=by rw[al hlt']at hv;exact cc hv
  simp[dP,Array.getElem?_append,hlt',hv']
 show gE _ ((vs.toArray++Array.replicate (fn.ntmps-vs.toArray.size) undef).getD i undef) _ _;rw[hvv];exact hr.mono hle (by simp);rw[bA hge,eM]at hs';split at hs';cases hs';exact⟨[],gE.bot _ _,by simp,by simp⟩;cases hs';have hs':(List.replicate (xs.length+(fn.ntmps-xs.length)) (none:az (aw AC)))[s]?=some (some cs):=hs;rw[eM]at hs';split at hs'<;>cases hs'
theorem Yo {v:Value}{x:AC}{fp:fu}(h:hY (dc C g st w) v x fp):hY (gi C.A g.hw w) v x.strip fp:=by
 cases x with
 |int k n=>exact h
 |bool b=>exact h
 |str s=>exact h
 |nilsl=>exact h
 |fn f=>exact h
 |un=>exact h
 |bot=>exact h
 |ptr s off=>exact h.2.2
 |elt fl e y i off=>cases fl with|own t=>exact h.elim|nest _ _ _ _ _ _=>exact h.elim|part _ _ _ _=>exact h.elim|holed _ _ _=>exact h.elim|arg _=>exact h.1|loc ep pv=>exact h.1
 |sl fl e xs=>
  cases fl with
  |nest _ _ _ _ _ _=>exact h.1
  |part _ _ _ _=>exact h.1
  |holed _ _ _=>obtain⟨_,⟨k,hk,h3⟩,_⟩:=h;exact⟨λq hq=>(by cases hq),⟨k,hk,h3⟩,by simp⟩
  |own t=>exact⟨h.1,by simp⟩
  |arg _=>exact h
  |loc ep pv=>exact h.1
theorem xW {g:Gh}:∀{vs:iS}{xs:aw AC}{fp:fu},bR (dc C g st w) vs xs fp->bR (gi C.A g.hw w) vs (xs.map AC.strip) fp
 |[],[],_,h=>h
 |_::_,_::_,_,h=>by obtain⟨f1,f2,rfl,h1,h2⟩:=h;exact⟨f1,f2,rfl,Yo h1,xW h2⟩
 |[],_::_,_,h=>h.elim
 |_::_,[],_,h=>h.elim
def Cp (tmps:Array Value):ResultVar->Sem Value
 | .tmp t=>pure (tmps.getD t undef)
 | .cell a t=>do loadVar t (<-asAddr (tmps.getD a undef))
def yD:Bool×Nat->jX
 |(false,t)=> .slot t
 |(true,s)=> .box s
theorem Jl {x y:Bool×Nat}(h:yD x=yD y):x=y:=by rcases x with⟨_|_,a⟩<;>rcases y with⟨_|_,b⟩<;>simp[yD]at h<;>rw[h]
theorem ahO {E:Env}(hE:jA P E.ty)(h:ez C g st a w []){rv:ResultVar}{own:Bool×Nat}{gg:Bool}(hr:MG st E rv=some (own,gg,cs)): ∃v vs fp,(Cp a.tmps rv).run P w=.ok v w/\Cut gg v vs/\bR (gi C.A g.hw w) vs cs fp/\fp.Nodup/\∀b∈fp,g.lab b=some (yD own):=by
 cases rv with
 |tmp t=>simp only[MG]at hr;split at hr;rename_i g' cs' hg';cases hr;obtain⟨fp,hrel,hn,hl⟩:=h.slot t;rw[hg']at hrel;obtain⟨vs,hcut,hrel⟩:=hrel;exact⟨_,vs,fp,rfl,hcut,xW hrel,hn,hl⟩;cases hr
 |cell t T=>
  simp only[MG]at hr;split at hr;rename_i sh s off hT hp;cases hbx:(nth st.boxes s).getD none with
  |none=>rw[hbx]at hr;cases hr
  |some cs'=>
   rw[hbx]at hr;simp only[eT]at hr;split at hr;rename_i hfit;cases hr;have hbx:st.boxes[s]?=some (some cs'):=by rw[ei]at hbx;cases hq:st.boxes[s]? with|none=>rw[hq]at hbx;simp at hbx|some q=>rw[hq]at hbx;simp at hbx;rw[hbx]
   obtain⟨fp0,hpv,_,_⟩:=h.slot t;rw[hp]at hpv;have hpv:=AU hpv;obtain⟨arr,T',fr,fp,hblk,hth,hrel,hn,hnb,hl,hl0,hw0⟩:=h.boxes s cs' hbx;have hlen:=hrel.length;obtain⟨v,hrun,hcut⟩:=xO (hE T sh hT) (g.β s) off ((arr.toList.drop off).take sh.ct.size) (by simp at hlen⊢;omega) (N7 hblk off sh.ct.size);obtain⟨f1,f2,f3,rfl,r1,r2,r3⟩:=hrel.mid off sh.ct.size;have hn1:=(aO.1 (aO.1 hn).1).2.1;refine⟨v,_,f2,?_,hcut,xW r2,hn1,λb hb=>hl b (by simp[hb])⟩;simp only[Cp,hpv,asAddr,Sem.run_bind,Sem.run_pure,Result.andThen_ok];exact hrun;cases hr
  cases hr
theorem ZJ {E:Env}(hE:jA P E.ty){g:Gh}(h:ez C g st a w [])(gf:ResultVar->Value):∀(rs:aw ResultVar)(had:aw (Bool×Nat))(ys:aw (Bool×aw AC)),sC st E had rs=some ys->
 (∀rv v,(Cp a.tmps rv).run P w=.ok v w->gf rv=v)->
 (∀rv∈rs,(Cp a.tmps rv).run P w=.ok (gf rv) w)/\∃fp,gE.qw (gi C.A g.hw w) (rs.map gf) ys fp/\fp.Nodup/\∀b∈fp,∃own,own∉had/\g.lab b=some (yD own)
 |[],had,ys,hr,hgf=>by cases hr;exact⟨by simp,[],rfl,by simp,by simp⟩
 |rv::rs,had,ys,hr,hgf=>by
  simp only[sC]at hr;cases h1:MG st E rv with
  |none=>rw[h1]at hr;cases hr
  |some x=>
   obtain⟨own,gg,cs⟩:=x;rw[h1]at hr;simp only[eT]at hr;split at hr;cases hr;rename_i hnot;have hnot:own∉had:=by simpa using hnot
   cases h2:sC st E (own::had) rs with|none=>rw[h2]at hr;cases hr|some xs=>rw[h2]at hr;simp only[eT,br]at hr;subst hr;obtain⟨v,vs,fp1,hrun,hcut,hrel,hn1,hl1⟩:=ahO hE h h1;obtain⟨hruns,fp2,hrel2,hn2,hl2⟩:=ZJ hE h gf rs (own::had) xs h2 hgf;have hv:=hgf rv v hrun;refine⟨λrv' hm=>?_,fp1++fp2,⟨fp1,fp2,rfl,⟨vs,by rw[hv];exact hcut,hrel⟩,hrel2⟩,?_,λb hb=>?_⟩;rcases bQ.1 hm with rfl|hm;rw[hv];exact hrun;exact hruns rv' hm;refine aO.2 ⟨hn1,hn2,λb hb b' hb' he=>?_⟩;subst he;obtain⟨own',hno,hlab⟩:=hl2 b hb';rw[hl1 b hb]at hlab;have:=Jl (cc hlab);subst this;exact hno (by simp);rcases ay.1 hb with hb|hb;exact⟨own,hnot,hl1 b hb⟩;obtain⟨own',hno,hlab⟩:=hl2 b hb;exact⟨own',λhm=>hno (by simp[hm]),hlab⟩
theorem FK.aaH {fl:FK}{f:qv}(h:fl.fits f=true):f=fl.flag:=by
 unfold FK.fits at h;split at h;rename_i t t';have:t=t':=by simpa using h
 subst this;rfl;rename_i k;have:k=false:=by simpa using h
 subst this;rfl;rename_i k;have:k=true:=h;subst this;rfl;rfl;rename_i j t j' t';simp only[ae,bm]at h;obtain⟨rfl,rfl⟩:=h;rfl;cases h
theorem xQ:∀{t:FT}{cs r:aw AC}{x:t.ct.D},Kn t cs=some (x,r)->cs=jC t x++r:=by
 intro t;induction t with
 |int k=>intro cs r x h;cases cs with|nil=>simp[Kn]at h|cons y ys=>cases y<;>simp[Kn]at h;obtain⟨rfl,rfl,rfl⟩:=h;rfl
 |bool=>intro cs r x h;cases cs with|nil=>simp[Kn]at h|cons y ys=>cases y<;>simp[Kn]at h;obtain⟨rfl,rfl⟩:=h;rfl
 |str=>intro cs r x h;cases cs with|nil=>simp[Kn]at h|cons y ys=>cases y<;>simp[Kn]at h;obtain⟨rfl,rfl⟩:=h;rfl
 |sl fl e=>
  intro cs r x h;cases cs with
  |nil=>simp[Kn]at h
  |cons y ys=>
   cases y with
   |sl fl' e' xs=>
    simp only[Kn]at h;split at h
    ·rename_i he;subst he;cases hf:fl.fits fl' with
     |false=>rw[hf]at h;cases h
     |true=>
      rw[hf]at h;cases h;rw[FK.aaH hf];have hn:fl.isNil=false:=by cases fl<;>first|rfl|(unfold FK.fits at hf;cases hf)
      simp only[jC,hn,af];rfl
    cases h
   |nilsl=>simp only[Kn]at h;cases hn:fl.isNil with|false=>rw[hn]at h;cases h|true=>rw[hn]at h;cases h;simp only[jC,hn,ah];rfl
   |_=>simp[Kn]at h
 |pair a b iha ihb=>intro cs r x h;simp only[Kn]at h;obtain⟨⟨x1,r1⟩,h1,h⟩:=aU.1 h;obtain⟨⟨x2,r2⟩,h2,h⟩:=aU.1 h;cases h;have h3:r1=jC b x2++r2:=ihb h2;rw[iha h1,h3];simp[jC]
theorem Jk:∀(rs:aw (Bool×FT))(ys:aw (Bool×aw AC))(y:lE rs),lC rs ys=some y->ys=am1 rs y
 |[],[],y,_=>rfl
 |[],_::_,y,h=>by simp[lC]at h
 |[(g,t)],ys,y,h=>by
  cases ys with
  |nil=>simp[lC]at h
  |cons p ys=>
   cases ys with
   |cons _ _=>simp[lC]at h
   |nil=>
    obtain⟨g',cs⟩:=p;simp only[lC]at h;cases hg:g==g' with
    |false=>rw[hg]at h;cases h
    |true=>
     rw[hg]at h;have:g=g':=by simpa using hg
     subst this;simp only[ah]at h;split at h;rename_i x hx;cases h;have:=xQ hx;rw[bK]at this;rw[this];rfl;cases h
 |(g,t)::p::r,ys,y,h=>by
  cases ys with
  |nil=>simp[lC]at h
  |cons q ys=>
   obtain⟨g',cs⟩:=q;simp only[lC]at h;cases hg:g==g' with
   |false=>rw[hg]at h;cases h
   |true=>
    rw[hg]at h;have:g=g':=by simpa using hg
    subst this;simp only[ah]at h;split at h;rename_i x hx;obtain⟨z,hz,h⟩:=aU.1 h;cases h;have h1:=xQ hx;rw[bK]at h1;rw[h1,Jk (p::r) ys z hz];rfl;cases h
theorem Jt {E:Env}(hE:jA P E.ty){fn:Func}{st':AS}{a':Act}{w':World}(hg:ez C g st' a' w' []){had:aw (Bool×Nat)}(hra:sC st' E had fn.results.toList=some ys){y:lE rs}(hres:lC rs ys=some y): ∃v fp,(Go.results fn a'.tmps).run P w'=.ok v w'/\gE (gi C.A g.hw w') v (zA rs y) fp/\fp.Nodup/\∀b∈fp,∃own,own∉had/\g.lab b=some (yD own):=by
 have hys:=Jk rs ys y hres;let gf:ResultVar->Value:=λrv=>match (Cp a'.tmps rv).run P w' with| .ok v _=>v|_=>undef
 obtain⟨hruns,fp,hrel,hnd,hlab⟩:=ZJ hE hg gf fn.results.toList had ys hra (λrv v hv=>by simp only[gf,hv]);have hmap:=Cr (P:=P) (Cp a'.tmps) gf w' fn.results (λx hx=>hruns x (by simpa using hx));have hrun:(Go.results fn a'.tmps).run P w'=.ok (if h:(fn.results.map gf).size=1 then(fn.results.map gf)[0] else .tuple (fn.results.map gf)) w':=by
  have:Go.results fn a'.tmps=(do
   let vs<-fn.results.mapM (Cp a'.tmps)
   pure (if h:vs.size=1 then vs[0] else .tuple vs)):=by
   unfold Go.results
   congr 1
  rw[this];simp only[Sem.run_bind,hmap,Result.andThen_ok,Sem.run_pure]
 refine⟨_,fp,hrun,?_,hnd,hlab⟩;have hmapl:(fn.results.map gf).toList=fn.results.toList.map gf:=by simp
 unfold zA;rw[<-hys];cases ys with
 |nil=>
  have hnil:fn.results.toList.map gf=[]:=by cases hm:fn.results.toList.map gf with|nil=>rfl|cons u us=>rw[hm]at hrel;exact hrel.elim
  have hsz:¬(fn.results.map gf).size=1:=by rw[<-Array.length_toList,hmapl,hnil];simp
  rw[dif_neg hsz];exact⟨_,by rw[<-hmapl],hrel⟩
 |cons y1 ys=>
  cases ys with
  |nil=>
   obtain⟨gg,cs⟩:=y1;cases hm:fn.results.toList.map gf with
   |nil=>rw[hm]at hrel;exact hrel.elim
   |cons u us=>
    rw[hm]at hrel;obtain⟨f1,f2,rfl,hone,hrest⟩:=hrel;cases us with
    |cons _ _=>exact hrest.elim
    |nil=>
     cases hrest;have harr:fn.results.map gf=#[u]:=by apply fG;rw[hmapl,hm]
     have:(if h:(fn.results.map gf).size=1 then(fn.results.map gf)[0] else .tuple (fn.results.map gf))=u:=by rw[dif_pos (by rw[harr];rfl)];simp only[harr];rfl
     rw[this,bK];exact hone
  |cons y2 ys=>
   have hsz:¬(fn.results.map gf).size=1:=by rw[<-Array.length_toList,hmapl];cases hm:fn.results.toList.map gf with|nil=>simp|cons u us=>rw[hm]at hrel;obtain⟨f1,f2,rfl,hone,hrest⟩:=hrel;cases us with|nil=>exact hrest.elim|cons u2 us=>simp
   rw[dif_neg hsz];exact⟨_,by rw[<-hmapl],hrel⟩
theorem MH {E:Env}(hE:jA P E.ty){fn:Func}{st':AS}{a':Act}{w':World}(hg:ez C g st' a' w' [])(hra:sC st' E [] fn.results.toList=some ys){y:lE rs}(hres:lC rs ys=some y): ∃v fp,(Go.results fn a'.tmps).run P w'=.ok v w'/\gE (gi C.A g.hw w') v (zA rs y) fp/\fp.Nodup/\∀b∈fp,∃own,g.lab b=some (yD own):=by obtain⟨v,fp,h1,h2,h3,h4⟩:=Jt hE hg hra hres;exact⟨v,fp,h1,h2,h3,λb hb=>(h4 b hb).imp λ_ h=>h.2⟩
theorem ajL {E:Env}{rs:aw (Bool×FT)}(hS:Sound P E Γ){fn:Func}(hf:P.funcs[f]?=some fn)(hname:(fn.name== "runtime.NumGoroutine")=false)(hΛ:CL E Γ an Λ (fn.body.getD .skip)):iH P f {R:=lE rs,fn:=Lw E Γ an Λ fn rs,av:=zA rs}:=by
 intro xs y hy;simp only at hy;unfold Lw at hy;cases hb:fn.body with
 |none=>rw[hb]at hy;cases hy
 |some c=>
  rw[hb]at hy;simp only at hy;split at hy;refine⟨⟨fn,c,hf,hb,hname⟩,λ_ _ A w vs hA hargs=>?_,λh=>(by cases h),λh=>(by cases h),λh=>(by cases h)⟩;refine calls_of_wp hf hb (wp_mono (QX hS c (by rw[hb]at hΛ;exact hΛ) _ _ _ _ (IP hA hargs) hy) ?_);rintro e a' w' ⟨ex,st',he,hs,hk⟩;have main:aa (sC st' E [] fn.results.toList) (lC rs)=some y->a'.defers=[]/\∃v,(Go.results fn a'.tmps).run P w'=.ok v w'/\∃v_1 hw fp,Ending.returned v=Ending.returned v_1/\gE (gi A hw w') v_1 (zA rs y) fp/\fp.Nodup/\(∀b∈fp,w.heap.size<=b/\b<w'.heap.size)/\Fr (λ_=>False) w w':=by intro hres;obtain⟨g,hg⟩:=hs;refine⟨hg.defers,?_⟩;cases hra:sC st' E [] fn.results.toList with|none=>rw[hra]at hres;cases hres|some ys=>rw[hra]at hres;obtain⟨v,fp,hrun,hrel,hnd,hlab⟩:=MH hS.ty hg hra hres;refine⟨v,hrun,v,g.hw,fp,rfl,hrel,hnd,λb hb=>?_,hg.frame⟩;obtain⟨own,hl⟩:=hlab b hb;have:=hg.labs b _ hl;exact⟨this.2.resolve_right (λf=>f),this.1⟩
  cases e<;>cases ex<;>simp only[Gn]at he;exact main hk;cases hk;exact main hk;cases hy
theorem ady {E:Env}{rs2:aw (Bool×FT)}(h2:lE rs2=lE rs)(hS:Sound P E Γ){fn:Func}(hf:P.funcs[f]?=some fn)(hname:(fn.name== "runtime.NumGoroutine")=false)(hΛ:CL E Γ an Λ (fn.body.getD .skip)):iH P f {R:=Bool×lE rs,fn:=evalAlt E Γ an Λ fn rs rs2 h2,av:=λy=>zA rs y.2,sel:=λy=>y.1,alt:=λy=>zA rs2 (cast h2.symm y.2)}:=by
 intro xs y hy;simp only at hy;unfold evalAlt at hy;cases hb:fn.body with
 |none=>rw[hb]at hy;cases hy
 |some c=>
  rw[hb]at hy;simp only at hy;split at hy;refine⟨⟨fn,c,hf,hb,hname⟩,λ_ _ A w vs hA hargs=>?_,λh=>(by cases h),λh=>(by cases h),λh=>(by cases h)⟩;refine calls_of_wp hf hb (wp_mono (QX hS c (by rw[hb]at hΛ;exact hΛ) _ _ _ _ (IP hA hargs) hy) ?_);rintro e a' w' ⟨ex,st',he,hs,hk⟩
  have main:(aa (sC st' E [] fn.results.toList) λys=>match lC rs ys with
   |some y=>some (true,y)
   |none=>match lC rs2 ys with
    |some y=>some (false,cast h2 y)
    |none=>none)=some y->a'.defers=[]/\∃v,(Go.results fn a'.tmps).run P w'=.ok v w'/\∃v_1 hw fp,Ending.returned v=Ending.returned v_1/\
   gE (gi A hw w') v_1 (cond y.1 (zA rs y.2) (zA rs2 (cast h2.symm y.2))) fp/\fp.Nodup/\(∀b∈fp,w.heap.size<=b/\b<w'.heap.size)/\Fr (λ_=>False) w w':=by
   intro hres
   obtain⟨g,hg⟩:=hs
   refine⟨hg.defers,?_⟩
   cases hra:sC st' E [] fn.results.toList with
   |none=>rw[hra]at hres;cases hres
   |some ys=>
    rw[hra]at hres
    simp only[aa]at hres
    have fin:∀(rs':aw (Bool×FT))(y':lE rs'),lC rs' ys=some y'->∃v,(Go.results fn a'.tmps).run P w'=.ok v w'/\∃v_1 hw fp,Ending.returned v=Ending.returned v_1/\
     gE (gi A hw w') v_1 (zA rs' y') fp/\fp.Nodup/\(∀b∈fp,w.heap.size<=b/\b<w'.heap.size)/\Fr (λ_=>False) w w':=by
     intro rs' y' hy'
     obtain⟨v,fp,hrun,hrel,hnd,hlab⟩:=MH hS.ty hg hra hy'
     refine⟨v,hrun,v,g.hw,fp,rfl,hrel,hnd,λb hb=>?_,hg.frame⟩
     obtain⟨own,hl⟩:=hlab b hb
     have:=hg.labs b _ hl
     exact⟨this.2.resolve_right (λf=>f),this.1⟩
    cases h1:lC rs ys with
    |some y1=>rw[h1]at hres;cases hres;exact fin rs y1 h1
    |none=>
     rw[h1]at hres
     simp only at hres
     cases h3:lC rs2 ys with
     |none=>rw[h3]at hres;cases hres
     |some y1=>
      rw[h3]at hres
      cases hres
      simp only[af,cast_cast,cast_eq]
      exact fin rs2 y1 h3
  cases e<;>cases ex<;>simp only[Gn]at he;exact main hk;cases hk;exact main hk;cases hy
theorem aaq {c:RC}(hcA:c.A=A)(hcw:c.w=w)(hchw:c.hw=hw)(hiss:∀t,t%3=1->c.iss t){all:iS}(hhdr:∀t,c.hdr t=(all[t/3]?).getD undef):
 ∀(j:Nat){vs:iS}{cs:aw AC}{fp:fu},bR (gi A hw w) vs cs fp->cs.all (AC.yk true)=true->(∀i v,vs[i]?=some v->all[j+i]?=some v)->bR c vs (Ge j cs) fp:=by
 intro j vs
 induction vs generalizing j with
 |nil=>intro cs fp h _ _;cases cs with
  |nil=>exact h
  |cons _ _=>exact h.elim
 |cons v vs ih=>
  intro cs fp h hok hall
  cases cs with
  |nil=>exact h.elim
  |cons x cs=>
   obtain⟨f1,f2,rfl,h1,h2⟩:=h
   simp only[ch,ae]at hok
   have i1:=ih (j+1) h2 hok.2 (λi u hu=>by rw[show j+1+i=j+(i+1) by omega];exact hall (i+1) u (by simpa using hu))
   have hv0:=hall 0 v rfl
   rw[eG]at hv0
   have rf:x.jE=true->Ge j (x::cs)=x::Ge (j+1) cs->bR c (v::vs) (Ge j (x::cs)) (f1++f2):=by rintro hf e1;obtain⟨rfl,k⟩:=re (c':=c) h1 hf;rw[e1];exact⟨[],f2,rfl,k,i1⟩
   cases x with
   |sl fl e xs=>
    cases fl with
    |own t=>
     have hown:fM c.hw c.w (.sl e) [v] xs f1:=by rw[hchw,hcw];exact h1.1
     refine⟨f1,f2,rfl,⟨hown,λq hq=>?_⟩,i1⟩
     cases hq
     refine⟨hiss _ (by omega),?_⟩
     rw[hhdr,show(3*j+1)/3=j by omega,hv0];rfl
    |arg k=>
     have hk:k=true:=by simpa[AC.yk]using hok.1
     subst hk
     exact⟨f1,f2,rfl,⟨h1.1,by rw[hcw,hcA];exact h1.2⟩,i1⟩
    |loc ep pv=>cases hok.1
    |nest _ _ _ _ _ _=>cases hok.1
    |part _ _ _ _=>cases hok.1
    |holed _ _ _=>cases hok.1
   |int k n=>exact rf rfl rfl
   |bool b=>exact rf rfl rfl
   |str s=>exact rf rfl rfl
   |fn f=>exact rf rfl rfl
   |nilsl=>cases hok.1
   |ptr s off=>cases hok.1
   |elt fl e y i off=>cases hok.1
   |un=>cases hok.1
   |bot=>cases hok.1
theorem R0 {fp:fu}{b:Nat}(hA:∀k b' o,A k b' o->b'<w.heap.size/\b'≠b/\b'∉fp){fn:Func}{vs:iS}{arr:Array Value}{T:TypeId}{fr:Nat×Nat}(hblk:w.heap[b]?=some (.cells arr T fr))(hth:pS arr fr)(hrel:bR (gi A hw w) arr.toList cs fp)(hok:cs.all (AC.yk true)=true)(hn:fp.Nodup)(hnb:b∉fp)(hlt:∀b'∈fp,b'<w.heap.size)(hw0:hw b=0)(h:pV A w vs xs): oa ⟨A,λb'=>b'=b\/b'∈fp,w,[.pointer (some ⟨b,0,none⟩)],λk b' o hb=>⟨(hA k b' o hb).1,λhm=>hm.elim (hA k b' o hb).2.1 (hA k b' o hb).2.2⟩⟩ (Al fn cs xs) {tmps:=(.pointer (some ⟨b,0,none⟩)::vs).toArray++Array.replicate (fn.ntmps-(Value.pointer (some ⟨b,0,none⟩)::vs).toArray.size) undef,defers:=[]} w:=by
 obtain⟨hl,hi⟩:=Fl h;let v0:Value:=.pointer (some ⟨b,0,none⟩);let C:Ctx:=⟨A,λb'=>b'=b\/b'∈fp,w,[v0],λk b' o hb=>⟨(hA k b' o hb).1,λhm=>hm.elim (hA k b' o hb).2.1 (hA k b' o hb).2.2⟩⟩
 let g:Gh:=⟨hw,λ_=>b,λb'=>if b'=b\/b'∈fp then some (.box 0) else none,λt=>(arr.toList[t/3]?).getD undef⟩
 have hbs:=mq hblk;have hpres:jq (Al fn cs xs) 0:=⟨Ge 0 cs,rfl⟩
 have hle:(gi A (λ_=>0) w).Le (dc C g (Al fn cs xs) w):=⟨rfl,λt ht=>ht.elim,λ_ _ _ _ _ hv=>hv,bh _,λs hs=>hs.elim,λ_ b o u ho _=>absurd ho (Nat.not_lt_zero _)⟩
 have k1:=aaq (c:=dc C g (Al fn cs xs) w) (A:=A) rfl rfl rfl (λt ht=> .inl (by omega)) (all:=arr.toList) (λt=>rfl) 0 hrel hok (λi v hv=>by rw[cw];exact hv);refine⟨g,rfl,?_,?_,λi av hs=>?_,λs cs' hs=>?_,λk v av hk=>by simp at hk,λb' x hx=>?_,Fr.refl _ _,⟨[],⟨[],[],rfl,⟨rfl,hpres,rfl⟩,rfl⟩,by simp,by simp⟩⟩;simp[Al,start,hl];omega;simp[Al,start];have hs':((.one (.ptr 0 0)::xs)++List.replicate (fn.ntmps-(AV.one (.ptr 0 0)::xs).length) AV.bot)[i]?=some av:=hs;rcases cq i (xs.length+1)with hlt'|hge;rw[bD (by simpa using hlt')]at hs';cases i with
 |zero=>
  simp at hs';subst hs';refine⟨[],?_,by simp,by simp⟩;have hvv:((v0::vs).toArray++Array.replicate (fn.ntmps-(v0::vs).toArray.size) undef).getD 0 undef=v0:=by simp[dP,Array.getElem?_append]
  show gE _ (((v0::vs).toArray++Array.replicate (fn.ntmps-(v0::vs).toArray.size) undef).getD 0 undef) _ _;rw[hvv];exact mF ⟨rfl,hpres,rfl⟩
 |succ i=>
  obtain⟨v,hv,hr⟩:=hi i av (by simpa using hs');refine⟨[],?_,by simp,by simp⟩;have hvv:((v0::vs).toArray++Array.replicate (fn.ntmps-(v0::vs).toArray.size) undef).getD (i+1) undef=v:=by
   have hlt2:i<vs.length:=by omega
   have hv':vs[i]=v:=by rw[al hlt2]at hv;exact cc hv
   simp[dP,Array.getElem?_append,hlt2,hv']
  show gE _ (((v0::vs).toArray++Array.replicate (fn.ntmps-(v0::vs).toArray.size) undef).getD (i+1) undef) _ _;rw[hvv];exact hr.mono hle (by simp)
 rw[bA (by simpa using hge),eM]at hs';split at hs';cases hs';exact⟨[],gE.bot _ _,by simp,by simp⟩;cases hs';have hs':(some (Ge 0 cs)::List.replicate (xs.length+(fn.ntmps-(xs.length+1))) (none:az (aw AC)))[s]?=some (some cs'):=hs;cases s with|zero=>simp at hs';subst hs';refine⟨arr,T,fr,fp,hblk,hth,k1,hn,hnb,λb' hb'=>?_,?_,hw0⟩;show(if b'=b\/b'∈fp then _ else _)=_;rw[aE (.inr hb')];show(if b=b\/b∈fp then _ else _)=_;rw[aE (.inl rfl)]|succ s=>simp only[fA,eM]at hs';split at hs'<;>cases hs'
 have hx':(if b'=b\/b'∈fp then some (jX.box 0) else none)=some x:=hx;split at hx';rename_i hm;rcases hm with rfl|hm;exact⟨hbs,.inr (.inl rfl)⟩;exact⟨hlt b' hm,.inr (.inr hm)⟩;cases hx'
theorem qA {E:Env}{rs:aw (Bool×FT)}{t:FT}(hS:Sound P E Γ){fn:Func}(hf:P.funcs[f]?=some fn)(hname:(fn.name== "runtime.NumGoroutine")=false)(hΛ:CL E Γ an Λ (fn.body.getD .skip)):iH P f {R:=lE rs×t.ct.D,fn:=Zc E Γ an Λ fn rs t,av:=λy=>zA rs y.1,back:=λy=>jC t y.2,bx:=true}:=by
 intro xs y hy;simp only at hy;unfold Zc at hy;split at hy;rename_i c cs rest hb;split at hy;rename_i hlen;refine⟨⟨fn,c,hf,hb,hname⟩,λ_ h=>(by cases h),λh=>(by cases h),λ_ cs0 rest0 he A w b vs arr T fr hw fp hA hblk hth hrel hn hnb hlt hw0 hargs=>?_,λh=>(by cases h)⟩;injection he with he1 he2;injection he1 with _ he3;subst he2;subst he3;refine calls_of_wp hf hb (wp_mono (QX hS c (by rw[hb]at hΛ;exact hΛ) _ _ _ _ (R0 (fn:=fn) hA hblk hth hrel hlen.2 hn hnb hlt hw0 hargs) hy) ?_);rintro e a' w' ⟨ex,st',he,hs,hk⟩
 have main:(aa (aa (sC st' E [(true,0)] fn.results.toList) (lC rs)) λr=>match st'.io,st'.boxes with
  |[.ptr 0 0],some cs'::_=>(match Kn t (cs'.map AC.strip)with|some (x,[])=>some (r,x)|_=>none)
  |_,_=>none)=some y->
  a'.defers=[]/\∃v,(Go.results fn a'.tmps).run P w'=.ok v w'/\∃v_1 hw' fv arr' T' fr' fp',Ending.returned v=Ending.returned v_1/\gE (gi A hw' w') v_1 (zA rs y.1) fv/\w'.heap[b]?=some (.cells arr' T' fr')/\pS arr' fr'/\
    bR (gi A hw' w') arr'.toList (jC t y.2) fp'/\fp'.Nodup/\b∉fp'/\(∀b'∈fp',b'<w'.heap.size/\(b'∈fp\/w.heap.size<=b'))/\fv.Nodup/\(∀b'∈fv,b'<w'.heap.size/\(b'∈fp\/w.heap.size<=b')/\b'∉fp'/\b'≠b)/\Fr (λb'=>b'=b\/b'∈fp) w w':=by
  intro hres
  obtain⟨g,hg⟩:=hs
  refine⟨hg.defers,?_⟩
  cases hra:sC st' E [(true,0)] fn.results.toList with
  |none=>rw[hra]at hres;cases hres
  |some ys=>
   rw[hra]at hres
   simp only[aa]at hres
   cases hrr:lC rs ys with
   |none=>rw[hrr]at hres;cases hres
   |some r0=>
    rw[hrr]at hres
    simp only at hres
    split at hres
    ·rename_i cs' tl hio hbx
     split at hres
     ·rename_i x hx
      cases hres
      obtain⟨v,fv,hrun,hrel',hnd,hlab⟩:=Jt hS.ty hg hra hrr
      obtain⟨fpi,hri,_,_⟩:=hg.io
      rw[hio]at hri
      obtain⟨g1,g2,_,hptr,_⟩:=hri
      have hβ:b=g.β 0:=by have:=hptr.1;simp only[Value.pointer.injEq,br,Addr.mk.injEq]at this;exact this.1
      obtain⟨arr',T',fr',fp',hblk',hth',hr',hn',hnb',hl',hl0',_⟩:=hg.boxes 0 cs' (by rw[hbx];rfl)
      rw[<-hβ]at hblk' hnb' hl0'
      have hst:=xW hr'
      have hsp:=xQ hx
      rw[bK]at hsp
      rw[hsp]at hst
      have hM:∀b',(w.heap.size<=b'\/(b'=b\/b'∈fp))->b'≠b->b'∈fp\/w.heap.size<=b':=by rintro b' (h2|h2|h2) hne;exact .inr h2;exact absurd h2 hne;exact .inl h2
      refine⟨v,hrun,v,g.hw,fv,arr',T',fr',fp',rfl,hrel',hblk',hth',hst,hn',hnb',λb' hb'=>?_,hnd,λb' hb'=>?_,hg.frame⟩
      ·have:=hg.labs b' _ (hl' b' hb')
       exact⟨this.1,hM b' this.2 (λe=>hnb' (e▸hb'))⟩
      ·obtain⟨own,hnot,hlb⟩:=hlab b' hb'
       have hno:g.lab b'≠some (.box 0):=by rw[hlb];intro e;have e2:yD own=yD (true,0):=cc e;exact hnot (by rw[Jl e2];simp)
       have hne:b'≠b:=λe=>hno (by rw[e];exact hl0')
       have:=hg.labs b' _ hlb
       exact⟨this.1,hM b' this.2 hne,λhm=>hno (hl' b' hm),hne⟩
     ·cases hres
    ·cases hres
 cases e<;>cases ex<;>simp only[Gn]at he;exact main hk;cases hk;exact main hk;cases hy;cases hy
theorem apE {E:Env}{t:FT}(hS:Sound P E Γ){fn:Func}(hf:P.funcs[f]?=some fn)(hname:(fn.name== "runtime.NumGoroutine")=false)(hΛ:CL E Γ an Λ (fn.body.getD .skip)):iH P f {R:=t.ct.D,fn:=Q1 E Γ an Λ fn t,av:=λ_=> .bot,back:=λy=>jC t y,pr:=true}:=by
 intro xs y hy;simp only at hy;unfold Q1 at hy;cases hb:fn.body with
 |none=>rw[hb]at hy;cases hy
 |some c=>
  rw[hb]at hy;simp only at hy;split at hy;have key:aii P f {R:=t.ct.D,fn:=Q1 E Γ an Λ fn t,av:=λ_=> .bot,back:=λy=>jC t y,pr:=true} y xs:=by
   intro A w vs hA hargs;refine calls_of_wp hf hb (wp_mono (QX hS c (by rw[hb]at hΛ;exact hΛ) _ _ _ _ (IP hA hargs) hy) ?_);rintro e a' w' ⟨ex,st',he,hs,hk⟩
   have main:(match fn.results.toList with
    |[.tmp i]=>match st'.get i with
     | .val false [.ptr s 0]=>match (nth st'.boxes s).getD none with
       |some cs=>if cs.all AC.HL=true then(match Kn t (cs.map AC.strip)with|some (x,[])=>some x|_=>none) else none
       |none=>none
     |_=>none
    |_=>none)=some y->a'.defers=[]/\∃v,(Go.results fn a'.tmps).run P w'=.ok v w'/\∃b arr T fr hw,Ending.returned v=.returned (.pointer (some ⟨b,0,none⟩))/\w.heap.size<=b/\w'.heap[b]?=some (.cells arr T fr)/\pS arr fr/\bR (gi A hw w') arr.toList (jC t y) []/\Fr (λ_=>False) w w':=by
    intro hres
    obtain⟨g,hg⟩:=hs
    refine⟨hg.defers,?_⟩
    split at hres
    ·rename_i i hri
     split at hres
     ·rename_i s hp
      cases hbx:(nth st'.boxes s).getD none with
      |none=>rw[hbx]at hres;cases hres
      |some cs=>
       rw[hbx]at hres
       simp only at hres
       split at hres
       ·rename_i hok
        split at hres
        ·rename_i x hx
         cases hres
         have hbx:st'.boxes[s]?=some (some cs):=by rw[ei]at hbx;cases hq:st'.boxes[s]? with|none=>rw[hq]at hbx;simp at hbx|some q=>rw[hq]at hbx;simp at hbx;rw[hbx]
         obtain⟨fp0,hpv,_,_⟩:=hg.slot i
         rw[hp]at hpv
         have hpv:=AU hpv
         obtain⟨arr,T,fr,fp,hblk,hth,hrel,hn,hnb,hl,hl0,hw0⟩:=hg.boxes s cs hbx
         obtain⟨hfp,vs,hcut,hrel2⟩:=arg_val (c:=dc _ g st' w') (c':=dc _ g st' w') rfl rfl (v:=.agg arr.toList.toArray) (x:=.val true cs) ⟨arr.toList,rfl,hrel⟩ hok
         have hvs:arr.toList=vs:=by have hcut:Value.agg arr.toList.toArray=.agg vs.toArray:=hcut;simp only[Value.agg.injEq]at hcut;simpa using congrArg Array.toList hcut
         rw[<-hvs]at hrel2
         have hst:=xW hrel2
         have hsp:=xQ hx
         rw[bK]at hsp
         rw[hsp]at hst
         have hrun:(Go.results fn a'.tmps).run P w'=.ok (a'.tmps.getD i undef) w':=by
          have he:fn.results=#[.tmp i]:=by apply fG;exact hri
          have hmap:=Cr (P:=P) (Cp a'.tmps) (λ_=>a'.tmps.getD i undef) w' fn.results (λx hx=>by rw[he]at hx;simp at hx;subst hx;rfl)
          have hd:Go.results fn a'.tmps=(do
           let vs<-fn.results.mapM (Cp a'.tmps)
           pure (if h:vs.size=1 then vs[0] else .tuple vs)):=by
           unfold Go.results
           congr 1
          rw[hd];simp only[Sem.run_bind,hmap,Result.andThen_ok,Sem.run_pure];rw[he];simp
         refine⟨_,hrun,g.β s,arr,T,fr,g.hw,congrArg Ending.returned hpv,?_,hblk,hth,hst,hg.frame⟩
         exact(hg.labs _ _ hl0).2.resolve_right (λf=>f)
        ·cases hres
       ·cases hres
     ·cases hres
    ·cases hres
   cases e<;>cases ex<;>simp only[Gn]at he;exact main hk;cases hk;exact main hk
  refine⟨⟨fn,c,hf,hb,hname⟩,λ_ _ A w vs hA hargs=>?_,λh=>(by cases h),λh=>(by cases h),λ_=>key⟩;refine(key A w vs hA hargs).mono ?_;rintro e w' ⟨b,arr,T,fr,hw,rfl,_,_,_,_,hfr⟩;exact⟨_,hw,[],rfl,gE.bot _ _,List.nodup_nil,(λb hb=>by cases hb),hfr⟩;cases hy
end Go.Dn
