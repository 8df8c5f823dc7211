import Derived.Test.YtainmjjkipbciaaGreatDnAny
/- The soundness of the abstract semantics: code and functions. -/
namespace Go.Dn
open Go.RowKit
variable {P:Program} {C:Ctx} {st:AS} {a:Act} {w:World} {R:Type} {r:R}
variable {an:An} {Γ:eE} {g:Gh} {Λ:eP} {f:Nat} {hw:Nat->Nat} {A:Rg} {rs:ax (Bool×FT)} {ys:ax (Bool×ax AC)} {cs:ax AC} {xs:ax AV}
def Ef:Exit->Ex->Prop
 | .normal,.normal=>True
 | .ret,.ret=>True
 | .exit i,.exit j=>i=j
 |_,_=>False
def ait (C:Ctx)(K:Ex->AS->aB R)(r:R)(e:Exit)(a:Act)(w:World):Prop:=
 ∃ex st',Ef e ex/\nz C st' a w/\K ex st'=some r
theorem XL {E:Env}(hS:Sound P E Γ){id:Nat}{ops:Array Oper}{d:Bool}(h:nz C st a w){K:AS->aB R}(hk:Ot E Γ an id ops.toList d st K=some r){Q:Exit->Act->World->Prop}(hq:∀st' a' w',nz C st' a' w'->K st'=some r->Q .normal a' w'):(Code.region id ops d).wp P Q a w:=by
 unfold Ot at hk;split at hk;rw[IZ]at hk;cases ho:Bw E Γ an ops.toList d st some with|none=>rw[ho]at hk;cases hk|some st1=>rw[ho]at hk;exact U2 hS h ho (λa' w' hs=>hq _ _ _ hs hk)
 rename_i s hm;split at hk;rename_i hquiet;rw[IZ]at hk;cases ho:Bw E Γ.calm an ops.toList d st some with|none=>rw[ho]at hk;cases hk|some st1=>rw[ho]at hk;simp only[eT]at hk;cases hb:getBool st1 s with|none=>rw[hb]at hk;cases hk|some b=>rw[hb]at hk;simp only[aa]at hk;have hn:=Xi (abW Γ) (λo ho'=>aJ.1 hquiet o ho') ho;exact U2 hS.calm h ho (λa' w' hs=>hq _ _ _ (hs.weaken hn hb) hk)
 cases hk
def jh (E:Env)(Γ:eE)(an:An)(Λ:eP)(c:Code):Prop:=
 ∃n,∀(R:Type)(st:AS)(K:Ex->AS->aB R)(r:R),(Λ (fY c)).go st K=some r->Bf (an.mask (fY c)) (den E Γ an Λ c) n st K=some r
def Sd (E:Env)(Γ:eE)(an:An)(Λ:eP)(c:Code):Prop:=
 ∀(R:Type)(st:AS)(K:Ex->AS->aB R)(r:R),(Λ (Bq c)).go st K=some r->den E Γ an Λ c st (λe st'=>K e (st'.mask (an.mask (Bq c+1))))=some r
def AR (E:Env)(Γ:eE)(an:An)(Λ:eP)(c:Code):Prop:=(∀c'∈jm c,jh E Γ an Λ c')/\∀c'∈kF an.cut c,Sd E Γ an Λ c'
theorem YR (c:Code):kF [] c=[]:=by induction c with|seq a b iha ihb=>simp[kF,iha,ihb]|cond _ a b iha ihb=>simp[kF,iha,ihb]|block _ c ih=>simpa[kF]using ih|loop c ih=>simpa[kF]using ih|_=>rfl
theorem AR.of {E:Env}{c:Code}(h:∀c'∈jm c,jh E Γ an Λ c')(hc:an.cut=[]):AR E Γ an Λ c:=⟨h,by rw[hc,YR];simp⟩
theorem NO {E:Env}(hS:Sound P E Γ):∀(c:Code)(_:AR E Γ an Λ c)(st:AS)(a:Act)(w:World)(K:Ex->AS->aB R),nz C st a w->den E Γ an Λ c st K=some r->c.wp P (ait C K r) a w:=by
 intro c;induction c with
 |skip=>intro hΛ st a w K h hk;exact wp_skip ⟨.normal,st,cC,h,hk⟩
 |region id ops d=>intro hΛ st a w K h hk;exact XL hS h (by simpa only[den]using hk) (λst' a' w' hs he=>⟨.normal,st',cC,hs,he⟩)
 |seq x y ihx ihy=>
  intro hΛ st a w K h hk;have ihx:=ihx ⟨λc hc=>hΛ.1 c (by simp[jm,hc]),λc hc=>hΛ.2 c (by simp[kF,hc])⟩;have ihy:=ihy ⟨λc hc=>hΛ.1 c (by simp[jm,hc]),λc hc=>hΛ.2 c (by simp only[kF];cases an.cut.contains (fY y)<;>simp[hc])⟩;simp only[den]at hk;refine wp_seq (wp_mono (ihx st a w _ h hk) ?_);rintro e a' w' ⟨ex,st',he,hs,hk'⟩;cases e<;>cases ex<;>simp only[Ef]at he;simp only at hk';cases hcut:an.cut.contains (fY y)with|false=>rw[hcut]at hk';exact ihy st' a' w' K hs hk'|true=>rw[hcut]at hk';have hc:=hΛ.2 y (by simp only[kF,hcut];simp) _ _ _ _ hk';refine wp_mono (ihy _ a' w' _ (hs.mask _) hc) ?_;rintro e2 a2 w2 ⟨ex2,st2,he2,hs2,hk2⟩;exact⟨ex2,_,he2,hs2.mask _,hk2⟩
  exact⟨.exit _,st',he,hs,hk'⟩;exact⟨.ret,st',cC,hs,hk'⟩
 |cond c x y ihx ihy=>
  intro hΛ st a w K h hk;have ihx:=ihx ⟨λc hc=>hΛ.1 c (by simp[jm,hc]),λc hc=>hΛ.2 c (by simp[kF,hc])⟩;have ihy:=ihy ⟨λc hc=>hΛ.1 c (by simp[jm,hc]),λc hc=>hΛ.2 c (by simp[kF,hc])⟩;simp only[den]at hk;split at hk;rename_i t hc;have hv:a.eval c=.bool t:=by obtain⟨g,hg⟩:=h;have:=hg.rd c;rw[hc]at this;exact tQ this
  cases t with|true=>exact wp_cond_true hv (ihx st a w K h hk)|false=>exact wp_cond_false hv (ihy st a w K h hk)
  cases hk
 |block id c ih=>intro hΛ st a w K h hk;have ih:=ih ⟨λc hc=>hΛ.1 c (by simpa[jm]using hc),λc hc=>hΛ.2 c (by simpa[kF]using hc)⟩;simp only[den]at hk;refine wp_block (wp_mono (ih st a w _ h hk) ?_);rintro e a' w' ⟨ex,st',he,hs,hk'⟩;cases e<;>cases ex<;>simp only[Ef]at he;exact⟨.normal,st',cC,hs,hk'⟩;rename_i i j;subst he;simp only[Exit.inBlock];simp only at hk';by_cases hi:i=id;subst hi;rw[aH rfl];simp only[gY,bU]at hk';exact⟨.normal,st',cC,hs,hk'⟩;rw[aI hi];rw[aI (by simpa using hi)]at hk';exact⟨.exit i,st',rfl,hs,hk'⟩;exact⟨.ret,st',cC,hs,hk'⟩
 |loop c ih=>
  intro hΛ st a w K h hk;have ih:=ih ⟨λc hc=>hΛ.1 c (by simp[jm,hc]),λc hc=>hΛ.2 c (by simpa[kF]using hc)⟩;obtain⟨n,hn⟩:=hΛ.1 c (by simp[jm]);simp only[den]at hk;intro b k cs
  have key:∀m st a w,nz C st a w->Bf (an.mask (fY c)) (den E Γ an Λ c) m st K=some r->
   ∃e a' w',ait C K r e a' w'/\Arrives P (lone (b.at a (.code c:: .inLoop c::k)) cs w) b k cs e a' w':=by
   intro m
   induction m with
   |zero=>intro st a w _ hk;cases hk
   |succ m ihm=>
    intro st a w h hk
    simp only[Bf]at hk
    obtain⟨e,a₁,w₁,⟨ex,st',he,hs,hk'⟩,harr⟩:=ih st a w _ h hk b (.inLoop c::k) cs
    cases e<;>cases ex<;>simp only[Ef]at he
    ·obtain⟨e₂,a₂,w₂,hq₂,harr₂⟩:=ihm _ a₁ w₁ (hs.mask _) hk'
     exact⟨e₂,a₂,w₂,hq₂,.of_steps (Steps.trans harr (.one step_inLoop)) harr₂⟩
    ·exact⟨.exit _,a₁,w₁,⟨.exit _,_,he,hs.mask _,hk'⟩,.pass (x:=.inLoop c) rfl (λ_ _=> .inl (by simp)) harr⟩
    ·exact⟨.ret,a₁,w₁,⟨.ret,_,cC,hs.mask _,hk'⟩,.pass (x:=.inLoop c) rfl (λ_ _=> .inl (by simp)) harr⟩
  cases hp:an.peel.contains (fY c)with
  |false=>rw[hp]at hk;obtain⟨e,a',w',hq,harr⟩:=key n _ a w (h.mask _) (hn _ _ _ _ hk);exact⟨e,a',w',hq,.of_steps (.one step_loop) harr⟩
  |true=>rw[hp]at hk;simp only[ah]at hk;obtain⟨e,a₁,w₁,⟨ex,st',he,hs,hk'⟩,harr⟩:=ih _ a w _ (h.mask _) hk b (.inLoop c::k) cs;cases e<;>cases ex<;>simp only[Ef]at he;obtain⟨e₂,a₂,w₂,hq₂,harr₂⟩:=key n _ a₁ w₁ (hs.mask _) (hn _ _ _ _ hk');exact⟨e₂,a₂,w₂,hq₂,.of_steps (Steps.trans (.one step_loop) (Steps.trans harr (.one step_inLoop))) harr₂⟩;exact⟨.exit _,a₁,w₁,⟨.exit _,_,he,hs.mask _,hk'⟩,.of_steps (.one step_loop) (.pass (x:=.inLoop c) rfl (λ_ _=> .inl (by simp)) harr)⟩;exact⟨.ret,a₁,w₁,⟨.ret,_,cC,hs.mask _,hk'⟩,.of_steps (.one step_loop) (.pass (x:=.inLoop c) rfl (λ_ _=> .inl (by simp)) harr)⟩
 |exit id=>intro hΛ st a w K h hk;exact wp_exit ⟨.exit id,st,rfl,h,hk⟩
 |ret=>intro hΛ st a w K h hk;exact wp_ret ⟨.ret,st,cC,h,hk⟩
 |_=>intro hΛ st a w K h hk;simp[den]at hk
theorem Ds {A:Rg}:∀{vs:iS}{xs:ax AV},oY A w vs xs->vs.length=xs.length/\∀(i:Nat)(x:AV),xs[i]?=some x->∃v,vs[i]?=some v/\gE (gh A (λ_=>0) w) v x []
 |[],[],_=>⟨rfl,by simp⟩
 |v::vs,x::xs,h=>by obtain⟨hl,hi⟩:=Ds h.2;refine⟨by simp[hl],λi y hy=>?_⟩;cases i with|zero=>simp at hy;subst hy;exact⟨v,rfl,h.1⟩|succ i=>exact hi i y (by simpa using hy)
 |[],_::_,h=>h.elim
 |_::_,[],h=>h.elim
theorem Gm (hA:∀k b o,A k b o->b<w.heap.size){fn:Func}{vs:iS}(h:oY A w vs xs): nz ⟨A,λ_=>False,w,[],λk b o hb=>⟨hA k b o hb,λf=>f⟩⟩ (start fn xs) {tmps:=vs.toArray++Array.replicate (fn.ntmps-vs.toArray.size) undef,defers:=[]} w:=by
 obtain⟨hl,hi⟩:=Ds h;let C:Ctx:=⟨A,λ_=>False,w,[],λk b o hb=>⟨hA k b o hb,λf=>f⟩⟩
 let g:Gh:=⟨λ_=>0,λ_=>0,λ_=>none,λ_=>undef⟩
 have hle:(gh A (λ_=>0) w).Le (cW C g (start fn xs) w):=⟨rfl,λt ht=>ht.elim,λ_ _ _ _ _ hv=>hv,aR _,λs hs=>hs.elim,λ_ b o u ho hu=>⟨ho,hu⟩⟩
 refine⟨g,rfl,?_,?_,λi av hs=>?_,λs cs hs=>?_,λk v av hk=>by simp at hk,λb x hx=>(by cases hx),Fr.refl _ _,⟨[],rfl,by simp,by simp⟩⟩;simp[start,hl];simp[start];have hs':(xs++List.replicate (fn.ntmps-xs.length) AV.bot)[i]?=some av:=hs;rcases ca i xs.length with hlt|hge;rw[bf hlt]at hs';obtain⟨v,hv,hr⟩:=hi i av hs';refine⟨[],?_,by simp,by simp⟩;have hvv:(vs.toArray++Array.replicate (fn.ntmps-vs.toArray.size) undef).getD i undef=v:=by
  have hlt':i<vs.length:=by omega
  have hv':vs[i]=v:=by rw[al hlt']at hv;exact cZ hv
  simp[dJ,Array.getElem?_append,hlt',hv']
 show gE _ ((vs.toArray++Array.replicate (fn.ntmps-vs.toArray.size) undef).getD i undef) _ _;rw[hvv];exact hr.mono hle (by simp);rw[bt hge,dU]at hs';split at hs';cases hs';exact⟨[],gE.bot _ _,by simp,by simp⟩;cases hs';have hs':(List.replicate (xs.length+(fn.ntmps-xs.length)) (none:aB (ax AC)))[s]?=some (some cs):=hs;rw[dU]at hs';split at hs'<;>cases hs'
theorem Uk {v:Value}{x:AC}{fp:fF}(h:hG (cW C g st w) v x fp):hG (gh C.A g.hw w) v x.strip fp:=by
 cases x with
 |int k n=>exact h
 |bool b=>exact h
 |str s=>exact h
 |nilsl=>exact h
 |fn f=>exact h
 |un=>exact h
 |bot=>exact h
 |ptr s off=>exact h.2.2
 |elt fl e y i off=>cases fl with|own t=>exact h.elim|nest _ _ _ _ _ _=>exact h.elim|part _ _ _ _=>exact h.elim|holed _ _ _=>exact h.elim|arg _=>exact h.1|loc ep pv=>exact h.1
 |sl fl e xs=>
  cases fl with
  |nest _ _ _ _ _ _=>exact h.1
  |part _ _ _ _=>exact h.1
  |holed _ _ _=>obtain⟨_,⟨k,hk,h3⟩,_⟩:=h;exact⟨λq hq=>(by cases hq),⟨k,hk,h3⟩,by simp⟩
  |own t=>exact⟨h.1,by simp⟩
  |arg _=>exact h
  |loc ep pv=>exact h.1
theorem wk {g:Gh}:∀{vs:iS}{xs:ax AC}{fp:fF},bO (cW C g st w) vs xs fp->bO (gh C.A g.hw w) vs (xs.map AC.strip) fp
 |[],[],_,h=>h
 |_::_,_::_,_,h=>by obtain⟨f1,f2,rfl,h1,h2⟩:=h;exact⟨f1,f2,rfl,Uk h1,wk h2⟩
 |[],_::_,_,h=>h.elim
 |_::_,[],_,h=>h.elim
def AA (tmps:Array Value):ResultVar->Sem Value
 | .tmp t=>pure (tmps.getD t undef)
 | .cell a t=>do loadVar t (<-asAddr (tmps.getD a undef))
def xb:Bool×Nat->jT
 |(false,t)=> .slot t
 |(true,s)=> .box s
theorem GS {x y:Bool×Nat}(h:xb x=xb y):x=y:=by rcases x with⟨_|_,a⟩<;>rcases y with⟨_|_,b⟩<;>simp[xb]at h<;>rw[h]
theorem acZ {E:Env}(hE:jr P E.ty)(h:ew C g st a w []){rv:ResultVar}{own:Bool×Nat}{gg:Bool}(hr:Kc st E rv=some (own,gg,cs)): ∃v vs fp,(AA a.tmps rv).run P w=.ok v w/\Cut gg v vs/\bO (gh C.A g.hw w) vs cs fp/\fp.Nodup/\∀b∈fp,g.lab b=some (xb own):=by
 cases rv with
 |tmp t=>simp only[Kc]at hr;split at hr;rename_i g' cs' hg';cases hr;obtain⟨fp,hrel,hn,hl⟩:=h.slot t;rw[hg']at hrel;obtain⟨vs,hcut,hrel⟩:=hrel;exact⟨_,vs,fp,rfl,hcut,wk hrel,hn,hl⟩;cases hr
 |cell t T=>
  simp only[Kc]at hr;split at hr;rename_i sh s off hT hp;cases hbx:(nth st.boxes s).getD none with
  |none=>rw[hbx]at hr;cases hr
  |some cs'=>
   rw[hbx]at hr;simp only[eT]at hr;split at hr;rename_i hfit;cases hr;have hbx:st.boxes[s]?=some (some cs'):=by rw[dX]at hbx;cases hq:st.boxes[s]? with|none=>rw[hq]at hbx;simp at hbx|some q=>rw[hq]at hbx;simp at hbx;rw[hbx]
   obtain⟨fp0,hpv,_,_⟩:=h.slot t;rw[hp]at hpv;have hpv:=yH hpv;obtain⟨arr,T',fr,fp,hblk,hth,hrel,hn,hnb,hl,hl0,hw0⟩:=h.boxes s cs' hbx;have hlen:=hrel.length;obtain⟨v,hrun,hcut⟩:=wa (hE T sh hT) (g.β s) off ((arr.toList.drop off).take sh.ct.size) (by simp at hlen⊢;omega) (Lt hblk off sh.ct.size);obtain⟨f1,f2,f3,rfl,r1,r2,r3⟩:=hrel.mid off sh.ct.size;have hn1:=(aK.1 (aK.1 hn).1).2.1;refine⟨v,_,f2,?_,hcut,wk r2,hn1,λb hb=>hl b (by simp[hb])⟩;simp only[AA,hpv,asAddr,Sem.run_bind,Sem.run_pure,Result.andThen_ok];exact hrun;cases hr
  cases hr
theorem Vv {E:Env}(hE:jr P E.ty){g:Gh}(h:ew C g st a w [])(gf:ResultVar->Value):∀(rs:ax ResultVar)(had:ax (Bool×Nat))(ys:ax (Bool×ax AC)),rh st E had rs=some ys->
 (∀rv v,(AA a.tmps rv).run P w=.ok v w->gf rv=v)->
 (∀rv∈rs,(AA a.tmps rv).run P w=.ok (gf rv) w)/\∃fp,gE.pJ (gh C.A g.hw w) (rs.map gf) ys fp/\fp.Nodup/\∀b∈fp,∃own,own∉had/\g.lab b=some (xb own)
 |[],had,ys,hr,hgf=>by cases hr;exact⟨by simp,[],rfl,by simp,by simp⟩
 |rv::rs,had,ys,hr,hgf=>by
  simp only[rh]at hr;cases h1:Kc st E rv with
  |none=>rw[h1]at hr;cases hr
  |some x=>
   obtain⟨own,gg,cs⟩:=x;rw[h1]at hr;simp only[eT]at hr;split at hr;cases hr;rename_i hnot;have hnot:own∉had:=by simpa using hnot
   cases h2:rh st E (own::had) rs with|none=>rw[h2]at hr;cases hr|some xs=>rw[h2]at hr;simp only[eT,bj]at hr;subst hr;obtain⟨v,vs,fp1,hrun,hcut,hrel,hn1,hl1⟩:=acZ hE h h1;obtain⟨hruns,fp2,hrel2,hn2,hl2⟩:=Vv hE h gf rs (own::had) xs h2 hgf;have hv:=hgf rv v hrun;refine⟨λrv' hm=>?_,fp1++fp2,⟨fp1,fp2,rfl,⟨vs,by rw[hv];exact hcut,hrel⟩,hrel2⟩,?_,λb hb=>?_⟩;rcases cA.1 hm with rfl|hm;rw[hv];exact hrun;exact hruns rv' hm;refine aK.2 ⟨hn1,hn2,λb hb b' hb' he=>?_⟩;subst he;obtain⟨own',hno,hlab⟩:=hl2 b hb';rw[hl1 b hb]at hlab;have:=GS (cZ hlab);subst this;exact hno (by simp);rcases aw.1 hb with hb|hb;exact⟨own,hnot,hl1 b hb⟩;obtain⟨own',hno,hlab⟩:=hl2 b hb;exact⟨own',λhm=>hno (by simp[hm]),hlab⟩
theorem FK.Wf {fl:FK}{f:pH}(h:fl.fits f=true):f=fl.flag:=by
 unfold FK.fits at h;split at h;rename_i t t';have:t=t':=by simpa using h
 subst this;rfl;rename_i k;have:k=false:=by simpa using h
 subst this;rfl;rename_i k;have:k=true:=h;subst this;rfl;rfl;rename_i j t j' t';simp only[ae,bq]at h;obtain⟨rfl,rfl⟩:=h;rfl;cases h
theorem we:∀{t:FT}{cs r:ax AC}{x:t.ct.D},HR t cs=some (x,r)->cs=jt t x++r:=by
 intro t;induction t with
 |int k=>intro cs r x h;cases cs with|nil=>simp[HR]at h|cons y ys=>cases y<;>simp[HR]at h;obtain⟨rfl,rfl,rfl⟩:=h;rfl
 |bool=>intro cs r x h;cases cs with|nil=>simp[HR]at h|cons y ys=>cases y<;>simp[HR]at h;obtain⟨rfl,rfl⟩:=h;rfl
 |str=>intro cs r x h;cases cs with|nil=>simp[HR]at h|cons y ys=>cases y<;>simp[HR]at h;obtain⟨rfl,rfl⟩:=h;rfl
 |sl fl e=>
  intro cs r x h;cases cs with
  |nil=>simp[HR]at h
  |cons y ys=>
   cases y with
   |sl fl' e' xs=>
    simp only[HR]at h;split at h
    ·rename_i he;subst he;cases hf:fl.fits fl' with
     |false=>rw[hf]at h;cases h
     |true=>
      rw[hf]at h;cases h;rw[FK.Wf hf];have hn:fl.isNil=false:=by cases fl<;>first|rfl|(unfold FK.fits at hf;cases hf)
      simp only[jt,hn,af];rfl
    cases h
   |nilsl=>simp only[HR]at h;cases hn:fl.isNil with|false=>rw[hn]at h;cases h|true=>rw[hn]at h;cases h;simp only[jt,hn,ah];rfl
   |_=>simp[HR]at h
 |pair a b iha ihb=>intro cs r x h;simp only[HR]at h;obtain⟨⟨x1,r1⟩,h1,h⟩:=aP.1 h;obtain⟨⟨x2,r2⟩,h2,h⟩:=aP.1 h;cases h;have h3:r1=jt b x2++r2:=ihb h2;rw[iha h1,h3];simp[jt]
theorem GQ:∀(rs:ax (Bool×FT))(ys:ax (Bool×ax AC))(y:la rs),kZ rs ys=some y->ys=ahv rs y
 |[],[],y,_=>rfl
 |[],_::_,y,h=>by simp[kZ]at h
 |[(g,t)],ys,y,h=>by
  cases ys with
  |nil=>simp[kZ]at h
  |cons p ys=>
   cases ys with
   |cons _ _=>simp[kZ]at h
   |nil=>
    obtain⟨g',cs⟩:=p;simp only[kZ]at h;cases hg:g==g' with
    |false=>rw[hg]at h;cases h
    |true=>
     rw[hg]at h;have:g=g':=by simpa using hg
     subst this;simp only[ah]at h;split at h;rename_i x hx;cases h;have:=we hx;rw[bN]at this;rw[this];rfl;cases h
 |(g,t)::p::r,ys,y,h=>by
  cases ys with
  |nil=>simp[kZ]at h
  |cons q ys=>
   obtain⟨g',cs⟩:=q;simp only[kZ]at h;cases hg:g==g' with
   |false=>rw[hg]at h;cases h
   |true=>
    rw[hg]at h;have:g=g':=by simpa using hg
    subst this;simp only[ah]at h;split at h;rename_i x hx;obtain⟨z,hz,h⟩:=aP.1 h;cases h;have h1:=we hx;rw[bN]at h1;rw[h1,GQ (p::r) ys z hz];rfl;cases h
theorem G3 {E:Env}(hE:jr P E.ty){fn:Func}{st':AS}{a':Act}{w':World}(hg:ew C g st' a' w' []){had:ax (Bool×Nat)}(hra:rh st' E had fn.results.toList=some ys){y:la rs}(hres:kZ rs ys=some y): ∃v fp,(Go.results fn a'.tmps).run P w'=.ok v w'/\gE (gh C.A g.hw w') v (xM rs y) fp/\fp.Nodup/\∀b∈fp,∃own,own∉had/\g.lab b=some (xb own):=by
 have hys:=GQ rs ys y hres;let gf:ResultVar->Value:=λrv=>match (AA a'.tmps rv).run P w' with| .ok v _=>v|_=>undef
 obtain⟨hruns,fp,hrel,hnd,hlab⟩:=Vv hE hg gf fn.results.toList had ys hra (λrv v hv=>by simp only[gf,hv]);have hmap:=AE (P:=P) (AA a'.tmps) gf w' fn.results (λx hx=>hruns x (by simpa using hx));have hrun:(Go.results fn a'.tmps).run P w'=.ok (if h:(fn.results.map gf).size=1 then(fn.results.map gf)[0] else .tuple (fn.results.map gf)) w':=by
  have:Go.results fn a'.tmps=(do
   let vs<-fn.results.mapM (AA a'.tmps)
   pure (if h:vs.size=1 then vs[0] else .tuple vs)):=by
   unfold Go.results
   congr 1
  rw[this];simp only[Sem.run_bind,hmap,Result.andThen_ok,Sem.run_pure]
 refine⟨_,fp,hrun,?_,hnd,hlab⟩;have hmapl:(fn.results.map gf).toList=fn.results.toList.map gf:=by simp
 unfold xM;rw[<-hys];cases ys with
 |nil=>
  have hnil:fn.results.toList.map gf=[]:=by cases hm:fn.results.toList.map gf with|nil=>rfl|cons u us=>rw[hm]at hrel;exact hrel.elim
  have hsz:¬(fn.results.map gf).size=1:=by rw[<-Array.length_toList,hmapl,hnil];simp
  rw[dif_neg hsz];exact⟨_,by rw[<-hmapl],hrel⟩
 |cons y1 ys=>
  cases ys with
  |nil=>
   obtain⟨gg,cs⟩:=y1;cases hm:fn.results.toList.map gf with
   |nil=>rw[hm]at hrel;exact hrel.elim
   |cons u us=>
    rw[hm]at hrel;obtain⟨f1,f2,rfl,hone,hrest⟩:=hrel;cases us with
    |cons _ _=>exact hrest.elim
    |nil=>
     cases hrest;have harr:fn.results.map gf=#[u]:=by apply fE;rw[hmapl,hm]
     have:(if h:(fn.results.map gf).size=1 then(fn.results.map gf)[0] else .tuple (fn.results.map gf))=u:=by rw[dif_pos (by rw[harr];rfl)];simp only[harr];rfl
     rw[this,bN];exact hone
  |cons y2 ys=>
   have hsz:¬(fn.results.map gf).size=1:=by rw[<-Array.length_toList,hmapl];cases hm:fn.results.toList.map gf with|nil=>simp|cons u us=>rw[hm]at hrel;obtain⟨f1,f2,rfl,hone,hrest⟩:=hrel;cases us with|nil=>exact hrest.elim|cons u2 us=>simp
   rw[dif_neg hsz];exact⟨_,by rw[<-hmapl],hrel⟩
theorem Kd {E:Env}(hE:jr P E.ty){fn:Func}{st':AS}{a':Act}{w':World}(hg:ew C g st' a' w' [])(hra:rh st' E [] fn.results.toList=some ys){y:la rs}(hres:kZ rs ys=some y): ∃v fp,(Go.results fn a'.tmps).run P w'=.ok v w'/\gE (gh C.A g.hw w') v (xM rs y) fp/\fp.Nodup/\∀b∈fp,∃own,g.lab b=some (xb own):=by obtain⟨v,fp,h1,h2,h3,h4⟩:=G3 hE hg hra hres;exact⟨v,fp,h1,h2,h3,λb hb=>(h4 b hb).imp λ_ h=>h.2⟩
theorem aeJ {E:Env}{rs:ax (Bool×FT)}(hS:Sound P E Γ){fn:Func}(hf:P.funcs[f]?=some fn)(hname:(fn.name== "runtime.NumGoroutine")=false)(hΛ:AR E Γ an Λ (fn.body.getD .skip)):im P f {R:=la rs,fn:=I0 E Γ an Λ fn rs,av:=xM rs}:=by
 intro xs y hy;simp only at hy;unfold I0 at hy;cases hb:fn.body with
 |none=>rw[hb]at hy;cases hy
 |some c=>
  rw[hb]at hy;simp only at hy;split at hy;refine⟨⟨fn,c,hf,hb,hname⟩,λ_ _ A w vs hA hargs=>?_,λh=>(by cases h),λh=>(by cases h),λh=>(by cases h)⟩;refine calls_of_wp hf hb (wp_mono (NO hS c (by rw[hb]at hΛ;exact hΛ) _ _ _ _ (Gm hA hargs) hy) ?_);rintro e a' w' ⟨ex,st',he,hs,hk⟩;have main:aa (rh st' E [] fn.results.toList) (kZ rs)=some y->a'.defers=[]/\∃v,(Go.results fn a'.tmps).run P w'=.ok v w'/\∃v_1 hw fp,Ending.returned v=Ending.returned v_1/\gE (gh A hw w') v_1 (xM rs y) fp/\fp.Nodup/\(∀b∈fp,w.heap.size<=b/\b<w'.heap.size)/\Fr (λ_=>False) w w':=by intro hres;obtain⟨g,hg⟩:=hs;refine⟨hg.defers,?_⟩;cases hra:rh st' E [] fn.results.toList with|none=>rw[hra]at hres;cases hres|some ys=>rw[hra]at hres;obtain⟨v,fp,hrun,hrel,hnd,hlab⟩:=Kd hS.ty hg hra hres;refine⟨v,hrun,v,g.hw,fp,rfl,hrel,hnd,λb hb=>?_,hg.frame⟩;obtain⟨own,hl⟩:=hlab b hb;have:=hg.labs b _ hl;exact⟨this.2.resolve_right (λf=>f),this.1⟩
  cases e<;>cases ex<;>simp only[Ef]at he;exact main hk;cases hk;exact main hk;cases hy
theorem PW {E:Env}{rs2:ax (Bool×FT)}(h2:la rs2=la rs)(hS:Sound P E Γ){fn:Func}(hf:P.funcs[f]?=some fn)(hname:(fn.name== "runtime.NumGoroutine")=false)(hΛ:AR E Γ an Λ (fn.body.getD .skip)):im P f {R:=Bool×la rs,fn:=evalAlt E Γ an Λ fn rs rs2 h2,av:=λy=>xM rs y.2,sel:=λy=>y.1,alt:=λy=>xM rs2 (cast h2.symm y.2)}:=by
 intro xs y hy;simp only at hy;unfold evalAlt at hy;cases hb:fn.body with
 |none=>rw[hb]at hy;cases hy
 |some c=>
  rw[hb]at hy;simp only at hy;split at hy;refine⟨⟨fn,c,hf,hb,hname⟩,λ_ _ A w vs hA hargs=>?_,λh=>(by cases h),λh=>(by cases h),λh=>(by cases h)⟩;refine calls_of_wp hf hb (wp_mono (NO hS c (by rw[hb]at hΛ;exact hΛ) _ _ _ _ (Gm hA hargs) hy) ?_);rintro e a' w' ⟨ex,st',he,hs,hk⟩
  have main:(aa (rh st' E [] fn.results.toList) λys=>match kZ rs ys with
   |some y=>some (true,y)
   |none=>match kZ rs2 ys with
    |some y=>some (false,cast h2 y)
    |none=>none)=some y->a'.defers=[]/\∃v,(Go.results fn a'.tmps).run P w'=.ok v w'/\∃v_1 hw fp,Ending.returned v=Ending.returned v_1/\
   gE (gh A hw w') v_1 (cond y.1 (xM rs y.2) (xM rs2 (cast h2.symm y.2))) fp/\fp.Nodup/\(∀b∈fp,w.heap.size<=b/\b<w'.heap.size)/\Fr (λ_=>False) w w':=by
   intro hres
   obtain⟨g,hg⟩:=hs
   refine⟨hg.defers,?_⟩
   cases hra:rh st' E [] fn.results.toList with
   |none=>rw[hra]at hres;cases hres
   |some ys=>
    rw[hra]at hres
    simp only[aa]at hres
    have fin:∀(rs':ax (Bool×FT))(y':la rs'),kZ rs' ys=some y'->∃v,(Go.results fn a'.tmps).run P w'=.ok v w'/\∃v_1 hw fp,Ending.returned v=Ending.returned v_1/\
     gE (gh A hw w') v_1 (xM rs' y') fp/\fp.Nodup/\(∀b∈fp,w.heap.size<=b/\b<w'.heap.size)/\Fr (λ_=>False) w w':=by
     intro rs' y' hy'
     obtain⟨v,fp,hrun,hrel,hnd,hlab⟩:=Kd hS.ty hg hra hy'
     refine⟨v,hrun,v,g.hw,fp,rfl,hrel,hnd,λb hb=>?_,hg.frame⟩
     obtain⟨own,hl⟩:=hlab b hb
     have:=hg.labs b _ hl
     exact⟨this.2.resolve_right (λf=>f),this.1⟩
    cases h1:kZ rs ys with
    |some y1=>rw[h1]at hres;cases hres;exact fin rs y1 h1
    |none=>
     rw[h1]at hres
     simp only at hres
     cases h3:kZ rs2 ys with
     |none=>rw[h3]at hres;cases hres
     |some y1=>
      rw[h3]at hres
      cases hres
      simp only[af,cast_cast,cast_eq]
      exact fin rs2 y1 h3
  cases e<;>cases ex<;>simp only[Ef]at he;exact main hk;cases hk;exact main hk;cases hy
theorem V0 {c:RC}(hcA:c.A=A)(hcw:c.w=w)(hchw:c.hw=hw)(hiss:∀t,t%3=1->c.iss t){all:iS}(hhdr:∀t,c.hdr t=(all[t/3]?).getD undef):
 ∀(j:Nat){vs:iS}{cs:ax AC}{fp:fF},bO (gh A hw w) vs cs fp->cs.all (AC.wL true)=true->(∀i v,vs[i]?=some v->all[j+i]?=some v)->bO c vs (D7 j cs) fp:=by
 intro j vs
 induction vs generalizing j with
 |nil=>intro cs fp h _ _;cases cs with
  |nil=>exact h
  |cons _ _=>exact h.elim
 |cons v vs ih=>
  intro cs fp h hok hall
  cases cs with
  |nil=>exact h.elim
  |cons x cs=>
   obtain⟨f1,f2,rfl,h1,h2⟩:=h
   simp only[cr,ae]at hok
   have i1:=ih (j+1) h2 hok.2 (λi u hu=>by rw[show j+1+i=j+(i+1) by omega];exact hall (i+1) u (by simpa using hu))
   have hv0:=hall 0 v rfl
   rw[dQ]at hv0
   have flt:x.jx=true->D7 j (x::cs)=x::D7 (j+1) cs->bO c (v::vs) (D7 j (x::cs)) (f1++f2):=by rintro hf e1;obtain⟨rfl,k⟩:=qq (c':=c) h1 hf;rw[e1];exact⟨[],f2,rfl,k,i1⟩
   cases x with
   |sl fl e xs=>
    cases fl with
    |own t=>
     have hown:fP c.hw c.w (.sl e) [v] xs f1:=by rw[hchw,hcw];exact h1.1
     refine⟨f1,f2,rfl,⟨hown,λq hq=>?_⟩,i1⟩
     cases hq
     refine⟨hiss _ (by omega),?_⟩
     rw[hhdr,show(3*j+1)/3=j by omega,hv0];rfl
    |arg k=>
     have hk:k=true:=by simpa[AC.wL]using hok.1
     subst hk
     exact⟨f1,f2,rfl,⟨h1.1,by rw[hcw,hcA];exact h1.2⟩,i1⟩
    |loc ep pv=>cases hok.1
    |nest _ _ _ _ _ _=>cases hok.1
    |part _ _ _ _=>cases hok.1
    |holed _ _ _=>cases hok.1
   |int k n=>exact flt rfl rfl
   |bool b=>exact flt rfl rfl
   |str s=>exact flt rfl rfl
   |fn f=>exact flt rfl rfl
   |nilsl=>cases hok.1
   |ptr s off=>cases hok.1
   |elt fl e y i off=>cases hok.1
   |un=>cases hok.1
   |bot=>cases hok.1
theorem OH {fp:fF}{b:Nat}(hA:∀k b' o,A k b' o->b'<w.heap.size/\b'≠b/\b'∉fp){fn:Func}{vs:iS}{arr:Array Value}{T:TypeId}{fr:Nat×Nat}(hblk:w.heap[b]?=some (.cells arr T fr))(hth:oW arr fr)(hrel:bO (gh A hw w) arr.toList cs fp)(hok:cs.all (AC.wL true)=true)(hn:fp.Nodup)(hnb:b∉fp)(hlt:∀b'∈fp,b'<w.heap.size)(hw0:hw b=0)(h:oY A w vs xs): nz ⟨A,λb'=>b'=b\/b'∈fp,w,[.pointer (some ⟨b,0,none⟩)],λk b' o hb=>⟨(hA k b' o hb).1,λhm=>hm.elim (hA k b' o hb).2.1 (hA k b' o hb).2.2⟩⟩ (yk fn cs xs) {tmps:=(.pointer (some ⟨b,0,none⟩)::vs).toArray++Array.replicate (fn.ntmps-(Value.pointer (some ⟨b,0,none⟩)::vs).toArray.size) undef,defers:=[]} w:=by
 obtain⟨hl,hi⟩:=Ds h;let v0:Value:=.pointer (some ⟨b,0,none⟩);let C:Ctx:=⟨A,λb'=>b'=b\/b'∈fp,w,[v0],λk b' o hb=>⟨(hA k b' o hb).1,λhm=>hm.elim (hA k b' o hb).2.1 (hA k b' o hb).2.2⟩⟩
 let g:Gh:=⟨hw,λ_=>b,λb'=>if b'=b\/b'∈fp then some (.box 0) else none,λt=>(arr.toList[t/3]?).getD undef⟩
 have hbs:=lI hblk;have hpres:jf (yk fn cs xs) 0:=⟨D7 0 cs,rfl⟩
 have hle:(gh A (λ_=>0) w).Le (cW C g (yk fn cs xs) w):=⟨rfl,λt ht=>ht.elim,λ_ _ _ _ _ hv=>hv,aR _,λs hs=>hs.elim,λ_ b o u ho _=>absurd ho (Nat.not_lt_zero _)⟩
 have k1:=V0 (c:=cW C g (yk fn cs xs) w) (A:=A) rfl rfl rfl (λt ht=> .inl (by omega)) (all:=arr.toList) (λt=>rfl) 0 hrel hok (λi v hv=>by rw[cD];exact hv);refine⟨g,rfl,?_,?_,λi av hs=>?_,λs cs' hs=>?_,λk v av hk=>by simp at hk,λb' x hx=>?_,Fr.refl _ _,⟨[],⟨[],[],rfl,⟨rfl,hpres,rfl⟩,rfl⟩,by simp,by simp⟩⟩;simp[yk,start,hl];omega;simp[yk,start];have hs':((.one (.ptr 0 0)::xs)++List.replicate (fn.ntmps-(AV.one (.ptr 0 0)::xs).length) AV.bot)[i]?=some av:=hs;rcases ca i (xs.length+1)with hlt'|hge;rw[bf (by simpa using hlt')]at hs';cases i with
 |zero=>
  simp at hs';subst hs';refine⟨[],?_,by simp,by simp⟩;have hvv:((v0::vs).toArray++Array.replicate (fn.ntmps-(v0::vs).toArray.size) undef).getD 0 undef=v0:=by simp[dJ,Array.getElem?_append]
  show gE _ (((v0::vs).toArray++Array.replicate (fn.ntmps-(v0::vs).toArray.size) undef).getD 0 undef) _ _;rw[hvv];exact ma ⟨rfl,hpres,rfl⟩
 |succ i=>
  obtain⟨v,hv,hr⟩:=hi i av (by simpa using hs');refine⟨[],?_,by simp,by simp⟩;have hvv:((v0::vs).toArray++Array.replicate (fn.ntmps-(v0::vs).toArray.size) undef).getD (i+1) undef=v:=by
   have hlt2:i<vs.length:=by omega
   have hv':vs[i]=v:=by rw[al hlt2]at hv;exact cZ hv
   simp[dJ,Array.getElem?_append,hlt2,hv']
  show gE _ (((v0::vs).toArray++Array.replicate (fn.ntmps-(v0::vs).toArray.size) undef).getD (i+1) undef) _ _;rw[hvv];exact hr.mono hle (by simp)
 rw[bt (by simpa using hge),dU]at hs';split at hs';cases hs';exact⟨[],gE.bot _ _,by simp,by simp⟩;cases hs';have hs':(some (D7 0 cs)::List.replicate (xs.length+(fn.ntmps-(xs.length+1))) (none:aB (ax AC)))[s]?=some (some cs'):=hs;cases s with|zero=>simp at hs';subst hs';refine⟨arr,T,fr,fp,hblk,hth,k1,hn,hnb,λb' hb'=>?_,?_,hw0⟩;show(if b'=b\/b'∈fp then _ else _)=_;rw[aH (.inr hb')];show(if b=b\/b∈fp then _ else _)=_;rw[aH (.inl rfl)]|succ s=>simp only[fz,dU]at hs';split at hs'<;>cases hs'
 have hx':(if b'=b\/b'∈fp then some (jT.box 0) else none)=some x:=hx;split at hx';rename_i hm;rcases hm with rfl|hm;exact⟨hbs,.inr (.inl rfl)⟩;exact⟨hlt b' hm,.inr (.inr hm)⟩;cases hx'
theorem pa {E:Env}{rs:ax (Bool×FT)}{t:FT}(hS:Sound P E Γ){fn:Func}(hf:P.funcs[f]?=some fn)(hname:(fn.name== "runtime.NumGoroutine")=false)(hΛ:AR E Γ an Λ (fn.body.getD .skip)):im P f {R:=la rs×t.ct.D,fn:=U1 E Γ an Λ fn rs t,av:=λy=>xM rs y.1,back:=λy=>jt t y.2,bx:=true}:=by
 intro xs y hy;simp only at hy;unfold U1 at hy;split at hy;rename_i c cs rest hb;split at hy;rename_i hlen;refine⟨⟨fn,c,hf,hb,hname⟩,λ_ h=>(by cases h),λh=>(by cases h),λ_ cs0 rest0 he A w b vs arr T fr hw fp hA hblk hth hrel hn hnb hlt hw0 hargs=>?_,λh=>(by cases h)⟩;injection he with he1 he2;injection he1 with _ he3;subst he2;subst he3;refine calls_of_wp hf hb (wp_mono (NO hS c (by rw[hb]at hΛ;exact hΛ) _ _ _ _ (OH (fn:=fn) hA hblk hth hrel hlen.2 hn hnb hlt hw0 hargs) hy) ?_);rintro e a' w' ⟨ex,st',he,hs,hk⟩
 have main:(aa (aa (rh st' E [(true,0)] fn.results.toList) (kZ rs)) λr=>match st'.io,st'.boxes with
  |[.ptr 0 0],some cs'::_=>(match HR t (cs'.map AC.strip)with|some (x,[])=>some (r,x)|_=>none)
  |_,_=>none)=some y->
  a'.defers=[]/\∃v,(Go.results fn a'.tmps).run P w'=.ok v w'/\∃v_1 hw' fv arr' T' fr' fp',Ending.returned v=Ending.returned v_1/\gE (gh A hw' w') v_1 (xM rs y.1) fv/\w'.heap[b]?=some (.cells arr' T' fr')/\oW arr' fr'/\
    bO (gh A hw' w') arr'.toList (jt t y.2) fp'/\fp'.Nodup/\b∉fp'/\(∀b'∈fp',b'<w'.heap.size/\(b'∈fp\/w.heap.size<=b'))/\fv.Nodup/\(∀b'∈fv,b'<w'.heap.size/\(b'∈fp\/w.heap.size<=b')/\b'∉fp'/\b'≠b)/\Fr (λb'=>b'=b\/b'∈fp) w w':=by
  intro hres
  obtain⟨g,hg⟩:=hs
  refine⟨hg.defers,?_⟩
  cases hra:rh st' E [(true,0)] fn.results.toList with
  |none=>rw[hra]at hres;cases hres
  |some ys=>
   rw[hra]at hres
   simp only[aa]at hres
   cases hrr:kZ rs ys with
   |none=>rw[hrr]at hres;cases hres
   |some r0=>
    rw[hrr]at hres
    simp only at hres
    split at hres
    ·rename_i cs' tl hio hbx
     split at hres
     ·rename_i x hx
      cases hres
      obtain⟨v,fv,hrun,hrel',hnd,hlab⟩:=G3 hS.ty hg hra hrr
      obtain⟨fpi,hri,_,_⟩:=hg.io
      rw[hio]at hri
      obtain⟨g1,g2,_,hptr,_⟩:=hri
      have hβ:b=g.β 0:=by have:=hptr.1;simp only[Value.pointer.injEq,bj,Addr.mk.injEq]at this;exact this.1
      obtain⟨arr',T',fr',fp',hblk',hth',hr',hn',hnb',hl',hl0',_⟩:=hg.boxes 0 cs' (by rw[hbx];rfl)
      rw[<-hβ]at hblk' hnb' hl0'
      have hst:=wk hr'
      have hsp:=we hx
      rw[bN]at hsp
      rw[hsp]at hst
      have hM:∀b',(w.heap.size<=b'\/(b'=b\/b'∈fp))->b'≠b->b'∈fp\/w.heap.size<=b':=by rintro b' (h2|h2|h2) hne;exact .inr h2;exact absurd h2 hne;exact .inl h2
      refine⟨v,hrun,v,g.hw,fv,arr',T',fr',fp',rfl,hrel',hblk',hth',hst,hn',hnb',λb' hb'=>?_,hnd,λb' hb'=>?_,hg.frame⟩
      ·have:=hg.labs b' _ (hl' b' hb')
       exact⟨this.1,hM b' this.2 (λe=>hnb' (e▸hb'))⟩
      ·obtain⟨own,hnot,hlb⟩:=hlab b' hb'
       have hno:g.lab b'≠some (.box 0):=by rw[hlb];intro e;have e2:xb own=xb (true,0):=cZ e;exact hnot (by rw[GS e2];simp)
       have hne:b'≠b:=λe=>hno (by rw[e];exact hl0')
       have:=hg.labs b' _ hlb
       exact⟨this.1,hM b' this.2 hne,λhm=>hno (hl' b' hm),hne⟩
     ·cases hres
    ·cases hres
 cases e<;>cases ex<;>simp only[Ef]at he;exact main hk;cases hk;exact main hk;cases hy;cases hy
theorem ajL {E:Env}{t:FT}(hS:Sound P E Γ){fn:Func}(hf:P.funcs[f]?=some fn)(hname:(fn.name== "runtime.NumGoroutine")=false)(hΛ:AR E Γ an Λ (fn.body.getD .skip)):im P f {R:=t.ct.D,fn:=NS E Γ an Λ fn t,av:=λ_=> .bot,back:=λy=>jt t y,pr:=true}:=by
 intro xs y hy;simp only at hy;unfold NS at hy;cases hb:fn.body with
 |none=>rw[hb]at hy;cases hy
 |some c=>
  rw[hb]at hy;simp only at hy;split at hy;have key:adu P f {R:=t.ct.D,fn:=NS E Γ an Λ fn t,av:=λ_=> .bot,back:=λy=>jt t y,pr:=true} y xs:=by
   intro A w vs hA hargs;refine calls_of_wp hf hb (wp_mono (NO hS c (by rw[hb]at hΛ;exact hΛ) _ _ _ _ (Gm hA hargs) hy) ?_);rintro e a' w' ⟨ex,st',he,hs,hk⟩
   have main:(match fn.results.toList with
    |[.tmp i]=>match st'.get i with
     | .val false [.ptr s 0]=>match (nth st'.boxes s).getD none with
       |some cs=>if cs.all AC.Fs=true then(match HR t (cs.map AC.strip)with|some (x,[])=>some x|_=>none) else none
       |none=>none
     |_=>none
    |_=>none)=some y->a'.defers=[]/\∃v,(Go.results fn a'.tmps).run P w'=.ok v w'/\∃b arr T fr hw,Ending.returned v=.returned (.pointer (some ⟨b,0,none⟩))/\w.heap.size<=b/\w'.heap[b]?=some (.cells arr T fr)/\oW arr fr/\bO (gh A hw w') arr.toList (jt t y) []/\Fr (λ_=>False) w w':=by
    intro hres
    obtain⟨g,hg⟩:=hs
    refine⟨hg.defers,?_⟩
    split at hres
    ·rename_i i hri
     split at hres
     ·rename_i s hp
      cases hbx:(nth st'.boxes s).getD none with
      |none=>rw[hbx]at hres;cases hres
      |some cs=>
       rw[hbx]at hres
       simp only at hres
       split at hres
       ·rename_i hok
        split at hres
        ·rename_i x hx
         cases hres
         have hbx:st'.boxes[s]?=some (some cs):=by rw[dX]at hbx;cases hq:st'.boxes[s]? with|none=>rw[hq]at hbx;simp at hbx|some q=>rw[hq]at hbx;simp at hbx;rw[hbx]
         obtain⟨fp0,hpv,_,_⟩:=hg.slot i
         rw[hp]at hpv
         have hpv:=yH hpv
         obtain⟨arr,T,fr,fp,hblk,hth,hrel,hn,hnb,hl,hl0,hw0⟩:=hg.boxes s cs hbx
         obtain⟨hfp,vs,hcut,hrel2⟩:=arg_val (c:=cW _ g st' w') (c':=cW _ g st' w') rfl rfl (v:=.agg arr.toList.toArray) (x:=.val true cs) ⟨arr.toList,rfl,hrel⟩ hok
         have hvs:arr.toList=vs:=by have hcut:Value.agg arr.toList.toArray=.agg vs.toArray:=hcut;simp only[Value.agg.injEq]at hcut;simpa using congrArg Array.toList hcut
         rw[<-hvs]at hrel2
         have hst:=wk hrel2
         have hsp:=we hx
         rw[bN]at hsp
         rw[hsp]at hst
         have hrun:(Go.results fn a'.tmps).run P w'=.ok (a'.tmps.getD i undef) w':=by
          have he:fn.results=#[.tmp i]:=by apply fE;exact hri
          have hmap:=AE (P:=P) (AA a'.tmps) (λ_=>a'.tmps.getD i undef) w' fn.results (λx hx=>by rw[he]at hx;simp at hx;subst hx;rfl)
          have hd:Go.results fn a'.tmps=(do
           let vs<-fn.results.mapM (AA a'.tmps)
           pure (if h:vs.size=1 then vs[0] else .tuple vs)):=by
           unfold Go.results
           congr 1
          rw[hd];simp only[Sem.run_bind,hmap,Result.andThen_ok,Sem.run_pure];rw[he];simp
         refine⟨_,hrun,g.β s,arr,T,fr,g.hw,congrArg Ending.returned hpv,?_,hblk,hth,hst,hg.frame⟩
         exact(hg.labs _ _ hl0).2.resolve_right (λf=>f)
        ·cases hres
       ·cases hres
     ·cases hres
    ·cases hres
   cases e<;>cases ex<;>simp only[Ef]at he;exact main hk;cases hk;exact main hk
  refine⟨⟨fn,c,hf,hb,hname⟩,λ_ _ A w vs hA hargs=>?_,λh=>(by cases h),λh=>(by cases h),λ_=>key⟩;refine(key A w vs hA hargs).mono ?_;rintro e w' ⟨b,arr,T,fr,hw,rfl,_,_,_,_,hfr⟩;exact⟨_,hw,[],rfl,gE.bot _ _,List.nodup_nil,(λb hb=>by cases hb),hfr⟩;cases hy
end Go.Dn
