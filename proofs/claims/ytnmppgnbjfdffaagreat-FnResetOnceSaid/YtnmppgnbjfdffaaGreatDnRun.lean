import Derived.Test.YtnmppgnbjfdffaaGreatDnAny
/- The soundness of the abstract semantics: code and functions. -/
namespace Go.Dn
open Go.RowKit
variable {P:Program} {C:Ctx} {st:AS} {a:Act} {w:World} {R:Type} {r:R}
variable {an:An} {Γ:xl} {g:Gh} {Λ:kN} {f:Nat} {hw:Nat->Nat} {A:Rg} {rs:aw (Bool×FT)} {ys:aw (Bool×aw AC)} {cs:aw AC} {xs:aw AV}
def EK:Exit->Ex->Prop
 | .normal,.normal=>True
 | .ret,.ret=>True
 | .exit i,.exit j=>i=j
 |_,_=>False
def agX (C:Ctx)(K:Ex->AS->ay R)(r:R)(e:Exit)(a:Act)(w:World):Prop:=
 ∃ex bI,EK e ex/\mP C bI a w/\K ex bI=some r
theorem Yt {E:Env}(hS:Sound P E Γ){id:Nat}{ops:Array Oper}{d:Bool}(h:mP C st a w){K:AS->ay R}(hk:OQ E Γ an id ops.toList d st K=some r){Q:Exit->Act->World->Prop}(hq:∀bI a' w',mP C bI a' w'->K bI=some r->Q .normal a' w'):(Code.region id ops d).wp P Q a w:=by
 unfold OQ at hk;split at hk;rw[Jk]at hk;cases ho:Bw E Γ an ops.toList d st some with|none=>rw[ho]at hk;cases hk|some st1=>rw[ho]at hk;exact VJ hS h ho (λa' w' hs=>hq _ _ _ hs hk)
 rename_i s hm;split at hk;rename_i afB;rw[Jk]at hk;cases ho:Bw E Γ.calm an ops.toList d st some with|none=>rw[ho]at hk;cases hk|some st1=>rw[ho]at hk;simp only[ec]at hk;cases hb:getBool st1 s with|none=>rw[hb]at hk;cases hk|some b=>rw[hb]at hk;simp only[aa]at hk;have hn:=X4 (acQ Γ) (λo Ie=>aI.1 afB o Ie) ho;exact VJ hS.calm h ho (λa' w' hs=>hq _ _ _ (hs.weaken hn hb) hk)
 cases hk
def wC (E:Env)(Γ:xl)(an:An)(Λ:kN)(c:Code):Prop:=
 ∃n,∀(R:Type)(st:AS)(K:Ex->AS->ay R)(r:R),(Λ (dU c)).go st K=some r->yy (an.mask (dU c)) (den E Γ an Λ c) n st K=some r
def Su (E:Env)(Γ:xl)(an:An)(Λ:kN)(c:Code):Prop:=
 ∀(R:Type)(st:AS)(K:Ex->AS->ay R)(r:R),(Λ (Bo c)).go st K=some r->den E Γ an Λ c st (λe bI=>K e (bI.mask (an.mask (Bo c+1))))=some r
def xw (E:Env)(Γ:xl)(an:An)(Λ:kN)(c:Code):Prop:=(∀c'∈gY c,wC E Γ an Λ c')/\∀c'∈kf an.cut c,Su E Γ an Λ c'
theorem ZO (c:Code):kf [] c=[]:=by induction c with|seq a b iha ihb=>simp[kf,iha,ihb]|cond _ a b iha ihb=>simp[kf,iha,ihb]|block _ c ih=>simpa[kf]using ih|loop c ih=>simpa[kf]using ih|_=>rfl
theorem xw.of {E:Env}{c:Code}(h:∀c'∈gY c,wC E Γ an Λ c')(hc:an.cut=[]):xw E Γ an Λ c:=⟨h,by rw[hc,ZO];simp⟩
theorem NV {E:Env}(hS:Sound P E Γ):∀(c:Code)(_:xw E Γ an Λ c)(st:AS)(a:Act)(w:World)(K:Ex->AS->ay R),mP C st a w->den E Γ an Λ c st K=some r->c.wp P (agX C K r) a w:=by
 intro c;induction c with
 |skip=>intro CK st a w K h hk;exact wp_skip ⟨.normal,st,cr,h,hk⟩
 |region id ops d=>intro CK st a w K h hk;exact Yt hS h (by simpa only[den]using hk) (λbI a' w' hs he=>⟨.normal,bI,cr,hs,he⟩)
 |seq x y ihx ihy=>
  intro CK st a w K h hk;have ihx:=ihx ⟨λc hc=>CK.1 c (by simp[gY,hc]),λc hc=>CK.2 c (by simp[kf,hc])⟩;have ihy:=ihy ⟨λc hc=>CK.1 c (by simp[gY,hc]),λc hc=>CK.2 c (by simp only[kf];cases an.cut.contains (dU y)<;>simp[hc])⟩;simp only[den]at hk;refine wp_seq (wp_mono (ihx st a w _ h hk) ?_);rintro e a' w' ⟨ex,bI,he,hs,BK⟩;cases e<;>cases ex<;>simp only[EK]at he;simp only at BK;cases eY:an.cut.contains (dU y)with|false=>rw[eY]at BK;exact ihy bI a' w' K hs BK|true=>rw[eY]at BK;have hc:=CK.2 y (by simp only[kf,eY];simp) _ _ _ _ BK;refine wp_mono (ihy _ a' w' _ (hs.mask _) hc) ?_;rintro e2 a2 w2 ⟨ex2,st2,he2,hs2,hk2⟩;exact⟨ex2,_,he2,hs2.mask _,hk2⟩
  exact⟨.exit _,bI,he,hs,BK⟩;exact⟨.ret,bI,cr,hs,BK⟩
 |cond c x y ihx ihy=>
  intro CK st a w K h hk;have ihx:=ihx ⟨λc hc=>CK.1 c (by simp[gY,hc]),λc hc=>CK.2 c (by simp[kf,hc])⟩;have ihy:=ihy ⟨λc hc=>CK.1 c (by simp[gY,hc]),λc hc=>CK.2 c (by simp[kf,hc])⟩;simp only[den]at hk;split at hk;rename_i t hc;have hv:a.eval c=.bool t:=by obtain⟨g,hg⟩:=h;have:=hg.rd c;rw[hc]at this;exact tp this
  cases t with|true=>exact wp_cond_true hv (ihx st a w K h hk)|false=>exact wp_cond_false hv (ihy st a w K h hk)
  cases hk
 |block id c ih=>intro CK st a w K h hk;have ih:=ih ⟨λc hc=>CK.1 c (by simpa[gY]using hc),λc hc=>CK.2 c (by simpa[kf]using hc)⟩;simp only[den]at hk;refine wp_block (wp_mono (ih st a w _ h hk) ?_);rintro e a' w' ⟨ex,bI,he,hs,BK⟩;cases e<;>cases ex<;>simp only[EK]at he;exact⟨.normal,bI,cr,hs,BK⟩;rename_i i j;subst he;simp only[Exit.inBlock];simp only at BK;by_cases hi:i=id;subst hi;rw[aF rfl];simp only[beq_self_eq_true,bM]at BK;exact⟨.normal,bI,cr,hs,BK⟩;rw[aG hi];rw[aG (by simpa using hi)]at BK;exact⟨.exit i,bI,rfl,hs,BK⟩;exact⟨.ret,bI,cr,hs,BK⟩
 |loop c ih=>
  intro CK st a w K h hk;have ih:=ih ⟨λc hc=>CK.1 c (by simp[gY,hc]),λc hc=>CK.2 c (by simpa[kf]using hc)⟩;obtain⟨n,hn⟩:=CK.1 c (by simp[gY]);simp only[den]at hk;intro b k cs
  have key:∀m st a w,mP C st a w->yy (an.mask (dU c)) (den E Γ an Λ c) m st K=some r->
   ∃e a' w',agX C K r e a' w'/\Arrives P (lone (b.at a (.code c:: .inLoop c::k)) cs w) b k cs e a' w':=by
   intro m
   induction m with
   |zero=>intro st a w _ hk;cases hk
   |succ m ihm=>
    intro st a w h hk
    simp only[yy]at hk
    obtain⟨e,SP,Vh,⟨ex,bI,he,hs,BK⟩,Ia⟩:=ih st a w _ h hk b (.inLoop c::k) cs
    cases e<;>cases ex<;>simp only[EK]at he
    ·obtain⟨ae9,ae1,agw,aaL,N7⟩:=ihm _ SP Vh (hs.mask _) BK
     exact⟨ae9,ae1,agw,aaL,.of_steps (Steps.trans Ia (.one step_inLoop)) N7⟩
    ·exact⟨.exit _,SP,Vh,⟨.exit _,_,he,hs.mask _,BK⟩,.pass (x:=.inLoop c) rfl (λ_ _=> .inl (by simp)) Ia⟩
    ·exact⟨.ret,SP,Vh,⟨.ret,_,cr,hs.mask _,BK⟩,.pass (x:=.inLoop c) rfl (λ_ _=> .inl (by simp)) Ia⟩
  cases hp:an.peel.contains (dU c)with
  |false=>rw[hp]at hk;obtain⟨e,a',w',hq,Ia⟩:=key n _ a w (h.mask _) (hn _ _ _ _ hk);exact⟨e,a',w',hq,.of_steps (.one step_loop) Ia⟩
  |true=>rw[hp]at hk;simp only[ah]at hk;obtain⟨e,SP,Vh,⟨ex,bI,he,hs,BK⟩,Ia⟩:=ih _ a w _ (h.mask _) hk b (.inLoop c::k) cs;cases e<;>cases ex<;>simp only[EK]at he;obtain⟨ae9,ae1,agw,aaL,N7⟩:=key n _ SP Vh (hs.mask _) (hn _ _ _ _ BK);exact⟨ae9,ae1,agw,aaL,.of_steps (Steps.trans (.one step_loop) (Steps.trans Ia (.one step_inLoop))) N7⟩;exact⟨.exit _,SP,Vh,⟨.exit _,_,he,hs.mask _,BK⟩,.of_steps (.one step_loop) (.pass (x:=.inLoop c) rfl (λ_ _=> .inl (by simp)) Ia)⟩;exact⟨.ret,SP,Vh,⟨.ret,_,cr,hs.mask _,BK⟩,.of_steps (.one step_loop) (.pass (x:=.inLoop c) rfl (λ_ _=> .inl (by simp)) Ia)⟩
 |exit id=>intro CK st a w K h hk;exact wp_exit ⟨.exit id,st,rfl,h,hk⟩
 |ret=>intro CK st a w K h hk;exact wp_ret ⟨.ret,st,cr,h,hk⟩
 |_=>intro CK st a w K h hk;simp[den]at hk
theorem DH:∀{vs:ir}{xs:aw AV},ot A w vs xs->vs.length=xs.length/\∀(i:Nat)(x:AV),xs[i]?=some x->∃v,vs[i]?=some v/\fP (fD A (λ_=>0) w) v x []
 |[],[],_=>⟨rfl,by simp⟩
 |v::vs,x::xs,h=>by obtain⟨hl,hi⟩:=DH h.2;refine⟨by simp[hl],λi y hy=>?_⟩;cases i with|zero=>simp at hy;subst hy;exact⟨v,rfl,h.1⟩|succ i=>exact hi i y (by simpa using hy)
 |[],_::_,h=>h.elim
 |_::_,[],h=>h.elim
theorem Hb (hA:∀k b o,A k b o->b<w.heap.size){fn:Func}{vs:ir}(h:ot A w vs xs): mP ⟨A,λ_=>False,w,[],λk b o hb=>⟨hA k b o hb,λf=>f⟩⟩ (start fn xs) {tmps:=vs.toArray++Array.replicate (fn.ntmps-vs.toArray.size) undef,defers:=[]} w:=by
 obtain⟨hl,hi⟩:=DH h;let C:Ctx:=⟨A,λ_=>False,w,[],λk b o hb=>⟨hA k b o hb,λf=>f⟩⟩
 let g:Gh:=⟨λ_=>0,λ_=>0,λ_=>none,λ_=>undef⟩
 have hle:(fD A (λ_=>0) w).Le (cH C g (start fn xs) w):=⟨rfl,λt ht=>ht.elim,λ_ _ _ _ _ hv=>hv,aS _,λs hs=>hs.elim,λ_ b o u ho hu=>⟨ho,hu⟩⟩
 refine⟨g,rfl,?_,?_,λi av hs=>?_,λs cs hs=>?_,λk v av hk=>by simp at hk,λb x hx=>(by cases hx),Fr.refl _ _,⟨[],rfl,by simp,by simp⟩⟩;simp[start,hl];simp[start];have vZ:(xs++List.replicate (fn.ntmps-xs.length) AV.bot)[i]?=some av:=hs;rcases bW i xs.length with hG|yc;rw[br hG]at vZ;obtain⟨v,hv,hr⟩:=hi i av vZ;refine⟨[],?_,by simp,by simp⟩;have hvv:(vs.toArray++Array.replicate (fn.ntmps-vs.toArray.size) undef).getD i undef=v:=by
  have ac5:i<vs.length:=by omega
  have Zn:vs[i]=v:=by rw[al ac5]at hv;exact dm hv
  simp[du,Array.getElem?_append,ac5,Zn]
 show fP _ ((vs.toArray++Array.replicate (fn.ntmps-vs.toArray.size) undef).getD i undef) _ _;rw[hvv];exact hr.mono hle (by simp);rw[bl yc,dQ]at vZ;split at vZ;cases vZ;exact⟨[],fP.bot _ _,by simp,by simp⟩;cases vZ;have vZ:(List.replicate (xs.length+(fn.ntmps-xs.length)) (none:ay (aw AC)))[s]?=some (some cs):=hs;rw[dQ]at vZ;split at vZ<;>cases vZ
theorem Va {v:Value}{x:AC}{fp:ff}(h:gy (cH C g st w) v x fp):gy (fD C.A g.hw w) v x.strip fp:=by
 cases x with
 |int k n=>exact h
 |bool b=>exact h
 |str s=>exact h
 |jm=>exact h
 |fn f=>exact h
 |un=>exact h
 |bot=>exact h
 |ptr s off=>exact h.2.2
 |yP fl e y i off=>cases fl with|own t=>exact h.elim|nest _ _ _ _ _ _=>exact h.elim|part _ _ _ _=>exact h.elim|eX _ _ _=>exact h.elim|arg _=>exact h.1|loc ep pv=>exact h.1
 |sl fl e xs=>
  cases fl with
  |nest _ _ _ _ _ _=>exact h.1
  |part _ _ _ _=>exact h.1
  |eX _ _ _=>obtain⟨_,⟨k,hk,h3⟩,_⟩:=h;exact⟨λq hq=>(by cases hq),⟨k,hk,h3⟩,by simp⟩
  |own t=>exact⟨h.1,by simp⟩
  |arg _=>exact h
  |loc ep pv=>exact h.1
theorem vN:∀{vs:ir}{xs:aw AC}{fp:ff},bA (cH C g st w) vs xs fp->bA (fD C.A g.hw w) vs (xs.map AC.strip) fp
 |[],[],_,h=>h
 |_::_,_::_,_,h=>by obtain⟨f1,f2,rfl,h1,h2⟩:=h;exact⟨f1,f2,rfl,Va h1,vN h2⟩
 |[],_::_,_,h=>h.elim
 |_::_,[],_,h=>h.elim
def Ax (tmps:Array Value):ResultVar->Sem Value
 | .tmp t=>pure (tmps.getD t undef)
 | .cell a t=>do loadVar t (<-asAddr (tmps.getD a undef))
def wN:Bool×Nat->jy
 |(false,t)=> .slot t
 |(true,s)=> .box s
theorem HD {x y:Bool×Nat}(h:wN x=wN y):x=y:=by rcases x with⟨_|_,a⟩<;>rcases y with⟨_|_,b⟩<;>simp[wN]at h<;>rw[h]
theorem adF {E:Env}(hE:iY P E.ty)(h:dH C g st a w []){rv:ResultVar}{own:Bool×Nat}{gg:Bool}(hr:Kx st E rv=some (own,gg,cs)): ∃v vs fp,(Ax a.tmps rv).run P w=.ok v w/\Cut gg v vs/\bA (fD C.A g.hw w) vs cs fp/\fp.Nodup/\∀b∈fp,g.dX b=some (wN own):=by
 cases rv with
 |tmp t=>simp only[Kx]at hr;split at hr;rename_i g' oS mO;cases hr;obtain⟨fp,eI,hn,hl⟩:=h.slot t;rw[mO]at eI;obtain⟨vs,eY,eI⟩:=eI;exact⟨_,vs,fp,rfl,eY,vN eI,hn,hl⟩;cases hr
 |cell t T=>
  simp only[Kx]at hr;split at hr;rename_i sh s off hT hp;cases jt:(nth st.boxes s).getD none with
  |none=>rw[jt]at hr;cases hr
  |some oS=>
   rw[jt]at hr;simp only[ec]at hr;split at hr;rename_i gu;cases hr;have jt:st.boxes[s]?=some (some oS):=by rw[dF]at jt;cases hq:st.boxes[s]? with|none=>rw[hq]at jt;simp at jt|some q=>rw[hq]at jt;simp at jt;rw[jt]
   obtain⟨fp0,sA,_,_⟩:=h.slot t;rw[hp]at sA;have sA:=yB sA;obtain⟨arr,T',fr,fp,jK,qv,eI,hn,tZ,hl,Eo,Er⟩:=h.boxes s oS jt;have hlen:=eI.length;obtain⟨v,dV,eY⟩:=vG (hE T sh hT) (g.β s) off ((arr.toList.drop off).take sh.ct.size) (by simp at hlen⊢;omega) (L1 jK off sh.ct.size);obtain⟨f1,f2,f3,rfl,r1,r2,r3⟩:=eI.mid off sh.ct.size;have Gn:=(aH.1 (aH.1 hn).1).2.1;refine⟨v,_,f2,?_,eY,vN r2,Gn,λb hb=>hl b (by simp[hb])⟩;simp only[Ax,sA,asAddr,Sem.run_bind,Sem.run_pure,Result.andThen_ok];exact dV;cases hr
  cases hr
theorem Wf {E:Env}(hE:iY P E.ty)(h:dH C g st a w [])(gf:ResultVar->Value):∀(rs:aw ResultVar)(had:aw (Bool×Nat))(ys:aw (Bool×aw AC)),qw st E had rs=some ys->
 (∀rv v,(Ax a.tmps rv).run P w=.ok v w->gf rv=v)->
 (∀rv∈rs,(Ax a.tmps rv).run P w=.ok (gf rv) w)/\∃fp,fP.oQ (fD C.A g.hw w) (rs.map gf) ys fp/\fp.Nodup/\∀b∈fp,∃own,own∉had/\g.dX b=some (wN own)
 |[],had,ys,hr,hgf=>by cases hr;exact⟨by simp,[],rfl,by simp,by simp⟩
 |rv::rs,had,ys,hr,hgf=>by
  simp only[qw]at hr;cases h1:Kx st E rv with
  |none=>rw[h1]at hr;cases hr
  |some x=>
   obtain⟨own,gg,cs⟩:=x;rw[h1]at hr;simp only[ec]at hr;split at hr;cases hr;rename_i Ic;have Ic:own∉had:=by simpa using Ic
   cases h2:qw st E (own::had) rs with|none=>rw[h2]at hr;cases hr|some xs=>rw[h2]at hr;simp only[ec,aZ]at hr;subst hr;obtain⟨v,vs,pw,dV,eY,eI,Gn,hl1⟩:=adF hE h h1;obtain⟨aaO,fp2,JK,Bg,xo⟩:=Wf hE h gf rs (own::had) xs h2 hgf;have hv:=hgf rv v dV;refine⟨λrv' hm=>?_,pw++fp2,⟨pw,fp2,rfl,⟨vs,by rw[hv];exact eY,eI⟩,JK⟩,?_,λb hb=>?_⟩;rcases cg.1 hm with rfl|hm;rw[hv];exact dV;exact aaO rv' hm;refine aH.2 ⟨Gn,Bg,λb hb b' gK he=>?_⟩;subst he;obtain⟨ah3,Ep,BL⟩:=xo b gK;rw[hl1 b hb]at BL;have:=HD (dm BL);subst this;exact Ep (by simp);rcases ax.1 hb with hb|hb;exact⟨own,Ic,hl1 b hb⟩;obtain⟨ah3,Ep,BL⟩:=xo b hb;exact⟨ah3,λhm=>Ep (by simp[hm]),BL⟩
theorem FK.WU {fl:FK}{f:oP}(h:fl.fits f=true):f=fl.flag:=by
 unfold FK.fits at h;split at h;rename_i t t';have:t=t':=by simpa using h
 subst this;rfl;rename_i k;have:k=false:=by simpa using h
 subst this;rfl;rename_i k;have:k=true:=h;subst this;rfl;rfl;rename_i j t j' t';simp only[ae,bc]at h;obtain⟨rfl,rfl⟩:=h;rfl;cases h
theorem vI:∀{t:FT}{cs r:aw AC}{x:t.ct.D},IE t cs=some (x,r)->cs=ja t x++r:=by
 intro t;induction t with
 |int k=>intro cs r x h;cases cs with|nil=>simp[IE]at h|cons y ys=>cases y<;>simp[IE]at h;obtain⟨rfl,rfl,rfl⟩:=h;rfl
 |bool=>intro cs r x h;cases cs with|nil=>simp[IE]at h|cons y ys=>cases y<;>simp[IE]at h;obtain⟨rfl,rfl⟩:=h;rfl
 |str=>intro cs r x h;cases cs with|nil=>simp[IE]at h|cons y ys=>cases y<;>simp[IE]at h;obtain⟨rfl,rfl⟩:=h;rfl
 |sl fl e=>
  intro cs r x h;cases cs with
  |nil=>simp[IE]at h
  |cons y ys=>
   cases y with
   |sl fl' e' xs=>
    simp only[IE]at h;split at h
    ·rename_i he;subst he;cases hf:fl.fits fl' with
     |false=>rw[hf]at h;cases h
     |true=>
      rw[hf]at h;cases h;rw[FK.WU hf];have hn:fl.isNil=false:=by cases fl<;>first|rfl|(unfold FK.fits at hf;cases hf)
      simp only[ja,hn,af];rfl
    cases h
   |jm=>simp only[IE]at h;cases hn:fl.isNil with|false=>rw[hn]at h;cases h|true=>rw[hn]at h;cases h;simp only[ja,hn,ah];rfl
   |_=>simp[IE]at h
 |pair a b iha ihb=>intro cs r x h;simp only[IE]at h;obtain⟨⟨x1,r1⟩,h1,h⟩:=aM.1 h;obtain⟨⟨x2,r2⟩,h2,h⟩:=aM.1 h;cases h;have h3:r1=ja b x2++r2:=ihb h2;rw[iha h1,h3];simp[ja]
theorem HC:∀(rs:aw (Bool×FT))(ys:aw (Bool×aw AC))(y:jZ rs),kI rs ys=some y->ys=agk rs y
 |[],[],y,_=>rfl
 |[],_::_,y,h=>by simp[kI]at h
 |[(g,t)],ys,y,h=>by
  cases ys with
  |nil=>simp[kI]at h
  |cons p ys=>
   cases ys with
   |cons _ _=>simp[kI]at h
   |nil=>
    obtain⟨g',cs⟩:=p;simp only[kI]at h;cases hg:g==g' with
    |false=>rw[hg]at h;cases h
    |true=>
     rw[hg]at h;have:g=g':=by simpa using hg
     subst this;simp only[ah]at h;split at h;rename_i x hx;cases h;have:=vI hx;rw[bt]at this;rw[this];rfl;cases h
 |(g,t)::p::r,ys,y,h=>by
  cases ys with
  |nil=>simp[kI]at h
  |cons q ys=>
   obtain⟨g',cs⟩:=q;simp only[kI]at h;cases hg:g==g' with
   |false=>rw[hg]at h;cases h
   |true=>
    rw[hg]at h;have:g=g':=by simpa using hg
    subst this;simp only[ah]at h;split at h;rename_i x hx;obtain⟨z,hz,h⟩:=aM.1 h;cases h;have h1:=vI hx;rw[bt]at h1;rw[h1,HC (p::r) ys z hz];rfl;cases h
theorem HK {E:Env}(hE:iY P E.ty){fn:Func}{bI:AS}{a':Act}{w':World}(hg:dH C g bI a' w' []){had:aw (Bool×Nat)}(TO:qw bI E had fn.results.toList=some ys){y:jZ rs}(gw:kI rs ys=some y): ∃v fp,(Go.results fn a'.tmps).run P w'=.ok v w'/\fP (fD C.A g.hw w') v (xx rs y) fp/\fp.Nodup/\∀b∈fp,∃own,own∉had/\g.dX b=some (wN own):=by
 have hys:=HC rs ys y gw;let gf:ResultVar->Value:=λrv=>match (Ax a'.tmps rv).run P w' with| .ok v _=>v|_=>undef
 obtain⟨aaO,fp,eI,CI,BL⟩:=Wf hE hg gf fn.results.toList had ys TO (λrv v hv=>by simp only[gf,hv]);have afn:=Az (P:=P) (Ax a'.tmps) gf w' fn.results (λx hx=>aaO x (by simpa using hx));have dV:(Go.results fn a'.tmps).run P w'=.ok (if h:(fn.results.map gf).size=1 then(fn.results.map gf)[0] else .tuple (fn.results.map gf)) w':=by
  have:Go.results fn a'.tmps=(do
   let vs<-fn.results.mapM (Ax a'.tmps)
   pure (if h:vs.size=1 then vs[0] else .tuple vs)):=by
   unfold Go.results
   congr 1
  rw[this];simp only[Sem.run_bind,afn,Result.andThen_ok,Sem.run_pure]
 refine⟨_,fp,dV,?_,CI,BL⟩;have Qx:(fn.results.map gf).toList=fn.results.toList.map gf:=by simp
 unfold xx;rw[<-hys];cases ys with
 |nil=>
  have afs:fn.results.toList.map gf=[]:=by cases hm:fn.results.toList.map gf with|nil=>rfl|cons u us=>rw[hm]at eI;exact eI.elim
  have sB:¬(fn.results.map gf).size=1:=by rw[<-Array.length_toList,Qx,afs];simp
  rw[dif_neg sB];exact⟨_,by rw[<-Qx],eI⟩
 |cons y1 ys=>
  cases ys with
  |nil=>
   obtain⟨gg,cs⟩:=y1;cases hm:fn.results.toList.map gf with
   |nil=>rw[hm]at eI;exact eI.elim
   |cons u us=>
    rw[hm]at eI;obtain⟨f1,f2,rfl,TM,sg⟩:=eI;cases us with
    |cons _ _=>exact sg.elim
    |nil=>
     cases sg;have Ia:fn.results.map gf=#[u]:=by apply eO;rw[Qx,hm]
     have:(if h:(fn.results.map gf).size=1 then(fn.results.map gf)[0] else .tuple (fn.results.map gf))=u:=by rw[dif_pos (by rw[Ia];rfl)];simp only[Ia];rfl
     rw[this,bt];exact TM
  |cons y2 ys=>
   have sB:¬(fn.results.map gf).size=1:=by rw[<-Array.length_toList,Qx];cases hm:fn.results.toList.map gf with|nil=>simp|cons u us=>rw[hm]at eI;obtain⟨f1,f2,rfl,TM,sg⟩:=eI;cases us with|nil=>exact sg.elim|cons u2 us=>simp
   rw[dif_neg sB];exact⟨_,by rw[<-Qx],eI⟩
theorem Kz {E:Env}(hE:iY P E.ty){fn:Func}{bI:AS}{a':Act}{w':World}(hg:dH C g bI a' w' [])(TO:qw bI E [] fn.results.toList=some ys){y:jZ rs}(gw:kI rs ys=some y): ∃v fp,(Go.results fn a'.tmps).run P w'=.ok v w'/\fP (fD C.A g.hw w') v (xx rs y) fp/\fp.Nodup/\∀b∈fp,∃own,g.dX b=some (wN own):=by obtain⟨v,fp,h1,h2,h3,h4⟩:=HK hE hg TO gw;exact⟨v,fp,h1,h2,h3,λb hb=>(h4 b hb).imp λ_ h=>h.2⟩
theorem WY {E:Env}{rs:aw (Bool×FT)}(hS:Sound P E Γ){fn:Func}(hf:P.funcs[f]?=some fn)(zw:(fn.name== "runtime.NumGoroutine")=false)(CK:xw E Γ an Λ (fn.body.getD .skip)):gA P f {R:=jZ rs,fn:=Bx E Γ an Λ fn rs,av:=xx rs}:=by
 intro xs y hy;simp only at hy;unfold Bx at hy;cases hb:fn.body with
 |none=>rw[hb]at hy;cases hy
 |some c=>
  rw[hb]at hy;simp only at hy;split at hy;refine⟨⟨fn,c,hf,hb,zw⟩,λ_ _ A w vs hA fL=>?_,λh=>(by cases h),λh=>(by cases h),λh=>(by cases h)⟩;refine calls_of_wp hf hb (wp_mono (NV hS c (by rw[hb]at CK;exact CK) _ _ _ _ (Hb hA fL) hy) ?_);rintro e a' w' ⟨ex,bI,he,hs,hk⟩;have main:aa (qw bI E [] fn.results.toList) (kI rs)=some y->a'.defers=[]/\∃v,(Go.results fn a'.tmps).run P w'=.ok v w'/\∃v_1 hw fp,Ending.returned v=Ending.returned v_1/\fP (fD A hw w') v_1 (xx rs y) fp/\fp.Nodup/\(∀b∈fp,w.heap.size<=b/\b<w'.heap.size)/\Fr (λ_=>False) w w':=by intro gw;obtain⟨g,hg⟩:=hs;refine⟨hg.defers,?_⟩;cases TO:qw bI E [] fn.results.toList with|none=>rw[TO]at gw;cases gw|some ys=>rw[TO]at gw;obtain⟨v,fp,dV,eI,CI,BL⟩:=Kz hS.ty hg TO gw;refine⟨v,dV,v,g.hw,fp,rfl,eI,CI,λb hb=>?_,hg.frame⟩;obtain⟨own,hl⟩:=BL b hb;have:=hg.fQ b _ hl;exact⟨this.2.resolve_right (λf=>f),this.1⟩
  cases e<;>cases ex<;>simp only[EK]at he;exact main hk;cases hk;exact main hk;cases hy
theorem Qd {E:Env}{Lb:aw (Bool×FT)}(h2:jZ Lb=jZ rs)(hS:Sound P E Γ){fn:Func}(hf:P.funcs[f]?=some fn)(zw:(fn.name== "runtime.NumGoroutine")=false)(CK:xw E Γ an Λ (fn.body.getD .skip)):gA P f {R:=Bool×jZ rs,fn:=evalAlt E Γ an Λ fn rs Lb h2,av:=λy=>xx rs y.2,sel:=λy=>y.1,alt:=λy=>xx Lb (cast h2.symm y.2)}:=by
 intro xs y hy;simp only at hy;unfold evalAlt at hy;cases hb:fn.body with
 |none=>rw[hb]at hy;cases hy
 |some c=>
  rw[hb]at hy;simp only at hy;split at hy;refine⟨⟨fn,c,hf,hb,zw⟩,λ_ _ A w vs hA fL=>?_,λh=>(by cases h),λh=>(by cases h),λh=>(by cases h)⟩;refine calls_of_wp hf hb (wp_mono (NV hS c (by rw[hb]at CK;exact CK) _ _ _ _ (Hb hA fL) hy) ?_);rintro e a' w' ⟨ex,bI,he,hs,hk⟩
  have main:(aa (qw bI E [] fn.results.toList) λys=>match kI rs ys with
   |some y=>some (true,y)
   |none=>match kI Lb ys with
    |some y=>some (false,cast h2 y)
    |none=>none)=some y->a'.defers=[]/\∃v,(Go.results fn a'.tmps).run P w'=.ok v w'/\∃v_1 hw fp,Ending.returned v=Ending.returned v_1/\
   fP (fD A hw w') v_1 (cond y.1 (xx rs y.2) (xx Lb (cast h2.symm y.2))) fp/\fp.Nodup/\(∀b∈fp,w.heap.size<=b/\b<w'.heap.size)/\Fr (λ_=>False) w w':=by
   intro gw
   obtain⟨g,hg⟩:=hs
   refine⟨hg.defers,?_⟩
   cases TO:qw bI E [] fn.results.toList with
   |none=>rw[TO]at gw;cases gw
   |some ys=>
    rw[TO]at gw
    simp only[aa]at gw
    have fin:∀(rs':aw (Bool×FT))(y':jZ rs'),kI rs' ys=some y'->∃v,(Go.results fn a'.tmps).run P w'=.ok v w'/\∃v_1 hw fp,Ending.returned v=Ending.returned v_1/\
     fP (fD A hw w') v_1 (xx rs' y') fp/\fp.Nodup/\(∀b∈fp,w.heap.size<=b/\b<w'.heap.size)/\Fr (λ_=>False) w w':=by
     intro rs' y' Ps
     obtain⟨v,fp,dV,eI,CI,BL⟩:=Kz hS.ty hg TO Ps
     refine⟨v,dV,v,g.hw,fp,rfl,eI,CI,λb hb=>?_,hg.frame⟩
     obtain⟨own,hl⟩:=BL b hb
     have:=hg.fQ b _ hl
     exact⟨this.2.resolve_right (λf=>f),this.1⟩
    cases h1:kI rs ys with
    |some y1=>rw[h1]at gw;cases gw;exact fin rs y1 h1
    |none=>
     rw[h1]at gw
     simp only at gw
     cases h3:kI Lb ys with
     |none=>rw[h3]at gw;cases gw
     |some y1=>
      rw[h3]at gw
      cases gw
      simp only[af,cast_cast,cast_eq]
      exact fin Lb y1 h3
  cases e<;>cases ex<;>simp only[EK]at he;exact main hk;cases hk;exact main hk;cases hy
theorem WG {c:RC}(W4:c.A=A)(Pq:c.w=w)(C4:c.hw=hw)(Ib:∀t,t%3=1->c.iss t){all:ir}(Ln:∀t,c.hdr t=(all[t/3]?).getD undef):
 ∀(j:Nat){vs:ir}{cs:aw AC}{fp:ff},bA (fD A hw w) vs cs fp->cs.all (AC.wo true)=true->(∀i v,vs[i]?=some v->all[j+i]?=some v)->bA c vs (EE j cs) fp:=by
 intro j vs
 induction vs generalizing j with
 |nil=>intro cs fp h _ _;cases cs with
  |nil=>exact h
  |cons _ _=>exact h.elim
 |cons v vs ih=>
  intro cs fp h lI DV
  cases cs with
  |nil=>exact h.elim
  |cons x cs=>
   obtain⟨f1,f2,rfl,h1,h2⟩:=h
   simp only[bV,ae]at lI
   have i1:=ih (j+1) h2 lI.2 (λi u hu=>by rw[show j+1+i=j+(i+1) by omega];exact DV (i+1) u (by simpa using hu))
   have JM:=DV 0 v rfl
   rw[dK]at JM
   have Iy:x.jd=true->EE j (x::cs)=x::EE (j+1) cs->bA c (v::vs) (EE j (x::cs)) (f1++f2):=by rintro hf e1;obtain⟨rfl,k⟩:=pD (c':=c) h1 hf;rw[e1];exact⟨[],f2,rfl,k,i1⟩
   cases x with
   |sl fl e xs=>
    cases fl with
    |own t=>
     have gC:eV c.hw c.w (.sl e) [v] xs f1:=by rw[C4,Pq];exact h1.1
     refine⟨f1,f2,rfl,⟨gC,λq hq=>?_⟩,i1⟩
     cases hq
     refine⟨Ib _ (by omega),?_⟩
     rw[Ln,show(3*j+1)/3=j by omega,JM];rfl
    |arg k=>
     have hk:k=true:=by simpa[AC.wo]using lI.1
     subst hk
     exact⟨f1,f2,rfl,⟨h1.1,by rw[Pq,W4];exact h1.2⟩,i1⟩
    |loc ep pv=>cases lI.1
    |nest _ _ _ _ _ _=>cases lI.1
    |part _ _ _ _=>cases lI.1
    |eX _ _ _=>cases lI.1
   |int k n=>exact Iy rfl rfl
   |bool b=>exact Iy rfl rfl
   |str s=>exact Iy rfl rfl
   |fn f=>exact Iy rfl rfl
   |jm=>cases lI.1
   |ptr s off=>cases lI.1
   |yP fl e y i off=>cases lI.1
   |un=>cases lI.1
   |bot=>cases lI.1
theorem O4 {fp:ff}{b:Nat}(hA:∀k b' o,A k b' o->b'<w.heap.size/\b'≠b/\b'∉fp){fn:Func}{vs:ir}{arr:Array Value}{T:TypeId}{fr:Nat×Nat}(jK:w.heap[b]?=some (.cells arr T fr))(qv:oo arr fr)(eI:bA (fD A hw w) arr.toList cs fp)(lI:cs.all (AC.wo true)=true)(hn:fp.Nodup)(tZ:b∉fp)(hG:∀b'∈fp,b'<w.heap.size)(Er:hw b=0)(h:ot A w vs xs): mP ⟨A,λb'=>b'=b\/b'∈fp,w,[.pointer (some ⟨b,0,none⟩)],λk b' o hb=>⟨(hA k b' o hb).1,λhm=>hm.elim (hA k b' o hb).2.1 (hA k b' o hb).2.2⟩⟩ (xZ fn cs xs) {tmps:=(.pointer (some ⟨b,0,none⟩)::vs).toArray++Array.replicate (fn.ntmps-(Value.pointer (some ⟨b,0,none⟩)::vs).toArray.size) undef,defers:=[]} w:=by
 obtain⟨hl,hi⟩:=DH h;let v0:Value:=.pointer (some ⟨b,0,none⟩);let C:Ctx:=⟨A,λb'=>b'=b\/b'∈fp,w,[v0],λk b' o hb=>⟨(hA k b' o hb).1,λhm=>hm.elim (hA k b' o hb).2.1 (hA k b' o hb).2.2⟩⟩
 let g:Gh:=⟨hw,λ_=>b,λb'=>if b'=b\/b'∈fp then some (.box 0) else none,λt=>(arr.toList[t/3]?).getD undef⟩
 have Dc:=la jK;have sL:iQ (xZ fn cs xs) 0:=⟨EE 0 cs,rfl⟩
 have hle:(fD A (λ_=>0) w).Le (cH C g (xZ fn cs xs) w):=⟨rfl,λt ht=>ht.elim,λ_ _ _ _ _ hv=>hv,aS _,λs hs=>hs.elim,λ_ b o u ho _=>absurd ho (Nat.not_lt_zero _)⟩
 have k1:=WG (c:=cH C g (xZ fn cs xs) w) (A:=A) rfl rfl rfl (λt ht=> .inl (by omega)) (all:=arr.toList) (λt=>rfl) 0 eI lI (λi v hv=>by rw[cl];exact hv);refine⟨g,rfl,?_,?_,λi av hs=>?_,λs oS hs=>?_,λk v av hk=>by simp at hk,λb' x hx=>?_,Fr.refl _ _,⟨[],⟨[],[],rfl,⟨rfl,sL,rfl⟩,rfl⟩,by simp,by simp⟩⟩;simp[xZ,start,hl];omega;simp[xZ,start];have vZ:((.one (.ptr 0 0)::xs)++List.replicate (fn.ntmps-(AV.one (.ptr 0 0)::xs).length) AV.bot)[i]?=some av:=hs;rcases bW i (xs.length+1)with ac5|yc;rw[br (by simpa using ac5)]at vZ;cases i with
 |zero=>
  simp at vZ;subst vZ;refine⟨[],?_,by simp,by simp⟩;have hvv:((v0::vs).toArray++Array.replicate (fn.ntmps-(v0::vs).toArray.size) undef).getD 0 undef=v0:=by simp[du,Array.getElem?_append]
  show fP _ (((v0::vs).toArray++Array.replicate (fn.ntmps-(v0::vs).toArray.size) undef).getD 0 undef) _ _;rw[hvv];exact ly ⟨rfl,sL,rfl⟩
 |succ i=>
  obtain⟨v,hv,hr⟩:=hi i av (by simpa using vZ);refine⟨[],?_,by simp,by simp⟩;have hvv:((v0::vs).toArray++Array.replicate (fn.ntmps-(v0::vs).toArray.size) undef).getD (i+1) undef=v:=by
   have ahr:i<vs.length:=by omega
   have Zn:vs[i]=v:=by rw[al ahr]at hv;exact dm hv
   simp[du,Array.getElem?_append,ahr,Zn]
  show fP _ (((v0::vs).toArray++Array.replicate (fn.ntmps-(v0::vs).toArray.size) undef).getD (i+1) undef) _ _;rw[hvv];exact hr.mono hle (by simp)
 rw[bl (by simpa using yc),dQ]at vZ;split at vZ;cases vZ;exact⟨[],fP.bot _ _,by simp,by simp⟩;cases vZ;have vZ:(some (EE 0 cs)::List.replicate (xs.length+(fn.ntmps-(xs.length+1))) (none:ay (aw AC)))[s]?=some (some oS):=hs;cases s with|zero=>simp at vZ;subst vZ;refine⟨arr,T,fr,fp,jK,qv,k1,hn,tZ,λb' gK=>?_,?_,Er⟩;show(if b'=b\/b'∈fp then _ else _)=_;rw[aF (.inr gK)];show(if b=b\/b∈fp then _ else _)=_;rw[aF (.inl rfl)]|succ s=>simp only[eF,dQ]at vZ;split at vZ<;>cases vZ
 have yT:(if b'=b\/b'∈fp then some (jy.box 0) else none)=some x:=hx;split at yT;rename_i hm;rcases hm with rfl|hm;exact⟨Dc,.inr (.inl rfl)⟩;exact⟨hG b' hm,.inr (.inr hm)⟩;cases yT
theorem ov {E:Env}{rs:aw (Bool×FT)}{t:FT}(hS:Sound P E Γ){fn:Func}(hf:P.funcs[f]?=some fn)(zw:(fn.name== "runtime.NumGoroutine")=false)(CK:xw E Γ an Λ (fn.body.getD .skip)):gA P f {R:=jZ rs×t.ct.D,fn:=VI E Γ an Λ fn rs t,av:=λy=>xx rs y.1,back:=λy=>ja t y.2,bx:=true}:=by
 intro xs y hy;simp only at hy;unfold VI at hy;split at hy;rename_i c cs rest hb;split at hy;rename_i hlen;refine⟨⟨fn,c,hf,hb,zw⟩,λ_ h=>(by cases h),λh=>(by cases h),λ_ L6 ah4 he A w b vs arr T fr hw fp hA jK qv eI hn tZ hG Er fL=>?_,λh=>(by cases h)⟩;injection he with he1 he2;injection he1 with _ he3;subst he2;subst he3;refine calls_of_wp hf hb (wp_mono (NV hS c (by rw[hb]at CK;exact CK) _ _ _ _ (O4 (fn:=fn) hA jK qv eI hlen.2 hn tZ hG Er fL) hy) ?_);rintro e a' w' ⟨ex,bI,he,hs,hk⟩
 have main:(aa (aa (qw bI E [(true,0)] fn.results.toList) (kI rs)) λr=>match bI.io,bI.boxes with
  |[.ptr 0 0],some oS::_=>(match IE t (oS.map AC.strip)with|some (x,[])=>some (r,x)|_=>none)
  |_,_=>none)=some y->
  a'.defers=[]/\∃v,(Go.results fn a'.tmps).run P w'=.ok v w'/\∃v_1 hw' fv iI T' Ml jJ,Ending.returned v=Ending.returned v_1/\fP (fD A hw' w') v_1 (xx rs y.1) fv/\w'.heap[b]?=some (.cells iI T' Ml)/\oo iI Ml/\
    bA (fD A hw' w') iI.toList (ja t y.2) jJ/\jJ.Nodup/\b∉jJ/\(∀b'∈jJ,b'<w'.heap.size/\(b'∈fp\/w.heap.size<=b'))/\fv.Nodup/\(∀b'∈fv,b'<w'.heap.size/\(b'∈fp\/w.heap.size<=b')/\b'∉jJ/\b'≠b)/\Fr (λb'=>b'=b\/b'∈fp) w w':=by
  intro gw
  obtain⟨g,hg⟩:=hs
  refine⟨hg.defers,?_⟩
  cases TO:qw bI E [(true,0)] fn.results.toList with
  |none=>rw[TO]at gw;cases gw
  |some ys=>
   rw[TO]at gw
   simp only[aa]at gw
   cases hrr:kI rs ys with
   |none=>rw[hrr]at gw;cases gw
   |some r0=>
    rw[hrr]at gw
    simp only at gw
    split at gw
    ·rename_i oS tl Lp jt
     split at gw
     ·rename_i x hx
      cases gw
      obtain⟨v,fv,dV,ua,CI,BL⟩:=HK hS.ty hg TO hrr
      obtain⟨fpi,hri,_,_⟩:=hg.io
      rw[Lp]at hri
      obtain⟨g1,g2,_,alN,_⟩:=hri
      have Gq:b=g.β 0:=by have:=alN.1;simp only[Value.pointer.injEq,aZ,Addr.mk.injEq]at this;exact this.1
      obtain⟨iI,T',Ml,jJ,EU,QC,hr',AY,EW,hl',ahn,_⟩:=hg.boxes 0 oS (by rw[jt];rfl)
      rw[<-Gq]at EU EW ahn
      have lN:=vN hr'
      have Gp:=vI hx
      rw[bt]at Gp
      rw[Gp]at lN
      have hM:∀b',(w.heap.size<=b'\/(b'=b\/b'∈fp))->b'≠b->b'∈fp\/w.heap.size<=b':=by rintro b' (h2|h2|h2) Ad;exact .inr h2;exact absurd h2 Ad;exact .inl h2
      refine⟨v,dV,v,g.hw,fv,iI,T',Ml,jJ,rfl,ua,EU,QC,lN,AY,EW,λb' gK=>?_,CI,λb' gK=>?_,hg.frame⟩
      ·have:=hg.fQ b' _ (hl' b' gK)
       exact⟨this.1,hM b' this.2 (λe=>EW (e▸gK))⟩
      ·obtain⟨own,Ic,Mq⟩:=BL b' gK
       have Ep:g.dX b'≠some (.box 0):=by rw[Mq];intro e;have e2:wN own=wN (true,0):=dm e;exact Ic (by rw[HD e2];simp)
       have Ad:b'≠b:=λe=>Ep (by rw[e];exact ahn)
       have:=hg.fQ b' _ Mq
       exact⟨this.1,hM b' this.2 Ad,λhm=>Ep (hl' b' hm),Ad⟩
     ·cases gw
    ·cases gw
 cases e<;>cases ex<;>simp only[EK]at he;exact main hk;cases hk;exact main hk;cases hy;cases hy
theorem ag7 {E:Env}{t:FT}(hS:Sound P E Γ){fn:Func}(hf:P.funcs[f]?=some fn)(zw:(fn.name== "runtime.NumGoroutine")=false)(CK:xw E Γ an Λ (fn.body.getD .skip)):gA P f {R:=t.ct.D,fn:=NY E Γ an Λ fn t,av:=λ_=> .bot,back:=λy=>ja t y,pr:=true}:=by
 intro xs y hy;simp only at hy;unfold NY at hy;cases hb:fn.body with
 |none=>rw[hb]at hy;cases hy
 |some c=>
  rw[hb]at hy;simp only at hy;split at hy;have key:ad6 P f {R:=t.ct.D,fn:=NY E Γ an Λ fn t,av:=λ_=> .bot,back:=λy=>ja t y,pr:=true} y xs:=by
   intro A w vs hA fL;refine calls_of_wp hf hb (wp_mono (NV hS c (by rw[hb]at CK;exact CK) _ _ _ _ (Hb hA fL) hy) ?_);rintro e a' w' ⟨ex,bI,he,hs,hk⟩
   have main:(match fn.results.toList with
    |[.tmp i]=>match bI.get i with
     | .val false [.ptr s 0]=>match (nth bI.boxes s).getD none with
       |some cs=>if cs.all AC.Ga=true then(match IE t (cs.map AC.strip)with|some (x,[])=>some x|_=>none) else none
       |none=>none
     |_=>none
    |_=>none)=some y->a'.defers=[]/\∃v,(Go.results fn a'.tmps).run P w'=.ok v w'/\∃b arr T fr hw,Ending.returned v=.returned (.pointer (some ⟨b,0,none⟩))/\w.heap.size<=b/\w'.heap[b]?=some (.cells arr T fr)/\oo arr fr/\bA (fD A hw w') arr.toList (ja t y) []/\Fr (λ_=>False) w w':=by
    intro gw
    obtain⟨g,hg⟩:=hs
    refine⟨hg.defers,?_⟩
    split at gw
    ·rename_i i hri
     split at gw
     ·rename_i s hp
      cases jt:(nth bI.boxes s).getD none with
      |none=>rw[jt]at gw;cases gw
      |some cs=>
       rw[jt]at gw
       simp only at gw
       split at gw
       ·rename_i lI
        split at gw
        ·rename_i x hx
         cases gw
         have jt:bI.boxes[s]?=some (some cs):=by rw[dF]at jt;cases hq:bI.boxes[s]? with|none=>rw[hq]at jt;simp at jt|some q=>rw[hq]at jt;simp at jt;rw[jt]
         obtain⟨fp0,sA,_,_⟩:=hg.slot i
         rw[hp]at sA
         have sA:=yB sA
         obtain⟨arr,T,fr,fp,jK,qv,eI,hn,tZ,hl,Eo,Er⟩:=hg.boxes s cs jt
         obtain⟨AU,vs,eY,JK⟩:=arg_val (c:=cH _ g bI w') (c':=cH _ g bI w') rfl rfl (v:=.agg arr.toList.toArray) (x:=.val true cs) ⟨arr.toList,rfl,eI⟩ lI
         have hvs:arr.toList=vs:=by have eY:Value.agg arr.toList.toArray=.agg vs.toArray:=eY;simp only[Value.agg.injEq]at eY;simpa using congrArg Array.toList eY
         rw[<-hvs]at JK
         have lN:=vN JK
         have Gp:=vI hx
         rw[bt]at Gp
         rw[Gp]at lN
         have dV:(Go.results fn a'.tmps).run P w'=.ok (a'.tmps.getD i undef) w':=by
          have he:fn.results=#[.tmp i]:=by apply eO;exact hri
          have afn:=Az (P:=P) (Ax a'.tmps) (λ_=>a'.tmps.getD i undef) w' fn.results (λx hx=>by rw[he]at hx;simp at hx;subst hx;rfl)
          have hd:Go.results fn a'.tmps=(do
           let vs<-fn.results.mapM (Ax a'.tmps)
           pure (if h:vs.size=1 then vs[0] else .tuple vs)):=by
           unfold Go.results
           congr 1
          rw[hd];simp only[Sem.run_bind,afn,Result.andThen_ok,Sem.run_pure];rw[he];simp
         refine⟨_,dV,g.β s,arr,T,fr,g.hw,congrArg Ending.returned sA,?_,jK,qv,lN,hg.frame⟩
         exact(hg.fQ _ _ Eo).2.resolve_right (λf=>f)
        ·cases gw
       ·cases gw
     ·cases gw
    ·cases gw
   cases e<;>cases ex<;>simp only[EK]at he;exact main hk;cases hk;exact main hk
  refine⟨⟨fn,c,hf,hb,zw⟩,λ_ _ A w vs hA fL=>?_,λh=>(by cases h),λh=>(by cases h),λ_=>key⟩;refine(key A w vs hA fL).mono ?_;rintro e w' ⟨b,arr,T,fr,hw,rfl,_,_,_,_,je⟩;exact⟨_,hw,[],rfl,fP.bot _ _,List.nodup_nil,(λb hb=>by cases hb),je⟩;cases hy
end Go.Dn
