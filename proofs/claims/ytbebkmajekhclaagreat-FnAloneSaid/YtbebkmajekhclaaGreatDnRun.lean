import Derived.Test.YtbebkmajekhclaaGreatDnAny
/- The soundness of the abstract semantics: code and functions. -/
namespace Go.Dn
open Go.RowKit
variable {P:Program} {C:Ctx} {st:AS} {a:Act} {w:World} {R:Type} {r:R}
variable {an:An} {Γ:BA} {g:Gh} {Λ:jZ} {f:Nat} {hw:Nat->Nat} {A:Rg} {rs:aw (Bool×FT)} {ys:aw (Bool×aw AC)} {cs:aw AC} {xs:aw AV}
def Jh:Exit->Ex->Prop
 | .normal,.normal=>True
 | .ret,.ret=>True
 | .exit i,.exit j=>i=j
 |_,_=>False
def apV (C:Ctx)(K:Ex->AS->ay R)(r:R)(e:Exit)(a:Act)(w:World):Prop:=
 ∃ex bU,Jh e ex/\pc C bU a w/\K ex bU=some r
theorem agj {E:Env}(hS:Sound P E Γ){id:Nat}{ops:Array Oper}{d:Bool}(h:pc C st a w){K:AS->ay R}(hk:Vg E Γ an id ops.toList d st K=some r){Q:Exit->Act->World->Prop}(hq:∀bU a' w',pc C bU a' w'->K bU=some r->Q .normal a' w'):(Code.region id ops d).wp P Q a w:=by
 unfold Vg at hk;split at hk;rw[OB]at hk;cases ho:FE E Γ an ops.toList d st some with|none=>rw[ho]at hk;cases hk|some st1=>rw[ho]at hk;exact adl hS h ho (λa' w' hs=>hq _ _ _ hs hk)
 rename_i s hm;split at hk;rename_i aoh;rw[OB]at hk;cases ho:FE E Γ.calm an ops.toList d st some with|none=>rw[ho]at hk;cases hk|some st1=>rw[ho]at hk;simp only[eZ]at hk;cases hb:getBool st1 s with|none=>rw[hb]at hk;cases hk|some b=>rw[hb]at hk;simp only[aa]at hk;have hn:=afT (ak5 Γ) (λo Ni=>aD.1 aoh o Ni) ho;exact adl hS.calm h ho (λa' w' hs=>hq _ _ _ (hs.weaken hn hb) hk)
 cases hk
def tE (E:Env)(Γ:BA)(an:An)(Λ:jZ)(c:Code):Prop:=
 ∃n,∀(R:Type)(st:AS)(K:Ex->AS->ay R)(r:R),(Λ (eT c)).go st K=some r->CR (an.mask (eT c)) (den E Γ an Λ c) n st K=some r
def QI (E:Env)(Γ:BA)(an:An)(Λ:jZ)(c:Code):Prop:=
 ∀(R:Type)(st:AS)(K:Ex->AS->ay R)(r:R),(Λ (Fs c)).go st K=some r->den E Γ an Λ c st (λe bU=>K e (bU.mask (an.mask (Fs c+1))))=some r
def Bz (E:Env)(Γ:BA)(an:An)(Λ:jZ)(c:Code):Prop:=(∀c'∈iR c,tE E Γ an Λ c')/\∀c'∈lG an.cut c,QI E Γ an Λ c'
theorem ahv (c:Code):lG [] c=[]:=by induction c with|seq a b iha ihb=>simp[lG,iha,ihb]|cond _ a b iha ihb=>simp[lG,iha,ihb]|block _ c ih=>simpa[lG]using ih|loop c ih=>simpa[lG]using ih|_=>rfl
theorem Bz.of {E:Env}{c:Code}(h:∀c'∈iR c,tE E Γ an Λ c')(hc:an.cut=[]):Bz E Γ an Λ c:=⟨h,by rw[hc,ahv];simp⟩
theorem Ud {E:Env}(hS:Sound P E Γ):∀(c:Code)(_:Bz E Γ an Λ c)(st:AS)(a:Act)(w:World)(K:Ex->AS->ay R),pc C st a w->den E Γ an Λ c st K=some r->c.wp P (apV C K r) a w:=by
 intro c;induction c with
 |skip=>intro G1 st a w K h hk;exact wp_skip ⟨.normal,st,cy,h,hk⟩
 |region id ops d=>intro G1 st a w K h hk;exact agj hS h (by simpa only[den]using hk) (λbU a' w' hs he=>⟨.normal,bU,cy,hs,he⟩)
 |seq x y ihx ihy=>
  intro G1 st a w K h hk;have ihx:=ihx ⟨λc hc=>G1.1 c (by simp[iR,hc]),λc hc=>G1.2 c (by simp[lG,hc])⟩;have ihy:=ihy ⟨λc hc=>G1.1 c (by simp[iR,hc]),λc hc=>G1.2 c (by simp only[lG];cases an.cut.contains (eT y)<;>simp[hc])⟩;simp only[den]at hk;refine wp_seq (wp_mono (ihx st a w _ h hk) ?_);rintro e a' w' ⟨ex,bU,he,hs,FU⟩;cases e<;>cases ex<;>simp only[Jh]at he;simp only at FU;cases fS:an.cut.contains (eT y)with|false=>rw[fS]at FU;exact ihy bU a' w' K hs FU|true=>rw[fS]at FU;have hc:=G1.2 y (by simp only[lG,fS];simp) _ _ _ _ FU;refine wp_mono (ihy _ a' w' _ (hs.mask _) hc) ?_;rintro e2 a2 w2 ⟨ex2,st2,he2,Xi,hk2⟩;exact⟨ex2,_,he2,Xi.mask _,hk2⟩
  exact⟨.exit _,bU,he,hs,FU⟩;exact⟨.ret,bU,cy,hs,FU⟩
 |cond c x y ihx ihy=>
  intro G1 st a w K h hk;have ihx:=ihx ⟨λc hc=>G1.1 c (by simp[iR,hc]),λc hc=>G1.2 c (by simp[lG,hc])⟩;have ihy:=ihy ⟨λc hc=>G1.1 c (by simp[iR,hc]),λc hc=>G1.2 c (by simp[lG,hc])⟩;simp only[den]at hk;split at hk;rename_i t hc;have hv:a.eval c=.bool t:=by obtain⟨g,hg⟩:=h;have:=hg.rd c;rw[hc]at this;exact xd this
  cases t with|true=>exact wp_cond_true hv (ihx st a w K h hk)|false=>exact wp_cond_false hv (ihy st a w K h hk)
  cases hk
 |block id c ih=>intro G1 st a w K h hk;have ih:=ih ⟨λc hc=>G1.1 c (by simpa[iR]using hc),λc hc=>G1.2 c (by simpa[lG]using hc)⟩;simp only[den]at hk;refine wp_block (wp_mono (ih st a w _ h hk) ?_);rintro e a' w' ⟨ex,bU,he,hs,FU⟩;cases e<;>cases ex<;>simp only[Jh]at he;exact⟨.normal,bU,cy,hs,FU⟩;rename_i i j;subst he;simp only[Exit.inBlock];simp only at FU;by_cases hi:i=id;subst hi;rw[aH rfl];simp only[beq_self_eq_true,cg]at FU;exact⟨.normal,bU,cy,hs,FU⟩;rw[aG hi];rw[aG (by simpa using hi)]at FU;exact⟨.exit i,bU,rfl,hs,FU⟩;exact⟨.ret,bU,cy,hs,FU⟩
 |loop c ih=>
  intro G1 st a w K h hk;have ih:=ih ⟨λc hc=>G1.1 c (by simp[iR,hc]),λc hc=>G1.2 c (by simpa[lG]using hc)⟩;obtain⟨n,hn⟩:=G1.1 c (by simp[iR]);simp only[den]at hk;intro b k cs
  have key:∀m st a w,pc C st a w->CR (an.mask (eT c)) (den E Γ an Λ c) m st K=some r->
   ∃e a' w',apV C K r e a' w'/\Arrives P (lone (b.at a (.code c:: .inLoop c::k)) cs w) b k cs e a' w':=by
   intro m
   induction m with
   |zero=>intro st a w _ hk;cases hk
   |succ m ihm=>
    intro st a w h hk
    simp only[CR]at hk
    obtain⟨e,ZW,acV,⟨ex,bU,he,hs,FU⟩,Nf⟩:=ih st a w _ h hk b (.inLoop c::k) cs
    cases e<;>cases ex<;>simp only[Jh]at he
    ·obtain⟨anQ,anH,aps,aiE,Ur⟩:=ihm _ ZW acV (hs.mask _) FU
     exact⟨anQ,anH,aps,aiE,.of_steps (Steps.trans Nf (.one step_inLoop)) Ur⟩
    ·exact⟨.exit _,ZW,acV,⟨.exit _,_,he,hs.mask _,FU⟩,.pass (x:=.inLoop c) rfl (λ_ _=> .inl (by simp)) Nf⟩
    ·exact⟨.ret,ZW,acV,⟨.ret,_,cy,hs.mask _,FU⟩,.pass (x:=.inLoop c) rfl (λ_ _=> .inl (by simp)) Nf⟩
  cases hp:an.peel.contains (eT c)with
  |false=>rw[hp]at hk;obtain⟨e,a',w',hq,Nf⟩:=key n _ a w (h.mask _) (hn _ _ _ _ hk);exact⟨e,a',w',hq,.of_steps (.one step_loop) Nf⟩
  |true=>rw[hp]at hk;simp only[ah]at hk;obtain⟨e,ZW,acV,⟨ex,bU,he,hs,FU⟩,Nf⟩:=ih _ a w _ (h.mask _) hk b (.inLoop c::k) cs;cases e<;>cases ex<;>simp only[Jh]at he;obtain⟨anQ,anH,aps,aiE,Ur⟩:=key n _ ZW acV (hs.mask _) (hn _ _ _ _ FU);exact⟨anQ,anH,aps,aiE,.of_steps (Steps.trans (.one step_loop) (Steps.trans Nf (.one step_inLoop))) Ur⟩;exact⟨.exit _,ZW,acV,⟨.exit _,_,he,hs.mask _,FU⟩,.of_steps (.one step_loop) (.pass (x:=.inLoop c) rfl (λ_ _=> .inl (by simp)) Nf)⟩;exact⟨.ret,ZW,acV,⟨.ret,_,cy,hs.mask _,FU⟩,.of_steps (.one step_loop) (.pass (x:=.inLoop c) rfl (λ_ _=> .inl (by simp)) Nf)⟩
 |exit id=>intro G1 st a w K h hk;exact wp_exit ⟨.exit id,st,rfl,h,hk⟩
 |ret=>intro G1 st a w K h hk;exact wp_ret ⟨.ret,st,cy,h,hk⟩
 |_=>intro G1 st a w K h hk;simp[den]at hk
theorem H6:∀{vs:jd}{xs:aw AV},qT A w vs xs->vs.length=xs.length/\∀(i:Nat)(x:AV),xs[i]?=some x->∃v,vs[i]?=some v/\gK (gr A (λ_=>0) w) v x []
 |[],[],_=>⟨rfl,by simp⟩
 |v::vs,x::xs,h=>by obtain⟨hl,hi⟩:=H6 h.2;refine⟨by simp[hl],λi y hy=>?_⟩;cases i with|zero=>simp at hy;subst hy;exact⟨v,rfl,h.1⟩|succ i=>exact hi i y (by simpa using hy)
 |[],_::_,h=>h.elim
 |_::_,[],h=>h.elim
theorem LV (hA:∀k b o,A k b o->b<w.heap.size){fn:Func}{vs:jd}(h:qT A w vs xs): pc ⟨A,λ_=>False,w,[],λk b o hb=>⟨hA k b o hb,λf=>f⟩⟩ (start fn xs) {tmps:=vs.toArray++Array.replicate (fn.ntmps-vs.toArray.size) undef,defers:=[]} w:=by
 obtain⟨hl,hi⟩:=H6 h;let C:Ctx:=⟨A,λ_=>False,w,[],λk b o hb=>⟨hA k b o hb,λf=>f⟩⟩
 let g:Gh:=⟨λ_=>0,λ_=>0,λ_=>none,λ_=>undef⟩
 have hle:(gr A (λ_=>0) w).Le (db C g (start fn xs) w):=⟨rfl,λt ht=>ht.elim,λ_ _ _ _ _ hv=>hv,bh _,λs hs=>hs.elim,λ_ b o u ho hu=>⟨ho,hu⟩⟩
 refine⟨g,rfl,?_,?_,λi av hs=>?_,λs cs hs=>?_,λk v av hk=>by simp at hk,λb x hx=>(by cases hx),Fr.refl _ _,⟨[],rfl,by simp,by simp⟩⟩;simp[start,hl];simp[start];have xJ:(xs++List.replicate (fn.ntmps-xs.length) AV.bot)[i]?=some av:=hs;rcases cn i xs.length with gF|BQ;rw[bE gF]at xJ;obtain⟨v,hv,hr⟩:=hi i av xJ;refine⟨[],?_,by simp,by simp⟩;have hvv:(vs.toArray++Array.replicate (fn.ntmps-vs.toArray.size) undef).getD i undef=v:=by
  have alk:i<vs.length:=by omega
  have hv':vs[i]=v:=by rw[ak alk]at hv;exact cc hv
  simp[dR,Array.getElem?_append,alk,hv']
 show gK _ ((vs.toArray++Array.replicate (fn.ntmps-vs.toArray.size) undef).getD i undef) _ _;rw[hvv];exact hr.mono hle (by simp);rw[bz BQ,eL]at xJ;split at xJ;cases xJ;exact⟨[],gK.bot _ _,by simp,by simp⟩;cases xJ;have xJ:(List.replicate (xs.length+(fn.ntmps-xs.length)) (none:ay (aw AC)))[s]?=some (some cs):=hs;rw[eL]at xJ;split at xJ<;>cases xJ
theorem acO {v:Value}{x:AC}{fp:fE}(h:iq (db C g st w) v x fp):iq (gr C.A g.hw w) v x.strip fp:=by
 cases x with
 |int k n=>exact h
 |bool b=>exact h
 |str s=>exact h
 |kh=>exact h
 |fn f=>exact h
 |un=>exact h
 |bot=>exact h
 |ptr s off=>exact h.2.2
 |Dc fl e y i off=>cases fl with|own t=>exact h.elim|nest _ _ _ _ _ _=>exact h.elim|part _ _ _ _=>exact h.elim|fR _ _ _=>exact h.elim|arg _=>exact h.1|loc ep pv=>exact h.1
 |sl fl e xs=>
  cases fl with
  |nest _ _ _ _ _ _=>exact h.1
  |part _ _ _ _=>exact h.1
  |fR _ _ _=>obtain⟨_,⟨k,hk,h3⟩,_⟩:=h;exact⟨λq hq=>(by cases hq),⟨k,hk,h3⟩,by simp⟩
  |own t=>exact⟨h.1,by simp⟩
  |arg _=>exact h
  |loc ep pv=>exact h.1
theorem zT:∀{vs:jd}{xs:aw AC}{fp:fE},bO (db C g st w) vs xs fp->bO (gr C.A g.hw w) vs (xs.map AC.strip) fp
 |[],[],_,h=>h
 |_::_,_::_,_,h=>by obtain⟨f1,f2,rfl,h1,h2⟩:=h;exact⟨f1,f2,rfl,acO h1,zT h2⟩
 |[],_::_,_,h=>h.elim
 |_::_,[],_,h=>h.elim
def EB (tmps:Array Value):ResultVar->Sem Value
 | .tmp t=>pure (tmps.getD t undef)
 | .cell a t=>do loadVar t (<-asAddr (tmps.getD a undef))
def AK:Bool×Nat->kz
 |(false,t)=> .slot t
 |(true,s)=> .box s
theorem Mv {x y:Bool×Nat}(h:AK x=AK y):x=y:=by rcases x with⟨_|_,a⟩<;>rcases y with⟨_|_,b⟩<;>simp[AK]at h<;>rw[h]
theorem alU {E:Env}(hE:jR P E.ty)(h:ew C g st a w []){rv:ResultVar}{own:Bool×Nat}{gg:Bool}(hr:PX st E rv=some (own,gg,cs)): ∃v vs fp,(EB a.tmps rv).run P w=.ok v w/\Cut gg v vs/\bO (gr C.A g.hw w) vs cs fp/\fp.Nodup/\∀b∈fp,g.eX b=some (AK own):=by
 cases rv with
 |tmp t=>simp only[PX]at hr;split at hr;rename_i g' rJ oX;cases hr;obtain⟨fp,fG,hn,hl⟩:=h.slot t;rw[oX]at fG;obtain⟨vs,fS,fG⟩:=fG;exact⟨_,vs,fp,rfl,fS,zT fG,hn,hl⟩;cases hr
 |cell t T=>
  simp only[PX]at hr;split at hr;rename_i sh s off hT hp;cases kq:(nth st.boxes s).getD none with
  |none=>rw[kq]at hr;cases hr
  |some rJ=>
   rw[kq]at hr;simp only[eZ]at hr;split at hr;rename_i ib;cases hr;have kq:st.boxes[s]?=some (some rJ):=by rw[ej]at kq;cases hq:st.boxes[s]? with|none=>rw[hq]at kq;simp at kq|some q=>rw[hq]at kq;simp at kq;rw[kq]
   obtain⟨fp0,vZ,_,_⟩:=h.slot t;rw[hp]at vZ;have vZ:=CV vZ;obtain⟨arr,T',fr,fp,kL,tN,fG,hn,xH,hl,IV,IY⟩:=h.boxes s rJ kq;have hlen:=fG.length;obtain⟨v,eU,fS⟩:=zJ (hE T sh hT) (g.β s) off ((arr.toList.drop off).take sh.ct.size) (by simp at hlen⊢;omega) (RD kL off sh.ct.size);obtain⟨f1,f2,f3,rfl,r1,r2,r3⟩:=fG.mid off sh.ct.size;have IX:=(aN.1 (aN.1 hn).1).2.1;refine⟨v,_,f2,?_,fS,zT r2,IX,λb hb=>hl b (by simp[hb])⟩;simp only[EB,vZ,asAddr,Sem.run_bind,Sem.run_pure,Result.andThen_ok];exact eU;cases hr
  cases hr
theorem adR {E:Env}(hE:jR P E.ty)(h:ew C g st a w [])(gf:ResultVar->Value):∀(rs:aw ResultVar)(had:aw (Bool×Nat))(ys:aw (Bool×aw AC)),tP st E had rs=some ys->
 (∀rv v,(EB a.tmps rv).run P w=.ok v w->gf rv=v)->
 (∀rv∈rs,(EB a.tmps rv).run P w=.ok (gf rv) w)/\∃fp,gK.rF (gr C.A g.hw w) (rs.map gf) ys fp/\fp.Nodup/\∀b∈fp,∃own,own∉had/\g.eX b=some (AK own)
 |[],had,ys,hr,hgf=>by cases hr;exact⟨by simp,[],rfl,by simp,by simp⟩
 |rv::rs,had,ys,hr,hgf=>by
  simp only[tP]at hr;cases h1:PX st E rv with
  |none=>rw[h1]at hr;cases hr
  |some x=>
   obtain⟨own,gg,cs⟩:=x;rw[h1]at hr;simp only[eZ]at hr;split at hr;cases hr;rename_i Nh;have Nh:own∉had:=by simpa using Nh
   cases h2:tP st E (own::had) rs with|none=>rw[h2]at hr;cases hr|some xs=>rw[h2]at hr;simp only[eZ,bp]at hr;subst hr;obtain⟨v,vs,sr,eU,fS,fG,IX,hl1⟩:=alU hE h h1;obtain⟨aiH,fp2,O3,Dh,Bq⟩:=adR hE h gf rs (own::had) xs h2 hgf;have hv:=hgf rv v eU;refine⟨λrv' hm=>?_,sr++fp2,⟨sr,fp2,rfl,⟨vs,by rw[hv];exact fS,fG⟩,O3⟩,?_,λb hb=>?_⟩;rcases bM.1 hm with rfl|hm;rw[hv];exact eU;exact aiH rv' hm;refine aN.2 ⟨IX,Dh,λb hb b' ix he=>?_⟩;subst he;obtain⟨aq8,GY,FV⟩:=Bq b ix;rw[hl1 b hb]at FV;have:=Mv (cc FV);subst this;exact GY (by simp);rcases az.1 hb with hb|hb;exact⟨own,Nh,hl1 b hb⟩;obtain⟨aq8,GY,FV⟩:=Bq b hb;exact⟨aq8,λhm=>GY (by simp[hm]),FV⟩
theorem FK.aeO {fl:FK}{f:rE}(h:fl.fits f=true):f=fl.flag:=by
 unfold FK.fits at h;split at h;rename_i t t';have:t=t':=by simpa using h
 subst this;rfl;rename_i k;have:k=false:=by simpa using h
 subst this;rfl;rename_i k;have:k=true:=h;subst this;rfl;rfl;rename_i j t j' t';simp only[ae,aZ]at h;obtain⟨rfl,rfl⟩:=h;rfl;cases h
theorem zL:∀{t:FT}{cs r:aw AC}{x:t.ct.D},NL t cs=some (x,r)->cs=jT t x++r:=by
 intro t;induction t with
 |int k=>intro cs r x h;cases cs with|nil=>simp[NL]at h|cons y ys=>cases y<;>simp[NL]at h;obtain⟨rfl,rfl,rfl⟩:=h;rfl
 |bool=>intro cs r x h;cases cs with|nil=>simp[NL]at h|cons y ys=>cases y<;>simp[NL]at h;obtain⟨rfl,rfl⟩:=h;rfl
 |str=>intro cs r x h;cases cs with|nil=>simp[NL]at h|cons y ys=>cases y<;>simp[NL]at h;obtain⟨rfl,rfl⟩:=h;rfl
 |sl fl e=>
  intro cs r x h;cases cs with
  |nil=>simp[NL]at h
  |cons y ys=>
   cases y with
   |sl fl' e' xs=>
    simp only[NL]at h;split at h
    ·rename_i he;subst he;cases hf:fl.fits fl' with
     |false=>rw[hf]at h;cases h
     |true=>
      rw[hf]at h;cases h;rw[FK.aeO hf];have hn:fl.isNil=false:=by cases fl<;>first|rfl|(unfold FK.fits at hf;cases hf)
      simp only[jT,hn,af];rfl
    cases h
   |kh=>simp only[NL]at h;cases hn:fl.isNil with|false=>rw[hn]at h;cases h|true=>rw[hn]at h;cases h;simp only[jT,hn,ah];rfl
   |_=>simp[NL]at h
 |pair a b iha ihb=>intro cs r x h;simp only[NL]at h;obtain⟨⟨x1,r1⟩,h1,h⟩:=aS.1 h;obtain⟨⟨x2,r2⟩,h2,h⟩:=aS.1 h;cases h;have h3:r1=jT b x2++r2:=ihb h2;rw[iha h1,h3];simp[jT]
theorem Mu:∀(rs:aw (Bool×FT))(ys:aw (Bool×aw AC))(y:ly rs),mn rs ys=some y->ys=apa rs y
 |[],[],y,_=>rfl
 |[],_::_,y,h=>by simp[mn]at h
 |[(g,t)],ys,y,h=>by
  cases ys with
  |nil=>simp[mn]at h
  |cons p ys=>
   cases ys with
   |cons _ _=>simp[mn]at h
   |nil=>
    obtain⟨g',cs⟩:=p;simp only[mn]at h;cases hg:g==g' with
    |false=>rw[hg]at h;cases h
    |true=>
     rw[hg]at h;have:g=g':=by simpa using hg
     subst this;simp only[ah]at h;split at h;rename_i x hx;cases h;have:=zL hx;rw[bI]at this;rw[this];rfl;cases h
 |(g,t)::p::r,ys,y,h=>by
  cases ys with
  |nil=>simp[mn]at h
  |cons q ys=>
   obtain⟨g',cs⟩:=q;simp only[mn]at h;cases hg:g==g' with
   |false=>rw[hg]at h;cases h
   |true=>
    rw[hg]at h;have:g=g':=by simpa using hg
    subst this;simp only[ah]at h;split at h;rename_i x hx;obtain⟨z,hz,h⟩:=aS.1 h;cases h;have h1:=zL hx;rw[bI]at h1;rw[h1,Mu (p::r) ys z hz];rfl;cases h
theorem MD {E:Env}(hE:jR P E.ty){fn:Func}{bU:AS}{a':Act}{w':World}(hg:ew C g bU a' w' []){had:aw (Bool×Nat)}(hra:tP bU E had fn.results.toList=some ys){y:ly rs}(il:mn rs ys=some y): ∃v fp,(Go.results fn a'.tmps).run P w'=.ok v w'/\gK (gr C.A g.hw w') v (BD rs y) fp/\fp.Nodup/\∀b∈fp,∃own,own∉had/\g.eX b=some (AK own):=by
 have hys:=Mu rs ys y il;let gf:ResultVar->Value:=λrv=>match (EB a'.tmps rv).run P w' with| .ok v _=>v|_=>undef
 obtain⟨aiH,fp,fG,GX,FV⟩:=adR hE hg gf fn.results.toList had ys hra (λrv v hv=>by simp only[gf,hv]);have an3:=ED (P:=P) (EB a'.tmps) gf w' fn.results (λx hx=>aiH x (by simpa using hx));have eU:(Go.results fn a'.tmps).run P w'=.ok (if h:(fn.results.map gf).size=1 then(fn.results.map gf)[0] else .tuple (fn.results.map gf)) w':=by
  have:Go.results fn a'.tmps=(do
   let vs<-fn.results.mapM (EB a'.tmps)
   pure (if h:vs.size=1 then vs[0] else .tuple vs)):=by
   unfold Go.results
   congr 1
  rw[this];simp only[Sem.run_bind,an3,Result.andThen_ok,Sem.run_pure]
 refine⟨_,fp,eU,?_,GX,FV⟩;have Xd:(fn.results.map gf).toList=fn.results.toList.map gf:=by simp
 unfold BD;rw[<-hys];cases ys with
 |nil=>
  have an8:fn.results.toList.map gf=[]:=by cases hm:fn.results.toList.map gf with|nil=>rfl|cons u us=>rw[hm]at fG;exact fG.elim
  have vB:¬(fn.results.map gf).size=1:=by rw[<-Array.length_toList,Xd,an8];simp
  rw[dif_neg vB];exact⟨_,by rw[<-Xd],fG⟩
 |cons y1 ys=>
  cases ys with
  |nil=>
   obtain⟨gg,cs⟩:=y1;cases hm:fn.results.toList.map gf with
   |nil=>rw[hm]at fG;exact fG.elim
   |cons u us=>
    rw[hm]at fG;obtain⟨f1,f2,rfl,abg,vO⟩:=fG;cases us with
    |cons _ _=>exact vO.elim
    |nil=>
     cases vO;have Nf:fn.results.map gf=#[u]:=by apply fK;rw[Xd,hm]
     have:(if h:(fn.results.map gf).size=1 then(fn.results.map gf)[0] else .tuple (fn.results.map gf))=u:=by rw[dif_pos (by rw[Nf];rfl)];simp only[Nf];rfl
     rw[this,bI];exact abg
  |cons y2 ys=>
   have vB:¬(fn.results.map gf).size=1:=by rw[<-Array.length_toList,Xd];cases hm:fn.results.toList.map gf with|nil=>simp|cons u us=>rw[hm]at fG;obtain⟨f1,f2,rfl,abg,vO⟩:=fG;cases us with|nil=>exact vO.elim|cons u2 us=>simp
   rw[dif_neg vB];exact⟨_,by rw[<-Xd],fG⟩
theorem PY {E:Env}(hE:jR P E.ty){fn:Func}{bU:AS}{a':Act}{w':World}(hg:ew C g bU a' w' [])(hra:tP bU E [] fn.results.toList=some ys){y:ly rs}(il:mn rs ys=some y): ∃v fp,(Go.results fn a'.tmps).run P w'=.ok v w'/\gK (gr C.A g.hw w') v (BD rs y) fp/\fp.Nodup/\∀b∈fp,∃own,g.eX b=some (AK own):=by obtain⟨v,fp,h1,h2,h3,h4⟩:=MD hE hg hra il;exact⟨v,fp,h1,h2,h3,λb hb=>(h4 b hb).imp λ_ h=>h.2⟩
theorem aeT {E:Env}{rs:aw (Bool×FT)}(hS:Sound P E Γ){fn:Func}(hf:P.funcs[f]?=some fn)(DJ:(fn.name== "runtime.NumGoroutine")=false)(G1:Bz E Γ an Λ (fn.body.getD .skip)):iJ P f {R:=ly rs,fn:=FF E Γ an Λ fn rs,av:=BD rs}:=by
 intro xs y hy;simp only at hy;unfold FF at hy;cases hb:fn.body with
 |none=>rw[hb]at hy;cases hy
 |some c=>
  rw[hb]at hy;simp only at hy;split at hy;refine⟨⟨fn,c,hf,hb,DJ⟩,λ_ _ A w vs hA gE=>?_,λh=>(by cases h),λh=>(by cases h),λh=>(by cases h)⟩;refine calls_of_wp hf hb (wp_mono (Ud hS c (by rw[hb]at G1;exact G1) _ _ _ _ (LV hA gE) hy) ?_);rintro e a' w' ⟨ex,bU,he,hs,hk⟩;have main:aa (tP bU E [] fn.results.toList) (mn rs)=some y->a'.defers=[]/\∃v,(Go.results fn a'.tmps).run P w'=.ok v w'/\∃v_1 hw fp,Ending.returned v=Ending.returned v_1/\gK (gr A hw w') v_1 (BD rs y) fp/\fp.Nodup/\(∀b∈fp,w.heap.size<=b/\b<w'.heap.size)/\Fr (λ_=>False) w w':=by intro il;obtain⟨g,hg⟩:=hs;refine⟨hg.defers,?_⟩;cases hra:tP bU E [] fn.results.toList with|none=>rw[hra]at il;cases il|some ys=>rw[hra]at il;obtain⟨v,fp,eU,fG,GX,FV⟩:=PY hS.ty hg hra il;refine⟨v,eU,v,g.hw,fp,rfl,fG,GX,λb hb=>?_,hg.frame⟩;obtain⟨own,hl⟩:=FV b hb;have:=hg.gL b _ hl;exact⟨this.2.resolve_right (λf=>f),this.1⟩
  cases e<;>cases ex<;>simp only[Jh]at he;exact main hk;cases hk;exact main hk;cases hy
theorem aih {E:Env}{QL:aw (Bool×FT)}(h2:ly QL=ly rs)(hS:Sound P E Γ){fn:Func}(hf:P.funcs[f]?=some fn)(DJ:(fn.name== "runtime.NumGoroutine")=false)(G1:Bz E Γ an Λ (fn.body.getD .skip)):iJ P f {R:=Bool×ly rs,fn:=evalAlt E Γ an Λ fn rs QL h2,av:=λy=>BD rs y.2,sel:=λy=>y.1,alt:=λy=>BD QL (cast h2.symm y.2)}:=by
 intro xs y hy;simp only at hy;unfold evalAlt at hy;cases hb:fn.body with
 |none=>rw[hb]at hy;cases hy
 |some c=>
  rw[hb]at hy;simp only at hy;split at hy;refine⟨⟨fn,c,hf,hb,DJ⟩,λ_ _ A w vs hA gE=>?_,λh=>(by cases h),λh=>(by cases h),λh=>(by cases h)⟩;refine calls_of_wp hf hb (wp_mono (Ud hS c (by rw[hb]at G1;exact G1) _ _ _ _ (LV hA gE) hy) ?_);rintro e a' w' ⟨ex,bU,he,hs,hk⟩
  have main:(aa (tP bU E [] fn.results.toList) λys=>match mn rs ys with
   |some y=>some (true,y)
   |none=>match mn QL ys with
    |some y=>some (false,cast h2 y)
    |none=>none)=some y->a'.defers=[]/\∃v,(Go.results fn a'.tmps).run P w'=.ok v w'/\∃v_1 hw fp,Ending.returned v=Ending.returned v_1/\
   gK (gr A hw w') v_1 (cond y.1 (BD rs y.2) (BD QL (cast h2.symm y.2))) fp/\fp.Nodup/\(∀b∈fp,w.heap.size<=b/\b<w'.heap.size)/\Fr (λ_=>False) w w':=by
   intro il
   obtain⟨g,hg⟩:=hs
   refine⟨hg.defers,?_⟩
   cases hra:tP bU E [] fn.results.toList with
   |none=>rw[hra]at il;cases il
   |some ys=>
    rw[hra]at il
    simp only[aa]at il
    have fin:∀(rs':aw (Bool×FT))(y':ly rs'),mn rs' ys=some y'->∃v,(Go.results fn a'.tmps).run P w'=.ok v w'/\∃v_1 hw fp,Ending.returned v=Ending.returned v_1/\
     gK (gr A hw w') v_1 (BD rs' y') fp/\fp.Nodup/\(∀b∈fp,w.heap.size<=b/\b<w'.heap.size)/\Fr (λ_=>False) w w':=by
     intro rs' y' VN
     obtain⟨v,fp,eU,fG,GX,FV⟩:=PY hS.ty hg hra VN
     refine⟨v,eU,v,g.hw,fp,rfl,fG,GX,λb hb=>?_,hg.frame⟩
     obtain⟨own,hl⟩:=FV b hb
     have:=hg.gL b _ hl
     exact⟨this.2.resolve_right (λf=>f),this.1⟩
    cases h1:mn rs ys with
    |some y1=>rw[h1]at il;cases il;exact fin rs y1 h1
    |none=>
     rw[h1]at il
     simp only at il
     cases h3:mn QL ys with
     |none=>rw[h3]at il;cases il
     |some y1=>
      rw[h3]at il
      cases il
      simp only[af,cast_cast,cast_eq]
      exact fin QL y1 h3
  cases e<;>cases ex<;>simp only[Jh]at he;exact main hk;cases hk;exact main hk;cases hy
theorem aey {c:RC}(hcA:c.A=A)(VK:c.w=w)(Ho:c.hw=hw)(Ng:∀t,t%3=1->c.iss t){all:jd}(QZ:∀t,c.hdr t=(all[t/3]?).getD undef):
 ∀(j:Nat){vs:jd}{cs:aw AC}{fp:fE},bO (gr A hw w) vs cs fp->cs.all (AC.Ak true)=true->(∀i v,vs[i]?=some v->all[j+i]?=some v)->bO c vs (I8 j cs) fp:=by
 intro j vs
 induction vs generalizing j with
 |nil=>intro cs fp h _ _;cases cs with
  |nil=>exact h
  |cons _ _=>exact h.elim
 |cons v vs ih=>
  intro cs fp h oY Ij
  cases cs with
  |nil=>exact h.elim
  |cons x cs=>
   obtain⟨f1,f2,rfl,h1,h2⟩:=h
   simp only[bX,ae]at oY
   have i1:=ih (j+1) h2 oY.2 (λi u hu=>by rw[show j+1+i=j+(i+1) by omega];exact Ij (i+1) u (by simpa using hu))
   have O5:=Ij 0 v rfl
   rw[eG]at O5
   have sB:x.jU=true->I8 j (x::cs)=x::I8 (j+1) cs->bO c (v::vs) (I8 j (x::cs)) (f1++f2):=by rintro hf e1;obtain⟨rfl,k⟩:=sA (c':=c) h1 hf;rw[e1];exact⟨[],f2,rfl,k,i1⟩
   cases x with
   |sl fl e xs=>
    cases fl with
    |own t=>
     have ik:fQ c.hw c.w (.sl e) [v] xs f1:=by rw[Ho,VK];exact h1.1
     refine⟨f1,f2,rfl,⟨ik,λq hq=>?_⟩,i1⟩
     cases hq
     refine⟨Ng _ (by omega),?_⟩
     rw[QZ,show(3*j+1)/3=j by omega,O5];rfl
    |arg k=>
     have hk:k=true:=by simpa[AC.Ak]using oY.1
     subst hk
     exact⟨f1,f2,rfl,⟨h1.1,by rw[VK,hcA];exact h1.2⟩,i1⟩
    |loc ep pv=>cases oY.1
    |nest _ _ _ _ _ _=>cases oY.1
    |part _ _ _ _=>cases oY.1
    |fR _ _ _=>cases oY.1
   |int k n=>exact sB rfl rfl
   |bool b=>exact sB rfl rfl
   |str s=>exact sB rfl rfl
   |fn f=>exact sB rfl rfl
   |kh=>cases oY.1
   |ptr s off=>cases oY.1
   |Dc fl e y i off=>cases oY.1
   |un=>cases oY.1
   |bot=>cases oY.1
theorem Vr {fp:fE}{b:Nat}(hA:∀k b' o,A k b' o->b'<w.heap.size/\b'≠b/\b'∉fp){fn:Func}{vs:jd}{arr:Array Value}{T:TypeId}{fr:Nat×Nat}(kL:w.heap[b]?=some (.cells arr T fr))(tN:qQ arr fr)(fG:bO (gr A hw w) arr.toList cs fp)(oY:cs.all (AC.Ak true)=true)(hn:fp.Nodup)(xH:b∉fp)(gF:∀b'∈fp,b'<w.heap.size)(IY:hw b=0)(h:qT A w vs xs): pc ⟨A,λb'=>b'=b\/b'∈fp,w,[.pointer (some ⟨b,0,none⟩)],λk b' o hb=>⟨(hA k b' o hb).1,λhm=>hm.elim (hA k b' o hb).2.1 (hA k b' o hb).2.2⟩⟩ (Cl fn cs xs) {tmps:=(.pointer (some ⟨b,0,none⟩)::vs).toArray++Array.replicate (fn.ntmps-(Value.pointer (some ⟨b,0,none⟩)::vs).toArray.size) undef,defers:=[]} w:=by
 obtain⟨hl,hi⟩:=H6 h;let v0:Value:=.pointer (some ⟨b,0,none⟩);let C:Ctx:=⟨A,λb'=>b'=b\/b'∈fp,w,[v0],λk b' o hb=>⟨(hA k b' o hb).1,λhm=>hm.elim (hA k b' o hb).2.1 (hA k b' o hb).2.2⟩⟩
 let g:Gh:=⟨hw,λ_=>b,λb'=>if b'=b\/b'∈fp then some (.box 0) else none,λt=>(arr.toList[t/3]?).getD undef⟩
 have GV:=na kL;have wq:jF (Cl fn cs xs) 0:=⟨I8 0 cs,rfl⟩
 have hle:(gr A (λ_=>0) w).Le (db C g (Cl fn cs xs) w):=⟨rfl,λt ht=>ht.elim,λ_ _ _ _ _ hv=>hv,bh _,λs hs=>hs.elim,λ_ b o u ho _=>absurd ho (Nat.not_lt_zero _)⟩
 have k1:=aey (c:=db C g (Cl fn cs xs) w) (A:=A) rfl rfl rfl (λt ht=> .inl (by omega)) (all:=arr.toList) (λt=>rfl) 0 fG oY (λi v hv=>by rw[cx];exact hv);refine⟨g,rfl,?_,?_,λi av hs=>?_,λs rJ hs=>?_,λk v av hk=>by simp at hk,λb' x hx=>?_,Fr.refl _ _,⟨[],⟨[],[],rfl,⟨rfl,wq,rfl⟩,rfl⟩,by simp,by simp⟩⟩;simp[Cl,start,hl];omega;simp[Cl,start];have xJ:((.one (.ptr 0 0)::xs)++List.replicate (fn.ntmps-(AV.one (.ptr 0 0)::xs).length) AV.bot)[i]?=some av:=hs;rcases cn i (xs.length+1)with alk|BQ;rw[bE (by simpa using alk)]at xJ;cases i with
 |zero=>
  simp at xJ;subst xJ;refine⟨[],?_,by simp,by simp⟩;have hvv:((v0::vs).toArray++Array.replicate (fn.ntmps-(v0::vs).toArray.size) undef).getD 0 undef=v0:=by simp[dR,Array.getElem?_append]
  show gK _ (((v0::vs).toArray++Array.replicate (fn.ntmps-(v0::vs).toArray.size) undef).getD 0 undef) _ _;rw[hvv];exact nq ⟨rfl,wq,rfl⟩
 |succ i=>
  obtain⟨v,hv,hr⟩:=hi i av (by simpa using xJ);refine⟨[],?_,by simp,by simp⟩;have hvv:((v0::vs).toArray++Array.replicate (fn.ntmps-(v0::vs).toArray.size) undef).getD (i+1) undef=v:=by
   have aqm:i<vs.length:=by omega
   have hv':vs[i]=v:=by rw[ak aqm]at hv;exact cc hv
   simp[dR,Array.getElem?_append,aqm,hv']
  show gK _ (((v0::vs).toArray++Array.replicate (fn.ntmps-(v0::vs).toArray.size) undef).getD (i+1) undef) _ _;rw[hvv];exact hr.mono hle (by simp)
 rw[bz (by simpa using BQ),eL]at xJ;split at xJ;cases xJ;exact⟨[],gK.bot _ _,by simp,by simp⟩;cases xJ;have xJ:(some (I8 0 cs)::List.replicate (xs.length+(fn.ntmps-(xs.length+1))) (none:ay (aw AC)))[s]?=some (some rJ):=hs;cases s with|zero=>simp at xJ;subst xJ;refine⟨arr,T,fr,fp,kL,tN,k1,hn,xH,λb' ix=>?_,?_,IY⟩;show(if b'=b\/b'∈fp then _ else _)=_;rw[aH (.inr ix)];show(if b=b\/b∈fp then _ else _)=_;rw[aH (.inl rfl)]|succ s=>simp only[fD,eL]at xJ;split at xJ<;>cases xJ
 have Cp:(if b'=b\/b'∈fp then some (kz.box 0) else none)=some x:=hx;split at Cp;rename_i hm;rcases hm with rfl|hm;exact⟨GV,.inr (.inl rfl)⟩;exact⟨gF b' hm,.inr (.inr hm)⟩;cases Cp
theorem rM {E:Env}{rs:aw (Bool×FT)}{t:FT}(hS:Sound P E Γ){fn:Func}(hf:P.funcs[f]?=some fn)(DJ:(fn.name== "runtime.NumGoroutine")=false)(G1:Bz E Γ an Λ (fn.body.getD .skip)):iJ P f {R:=ly rs×t.ct.D,fn:=adk E Γ an Λ fn rs t,av:=λy=>BD rs y.1,back:=λy=>jT t y.2,bx:=true}:=by
 intro xs y hy;simp only at hy;unfold adk at hy;split at hy;rename_i c cs rest hb;split at hy;rename_i hlen;refine⟨⟨fn,c,hf,hb,DJ⟩,λ_ h=>(by cases h),λh=>(by cases h),λ_ RI ara he A w b vs arr T fr hw fp hA kL tN fG hn xH gF IY gE=>?_,λh=>(by cases h)⟩;injection he with he1 he2;injection he1 with _ he3;subst he2;subst he3;refine calls_of_wp hf hb (wp_mono (Ud hS c (by rw[hb]at G1;exact G1) _ _ _ _ (Vr (fn:=fn) hA kL tN fG hlen.2 hn xH gF IY gE) hy) ?_);rintro e a' w' ⟨ex,bU,he,hs,hk⟩
 have main:(aa (aa (tP bU E [(true,0)] fn.results.toList) (mn rs)) λr=>match bU.io,bU.boxes with
  |[.ptr 0 0],some rJ::_=>(match NL t (rJ.map AC.strip)with|some (x,[])=>some (r,x)|_=>none)
  |_,_=>none)=some y->
  a'.defers=[]/\∃v,(Go.results fn a'.tmps).run P w'=.ok v w'/\∃v_1 hw' fv jv T' R2 kK,Ending.returned v=Ending.returned v_1/\gK (gr A hw' w') v_1 (BD rs y.1) fv/\w'.heap[b]?=some (.cells jv T' R2)/\qQ jv R2/\
    bO (gr A hw' w') jv.toList (jT t y.2) kK/\kK.Nodup/\b∉kK/\(∀b'∈kK,b'<w'.heap.size/\(b'∈fp\/w.heap.size<=b'))/\fv.Nodup/\(∀b'∈fv,b'<w'.heap.size/\(b'∈fp\/w.heap.size<=b')/\b'∉kK/\b'≠b)/\Fr (λb'=>b'=b\/b'∈fp) w w':=by
  intro il
  obtain⟨g,hg⟩:=hs
  refine⟨hg.defers,?_⟩
  cases hra:tP bU E [(true,0)] fn.results.toList with
  |none=>rw[hra]at il;cases il
  |some ys=>
   rw[hra]at il
   simp only[aa]at il
   cases hrr:mn rs ys with
   |none=>rw[hrr]at il;cases il
   |some r0=>
    rw[hrr]at il
    simp only at il
    split at il
    ·rename_i rJ tl Q0 kq
     split at il
     ·rename_i x hx
      cases il
      obtain⟨v,fv,eU,xI,GX,FV⟩:=MD hS.ty hg hra hrr
      obtain⟨fpi,hri,_,_⟩:=hg.io
      rw[Q0]at hri
      obtain⟨g1,g2,_,avE,_⟩:=hri
      have K5:b=g.β 0:=by have:=avE.1;simp only[Value.pointer.injEq,bp,Addr.mk.injEq]at this;exact this.1
      obtain⟨jv,T',R2,kK,Js,Xj,hr',DH,Ju,hl',aqi,_⟩:=hg.boxes 0 rJ (by rw[kq];rfl)
      rw[<-K5]at Js Ju aqi
      have nA:=zT hr'
      have K4:=zL hx
      rw[bI]at K4
      rw[K4]at nA
      have hM:∀b',(w.heap.size<=b'\/(b'=b\/b'∈fp))->b'≠b->b'∈fp\/w.heap.size<=b':=by rintro b' (h2|h2|h2) DK;exact .inr h2;exact absurd h2 DK;exact .inl h2
      refine⟨v,eU,v,g.hw,fv,jv,T',R2,kK,rfl,xI,Js,Xj,nA,DH,Ju,λb' ix=>?_,GX,λb' ix=>?_,hg.frame⟩
      ·have:=hg.gL b' _ (hl' b' ix)
       exact⟨this.1,hM b' this.2 (λe=>Ju (e▸ix))⟩
      ·obtain⟨own,Nh,Sa⟩:=FV b' ix
       have GY:g.eX b'≠some (.box 0):=by rw[Sa];intro e;have e2:AK own=AK (true,0):=cc e;exact Nh (by rw[Mv e2];simp)
       have DK:b'≠b:=λe=>GY (by rw[e];exact aqi)
       have:=hg.gL b' _ Sa
       exact⟨this.1,hM b' this.2 DK,λhm=>GY (hl' b' hm),DK⟩
     ·cases il
    ·cases il
 cases e<;>cases ex<;>simp only[Jh]at he;exact main hk;cases hk;exact main hk;cases hy;cases hy
theorem ap2 {E:Env}{t:FT}(hS:Sound P E Γ){fn:Func}(hf:P.funcs[f]?=some fn)(DJ:(fn.name== "runtime.NumGoroutine")=false)(G1:Bz E Γ an Λ (fn.body.getD .skip)):iJ P f {R:=t.ct.D,fn:=Ug E Γ an Λ fn t,av:=λ_=> .bot,back:=λy=>jT t y,pr:=true}:=by
 intro xs y hy;simp only at hy;unfold Ug at hy;cases hb:fn.body with
 |none=>rw[hb]at hy;cases hy
 |some c=>
  rw[hb]at hy;simp only at hy;split at hy;have key:amo P f {R:=t.ct.D,fn:=Ug E Γ an Λ fn t,av:=λ_=> .bot,back:=λy=>jT t y,pr:=true} y xs:=by
   intro A w vs hA gE;refine calls_of_wp hf hb (wp_mono (Ud hS c (by rw[hb]at G1;exact G1) _ _ _ _ (LV hA gE) hy) ?_);rintro e a' w' ⟨ex,bU,he,hs,hk⟩
   have main:(match fn.results.toList with
    |[.tmp i]=>match bU.get i with
     | .val false [.ptr s 0]=>match (nth bU.boxes s).getD none with
       |some cs=>if cs.all AC.KO=true then(match NL t (cs.map AC.strip)with|some (x,[])=>some x|_=>none) else none
       |none=>none
     |_=>none
    |_=>none)=some y->a'.defers=[]/\∃v,(Go.results fn a'.tmps).run P w'=.ok v w'/\∃b arr T fr hw,Ending.returned v=.returned (.pointer (some ⟨b,0,none⟩))/\w.heap.size<=b/\w'.heap[b]?=some (.cells arr T fr)/\qQ arr fr/\bO (gr A hw w') arr.toList (jT t y) []/\Fr (λ_=>False) w w':=by
    intro il
    obtain⟨g,hg⟩:=hs
    refine⟨hg.defers,?_⟩
    split at il
    ·rename_i i hri
     split at il
     ·rename_i s hp
      cases kq:(nth bU.boxes s).getD none with
      |none=>rw[kq]at il;cases il
      |some cs=>
       rw[kq]at il
       simp only at il
       split at il
       ·rename_i oY
        split at il
        ·rename_i x hx
         cases il
         have kq:bU.boxes[s]?=some (some cs):=by rw[ej]at kq;cases hq:bU.boxes[s]? with|none=>rw[hq]at kq;simp at kq|some q=>rw[hq]at kq;simp at kq;rw[kq]
         obtain⟨fp0,vZ,_,_⟩:=hg.slot i
         rw[hp]at vZ
         have vZ:=CV vZ
         obtain⟨arr,T,fr,fp,kL,tN,fG,hn,xH,hl,IV,IY⟩:=hg.boxes s cs kq
         obtain⟨E7,vs,fS,O3⟩:=arg_val (c:=db _ g bU w') (c':=db _ g bU w') rfl rfl (v:=.agg arr.toList.toArray) (x:=.val true cs) ⟨arr.toList,rfl,fG⟩ oY
         have hvs:arr.toList=vs:=by have fS:Value.agg arr.toList.toArray=.agg vs.toArray:=fS;simp only[Value.agg.injEq]at fS;simpa using congrArg Array.toList fS
         rw[<-hvs]at O3
         have nA:=zT O3
         have K4:=zL hx
         rw[bI]at K4
         rw[K4]at nA
         have eU:(Go.results fn a'.tmps).run P w'=.ok (a'.tmps.getD i undef) w':=by
          have he:fn.results=#[.tmp i]:=by apply fK;exact hri
          have an3:=ED (P:=P) (EB a'.tmps) (λ_=>a'.tmps.getD i undef) w' fn.results (λx hx=>by rw[he]at hx;simp at hx;subst hx;rfl)
          have hd:Go.results fn a'.tmps=(do
           let vs<-fn.results.mapM (EB a'.tmps)
           pure (if h:vs.size=1 then vs[0] else .tuple vs)):=by
           unfold Go.results
           congr 1
          rw[hd];simp only[Sem.run_bind,an3,Result.andThen_ok,Sem.run_pure];rw[he];simp
         refine⟨_,eU,g.β s,arr,T,fr,g.hw,congrArg Ending.returned vZ,?_,kL,tN,nA,hg.frame⟩
         exact(hg.gL _ _ IV).2.resolve_right (λf=>f)
        ·cases il
       ·cases il
     ·cases il
    ·cases il
   cases e<;>cases ex<;>simp only[Jh]at he;exact main hk;cases hk;exact main hk
  refine⟨⟨fn,c,hf,hb,DJ⟩,λ_ _ A w vs hA gE=>?_,λh=>(by cases h),λh=>(by cases h),λ_=>key⟩;refine(key A w vs hA gE).mono ?_;rintro e w' ⟨b,arr,T,fr,hw,rfl,_,_,_,_,jH⟩;exact⟨_,hw,[],rfl,gK.bot _ _,List.nodup_nil,(λb hb=>by cases hb),jH⟩;cases hy
end Go.Dn
