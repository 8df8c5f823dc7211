import Derived.Test.YtbebkmajekhclaaGreatDnAny
/- The soundness of the abstract semantics: code and functions. -/
namespace Go.Dn
open Go.RowKit
variable {P:Program} {C:Ctx} {st:AS} {a:Act} {w:World} {R:Type} {r:R}
variable {an:An} {Γ:Cn} {g:Gh} {Λ:mc} {f:Nat} {hw:Nat->Nat} {A:Rg} {rs:aw (Bool×FT)} {ys:aw (Bool×aw AC)} {cs:aw AC} {xs:aw AV}
def Kq:Exit->Ex->Prop
 | .normal,.normal=>True
 | .ret,.ret=>True
 | .exit i,.exit j=>i=j
 |_,_=>False
def ar0 (C:Ctx)(K:Ex->AS->aB R)(r:R)(e:Exit)(a:Act)(w:World):Prop:=
 ∃ex cj,Kq e ex/\qe C cj a w/\K ex cj=some r
theorem air {E:Env}(hS:Sound P E Γ){id:Nat}{ops:Array Oper}{d:Bool}(h:qe C st a w){K:AS->aB R}(hk:Xu E Γ an id ops.toList d st K=some r){Q:Exit->Act->World->Prop}(hq:∀cj a' w',qe C cj a' w'->K cj=some r->Q .normal a' w'):(Code.region id ops d).wp P Q a w:=by
 unfold Xu at hk;split at hk;rw[Qf]at hk;cases ho:GC E Γ an ops.toList d st some with|none=>rw[ho]at hk;cases hk|some st1=>rw[ho]at hk;exact afb hS h ho (λa' w' hs=>hq _ _ _ hs hk)
 rename_i s hm;split at hk;rename_i aqq;rw[Qf]at hk;cases ho:GC E Γ.calm an ops.toList d st some with|none=>rw[ho]at hk;cases hk|some st1=>rw[ho]at hk;simp only[fF]at hk;cases hb:getBool st1 s with|none=>rw[hb]at hk;cases hk|some b=>rw[hb]at hk;simp only[aa]at hk;have hn:=ahX (ank Γ) (λo OQ=>aF.1 aqq o OQ) ho;exact afb hS.calm h ho (λa' w' hs=>hq _ _ _ (hs.weaken hn hb) hk)
 cases hk
def xo (E:Env)(Γ:Cn)(an:An)(Λ:mc)(c:Code):Prop:=
 ∃n,∀(R:Type)(st:AS)(K:Ex->AS->aB R)(r:R),(Λ (fC c)).go st K=some r->DJ (an.mask (fC c)) (den E Γ an Λ c) n st K=some r
def SE (E:Env)(Γ:Cn)(an:An)(Λ:mc)(c:Code):Prop:=
 ∀(R:Type)(st:AS)(K:Ex->AS->aB R)(r:R),(Λ (Gt c)).go st K=some r->den E Γ an Λ c st (λe cj=>K e (cj.mask (an.mask (Gt c+1))))=some r
def Cm (E:Env)(Γ:Cn)(an:An)(Λ:mc)(c:Code):Prop:=(∀c'∈jr c,xo E Γ an Λ c')/\∀c'∈mE an.cut c,SE E Γ an Λ c'
theorem ajC (c:Code):mE [] c=[]:=by induction c with|seq a b iha ihb=>simp[mE,iha,ihb]|cond _ a b iha ihb=>simp[mE,iha,ihb]|block _ c ih=>simpa[mE]using ih|loop c ih=>simpa[mE]using ih|_=>rfl
theorem Cm.of {E:Env}{c:Code}(h:∀c'∈jr c,xo E Γ an Λ c')(hc:an.cut=[]):Cm E Γ an Λ c:=⟨h,by rw[hc,ajC];simp⟩
theorem Wp {E:Env}(hS:Sound P E Γ):∀(c:Code)(_:Cm E Γ an Λ c)(st:AS)(a:Act)(w:World)(K:Ex->AS->aB R),qe C st a w->den E Γ an Λ c st K=some r->c.wp P (ar0 C K r) a w:=by
 intro c;induction c with
 |skip=>intro H2 st a w K h hk;exact wp_skip ⟨.normal,st,cG,h,hk⟩
 |region id ops d=>intro H2 st a w K h hk;exact air hS h (by simpa only[den]using hk) (λcj a' w' hs he=>⟨.normal,cj,cG,hs,he⟩)
 |seq x y ihx ihy=>
  intro H2 st a w K h hk;have ihx:=ihx ⟨λc hc=>H2.1 c (by simp[jr,hc]),λc hc=>H2.2 c (by simp[mE,hc])⟩;have ihy:=ihy ⟨λc hc=>H2.1 c (by simp[jr,hc]),λc hc=>H2.2 c (by simp only[mE];cases an.cut.contains (fC y)<;>simp[hc])⟩;simp only[den]at hk;refine wp_seq (wp_mono (ihx st a w _ h hk) ?_);rintro e a' w' ⟨ex,cj,he,hs,GQ⟩;cases e<;>cases ex<;>simp only[Kq]at he;simp only at GQ;cases gD:an.cut.contains (fC y)with|false=>rw[gD]at GQ;exact ihy cj a' w' K hs GQ|true=>rw[gD]at GQ;have hc:=H2.2 y (by simp only[mE,gD];simp) _ _ _ _ GQ;refine wp_mono (ihy _ a' w' _ (hs.mask _) hc) ?_;rintro e2 a2 w2 ⟨ex2,st2,he2,hs2,hk2⟩;exact⟨ex2,_,he2,hs2.mask _,hk2⟩
  exact⟨.exit _,cj,he,hs,GQ⟩;exact⟨.ret,cj,cG,hs,GQ⟩
 |cond c x y ihx ihy=>
  intro H2 st a w K h hk;have ihx:=ihx ⟨λc hc=>H2.1 c (by simp[jr,hc]),λc hc=>H2.2 c (by simp[mE,hc])⟩;have ihy:=ihy ⟨λc hc=>H2.1 c (by simp[jr,hc]),λc hc=>H2.2 c (by simp[mE,hc])⟩;simp only[den]at hk;split at hk;rename_i t hc;have hv:a.eval c=.bool t:=by obtain⟨g,hg⟩:=h;have:=hg.rd c;rw[hc]at this;exact yi this
  cases t with|true=>exact wp_cond_true hv (ihx st a w K h hk)|false=>exact wp_cond_false hv (ihy st a w K h hk)
  cases hk
 |block id c ih=>intro H2 st a w K h hk;have ih:=ih ⟨λc hc=>H2.1 c (by simpa[jr]using hc),λc hc=>H2.2 c (by simpa[mE]using hc)⟩;simp only[den]at hk;refine wp_block (wp_mono (ih st a w _ h hk) ?_);rintro e a' w' ⟨ex,cj,he,hs,GQ⟩;cases e<;>cases ex<;>simp only[Kq]at he;exact⟨.normal,cj,cG,hs,GQ⟩;rename_i i j;subst he;simp only[Exit.inBlock];simp only at GQ;by_cases hi:i=id;subst hi;rw[aH rfl];simp only[fG,cw]at GQ;exact⟨.normal,cj,cG,hs,GQ⟩;rw[aG hi];rw[aG (by simpa using hi)]at GQ;exact⟨.exit i,cj,rfl,hs,GQ⟩;exact⟨.ret,cj,cG,hs,GQ⟩
 |loop c ih=>
  intro H2 st a w K h hk;have ih:=ih ⟨λc hc=>H2.1 c (by simp[jr,hc]),λc hc=>H2.2 c (by simpa[mE]using hc)⟩;obtain⟨n,hn⟩:=H2.1 c (by simp[jr]);simp only[den]at hk;intro b k cs
  have key:∀m st a w,qe C st a w->DJ (an.mask (fC c)) (den E Γ an Λ c) m st K=some r->
   ∃e a' w',ar0 C K r e a' w'/\Arrives P (lone (b.at a (.code c:: .inLoop c::k)) cs w) b k cs e a' w':=by
   intro m
   induction m with
   |zero=>intro st a w _ hk;cases hk
   |succ m ihm=>
    intro st a w h hk
    simp only[DJ]at hk
    obtain⟨e,abK,aeJ,⟨ex,cj,he,hs,GQ⟩,ON⟩:=ih st a w _ h hk b (.inLoop c::k) cs
    cases e<;>cases ex<;>simp only[Kq]at he
    ·obtain⟨apZ,apQ,ary,akO,WD⟩:=ihm _ abK aeJ (hs.mask _) GQ
     exact⟨apZ,apQ,ary,akO,.of_steps (Steps.trans ON (.one step_inLoop)) WD⟩
    ·exact⟨.exit _,abK,aeJ,⟨.exit _,_,he,hs.mask _,GQ⟩,.pass (x:=.inLoop c) rfl (λ_ _=> .inl (by simp)) ON⟩
    ·exact⟨.ret,abK,aeJ,⟨.ret,_,cG,hs.mask _,GQ⟩,.pass (x:=.inLoop c) rfl (λ_ _=> .inl (by simp)) ON⟩
  cases hp:an.peel.contains (fC c)with
  |false=>rw[hp]at hk;obtain⟨e,a',w',hq,ON⟩:=key n _ a w (h.mask _) (hn _ _ _ _ hk);exact⟨e,a',w',hq,.of_steps (.one step_loop) ON⟩
  |true=>rw[hp]at hk;simp only[ah]at hk;obtain⟨e,abK,aeJ,⟨ex,cj,he,hs,GQ⟩,ON⟩:=ih _ a w _ (h.mask _) hk b (.inLoop c::k) cs;cases e<;>cases ex<;>simp only[Kq]at he;obtain⟨apZ,apQ,ary,akO,WD⟩:=key n _ abK aeJ (hs.mask _) (hn _ _ _ _ GQ);exact⟨apZ,apQ,ary,akO,.of_steps (Steps.trans (.one step_loop) (Steps.trans ON (.one step_inLoop))) WD⟩;exact⟨.exit _,abK,aeJ,⟨.exit _,_,he,hs.mask _,GQ⟩,.of_steps (.one step_loop) (.pass (x:=.inLoop c) rfl (λ_ _=> .inl (by simp)) ON)⟩;exact⟨.ret,abK,aeJ,⟨.ret,_,cG,hs.mask _,GQ⟩,.of_steps (.one step_loop) (.pass (x:=.inLoop c) rfl (λ_ _=> .inl (by simp)) ON)⟩
 |exit id=>intro H2 st a w K h hk;exact wp_exit ⟨.exit id,st,rfl,h,hk⟩
 |ret=>intro H2 st a w K h hk;exact wp_ret ⟨.ret,st,cG,h,hk⟩
 |_=>intro H2 st a w K h hk;simp[den]at hk
theorem Jj:∀{vs:jJ}{xs:aw AV},rY A w vs xs->vs.length=xs.length/\∀(i:Nat)(x:AV),xs[i]?=some x->∃v,vs[i]?=some v/\il (gU A (λ_=>0) w) v x []
 |[],[],_=>⟨rfl,by simp⟩
 |v::vs,x::xs,h=>by obtain⟨hl,hi⟩:=Jj h.2;refine⟨by simp[hl],λi y hy=>?_⟩;cases i with|zero=>simp at hy;subst hy;exact⟨v,rfl,h.1⟩|succ i=>exact hi i y (by simpa using hy)
 |[],_::_,h=>h.elim
 |_::_,[],h=>h.elim
theorem Nf (hA:∀k b o,A k b o->b<w.heap.size){fn:Func}{vs:jJ}(h:rY A w vs xs): qe ⟨A,λ_=>False,w,[],λk b o hb=>⟨hA k b o hb,λf=>f⟩⟩ (start fn xs) {tmps:=vs.toArray++Array.replicate (fn.ntmps-vs.toArray.size) undef,defers:=[]} w:=by
 obtain⟨hl,hi⟩:=Jj h;let C:Ctx:=⟨A,λ_=>False,w,[],λk b o hb=>⟨hA k b o hb,λf=>f⟩⟩
 let g:Gh:=⟨λ_=>0,λ_=>0,λ_=>none,λ_=>undef⟩
 have hle:(gU A (λ_=>0) w).Le (dz C g (start fn xs) w):=⟨rfl,λt ht=>ht.elim,λ_ _ _ _ _ hv=>hv,bc _,λs hs=>hs.elim,λ_ b o u ho hu=>⟨ho,hu⟩⟩
 refine⟨g,rfl,?_,?_,λi av hs=>?_,λs cs hs=>?_,λk v av hk=>by simp at hk,λb x hx=>(by cases hx),Fr.refl _ _,⟨[],rfl,by simp,by simp⟩⟩;simp[start,hl];simp[start];have yL:(xs++List.replicate (fn.ntmps-xs.length) AV.bot)[i]?=some av:=hs;rcases cg i xs.length with hG|CF;rw[bp hG]at yL;obtain⟨v,hv,hr⟩:=hi i av yL;refine⟨[],?_,by simp,by simp⟩;have hvv:(vs.toArray++Array.replicate (fn.ntmps-vs.toArray.size) undef).getD i undef=v:=by
  have anA:i<vs.length:=by omega
  have S9:vs[i]=v:=by rw[al anA]at hv;exact bP hv
  simp[eD,Array.getElem?_append,anA,S9]
 show il _ ((vs.toArray++Array.replicate (fn.ntmps-vs.toArray.size) undef).getD i undef) _ _;rw[hvv];exact hr.mono hle (by simp);rw[bw CF,eP]at yL;split at yL;cases yL;exact⟨[],il.bot _ _,by simp,by simp⟩;cases yL;have yL:(List.replicate (xs.length+(fn.ntmps-xs.length)) (none:aB (aw AC)))[s]?=some (some cs):=hs;rw[eP]at yL;split at yL<;>cases yL
theorem aeC {v:Value}{x:AC}{fp:fM}(h:iV (dz C g st w) v x fp):iV (gU C.A g.hw w) v x.strip fp:=by
 cases x with
 |int k n=>exact h
 |bool b=>exact h
 |str s=>exact h
 |kY=>exact h
 |fn f=>exact h
 |un=>exact h
 |bot=>exact h
 |ptr s off=>exact h.2.2
 |D3 fl e y i off=>cases fl with|own t=>exact h.elim|nest _ _ _ _ _ _=>exact h.elim|part _ _ _ _=>exact h.elim|gB _ _ _=>exact h.elim|arg _=>exact h.1|loc ep pv=>exact h.1
 |sl fl e xs=>
  cases fl with
  |nest _ _ _ _ _ _=>exact h.1
  |part _ _ _ _=>exact h.1
  |gB _ _ _=>obtain⟨_,⟨k,hk,h3⟩,_⟩:=h;exact⟨λq hq=>(by cases hq),⟨k,hk,h3⟩,by simp⟩
  |own t=>exact⟨h.1,by simp⟩
  |arg _=>exact h
  |loc ep pv=>exact h.1
theorem AJ:∀{vs:jJ}{xs:aw AC}{fp:fM},bV (dz C g st w) vs xs fp->bV (gU C.A g.hw w) vs (xs.map AC.strip) fp
 |[],[],_,h=>h
 |_::_,_::_,_,h=>by obtain⟨f1,f2,rfl,h1,h2⟩:=h;exact⟨f1,f2,rfl,aeC h1,AJ h2⟩
 |[],_::_,_,h=>h.elim
 |_::_,[],_,h=>h.elim
def Fx (tmps:Array Value):ResultVar->Sem Value
 | .tmp t=>pure (tmps.getD t undef)
 | .cell a t=>do loadVar t (<-asAddr (tmps.getD a undef))
def BG:Bool×Nat->lz
 |(false,t)=> .slot t
 |(true,s)=> .box s
theorem NX {x y:Bool×Nat}(h:BG x=BG y):x=y:=by rcases x with⟨_|_,a⟩<;>rcases y with⟨_|_,b⟩<;>simp[BG]at h<;>rw[h]
theorem aoa {E:Env}(hE:kG P E.ty)(h:fb C g st a w []){rv:ResultVar}{own:Bool×Nat}{gg:Bool}(hr:RP st E rv=some (own,gg,cs)): ∃v vs fp,(Fx a.tmps rv).run P w=.ok v w/\Cut gg v vs/\bV (gU C.A g.hw w) vs cs fp/\fp.Nodup/\∀b∈fp,g.fE b=some (BG own):=by
 cases rv with
 |tmp t=>simp only[RP]at hr;split at hr;rename_i g' sU qb;cases hr;obtain⟨fp,fZ,hn,hl⟩:=h.slot t;rw[qb]at fZ;obtain⟨vs,gD,fZ⟩:=fZ;exact⟨_,vs,fp,rfl,gD,AJ fZ,hn,hl⟩;cases hr
 |cell t T=>
  simp only[RP]at hr;split at hr;rename_i sh s off hT hp;cases lj:(nth st.boxes s).getD none with
  |none=>rw[lj]at hr;cases hr
  |some sU=>
   rw[lj]at hr;simp only[fF]at hr;split at hr;rename_i iO;cases hr;have lj:st.boxes[s]?=some (some sU):=by rw[eU]at lj;cases hq:st.boxes[s]? with|none=>rw[hq]at lj;simp at lj|some q=>rw[hq]at lj;simp at lj;rw[lj]
   obtain⟨fp0,xm,_,_⟩:=h.slot t;rw[hp]at xm;have xm:=DM xm;obtain⟨arr,T',fr,fp,lQ,uR,fZ,hn,yJ,hl,J2,J5⟩:=h.boxes s sU lj;have hlen:=fZ.length;obtain⟨v,fD,gD⟩:=Az (hE T sh hT) (g.β s) off ((arr.toList.drop off).take sh.ct.size) (by simp at hlen⊢;omega) (TM lQ off sh.ct.size);obtain⟨f1,f2,f3,rfl,r1,r2,r3⟩:=fZ.mid off sh.ct.size;have J4:=(aS.1 (aS.1 hn).1).2.1;refine⟨v,_,f2,?_,gD,AJ r2,J4,λb hb=>hl b (by simp[hb])⟩;simp only[Fx,xm,asAddr,Sem.run_bind,Sem.run_pure,Result.andThen_ok];exact fD;cases hr
  cases hr
theorem afL {E:Env}(hE:kG P E.ty)(h:fb C g st a w [])(gf:ResultVar->Value):∀(rs:aw ResultVar)(had:aw (Bool×Nat))(ys:aw (Bool×aw AC)),uT st E had rs=some ys->
 (∀rv v,(Fx a.tmps rv).run P w=.ok v w->gf rv=v)->
 (∀rv∈rs,(Fx a.tmps rv).run P w=.ok (gf rv) w)/\∃fp,il.sQ (gU C.A g.hw w) (rs.map gf) ys fp/\fp.Nodup/\∀b∈fp,∃own,own∉had/\g.fE b=some (BG own)
 |[],had,ys,hr,hgf=>by cases hr;exact⟨by simp,[],rfl,by simp,by simp⟩
 |rv::rs,had,ys,hr,hgf=>by
  simp only[uT]at hr;cases h1:RP st E rv with
  |none=>rw[h1]at hr;cases hr
  |some x=>
   obtain⟨own,gg,cs⟩:=x;rw[h1]at hr;simp only[fF]at hr;split at hr;cases hr;rename_i OP;have OP:own∉had:=by simpa using OP
   cases h2:uT st E (own::had) rs with|none=>rw[h2]at hr;cases hr|some xs=>rw[h2]at hr;simp only[fF,bu]at hr;subst hr;obtain⟨v,vs,tK,fD,gD,fZ,J4,hl1⟩:=aoa hE h h1;obtain⟨akR,fp2,QR,EA,Cg⟩:=afL hE h gf rs (own::had) xs h2 hgf;have hv:=hgf rv v fD;refine⟨λrv' hm=>?_,tK++fp2,⟨tK,fp2,rfl,⟨vs,by rw[hv];exact gD,fZ⟩,QR⟩,?_,λb hb=>?_⟩;rcases bU.1 hm with rfl|hm;rw[hv];exact fD;exact akR rv' hm;refine aS.2 ⟨J4,EA,λb hb b' iy he=>?_⟩;subst he;obtain⟨ata,H0,GR⟩:=Cg b iy;rw[hl1 b hb]at GR;have:=NX (bP GR);subst this;exact H0 (by simp);rcases aA.1 hb with hb|hb;exact⟨own,OP,hl1 b hb⟩;obtain⟨ata,H0,GR⟩:=Cg b hb;exact⟨ata,λhm=>H0 (by simp[hm]),GR⟩
theorem FK.agO {fl:FK}{f:sO}(h:fl.fits f=true):f=fl.flag:=by
 unfold FK.fits at h;split at h;rename_i t t';have:t=t':=by simpa using h
 subst this;rfl;rename_i k;have:k=false:=by simpa using h
 subst this;rfl;rename_i k;have:k=true:=h;subst this;rfl;rfl;rename_i j t j' t';simp only[ae,bn]at h;obtain⟨rfl,rfl⟩:=h;rfl;cases h
theorem AB:∀{t:FT}{cs r:aw AC}{x:t.ct.D},Pg t cs=some (x,r)->cs=kI t x++r:=by
 intro t;induction t with
 |int k=>intro cs r x h;cases cs with|nil=>simp[Pg]at h|cons y ys=>cases y<;>simp[Pg]at h;obtain⟨rfl,rfl,rfl⟩:=h;rfl
 |bool=>intro cs r x h;cases cs with|nil=>simp[Pg]at h|cons y ys=>cases y<;>simp[Pg]at h;obtain⟨rfl,rfl⟩:=h;rfl
 |str=>intro cs r x h;cases cs with|nil=>simp[Pg]at h|cons y ys=>cases y<;>simp[Pg]at h;obtain⟨rfl,rfl⟩:=h;rfl
 |sl fl e=>
  intro cs r x h;cases cs with
  |nil=>simp[Pg]at h
  |cons y ys=>
   cases y with
   |sl fl' e' xs=>
    simp only[Pg]at h;split at h
    ·rename_i he;subst he;cases hf:fl.fits fl' with
     |false=>rw[hf]at h;cases h
     |true=>
      rw[hf]at h;cases h;rw[FK.agO hf];have hn:fl.isNil=false:=by cases fl<;>first|rfl|(unfold FK.fits at hf;cases hf)
      simp only[kI,hn,af];rfl
    cases h
   |kY=>simp only[Pg]at h;cases hn:fl.isNil with|false=>rw[hn]at h;cases h|true=>rw[hn]at h;cases h;simp only[kI,hn,ah];rfl
   |_=>simp[Pg]at h
 |pair a b iha ihb=>intro cs r x h;simp only[Pg]at h;obtain⟨⟨x1,r1⟩,h1,h⟩:=ba.1 h;obtain⟨⟨x2,r2⟩,h2,h⟩:=ba.1 h;cases h;have h3:r1=kI b x2++r2:=ihb h2;rw[iha h1,h3];simp[kI]
theorem NW:∀(rs:aw (Bool×FT))(ys:aw (Bool×aw AC))(y:mx rs),nj rs ys=some y->ys=ark rs y
 |[],[],y,_=>rfl
 |[],_::_,y,h=>by simp[nj]at h
 |[(g,t)],ys,y,h=>by
  cases ys with
  |nil=>simp[nj]at h
  |cons p ys=>
   cases ys with
   |cons _ _=>simp[nj]at h
   |nil=>
    obtain⟨g',cs⟩:=p;simp only[nj]at h;cases hg:g==g' with
    |false=>rw[hg]at h;cases h
    |true=>
     rw[hg]at h;have:g=g':=by simpa using hg
     subst this;simp only[ah]at h;split at h;rename_i x hx;cases h;have:=AB hx;rw[bD]at this;rw[this];rfl;cases h
 |(g,t)::p::r,ys,y,h=>by
  cases ys with
  |nil=>simp[nj]at h
  |cons q ys=>
   obtain⟨g',cs⟩:=q;simp only[nj]at h;cases hg:g==g' with
   |false=>rw[hg]at h;cases h
   |true=>
    rw[hg]at h;have:g=g':=by simpa using hg
    subst this;simp only[ah]at h;split at h;rename_i x hx;obtain⟨z,hz,h⟩:=ba.1 h;cases h;have h1:=AB hx;rw[bD]at h1;rw[h1,NW (p::r) ys z hz];rfl;cases h
theorem N8 {E:Env}(hE:kG P E.ty){fn:Func}{cj:AS}{a':Act}{w':World}(hg:fb C g cj a' w' []){had:aw (Bool×Nat)}(hra:uT cj E had fn.results.toList=some ys){y:mx rs}(iT:nj rs ys=some y): ∃v fp,(Go.results fn a'.tmps).run P w'=.ok v w'/\il (gU C.A g.hw w') v (Cp rs y) fp/\fp.Nodup/\∀b∈fp,∃own,own∉had/\g.fE b=some (BG own):=by
 have hys:=NW rs ys y iT;let gf:ResultVar->Value:=λrv=>match (Fx a'.tmps rv).run P w' with| .ok v _=>v|_=>undef
 obtain⟨akR,fp,fZ,HZ,GR⟩:=afL hE hg gf fn.results.toList had ys hra (λrv v hv=>by simp only[gf,hv]);have ac2:=FA (P:=P) (Fx a'.tmps) gf w' fn.results (λx hx=>akR x (by simpa using hx));have fD:(Go.results fn a'.tmps).run P w'=.ok (if h:(fn.results.map gf).size=1 then(fn.results.map gf)[0] else .tuple (fn.results.map gf)) w':=by
  have:Go.results fn a'.tmps=(do
   let vs<-fn.results.mapM (Fx a'.tmps)
   pure (if h:vs.size=1 then vs[0] else .tuple vs)):=by
   unfold Go.results
   congr 1
  rw[this];simp only[Sem.run_bind,ac2,Result.andThen_ok,Sem.run_pure]
 refine⟨_,fp,fD,?_,HZ,GR⟩;have Zl:(fn.results.map gf).toList=fn.results.toList.map gf:=by simp
 unfold Cp;rw[<-hys];cases ys with
 |nil=>
  have aqh:fn.results.toList.map gf=[]:=by cases hm:fn.results.toList.map gf with|nil=>rfl|cons u us=>rw[hm]at fZ;exact fZ.elim
  have wI:¬(fn.results.map gf).size=1:=by rw[<-Array.length_toList,Zl,aqh];simp
  rw[dif_neg wI];exact⟨_,by rw[<-Zl],fZ⟩
 |cons y1 ys=>
  cases ys with
  |nil=>
   obtain⟨gg,cs⟩:=y1;cases hm:fn.results.toList.map gf with
   |nil=>rw[hm]at fZ;exact fZ.elim
   |cons u us=>
    rw[hm]at fZ;obtain⟨f1,f2,rfl,ac4,wX⟩:=fZ;cases us with
    |cons _ _=>exact wX.elim
    |nil=>
     cases wX;have ON:fn.results.map gf=#[u]:=by apply gj;rw[Zl,hm]
     have:(if h:(fn.results.map gf).size=1 then(fn.results.map gf)[0] else .tuple (fn.results.map gf))=u:=by rw[dif_pos (by rw[ON];rfl)];simp only[ON];rfl
     rw[this,bD];exact ac4
  |cons y2 ys=>
   have wI:¬(fn.results.map gf).size=1:=by rw[<-Array.length_toList,Zl];cases hm:fn.results.toList.map gf with|nil=>simp|cons u us=>rw[hm]at fZ;obtain⟨f1,f2,rfl,ac4,wX⟩:=fZ;cases us with|nil=>exact wX.elim|cons u2 us=>simp
   rw[dif_neg wI];exact⟨_,by rw[<-Zl],fZ⟩
theorem RR {E:Env}(hE:kG P E.ty){fn:Func}{cj:AS}{a':Act}{w':World}(hg:fb C g cj a' w' [])(hra:uT cj E [] fn.results.toList=some ys){y:mx rs}(iT:nj rs ys=some y): ∃v fp,(Go.results fn a'.tmps).run P w'=.ok v w'/\il (gU C.A g.hw w') v (Cp rs y) fp/\fp.Nodup/\∀b∈fp,∃own,g.fE b=some (BG own):=by obtain⟨v,fp,h1,h2,h3,h4⟩:=N8 hE hg hra iT;exact⟨v,fp,h1,h2,h3,λb hb=>(h4 b hb).imp λ_ h=>h.2⟩
theorem agR {E:Env}{rs:aw (Bool×FT)}(hS:Sound P E Γ){fn:Func}(hf:P.funcs[f]?=some fn)(EB:(fn.name== "runtime.NumGoroutine")=false)(H2:Cm E Γ an Λ (fn.body.getD .skip)):jl P f {R:=mx rs,fn:=GD E Γ an Λ fn rs,av:=Cp rs}:=by
 intro xs y hy;simp only at hy;unfold GD at hy;cases hb:fn.body with
 |none=>rw[hb]at hy;cases hy
 |some c=>
  rw[hb]at hy;simp only at hy;split at hy;refine⟨⟨fn,c,hf,hb,EB⟩,λ_ _ A w vs hA ib=>?_,λh=>(by cases h),λh=>(by cases h),λh=>(by cases h)⟩;refine calls_of_wp hf hb (wp_mono (Wp hS c (by rw[hb]at H2;exact H2) _ _ _ _ (Nf hA ib) hy) ?_);rintro e a' w' ⟨ex,cj,he,hs,hk⟩;have main:aa (uT cj E [] fn.results.toList) (nj rs)=some y->a'.defers=[]/\∃v,(Go.results fn a'.tmps).run P w'=.ok v w'/\∃v_1 hw fp,Ending.returned v=Ending.returned v_1/\il (gU A hw w') v_1 (Cp rs y) fp/\fp.Nodup/\(∀b∈fp,w.heap.size<=b/\b<w'.heap.size)/\Fr (λ_=>False) w w':=by intro iT;obtain⟨g,hg⟩:=hs;refine⟨hg.defers,?_⟩;cases hra:uT cj E [] fn.results.toList with|none=>rw[hra]at iT;cases iT|some ys=>rw[hra]at iT;obtain⟨v,fp,fD,fZ,HZ,GR⟩:=RR hS.ty hg hra iT;refine⟨v,fD,v,g.hw,fp,rfl,fZ,HZ,λb hb=>?_,hg.frame⟩;obtain⟨own,hl⟩:=GR b hb;have:=hg.im b _ hl;exact⟨this.2.resolve_right (λf=>f),this.1⟩
  cases e<;>cases ex<;>simp only[Kq]at he;exact main hk;cases hk;exact main hk;cases hy
theorem akr {E:Env}{SL:aw (Bool×FT)}(h2:mx SL=mx rs)(hS:Sound P E Γ){fn:Func}(hf:P.funcs[f]?=some fn)(EB:(fn.name== "runtime.NumGoroutine")=false)(H2:Cm E Γ an Λ (fn.body.getD .skip)):jl P f {R:=Bool×mx rs,fn:=evalAlt E Γ an Λ fn rs SL h2,av:=λy=>Cp rs y.2,sel:=λy=>y.1,alt:=λy=>Cp SL (cast h2.symm y.2)}:=by
 intro xs y hy;simp only at hy;unfold evalAlt at hy;cases hb:fn.body with
 |none=>rw[hb]at hy;cases hy
 |some c=>
  rw[hb]at hy;simp only at hy;split at hy;refine⟨⟨fn,c,hf,hb,EB⟩,λ_ _ A w vs hA ib=>?_,λh=>(by cases h),λh=>(by cases h),λh=>(by cases h)⟩;refine calls_of_wp hf hb (wp_mono (Wp hS c (by rw[hb]at H2;exact H2) _ _ _ _ (Nf hA ib) hy) ?_);rintro e a' w' ⟨ex,cj,he,hs,hk⟩
  have main:(aa (uT cj E [] fn.results.toList) λys=>match nj rs ys with
   |some y=>some (true,y)
   |none=>match nj SL ys with
    |some y=>some (false,cast h2 y)
    |none=>none)=some y->a'.defers=[]/\∃v,(Go.results fn a'.tmps).run P w'=.ok v w'/\∃v_1 hw fp,Ending.returned v=Ending.returned v_1/\
   il (gU A hw w') v_1 (cond y.1 (Cp rs y.2) (Cp SL (cast h2.symm y.2))) fp/\fp.Nodup/\(∀b∈fp,w.heap.size<=b/\b<w'.heap.size)/\Fr (λ_=>False) w w':=by
   intro iT
   obtain⟨g,hg⟩:=hs
   refine⟨hg.defers,?_⟩
   cases hra:uT cj E [] fn.results.toList with
   |none=>rw[hra]at iT;cases iT
   |some ys=>
    rw[hra]at iT
    simp only[aa]at iT
    have fin:∀(rs':aw (Bool×FT))(y':mx rs'),nj rs' ys=some y'->∃v,(Go.results fn a'.tmps).run P w'=.ok v w'/\∃v_1 hw fp,Ending.returned v=Ending.returned v_1/\
     il (gU A hw w') v_1 (Cp rs' y') fp/\fp.Nodup/\(∀b∈fp,w.heap.size<=b/\b<w'.heap.size)/\Fr (λ_=>False) w w':=by
     intro rs' y' XW
     obtain⟨v,fp,fD,fZ,HZ,GR⟩:=RR hS.ty hg hra XW
     refine⟨v,fD,v,g.hw,fp,rfl,fZ,HZ,λb hb=>?_,hg.frame⟩
     obtain⟨own,hl⟩:=GR b hb
     have:=hg.im b _ hl
     exact⟨this.2.resolve_right (λf=>f),this.1⟩
    cases h1:nj rs ys with
    |some y1=>rw[h1]at iT;cases iT;exact fin rs y1 h1
    |none=>
     rw[h1]at iT
     simp only at iT
     cases h3:nj SL ys with
     |none=>rw[h3]at iT;cases iT
     |some y1=>
      rw[h3]at iT
      cases iT
      simp only[af,cast_cast,cast_eq]
      exact fin SL y1 h3
  cases e<;>cases ex<;>simp only[Kq]at he;exact main hk;cases hk;exact main hk;cases hy
theorem agt {c:RC}(hcA:c.A=A)(XV:c.w=w)(It:c.hw=hw)(OO:∀t,t%3=1->c.iss t){all:jJ}(S2:∀t,c.hdr t=(all[t/3]?).getD undef):
 ∀(j:Nat){vs:jJ}{cs:aw AC}{fp:fM},bV (gU A hw w) vs cs fp->cs.all (AC.Bi true)=true->(∀i v,vs[i]?=some v->all[j+i]?=some v)->bV c vs (Kd j cs) fp:=by
 intro j vs
 induction vs generalizing j with
 |nil=>intro cs fp h _ _;cases cs with
  |nil=>exact h
  |cons _ _=>exact h.elim
 |cons v vs ih=>
  intro cs fp h oz AX
  cases cs with
  |nil=>exact h.elim
  |cons x cs=>
   obtain⟨f1,f2,rfl,h1,h2⟩:=h
   simp only[cz,ae]at oz
   have i1:=ih (j+1) h2 oz.2 (λi u hu=>by rw[show j+1+i=j+(i+1) by omega];exact AX (i+1) u (by simpa using hu))
   have QT:=AX 0 v rfl
   rw[dX]at QT
   have sN:x.kL=true->Kd j (x::cs)=x::Kd (j+1) cs->bV c (v::vs) (Kd j (x::cs)) (f1++f2):=by rintro hf e1;obtain⟨rfl,k⟩:=tS (c':=c) h1 hf;rw[e1];exact⟨[],f2,rfl,k,i1⟩
   cases x with
   |sl fl e xs=>
    cases fl with
    |own t=>
     have ja:gA c.hw c.w (.sl e) [v] xs f1:=by rw[It,XV];exact h1.1
     refine⟨f1,f2,rfl,⟨ja,λq hq=>?_⟩,i1⟩
     cases hq
     refine⟨OO _ (by omega),?_⟩
     rw[S2,show(3*j+1)/3=j by omega,QT];rfl
    |arg k=>
     have hk:k=true:=by simpa[AC.Bi]using oz.1
     subst hk
     exact⟨f1,f2,rfl,⟨h1.1,by rw[XV,hcA];exact h1.2⟩,i1⟩
    |loc ep pv=>cases oz.1
    |nest _ _ _ _ _ _=>cases oz.1
    |part _ _ _ _=>cases oz.1
    |gB _ _ _=>cases oz.1
   |int k n=>exact sN rfl rfl
   |bool b=>exact sN rfl rfl
   |str s=>exact sN rfl rfl
   |fn f=>exact sN rfl rfl
   |kY=>cases oz.1
   |ptr s off=>cases oz.1
   |D3 fl e y i off=>cases oz.1
   |un=>cases oz.1
   |bot=>cases oz.1
theorem XF {fp:fM}{b:Nat}(hA:∀k b' o,A k b' o->b'<w.heap.size/\b'≠b/\b'∉fp){fn:Func}{vs:jJ}{arr:Array Value}{T:TypeId}{fr:Nat×Nat}(lQ:w.heap[b]?=some (.cells arr T fr))(uR:rU arr fr)(fZ:bV (gU A hw w) arr.toList cs fp)(oz:cs.all (AC.Bi true)=true)(hn:fp.Nodup)(yJ:b∉fp)(hG:∀b'∈fp,b'<w.heap.size)(J5:hw b=0)(h:rY A w vs xs): qe ⟨A,λb'=>b'=b\/b'∈fp,w,[.pointer (some ⟨b,0,none⟩)],λk b' o hb=>⟨(hA k b' o hb).1,λhm=>hm.elim (hA k b' o hb).2.1 (hA k b' o hb).2.2⟩⟩ (C7 fn cs xs) {tmps:=(.pointer (some ⟨b,0,none⟩)::vs).toArray++Array.replicate (fn.ntmps-(Value.pointer (some ⟨b,0,none⟩)::vs).toArray.size) undef,defers:=[]} w:=by
 obtain⟨hl,hi⟩:=Jj h;let v0:Value:=.pointer (some ⟨b,0,none⟩);let C:Ctx:=⟨A,λb'=>b'=b\/b'∈fp,w,[v0],λk b' o hb=>⟨(hA k b' o hb).1,λhm=>hm.elim (hA k b' o hb).2.1 (hA k b' o hb).2.2⟩⟩
 let g:Gh:=⟨hw,λ_=>b,λb'=>if b'=b\/b'∈fp then some (.box 0) else none,λt=>(arr.toList[t/3]?).getD undef⟩
 have HX:=nU lQ;have xy:ku (C7 fn cs xs) 0:=⟨Kd 0 cs,rfl⟩
 have hle:(gU A (λ_=>0) w).Le (dz C g (C7 fn cs xs) w):=⟨rfl,λt ht=>ht.elim,λ_ _ _ _ _ hv=>hv,bc _,λs hs=>hs.elim,λ_ b o u ho _=>absurd ho (Nat.not_lt_zero _)⟩
 have k1:=agt (c:=dz C g (C7 fn cs xs) w) (A:=A) rfl rfl rfl (λt ht=> .inl (by omega)) (all:=arr.toList) (λt=>rfl) 0 fZ oz (λi v hv=>by rw[cE];exact hv);refine⟨g,rfl,?_,?_,λi av hs=>?_,λs sU hs=>?_,λk v av hk=>by simp at hk,λb' x hx=>?_,Fr.refl _ _,⟨[],⟨[],[],rfl,⟨rfl,xy,rfl⟩,rfl⟩,by simp,by simp⟩⟩;simp[C7,start,hl];omega;simp[C7,start];have yL:((.one (.ptr 0 0)::xs)++List.replicate (fn.ntmps-(AV.one (.ptr 0 0)::xs).length) AV.bot)[i]?=some av:=hs;rcases cg i (xs.length+1)with anA|CF;rw[bp (by simpa using anA)]at yL;cases i with
 |zero=>
  simp at yL;subst yL;refine⟨[],?_,by simp,by simp⟩;have hvv:((v0::vs).toArray++Array.replicate (fn.ntmps-(v0::vs).toArray.size) undef).getD 0 undef=v0:=by simp[eD,Array.getElem?_append]
  show il _ (((v0::vs).toArray++Array.replicate (fn.ntmps-(v0::vs).toArray.size) undef).getD 0 undef) _ _;rw[hvv];exact oo ⟨rfl,xy,rfl⟩
 |succ i=>
  obtain⟨v,hv,hr⟩:=hi i av (by simpa using yL);refine⟨[],?_,by simp,by simp⟩;have hvv:((v0::vs).toArray++Array.replicate (fn.ntmps-(v0::vs).toArray.size) undef).getD (i+1) undef=v:=by
   have asu:i<vs.length:=by omega
   have S9:vs[i]=v:=by rw[al asu]at hv;exact bP hv
   simp[eD,Array.getElem?_append,asu,S9]
  show il _ (((v0::vs).toArray++Array.replicate (fn.ntmps-(v0::vs).toArray.size) undef).getD (i+1) undef) _ _;rw[hvv];exact hr.mono hle (by simp)
 rw[bw (by simpa using CF),eP]at yL;split at yL;cases yL;exact⟨[],il.bot _ _,by simp,by simp⟩;cases yL;have yL:(some (Kd 0 cs)::List.replicate (xs.length+(fn.ntmps-(xs.length+1))) (none:aB (aw AC)))[s]?=some (some sU):=hs;cases s with|zero=>simp at yL;subst yL;refine⟨arr,T,fr,fp,lQ,uR,k1,hn,yJ,λb' iy=>?_,?_,J5⟩;show(if b'=b\/b'∈fp then _ else _)=_;rw[aH (.inr iy)];show(if b=b\/b∈fp then _ else _)=_;rw[aH (.inl rfl)]|succ s=>simp only[fW,eP]at yL;split at yL<;>cases yL
 have Dd:(if b'=b\/b'∈fp then some (lz.box 0) else none)=some x:=hx;split at Dd;rename_i hm;rcases hm with rfl|hm;exact⟨HX,.inr (.inl rfl)⟩;exact⟨hG b' hm,.inr (.inr hm)⟩;cases Dd
theorem sW {E:Env}{rs:aw (Bool×FT)}{t:FT}(hS:Sound P E Γ){fn:Func}(hf:P.funcs[f]?=some fn)(EB:(fn.name== "runtime.NumGoroutine")=false)(H2:Cm E Γ an Λ (fn.body.getD .skip)):jl P f {R:=mx rs×t.ct.D,fn:=afa E Γ an Λ fn rs t,av:=λy=>Cp rs y.1,back:=λy=>kI t y.2,bx:=true}:=by
 intro xs y hy;simp only at hy;unfold afa at hy;split at hy;rename_i c cs rest hb;split at hy;rename_i hlen;refine⟨⟨fn,c,hf,hb,EB⟩,λ_ h=>(by cases h),λh=>(by cases h),λ_ TS atc he A w b vs arr T fr hw fp hA lQ uR fZ hn yJ hG J5 ib=>?_,λh=>(by cases h)⟩;injection he with he1 he2;injection he1 with _ he3;subst he2;subst he3;refine calls_of_wp hf hb (wp_mono (Wp hS c (by rw[hb]at H2;exact H2) _ _ _ _ (XF (fn:=fn) hA lQ uR fZ hlen.2 hn yJ hG J5 ib) hy) ?_);rintro e a' w' ⟨ex,cj,he,hs,hk⟩
 have main:(aa (aa (uT cj E [(true,0)] fn.results.toList) (nj rs)) λr=>match cj.io,cj.boxes with
  |[.ptr 0 0],some sU::_=>(match Pg t (sU.map AC.strip)with|some (x,[])=>some (r,x)|_=>none)
  |_,_=>none)=some y->
  a'.defers=[]/\∃v,(Go.results fn a'.tmps).run P w'=.ok v w'/\∃v_1 hw' fv jX T' Ny lO,Ending.returned v=Ending.returned v_1/\il (gU A hw' w') v_1 (Cp rs y.1) fv/\w'.heap[b]?=some (.cells jX T' Ny)/\rU jX Ny/\
    bV (gU A hw' w') jX.toList (kI t y.2) lO/\lO.Nodup/\b∉lO/\(∀b'∈lO,b'<w'.heap.size/\(b'∈fp\/w.heap.size<=b'))/\fv.Nodup/\(∀b'∈fv,b'<w'.heap.size/\(b'∈fp\/w.heap.size<=b')/\b'∉lO/\b'≠b)/\Fr (λb'=>b'=b\/b'∈fp) w w':=by
  intro iT
  obtain⟨g,hg⟩:=hs
  refine⟨hg.defers,?_⟩
  cases hra:uT cj E [(true,0)] fn.results.toList with
  |none=>rw[hra]at iT;cases iT
  |some ys=>
   rw[hra]at iT
   simp only[aa]at iT
   cases hrr:nj rs ys with
   |none=>rw[hrr]at iT;cases iT
   |some r0=>
    rw[hrr]at iT
    simp only at iT
    split at iT
    ·rename_i sU tl S3 lj
     split at iT
     ·rename_i x hx
      cases iT
      obtain⟨v,fv,fD,yK,HZ,GR⟩:=N8 hS.ty hg hra hrr
      obtain⟨fpi,hri,_,_⟩:=hg.io
      rw[S3]at hri
      obtain⟨g1,g2,_,axA,_⟩:=hri
      have Mo:b=g.β 0:=by have:=axA.1;simp only[Value.pointer.injEq,bu,Addr.mk.injEq]at this;exact this.1
      obtain⟨jX,T',Ny,lO,Kz,Zq,hr',En,KC,hl',asq,_⟩:=hg.boxes 0 sU (by rw[lj];rfl)
      rw[<-Mo]at Kz KC asq
      have ow:=AJ hr'
      have Mn:=AB hx
      rw[bD]at Mn
      rw[Mn]at ow
      have hM:∀b',(w.heap.size<=b'\/(b'=b\/b'∈fp))->b'≠b->b'∈fp\/w.heap.size<=b':=by rintro b' (h2|h2|h2) Eo;exact .inr h2;exact absurd h2 Eo;exact .inl h2
      refine⟨v,fD,v,g.hw,fv,jX,T',Ny,lO,rfl,yK,Kz,Zq,ow,En,KC,λb' iy=>?_,HZ,λb' iy=>?_,hg.frame⟩
      ·have:=hg.im b' _ (hl' b' iy)
       exact⟨this.1,hM b' this.2 (λe=>KC (e▸iy))⟩
      ·obtain⟨own,OP,Uj⟩:=GR b' iy
       have H0:g.fE b'≠some (.box 0):=by rw[Uj];intro e;have e2:BG own=BG (true,0):=bP e;exact OP (by rw[NX e2];simp)
       have Eo:b'≠b:=λe=>H0 (by rw[e];exact asq)
       have:=hg.im b' _ Uj
       exact⟨this.1,hM b' this.2 Eo,λhm=>H0 (hl' b' hm),Eo⟩
     ·cases iT
    ·cases iT
 cases e<;>cases ex<;>simp only[Kq]at he;exact main hk;cases hk;exact main hk;cases hy;cases hy
theorem ar9 {E:Env}{t:FT}(hS:Sound P E Γ){fn:Func}(hf:P.funcs[f]?=some fn)(EB:(fn.name== "runtime.NumGoroutine")=false)(H2:Cm E Γ an Λ (fn.body.getD .skip)):jl P f {R:=t.ct.D,fn:=Ws E Γ an Λ fn t,av:=λ_=> .bot,back:=λy=>kI t y,pr:=true}:=by
 intro xs y hy;simp only at hy;unfold Ws at hy;cases hb:fn.body with
 |none=>rw[hb]at hy;cases hy
 |some c=>
  rw[hb]at hy;simp only at hy;split at hy;have key:aoF P f {R:=t.ct.D,fn:=Ws E Γ an Λ fn t,av:=λ_=> .bot,back:=λy=>kI t y,pr:=true} y xs:=by
   intro A w vs hA ib;refine calls_of_wp hf hb (wp_mono (Wp hS c (by rw[hb]at H2;exact H2) _ _ _ _ (Nf hA ib) hy) ?_);rintro e a' w' ⟨ex,cj,he,hs,hk⟩
   have main:(match fn.results.toList with
    |[.tmp i]=>match cj.get i with
     | .val false [.ptr s 0]=>match (nth cj.boxes s).getD none with
       |some cs=>if cs.all AC.L6=true then(match Pg t (cs.map AC.strip)with|some (x,[])=>some x|_=>none) else none
       |none=>none
     |_=>none
    |_=>none)=some y->a'.defers=[]/\∃v,(Go.results fn a'.tmps).run P w'=.ok v w'/\∃b arr T fr hw,Ending.returned v=.returned (.pointer (some ⟨b,0,none⟩))/\w.heap.size<=b/\w'.heap[b]?=some (.cells arr T fr)/\rU arr fr/\bV (gU A hw w') arr.toList (kI t y) []/\Fr (λ_=>False) w w':=by
    intro iT
    obtain⟨g,hg⟩:=hs
    refine⟨hg.defers,?_⟩
    split at iT
    ·rename_i i hri
     split at iT
     ·rename_i s hp
      cases lj:(nth cj.boxes s).getD none with
      |none=>rw[lj]at iT;cases iT
      |some cs=>
       rw[lj]at iT
       simp only at iT
       split at iT
       ·rename_i oz
        split at iT
        ·rename_i x hx
         cases iT
         have lj:cj.boxes[s]?=some (some cs):=by rw[eU]at lj;cases hq:cj.boxes[s]? with|none=>rw[hq]at lj;simp at lj|some q=>rw[hq]at lj;simp at lj;rw[lj]
         obtain⟨fp0,xm,_,_⟩:=hg.slot i
         rw[hp]at xm
         have xm:=DM xm
         obtain⟨arr,T,fr,fp,lQ,uR,fZ,hn,yJ,hl,J2,J5⟩:=hg.boxes s cs lj
         obtain⟨F5,vs,gD,QR⟩:=arg_val (c:=dz _ g cj w') (c':=dz _ g cj w') rfl rfl (v:=.agg arr.toList.toArray) (x:=.val true cs) ⟨arr.toList,rfl,fZ⟩ oz
         have hvs:arr.toList=vs:=by have gD:Value.agg arr.toList.toArray=.agg vs.toArray:=gD;simp only[Value.agg.injEq]at gD;simpa using congrArg Array.toList gD
         rw[<-hvs]at QR
         have ow:=AJ QR
         have Mn:=AB hx
         rw[bD]at Mn
         rw[Mn]at ow
         have fD:(Go.results fn a'.tmps).run P w'=.ok (a'.tmps.getD i undef) w':=by
          have he:fn.results=#[.tmp i]:=by apply gj;exact hri
          have ac2:=FA (P:=P) (Fx a'.tmps) (λ_=>a'.tmps.getD i undef) w' fn.results (λx hx=>by rw[he]at hx;simp at hx;subst hx;rfl)
          have hd:Go.results fn a'.tmps=(do
           let vs<-fn.results.mapM (Fx a'.tmps)
           pure (if h:vs.size=1 then vs[0] else .tuple vs)):=by
           unfold Go.results
           congr 1
          rw[hd];simp only[Sem.run_bind,ac2,Result.andThen_ok,Sem.run_pure];rw[he];simp
         refine⟨_,fD,g.β s,arr,T,fr,g.hw,congrArg Ending.returned xm,?_,lQ,uR,ow,hg.frame⟩
         exact(hg.im _ _ J2).2.resolve_right (λf=>f)
        ·cases iT
       ·cases iT
     ·cases iT
    ·cases iT
   cases e<;>cases ex<;>simp only[Kq]at he;exact main hk;cases hk;exact main hk
  refine⟨⟨fn,c,hf,hb,EB⟩,λ_ _ A w vs hA ib=>?_,λh=>(by cases h),λh=>(by cases h),λ_=>key⟩;refine(key A w vs hA ib).mono ?_;rintro e w' ⟨b,arr,T,fr,hw,rfl,_,_,_,_,jZ⟩;exact⟨_,hw,[],rfl,il.bot _ _,List.nodup_nil,(λb hb=>by cases hb),jZ⟩;cases hy
end Go.Dn
