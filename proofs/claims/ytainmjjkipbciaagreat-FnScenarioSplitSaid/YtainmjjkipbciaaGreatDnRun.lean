import Derived.Test.YtainmjjkipbciaaGreatDnAny
/- The soundness of the abstract semantics: code and functions. -/
namespace Go.Dn
open Go.RowKit
variable {P:Program} {C:Ctx} {st:AS} {a:Act} {w:World} {R:Type} {r:R}
variable {an:An} {Γ:fy} {g:Gh} {Λ:dL} {f:Nat} {hw:Nat->Nat} {A:Rg} {rs:aw (Bool×FT)} {ys:aw (Bool×aw AC)} {cs:aw AC} {xs:aw AV}
def E4:Exit->Ex->Prop
 | .normal,.normal=>True
 | .ret,.ret=>True
 | .exit i,.exit j=>i=j
 |_,_=>False
def akW (C:Ctx)(K:Ex->AS->ax R)(r:R)(e:Exit)(a:Act)(w:World):Prop:=
 ∃ex bK,E4 e ex/\mZ C bK a w/\K ex bK=some r
theorem aab {E:Env}(hS:Sound P E Γ){id:Nat}{ops:Array Oper}{d:Bool}(h:mZ C st a w){K:AS->ax R}(hk:P4 E Γ an id ops.toList d st K=some r){Q:Exit->Act->World->Prop}(hq:∀bK a' w',mZ C bK a' w'->K bK=some r->Q .normal a' w'):(Code.region id ops d).wp P Q a w:=by
 unfold P4 at hk;split at hk;rw[JX]at hk;cases ho:B5 E Γ an ops.toList d st some with|none=>rw[ho]at hk;cases hk|some st1=>rw[ho]at hk;exact W3 hS h ho (λa' w' hs=>hq _ _ _ hs hk)
 rename_i s hm;split at hk;rename_i ah6;rw[JX]at hk;cases ho:B5 E Γ.calm an ops.toList d st some with|none=>rw[ho]at hk;cases hk|some st1=>rw[ho]at hk;simp only[eh]at hk;cases hb:getBool st1 s with|none=>rw[hb]at hk;cases hk|some b=>rw[hb]at hk;simp only[aa]at hk;have hn:=ZI (aeD Γ) (λo Iu=>aE.1 ah6 o Iu) ho;exact W3 hS.calm h ho (λa' w' hs=>hq _ _ _ (hs.weaken hn hb) hk)
 cases hk
def hY (E:Env)(Γ:fy)(an:An)(Λ:dL)(c:Code):Prop:=
 ∃n,∀(R:Type)(st:AS)(K:Ex->AS->ax R)(r:R),(Λ (fu c)).go st K=some r->BE (an.mask (fu c)) (den E Γ an Λ c) n st K=some r
def TZ (E:Env)(Γ:fy)(an:An)(Λ:dL)(c:Code):Prop:=
 ∀(R:Type)(st:AS)(K:Ex->AS->ax R)(r:R),(Λ (BS c)).go st K=some r->den E Γ an Λ c st (λe bK=>K e (bK.mask (an.mask (BS c+1))))=some r
def Bn (E:Env)(Γ:fy)(an:An)(Λ:dL)(c:Code):Prop:=(∀c'∈iW c,hY E Γ an Λ c')/\∀c'∈kj an.cut c,TZ E Γ an Λ c'
theorem aa9 (c:Code):kj [] c=[]:=by induction c with|seq a b iha ihb=>simp[kj,iha,ihb]|cond _ a b iha ihb=>simp[kj,iha,ihb]|block _ c ih=>simpa[kj]using ih|loop c ih=>simpa[kj]using ih|_=>rfl
theorem Bn.of {E:Env}{c:Code}(h:∀c'∈iW c,hY E Γ an Λ c')(hc:an.cut=[]):Bn E Γ an Λ c:=⟨h,by rw[hc,aa9];simp⟩
theorem O3 {E:Env}(hS:Sound P E Γ):∀(c:Code)(_:Bn E Γ an Λ c)(st:AS)(a:Act)(w:World)(K:Ex->AS->ax R),mZ C st a w->den E Γ an Λ c st K=some r->c.wp P (akW C K r) a w:=by
 intro c;induction c with
 |skip=>intro C9 st a w K h hk;exact wp_skip ⟨.normal,st,cx,h,hk⟩
 |region id ops d=>intro C9 st a w K h hk;exact aab hS h (by simpa only[den]using hk) (λbK a' w' hs he=>⟨.normal,bK,cx,hs,he⟩)
 |seq x y ihx ihy=>
  intro C9 st a w K h hk;have ihx:=ihx ⟨λc hc=>C9.1 c (by simp[iW,hc]),λc hc=>C9.2 c (by simp[kj,hc])⟩;have ihy:=ihy ⟨λc hc=>C9.1 c (by simp[iW,hc]),λc hc=>C9.2 c (by simp only[kj];cases an.cut.contains (fu y)<;>simp[hc])⟩;simp only[den]at hk;refine wp_seq (wp_mono (ihx st a w _ h hk) ?_);rintro e a' w' ⟨ex,bK,he,hs,Cg⟩;cases e<;>cases ex<;>simp only[E4]at he;simp only at Cg;cases fE:an.cut.contains (fu y)with|false=>rw[fE]at Cg;exact ihy bK a' w' K hs Cg|true=>rw[fE]at Cg;have hc:=C9.2 y (by simp only[kj,fE];simp) _ _ _ _ Cg;refine wp_mono (ihy _ a' w' _ (hs.mask _) hc) ?_;rintro e2 a2 w2 ⟨ex2,st2,he2,hs2,hk2⟩;exact⟨ex2,_,he2,hs2.mask _,hk2⟩
  exact⟨.exit _,bK,he,hs,Cg⟩;exact⟨.ret,bK,cx,hs,Cg⟩
 |cond c x y ihx ihy=>
  intro C9 st a w K h hk;have ihx:=ihx ⟨λc hc=>C9.1 c (by simp[iW,hc]),λc hc=>C9.2 c (by simp[kj,hc])⟩;have ihy:=ihy ⟨λc hc=>C9.1 c (by simp[iW,hc]),λc hc=>C9.2 c (by simp[kj,hc])⟩;simp only[den]at hk;split at hk;rename_i t hc;have hv:a.eval c=.bool t:=by obtain⟨g,hg⟩:=h;have:=hg.rd c;rw[hc]at this;exact tP this
  cases t with|true=>exact wp_cond_true hv (ihx st a w K h hk)|false=>exact wp_cond_false hv (ihy st a w K h hk)
  cases hk
 |block id c ih=>intro C9 st a w K h hk;have ih:=ih ⟨λc hc=>C9.1 c (by simpa[iW]using hc),λc hc=>C9.2 c (by simpa[kj]using hc)⟩;simp only[den]at hk;refine wp_block (wp_mono (ih st a w _ h hk) ?_);rintro e a' w' ⟨ex,bK,he,hs,Cg⟩;cases e<;>cases ex<;>simp only[E4]at he;exact⟨.normal,bK,cx,hs,Cg⟩;rename_i i j;subst he;simp only[Exit.inBlock];simp only at Cg;by_cases hi:i=id;subst hi;rw[aF rfl];simp only[beq_self_eq_true,bP]at Cg;exact⟨.normal,bK,cx,hs,Cg⟩;rw[aH hi];rw[aH (by simpa using hi)]at Cg;exact⟨.exit i,bK,rfl,hs,Cg⟩;exact⟨.ret,bK,cx,hs,Cg⟩
 |loop c ih=>
  intro C9 st a w K h hk;have ih:=ih ⟨λc hc=>C9.1 c (by simp[iW,hc]),λc hc=>C9.2 c (by simpa[kj]using hc)⟩;obtain⟨n,hn⟩:=C9.1 c (by simp[iW]);simp only[den]at hk;intro b k cs
  have key:∀m st a w,mZ C st a w->BE (an.mask (fu c)) (den E Γ an Λ c) m st K=some r->
   ∃e a' w',akW C K r e a' w'/\Arrives P (lone (b.at a (.code c:: .inLoop c::k)) cs w) b k cs e a' w':=by
   intro m
   induction m with
   |zero=>intro st a w _ hk;cases hk
   |succ m ihm=>
    intro st a w h hk
    simp only[BE]at hk
    obtain⟨e,Uh,Wt,⟨ex,bK,he,hs,Cg⟩,Ir⟩:=ih st a w _ h hk b (.inLoop c::k) cs
    cases e<;>cases ex<;>simp only[E4]at he
    ·obtain⟨ahC,ahg,aj0,abG,Pj⟩:=ihm _ Uh Wt (hs.mask _) Cg
     exact⟨ahC,ahg,aj0,abG,.of_steps (Steps.trans Ir (.one step_inLoop)) Pj⟩
    ·exact⟨.exit _,Uh,Wt,⟨.exit _,_,he,hs.mask _,Cg⟩,.pass (x:=.inLoop c) rfl (λ_ _=> .inl (by simp)) Ir⟩
    ·exact⟨.ret,Uh,Wt,⟨.ret,_,cx,hs.mask _,Cg⟩,.pass (x:=.inLoop c) rfl (λ_ _=> .inl (by simp)) Ir⟩
  cases hp:an.peel.contains (fu c)with
  |false=>rw[hp]at hk;obtain⟨e,a',w',hq,Ir⟩:=key n _ a w (h.mask _) (hn _ _ _ _ hk);exact⟨e,a',w',hq,.of_steps (.one step_loop) Ir⟩
  |true=>rw[hp]at hk;simp only[ah]at hk;obtain⟨e,Uh,Wt,⟨ex,bK,he,hs,Cg⟩,Ir⟩:=ih _ a w _ (h.mask _) hk b (.inLoop c::k) cs;cases e<;>cases ex<;>simp only[E4]at he;obtain⟨ahC,ahg,aj0,abG,Pj⟩:=key n _ Uh Wt (hs.mask _) (hn _ _ _ _ Cg);exact⟨ahC,ahg,aj0,abG,.of_steps (Steps.trans (.one step_loop) (Steps.trans Ir (.one step_inLoop))) Pj⟩;exact⟨.exit _,Uh,Wt,⟨.exit _,_,he,hs.mask _,Cg⟩,.of_steps (.one step_loop) (.pass (x:=.inLoop c) rfl (λ_ _=> .inl (by simp)) Ir)⟩;exact⟨.ret,Uh,Wt,⟨.ret,_,cx,hs.mask _,Cg⟩,.of_steps (.one step_loop) (.pass (x:=.inLoop c) rfl (λ_ _=> .inl (by simp)) Ir)⟩
 |exit id=>intro C9 st a w K h hk;exact wp_exit ⟨.exit id,st,rfl,h,hk⟩
 |ret=>intro C9 st a w K h hk;exact wp_ret ⟨.ret,st,cx,h,hk⟩
 |_=>intro C9 st a w K h hk;simp[den]at hk
theorem D7:∀{vs:ir}{xs:aw AV},oH A w vs xs->vs.length=xs.length/\∀(i:Nat)(x:AV),xs[i]?=some x->∃v,vs[i]?=some v/\fR (fD A (λ_=>0) w) v x []
 |[],[],_=>⟨rfl,by simp⟩
 |v::vs,x::xs,h=>by obtain⟨hl,hi⟩:=D7 h.2;refine⟨by simp[hl],λi y hy=>?_⟩;cases i with|zero=>simp at hy;subst hy;exact⟨v,rfl,h.1⟩|succ i=>exact hi i y (by simpa using hy)
 |[],_::_,h=>h.elim
 |_::_,[],h=>h.elim
theorem Hn (hA:∀k b o,A k b o->b<w.heap.size){fn:Func}{vs:ir}(h:oH A w vs xs): mZ ⟨A,λ_=>False,w,[],λk b o hb=>⟨hA k b o hb,λf=>f⟩⟩ (start fn xs) {tmps:=vs.toArray++Array.replicate (fn.ntmps-vs.toArray.size) undef,defers:=[]} w:=by
 obtain⟨hl,hi⟩:=D7 h;let C:Ctx:=⟨A,λ_=>False,w,[],λk b o hb=>⟨hA k b o hb,λf=>f⟩⟩
 let g:Gh:=⟨λ_=>0,λ_=>0,λ_=>none,λ_=>undef⟩
 have hle:(fD A (λ_=>0) w).Le (cG C g (start fn xs) w):=⟨rfl,λt ht=>ht.elim,λ_ _ _ _ _ hv=>hv,aU _,λs hs=>hs.elim,λ_ b o u ho hu=>⟨ho,hu⟩⟩
 refine⟨g,rfl,?_,?_,λi av hs=>?_,λs cs hs=>?_,λk v av hk=>by simp at hk,λb x hx=>(by cases hx),Fr.refl _ _,⟨[],rfl,by simp,by simp⟩⟩;simp[start,hl];simp[start];have wC:(xs++List.replicate (fn.ntmps-xs.length) AV.bot)[i]?=some av:=hs;rcases cf i xs.length with gW|yt;rw[bD gW]at wC;obtain⟨v,hv,hr⟩:=hi i av wC;refine⟨[],?_,by simp,by simp⟩;have hvv:(vs.toArray++Array.replicate (fn.ntmps-vs.toArray.size) undef).getD i undef=v:=by
  have aeR:i<vs.length:=by omega
  have Pw:vs[i]=v:=by rw[al aeR]at hv;exact dD hv
  simp[du,Array.getElem?_append,aeR,Pw]
 show fR _ ((vs.toArray++Array.replicate (fn.ntmps-vs.toArray.size) undef).getD i undef) _ _;rw[hvv];exact hr.mono hle (by simp);rw[bq yt,dX]at wC;split at wC;cases wC;exact⟨[],fR.bot _ _,by simp,by simp⟩;cases wC;have wC:(List.replicate (xs.length+(fn.ntmps-xs.length)) (none:ax (aw AC)))[s]?=some (some cs):=hs;rw[dX]at wC;split at wC<;>cases wC
theorem Wm {v:Value}{x:AC}{fp:fg}(h:gB (cG C g st w) v x fp):gB (fD C.A g.hw w) v x.strip fp:=by
 cases x with
 |int k n=>exact h
 |bool b=>exact h
 |str s=>exact h
 |jn=>exact h
 |fn f=>exact h
 |un=>exact h
 |bot=>exact h
 |ptr s off=>exact h.2.2
 |zk fl e y i off=>cases fl with|own t=>exact h.elim|nest _ _ _ _ _ _=>exact h.elim|part _ _ _ _=>exact h.elim|fa _ _ _=>exact h.elim|arg _=>exact h.1|loc ep pv=>exact h.1
 |sl fl e xs=>
  cases fl with
  |nest _ _ _ _ _ _=>exact h.1
  |part _ _ _ _=>exact h.1
  |fa _ _ _=>obtain⟨_,⟨k,hk,h3⟩,_⟩:=h;exact⟨λq hq=>(by cases hq),⟨k,hk,h3⟩,by simp⟩
  |own t=>exact⟨h.1,by simp⟩
  |arg _=>exact h
  |loc ep pv=>exact h.1
theorem wo:∀{vs:ir}{xs:aw AC}{fp:fg},bE (cG C g st w) vs xs fp->bE (fD C.A g.hw w) vs (xs.map AC.strip) fp
 |[],[],_,h=>h
 |_::_,_::_,_,h=>by obtain⟨f1,f2,rfl,h1,h2⟩:=h;exact⟨f1,f2,rfl,Wm h1,wo h2⟩
 |[],_::_,_,h=>h.elim
 |_::_,[],_,h=>h.elim
def AZ (tmps:Array Value):ResultVar->Sem Value
 | .tmp t=>pure (tmps.getD t undef)
 | .cell a t=>do loadVar t (<-asAddr (tmps.getD a undef))
def xd:Bool×Nat->jx
 |(false,t)=> .slot t
 |(true,s)=> .box s
theorem HP {x y:Bool×Nat}(h:xd x=xd y):x=y:=by rcases x with⟨_|_,a⟩<;>rcases y with⟨_|_,b⟩<;>simp[xd]at h<;>rw[h]
theorem afB {E:Env}(hE:ja P E.ty)(h:dP C g st a w []){rv:ResultVar}{own:Bool×Nat}{gg:Bool}(hr:Lb st E rv=some (own,gg,cs)): ∃v vs fp,(AZ a.tmps rv).run P w=.ok v w/\Cut gg v vs/\bE (fD C.A g.hw w) vs cs fp/\fp.Nodup/\∀b∈fp,g.ef b=some (xd own):=by
 cases rv with
 |tmp t=>simp only[Lb]at hr;split at hr;rename_i g' po mX;cases hr;obtain⟨fp,eK,hn,hl⟩:=h.slot t;rw[mX]at eK;obtain⟨vs,fE,eK⟩:=eK;exact⟨_,vs,fp,rfl,fE,wo eK,hn,hl⟩;cases hr
 |cell t T=>
  simp only[Lb]at hr;split at hr;rename_i sh s off hT hp;cases jt:(nth st.boxes s).getD none with
  |none=>rw[jt]at hr;cases hr
  |some po=>
   rw[jt]at hr;simp only[eh]at hr;split at hr;rename_i gx;cases hr;have jt:st.boxes[s]?=some (some po):=by rw[dI]at jt;cases hq:st.boxes[s]? with|none=>rw[hq]at jt;simp at jt|some q=>rw[hq]at jt;simp at jt;rw[jt]
   obtain⟨fp0,sU,_,_⟩:=h.slot t;rw[hp]at sU;have sU:=yT sU;obtain⟨arr,T',fr,fp,jJ,qM,eK,hn,uz,hl,EM,EO⟩:=h.boxes s po jt;have hlen:=eK.length;obtain⟨v,ec,fE⟩:=we (hE T sh hT) (g.β s) off ((arr.toList.drop off).take sh.ct.size) (by simp at hlen⊢;omega) (MH jJ off sh.ct.size);obtain⟨f1,f2,f3,rfl,r1,r2,r3⟩:=eK.mid off sh.ct.size;have GG:=(aI.1 (aI.1 hn).1).2.1;refine⟨v,_,f2,?_,fE,wo r2,GG,λb hb=>hl b (by simp[hb])⟩;simp only[AZ,sU,asAddr,Sem.run_bind,Sem.run_pure,Result.andThen_ok];exact ec;cases hr
  cases hr
theorem Xz {E:Env}(hE:ja P E.ty)(h:dP C g st a w [])(gf:ResultVar->Value):∀(rs:aw ResultVar)(had:aw (Bool×Nat))(ys:aw (Bool×aw AC)),qN st E had rs=some ys->
 (∀rv v,(AZ a.tmps rv).run P w=.ok v w->gf rv=v)->
 (∀rv∈rs,(AZ a.tmps rv).run P w=.ok (gf rv) w)/\∃fp,fR.pk (fD C.A g.hw w) (rs.map gf) ys fp/\fp.Nodup/\∀b∈fp,∃own,own∉had/\g.ef b=some (xd own)
 |[],had,ys,hr,hgf=>by cases hr;exact⟨by simp,[],rfl,by simp,by simp⟩
 |rv::rs,had,ys,hr,hgf=>by
  simp only[qN]at hr;cases h1:Lb st E rv with
  |none=>rw[h1]at hr;cases hr
  |some x=>
   obtain⟨own,gg,cs⟩:=x;rw[h1]at hr;simp only[eh]at hr;split at hr;cases hr;rename_i It;have It:own∉had:=by simpa using It
   cases h2:qN st E (own::had) rs with|none=>rw[h2]at hr;cases hr|some xs=>rw[h2]at hr;simp only[eh,ba]at hr;subst hr;obtain⟨v,vs,pP,ec,fE,eK,GG,hl1⟩:=afB hE h h1;obtain⟨abJ,fp2,Kq,BL,xE⟩:=Xz hE h gf rs (own::had) xs h2 hgf;have hv:=hgf rv v ec;refine⟨λrv' hm=>?_,pP++fp2,⟨pP,fp2,rfl,⟨vs,by rw[hv];exact fE,eK⟩,Kq⟩,?_,λb hb=>?_⟩;rcases cm.1 hm with rfl|hm;rw[hv];exact ec;exact abJ rv' hm;refine aI.2 ⟨GG,BL,λb hb b' gM he=>?_⟩;subst he;obtain⟨apv,EN,Ch⟩:=xE b gM;rw[hl1 b hb]at Ch;have:=HP (dD Ch);subst this;exact EN (by simp);rcases ay.1 hb with hb|hb;exact⟨own,It,hl1 b hb⟩;obtain⟨apv,EN,Ch⟩:=xE b hb;exact⟨apv,λhm=>EN (by simp[hm]),Ch⟩
theorem FK.Yl {fl:FK}{f:pj}(h:fl.fits f=true):f=fl.flag:=by
 unfold FK.fits at h;split at h;rename_i t t';have:t=t':=by simpa using h
 subst this;rfl;rename_i k;have:k=false:=by simpa using h
 subst this;rfl;rename_i k;have:k=true:=h;subst this;rfl;rfl;rename_i j t j' t';simp only[ae,aV]at h;obtain⟨rfl,rfl⟩:=h;rfl;cases h
theorem wh:∀{t:FT}{cs r:aw AC}{x:t.ct.D},IX t cs=some (x,r)->cs=jc t x++r:=by
 intro t;induction t with
 |int k=>intro cs r x h;cases cs with|nil=>simp[IX]at h|cons y ys=>cases y<;>simp[IX]at h;obtain⟨rfl,rfl,rfl⟩:=h;rfl
 |bool=>intro cs r x h;cases cs with|nil=>simp[IX]at h|cons y ys=>cases y<;>simp[IX]at h;obtain⟨rfl,rfl⟩:=h;rfl
 |str=>intro cs r x h;cases cs with|nil=>simp[IX]at h|cons y ys=>cases y<;>simp[IX]at h;obtain⟨rfl,rfl⟩:=h;rfl
 |sl fl e=>
  intro cs r x h;cases cs with
  |nil=>simp[IX]at h
  |cons y ys=>
   cases y with
   |sl fl' e' xs=>
    simp only[IX]at h;split at h
    ·rename_i he;subst he;cases hf:fl.fits fl' with
     |false=>rw[hf]at h;cases h
     |true=>
      rw[hf]at h;cases h;rw[FK.Yl hf];have hn:fl.isNil=false:=by cases fl<;>first|rfl|(unfold FK.fits at hf;cases hf)
      simp only[jc,hn,af];rfl
    cases h
   |jn=>simp only[IX]at h;cases hn:fl.isNil with|false=>rw[hn]at h;cases h|true=>rw[hn]at h;cases h;simp only[jc,hn,ah];rfl
   |_=>simp[IX]at h
 |pair a b iha ihb=>intro cs r x h;simp only[IX]at h;obtain⟨⟨x1,r1⟩,h1,h⟩:=aM.1 h;obtain⟨⟨x2,r2⟩,h2,h⟩:=aM.1 h;cases h;have h3:r1=jc b x2++r2:=ihb h2;rw[iha h1,h3];simp[jc]
theorem HO:∀(rs:aw (Bool×FT))(ys:aw (Bool×aw AC))(y:kO rs),kM rs ys=some y->ys=ajM rs y
 |[],[],y,_=>rfl
 |[],_::_,y,h=>by simp[kM]at h
 |[(g,t)],ys,y,h=>by
  cases ys with
  |nil=>simp[kM]at h
  |cons p ys=>
   cases ys with
   |cons _ _=>simp[kM]at h
   |nil=>
    obtain⟨g',cs⟩:=p;simp only[kM]at h;cases hg:g==g' with
    |false=>rw[hg]at h;cases h
    |true=>
     rw[hg]at h;have:g=g':=by simpa using hg
     subst this;simp only[ah]at h;split at h;rename_i x hx;cases h;have:=wh hx;rw[bR]at this;rw[this];rfl;cases h
 |(g,t)::p::r,ys,y,h=>by
  cases ys with
  |nil=>simp[kM]at h
  |cons q ys=>
   obtain⟨g',cs⟩:=q;simp only[kM]at h;cases hg:g==g' with
   |false=>rw[hg]at h;cases h
   |true=>
    rw[hg]at h;have:g=g':=by simpa using hg
    subst this;simp only[ah]at h;split at h;rename_i x hx;obtain⟨z,hz,h⟩:=aM.1 h;cases h;have h1:=wh hx;rw[bR]at h1;rw[h1,HO (p::r) ys z hz];rfl;cases h
theorem HX {E:Env}(hE:ja P E.ty){fn:Func}{bK:AS}{a':Act}{w':World}(hg:dP C g bK a' w' []){had:aw (Bool×Nat)}(UX:qN bK E had fn.results.toList=some ys){y:kO rs}(gz:kM rs ys=some y): ∃v fp,(Go.results fn a'.tmps).run P w'=.ok v w'/\fR (fD C.A g.hw w') v (xM rs y) fp/\fp.Nodup/\∀b∈fp,∃own,own∉had/\g.ef b=some (xd own):=by
 have hys:=HO rs ys y gz;let gf:ResultVar->Value:=λrv=>match (AZ a'.tmps rv).run P w' with| .ok v _=>v|_=>undef
 obtain⟨abJ,fp,eK,C7,Ch⟩:=Xz hE hg gf fn.results.toList had ys UX (λrv v hv=>by simp only[gf,hv]);have ahS:=Bb (P:=P) (AZ a'.tmps) gf w' fn.results (λx hx=>abJ x (by simpa using hx));have ec:(Go.results fn a'.tmps).run P w'=.ok (if h:(fn.results.map gf).size=1 then(fn.results.map gf)[0] else .tuple (fn.results.map gf)) w':=by
  have:Go.results fn a'.tmps=(do
   let vs<-fn.results.mapM (AZ a'.tmps)
   pure (if h:vs.size=1 then vs[0] else .tuple vs)):=by
   unfold Go.results
   congr 1
  rw[this];simp only[Sem.run_bind,ahS,Result.andThen_ok,Sem.run_pure]
 refine⟨_,fp,ec,?_,C7,Ch⟩;have R3:(fn.results.map gf).toList=fn.results.toList.map gf:=by simp
 unfold xM;rw[<-hys];cases ys with
 |nil=>
  have ahX:fn.results.toList.map gf=[]:=by cases hm:fn.results.toList.map gf with|nil=>rfl|cons u us=>rw[hm]at eK;exact eK.elim
  have sV:¬(fn.results.map gf).size=1:=by rw[<-Array.length_toList,R3,ahX];simp
  rw[dif_neg sV];exact⟨_,by rw[<-R3],eK⟩
 |cons y1 ys=>
  cases ys with
  |nil=>
   obtain⟨gg,cs⟩:=y1;cases hm:fn.results.toList.map gf with
   |nil=>rw[hm]at eK;exact eK.elim
   |cons u us=>
    rw[hm]at eK;obtain⟨f1,f2,rfl,UU,sI⟩:=eK;cases us with
    |cons _ _=>exact sI.elim
    |nil=>
     cases sI;have Ir:fn.results.map gf=#[u]:=by apply eQ;rw[R3,hm]
     have:(if h:(fn.results.map gf).size=1 then(fn.results.map gf)[0] else .tuple (fn.results.map gf))=u:=by rw[dif_pos (by rw[Ir];rfl)];simp only[Ir];rfl
     rw[this,bR];exact UU
  |cons y2 ys=>
   have sV:¬(fn.results.map gf).size=1:=by rw[<-Array.length_toList,R3];cases hm:fn.results.toList.map gf with|nil=>simp|cons u us=>rw[hm]at eK;obtain⟨f1,f2,rfl,UU,sI⟩:=eK;cases us with|nil=>exact sI.elim|cons u2 us=>simp
   rw[dif_neg sV];exact⟨_,by rw[<-R3],eK⟩
theorem Lc {E:Env}(hE:ja P E.ty){fn:Func}{bK:AS}{a':Act}{w':World}(hg:dP C g bK a' w' [])(UX:qN bK E [] fn.results.toList=some ys){y:kO rs}(gz:kM rs ys=some y): ∃v fp,(Go.results fn a'.tmps).run P w'=.ok v w'/\fR (fD C.A g.hw w') v (xM rs y) fp/\fp.Nodup/\∀b∈fp,∃own,g.ef b=some (xd own):=by obtain⟨v,fp,h1,h2,h3,h4⟩:=HX hE hg UX gz;exact⟨v,fp,h1,h2,h3,λb hb=>(h4 b hb).imp λ_ h=>h.2⟩
theorem ahD {E:Env}{rs:aw (Bool×FT)}(hS:Sound P E Γ){fn:Func}(hf:P.funcs[f]?=some fn)(zP:(fn.name== "runtime.NumGoroutine")=false)(C9:Bn E Γ an Λ (fn.body.getD .skip)):gY P f {R:=kO rs,fn:=JY E Γ an Λ fn rs,av:=xM rs}:=by
 intro xs y hy;simp only at hy;unfold JY at hy;cases hb:fn.body with
 |none=>rw[hb]at hy;cases hy
 |some c=>
  rw[hb]at hy;simp only at hy;split at hy;refine⟨⟨fn,c,hf,hb,zP⟩,λ_ _ A w vs hA fM=>?_,λh=>(by cases h),λh=>(by cases h),λh=>(by cases h)⟩;refine calls_of_wp hf hb (wp_mono (O3 hS c (by rw[hb]at C9;exact C9) _ _ _ _ (Hn hA fM) hy) ?_);rintro e a' w' ⟨ex,bK,he,hs,hk⟩;have main:aa (qN bK E [] fn.results.toList) (kM rs)=some y->a'.defers=[]/\∃v,(Go.results fn a'.tmps).run P w'=.ok v w'/\∃v_1 hw fp,Ending.returned v=Ending.returned v_1/\fR (fD A hw w') v_1 (xM rs y) fp/\fp.Nodup/\(∀b∈fp,w.heap.size<=b/\b<w'.heap.size)/\Fr (λ_=>False) w w':=by intro gz;obtain⟨g,hg⟩:=hs;refine⟨hg.defers,?_⟩;cases UX:qN bK E [] fn.results.toList with|none=>rw[UX]at gz;cases gz|some ys=>rw[UX]at gz;obtain⟨v,fp,ec,eK,C7,Ch⟩:=Lc hS.ty hg UX gz;refine⟨v,ec,v,g.hw,fp,rfl,eK,C7,λb hb=>?_,hg.frame⟩;obtain⟨own,hl⟩:=Ch b hb;have:=hg.fS b _ hl;exact⟨this.2.resolve_right (λf=>f),this.1⟩
  cases e<;>cases ex<;>simp only[E4]at he;exact main hk;cases hk;exact main hk;cases hy
theorem abo {E:Env}{LU:aw (Bool×FT)}(h2:kO LU=kO rs)(hS:Sound P E Γ){fn:Func}(hf:P.funcs[f]?=some fn)(zP:(fn.name== "runtime.NumGoroutine")=false)(C9:Bn E Γ an Λ (fn.body.getD .skip)):gY P f {R:=Bool×kO rs,fn:=evalAlt E Γ an Λ fn rs LU h2,av:=λy=>xM rs y.2,sel:=λy=>y.1,alt:=λy=>xM LU (cast h2.symm y.2)}:=by
 intro xs y hy;simp only at hy;unfold evalAlt at hy;cases hb:fn.body with
 |none=>rw[hb]at hy;cases hy
 |some c=>
  rw[hb]at hy;simp only at hy;split at hy;refine⟨⟨fn,c,hf,hb,zP⟩,λ_ _ A w vs hA fM=>?_,λh=>(by cases h),λh=>(by cases h),λh=>(by cases h)⟩;refine calls_of_wp hf hb (wp_mono (O3 hS c (by rw[hb]at C9;exact C9) _ _ _ _ (Hn hA fM) hy) ?_);rintro e a' w' ⟨ex,bK,he,hs,hk⟩
  have main:(aa (qN bK E [] fn.results.toList) λys=>match kM rs ys with
   |some y=>some (true,y)
   |none=>match kM LU ys with
    |some y=>some (false,cast h2 y)
    |none=>none)=some y->a'.defers=[]/\∃v,(Go.results fn a'.tmps).run P w'=.ok v w'/\∃v_1 hw fp,Ending.returned v=Ending.returned v_1/\
   fR (fD A hw w') v_1 (cond y.1 (xM rs y.2) (xM LU (cast h2.symm y.2))) fp/\fp.Nodup/\(∀b∈fp,w.heap.size<=b/\b<w'.heap.size)/\Fr (λ_=>False) w w':=by
   intro gz
   obtain⟨g,hg⟩:=hs
   refine⟨hg.defers,?_⟩
   cases UX:qN bK E [] fn.results.toList with
   |none=>rw[UX]at gz;cases gz
   |some ys=>
    rw[UX]at gz
    simp only[aa]at gz
    have fin:∀(rs':aw (Bool×FT))(y':kO rs'),kM rs' ys=some y'->∃v,(Go.results fn a'.tmps).run P w'=.ok v w'/\∃v_1 hw fp,Ending.returned v=Ending.returned v_1/\
     fR (fD A hw w') v_1 (xM rs' y') fp/\fp.Nodup/\(∀b∈fp,w.heap.size<=b/\b<w'.heap.size)/\Fr (λ_=>False) w w':=by
     intro rs' y' QE
     obtain⟨v,fp,ec,eK,C7,Ch⟩:=Lc hS.ty hg UX QE
     refine⟨v,ec,v,g.hw,fp,rfl,eK,C7,λb hb=>?_,hg.frame⟩
     obtain⟨own,hl⟩:=Ch b hb
     have:=hg.fS b _ hl
     exact⟨this.2.resolve_right (λf=>f),this.1⟩
    cases h1:kM rs ys with
    |some y1=>rw[h1]at gz;cases gz;exact fin rs y1 h1
    |none=>
     rw[h1]at gz
     simp only at gz
     cases h3:kM LU ys with
     |none=>rw[h3]at gz;cases gz
     |some y1=>
      rw[h3]at gz
      cases gz
      simp only[af,cast_cast,cast_eq]
      exact fin LU y1 h3
  cases e<;>cases ex<;>simp only[E4]at he;exact main hk;cases hk;exact main hk;cases hy
theorem X4 {c:RC}(Yu:c.A=A)(QC:c.w=w)(Ds:c.hw=hw)(Is:∀t,t%3=1->c.iss t){all:ir}(L5:∀t,c.hdr t=(all[t/3]?).getD undef):
 ∀(j:Nat){vs:ir}{cs:aw AC}{fp:fg},bE (fD A hw w) vs cs fp->cs.all (AC.wN true)=true->(∀i v,vs[i]?=some v->all[j+i]?=some v)->bE c vs (EY j cs) fp:=by
 intro j vs
 induction vs generalizing j with
 |nil=>intro cs fp h _ _;cases cs with
  |nil=>exact h
  |cons _ _=>exact h.elim
 |cons v vs ih=>
  intro cs fp h mY Ej
  cases cs with
  |nil=>exact h.elim
  |cons x cs=>
   obtain⟨f1,f2,rfl,h1,h2⟩:=h
   simp only[cc,ae]at mY
   have i1:=ih (j+1) h2 mY.2 (λi u hu=>by rw[show j+1+i=j+(i+1) by omega];exact Ej (i+1) u (by simpa using hu))
   have Ks:=Ej 0 v rfl
   rw[dT]at Ks
   have IP:x.je=true->EY j (x::cs)=x::EY (j+1) cs->bE c (v::vs) (EY j (x::cs)) (f1++f2):=by rintro hf e1;obtain⟨rfl,k⟩:=pU (c':=c) h1 hf;rw[e1];exact⟨[],f2,rfl,k,i1⟩
   cases x with
   |sl fl e xs=>
    cases fl with
    |own t=>
     have gE:eZ c.hw c.w (.sl e) [v] xs f1:=by rw[Ds,QC];exact h1.1
     refine⟨f1,f2,rfl,⟨gE,λq hq=>?_⟩,i1⟩
     cases hq
     refine⟨Is _ (by omega),?_⟩
     rw[L5,show(3*j+1)/3=j by omega,Ks];rfl
    |arg k=>
     have hk:k=true:=by simpa[AC.wN]using mY.1
     subst hk
     exact⟨f1,f2,rfl,⟨h1.1,by rw[QC,Yu];exact h1.2⟩,i1⟩
    |loc ep pv=>cases mY.1
    |nest _ _ _ _ _ _=>cases mY.1
    |part _ _ _ _=>cases mY.1
    |fa _ _ _=>cases mY.1
   |int k n=>exact IP rfl rfl
   |bool b=>exact IP rfl rfl
   |str s=>exact IP rfl rfl
   |fn f=>exact IP rfl rfl
   |jn=>cases mY.1
   |ptr s off=>cases mY.1
   |zk fl e y i off=>cases mY.1
   |un=>cases mY.1
   |bot=>cases mY.1
theorem Qj {fp:fg}{b:Nat}(hA:∀k b' o,A k b' o->b'<w.heap.size/\b'≠b/\b'∉fp){fn:Func}{vs:ir}{arr:Array Value}{T:TypeId}{fr:Nat×Nat}(jJ:w.heap[b]?=some (.cells arr T fr))(qM:oF arr fr)(eK:bE (fD A hw w) arr.toList cs fp)(mY:cs.all (AC.wN true)=true)(hn:fp.Nodup)(uz:b∉fp)(gW:∀b'∈fp,b'<w.heap.size)(EO:hw b=0)(h:oH A w vs xs): mZ ⟨A,λb'=>b'=b\/b'∈fp,w,[.pointer (some ⟨b,0,none⟩)],λk b' o hb=>⟨(hA k b' o hb).1,λhm=>hm.elim (hA k b' o hb).2.1 (hA k b' o hb).2.2⟩⟩ (yp fn cs xs) {tmps:=(.pointer (some ⟨b,0,none⟩)::vs).toArray++Array.replicate (fn.ntmps-(Value.pointer (some ⟨b,0,none⟩)::vs).toArray.size) undef,defers:=[]} w:=by
 obtain⟨hl,hi⟩:=D7 h;let v0:Value:=.pointer (some ⟨b,0,none⟩);let C:Ctx:=⟨A,λb'=>b'=b\/b'∈fp,w,[v0],λk b' o hb=>⟨(hA k b' o hb).1,λhm=>hm.elim (hA k b' o hb).2.1 (hA k b' o hb).2.2⟩⟩
 let g:Gh:=⟨hw,λ_=>b,λb'=>if b'=b\/b'∈fp then some (.box 0) else none,λt=>(arr.toList[t/3]?).getD undef⟩
 have DD:=lp jJ;have tj:iR (yp fn cs xs) 0:=⟨EY 0 cs,rfl⟩
 have hle:(fD A (λ_=>0) w).Le (cG C g (yp fn cs xs) w):=⟨rfl,λt ht=>ht.elim,λ_ _ _ _ _ hv=>hv,aU _,λs hs=>hs.elim,λ_ b o u ho _=>absurd ho (Nat.not_lt_zero _)⟩
 have k1:=X4 (c:=cG C g (yp fn cs xs) w) (A:=A) rfl rfl rfl (λt ht=> .inl (by omega)) (all:=arr.toList) (λt=>rfl) 0 eK mY (λi v hv=>by rw[cp];exact hv);refine⟨g,rfl,?_,?_,λi av hs=>?_,λs po hs=>?_,λk v av hk=>by simp at hk,λb' x hx=>?_,Fr.refl _ _,⟨[],⟨[],[],rfl,⟨rfl,tj,rfl⟩,rfl⟩,by simp,by simp⟩⟩;simp[yp,start,hl];omega;simp[yp,start];have wC:((.one (.ptr 0 0)::xs)++List.replicate (fn.ntmps-(AV.one (.ptr 0 0)::xs).length) AV.bot)[i]?=some av:=hs;rcases cf i (xs.length+1)with aeR|yt;rw[bD (by simpa using aeR)]at wC;cases i with
 |zero=>
  simp at wC;subst wC;refine⟨[],?_,by simp,by simp⟩;have hvv:((v0::vs).toArray++Array.replicate (fn.ntmps-(v0::vs).toArray.size) undef).getD 0 undef=v0:=by simp[du,Array.getElem?_append]
  show fR _ (((v0::vs).toArray++Array.replicate (fn.ntmps-(v0::vs).toArray.size) undef).getD 0 undef) _ _;rw[hvv];exact lK ⟨rfl,tj,rfl⟩
 |succ i=>
  obtain⟨v,hv,hr⟩:=hi i av (by simpa using wC);refine⟨[],?_,by simp,by simp⟩;have hvv:((v0::vs).toArray++Array.replicate (fn.ntmps-(v0::vs).toArray.size) undef).getD (i+1) undef=v:=by
   have amN:i<vs.length:=by omega
   have Pw:vs[i]=v:=by rw[al amN]at hv;exact dD hv
   simp[du,Array.getElem?_append,amN,Pw]
  show fR _ (((v0::vs).toArray++Array.replicate (fn.ntmps-(v0::vs).toArray.size) undef).getD (i+1) undef) _ _;rw[hvv];exact hr.mono hle (by simp)
 rw[bq (by simpa using yt),dX]at wC;split at wC;cases wC;exact⟨[],fR.bot _ _,by simp,by simp⟩;cases wC;have wC:(some (EY 0 cs)::List.replicate (xs.length+(fn.ntmps-(xs.length+1))) (none:ax (aw AC)))[s]?=some (some po):=hs;cases s with|zero=>simp at wC;subst wC;refine⟨arr,T,fr,fp,jJ,qM,k1,hn,uz,λb' gM=>?_,?_,EO⟩;show(if b'=b\/b'∈fp then _ else _)=_;rw[aF (.inr gM)];show(if b=b\/b∈fp then _ else _)=_;rw[aF (.inl rfl)]|succ s=>simp only[eH,dX]at wC;split at wC<;>cases wC
 have zt:(if b'=b\/b'∈fp then some (jx.box 0) else none)=some x:=hx;split at zt;rename_i hm;rcases hm with rfl|hm;exact⟨DD,.inr (.inl rfl)⟩;exact⟨gW b' hm,.inr (.inr hm)⟩;cases zt
theorem oI {E:Env}{rs:aw (Bool×FT)}{t:FT}(hS:Sound P E Γ){fn:Func}(hf:P.funcs[f]?=some fn)(zP:(fn.name== "runtime.NumGoroutine")=false)(C9:Bn E Γ an Λ (fn.body.getD .skip)):gY P f {R:=kO rs×t.ct.D,fn:=W2 E Γ an Λ fn rs t,av:=λy=>xM rs y.1,back:=λy=>jc t y.2,bx:=true}:=by
 intro xs y hy;simp only at hy;unfold W2 at hy;split at hy;rename_i c cs rest hb;split at hy;rename_i hlen;refine⟨⟨fn,c,hf,hb,zP⟩,λ_ h=>(by cases h),λh=>(by cases h),λ_ MM apw he A w b vs arr T fr hw fp hA jJ qM eK hn uz gW EO fM=>?_,λh=>(by cases h)⟩;injection he with he1 he2;injection he1 with _ he3;subst he2;subst he3;refine calls_of_wp hf hb (wp_mono (O3 hS c (by rw[hb]at C9;exact C9) _ _ _ _ (Qj (fn:=fn) hA jJ qM eK hlen.2 hn uz gW EO fM) hy) ?_);rintro e a' w' ⟨ex,bK,he,hs,hk⟩
 have main:(aa (aa (qN bK E [(true,0)] fn.results.toList) (kM rs)) λr=>match bK.io,bK.boxes with
  |[.ptr 0 0],some po::_=>(match IX t (po.map AC.strip)with|some (x,[])=>some (r,x)|_=>none)
  |_,_=>none)=some y->
  a'.defers=[]/\∃v,(Go.results fn a'.tmps).run P w'=.ok v w'/\∃v_1 hw' fv iJ T' MZ jI,Ending.returned v=Ending.returned v_1/\fR (fD A hw' w') v_1 (xM rs y.1) fv/\w'.heap[b]?=some (.cells iJ T' MZ)/\oF iJ MZ/\
    bE (fD A hw' w') iJ.toList (jc t y.2) jI/\jI.Nodup/\b∉jI/\(∀b'∈jI,b'<w'.heap.size/\(b'∈fp\/w.heap.size<=b'))/\fv.Nodup/\(∀b'∈fv,b'<w'.heap.size/\(b'∈fp\/w.heap.size<=b')/\b'∉jI/\b'≠b)/\Fr (λb'=>b'=b\/b'∈fp) w w':=by
  intro gz
  obtain⟨g,hg⟩:=hs
  refine⟨hg.defers,?_⟩
  cases UX:qN bK E [(true,0)] fn.results.toList with
  |none=>rw[UX]at gz;cases gz
  |some ys=>
   rw[UX]at gz
   simp only[aa]at gz
   cases hrr:kM rs ys with
   |none=>rw[hrr]at gz;cases gz
   |some r0=>
    rw[hrr]at gz
    simp only at gz
    split at gz
    ·rename_i po tl L7 jt
     split at gz
     ·rename_i x hx
      cases gz
      obtain⟨v,fv,ec,uA,C7,Ch⟩:=HX hS.ty hg UX hrr
      obtain⟨fpi,hri,_,_⟩:=hg.io
      rw[L7]at hri
      obtain⟨g1,g2,_,arX,_⟩:=hri
      have GI:b=g.β 0:=by have:=arX.1;simp only[Value.pointer.injEq,ba,Addr.mk.injEq]at this;exact this.1
      obtain⟨iJ,T',MZ,jI,Fb,R8,hr',BB,Fe,hl',amJ,_⟩:=hg.boxes 0 po (by rw[jt];rfl)
      rw[<-GI]at Fb Fe amJ
      have lX:=wo hr'
      have GH:=wh hx
      rw[bR]at GH
      rw[GH]at lX
      have hM:∀b',(w.heap.size<=b'\/(b'=b\/b'∈fp))->b'≠b->b'∈fp\/w.heap.size<=b':=by rintro b' (h2|h2|h2) Az;exact .inr h2;exact absurd h2 Az;exact .inl h2
      refine⟨v,ec,v,g.hw,fv,iJ,T',MZ,jI,rfl,uA,Fb,R8,lX,BB,Fe,λb' gM=>?_,C7,λb' gM=>?_,hg.frame⟩
      ·have:=hg.fS b' _ (hl' b' gM)
       exact⟨this.1,hM b' this.2 (λe=>Fe (e▸gM))⟩
      ·obtain⟨own,It,M5⟩:=Ch b' gM
       have EN:g.ef b'≠some (.box 0):=by rw[M5];intro e;have e2:xd own=xd (true,0):=dD e;exact It (by rw[HP e2];simp)
       have Az:b'≠b:=λe=>EN (by rw[e];exact amJ)
       have:=hg.fS b' _ M5
       exact⟨this.1,hM b' this.2 Az,λhm=>EN (hl' b' hm),Az⟩
     ·cases gz
    ·cases gz
 cases e<;>cases ex<;>simp only[E4]at he;exact main hk;cases hk;exact main hk;cases hy;cases hy
theorem amh {E:Env}{t:FT}(hS:Sound P E Γ){fn:Func}(hf:P.funcs[f]?=some fn)(zP:(fn.name== "runtime.NumGoroutine")=false)(C9:Bn E Γ an Λ (fn.body.getD .skip)):gY P f {R:=t.ct.D,fn:=O8 E Γ an Λ fn t,av:=λ_=> .bot,back:=λy=>jc t y,pr:=true}:=by
 intro xs y hy;simp only at hy;unfold O8 at hy;cases hb:fn.body with
 |none=>rw[hb]at hy;cases hy
 |some c=>
  rw[hb]at hy;simp only at hy;split at hy;have key:af2 P f {R:=t.ct.D,fn:=O8 E Γ an Λ fn t,av:=λ_=> .bot,back:=λy=>jc t y,pr:=true} y xs:=by
   intro A w vs hA fM;refine calls_of_wp hf hb (wp_mono (O3 hS c (by rw[hb]at C9;exact C9) _ _ _ _ (Hn hA fM) hy) ?_);rintro e a' w' ⟨ex,bK,he,hs,hk⟩
   have main:(match fn.results.toList with
    |[.tmp i]=>match bK.get i with
     | .val false [.ptr s 0]=>match (nth bK.boxes s).getD none with
       |some cs=>if cs.all AC.Gt=true then(match IX t (cs.map AC.strip)with|some (x,[])=>some x|_=>none) else none
       |none=>none
     |_=>none
    |_=>none)=some y->a'.defers=[]/\∃v,(Go.results fn a'.tmps).run P w'=.ok v w'/\∃b arr T fr hw,Ending.returned v=.returned (.pointer (some ⟨b,0,none⟩))/\w.heap.size<=b/\w'.heap[b]?=some (.cells arr T fr)/\oF arr fr/\bE (fD A hw w') arr.toList (jc t y) []/\Fr (λ_=>False) w w':=by
    intro gz
    obtain⟨g,hg⟩:=hs
    refine⟨hg.defers,?_⟩
    split at gz
    ·rename_i i hri
     split at gz
     ·rename_i s hp
      cases jt:(nth bK.boxes s).getD none with
      |none=>rw[jt]at gz;cases gz
      |some cs=>
       rw[jt]at gz
       simp only at gz
       split at gz
       ·rename_i mY
        split at gz
        ·rename_i x hx
         cases gz
         have jt:bK.boxes[s]?=some (some cs):=by rw[dI]at jt;cases hq:bK.boxes[s]? with|none=>rw[hq]at jt;simp at jt|some q=>rw[hq]at jt;simp at jt;rw[jt]
         obtain⟨fp0,sU,_,_⟩:=hg.slot i
         rw[hp]at sU
         have sU:=yT sU
         obtain⟨arr,T,fr,fp,jJ,qM,eK,hn,uz,hl,EM,EO⟩:=hg.boxes s cs jt
         obtain⟨Bw,vs,fE,Kq⟩:=arg_val (c:=cG _ g bK w') (c':=cG _ g bK w') rfl rfl (v:=.agg arr.toList.toArray) (x:=.val true cs) ⟨arr.toList,rfl,eK⟩ mY
         have hvs:arr.toList=vs:=by have fE:Value.agg arr.toList.toArray=.agg vs.toArray:=fE;simp only[Value.agg.injEq]at fE;simpa using congrArg Array.toList fE
         rw[<-hvs]at Kq
         have lX:=wo Kq
         have GH:=wh hx
         rw[bR]at GH
         rw[GH]at lX
         have ec:(Go.results fn a'.tmps).run P w'=.ok (a'.tmps.getD i undef) w':=by
          have he:fn.results=#[.tmp i]:=by apply eQ;exact hri
          have ahS:=Bb (P:=P) (AZ a'.tmps) (λ_=>a'.tmps.getD i undef) w' fn.results (λx hx=>by rw[he]at hx;simp at hx;subst hx;rfl)
          have hd:Go.results fn a'.tmps=(do
           let vs<-fn.results.mapM (AZ a'.tmps)
           pure (if h:vs.size=1 then vs[0] else .tuple vs)):=by
           unfold Go.results
           congr 1
          rw[hd];simp only[Sem.run_bind,ahS,Result.andThen_ok,Sem.run_pure];rw[he];simp
         refine⟨_,ec,g.β s,arr,T,fr,g.hw,congrArg Ending.returned sU,?_,jJ,qM,lX,hg.frame⟩
         exact(hg.fS _ _ EM).2.resolve_right (λf=>f)
        ·cases gz
       ·cases gz
     ·cases gz
    ·cases gz
   cases e<;>cases ex<;>simp only[E4]at he;exact main hk;cases hk;exact main hk
  refine⟨⟨fn,c,hf,hb,zP⟩,λ_ _ A w vs hA fM=>?_,λh=>(by cases h),λh=>(by cases h),λ_=>key⟩;refine(key A w vs hA fM).mono ?_;rintro e w' ⟨b,arr,T,fr,hw,rfl,_,_,_,_,jf⟩;exact⟨_,hw,[],rfl,fR.bot _ _,List.nodup_nil,(λb hb=>by cases hb),jf⟩;cases hy
end Go.Dn
