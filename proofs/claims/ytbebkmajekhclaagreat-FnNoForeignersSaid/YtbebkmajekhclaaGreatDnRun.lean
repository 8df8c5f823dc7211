import Derived.Test.YtbebkmajekhclaaGreatDnAny
/- The soundness of the abstract semantics: code and functions. -/
namespace Go.Dn
open Go.RowKit
variable {P:Program} {C:Ctx} {st:AS} {a:Act} {w:World} {R:Type} {r:R}
variable {an:An} {Γ:BV} {g:Gh} {Λ:lZ} {f:Nat} {hw:Nat->Nat} {A:Rg} {rs:ax (Bool×FT)} {ys:ax (Bool×ax AC)} {cs:ax AC} {xs:ax AV}
def JJ:Exit->Ex->Prop
 | .normal,.normal=>True
 | .ret,.ret=>True
 | .exit i,.exit j=>i=j
 |_,_=>False
def aqa (C:Ctx)(K:Ex->AS->az R)(r:R)(e:Exit)(a:Act)(w:World):Prop:=
 ∃ex bZ,JJ e ex/\pL C bZ a w/\K ex bZ=some r
theorem agR {E:Env}(hS:Sound P E Γ){id:Nat}{ops:Array Oper}{d:Bool}(h:pL C st a w){K:AS->az R}(hk:VZ E Γ an id ops.toList d st K=some r){Q:Exit->Act->World->Prop}(hq:∀bZ a' w',pL C bZ a' w'->K bZ=some r->Q .normal a' w'):(Code.region id ops d).wp P Q a w:=by
 unfold VZ at hk;split at hk;rw[Pk]at hk;cases ho:F9 E Γ an ops.toList d st some with|none=>rw[ho]at hk;cases hk|some st1=>rw[ho]at hk;exact adI hS h ho (λa' w' hs=>hq _ _ _ hs hk)
 rename_i s hm;split at hk;rename_i aoB;rw[Pk]at hk;cases ho:F9 E Γ.calm an ops.toList d st some with|none=>rw[ho]at hk;cases hk|some st1=>rw[ho]at hk;simp only[fu]at hk;cases hb:getBool st1 s with|none=>rw[hb]at hk;cases hk|some b=>rw[hb]at hk;simp only[aa]at hk;have hn:=agq (alF Γ) (λo NY=>aF.1 aoB o NY) ho;exact adI hS.calm h ho (λa' w' hs=>hq _ _ _ (hs.weaken hn hb) hk)
 cases hk
def wO (E:Env)(Γ:BV)(an:An)(Λ:lZ)(c:Code):Prop:=
 ∃n,∀(R:Type)(st:AS)(K:Ex->AS->az R)(r:R),(Λ (ff c)).go st K=some r->Dd (an.mask (ff c)) (den E Γ an Λ c) n st K=some r
def Rs (E:Env)(Γ:BV)(an:An)(Λ:lZ)(c:Code):Prop:=
 ∀(R:Type)(st:AS)(K:Ex->AS->az R)(r:R),(Λ (FX c)).go st K=some r->den E Γ an Λ c st (λe bZ=>K e (bZ.mask (an.mask (FX c+1))))=some r
def BU (E:Env)(Γ:BV)(an:An)(Λ:lZ)(c:Code):Prop:=(∀c'∈jd c,wO E Γ an Λ c')/\∀c'∈mf an.cut c,Rs E Γ an Λ c'
theorem ah2 (c:Code):mf [] c=[]:=by induction c with|seq a b iha ihb=>simp[mf,iha,ihb]|cond _ a b iha ihb=>simp[mf,iha,ihb]|block _ c ih=>simpa[mf]using ih|loop c ih=>simpa[mf]using ih|_=>rfl
theorem BU.of {E:Env}{c:Code}(h:∀c'∈jd c,wO E Γ an Λ c')(hc:an.cut=[]):BU E Γ an Λ c:=⟨h,by rw[hc,ah2];simp⟩
theorem UY {E:Env}(hS:Sound P E Γ):∀(c:Code)(_:BU E Γ an Λ c)(st:AS)(a:Act)(w:World)(K:Ex->AS->az R),pL C st a w->den E Γ an Λ c st K=some r->c.wp P (aqa C K r) a w:=by
 intro c;induction c with
 |skip=>intro Hv st a w K h hk;exact wp_skip ⟨.normal,st,cB,h,hk⟩
 |region id ops d=>intro Hv st a w K h hk;exact agR hS h (by simpa only[den]using hk) (λbZ a' w' hs he=>⟨.normal,bZ,cB,hs,he⟩)
 |seq x y ihx ihy=>
  intro Hv st a w K h hk;have ihx:=ihx ⟨λc hc=>Hv.1 c (by simp[jd,hc]),λc hc=>Hv.2 c (by simp[mf,hc])⟩;have ihy:=ihy ⟨λc hc=>Hv.1 c (by simp[jd,hc]),λc hc=>Hv.2 c (by simp only[mf];cases an.cut.contains (ff y)<;>simp[hc])⟩;simp only[den]at hk;refine wp_seq (wp_mono (ihx st a w _ h hk) ?_);rintro e a' w' ⟨ex,bZ,he,hs,Gm⟩;cases e<;>cases ex<;>simp only[JJ]at he;simp only at Gm;cases gb:an.cut.contains (ff y)with|false=>rw[gb]at Gm;exact ihy bZ a' w' K hs Gm|true=>rw[gb]at Gm;have hc:=Hv.2 y (by simp only[mf,gb];simp) _ _ _ _ Gm;refine wp_mono (ihy _ a' w' _ (hs.mask _) hc) ?_;rintro e2 a2 w2 ⟨ex2,st2,he2,hs2,hk2⟩;exact⟨ex2,_,he2,hs2.mask _,hk2⟩
  exact⟨.exit _,bZ,he,hs,Gm⟩;exact⟨.ret,bZ,cB,hs,Gm⟩
 |cond c x y ihx ihy=>
  intro Hv st a w K h hk;have ihx:=ihx ⟨λc hc=>Hv.1 c (by simp[jd,hc]),λc hc=>Hv.2 c (by simp[mf,hc])⟩;have ihy:=ihy ⟨λc hc=>Hv.1 c (by simp[jd,hc]),λc hc=>Hv.2 c (by simp[mf,hc])⟩;simp only[den]at hk;split at hk;rename_i t hc;have hv:a.eval c=.bool t:=by obtain⟨g,hg⟩:=h;have:=hg.rd c;rw[hc]at this;exact xG this
  cases t with|true=>exact wp_cond_true hv (ihx st a w K h hk)|false=>exact wp_cond_false hv (ihy st a w K h hk)
  cases hk
 |block id c ih=>intro Hv st a w K h hk;have ih:=ih ⟨λc hc=>Hv.1 c (by simpa[jd]using hc),λc hc=>Hv.2 c (by simpa[mf]using hc)⟩;simp only[den]at hk;refine wp_block (wp_mono (ih st a w _ h hk) ?_);rintro e a' w' ⟨ex,bZ,he,hs,Gm⟩;cases e<;>cases ex<;>simp only[JJ]at he;exact⟨.normal,bZ,cB,hs,Gm⟩;rename_i i j;subst he;simp only[Exit.inBlock];simp only at Gm;by_cases hi:i=id;subst hi;rw[aI rfl];simp only[fS,ch]at Gm;exact⟨.normal,bZ,cB,hs,Gm⟩;rw[aG hi];rw[aG (by simpa using hi)]at Gm;exact⟨.exit i,bZ,rfl,hs,Gm⟩;exact⟨.ret,bZ,cB,hs,Gm⟩
 |loop c ih=>
  intro Hv st a w K h hk;have ih:=ih ⟨λc hc=>Hv.1 c (by simp[jd,hc]),λc hc=>Hv.2 c (by simpa[mf]using hc)⟩;obtain⟨n,hn⟩:=Hv.1 c (by simp[jd]);simp only[den]at hk;intro b k cs
  have key:∀m st a w,pL C st a w->Dd (an.mask (ff c)) (den E Γ an Λ c) m st K=some r->
   ∃e a' w',aqa C K r e a' w'/\Arrives P (lone (b.at a (.code c:: .inLoop c::k)) cs w) b k cs e a' w':=by
   intro m
   induction m with
   |zero=>intro st a w _ hk;cases hk
   |succ m ihm=>
    intro st a w h hk
    simp only[Dd]at hk
    obtain⟨e,aaj,adj,⟨ex,bZ,he,hs,Gm⟩,NV⟩:=ih st a w _ h hk b (.inLoop c::k) cs
    cases e<;>cases ex<;>simp only[JJ]at he
    ·obtain⟨an9,an0,apH,ajd,Vd⟩:=ihm _ aaj adj (hs.mask _) Gm
     exact⟨an9,an0,apH,ajd,.of_steps (Steps.trans NV (.one step_inLoop)) Vd⟩
    ·exact⟨.exit _,aaj,adj,⟨.exit _,_,he,hs.mask _,Gm⟩,.pass (x:=.inLoop c) rfl (λ_ _=> .inl (by simp)) NV⟩
    ·exact⟨.ret,aaj,adj,⟨.ret,_,cB,hs.mask _,Gm⟩,.pass (x:=.inLoop c) rfl (λ_ _=> .inl (by simp)) NV⟩
  cases hp:an.peel.contains (ff c)with
  |false=>rw[hp]at hk;obtain⟨e,a',w',hq,NV⟩:=key n _ a w (h.mask _) (hn _ _ _ _ hk);exact⟨e,a',w',hq,.of_steps (.one step_loop) NV⟩
  |true=>rw[hp]at hk;simp only[ah]at hk;obtain⟨e,aaj,adj,⟨ex,bZ,he,hs,Gm⟩,NV⟩:=ih _ a w _ (h.mask _) hk b (.inLoop c::k) cs;cases e<;>cases ex<;>simp only[JJ]at he;obtain⟨an9,an0,apH,ajd,Vd⟩:=key n _ aaj adj (hs.mask _) (hn _ _ _ _ Gm);exact⟨an9,an0,apH,ajd,.of_steps (Steps.trans (.one step_loop) (Steps.trans NV (.one step_inLoop))) Vd⟩;exact⟨.exit _,aaj,adj,⟨.exit _,_,he,hs.mask _,Gm⟩,.of_steps (.one step_loop) (.pass (x:=.inLoop c) rfl (λ_ _=> .inl (by simp)) NV)⟩;exact⟨.ret,aaj,adj,⟨.ret,_,cB,hs.mask _,Gm⟩,.of_steps (.one step_loop) (.pass (x:=.inLoop c) rfl (λ_ _=> .inl (by simp)) NV)⟩
 |exit id=>intro Hv st a w K h hk;exact wp_exit ⟨.exit id,st,rfl,h,hk⟩
 |ret=>intro Hv st a w K h hk;exact wp_ret ⟨.ret,st,cB,h,hk⟩
 |_=>intro Hv st a w K h hk;simp[den]at hk
theorem IE:∀{vs:jt}{xs:ax AV},rz A w vs xs->vs.length=xs.length/\∀(i:Nat)(x:AV),xs[i]?=some x->∃v,vs[i]?=some v/\gU (gD A (λ_=>0) w) v x []
 |[],[],_=>⟨rfl,by simp⟩
 |v::vs,x::xs,h=>by obtain⟨hl,hi⟩:=IE h.2;refine⟨by simp[hl],λi y hy=>?_⟩;cases i with|zero=>simp at hy;subst hy;exact⟨v,rfl,h.1⟩|succ i=>exact hi i y (by simpa using hy)
 |[],_::_,h=>h.elim
 |_::_,[],h=>h.elim
theorem Mu (hA:∀k b o,A k b o->b<w.heap.size){fn:Func}{vs:jt}(h:rz A w vs xs): pL ⟨A,λ_=>False,w,[],λk b o hb=>⟨hA k b o hb,λf=>f⟩⟩ (start fn xs) {tmps:=vs.toArray++Array.replicate (fn.ntmps-vs.toArray.size) undef,defers:=[]} w:=by
 obtain⟨hl,hi⟩:=IE h;let C:Ctx:=⟨A,λ_=>False,w,[],λk b o hb=>⟨hA k b o hb,λf=>f⟩⟩
 let g:Gh:=⟨λ_=>0,λ_=>0,λ_=>none,λ_=>undef⟩
 have hle:(gD A (λ_=>0) w).Le (df C g (start fn xs) w):=⟨rfl,λt ht=>ht.elim,λ_ _ _ _ _ hv=>hv,bj _,λs hs=>hs.elim,λ_ b o u ho hu=>⟨ho,hu⟩⟩
 refine⟨g,rfl,?_,?_,λi av hs=>?_,λs cs hs=>?_,λk v av hk=>by simp at hk,λb x hx=>(by cases hx),Fr.refl _ _,⟨[],rfl,by simp,by simp⟩⟩;simp[start,hl];simp[start];have yp:(xs++List.replicate (fn.ntmps-xs.length) AV.bot)[i]?=some av:=hs;rcases cr i xs.length with gH|Cg;rw[bF gH]at yp;obtain⟨v,hv,hr⟩:=hi i av yp;refine⟨[],?_,by simp,by simp⟩;have hvv:(vs.toArray++Array.replicate (fn.ntmps-vs.toArray.size) undef).getD i undef=v:=by
  have alT:i<vs.length:=by omega
  have hv':vs[i]=v:=by rw[al alT]at hv;exact bN hv
  simp[dW,Array.getElem?_append,alT,hv']
 show gU _ ((vs.toArray++Array.replicate (fn.ntmps-vs.toArray.size) undef).getD i undef) _ _;rw[hvv];exact hr.mono hle (by simp);rw[bA Cg,eV]at yp;split at yp;cases yp;exact⟨[],gU.bot _ _,by simp,by simp⟩;cases yp;have yp:(List.replicate (xs.length+(fn.ntmps-xs.length)) (none:az (ax AC)))[s]?=some (some cs):=hs;rw[eV]at yp;split at yp<;>cases yp
theorem ada {v:Value}{x:AC}{fp:fK}(h:iC (df C g st w) v x fp):iC (gD C.A g.hw w) v x.strip fp:=by
 cases x with
 |int k n=>exact h
 |bool b=>exact h
 |str s=>exact h
 |kI=>exact h
 |fn f=>exact h
 |un=>exact h
 |bot=>exact h
 |ptr s off=>exact h.2.2
 |Dy fl e y i off=>cases fl with|own t=>exact h.elim|nest _ _ _ _ _ _=>exact h.elim|part _ _ _ _=>exact h.elim|ga _ _ _=>exact h.elim|arg _=>exact h.1|loc ep pv=>exact h.1
 |sl fl e xs=>
  cases fl with
  |nest _ _ _ _ _ _=>exact h.1
  |part _ _ _ _=>exact h.1
  |ga _ _ _=>obtain⟨_,⟨k,hk,h3⟩,_⟩:=h;exact⟨λq hq=>(by cases hq),⟨k,hk,h3⟩,by simp⟩
  |own t=>exact⟨h.1,by simp⟩
  |arg _=>exact h
  |loc ep pv=>exact h.1
theorem Ap:∀{vs:jt}{xs:ax AC}{fp:fK},bU (df C g st w) vs xs fp->bU (gD C.A g.hw w) vs (xs.map AC.strip) fp
 |[],[],_,h=>h
 |_::_,_::_,_,h=>by obtain⟨f1,f2,rfl,h1,h2⟩:=h;exact⟨f1,f2,rfl,ada h1,Ap h2⟩
 |[],_::_,_,h=>h.elim
 |_::_,[],_,h=>h.elim
def E7 (tmps:Array Value):ResultVar->Sem Value
 | .tmp t=>pure (tmps.getD t undef)
 | .cell a t=>do loadVar t (<-asAddr (tmps.getD a undef))
def Bi:Bool×Nat->kZ
 |(false,t)=> .slot t
 |(true,s)=> .box s
theorem Na {x y:Bool×Nat}(h:Bi x=Bi y):x=y:=by rcases x with⟨_|_,a⟩<;>rcases y with⟨_|_,b⟩<;>simp[Bi]at h<;>rw[h]
theorem amr {E:Env}(hE:kq P E.ty)(h:eJ C g st a w []){rv:ResultVar}{own:Bool×Nat}{gg:Bool}(hr:QH st E rv=some (own,gg,cs)): ∃v vs fp,(E7 a.tmps rv).run P w=.ok v w/\Cut gg v vs/\bU (gD C.A g.hw w) vs cs fp/\fp.Nodup/\∀b∈fp,g.ft b=some (Bi own):=by
 cases rv with
 |tmp t=>simp only[QH]at hr;split at hr;rename_i g' sq pJ;cases hr;obtain⟨fp,fM,hn,hl⟩:=h.slot t;rw[pJ]at fM;obtain⟨vs,gb,fM⟩:=fM;exact⟨_,vs,fp,rfl,gb,Ap fM,hn,hl⟩;cases hr
 |cell t T=>
  simp only[QH]at hr;split at hr;rename_i sh s off hT hp;cases kQ:(nth st.boxes s).getD none with
  |none=>rw[kQ]at hr;cases hr
  |some sq=>
   rw[kQ]at hr;simp only[fu]at hr;split at hr;rename_i iw;cases hr;have kQ:st.boxes[s]?=some (some sq):=by rw[eH]at kQ;cases hq:st.boxes[s]? with|none=>rw[hq]at kQ;simp at kQ|some q=>rw[hq]at kQ;simp at kQ;rw[kQ]
   obtain⟨fp0,wM,_,_⟩:=h.slot t;rw[hp]at wM;have wM:=Dg wM;obtain⟨arr,T',fr,fp,lz,uv,fM,hn,yn,hl,Jq,Jt⟩:=h.boxes s sq kQ;have hlen:=fM.length;obtain⟨v,fg,gb⟩:=Ag (hE T sh hT) (g.β s) off ((arr.toList.drop off).take sh.ct.size) (by simp at hlen⊢;omega) (Sv lz off sh.ct.size);obtain⟨f1,f2,f3,rfl,r1,r2,r3⟩:=fM.mid off sh.ct.size;have Js:=(aQ.1 (aQ.1 hn).1).2.1;refine⟨v,_,f2,?_,gb,Ap r2,Js,λb hb=>hl b (by simp[hb])⟩;simp only[E7,wM,asAddr,Sem.run_bind,Sem.run_pure,Result.andThen_ok];exact fg;cases hr
  cases hr
theorem aek {E:Env}(hE:kq P E.ty)(h:eJ C g st a w [])(gf:ResultVar->Value):∀(rs:ax ResultVar)(had:ax (Bool×Nat))(ys:ax (Bool×ax AC)),uy st E had rs=some ys->
 (∀rv v,(E7 a.tmps rv).run P w=.ok v w->gf rv=v)->
 (∀rv∈rs,(E7 a.tmps rv).run P w=.ok (gf rv) w)/\∃fp,gU.sk (gD C.A g.hw w) (rs.map gf) ys fp/\fp.Nodup/\∀b∈fp,∃own,own∉had/\g.ft b=some (Bi own)
 |[],had,ys,hr,hgf=>by cases hr;exact⟨by simp,[],rfl,by simp,by simp⟩
 |rv::rs,had,ys,hr,hgf=>by
  simp only[uy]at hr;cases h1:QH st E rv with
  |none=>rw[h1]at hr;cases hr
  |some x=>
   obtain⟨own,gg,cs⟩:=x;rw[h1]at hr;simp only[fu]at hr;split at hr;cases hr;rename_i NX;have NX:own∉had:=by simpa using NX
   cases h2:uy st E (own::had) rs with|none=>rw[h2]at hr;cases hr|some xs=>rw[h2]at hr;simp only[fu,bq]at hr;subst hr;obtain⟨v,vs,ta,fg,gb,fM,Js,hl1⟩:=amr hE h h1;obtain⟨ajg,fp2,PV,BL,BK⟩:=aek hE h gf rs (own::had) xs h2 hgf;have hv:=hgf rv v fg;refine⟨λrv' hm=>?_,ta++fp2,⟨ta,fp2,rfl,⟨vs,by rw[hv];exact gb,fM⟩,PV⟩,?_,λb hb=>?_⟩;rcases bS.1 hm with rfl|hm;rw[hv];exact fg;exact ajg rv' hm;refine aQ.2 ⟨Js,BL,λb hb b' iI he=>?_⟩;subst he;obtain⟨arh,Ht,Gn⟩:=BK b iI;rw[hl1 b hb]at Gn;have:=Na (bN Gn);subst this;exact Ht (by simp);rcases ay.1 hb with hb|hb;exact⟨own,NX,hl1 b hb⟩;obtain⟨arh,Ht,Gn⟩:=BK b hb;exact⟨arh,λhm=>Ht (by simp[hm]),Gn⟩
theorem FK.afj {fl:FK}{f:sj}(h:fl.fits f=true):f=fl.flag:=by
 unfold FK.fits at h;split at h;rename_i t t';have:t=t':=by simpa using h
 subst this;rfl;rename_i k;have:k=false:=by simpa using h
 subst this;rfl;rename_i k;have:k=true:=h;subst this;rfl;rfl;rename_i j t j' t';simp only[ae,bg]at h;obtain⟨rfl,rfl⟩:=h;rfl;cases h
theorem Ai:∀{t:FT}{cs r:ax AC}{x:t.ct.D},Ot t cs=some (x,r)->cs=kv t x++r:=by
 intro t;induction t with
 |int k=>intro cs r x h;cases cs with|nil=>simp[Ot]at h|cons y ys=>cases y<;>simp[Ot]at h;obtain⟨rfl,rfl,rfl⟩:=h;rfl
 |bool=>intro cs r x h;cases cs with|nil=>simp[Ot]at h|cons y ys=>cases y<;>simp[Ot]at h;obtain⟨rfl,rfl⟩:=h;rfl
 |str=>intro cs r x h;cases cs with|nil=>simp[Ot]at h|cons y ys=>cases y<;>simp[Ot]at h;obtain⟨rfl,rfl⟩:=h;rfl
 |sl fl e=>
  intro cs r x h;cases cs with
  |nil=>simp[Ot]at h
  |cons y ys=>
   cases y with
   |sl fl' e' xs=>
    simp only[Ot]at h;split at h
    ·rename_i he;subst he;cases hf:fl.fits fl' with
     |false=>rw[hf]at h;cases h
     |true=>
      rw[hf]at h;cases h;rw[FK.afj hf];have hn:fl.isNil=false:=by cases fl<;>first|rfl|(unfold FK.fits at hf;cases hf)
      simp only[kv,hn,af];rfl
    cases h
   |kI=>simp only[Ot]at h;cases hn:fl.isNil with|false=>rw[hn]at h;cases h|true=>rw[hn]at h;cases h;simp only[kv,hn,ah];rfl
   |_=>simp[Ot]at h
 |pair a b iha ihb=>intro cs r x h;simp only[Ot]at h;obtain⟨⟨x1,r1⟩,h1,h⟩:=aZ.1 h;obtain⟨⟨x2,r2⟩,h2,h⟩:=aZ.1 h;cases h;have h3:r1=kv b x2++r2:=ihb h2;rw[iha h1,h3];simp[kv]
theorem M9:∀(rs:ax (Bool×FT))(ys:ax (Bool×ax AC))(y:lX rs),mO rs ys=some y->ys=apu rs y
 |[],[],y,_=>rfl
 |[],_::_,y,h=>by simp[mO]at h
 |[(g,t)],ys,y,h=>by
  cases ys with
  |nil=>simp[mO]at h
  |cons p ys=>
   cases ys with
   |cons _ _=>simp[mO]at h
   |nil=>
    obtain⟨g',cs⟩:=p;simp only[mO]at h;cases hg:g==g' with
    |false=>rw[hg]at h;cases h
    |true=>
     rw[hg]at h;have:g=g':=by simpa using hg
     subst this;simp only[ah]at h;split at h;rename_i x hx;cases h;have:=Ai hx;rw[bD]at this;rw[this];rfl;cases h
 |(g,t)::p::r,ys,y,h=>by
  cases ys with
  |nil=>simp[mO]at h
  |cons q ys=>
   obtain⟨g',cs⟩:=q;simp only[mO]at h;cases hg:g==g' with
   |false=>rw[hg]at h;cases h
   |true=>
    rw[hg]at h;have:g=g':=by simpa using hg
    subst this;simp only[ah]at h;split at h;rename_i x hx;obtain⟨z,hz,h⟩:=aZ.1 h;cases h;have h1:=Ai hx;rw[bD]at h1;rw[h1,M9 (p::r) ys z hz];rfl;cases h
theorem Nl {E:Env}(hE:kq P E.ty){fn:Func}{bZ:AS}{a':Act}{w':World}(hg:eJ C g bZ a' w' []){had:ax (Bool×Nat)}(hra:uy bZ E had fn.results.toList=some ys){y:lX rs}(iA:mO rs ys=some y): ∃v fp,(Go.results fn a'.tmps).run P w'=.ok v w'/\gU (gD C.A g.hw w') v (BX rs y) fp/\fp.Nodup/\∀b∈fp,∃own,own∉had/\g.ft b=some (Bi own):=by
 have hys:=M9 rs ys y iA;let gf:ResultVar->Value:=λrv=>match (E7 a'.tmps rv).run P w' with| .ok v _=>v|_=>undef
 obtain⟨ajg,fp,fM,Hs,Gn⟩:=aek hE hg gf fn.results.toList had ys hra (λrv v hv=>by simp only[gf,hv]);have aon:=E9 (P:=P) (E7 a'.tmps) gf w' fn.results (λx hx=>ajg x (by simpa using hx));have fg:(Go.results fn a'.tmps).run P w'=.ok (if h:(fn.results.map gf).size=1 then(fn.results.map gf)[0] else .tuple (fn.results.map gf)) w':=by
  have:Go.results fn a'.tmps=(do
   let vs<-fn.results.mapM (E7 a'.tmps)
   pure (if h:vs.size=1 then vs[0] else .tuple vs)):=by
   unfold Go.results
   congr 1
  rw[this];simp only[Sem.run_bind,aon,Result.andThen_ok,Sem.run_pure]
 refine⟨_,fp,fg,?_,Hs,Gn⟩;have XP:(fn.results.map gf).toList=fn.results.toList.map gf:=by simp
 unfold BX;rw[<-hys];cases ys with
 |nil=>
  have aos:fn.results.toList.map gf=[]:=by cases hm:fn.results.toList.map gf with|nil=>rfl|cons u us=>rw[hm]at fM;exact fM.elim
  have vZ:¬(fn.results.map gf).size=1:=by rw[<-Array.length_toList,XP,aos];simp
  rw[dif_neg vZ];exact⟨_,by rw[<-XP],fM⟩
 |cons y1 ys=>
  cases ys with
  |nil=>
   obtain⟨gg,cs⟩:=y1;cases hm:fn.results.toList.map gf with
   |nil=>rw[hm]at fM;exact fM.elim
   |cons u us=>
    rw[hm]at fM;obtain⟨f1,f2,rfl,abB,wy⟩:=fM;cases us with
    |cons _ _=>exact wy.elim
    |nil=>
     cases wy;have NV:fn.results.map gf=#[u]:=by apply fR;rw[XP,hm]
     have:(if h:(fn.results.map gf).size=1 then(fn.results.map gf)[0] else .tuple (fn.results.map gf))=u:=by rw[dif_pos (by rw[NV];rfl)];simp only[NV];rfl
     rw[this,bD];exact abB
  |cons y2 ys=>
   have vZ:¬(fn.results.map gf).size=1:=by rw[<-Array.length_toList,XP];cases hm:fn.results.toList.map gf with|nil=>simp|cons u us=>rw[hm]at fM;obtain⟨f1,f2,rfl,abB,wy⟩:=fM;cases us with|nil=>exact wy.elim|cons u2 us=>simp
   rw[dif_neg vZ];exact⟨_,by rw[<-XP],fM⟩
theorem QI {E:Env}(hE:kq P E.ty){fn:Func}{bZ:AS}{a':Act}{w':World}(hg:eJ C g bZ a' w' [])(hra:uy bZ E [] fn.results.toList=some ys){y:lX rs}(iA:mO rs ys=some y): ∃v fp,(Go.results fn a'.tmps).run P w'=.ok v w'/\gU (gD C.A g.hw w') v (BX rs y) fp/\fp.Nodup/\∀b∈fp,∃own,g.ft b=some (Bi own):=by obtain⟨v,fp,h1,h2,h3,h4⟩:=Nl hE hg hra iA;exact⟨v,fp,h1,h2,h3,λb hb=>(h4 b hb).imp λ_ h=>h.2⟩
theorem afo {E:Env}{rs:ax (Bool×FT)}(hS:Sound P E Γ){fn:Func}(hf:P.funcs[f]?=some fn)(D8:(fn.name== "runtime.NumGoroutine")=false)(Hv:BU E Γ an Λ (fn.body.getD .skip)):iZ P f {R:=lX rs,fn:=Ga E Γ an Λ fn rs,av:=BX rs}:=by
 intro xs y hy;simp only at hy;unfold Ga at hy;cases hb:fn.body with
 |none=>rw[hb]at hy;cases hy
 |some c=>
  rw[hb]at hy;simp only at hy;split at hy;refine⟨⟨fn,c,hf,hb,D8⟩,λ_ _ A w vs hA gP=>?_,λh=>(by cases h),λh=>(by cases h),λh=>(by cases h)⟩;refine calls_of_wp hf hb (wp_mono (UY hS c (by rw[hb]at Hv;exact Hv) _ _ _ _ (Mu hA gP) hy) ?_);rintro e a' w' ⟨ex,bZ,he,hs,hk⟩;have main:aa (uy bZ E [] fn.results.toList) (mO rs)=some y->a'.defers=[]/\∃v,(Go.results fn a'.tmps).run P w'=.ok v w'/\∃v_1 hw fp,Ending.returned v=Ending.returned v_1/\gU (gD A hw w') v_1 (BX rs y) fp/\fp.Nodup/\(∀b∈fp,w.heap.size<=b/\b<w'.heap.size)/\Fr (λ_=>False) w w':=by intro iA;obtain⟨g,hg⟩:=hs;refine⟨hg.defers,?_⟩;cases hra:uy bZ E [] fn.results.toList with|none=>rw[hra]at iA;cases iA|some ys=>rw[hra]at iA;obtain⟨v,fp,fg,fM,Hs,Gn⟩:=QI hS.ty hg hra iA;refine⟨v,fg,v,g.hw,fp,rfl,fM,Hs,λb hb=>?_,hg.frame⟩;obtain⟨own,hl⟩:=Gn b hb;have:=hg.gW b _ hl;exact⟨this.2.resolve_right (λf=>f),this.1⟩
  cases e<;>cases ex<;>simp only[JJ]at he;exact main hk;cases hk;exact main hk;cases hy
theorem aiT {E:Env}{RB:ax (Bool×FT)}(h2:lX RB=lX rs)(hS:Sound P E Γ){fn:Func}(hf:P.funcs[f]?=some fn)(D8:(fn.name== "runtime.NumGoroutine")=false)(Hv:BU E Γ an Λ (fn.body.getD .skip)):iZ P f {R:=Bool×lX rs,fn:=evalAlt E Γ an Λ fn rs RB h2,av:=λy=>BX rs y.2,sel:=λy=>y.1,alt:=λy=>BX RB (cast h2.symm y.2)}:=by
 intro xs y hy;simp only at hy;unfold evalAlt at hy;cases hb:fn.body with
 |none=>rw[hb]at hy;cases hy
 |some c=>
  rw[hb]at hy;simp only at hy;split at hy;refine⟨⟨fn,c,hf,hb,D8⟩,λ_ _ A w vs hA gP=>?_,λh=>(by cases h),λh=>(by cases h),λh=>(by cases h)⟩;refine calls_of_wp hf hb (wp_mono (UY hS c (by rw[hb]at Hv;exact Hv) _ _ _ _ (Mu hA gP) hy) ?_);rintro e a' w' ⟨ex,bZ,he,hs,hk⟩
  have main:(aa (uy bZ E [] fn.results.toList) λys=>match mO rs ys with
   |some y=>some (true,y)
   |none=>match mO RB ys with
    |some y=>some (false,cast h2 y)
    |none=>none)=some y->a'.defers=[]/\∃v,(Go.results fn a'.tmps).run P w'=.ok v w'/\∃v_1 hw fp,Ending.returned v=Ending.returned v_1/\
   gU (gD A hw w') v_1 (cond y.1 (BX rs y.2) (BX RB (cast h2.symm y.2))) fp/\fp.Nodup/\(∀b∈fp,w.heap.size<=b/\b<w'.heap.size)/\Fr (λ_=>False) w w':=by
   intro iA
   obtain⟨g,hg⟩:=hs
   refine⟨hg.defers,?_⟩
   cases hra:uy bZ E [] fn.results.toList with
   |none=>rw[hra]at iA;cases iA
   |some ys=>
    rw[hra]at iA
    simp only[aa]at iA
    have fin:∀(rs':ax (Bool×FT))(y':lX rs'),mO rs' ys=some y'->∃v,(Go.results fn a'.tmps).run P w'=.ok v w'/\∃v_1 hw fp,Ending.returned v=Ending.returned v_1/\
     gU (gD A hw w') v_1 (BX rs' y') fp/\fp.Nodup/\(∀b∈fp,w.heap.size<=b/\b<w'.heap.size)/\Fr (λ_=>False) w w':=by
     intro rs' y' Ww
     obtain⟨v,fp,fg,fM,Hs,Gn⟩:=QI hS.ty hg hra Ww
     refine⟨v,fg,v,g.hw,fp,rfl,fM,Hs,λb hb=>?_,hg.frame⟩
     obtain⟨own,hl⟩:=Gn b hb
     have:=hg.gW b _ hl
     exact⟨this.2.resolve_right (λf=>f),this.1⟩
    cases h1:mO rs ys with
    |some y1=>rw[h1]at iA;cases iA;exact fin rs y1 h1
    |none=>
     rw[h1]at iA
     simp only at iA
     cases h3:mO RB ys with
     |none=>rw[h3]at iA;cases iA
     |some y1=>
      rw[h3]at iA
      cases iA
      simp only[af,cast_cast,cast_eq]
      exact fin RB y1 h3
  cases e<;>cases ex<;>simp only[JJ]at he;exact main hk;cases hk;exact main hk;cases hy
theorem ae1 {c:RC}(hcA:c.A=A)(Wu:c.w=w)(HS:c.hw=hw)(NW:∀t,t%3=1->c.iss t){all:jt}(RR:∀t,c.hdr t=(all[t/3]?).getD undef):
 ∀(j:Nat){vs:jt}{cs:ax AC}{fp:fK},bU (gD A hw w) vs cs fp->cs.all (AC.AH true)=true->(∀i v,vs[i]?=some v->all[j+i]?=some v)->bU c vs (JA j cs) fp:=by
 intro j vs
 induction vs generalizing j with
 |nil=>intro cs fp h _ _;cases cs with
  |nil=>exact h
  |cons _ _=>exact h.elim
 |cons v vs ih=>
  intro cs fp h pK IT
  cases cs with
  |nil=>exact h.elim
  |cons x cs=>
   obtain⟨f1,f2,rfl,h1,h2⟩:=h
   simp only[cj,ae]at pK
   have i1:=ih (j+1) h2 pK.2 (λi u hu=>by rw[show j+1+i=j+(i+1) by omega];exact IT (i+1) u (by simpa using hu))
   have PX:=IT 0 v rfl
   rw[eP]at PX
   have tj:x.kx=true->JA j (x::cs)=x::JA (j+1) cs->bU c (v::vs) (JA j (x::cs)) (f1++f2):=by rintro hf e1;obtain⟨rfl,k⟩:=ti (c':=c) h1 hf;rw[e1];exact⟨[],f2,rfl,k,i1⟩
   cases x with
   |sl fl e xs=>
    cases fl with
    |own t=>
     have iz:fZ c.hw c.w (.sl e) [v] xs f1:=by rw[HS,Wu];exact h1.1
     refine⟨f1,f2,rfl,⟨iz,λq hq=>?_⟩,i1⟩
     cases hq
     refine⟨NW _ (by omega),?_⟩
     rw[RR,show(3*j+1)/3=j by omega,PX];rfl
    |arg k=>
     have hk:k=true:=by simpa[AC.AH]using pK.1
     subst hk
     exact⟨f1,f2,rfl,⟨h1.1,by rw[Wu,hcA];exact h1.2⟩,i1⟩
    |loc ep pv=>cases pK.1
    |nest _ _ _ _ _ _=>cases pK.1
    |part _ _ _ _=>cases pK.1
    |ga _ _ _=>cases pK.1
   |int k n=>exact tj rfl rfl
   |bool b=>exact tj rfl rfl
   |str s=>exact tj rfl rfl
   |fn f=>exact tj rfl rfl
   |kI=>cases pK.1
   |ptr s off=>cases pK.1
   |Dy fl e y i off=>cases pK.1
   |un=>cases pK.1
   |bot=>cases pK.1
theorem Wb {fp:fK}{b:Nat}(hA:∀k b' o,A k b' o->b'<w.heap.size/\b'≠b/\b'∉fp){fn:Func}{vs:jt}{arr:Array Value}{T:TypeId}{fr:Nat×Nat}(lz:w.heap[b]?=some (.cells arr T fr))(uv:ru arr fr)(fM:bU (gD A hw w) arr.toList cs fp)(pK:cs.all (AC.AH true)=true)(hn:fp.Nodup)(yn:b∉fp)(gH:∀b'∈fp,b'<w.heap.size)(Jt:hw b=0)(h:rz A w vs xs): pL ⟨A,λb'=>b'=b\/b'∈fp,w,[.pointer (some ⟨b,0,none⟩)],λk b' o hb=>⟨(hA k b' o hb).1,λhm=>hm.elim (hA k b' o hb).2.1 (hA k b' o hb).2.2⟩⟩ (CE fn cs xs) {tmps:=(.pointer (some ⟨b,0,none⟩)::vs).toArray++Array.replicate (fn.ntmps-(Value.pointer (some ⟨b,0,none⟩)::vs).toArray.size) undef,defers:=[]} w:=by
 obtain⟨hl,hi⟩:=IE h;let v0:Value:=.pointer (some ⟨b,0,none⟩);let C:Ctx:=⟨A,λb'=>b'=b\/b'∈fp,w,[v0],λk b' o hb=>⟨(hA k b' o hb).1,λhm=>hm.elim (hA k b' o hb).2.1 (hA k b' o hb).2.2⟩⟩
 let g:Gh:=⟨hw,λ_=>b,λb'=>if b'=b\/b'∈fp then some (.box 0) else none,λt=>(arr.toList[t/3]?).getD undef⟩
 have Hq:=nz lz;have wX:jW (CE fn cs xs) 0:=⟨JA 0 cs,rfl⟩
 have hle:(gD A (λ_=>0) w).Le (df C g (CE fn cs xs) w):=⟨rfl,λt ht=>ht.elim,λ_ _ _ _ _ hv=>hv,bj _,λs hs=>hs.elim,λ_ b o u ho _=>absurd ho (Nat.not_lt_zero _)⟩
 have k1:=ae1 (c:=df C g (CE fn cs xs) w) (A:=A) rfl rfl rfl (λt ht=> .inl (by omega)) (all:=arr.toList) (λt=>rfl) 0 fM pK (λi v hv=>by rw[cy];exact hv);refine⟨g,rfl,?_,?_,λi av hs=>?_,λs sq hs=>?_,λk v av hk=>by simp at hk,λb' x hx=>?_,Fr.refl _ _,⟨[],⟨[],[],rfl,⟨rfl,wX,rfl⟩,rfl⟩,by simp,by simp⟩⟩;simp[CE,start,hl];omega;simp[CE,start];have yp:((.one (.ptr 0 0)::xs)++List.replicate (fn.ntmps-(AV.one (.ptr 0 0)::xs).length) AV.bot)[i]?=some av:=hs;rcases cr i (xs.length+1)with alT|Cg;rw[bF (by simpa using alT)]at yp;cases i with
 |zero=>
  simp at yp;subst yp;refine⟨[],?_,by simp,by simp⟩;have hvv:((v0::vs).toArray++Array.replicate (fn.ntmps-(v0::vs).toArray.size) undef).getD 0 undef=v0:=by simp[dW,Array.getElem?_append]
  show gU _ (((v0::vs).toArray++Array.replicate (fn.ntmps-(v0::vs).toArray.size) undef).getD 0 undef) _ _;rw[hvv];exact nP ⟨rfl,wX,rfl⟩
 |succ i=>
  obtain⟨v,hv,hr⟩:=hi i av (by simpa using yp);refine⟨[],?_,by simp,by simp⟩;have hvv:((v0::vs).toArray++Array.replicate (fn.ntmps-(v0::vs).toArray.size) undef).getD (i+1) undef=v:=by
   have aqC:i<vs.length:=by omega
   have hv':vs[i]=v:=by rw[al aqC]at hv;exact bN hv
   simp[dW,Array.getElem?_append,aqC,hv']
  show gU _ (((v0::vs).toArray++Array.replicate (fn.ntmps-(v0::vs).toArray.size) undef).getD (i+1) undef) _ _;rw[hvv];exact hr.mono hle (by simp)
 rw[bA (by simpa using Cg),eV]at yp;split at yp;cases yp;exact⟨[],gU.bot _ _,by simp,by simp⟩;cases yp;have yp:(some (JA 0 cs)::List.replicate (xs.length+(fn.ntmps-(xs.length+1))) (none:az (ax AC)))[s]?=some (some sq):=hs;cases s with|zero=>simp at yp;subst yp;refine⟨arr,T,fr,fp,lz,uv,k1,hn,yn,λb' iI=>?_,?_,Jt⟩;show(if b'=b\/b'∈fp then _ else _)=_;rw[aI (.inr iI)];show(if b=b\/b∈fp then _ else _)=_;rw[aI (.inl rfl)]|succ s=>simp only[eT,eV]at yp;split at yp<;>cases yp
 have DE:(if b'=b\/b'∈fp then some (kZ.box 0) else none)=some x:=hx;split at DE;rename_i hm;rcases hm with rfl|hm;exact⟨Hq,.inr (.inl rfl)⟩;exact⟨gH b' hm,.inr (.inr hm)⟩;cases DE
theorem sv {E:Env}{rs:ax (Bool×FT)}{t:FT}(hS:Sound P E Γ){fn:Func}(hf:P.funcs[f]?=some fn)(D8:(fn.name== "runtime.NumGoroutine")=false)(Hv:BU E Γ an Λ (fn.body.getD .skip)):iZ P f {R:=lX rs×t.ct.D,fn:=adH E Γ an Λ fn rs t,av:=λy=>BX rs y.1,back:=λy=>kv t y.2,bx:=true}:=by
 intro xs y hy;simp only at hy;unfold adH at hy;split at hy;rename_i c cs rest hb;split at hy;rename_i hlen;refine⟨⟨fn,c,hf,hb,D8⟩,λ_ h=>(by cases h),λh=>(by cases h),λ_ Sz arj he A w b vs arr T fr hw fp hA lz uv fM hn yn gH Jt gP=>?_,λh=>(by cases h)⟩;injection he with he1 he2;injection he1 with _ he3;subst he2;subst he3;refine calls_of_wp hf hb (wp_mono (UY hS c (by rw[hb]at Hv;exact Hv) _ _ _ _ (Wb (fn:=fn) hA lz uv fM hlen.2 hn yn gH Jt gP) hy) ?_);rintro e a' w' ⟨ex,bZ,he,hs,hk⟩
 have main:(aa (aa (uy bZ E [(true,0)] fn.results.toList) (mO rs)) λr=>match bZ.io,bZ.boxes with
  |[.ptr 0 0],some sq::_=>(match Ot t (sq.map AC.strip)with|some (x,[])=>some (r,x)|_=>none)
  |_,_=>none)=some y->
  a'.defers=[]/\∃v,(Go.results fn a'.tmps).run P w'=.ok v w'/\∃v_1 hw' fv jL T' SS lx,Ending.returned v=Ending.returned v_1/\gU (gD A hw' w') v_1 (BX rs y.1) fv/\w'.heap[b]?=some (.cells jL T' SS)/\ru jL SS/\
    bU (gD A hw' w') jL.toList (kv t y.2) lx/\lx.Nodup/\b∉lx/\(∀b'∈lx,b'<w'.heap.size/\(b'∈fp\/w.heap.size<=b'))/\fv.Nodup/\(∀b'∈fv,b'<w'.heap.size/\(b'∈fp\/w.heap.size<=b')/\b'∉lx/\b'≠b)/\Fr (λb'=>b'=b\/b'∈fp) w w':=by
  intro iA
  obtain⟨g,hg⟩:=hs
  refine⟨hg.defers,?_⟩
  cases hra:uy bZ E [(true,0)] fn.results.toList with
  |none=>rw[hra]at iA;cases iA
  |some ys=>
   rw[hra]at iA
   simp only[aa]at iA
   cases hrr:mO rs ys with
   |none=>rw[hrr]at iA;cases iA
   |some r0=>
    rw[hrr]at iA
    simp only at iA
    split at iA
    ·rename_i sq tl RS kQ
     split at iA
     ·rename_i x hx
      cases iA
      obtain⟨v,fv,fg,yo,Hs,Gn⟩:=Nl hS.ty hg hra hrr
      obtain⟨fpi,hri,_,_⟩:=hg.io
      rw[RS]at hri
      obtain⟨g1,g2,_,avN,_⟩:=hri
      have LC:b=g.β 0:=by have:=avN.1;simp only[Value.pointer.injEq,bq,Addr.mk.injEq]at this;exact this.1
      obtain⟨jL,T',SS,lx,JT,XU,hr',D7,JV,hl',aqy,_⟩:=hg.boxes 0 sq (by rw[kQ];rfl)
      rw[<-LC]at JT JV aqy
      have nY:=Ap hr'
      have LB:=Ai hx
      rw[bD]at LB
      rw[LB]at nY
      have hM:∀b',(w.heap.size<=b'\/(b'=b\/b'∈fp))->b'≠b->b'∈fp\/w.heap.size<=b':=by rintro b' (h2|h2|h2) D9;exact .inr h2;exact absurd h2 D9;exact .inl h2
      refine⟨v,fg,v,g.hw,fv,jL,T',SS,lx,rfl,yo,JT,XU,nY,D7,JV,λb' iI=>?_,Hs,λb' iI=>?_,hg.frame⟩
      ·have:=hg.gW b' _ (hl' b' iI)
       exact⟨this.1,hM b' this.2 (λe=>JV (e▸iI))⟩
      ·obtain⟨own,NX,RT⟩:=Gn b' iI
       have Ht:g.ft b'≠some (.box 0):=by rw[RT];intro e;have e2:Bi own=Bi (true,0):=bN e;exact NX (by rw[Na e2];simp)
       have D9:b'≠b:=λe=>Ht (by rw[e];exact aqy)
       have:=hg.gW b' _ RT
       exact⟨this.1,hM b' this.2 D9,λhm=>Ht (hl' b' hm),D9⟩
     ·cases iA
    ·cases iA
 cases e<;>cases ex<;>simp only[JJ]at he;exact main hk;cases hk;exact main hk;cases hy;cases hy
theorem aqi {E:Env}{t:FT}(hS:Sound P E Γ){fn:Func}(hf:P.funcs[f]?=some fn)(D8:(fn.name== "runtime.NumGoroutine")=false)(Hv:BU E Γ an Λ (fn.body.getD .skip)):iZ P f {R:=t.ct.D,fn:=U3 E Γ an Λ fn t,av:=λ_=> .bot,back:=λy=>kv t y,pr:=true}:=by
 intro xs y hy;simp only at hy;unfold U3 at hy;cases hb:fn.body with
 |none=>rw[hb]at hy;cases hy
 |some c=>
  rw[hb]at hy;simp only at hy;split at hy;have key:amS P f {R:=t.ct.D,fn:=U3 E Γ an Λ fn t,av:=λ_=> .bot,back:=λy=>kv t y,pr:=true} y xs:=by
   intro A w vs hA gP;refine calls_of_wp hf hb (wp_mono (UY hS c (by rw[hb]at Hv;exact Hv) _ _ _ _ (Mu hA gP) hy) ?_);rintro e a' w' ⟨ex,bZ,he,hs,hk⟩
   have main:(match fn.results.toList with
    |[.tmp i]=>match bZ.get i with
     | .val false [.ptr s 0]=>match (nth bZ.boxes s).getD none with
       |some cs=>if cs.all AC.Lp=true then(match Ot t (cs.map AC.strip)with|some (x,[])=>some x|_=>none) else none
       |none=>none
     |_=>none
    |_=>none)=some y->a'.defers=[]/\∃v,(Go.results fn a'.tmps).run P w'=.ok v w'/\∃b arr T fr hw,Ending.returned v=.returned (.pointer (some ⟨b,0,none⟩))/\w.heap.size<=b/\w'.heap[b]?=some (.cells arr T fr)/\ru arr fr/\bU (gD A hw w') arr.toList (kv t y) []/\Fr (λ_=>False) w w':=by
    intro iA
    obtain⟨g,hg⟩:=hs
    refine⟨hg.defers,?_⟩
    split at iA
    ·rename_i i hri
     split at iA
     ·rename_i s hp
      cases kQ:(nth bZ.boxes s).getD none with
      |none=>rw[kQ]at iA;cases iA
      |some cs=>
       rw[kQ]at iA
       simp only at iA
       split at iA
       ·rename_i pK
        split at iA
        ·rename_i x hx
         cases iA
         have kQ:bZ.boxes[s]?=some (some cs):=by rw[eH]at kQ;cases hq:bZ.boxes[s]? with|none=>rw[hq]at kQ;simp at kQ|some q=>rw[hq]at kQ;simp at kQ;rw[kQ]
         obtain⟨fp0,wM,_,_⟩:=hg.slot i
         rw[hp]at wM
         have wM:=Dg wM
         obtain⟨arr,T,fr,fp,lz,uv,fM,hn,yn,hl,Jq,Jt⟩:=hg.boxes s cs kQ
         obtain⟨FC,vs,gb,PV⟩:=arg_val (c:=df _ g bZ w') (c':=df _ g bZ w') rfl rfl (v:=.agg arr.toList.toArray) (x:=.val true cs) ⟨arr.toList,rfl,fM⟩ pK
         have hvs:arr.toList=vs:=by have gb:Value.agg arr.toList.toArray=.agg vs.toArray:=gb;simp only[Value.agg.injEq]at gb;simpa using congrArg Array.toList gb
         rw[<-hvs]at PV
         have nY:=Ap PV
         have LB:=Ai hx
         rw[bD]at LB
         rw[LB]at nY
         have fg:(Go.results fn a'.tmps).run P w'=.ok (a'.tmps.getD i undef) w':=by
          have he:fn.results=#[.tmp i]:=by apply fR;exact hri
          have aon:=E9 (P:=P) (E7 a'.tmps) (λ_=>a'.tmps.getD i undef) w' fn.results (λx hx=>by rw[he]at hx;simp at hx;subst hx;rfl)
          have hd:Go.results fn a'.tmps=(do
           let vs<-fn.results.mapM (E7 a'.tmps)
           pure (if h:vs.size=1 then vs[0] else .tuple vs)):=by
           unfold Go.results
           congr 1
          rw[hd];simp only[Sem.run_bind,aon,Result.andThen_ok,Sem.run_pure];rw[he];simp
         refine⟨_,fg,g.β s,arr,T,fr,g.hw,congrArg Ending.returned wM,?_,lz,uv,nY,hg.frame⟩
         exact(hg.gW _ _ Jq).2.resolve_right (λf=>f)
        ·cases iA
       ·cases iA
     ·cases iA
    ·cases iA
   cases e<;>cases ex<;>simp only[JJ]at he;exact main hk;cases hk;exact main hk
  refine⟨⟨fn,c,hf,hb,D8⟩,λ_ _ A w vs hA gP=>?_,λh=>(by cases h),λh=>(by cases h),λ_=>key⟩;refine(key A w vs hA gP).mono ?_;rintro e w' ⟨b,arr,T,fr,hw,rfl,_,_,_,_,kb⟩;exact⟨_,hw,[],rfl,gU.bot _ _,List.nodup_nil,(λb hb=>by cases hb),kb⟩;cases hy
end Go.Dn
