import Derived.Test.YthjhpjjgcfedbaaGreatDnAny
/- The soundness of the abstract semantics: code and functions. -/
namespace Go.Dn
open Go.RowKit
variable {P:Program} {C:Ctx} {st:AS} {a:Act} {w:World} {R:Type} {r:R}
def tw:Exit→Ex→Prop
 | .normal,.normal=>True
 | .ret,.ret=>True
 | .exit i,.exit j=>i=j
 |_,_=>False
def RM (C:Ctx)(K:Ex→AS→Option R)(r:R)(e:Exit)(a:Act)(w:World):Prop:=
 ∃ex st',tw e ex∧gH C st' a w∧K ex st'=some r
theorem Jy {E:Env}{Γ:cD}{an:An}(hS:Sound P E Γ){id:Nat}{ops:Array Oper}{d:Bool}(h:gH C st a w){K:AS→Option R}(hk:Cn E Γ an id ops.toList d st K=some r){Q:Exit→Act→World→Prop}(hq:∀st' a' w',gH C st' a' w'→K st'=some r→Q .normal a' w'):(Code.region id ops d).wp P Q a w:=by
 unfold Cn at hk;split at hk;rw[xT]at hk;cases ho:sn E Γ an ops.toList d st some with|none=>rw[ho]at hk;cases hk|some st1=>rw[ho]at hk;exact HE hS h ho (λa' w' hs=>hq _ _ _ hs hk)
 rename_i s hm;split at hk;rename_i hquiet;rw[xT]at hk;cases ho:sn E Γ.calm an ops.toList d st some with|none=>rw[ho]at hk;cases hk|some st1=>rw[ho]at hk;simp only[cx]at hk;cases hb:getBool st1 s with|none=>rw[hb]at hk;cases hk|some b=>rw[hb]at hk;simp only[aa]at hk;have hn:=Jc (MJ Γ) (λo ho'=>az.1 hquiet o ho') ho;exact HE hS.calm h ho (λa' w' hs=>hq _ _ _ (hs.weaken hn hb) hk)
 cases hk
def g7 (E:Env)(Γ:cD)(an:An)(Λ:cY)(c:Code):Prop:=
 ∃n,∀(R:Type)(st:AS)(K:Ex→AS→Option R)(r:R),(Λ (db c)).go st K=some r→rN (an.mask (db c)) (den E Γ an Λ c) n st K=some r
def Fk (E:Env)(Γ:cD)(an:An)(Λ:cY)(c:Code):Prop:=
 ∀(R:Type)(st:AS)(K:Ex→AS→Option R)(r:R),(Λ (se c)).go st K=some r→den E Γ an Λ c st (λe st'=>K e (st'.mask (an.mask (se c+1))))=some r
def qz (E:Env)(Γ:cD)(an:An)(Λ:cY)(c:Code):Prop:=(∀c'∈eF c,g7 E Γ an Λ c')∧∀c'∈fE an.cut c,Fk E Γ an Λ c'
theorem Kq (c:Code):fE [] c=[]:=by induction c with|seq a b iha ihb=>simp[fE,iha,ihb]|cond _ a b iha ihb=>simp[fE,iha,ihb]|block _ c ih=>simpa[fE]using ih|loop c ih=>simpa[fE]using ih|_=>rfl
theorem qz.of {E:Env}{Γ:cD}{an:An}{Λ:cY}{c:Code}(h:∀c'∈eF c,g7 E Γ an Λ c')(hc:an.cut=[]):qz E Γ an Λ c:=⟨h,by rw[hc,Kq];simp⟩
theorem xO {E:Env}{Γ:cD}{an:An}(hS:Sound P E Γ){Λ:cY}:∀(c:Code)(_:qz E Γ an Λ c)(st:AS)(a:Act)(w:World)(K:Ex→AS→Option R),gH C st a w→den E Γ an Λ c st K=some r→c.wp P (RM C K r) a w:=by
 intro c;induction c with
 |skip=>intro hΛ st a w K h hk;exact wp_skip ⟨.normal,st,trivial,h,hk⟩
 |region id ops d=>intro hΛ st a w K h hk;exact Jy hS h (by simpa only[den]using hk) (λst' a' w' hs he=>⟨.normal,st',trivial,hs,he⟩)
 |seq x y ihx ihy=>
  intro hΛ st a w K h hk;have ihx:=ihx ⟨λc hc=>hΛ.1 c (by simp[eF,hc]),λc hc=>hΛ.2 c (by simp[fE,hc])⟩;have ihy:=ihy ⟨λc hc=>hΛ.1 c (by simp[eF,hc]),λc hc=>hΛ.2 c (by simp only[fE];cases an.cut.contains (db y)<;>simp[hc])⟩;simp only[den]at hk;refine wp_seq (wp_mono (ihx st a w _ h hk) ?_);rintro e a' w' ⟨ex,st',he,hs,hk'⟩;cases e<;>cases ex<;>simp only[tw]at he;simp only at hk';cases hcut:an.cut.contains (db y)with|false=>rw[hcut]at hk';exact ihy st' a' w' K hs hk'|true=>rw[hcut]at hk';have hc:=hΛ.2 y (by simp only[fE,hcut];simp) _ _ _ _ hk';refine wp_mono (ihy _ a' w' _ (hs.mask _) hc) ?_;rintro e2 a2 w2 ⟨ex2,st2,he2,hs2,hk2⟩;exact⟨ex2,_,he2,hs2.mask _,hk2⟩
  exact⟨.exit _,st',he,hs,hk'⟩;exact⟨.ret,st',trivial,hs,hk'⟩
 |cond c x y ihx ihy=>
  intro hΛ st a w K h hk;have ihx:=ihx ⟨λc hc=>hΛ.1 c (by simp[eF,hc]),λc hc=>hΛ.2 c (by simp[fE,hc])⟩;have ihy:=ihy ⟨λc hc=>hΛ.1 c (by simp[eF,hc]),λc hc=>hΛ.2 c (by simp[fE,hc])⟩;simp only[den]at hk;split at hk;rename_i t hc;have hv:a.eval c=.bool t:=by obtain⟨g,hg⟩:=h;have:=hg.rd c;rw[hc]at this;exact l8 this
  cases t with|true=>exact wp_cond_true hv (ihx st a w K h hk)|false=>exact wp_cond_false hv (ihy st a w K h hk)
  cases hk
 |block id c ih=>intro hΛ st a w K h hk;have ih:=ih ⟨λc hc=>hΛ.1 c (by simpa[eF]using hc),λc hc=>hΛ.2 c (by simpa[fE]using hc)⟩;simp only[den]at hk;refine wp_block (wp_mono (ih st a w _ h hk) ?_);rintro e a' w' ⟨ex,st',he,hs,hk'⟩;cases e<;>cases ex<;>simp only[tw]at he;exact⟨.normal,st',trivial,hs,hk'⟩;rename_i i j;subst he;simp only[Exit.inBlock];simp only at hk';by_cases hi:i=id;subst hi;rw[au rfl];simp only[beq_self_eq_true,aY]at hk';exact⟨.normal,st',trivial,hs,hk'⟩;rw[aq hi];rw[aq (by simpa using hi)]at hk';exact⟨.exit i,st',rfl,hs,hk'⟩;exact⟨.ret,st',trivial,hs,hk'⟩
 |loop c ih=>
  intro hΛ st a w K h hk;have ih:=ih ⟨λc hc=>hΛ.1 c (by simp[eF,hc]),λc hc=>hΛ.2 c (by simpa[fE]using hc)⟩;obtain⟨n,hn⟩:=hΛ.1 c (by simp[eF]);simp only[den]at hk;intro b k cs
  have key:∀m st a w,gH C st a w→rN (an.mask (db c)) (den E Γ an Λ c) m st K=some r→
   ∃e a' w',RM C K r e a' w'∧Arrives P (lone (b.at a (.code c:: .inLoop c::k)) cs w) b k cs e a' w':=by
   intro m
   induction m with
   |zero=>intro st a w _ hk;cases hk
   |succ m ihm=>
    intro st a w h hk
    simp only[rN]at hk
    obtain⟨e,a₁,w₁,⟨ex,st',he,hs,hk'⟩,harr⟩:=ih st a w _ h hk b (.inLoop c::k) cs
    cases e<;>cases ex<;>simp only[tw]at he
    ·obtain⟨e₂,a₂,w₂,hq₂,harr₂⟩:=ihm _ a₁ w₁ (hs.mask _) hk'
     exact⟨e₂,a₂,w₂,hq₂,.of_steps (Steps.trans harr (.one step_inLoop)) harr₂⟩
    ·exact⟨.exit _,a₁,w₁,⟨.exit _,_,he,hs.mask _,hk'⟩,.pass (x:=.inLoop c) rfl (λ_ _=> .inl (by simp)) harr⟩
    ·exact⟨.ret,a₁,w₁,⟨.ret,_,trivial,hs.mask _,hk'⟩,.pass (x:=.inLoop c) rfl (λ_ _=> .inl (by simp)) harr⟩
  cases hp:an.peel.contains (db c)with
  |false=>rw[hp]at hk;obtain⟨e,a',w',hq,harr⟩:=key n _ a w (h.mask _) (hn _ _ _ _ hk);exact⟨e,a',w',hq,.of_steps (.one step_loop) harr⟩
  |true=>rw[hp]at hk;simp only[ah]at hk;obtain⟨e,a₁,w₁,⟨ex,st',he,hs,hk'⟩,harr⟩:=ih _ a w _ (h.mask _) hk b (.inLoop c::k) cs;cases e<;>cases ex<;>simp only[tw]at he;obtain⟨e₂,a₂,w₂,hq₂,harr₂⟩:=key n _ a₁ w₁ (hs.mask _) (hn _ _ _ _ hk');exact⟨e₂,a₂,w₂,hq₂,.of_steps (Steps.trans (.one step_loop) (Steps.trans harr (.one step_inLoop))) harr₂⟩;exact⟨.exit _,a₁,w₁,⟨.exit _,_,he,hs.mask _,hk'⟩,.of_steps (.one step_loop) (.pass (x:=.inLoop c) rfl (λ_ _=> .inl (by simp)) harr)⟩;exact⟨.ret,a₁,w₁,⟨.ret,_,trivial,hs.mask _,hk'⟩,.of_steps (.one step_loop) (.pass (x:=.inLoop c) rfl (λ_ _=> .inl (by simp)) harr)⟩
 |exit id=>intro hΛ st a w K h hk;exact wp_exit ⟨.exit id,st,rfl,h,hk⟩
 |ret=>intro hΛ st a w K h hk;exact wp_ret ⟨.ret,st,trivial,h,hk⟩
 |_=>intro hΛ st a w K h hk;simp[den]at hk
theorem qV {A:Rg}:∀{vs:List Value}{xs:List AV},gy A w vs xs→vs.length=xs.length∧∀(i:Nat)(x:AV),xs[i]?=some x→∃v,vs[i]?=some v∧di (cH A (λ_=>0) w) v x []
 |[],[],_=>⟨rfl,by simp⟩
 |v::vs,x::xs,h=>by obtain⟨hl,hi⟩:=qV h.2;refine⟨by simp[hl],λi y hy=>?_⟩;cases i with|zero=>simp at hy;subst hy;exact⟨v,rfl,h.1⟩|succ i=>exact hi i y (by simpa using hy)
 |[],_::_,h=>h.elim
 |_::_,[],h=>h.elim
theorem wg {A:Rg}(hA:∀k b o,A k b o→b<w.heap.size){fn:Func}{vs:List Value}{xs:List AV}(h:gy A w vs xs): gH ⟨A,λ_=>False,w,[],λk b o hb=>⟨hA k b o hb,λf=>f⟩⟩ (start fn xs) {tmps:=vs.toArray++Array.replicate (fn.ntmps-vs.toArray.size) undef,defers:=[]} w:=by
 obtain⟨hl,hi⟩:=qV h;let C:Ctx:=⟨A,λ_=>False,w,[],λk b o hb=>⟨hA k b o hb,λf=>f⟩⟩
 let g:Gh:=⟨λ_=>0,λ_=>0,λ_=>none,λ_=>undef⟩
 have hle:(cH A (λ_=>0) w).Le (bt C g (start fn xs) w):=⟨rfl,λt ht=>ht.elim,λ_ _ _ _ _ hv=>hv,aK _,λs hs=>hs.elim,λ_ b o u ho hu=>⟨ho,hu⟩⟩
 refine⟨g,rfl,?_,?_,λi av hs=>?_,λs cs hs=>?_,λk v av hk=>by simp at hk,λb x hx=>(by cases hx),Fr.refl _ _,⟨[],rfl,by simp,by simp⟩⟩;simp[start,hl];simp[start];have hs':(xs++List.replicate (fn.ntmps-xs.length) AV.bot)[i]?=some av:=hs;rcases bd i xs.length with hlt|hge;rw[List.getElem?_append_left hlt]at hs';obtain⟨v,hv,hr⟩:=hi i av hs';refine⟨[],?_,by simp,by simp⟩;have hvv:(vs.toArray++Array.replicate (fn.ntmps-vs.toArray.size) undef).getD i undef=v:=by
  have hlt':i<vs.length:=by omega
  have hv':vs[i]=v:=by rw[List.getElem?_eq_getElem hlt']at hv;exact cc hv
  simp[Array.getD_eq_getD_getElem?,Array.getElem?_append,hlt',hv']
 show di _ ((vs.toArray++Array.replicate (fn.ntmps-vs.toArray.size) undef).getD i undef) _ _;rw[hvv];exact hr.mono hle (by simp);rw[List.getElem?_append_right hge,List.getElem?_replicate]at hs';split at hs';cases hs';exact⟨[],di.bot _ _,by simp,by simp⟩;cases hs';have hs':(List.replicate (xs.length+(fn.ntmps-xs.length)) (none:Option (List AC)))[s]?=some (some cs):=hs;rw[List.getElem?_replicate]at hs';split at hs'<;>cases hs'
theorem G9 {g:Gh}{v:Value}{x:AC}{fp:List Nat}(h:dB (bt C g st w) v x fp):dB (cH C.A g.hw w) v x.strip fp:=by
 cases x with
 |int k n=>exact h
 |bool b=>exact h
 |str s=>exact h
 |nilsl=>exact h
 |fn f=>exact h
 |un=>exact h
 |bot=>exact h
 |ptr s off=>exact h.2.2
 |elt fl e y i off=>cases fl with|own t=>exact h.elim|nest _ _ _ _ _ _=>exact h.elim|part _ _ _ _=>exact h.elim|holed _ _ _=>exact h.elim|arg _=>exact h.1|loc ep pv=>exact h.1
 |sl fl e xs=>
  cases fl with
  |nest _ _ _ _ _ _=>exact h.1
  |part _ _ _ _=>exact h.1
  |holed _ _ _=>obtain⟨_,⟨k,hk,h3⟩,_⟩:=h;exact⟨λq hq=>(by cases hq),⟨k,hk,h3⟩,by simp⟩
  |own t=>exact⟨h.1,by simp⟩
  |arg _=>exact h
  |loc ep pv=>exact h.1
theorem nW {g:Gh}:∀{vs:List Value}{xs:List AC}{fp:List Nat},aR (bt C g st w) vs xs fp→aR (cH C.A g.hw w) vs (xs.map AC.strip) fp
 |[],[],_,h=>h
 |_::_,_::_,_,h=>by obtain⟨f1,f2,rfl,h1,h2⟩:=h;exact⟨f1,f2,rfl,G9 h1,nW h2⟩
 |[],_::_,_,h=>h.elim
 |_::_,[],_,h=>h.elim
def rm (tmps:Array Value):ResultVar→Sem Value
 | .tmp t=>pure (tmps.getD t undef)
 | .cell a t=>do loadVar t (←asAddr (tmps.getD a undef))
def oE:Bool×Nat→eC
 |(false,t)=> .slot t
 |(true,s)=> .box s
theorem wz {x y:Bool×Nat}(h:oE x=oE y):x=y:=by rcases x with⟨_|_,a⟩<;>rcases y with⟨_|_,b⟩<;>simp[oE]at h<;>rw[h]
theorem Nv {E:Env}(hE:eI P E.ty){g:Gh}(h:cb C g st a w []){rv:ResultVar}{own:Bool×Nat}{gg:Bool}{cs:List AC}(hr:yS st E rv=some (own,gg,cs)): ∃v vs fp,(rm a.tmps rv).run P w=.ok v w∧Cut gg v vs∧aR (cH C.A g.hw w) vs cs fp∧fp.Nodup∧∀b∈fp,g.lab b=some (oE own):=by
 cases rv with
 |tmp t=>simp only[yS]at hr;split at hr;rename_i g' cs' hg';cases hr;obtain⟨fp,hrel,hn,hl⟩:=h.slot t;rw[hg']at hrel;obtain⟨vs,hcut,hrel⟩:=hrel;exact⟨_,vs,fp,rfl,hcut,nW hrel,hn,hl⟩;cases hr
 |cell t T=>
  simp only[yS]at hr;split at hr;rename_i sh s off hT hp;cases hbx:(nth st.boxes s).getD none with
  |none=>rw[hbx]at hr;cases hr
  |some cs'=>
   rw[hbx]at hr;simp only[cx]at hr;split at hr;rename_i hfit;cases hr;have hbx:st.boxes[s]?=some (some cs'):=by rw[cg]at hbx;cases hq:st.boxes[s]? with|none=>rw[hq]at hbx;simp at hbx|some q=>rw[hq]at hbx;simp at hbx;rw[hbx]
   obtain⟨fp0,hpv,_,_⟩:=h.slot t;rw[hp]at hpv;have hpv:=qd hpv;obtain⟨arr,T',fr,fp,hblk,hth,hrel,hn,hnb,hl,hl0,hw0⟩:=h.boxes s cs' hbx;have hlen:=hrel.length;obtain⟨v,hrun,hcut⟩:=nR (hE T sh hT) (g.β s) off ((arr.toList.drop off).take sh.ct.size) (by simp at hlen⊢;omega) (Ak hblk off sh.ct.size);obtain⟨f1,f2,f3,rfl,r1,r2,r3⟩:=hrel.J6 off sh.ct.size;have hn1:=(List.nodup_append.1 (List.nodup_append.1 hn).1).2.1;refine⟨v,_,f2,?_,hcut,nW r2,hn1,λb hb=>hl b (by simp[hb])⟩;simp only[rm,hpv,asAddr,Sem.run_bind,Sem.run_pure,Result.andThen_ok];exact hrun;cases hr
  cases hr
theorem HU {E:Env}(hE:eI P E.ty){g:Gh}(h:cb C g st a w [])(gf:ResultVar→Value):∀(rs:List ResultVar)(had:List (Bool×Nat))(ys:List (Bool×List AC)),hZ st E had rs=some ys→
 (∀rv v,(rm a.tmps rv).run P w=.ok v w→gf rv=v)→
 (∀rv∈rs,(rm a.tmps rv).run P w=.ok (gf rv) w)∧∃fp,di.jk (cH C.A g.hw w) (rs.map gf) ys fp∧fp.Nodup∧∀b∈fp,∃own,own∉had∧g.lab b=some (oE own)
 |[],had,ys,hr,hgf=>by cases hr;exact⟨by simp,[],rfl,by simp,by simp⟩
 |rv::rs,had,ys,hr,hgf=>by
  simp only[hZ]at hr;cases h1:yS st E rv with
  |none=>rw[h1]at hr;cases hr
  |some x=>
   obtain⟨own,gg,cs⟩:=x;rw[h1]at hr;simp only[cx]at hr;split at hr;cases hr;rename_i hnot;have hnot:own∉had:=by simpa using hnot
   cases h2:hZ st E (own::had) rs with|none=>rw[h2]at hr;cases hr|some xs=>rw[h2]at hr;simp only[cx,aJ]at hr;subst hr;obtain⟨v,vs,fp1,hrun,hcut,hrel,hn1,hl1⟩:=Nv hE h h1;obtain⟨hruns,fp2,hrel2,hn2,hl2⟩:=HU hE h gf rs (own::had) xs h2 hgf;have hv:=hgf rv v hrun;refine⟨λrv' hm=>?_,fp1++fp2,⟨fp1,fp2,rfl,⟨vs,by rw[hv];exact hcut,hrel⟩,hrel2⟩,?_,λb hb=>?_⟩;rcases bl.1 hm with rfl|hm;rw[hv];exact hrun;exact hruns rv' hm;refine List.nodup_append.2 ⟨hn1,hn2,λb hb b' hb' he=>?_⟩;subst he;obtain⟨own',hno,hlab⟩:=hl2 b hb';rw[hl1 b hb]at hlab;have:=wz (cc hlab);subst this;exact hno (by simp);rcases al.1 hb with hb|hb;exact⟨own,hnot,hl1 b hb⟩;obtain⟨own',hno,hlab⟩:=hl2 b hb;exact⟨own',λhm=>hno (by simp[hm]),hlab⟩
theorem FK.Ix {fl:FK}{f:iS}(h:fl.fits f=true):f=fl.flag:=by
 unfold FK.fits at h;split at h;rename_i t t';have:t=t':=by simpa using h
 subst this;rfl;rename_i k;have:k=false:=by simpa using h
 subst this;rfl;rename_i k;have:k=true:=h;subst this;rfl;rfl;rename_i j t j' t';simp only[ab,aQ]at h;obtain⟨rfl,rfl⟩:=h;rfl;cases h
theorem nS:∀{t:FT}{cs r:List AC}{x:t.ct.D},xg t cs=some (x,r)→cs=eJ t x++r:=by
 intro t;induction t with
 |int k=>intro cs r x h;cases cs with|nil=>simp[xg]at h|cons y ys=>cases y<;>simp[xg]at h;obtain⟨rfl,rfl,rfl⟩:=h;rfl
 |bool=>intro cs r x h;cases cs with|nil=>simp[xg]at h|cons y ys=>cases y<;>simp[xg]at h;obtain⟨rfl,rfl⟩:=h;rfl
 |str=>intro cs r x h;cases cs with|nil=>simp[xg]at h|cons y ys=>cases y<;>simp[xg]at h;obtain⟨rfl,rfl⟩:=h;rfl
 |sl fl e=>
  intro cs r x h;cases cs with
  |nil=>simp[xg]at h
  |cons y ys=>
   cases y with
   |sl fl' e' xs=>
    simp only[xg]at h;split at h
    ·rename_i he;subst he;cases hf:fl.fits fl' with
     |false=>rw[hf]at h;cases h
     |true=>
      rw[hf]at h;cases h;rw[FK.Ix hf];have hn:fl.isNil=false:=by cases fl<;>first|rfl|(unfold FK.fits at hf;cases hf)
      simp only[eJ,hn,ai];rfl
    cases h
   |nilsl=>simp only[xg]at h;cases hn:fl.isNil with|false=>rw[hn]at h;cases h|true=>rw[hn]at h;cases h;simp only[eJ,hn,ah];rfl
   |_=>simp[xg]at h
 |pair a b iha ihb=>intro cs r x h;simp only[xg]at h;obtain⟨⟨x1,r1⟩,h1,h⟩:=ax.1 h;obtain⟨⟨x2,r2⟩,h2,h⟩:=ax.1 h;cases h;have h3:r1=eJ b x2++r2:=ihb h2;rw[iha h1,h3];simp[eJ]
theorem wy:∀(rs:List (Bool×FT))(ys:List (Bool×List AC))(y:fG rs),eU rs ys=some y→ys=Q0 rs y
 |[],[],y,_=>rfl
 |[],_::_,y,h=>by simp[eU]at h
 |[(g,t)],ys,y,h=>by
  cases ys with
  |nil=>simp[eU]at h
  |cons p ys=>
   cases ys with
   |cons _ _=>simp[eU]at h
   |nil=>
    obtain⟨g',cs⟩:=p;simp only[eU]at h;cases hg:g==g' with
    |false=>rw[hg]at h;cases h
    |true=>
     rw[hg]at h;have:g=g':=by simpa using hg
     subst this;simp only[ah]at h;split at h;rename_i x hx;cases h;have:=nS hx;rw[aU]at this;rw[this];rfl;cases h
 |(g,t)::p::r,ys,y,h=>by
  cases ys with
  |nil=>simp[eU]at h
  |cons q ys=>
   obtain⟨g',cs⟩:=q;simp only[eU]at h;cases hg:g==g' with
   |false=>rw[hg]at h;cases h
   |true=>
    rw[hg]at h;have:g=g':=by simpa using hg
    subst this;simp only[ah]at h;split at h;rename_i x hx;obtain⟨z,hz,h⟩:=ax.1 h;cases h;have h1:=nS hx;rw[aU]at h1;rw[h1,wy (p::r) ys z hz];rfl;cases h
theorem wD {E:Env}(hE:eI P E.ty){fn:Func}{rs:List (Bool×FT)}{g:Gh}{st':AS}{a':Act}{w':World}(hg:cb C g st' a' w' []){had:List (Bool×Nat)}{ys:List (Bool×List AC)}(hra:hZ st' E had fn.results.toList=some ys){y:fG rs}(hres:eU rs ys=some y): ∃v fp,(Go.results fn a'.tmps).run P w'=.ok v w'∧di (cH C.A g.hw w') v (ot rs y) fp∧fp.Nodup∧∀b∈fp,∃own,own∉had∧g.lab b=some (oE own):=by
 have hys:=wy rs ys y hres;let gf:ResultVar→Value:=λrv=>match (rm a'.tmps rv).run P w' with| .ok v _=>v|_=>undef
 obtain⟨hruns,fp,hrel,hnd,hlab⟩:=HU hE hg gf fn.results.toList had ys hra (λrv v hv=>by simp only[gf,hv]);have hmap:=rp (P:=P) (rm a'.tmps) gf w' fn.results (λx hx=>hruns x (by simpa using hx));have hrun:(Go.results fn a'.tmps).run P w'=.ok (if h:(fn.results.map gf).size=1 then(fn.results.map gf)[0] else .tuple (fn.results.map gf)) w':=by
  have:Go.results fn a'.tmps=(do
   let vs←fn.results.mapM (rm a'.tmps)
   pure (if h:vs.size=1 then vs[0] else .tuple vs)):=by
   unfold Go.results
   congr 1
  rw[this];simp only[Sem.run_bind,hmap,Result.andThen_ok,Sem.run_pure]
 refine⟨_,fp,hrun,?_,hnd,hlab⟩;have hmapl:(fn.results.map gf).toList=fn.results.toList.map gf:=by simp
 unfold ot;rw[←hys];cases ys with
 |nil=>
  have hnil:fn.results.toList.map gf=[]:=by cases hm:fn.results.toList.map gf with|nil=>rfl|cons u us=>rw[hm]at hrel;exact hrel.elim
  have hsz:¬(fn.results.map gf).size=1:=by rw[←Array.length_toList,hmapl,hnil];simp
  rw[dif_neg hsz];exact⟨_,by rw[←hmapl],hrel⟩
 |cons y1 ys=>
  cases ys with
  |nil=>
   obtain⟨gg,cs⟩:=y1;cases hm:fn.results.toList.map gf with
   |nil=>rw[hm]at hrel;exact hrel.elim
   |cons u us=>
    rw[hm]at hrel;obtain⟨f1,f2,rfl,hone,hrest⟩:=hrel;cases us with
    |cons _ _=>exact hrest.elim
    |nil=>
     cases hrest;have harr:fn.results.map gf=#[u]:=by apply cv;rw[hmapl,hm]
     have:(if h:(fn.results.map gf).size=1 then(fn.results.map gf)[0] else .tuple (fn.results.map gf))=u:=by rw[dif_pos (by rw[harr];rfl)];simp only[harr];rfl
     rw[this,aU];exact hone
  |cons y2 ys=>
   have hsz:¬(fn.results.map gf).size=1:=by rw[←Array.length_toList,hmapl];cases hm:fn.results.toList.map gf with|nil=>simp|cons u us=>rw[hm]at hrel;obtain⟨f1,f2,rfl,hone,hrest⟩:=hrel;cases us with|nil=>exact hrest.elim|cons u2 us=>simp
   rw[dif_neg hsz];exact⟨_,by rw[←hmapl],hrel⟩
theorem ua {E:Env}(hE:eI P E.ty){fn:Func}{rs:List (Bool×FT)}{g:Gh}{st':AS}{a':Act}{w':World}(hg:cb C g st' a' w' []){ys:List (Bool×List AC)}(hra:hZ st' E [] fn.results.toList=some ys){y:fG rs}(hres:eU rs ys=some y): ∃v fp,(Go.results fn a'.tmps).run P w'=.ok v w'∧di (cH C.A g.hw w') v (ot rs y) fp∧fp.Nodup∧∀b∈fp,∃own,g.lab b=some (oE own):=by obtain⟨v,fp,h1,h2,h3,h4⟩:=wD hE hg hra hres;exact⟨v,fp,h1,h2,h3,λb hb=>(h4 b hb).imp λ_ h=>h.2⟩
theorem Pb {E:Env}{Γ:cD}{an:An}{Λ:cY}{rs:List (Bool×FT)}(hS:Sound P E Γ){f:Nat}{fn:Func}(hf:P.funcs[f]?=some fn)(hname:(fn.name== "runtime.NumGoroutine")=false)(hΛ:qz E Γ an Λ (fn.body.getD .skip)):aP P f {R:=fG rs,fn:=xU E Γ an Λ fn rs,av:=ot rs}:=by
 intro xs y hy;simp only at hy;unfold xU at hy;cases hb:fn.body with
 |none=>rw[hb]at hy;cases hy
 |some c=>
  rw[hb]at hy;simp only at hy;split at hy;refine⟨⟨fn,c,hf,hb,hname⟩,λ_ _ A w vs hA hargs=>?_,λh=>(by cases h),λh=>(by cases h),λh=>(by cases h)⟩;refine calls_of_wp hf hb (wp_mono (xO hS c (by rw[hb]at hΛ;exact hΛ) _ _ _ _ (wg hA hargs) hy) ?_);rintro e a' w' ⟨ex,st',he,hs,hk⟩;have main:aa (hZ st' E [] fn.results.toList) (eU rs)=some y→a'.defers=[]∧∃v,(Go.results fn a'.tmps).run P w'=.ok v w'∧∃v_1 hw fp,Ending.returned v=Ending.returned v_1∧di (cH A hw w') v_1 (ot rs y) fp∧fp.Nodup∧(∀b∈fp,w.heap.size≤b∧b<w'.heap.size)∧Fr (λ_=>False) w w':=by intro hres;obtain⟨g,hg⟩:=hs;refine⟨hg.defers,?_⟩;cases hra:hZ st' E [] fn.results.toList with|none=>rw[hra]at hres;cases hres|some ys=>rw[hra]at hres;obtain⟨v,fp,hrun,hrel,hnd,hlab⟩:=ua hS.ty hg hra hres;refine⟨v,hrun,v,g.hw,fp,rfl,hrel,hnd,λb hb=>?_,hg.frame⟩;obtain⟨own,hl⟩:=hlab b hb;have:=hg.labs b _ hl;exact⟨this.2.resolve_right (λf=>f),this.1⟩
  cases e<;>cases ex<;>simp only[tw]at he;exact main hk;cases hk;exact main hk;cases hy
theorem Zx {E:Env}{Γ:cD}{an:An}{Λ:cY}{rs rs2:List (Bool×FT)}(h2:fG rs2=fG rs)(hS:Sound P E Γ){f:Nat}{fn:Func}(hf:P.funcs[f]?=some fn)(hname:(fn.name== "runtime.NumGoroutine")=false)(hΛ:qz E Γ an Λ (fn.body.getD .skip)):aP P f {R:=Bool×fG rs,fn:=evalAlt E Γ an Λ fn rs rs2 h2,av:=λy=>ot rs y.2,sel:=λy=>y.1,alt:=λy=>ot rs2 (cast h2.symm y.2)}:=by
 intro xs y hy;simp only at hy;unfold evalAlt at hy;cases hb:fn.body with
 |none=>rw[hb]at hy;cases hy
 |some c=>
  rw[hb]at hy;simp only at hy;split at hy;refine⟨⟨fn,c,hf,hb,hname⟩,λ_ _ A w vs hA hargs=>?_,λh=>(by cases h),λh=>(by cases h),λh=>(by cases h)⟩;refine calls_of_wp hf hb (wp_mono (xO hS c (by rw[hb]at hΛ;exact hΛ) _ _ _ _ (wg hA hargs) hy) ?_);rintro e a' w' ⟨ex,st',he,hs,hk⟩
  have main:(aa (hZ st' E [] fn.results.toList) λys=>match eU rs ys with
   |some y=>some (true,y)
   |none=>match eU rs2 ys with
    |some y=>some (false,cast h2 y)
    |none=>none)=some y→a'.defers=[]∧∃v,(Go.results fn a'.tmps).run P w'=.ok v w'∧∃v_1 hw fp,Ending.returned v=Ending.returned v_1∧
   di (cH A hw w') v_1 (cond y.1 (ot rs y.2) (ot rs2 (cast h2.symm y.2))) fp∧fp.Nodup∧(∀b∈fp,w.heap.size≤b∧b<w'.heap.size)∧Fr (λ_=>False) w w':=by
   intro hres
   obtain⟨g,hg⟩:=hs
   refine⟨hg.defers,?_⟩
   cases hra:hZ st' E [] fn.results.toList with
   |none=>rw[hra]at hres;cases hres
   |some ys=>
    rw[hra]at hres
    simp only[aa]at hres
    have fin:∀(rs':List (Bool×FT))(y':fG rs'),eU rs' ys=some y'→∃v,(Go.results fn a'.tmps).run P w'=.ok v w'∧∃v_1 hw fp,Ending.returned v=Ending.returned v_1∧
     di (cH A hw w') v_1 (ot rs' y') fp∧fp.Nodup∧(∀b∈fp,w.heap.size≤b∧b<w'.heap.size)∧Fr (λ_=>False) w w':=by
     intro rs' y' hy'
     obtain⟨v,fp,hrun,hrel,hnd,hlab⟩:=ua hS.ty hg hra hy'
     refine⟨v,hrun,v,g.hw,fp,rfl,hrel,hnd,λb hb=>?_,hg.frame⟩
     obtain⟨own,hl⟩:=hlab b hb
     have:=hg.labs b _ hl
     exact⟨this.2.resolve_right (λf=>f),this.1⟩
    cases h1:eU rs ys with
    |some y1=>rw[h1]at hres;cases hres;exact fin rs y1 h1
    |none=>
     rw[h1]at hres
     simp only at hres
     cases h3:eU rs2 ys with
     |none=>rw[h3]at hres;cases hres
     |some y1=>
      rw[h3]at hres
      cases hres
      simp only[ai,cast_cast,cast_eq]
      exact fin rs2 y1 h3
  cases e<;>cases ex<;>simp only[tw]at he;exact main hk;cases hk;exact main hk;cases hy
def KA (vs:List Value)(t:Nat):Value:=(vs[t/3-4096*1000003]?).getD undef
theorem KT {A:Rg}{hw:Nat→Nat}{c:RC}(hcw:c.w=w)(hchw:c.hw=hw)(hiss:∀t,t%3=0→c.iss t){all:List Value}(hhdr:∀t,c.hdr t=KA all t):
 ∀(j:Nat){vs:List Value}{cs:List AC}{fp:List Nat},aR (cH A hw w) vs cs fp→cs.all AC.DT=true→(∀i v,vs[i]?=some v→all[j+i]?=some v)→
  aR c vs (Gi j cs) fp∧aR c vs (pw j cs) []:=by
 intro j vs
 induction vs generalizing j with
 |nil=>intro cs fp h _ _;cases cs with
  |nil=>exact⟨h,rfl⟩
  |cons _ _=>exact h.elim
 |cons v vs ih=>
  intro cs fp h hok hall
  cases cs with
  |nil=>exact h.elim
  |cons x cs=>
   obtain⟨f1,f2,rfl,h1,h2⟩:=h
   simp only[ba,ab]at hok
   obtain⟨i1,i2⟩:=ih (j+1) h2 hok.2 (λi u hu=>by rw[show j+1+i=j+(i+1) by omega];exact hall (i+1) u (by simpa using hu))
   have hv0:=hall 0 v rfl
   rw[cG]at hv0
   have hst:c.iss (oD j)∧v=c.hdr (oD j):=by refine⟨hiss _ (by unfold oD;omega),?_⟩;rw[hhdr,KA,show oD j/3-4096*1000003=j by unfold oD;omega,hv0];rfl
   have flt:x.du=true→Gi j (x::cs)=x::Gi (j+1) cs∧pw j (x::cs)=x::pw (j+1) cs→aR c (v::vs) (Gi j (x::cs)) (f1++f2)∧aR c (v::vs) (pw j (x::cs)) []:=by rintro hf ⟨e1,e2⟩;obtain⟨rfl,k⟩:=fO (c':=c) h1 hf;rw[e1,e2];exact⟨⟨[],f2,rfl,k,i1⟩,⟨[],[],rfl,k,i2⟩⟩
   cases x with
   |sl fl e xs=>
    cases fl with
    |own t=>
     have hown:cw c.hw c.w (.sl e) [v] xs f1:=by rw[hchw,hcw];exact h1.1
     refine⟨⟨f1,f2,rfl,⟨hown,λq hq=>by cases hq;exact hst⟩,i1⟩,⟨[],[],rfl,⟨rfl,bw _,uQ hown,λ_=>cw.rep (λb o ho=> .inr ho) hown,λr t hp=>?_⟩,i2⟩⟩
     cases hp
     exact⟨hst.1,hst.2⟩
    |arg _=>cases hok.1
    |loc ep pv=>cases hok.1
    |nest _ _ _ _ _ _=>cases hok.1
    |part _ _ _ _=>cases hok.1
    |holed _ _ _=>cases hok.1
   |int k n=>exact flt rfl ⟨rfl,rfl⟩
   |bool b=>exact flt rfl ⟨rfl,rfl⟩
   |str s=>exact flt rfl ⟨rfl,rfl⟩
   |fn f=>exact flt rfl ⟨rfl,rfl⟩
   |nilsl=>cases hok.1
   |ptr s off=>cases hok.1
   |elt fl e y i off=>cases hok.1
   |un=>cases hok.1
   |bot=>cases hok.1
theorem Fc {A:Rg}{hw:Nat→Nat}{fp:List Nat}(hA:∀k b o,A k b o→b<w.heap.size∧b∉fp){fn:Func}{v0:Value}{vs us:List Value}{gg:Bool}{cs:List AC}{xs:List AV}(hcut:Cut gg v0 us)(hrel:aR (cH A hw w) us cs fp)(hok:cs.all AC.DT=true)(hn:fp.Nodup)(hlt:∀b∈fp,b<w.heap.size)(h:gy A w vs xs): gH ⟨A,λb=>b∈fp,w,us,λk b o hb=>hA k b o hb⟩ (tj fn gg cs xs) {tmps:=(v0::vs).toArray++Array.replicate (fn.ntmps-(v0::vs).toArray.size) undef,defers:=[]} w:=by
 obtain⟨hl,hi⟩:=qV h;let C:Ctx:=⟨A,λb=>b∈fp,w,us,λk b o hb=>hA k b o hb⟩
 let g:Gh:=⟨hw,λ_=>0,λb=>if b∈fp then some .io else none,KA us⟩
 have hle:(cH A (λ_=>0) w).Le (bt C g (tj fn gg cs xs) w):=⟨rfl,λt ht=>ht.elim,λ_ _ _ _ _ hv=>hv,aK _,λs hs=>hs.elim,λ_ b o u ho _=>absurd ho (Nat.not_lt_zero _)⟩
 obtain⟨k1,k2⟩:=KT (c:=bt C g (tj fn gg cs xs) w) (A:=A) rfl rfl (λt ht=> .inl (by omega)) (all:=us) (λt=>rfl) 0 hrel hok (λi v hv=>by rw[bG];exact hv);refine⟨g,rfl,?_,?_,λi av hs=>?_,λs cs' hs=>?_,λk v av hk=>by simp at hk,λb x hx=>?_,Fr.refl _ _,⟨fp,k1,hn,λb hb=>by show(if b∈fp then _ else _)=_;rw[au hb]⟩⟩;simp[tj,start,hl];omega;·simp[tj,start];try omega
 have hs':((.val gg (pw 0 cs)::xs)++List.replicate (fn.ntmps-(.val gg (pw 0 cs)::xs).length) AV.bot)[i]?=some av:=hs;rcases bd i (xs.length+1)with hlt'|hge;rw[List.getElem?_append_left (by simpa using hlt')]at hs';cases i with
 |zero=>
  simp at hs';subst hs';refine⟨[],?_,by simp,by simp⟩;have hvv:((v0::vs).toArray++Array.replicate (fn.ntmps-(v0::vs).toArray.size) undef).getD 0 undef=v0:=by simp[Array.getD_eq_getD_getElem?,Array.getElem?_append]
  show di _ (((v0::vs).toArray++Array.replicate (fn.ntmps-(v0::vs).toArray.size) undef).getD 0 undef) _ _;rw[hvv];exact⟨us,hcut,k2⟩
 |succ i=>
  obtain⟨v,hv,hr⟩:=hi i av (by simpa using hs');refine⟨[],?_,by simp,by simp⟩;have hvv:((v0::vs).toArray++Array.replicate (fn.ntmps-(v0::vs).toArray.size) undef).getD (i+1) undef=v:=by
   have hlt2:i<vs.length:=by omega
   have hv':vs[i]=v:=by rw[List.getElem?_eq_getElem hlt2]at hv;exact cc hv
   simp[Array.getD_eq_getD_getElem?,Array.getElem?_append,hlt2,hv']
  show di _ (((v0::vs).toArray++Array.replicate (fn.ntmps-(v0::vs).toArray.size) undef).getD (i+1) undef) _ _;rw[hvv];exact hr.mono hle (by simp)
 rw[List.getElem?_append_right (by simpa using hge),List.getElem?_replicate]at hs';split at hs';cases hs';exact⟨[],di.bot _ _,by simp,by simp⟩;cases hs';have hs':(List.replicate ((AV.val gg (pw 0 cs)::xs).length+(fn.ntmps-(AV.val gg (pw 0 cs)::xs).length)) (none:Option (List AC)))[s]?=some (some cs'):=hs;rw[List.getElem?_replicate]at hs';split at hs'<;>cases hs';have hx':(if b∈fp then some eC.io else none)=some x:=hx;split at hx';rename_i hm;exact⟨hlt b hm,.inr hm⟩;cases hx'
theorem aaa {E:Env}{Γ:cD}{an:An}{Λ:cY}{rs:List (Bool×FT)}{t:CT}(hS:Sound P E Γ){f:Nat}{fn:Func}(hf:P.funcs[f]?=some fn)(hname:(fn.name== "runtime.NumGoroutine")=false)(hΛ:qz E Γ an Λ (fn.body.getD .skip)):aP P f {R:=fG rs×t.D,fn:=Kw E Γ an Λ fn rs t,av:=λy=>ot rs y.1,io:=true,back:=λy=>cellsOf t (.own none) y.2}:=by
 intro xs y hy;simp only at hy;unfold Kw at hy;split at hy;rename_i c gg cs rest hb;split at hy;rename_i hlen;refine⟨⟨fn,c,hf,hb,hname⟩,λh=>(by cases h),λ_ g0 cs0 rest0 he A w v0 vs hw fp hA hrel hn hlt hargs=>?_,λh=>(by cases h),λh=>(by cases h)⟩;injection he with he1 he2;injection he1 with he1 he3;subst he1;subst he2;subst he3;obtain⟨us,hcut,hrel⟩:=hrel;refine calls_of_wp hf hb (wp_mono (xO hS c (by rw[hb]at hΛ;exact hΛ) _ _ _ _ (Fc (fn:=fn) hA hcut hrel hlen.2 hn hlt hargs) hy) ?_);rintro e a' w' ⟨ex,st',he,hs,hk⟩
 have main:(aa (aa (hZ st' E [] fn.results.toList) (eU rs)) λr=>match ej t st'.io with|some (x,[])=>some (r,x)|_=>none)=some y→
  a'.defers=[]∧∃v,(Go.results fn a'.tmps).run P w'=.ok v w'∧∃v_1 hw' fr fp',Ending.returned v=Ending.returned v_1∧di (cH A hw' w') v_1 (ot rs y.1) fr∧di (cH A hw' w') v0 (.val gg (cellsOf t (.own none) y.2)) fp'∧fp'.Nodup∧(∀b∈fp',b<w'.heap.size∧(b∈fp∨w.heap.size≤b))∧Fr (λb=>b∈fp) w w':=by
  intro hres
  obtain⟨g,hg⟩:=hs
  refine⟨hg.defers,?_⟩
  cases hra:hZ st' E [] fn.results.toList with
  |none=>rw[hra]at hres;cases hres
  |some ys=>
   rw[hra]at hres
   simp only[aa]at hres
   cases hrr:eU rs ys with
   |none=>rw[hrr]at hres;cases hres
   |some r0=>
    rw[hrr]at hres
    simp only at hres
    split at hres
    ·rename_i x hx
     cases hres
     obtain⟨v,fr,hrun,hrel',hnd,hlab⟩:=ua hS.ty hg hra hrr
     obtain⟨fp',hio,hn',hl'⟩:=hg.io
     obtain⟨f1,f2,rfl,hown,hrest⟩:=g8 hio hx
     have hnil:us.drop t.size=[]:=by cases hd:us.drop t.size with|nil=>rfl|cons _ _=>have hrest':aR _ (us.drop t.size) _ _:=hrest;rw[hd]at hrest';exact hrest'.elim
     have hf2:f2=[]:=by have hrest':aR _ (us.drop t.size) [] f2:=hrest;rw[hnil]at hrest';exact hrest'
     subst hf2
     rw[aU]at hn' hl'
     have htake:us.take t.size=us:=by have:=bu t.size us;rw[hnil,aU]at this;exact this
     have hown':cw g.hw w' t us x f1:=by have hown':cw g.hw w' t (us.take t.size) x f1:=hown;rwa[htake]at hown'
     refine⟨v,hrun,v,g.hw,fr,f1,rfl,hrel',⟨us,hcut,jS (c:=cH A g.hw w') hown'⟩,hn',λb hb=>?_,hg.frame⟩
     have:=hg.labs b _ (hl' b hb)
     exact⟨this.1,this.2.symm⟩
    ·cases hres
 cases e<;>cases ex<;>simp only[tw]at he;exact main hk;cases hk;exact main hk;cases hy;cases hy
theorem Iq {A:Rg}{hw:Nat→Nat}{c:RC}(hcA:c.A=A)(hcw:c.w=w)(hchw:c.hw=hw)(hiss:∀t,t%3=1→c.iss t){all:List Value}(hhdr:∀t,c.hdr t=(all[t/3]?).getD undef):
 ∀(j:Nat){vs:List Value}{cs:List AC}{fp:List Nat},aR (cH A hw w) vs cs fp→cs.all (AC.oo true)=true→(∀i v,vs[i]?=some v→all[j+i]?=some v)→aR c vs (uo j cs) fp:=by
 intro j vs
 induction vs generalizing j with
 |nil=>intro cs fp h _ _;cases cs with
  |nil=>exact h
  |cons _ _=>exact h.elim
 |cons v vs ih=>
  intro cs fp h hok hall
  cases cs with
  |nil=>exact h.elim
  |cons x cs=>
   obtain⟨f1,f2,rfl,h1,h2⟩:=h
   simp only[ba,ab]at hok
   have i1:=ih (j+1) h2 hok.2 (λi u hu=>by rw[show j+1+i=j+(i+1) by omega];exact hall (i+1) u (by simpa using hu))
   have hv0:=hall 0 v rfl
   rw[cG]at hv0
   have flt:x.du=true→uo j (x::cs)=x::uo (j+1) cs→aR c (v::vs) (uo j (x::cs)) (f1++f2):=by rintro hf e1;obtain⟨rfl,k⟩:=fO (c':=c) h1 hf;rw[e1];exact⟨[],f2,rfl,k,i1⟩
   cases x with
   |sl fl e xs=>
    cases fl with
    |own t=>
     have hown:cw c.hw c.w (.sl e) [v] xs f1:=by rw[hchw,hcw];exact h1.1
     refine⟨f1,f2,rfl,⟨hown,λq hq=>?_⟩,i1⟩
     cases hq
     refine⟨hiss _ (by omega),?_⟩
     rw[hhdr,show(3*j+1)/3=j by omega,hv0];rfl
    |arg k=>
     have hk:k=true:=by simpa[AC.oo]using hok.1
     subst hk
     exact⟨f1,f2,rfl,⟨h1.1,by rw[hcw,hcA];exact h1.2⟩,i1⟩
    |loc ep pv=>cases hok.1
    |nest _ _ _ _ _ _=>cases hok.1
    |part _ _ _ _=>cases hok.1
    |holed _ _ _=>cases hok.1
   |int k n=>exact flt rfl rfl
   |bool b=>exact flt rfl rfl
   |str s=>exact flt rfl rfl
   |fn f=>exact flt rfl rfl
   |nilsl=>cases hok.1
   |ptr s off=>cases hok.1
   |elt fl e y i off=>cases hok.1
   |un=>cases hok.1
   |bot=>cases hok.1
theorem CB {A:Rg}{hw:Nat→Nat}{fp:List Nat}{b:Nat}(hA:∀k b' o,A k b' o→b'<w.heap.size∧b'≠b∧b'∉fp){fn:Func}{vs:List Value}{arr:Array Value}{T:TypeId}{fr:Nat×Nat}{cs:List AC}{xs:List AV}(hblk:w.heap[b]?=some (.cells arr T fr))(hth:iV arr fr)(hrel:aR (cH A hw w) arr.toList cs fp)(hok:cs.all (AC.oo true)=true)(hn:fp.Nodup)(hnb:b∉fp)(hlt:∀b'∈fp,b'<w.heap.size)(hw0:hw b=0)(h:gy A w vs xs): gH ⟨A,λb'=>b'=b∨b'∈fp,w,[.pointer (some ⟨b,0,none⟩)],λk b' o hb=>⟨(hA k b' o hb).1,λhm=>hm.elim (hA k b' o hb).2.1 (hA k b' o hb).2.2⟩⟩ (pG fn cs xs) {tmps:=(.pointer (some ⟨b,0,none⟩)::vs).toArray++Array.replicate (fn.ntmps-(Value.pointer (some ⟨b,0,none⟩)::vs).toArray.size) undef,defers:=[]} w:=by
 obtain⟨hl,hi⟩:=qV h;let v0:Value:=.pointer (some ⟨b,0,none⟩);let C:Ctx:=⟨A,λb'=>b'=b∨b'∈fp,w,[v0],λk b' o hb=>⟨(hA k b' o hb).1,λhm=>hm.elim (hA k b' o hb).2.1 (hA k b' o hb).2.2⟩⟩
 let g:Gh:=⟨hw,λ_=>b,λb'=>if b'=b∨b'∈fp then some (.box 0) else none,λt=>(arr.toList[t/3]?).getD undef⟩
 have hbs:=ga hblk;have hpres:dp (pG fn cs xs) 0:=⟨uo 0 cs,rfl⟩
 have hle:(cH A (λ_=>0) w).Le (bt C g (pG fn cs xs) w):=⟨rfl,λt ht=>ht.elim,λ_ _ _ _ _ hv=>hv,aK _,λs hs=>hs.elim,λ_ b o u ho _=>absurd ho (Nat.not_lt_zero _)⟩
 have k1:=Iq (c:=bt C g (pG fn cs xs) w) (A:=A) rfl rfl rfl (λt ht=> .inl (by omega)) (all:=arr.toList) (λt=>rfl) 0 hrel hok (λi v hv=>by rw[bG];exact hv);refine⟨g,rfl,?_,?_,λi av hs=>?_,λs cs' hs=>?_,λk v av hk=>by simp at hk,λb' x hx=>?_,Fr.refl _ _,⟨[],⟨[],[],rfl,⟨rfl,hpres,rfl⟩,rfl⟩,by simp,by simp⟩⟩;simp[pG,start,hl];omega;simp[pG,start];have hs':((.one (.ptr 0 0)::xs)++List.replicate (fn.ntmps-(AV.one (.ptr 0 0)::xs).length) AV.bot)[i]?=some av:=hs;rcases bd i (xs.length+1)with hlt'|hge;rw[List.getElem?_append_left (by simpa using hlt')]at hs';cases i with
 |zero=>
  simp at hs';subst hs';refine⟨[],?_,by simp,by simp⟩;have hvv:((v0::vs).toArray++Array.replicate (fn.ntmps-(v0::vs).toArray.size) undef).getD 0 undef=v0:=by simp[Array.getD_eq_getD_getElem?,Array.getElem?_append]
  show di _ (((v0::vs).toArray++Array.replicate (fn.ntmps-(v0::vs).toArray.size) undef).getD 0 undef) _ _;rw[hvv];exact gp ⟨rfl,hpres,rfl⟩
 |succ i=>
  obtain⟨v,hv,hr⟩:=hi i av (by simpa using hs');refine⟨[],?_,by simp,by simp⟩;have hvv:((v0::vs).toArray++Array.replicate (fn.ntmps-(v0::vs).toArray.size) undef).getD (i+1) undef=v:=by
   have hlt2:i<vs.length:=by omega
   have hv':vs[i]=v:=by rw[List.getElem?_eq_getElem hlt2]at hv;exact cc hv
   simp[Array.getD_eq_getD_getElem?,Array.getElem?_append,hlt2,hv']
  show di _ (((v0::vs).toArray++Array.replicate (fn.ntmps-(v0::vs).toArray.size) undef).getD (i+1) undef) _ _;rw[hvv];exact hr.mono hle (by simp)
 rw[List.getElem?_append_right (by simpa using hge),List.getElem?_replicate]at hs';split at hs';cases hs';exact⟨[],di.bot _ _,by simp,by simp⟩;cases hs';have hs':(some (uo 0 cs)::List.replicate (xs.length+(fn.ntmps-(xs.length+1))) (none:Option (List AC)))[s]?=some (some cs'):=hs;cases s with|zero=>simp at hs';subst hs';refine⟨arr,T,fr,fp,hblk,hth,k1,hn,hnb,λb' hb'=>?_,?_,hw0⟩;show(if b'=b∨b'∈fp then _ else _)=_;rw[au (.inr hb')];show(if b=b∨b∈fp then _ else _)=_;rw[au (.inl rfl)]|succ s=>simp only[List.getElem?_cons_succ,List.getElem?_replicate]at hs';split at hs'<;>cases hs'
 have hx':(if b'=b∨b'∈fp then some (eC.box 0) else none)=some x:=hx;split at hx';rename_i hm;rcases hm with rfl|hm;exact⟨hbs,.inr (.inl rfl)⟩;exact⟨hlt b' hm,.inr (.inr hm)⟩;cases hx'
theorem kk {E:Env}{Γ:cD}{an:An}{Λ:cY}{rs:List (Bool×FT)}{t:FT}(hS:Sound P E Γ){f:Nat}{fn:Func}(hf:P.funcs[f]?=some fn)(hname:(fn.name== "runtime.NumGoroutine")=false)(hΛ:qz E Γ an Λ (fn.body.getD .skip)):aP P f {R:=fG rs×t.ct.D,fn:=HD E Γ an Λ fn rs t,av:=λy=>ot rs y.1,back:=λy=>eJ t y.2,bx:=true}:=by
 intro xs y hy;simp only at hy;unfold HD at hy;split at hy;rename_i c cs rest hb;split at hy;rename_i hlen;refine⟨⟨fn,c,hf,hb,hname⟩,λ_ h=>(by cases h),λh=>(by cases h),λ_ cs0 rest0 he A w b vs arr T fr hw fp hA hblk hth hrel hn hnb hlt hw0 hargs=>?_,λh=>(by cases h)⟩;injection he with he1 he2;injection he1 with _ he3;subst he2;subst he3;refine calls_of_wp hf hb (wp_mono (xO hS c (by rw[hb]at hΛ;exact hΛ) _ _ _ _ (CB (fn:=fn) hA hblk hth hrel hlen.2 hn hnb hlt hw0 hargs) hy) ?_);rintro e a' w' ⟨ex,st',he,hs,hk⟩
 have main:(aa (aa (hZ st' E [(true,0)] fn.results.toList) (eU rs)) λr=>match st'.io,st'.boxes with
  |[.ptr 0 0],some cs'::_=>(match xg t (cs'.map AC.strip)with|some (x,[])=>some (r,x)|_=>none)
  |_,_=>none)=some y→
  a'.defers=[]∧∃v,(Go.results fn a'.tmps).run P w'=.ok v w'∧∃v_1 hw' fv arr' T' fr' fp',Ending.returned v=Ending.returned v_1∧di (cH A hw' w') v_1 (ot rs y.1) fv∧w'.heap[b]?=some (.cells arr' T' fr')∧iV arr' fr'∧
    aR (cH A hw' w') arr'.toList (eJ t y.2) fp'∧fp'.Nodup∧b∉fp'∧(∀b'∈fp',b'<w'.heap.size∧(b'∈fp∨w.heap.size≤b'))∧fv.Nodup∧(∀b'∈fv,b'<w'.heap.size∧(b'∈fp∨w.heap.size≤b')∧b'∉fp'∧b'≠b)∧Fr (λb'=>b'=b∨b'∈fp) w w':=by
  intro hres
  obtain⟨g,hg⟩:=hs
  refine⟨hg.defers,?_⟩
  cases hra:hZ st' E [(true,0)] fn.results.toList with
  |none=>rw[hra]at hres;cases hres
  |some ys=>
   rw[hra]at hres
   simp only[aa]at hres
   cases hrr:eU rs ys with
   |none=>rw[hrr]at hres;cases hres
   |some r0=>
    rw[hrr]at hres
    simp only at hres
    split at hres
    ·rename_i cs' tl hio hbx
     split at hres
     ·rename_i x hx
      cases hres
      obtain⟨v,fv,hrun,hrel',hnd,hlab⟩:=wD hS.ty hg hra hrr
      obtain⟨fpi,hri,_,_⟩:=hg.io
      rw[hio]at hri
      obtain⟨g1,g2,_,hptr,_⟩:=hri
      have hβ:b=g.β 0:=by have:=hptr.1;simp only[Value.pointer.injEq,aJ,Addr.mk.injEq]at this;exact this.1
      obtain⟨arr',T',fr',fp',hblk',hth',hr',hn',hnb',hl',hl0',_⟩:=hg.boxes 0 cs' (by rw[hbx];rfl)
      rw[←hβ]at hblk' hnb' hl0'
      have hst:=nW hr'
      have hsp:=nS hx
      rw[aU]at hsp
      rw[hsp]at hst
      have hM:∀b',(w.heap.size≤b'∨(b'=b∨b'∈fp))→b'≠b→b'∈fp∨w.heap.size≤b':=by rintro b' (h2|h2|h2) hne;exact .inr h2;exact absurd h2 hne;exact .inl h2
      refine⟨v,hrun,v,g.hw,fv,arr',T',fr',fp',rfl,hrel',hblk',hth',hst,hn',hnb',λb' hb'=>?_,hnd,λb' hb'=>?_,hg.frame⟩
      ·have:=hg.labs b' _ (hl' b' hb')
       exact⟨this.1,hM b' this.2 (λe=>hnb' (e▸hb'))⟩
      ·obtain⟨own,hnot,hlb⟩:=hlab b' hb'
       have hno:g.lab b'≠some (.box 0):=by rw[hlb];intro e;have e2:oE own=oE (true,0):=cc e;exact hnot (by rw[wz e2];simp)
       have hne:b'≠b:=λe=>hno (by rw[e];exact hl0')
       have:=hg.labs b' _ hlb
       exact⟨this.1,hM b' this.2 hne,λhm=>hno (hl' b' hm),hne⟩
     ·cases hres
    ·cases hres
 cases e<;>cases ex<;>simp only[tw]at he;exact main hk;cases hk;exact main hk;cases hy;cases hy
theorem SI {E:Env}{Γ:cD}{an:An}{Λ:cY}{t:FT}(hS:Sound P E Γ){f:Nat}{fn:Func}(hf:P.funcs[f]?=some fn)(hname:(fn.name== "runtime.NumGoroutine")=false)(hΛ:qz E Γ an Λ (fn.body.getD .skip)):aP P f {R:=t.ct.D,fn:=BX E Γ an Λ fn t,av:=λ_=> .bot,back:=λy=>eJ t y,pr:=true}:=by
 intro xs y hy;simp only at hy;unfold BX at hy;cases hb:fn.body with
 |none=>rw[hb]at hy;cases hy
 |some c=>
  rw[hb]at hy;simp only at hy;split at hy;have key:NV P f {R:=t.ct.D,fn:=BX E Γ an Λ fn t,av:=λ_=> .bot,back:=λy=>eJ t y,pr:=true} y xs:=by
   intro A w vs hA hargs;refine calls_of_wp hf hb (wp_mono (xO hS c (by rw[hb]at hΛ;exact hΛ) _ _ _ _ (wg hA hargs) hy) ?_);rintro e a' w' ⟨ex,st',he,hs,hk⟩
   have main:(match fn.results.toList with
    |[.tmp i]=>match st'.get i with
     | .val false [.ptr s 0]=>match (nth st'.boxes s).getD none with
       |some cs=>if cs.all AC.vp=true then(match xg t (cs.map AC.strip)with|some (x,[])=>some x|_=>none) else none
       |none=>none
     |_=>none
    |_=>none)=some y→a'.defers=[]∧∃v,(Go.results fn a'.tmps).run P w'=.ok v w'∧∃b arr T fr hw,Ending.returned v=.returned (.pointer (some ⟨b,0,none⟩))∧w.heap.size≤b∧w'.heap[b]?=some (.cells arr T fr)∧iV arr fr∧aR (cH A hw w') arr.toList (eJ t y) []∧Fr (λ_=>False) w w':=by
    intro hres
    obtain⟨g,hg⟩:=hs
    refine⟨hg.defers,?_⟩
    split at hres
    ·rename_i i hri
     split at hres
     ·rename_i s hp
      cases hbx:(nth st'.boxes s).getD none with
      |none=>rw[hbx]at hres;cases hres
      |some cs=>
       rw[hbx]at hres
       simp only at hres
       split at hres
       ·rename_i hok
        split at hres
        ·rename_i x hx
         cases hres
         have hbx:st'.boxes[s]?=some (some cs):=by rw[cg]at hbx;cases hq:st'.boxes[s]? with|none=>rw[hq]at hbx;simp at hbx|some q=>rw[hq]at hbx;simp at hbx;rw[hbx]
         obtain⟨fp0,hpv,_,_⟩:=hg.slot i
         rw[hp]at hpv
         have hpv:=qd hpv
         obtain⟨arr,T,fr,fp,hblk,hth,hrel,hn,hnb,hl,hl0,hw0⟩:=hg.boxes s cs hbx
         obtain⟨hfp,vs,hcut,hrel2⟩:=arg_val (c:=bt _ g st' w') (c':=bt _ g st' w') rfl rfl (v:=.agg arr.toList.toArray) (x:=.val true cs) ⟨arr.toList,rfl,hrel⟩ hok
         have hvs:arr.toList=vs:=by have hcut:Value.agg arr.toList.toArray=.agg vs.toArray:=hcut;simp only[Value.agg.injEq]at hcut;simpa using congrArg Array.toList hcut
         rw[←hvs]at hrel2
         have hst:=nW hrel2
         have hsp:=nS hx
         rw[aU]at hsp
         rw[hsp]at hst
         have hrun:(Go.results fn a'.tmps).run P w'=.ok (a'.tmps.getD i undef) w':=by
          have he:fn.results=#[.tmp i]:=by apply cv;exact hri
          have hmap:=rp (P:=P) (rm a'.tmps) (λ_=>a'.tmps.getD i undef) w' fn.results (λx hx=>by rw[he]at hx;simp at hx;subst hx;rfl)
          have hd:Go.results fn a'.tmps=(do
           let vs←fn.results.mapM (rm a'.tmps)
           pure (if h:vs.size=1 then vs[0] else .tuple vs)):=by
           unfold Go.results
           congr 1
          rw[hd];simp only[Sem.run_bind,hmap,Result.andThen_ok,Sem.run_pure];rw[he];simp
         refine⟨_,hrun,g.β s,arr,T,fr,g.hw,congrArg Ending.returned hpv,?_,hblk,hth,hst,hg.frame⟩
         exact(hg.labs _ _ hl0).2.resolve_right (λf=>f)
        ·cases hres
       ·cases hres
     ·cases hres
    ·cases hres
   cases e<;>cases ex<;>simp only[tw]at he;exact main hk;cases hk;exact main hk
  refine⟨⟨fn,c,hf,hb,hname⟩,λ_ _ A w vs hA hargs=>?_,λh=>(by cases h),λh=>(by cases h),λ_=>key⟩;refine(key A w vs hA hargs).mono ?_;rintro e w' ⟨b,arr,T,fr,hw,rfl,_,_,_,_,hfr⟩;exact⟨_,hw,[],rfl,di.bot _ _,List.nodup_nil,(λb hb=>by cases hb),hfr⟩;cases hy
end Go.Dn
