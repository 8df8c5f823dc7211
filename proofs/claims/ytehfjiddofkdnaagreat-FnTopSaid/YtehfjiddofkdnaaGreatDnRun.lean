import Derived.Test.YtehfjiddofkdnaaGreatDnAny
/- The soundness of the abstract semantics: code and functions. -/
open Bool renaming false->G,true->O
open Option renaming none->W,some->I
namespace Go.Dn
open Go.RowKit
variable {P:Program} {C:Ctx} {st:AS} {a:Act} {w:World} {R:Type} {r:R}
variable {an:An} {L:Bool} {Γ:IY} {g:Gh} {Λ:Qn} {f:Nat} {hw:Nat->Nat} {A:Rg} {N:Z (Bool×FT)} {M:Z (Bool×Z AC)} {S:Z AC} {Q:Z AV} {X:gw} {Y:oz}
def OP:Exit->Ex->Prop
 | .normal,.normal=>True
 | .ret,.ret=>True
 | .exit i,.exit j=>i=j
 |_,_=>False
def auc C(K:Ex->AS->aS R)r e a w:=
 ∃c b,OP e c/\ub C b a w/\K c b=I r
theorem anx {E}(q:Sound P E Γ){id e d}(h:ub C st a w){K}(c:acU E Γ an id e.toList d st K=I r){Q}(t:∀g j k,ub C g j k->K g=I r->Q .normal j k):(Code.region id e d).wp P Q a w:=by
 unfold acU at c;split at c;rw[Wo]at c;cases f:MK E Γ an e.toList d st I with|none=>rw[f]at c;cases c|some i=>rw[f]at c;exact akf q h f (λj k p=>t _ _ _ p c)
 rename_i s v;split at c;rename_i n;rw[Wo]at c;cases f:MK E Γ.calm an e.toList d st I with|none=>rw[f]at c;cases c|some i=>rw[f]at c;simp only[gi]at c;cases l:getBool i s with|none=>rw[l]at c;cases c|some b=>rw[l]at c;simp only[U]at c;have u:=am3 (arA Γ) (λo m=>aL.1 n o m) f;exact akf q.calm h f (λj k p=>t _ _ _ (p.weaken u l) c)
 cases c
def LOk E Γ an Λ c:=
 ∃n,∀(R:Type)(st:AS)(K:Ex->AS->aS R)(r:R),(Λ (fG c)).go st K=I r->GF (an.mask (fG c)) (den E Γ an Λ c) n st K=I r
def COk E Γ an Λ c:=
 ∀(R:Type)(st:AS)(K:Ex->AS->aS R)(r:R),(Λ (Ef c)).go st K=I r->den E Γ an Λ c st (λe a=>K e (a.mask (an.mask (Ef c+1))))=I r
def Gu E Γ an Λ c:=(∀a∈kT c,LOk E Γ an Λ a)/\∀a∈nV an.cut c,COk E Γ an Λ a
theorem ao2 c:nV [] c=[]:=by induction c with|seq a b d e=>simp[nV,d,e]|cond _ a b d e=>simp[nV,d,e]|block _ c f=>simpa[nV]using f|loop c f=>simpa[nV]using f|_=>rfl
theorem Gu.of {E c}(h:∀a∈kT c,LOk E Γ an Λ a)(b:an.cut=[]):Gu E Γ an Λ c:=⟨h,by rw[b,ao2];simp⟩
theorem We {E}(hS:Sound P E Γ):∀(c:Code)(_:Gu E Γ an Λ c)(st:AS)(a:Act)(w:World)(K:Ex->AS->aS R),ub C st a w->den E Γ an Λ c st K=I r->c.wp P (auc C K r) a w:=by
 intro c;induction c with
 |skip=>intro l st a w K h o;exact wp_skip ⟨.normal,st,B,h,o⟩
 |region id ops d=>intro l st a w K h o;exact anx hS h (by simpa only[den]using o) (λq H J u F=>⟨.normal,q,B,u,F⟩)
 |seq x y A v=>
  intro l st a w K h o;have A:=A ⟨λc p=>l.1 c (by simp[kT,p]),λc p=>l.2 c (by simp[nV,p])⟩;have v:=v ⟨λc p=>l.1 c (by simp[kT,p]),λc p=>l.2 c (by simp only[nV];cases an.cut.contains (fG y)<;>simp[p])⟩;simp only[den]at o;refine wp_seq (wp_mono (A st a w _ h o) ?_);rintro e H J ⟨Q,q,F,u,f⟩;cases e<;>cases Q<;>simp only[OP]at F;simp only at f;cases WO:an.cut.contains (fG y)with|false=>rw[WO]at f;exact v q H J K u f|true=>rw[WO]at f;have p:=l.2 y (by simp only[nV,WO];simp) _ _ _ _ f;refine wp_mono (v _ H J _ (u.mask _) p) ?_;rintro e2 a2 w2 ⟨Z,M,he2,hs2,hk2⟩;exact⟨Z,_,he2,hs2.mask _,hk2⟩
  exact⟨.exit _,q,F,u,f⟩;exact⟨.ret,q,B,u,f⟩
 |cond c x y A v=>
  intro l st a w K h o;have A:=A ⟨λc p=>l.1 c (by simp[kT,p]),λc p=>l.2 c (by simp[nV,p])⟩;have v:=v ⟨λc p=>l.1 c (by simp[kT,p]),λc p=>l.2 c (by simp[nV,p])⟩;simp only[den]at o;split at o;rename_i t p;have hv:a.eval c=.bool t:=by obtain⟨g,hg⟩:=h;have:=hg.rd c;rw[p]at this;exact Di this
  cases t with|true=>exact wp_cond_true hv (A st a w K h o)|false=>exact wp_cond_false hv (v st a w K h o)
  cases o
 |block id c L=>intro l st a w K h o;have L:=L ⟨λc p=>l.1 c (by simpa[kT]using p),λc p=>l.2 c (by simpa[nV]using p)⟩;simp only[den]at o;refine wp_block (wp_mono (L st a w _ h o) ?_);rintro e H J ⟨Q,q,F,u,f⟩;cases e<;>cases Q<;>simp only[OP]at F;exact⟨.normal,q,B,u,f⟩;rename_i i j;subst F;simp only[Exit.inBlock];simp only at f;by_cases hi:i=id;subst hi;rw[aI rfl];simp only[iI,dm]at f;exact⟨.normal,q,B,u,f⟩;rw[aK hi];rw[aK (by simpa using hi)]at f;exact⟨.exit i,q,rfl,u,f⟩;exact⟨.ret,q,B,u,f⟩
 |loop c L=>
  intro l st a w K h o;have L:=L ⟨λc p=>l.1 c (by simp[kT,p]),λc p=>l.2 c (by simpa[nV]using p)⟩;obtain⟨n,hn⟩:=l.1 c (by simp[kT]);simp only[den]at o;intro b k S
  have Y:∀m st a w,ub C st a w->GF (an.mask (fG c)) (den E Γ an Λ c) m st K=I r->
   ∃e H J,auc C K r e H J/\Arrives P (lone (b.at a (.code c:: .inLoop c::k)) S w) b k S e H J:=by
   intro m
   induction m with
   |zero=>intro st a w _ o;cases o
   |succ m ihm=>
    intro st a w h o
    simp only[GF]at o
    obtain⟨e,z,D,⟨Q,q,F,u,f⟩,s⟩:=L st a w _ h o b (.inLoop c::k) S
    cases e<;>cases Q<;>simp only[OP]at F
    ·obtain⟨T,N,X,V,U⟩:=ihm _ z D (u.mask _) f
     exact⟨T,N,X,V,.of_steps (Steps.trans s (.one step_inLoop)) U⟩
    ·exact⟨.exit _,z,D,⟨.exit _,_,F,u.mask _,f⟩,.pass (x:=.inLoop c) rfl (λ_ _=> .inl aD) s⟩
    ·exact⟨.ret,z,D,⟨.ret,_,B,u.mask _,f⟩,.pass (x:=.inLoop c) rfl (λ_ _=> .inl aD) s⟩
  cases hp:an.peel.contains (fG c)with
  |false=>rw[hp]at o;obtain⟨e,H,J,hq,s⟩:=Y n _ a w (h.mask _) (hn _ _ _ _ o);exact⟨e,H,J,hq,.of_steps (.one step_loop) s⟩
  |true=>rw[hp]at o;simp only[ae]at o;obtain⟨e,z,D,⟨Q,q,F,u,f⟩,s⟩:=L _ a w _ (h.mask _) o b (.inLoop c::k) S;cases e<;>cases Q<;>simp only[OP]at F;obtain⟨T,N,X,V,U⟩:=Y n _ z D (u.mask _) (hn _ _ _ _ f);exact⟨T,N,X,V,.of_steps (Steps.trans (.one step_loop) (Steps.trans s (.one step_inLoop))) U⟩;exact⟨.exit _,z,D,⟨.exit _,_,F,u.mask _,f⟩,.of_steps (.one step_loop) (.pass (x:=.inLoop c) rfl (λ_ _=> .inl aD) s)⟩;exact⟨.ret,z,D,⟨.ret,_,B,u.mask _,f⟩,.of_steps (.one step_loop) (.pass (x:=.inLoop c) rfl (λ_ _=> .inl aD) s)⟩
 |exit id=>intro l st a w K h o;exact wp_exit ⟨.exit id,st,rfl,h,o⟩
 |ret=>intro l st a w K h o;exact wp_ret ⟨.ret,st,B,h,o⟩
 |_=>intro l st a w K h o;simp[den]at o
theorem KZ:∀{Y:oz}{Q:Z AV},uh A w Y Q->Y.length=Q.length/\∀(i:Nat)(x:AV),Q[i]?=I x->∃v,Y[i]?=I v/\iY (gZ A (λ_=>0) w) v x []
 |[],[],_=>⟨rfl,aD⟩
 |v::Y,x::Q,h=>by obtain⟨c,b⟩:=KZ h.2;refine⟨by simp[c],λi y a=>?_⟩;cases i with|zero=>simp at a;subst a;exact⟨v,rfl,h.1⟩|succ i=>exact b i y (by simpa using a)
 |[],_::_,h=>h.elim
 |_::_,[],h=>h.elim
theorem TG (q:∀k b o,A k b o->b<w.heap.size){fn}(h:uh A w Y Q): ub ⟨A,λ_=>False,w,[],λk b o j=>⟨q k b o j,λf=>f⟩⟩ (ua fn Q) {tmps:=Y.toArray++Array.replicate (fn.ntmps-Y.toArray.size) undef,defers:=[]} w:=by
 obtain⟨z,r⟩:=KZ h;let C:Ctx:=⟨A,λ_=>False,w,[],λk b o j=>⟨q k b o j,λf=>f⟩⟩
 let g:Gh:=⟨λ_=>0,λ_=>0,λ_=>W,λ_=>undef⟩
 have m:(gZ A (λ_=>0) w).Le (dQ C g (ua fn Q) w):=⟨rfl,λt F=>F.elim,λ_ _ _ _ _ d=>d,bq _,λs hs=>hs.elim,λ_ b o u D H=>⟨D,H⟩⟩
 refine⟨g,rfl,?_,?_,λi e hs=>?_,λs S hs=>?_,λk v e y=>by simp at y,λb x K=>(by cases K),Fr.refl _ _,⟨[],rfl,aD,aD⟩⟩;simp[ua,z];simp[ua];have a:(Q++List.replicate (fn.ntmps-Q.length) AV.bot)[i]?=I e:=hs;rcases ca i Q.length with B|l;rw[bE B]at a;obtain⟨v,d,E⟩:=r i e a;refine⟨[],?_,aD,aD⟩;have p:(Y.toArray++Array.replicate (fn.ntmps-Y.toArray.size) undef).getD i undef=v:=by
  have c:i<Y.length:=J;have n:Y[i]=v:=by rw[ah c]at d;exact bu d
  simp[dR,Array.getElem?_append,c,n]
 show iY _ ((Y.toArray++Array.replicate (fn.ntmps-Y.toArray.size) undef).getD i undef) _ _;rw[p];exact E.mono m aD;rw[bN l,dZ]at a;split at a;cases a;exact⟨[],iY.bot _ _,aD,aD⟩;cases a;have a:(List.replicate (Q.length+(fn.ntmps-Q.length)) (W:aS (Z AC)))[s]?=I (I S):=hs;rw[dZ]at a;split at a<;>cases a
theorem ajL {v x}(h:kh (dQ C g st w) v x X):kh (gZ C.A g.hw w) v x.strip X:=by
 cases x with
 |int k n=>exact h
 |bool b=>exact h
 |str s=>exact h
 |mP=>exact h
 |fn f=>exact h
 |un=>exact h
 |bot=>exact h
 |ptr s c=>exact h.2.2
 |I7 a e y i c=>cases a with|own t=>exact h.elim|nest _ _ _ _ _ _=>exact h.elim|part _ _ _ _=>exact h.elim|im _ _ _=>exact h.elim|arg _=>exact h.1|loc d o=>exact h.1
 |sl a e Q=>
  cases a with
  |nest _ _ _ _ _ _=>exact h.1
  |part _ _ _ _=>exact h.1
  |im _ _ _=>obtain⟨_,⟨k,l,j⟩,_⟩:=h;exact⟨λq m=>(by cases m),⟨k,l,j⟩,aD⟩
  |own t=>exact⟨h.1,aD⟩
  |arg _=>exact h
  |loc d o=>exact h.1
theorem Gd:∀{Y:oz}{Q:Z AC}{X:gw},cv (dQ C g st w) Y Q X->cv (gZ C.A g.hw w) Y (Q.map AC.strip) X
 |[],[],_,h=>h
 |_::_,_::_,_,h=>by obtain⟨f1,f2,rfl,a,b⟩:=h;exact⟨f1,f2,rfl,ajL a,Gd b⟩
 |[],_::_,_,h=>h.elim
 |_::_,[],_,h=>h.elim
def Lz (tmps:Array Value):ResultVar->Sem Value
 | .tmp t=>pure (tmps.getD t undef)
 | .cell a t=>do loadVar t (<-asAddr (tmps.getD a undef))
def Hc:Bool×Nat->oN
 |(G,t)=> .slot t
 |(O,s)=> .box s
theorem Ul {x y}(h:Hc x=Hc y):x=y:=by rcases x with⟨_|_,a⟩<;>rcases y with⟨_|_,b⟩<;>simp[Hc]at h<;>rw[h]
theorem asp {E}(D:mL P E.ty)(h:fL C g st a w []){y own}(e:XP st E y=I (own,L,S)): ∃v Y X,(Lz a.tmps y).run P w=.ok v w/\Cut L v Y/\cv (gZ C.A g.hw w) Y S X/\X.Nodup/\∀b∈X,g.gb b=I (Hc own):=by
 cases y with
 |tmp t=>simp only[XP]at e;split at e;rename_i g' j p;cases e;obtain⟨X,d,u,r⟩:=h.slot t;rw[p]at d;obtain⟨Y,o,d⟩:=d;exact⟨_,Y,X,rfl,o,Gd d,u,r⟩;cases e
 |cell t T=>
  simp only[XP]at e;split at e;rename_i l s i F N;cases c:(nth st.boxes s).getD W with
  |none=>rw[c]at e;cases e
  |some j=>
   rw[c]at e;simp only[gi]at e;split at e;rename_i J;cases e;have c:st.boxes[s]?=I (I j):=by rw[fJ]at c;cases z:st.boxes[s]? with|none=>rw[z]at c;simp at c|some q=>rw[z]at c;simp at c;rw[c]
   obtain⟨B,f,_,_⟩:=h.slot t;rw[N]at f;have f:=Jo f;obtain⟨m,V,Z,X,n,MY,d,u,M,r,K,R⟩:=h.boxes s j c;have k:=d.length;obtain⟨v,Q,o⟩:=F0 (D T l F) (g.β s) i ((m.toList.drop i).take l.ct.size) (by simp at k⊢;omega) (ZI n i l.ct.size);obtain⟨f1,f2,f3,rfl,r1,U,r3⟩:=d.mid i l.ct.size;have x:=(aX.1 (aX.1 u).1).2.1;refine⟨v,_,f2,?_,o,Gd U,x,λb H=>r b (by simp[H])⟩;simp only[Lz,f,asAddr,Sem.run_bind,Sem.run_pure,Result.andThen_ok];exact Q;cases e
  cases e
theorem akR {E:Env}(K:mL P E.ty)(h:fL C g st a w [])(s:ResultVar->Value):∀(N:Z ResultVar)(c:Z (Bool×Nat))(M:Z (Bool×Z AC)),uJ st E c N=I M->
 (∀f v,(Lz a.tmps f).run P w=.ok v w->s f=v)->
 (∀f∈N,(Lz a.tmps f).run P w=.ok (s f) w)/\∃X,iY.xy (gZ C.A g.hw w) (N.map s) M X/\X.Nodup/\∀b∈X,∃own,own∉c/\g.gb b=I (Hc own)
 |[],c,M,d,j=>by cases d;exact⟨aD,[],rfl,aD,aD⟩
 |f::N,c,M,d,j=>by
  simp only[uJ]at d;cases t:XP st E f with
  |none=>rw[t]at d;cases d
  |some x=>
   obtain⟨own,L,S⟩:=x;rw[t]at d;simp only[gi]at d;split at d;cases d;rename_i l;have l:own∉c:=by simpa using l
   cases u:uJ st E (own::c) N with|none=>rw[u]at d;cases d|some Q=>rw[u]at d;simp only[gi,bI]at d;subst d;obtain⟨v,Y,m,R,U,D,z,o⟩:=asp K h t;obtain⟨H,n,F,B,p⟩:=akR K h s N (own::c) Q u j;have T:=j f v R;refine⟨λJ q=>?_,m++n,⟨m,n,rfl,⟨Y,by rw[T];exact U,D⟩,F⟩,?_,λb i=>?_⟩;rcases bW.1 q with rfl|q;rw[T];exact R;exact H J q;refine aX.2 ⟨z,B,λb i b' y V=>?_⟩;subst V;obtain⟨r,k,e⟩:=p b y;rw[o b i]at e;have:=Ul (bu e);subst this;exact k aD;rcases aB.1 i with i|i;exact⟨own,l,o b i⟩;obtain⟨r,k,e⟩:=p b i;exact⟨r,λq=>k (by simp[q]),e⟩
theorem FK.alT {a:FK}{f}(h:a.fits f=O):f=a.flag:=by
 unfold FK.fits at h;split at h;rename_i t b;have:t=b:=by simpa using h
 subst this;rfl;rename_i k;have:k=false:=by simpa using h
 subst this;rfl;rename_i k;have:k=true:=h;subst this;rfl;rfl;rename_i j t c b;simp only[af,bw]at h;obtain⟨rfl,rfl⟩:=h;rfl;cases h
theorem F1:∀{t:FT}{S r:Z AC}{x:t.ct.D},Vz t S=I (x,r)->S=lY t x++r:=by
 intro t;induction t with
 |int k=>intro S r x h;cases S with|nil=>simp[Vz]at h|cons y M=>cases y<;>simp[Vz]at h;obtain⟨rfl,rfl,rfl⟩:=h;rfl
 |bool=>intro S r x h;cases S with|nil=>simp[Vz]at h|cons y M=>cases y<;>simp[Vz]at h;obtain⟨rfl,rfl⟩:=h;rfl
 |str=>intro S r x h;cases S with|nil=>simp[Vz]at h|cons y M=>cases y<;>simp[Vz]at h;obtain⟨rfl,rfl⟩:=h;rfl
 |sl f e=>
  intro S r x h;cases S with
  |nil=>simp[Vz]at h
  |cons y M=>
   cases y with
   |sl g u Q=>
    simp only[Vz]at h;split at h
    ·rename_i o;subst o;cases c:f.fits g with
     |false=>rw[c]at h;cases h
     |true=>
      rw[c]at h;cases h;rw[FK.alT c];have d:f.isNil=false:=by cases f<;>first|rfl|(unfold FK.fits at c;cases c)
      simp only[lY,d,ab];rfl
    cases h
   |mP=>simp only[Vz]at h;cases d:f.isNil with|false=>rw[d]at h;cases h|true=>rw[d]at h;cases h;simp only[lY,d,ae];rfl
   |_=>simp[Vz]at h
 |pair a b i j=>intro S r x h;simp only[Vz]at h;obtain⟨⟨v,p⟩,l,h⟩:=br.1 h;obtain⟨⟨s,q⟩,m,h⟩:=br.1 h;cases h;have n:p=lY b s++q:=j m;rw[i l,n];simp[lY]
theorem Uk:∀(N:Z (Bool×FT))(M:Z (Bool×Z AC))(y:xY N),nr N M=I y->M=atY N y
 |[],[],y,_=>rfl
 |[],_::_,y,h=>by simp[nr]at h
 |[(g,t)],M,y,h=>by
  cases M with
  |nil=>simp[nr]at h
  |cons p M=>
   cases M with
   |cons _ _=>simp[nr]at h
   |nil=>
    obtain⟨b,S⟩:=p;simp only[nr]at h;cases a:g==b with
    |false=>rw[a]at h;cases h
    |true=>
     rw[a]at h;have:g=b:=by simpa using a
     subst this;simp only[ae]at h;split at h;rename_i x c;cases h;have:=F1 c;rw[bm]at this;rw[this];rfl;cases h
 |(g,t)::p::r,M,y,h=>by
  cases M with
  |nil=>simp[nr]at h
  |cons q M=>
   obtain⟨b,S⟩:=q;simp only[nr]at h;cases a:g==b with
   |false=>rw[a]at h;cases h
   |true=>
    rw[a]at h;have:g=b:=by simpa using a
    subst this;simp only[ae]at h;split at h;rename_i x c;obtain⟨z,e,h⟩:=br.1 h;cases h;have d:=F1 c;rw[bm]at d;rw[d,Uk (p::r) M z e];rfl;cases h
theorem Ux {E}(H:mL P E.ty){fn o i f}(J:fL C g o i f []){j}(w:uJ o E j fn.results.toList=I M){y}(z:nr N M=I y): ∃v X,(Go.results fn i.tmps).run P f=.ok v f/\iY (gZ C.A g.hw f) v (GK N y) X/\X.Nodup/\∀b∈X,∃own,own∉j/\g.gb b=I (Hc own):=by
 have D:=Uk N M y z;let c:ResultVar->Value:=λF=>match (Lz i.tmps F).run P f with| .ok v _=>v|_=>undef
 obtain⟨B,X,a,s,q⟩:=akR H J c fn.results.toList j M w (λF v Q=>by simp only[c,Q]);have r:=LC (P:=P) (Lz i.tmps) c f fn.results (λx R=>B x (by simpa using R));have K:(Go.results fn i.tmps).run P f=.ok (if h:(fn.results.map c).size=1 then(fn.results.map c)[0] else .tuple (fn.results.map c)) f:=by
  have:Go.results fn i.tmps=(do
   let Y<-fn.results.mapM (Lz i.tmps)
   pure (if h:Y.size=1 then Y[0] else .tuple Y)):=by
   unfold Go.results
   congr 1
  rw[this];simp only[Sem.run_bind,r,Result.andThen_ok,Sem.run_pure]
 refine⟨_,X,K,?_,s,q⟩;have d:(fn.results.map c).toList=fn.results.toList.map c:=aD;unfold GK;rw[<-D];cases M with
 |nil=>
  have t:fn.results.toList.map c=[]:=by cases k:fn.results.toList.map c with|nil=>rfl|cons u p=>rw[k]at a;exact a.elim
  have l:¬(fn.results.map c).size=1:=by rw[<-Array.length_toList,d,t];simp
  rw[dif_neg l];exact⟨_,by rw[<-d],a⟩
 |cons T M=>
  cases M with
  |nil=>
   obtain⟨L,S⟩:=T;cases k:fn.results.toList.map c with
   |nil=>rw[k]at a;exact a.elim
   |cons u p=>
    rw[k]at a;obtain⟨f1,f2,rfl,n,e⟩:=a;cases p with
    |cons _ _=>exact e.elim
    |nil=>
     cases e;have m:fn.results.map c=#[u]:=by apply gV;rw[d,k]
     have:(if h:(fn.results.map c).size=1 then(fn.results.map c)[0] else .tuple (fn.results.map c))=u:=by rw[dif_pos (by rw[m];rfl)];simp only[m];rfl
     rw[this,bm];exact n
  |cons V M=>
   have l:¬(fn.results.map c).size=1:=by rw[<-Array.length_toList,d];cases k:fn.results.toList.map c with|nil=>simp|cons u p=>rw[k]at a;obtain⟨f1,f2,rfl,n,e⟩:=a;cases p with|nil=>exact e.elim|cons U p=>simp
   rw[dif_neg l];exact⟨_,by rw[<-d],a⟩
theorem Qd {E}(m:mL P E.ty){fn a f c}(o:fL C g a f c [])(d:uJ a E [] fn.results.toList=I M){y}(e:nr N M=I y): ∃v X,(Go.results fn f.tmps).run P c=.ok v c/\iY (gZ C.A g.hw c) v (GK N y) X/\X.Nodup/\∀b∈X,∃own,g.gb b=I (Hc own):=by obtain⟨v,X,i,j,k,l⟩:=Ux m o d e;exact⟨v,X,i,j,k,λb n=>(l b n).imp λ_ h=>h.2⟩
theorem alZ {E N}(z:Sound P E Γ){fn}(B:P.funcs[f]?=I fn)(s:(fn.name== "runtime.NumGoroutine")=G)(k:Gu E Γ an Λ (fn.body.getD .skip)):rC P f {R:=xY N,fn:=ML E Γ an Λ fn N,av:=GK N}:=by
 intro Q y d;simp only at d;unfold ML at d;cases i:fn.body with
 |none=>rw[i]at d;cases d
 |some c=>
  rw[i]at d;simp only at d;split at d;refine⟨⟨fn,c,B,i,s⟩,λ_ _ A w Y D p=>?_,λh=>(by cases h),λh=>(by cases h),λh=>(by cases h)⟩;refine calls_of_wp B i (wp_mono (We z c (by rw[i]at k;exact k) _ _ _ _ (TG D p) d) ?_);rintro e x n ⟨C,l,F,K,q⟩;have main:U (uJ l E [] fn.results.toList) (nr N)=I y->x.defers=[]/\∃v,(Go.results fn x.tmps).run P n=.ok v n/\∃m hw X,Ending.returned v=Ending.returned m/\iY (gZ A hw n) m (GK N y) X/\X.Nodup/\(∀b∈X,w.heap.size<=b/\b<n.heap.size)/\Fr (λ_=>False) w n:=by intro a;obtain⟨g,o⟩:=K;refine⟨o.defers,?_⟩;cases j:uJ l E [] fn.results.toList with|none=>rw[j]at a;cases a|some M=>rw[j]at a;obtain⟨v,X,J,u,t,r⟩:=Qd z.ty o j a;refine⟨v,J,v,g.hw,X,rfl,u,t,λb i=>?_,o.frame⟩;obtain⟨own,H⟩:=r b i;have:=o.ju b _ H;exact⟨this.2.resolve_right (λf=>f),this.1⟩
  cases e<;>cases C<;>simp only[OP]at F;exact main q;cases q;exact main q;cases d
theorem api {E d}r(S:Sound P E Γ){fn}(T:P.funcs[f]?=I fn)(D:(fn.name== "runtime.NumGoroutine")=G)(p:Gu E Γ an Λ (fn.body.getD .skip)):rC P f {R:=Bool×xY N,fn:=evalAlt E Γ an Λ fn N d r,av:=λy=>GK N y.2,sel:=λy=>y.1,alt:=λy=>GK d (cast r.symm y.2)}:=by
 intro Q y k;simp only at k;unfold evalAlt at k;cases m:fn.body with
 |none=>rw[m]at k;cases k
 |some c=>
  rw[m]at k;simp only at k;split at k;refine⟨⟨fn,c,T,m,D⟩,λ_ _ A w Y hA z=>?_,λh=>(by cases h),λh=>(by cases h),λh=>(by cases h)⟩;refine calls_of_wp T m (wp_mono (We S c (by rw[m]at p;exact p) _ _ _ _ (TG hA z) k) ?_);rintro e t j ⟨V,q,he,hs,B⟩
  have main:(U (uJ q E [] fn.results.toList) λM=>match nr N M with
   |some y=>I (O,y)
   |none=>match nr d M with
    |some y=>I (G,cast r y)
    |none=>W)=I y->t.defers=[]/\∃v,(Go.results fn t.tmps).run P j=.ok v j/\∃i hw X,Ending.returned v=Ending.returned i/\
   iY (gZ A hw j) i (cond y.1 (GK N y.2) (GK d (cast r.symm y.2))) X/\X.Nodup/\(∀b∈X,w.heap.size<=b/\b<j.heap.size)/\Fr (λ_=>False) w j:=by
   intro a
   obtain⟨g,s⟩:=hs
   refine⟨s.defers,?_⟩
   cases n:uJ q E [] fn.results.toList with
   |none=>rw[n]at a;cases a
   |some M=>
    rw[n]at a
    simp only[U]at a
    have o:∀(l:Z (Bool×FT))(K:xY l),nr l M=I K->∃v,(Go.results fn t.tmps).run P j=.ok v j/\∃i hw X,Ending.returned v=Ending.returned i/\
     iY (gZ A hw j) i (GK l K) X/\X.Nodup/\(∀b∈X,w.heap.size<=b/\b<j.heap.size)/\Fr (λ_=>False) w j:=by
     intro l K J
     obtain⟨v,X,MX,H,F,C⟩:=Qd S.ty s n J
     refine⟨v,MX,v,g.hw,X,rfl,H,F,λb m=>?_,s.frame⟩
     obtain⟨own,hl⟩:=C b m
     have:=s.ju b _ hl
     exact⟨this.2.resolve_right (λf=>f),this.1⟩
    cases u:nr N M with
    |some L=>rw[u]at a;cases a;exact o N L u
    |none=>
     rw[u]at a
     simp only at a
     cases x:nr d M with
     |none=>rw[x]at a;cases a
     |some L=>
      rw[x]at a
      cases a
      simp only[ab,cast_cast,cast_eq]
      exact o d L x
  cases e<;>cases V<;>simp only[OP]at he;exact main B;cases B;exact main B;cases k
def aps (Y:oz)t:=(Y[t/3-4096*1000003]?).getD undef
theorem apW {c}(z:c.w=w)(p:c.hw=hw)(C:∀t,t%3=0->c.iss t){all}(B:∀t,c.hdr t=aps all t):
 ∀(j:Nat){Y:oz}{S:Z AC}{X:gw},cv (gZ A hw w) Y S X->S.all AC.ain=O->(∀i v,Y[i]?=I v->all[j+i]?=I v)->
  cv c Y (aim j S) X/\cv c Y (Ih j S) []:=by
 intro j Y
 induction Y generalizing j with
 |nil=>intro S X h _ _;cases S with
  |nil=>exact⟨h,rfl⟩
  |cons _ _=>exact h.elim
 |cons v Y U=>
  intro S X h a l
  cases S with
  |nil=>exact h.elim
  |cons x S=>
   obtain⟨f1,f2,rfl,F,L⟩:=h
   simp only[cC,af]at a
   obtain⟨i1,i2⟩:=U (j+1) L a.2 (λi u T=>by rw[(J:j+1+i=j+(i+1))];exact l (i+1) u (by simpa using T))
   have m:=l 0 v rfl
   rw[eY]at m
   have g:c.iss (Hb j)/\v=c.hdr (Hb j):=by refine⟨C _ (by unfold Hb;omega),?_⟩;rw[B,aps,show Hb j/3-4096*1000003=j by unfold Hb;omega,m];rfl
   have oB:x.mj=O->aim j (x::S)=x::aim (j+1) S/\Ih j (x::S)=x::Ih (j+1) S->cv c (v::Y) (aim j (x::S)) (f1++f2)/\cv c (v::Y) (Ih j (x::S)) []:=by rintro M ⟨H,K⟩;obtain⟨rfl,k⟩:=wh (c':=c) F M;rw[H,K];exact⟨⟨[],f2,rfl,k,i1⟩,⟨[],[],rfl,k,i2⟩⟩
   cases x with
   |sl E e Q=>
    cases E with
    |own t=>
     have d:gX c.hw c.w (.sl e) [v] Q f1:=by rw[p,z];exact F.1
     refine⟨⟨f1,f2,rfl,⟨d,λq R=>by cases R;exact g⟩,i1⟩,⟨[],[],rfl,⟨rfl,cg _,Ro d,λ_=>gX.rep (λb o N=> .inr N) d,λr t P=>?_⟩,i2⟩⟩
     cases P
     exact⟨g.1,g.2⟩
    |arg _=>cases a.1
    |loc V pv=>cases a.1
    |nest _ _ _ _ _ _=>cases a.1
    |part _ _ _ _=>cases a.1
    |im _ _ _=>cases a.1
   |int k n=>exact oB rfl ⟨rfl,rfl⟩
   |bool b=>exact oB rfl ⟨rfl,rfl⟩
   |str s=>exact oB rfl ⟨rfl,rfl⟩
   |fn f=>exact oB rfl ⟨rfl,rfl⟩
   |mP=>cases a.1
   |ptr s D=>cases a.1
   |I7 E e y i D=>cases a.1
   |un=>cases a.1
   |bot=>cases a.1
theorem agz (F:∀k b o,A k b o->b<w.heap.size/\b∉X){fn d f}(M:Cut L d f)(D:cv (gZ A hw w) f S X)(B:S.all AC.ain=O)(hn:X.Nodup)(T:∀b∈X,b<w.heap.size)(h:uh A w Y Q): ub ⟨A,λb=>b∈X,w,f,λk b o l=>F k b o l⟩ (OC fn L S Q) {tmps:=(d::Y).toArray++Array.replicate (fn.ntmps-(d::Y).toArray.size) undef,defers:=[]} w:=by
 obtain⟨R,N⟩:=KZ h;let C:Ctx:=⟨A,λb=>b∈X,w,f,λk b o l=>F k b o l⟩
 let g:Gh:=⟨hw,λ_=>0,λb=>if b∈X then I .io else W,aps f⟩
 have y:(gZ A (λ_=>0) w).Le (dQ C g (OC fn L S Q) w):=⟨rfl,λt K=>K.elim,λ_ _ _ _ _ j=>j,bq _,λs hs=>hs.elim,λ_ b o u U _=>absurd U (Nat.not_lt_zero _)⟩
 obtain⟨k1,k2⟩:=apW (c:=dQ C g (OC fn L S Q) w) (A:=A) rfl rfl (λt K=> .inl J) (all:=f) (λt=>rfl) 0 D B (λi v j=>by rw[cR];exact j);refine⟨g,rfl,?_,?_,λi p hs=>?_,λs q hs=>?_,λk v p P=>by simp at P,λb x hx=>?_,Fr.refl _ _,⟨X,k1,hn,λb l=>by show(if b∈X then _ else _)=_;rw[aI l]⟩⟩;simp[OC,ua,R];omega;·simp[OC,ua];try omega
 have a:((.val L (Ih 0 S)::Q)++List.replicate (fn.ntmps-(.val L (Ih 0 S)::Q).length) AV.bot)[i]?=I p:=hs;rcases ca i (Q.length+1)with z|r;rw[bE (by simpa using z)]at a;cases i with
 |zero=>
  simp at a;subst a;refine⟨[],?_,aD,aD⟩;have e:((d::Y).toArray++Array.replicate (fn.ntmps-(d::Y).toArray.size) undef).getD 0 undef=d:=by simp[dR,Array.getElem?_append]
  show iY _ (((d::Y).toArray++Array.replicate (fn.ntmps-(d::Y).toArray.size) undef).getD 0 undef) _ _;rw[e];exact⟨f,M,k2⟩
 |succ i=>
  obtain⟨v,j,V⟩:=N i p (by simpa using a);refine⟨[],?_,aD,aD⟩;have e:((d::Y).toArray++Array.replicate (fn.ntmps-(d::Y).toArray.size) undef).getD (i+1) undef=v:=by
   have m:i<Y.length:=J;have E:Y[i]=v:=by rw[ah m]at j;exact bu j
   simp[dR,Array.getElem?_append,m,E]
  show iY _ (((d::Y).toArray++Array.replicate (fn.ntmps-(d::Y).toArray.size) undef).getD (i+1) undef) _ _;rw[e];exact V.mono y aD
 rw[bN (by simpa using r),dZ]at a;split at a;cases a;exact⟨[],iY.bot _ _,aD,aD⟩;cases a;have a:(List.replicate ((AV.val L (Ih 0 S)::Q).length+(fn.ntmps-(AV.val L (Ih 0 S)::Q).length)) (W:aS (Z AC)))[s]?=I (I q):=hs;rw[dZ]at a;split at a<;>cases a;have n:(if b∈X then I oN.io else W)=I x:=hx;split at n;rename_i H;exact⟨T b H,.inr H⟩;cases n
theorem aAT {E N t}(hS:Sound P E Γ){fn}(hf:P.funcs[f]?=I fn)(aus:(fn.name== "runtime.NumGoroutine")=G)(K:Gu E Γ an Λ (fn.body.getD .skip)):rC P f {R:=xY N×t.D,fn:=ahB E Γ an Λ fn N t,av:=λy=>GK N y.1,io:=true,back:=λy=>cellsOf t (.own W) y.2}:=by
 intro Q y q;simp only at q;unfold ahB at q;split at q;rename_i c L S rest u;split at q;rename_i C;refine⟨⟨fn,c,hf,u,aus⟩,λh=>(by cases h),λ_ g0 cs0 auV he A w v0 Y hw X hA o hn YI Z=>?_,λh=>(by cases h),λh=>(by cases h)⟩;injection he with l he2;injection l with l he3;subst l;subst he2;subst he3;obtain⟨i,WO,o⟩:=o;refine calls_of_wp hf u (wp_mono (We hS c (by rw[u]at K;exact K) _ _ _ _ (agz (fn:=fn) hA WO o C.2 hn YI Z) q) ?_);rintro e a' k ⟨ex,s,he,hs,hk⟩
 have main:(U (U (uJ s E [] fn.results.toList) (nr N)) λr=>match mC t s.io with|some (x,[])=>I (r,x)|_=>W)=I y->
  a'.defers=[]/\∃v,(Go.results fn a'.tmps).run P k=.ok v k/\∃T J V j,Ending.returned v=Ending.returned T/\iY (gZ A J k) T (GK N y.1) V/\iY (gZ A J k) v0 (.val L (cellsOf t (.own W) y.2)) j/\j.Nodup/\(∀b∈j,b<k.heap.size/\(b∈X\/w.heap.size<=b))/\Fr (λb=>b∈X) w k:=by
  intro a
  obtain⟨g,z⟩:=hs
  refine⟨z.defers,?_⟩
  cases n:uJ s E [] fn.results.toList with
  |none=>rw[n]at a;cases a
  |some M=>
   rw[n]at a
   simp only[U]at a
   cases p:nr N M with
   |none=>rw[p]at a;cases a
   |some r0=>
    rw[p]at a
    simp only at a
    split at a
    ·rename_i x hx
     cases a
     obtain⟨v,V,MX,aDK,hnd,aBy⟩:=Qd hS.ty z n p
     obtain⟨j,hio,YJ,B⟩:=z.io
     obtain⟨f1,f2,rfl,ahU,H⟩:=xT hio hx
     have F:i.drop t.size=[]:=by cases hd:i.drop t.size with|nil=>rfl|cons _ _=>have d:cv _ (i.drop t.size) _ _:=H;rw[hd]at d;exact d.elim
     have hf2:f2=[]:=by have d:cv _ (i.drop t.size) [] f2:=H;rw[F]at d;exact d
     subst hf2
     rw[bm]at YJ B
     have aEi:i.take t.size=i:=by have:=cH t.size i;rw[F,bm]at this;exact this
     have m:gX g.hw k t i x f1:=by have m:gX g.hw k t (i.take t.size) x f1:=ahU;rwa[aEi]at m
     refine⟨v,MX,v,g.hw,V,f1,rfl,aDK,⟨i,WO,Cg (c:=gZ A g.hw k) m⟩,YJ,λb u=>?_,z.frame⟩
     have:=z.ju b _ (B b u)
     exact⟨this.1,this.2.symm⟩
    ·cases a
 cases e<;>cases ex<;>simp only[OP]at he;exact main hk;cases hk;exact main hk;cases q;cases q
theorem alA {c}(o:c.A=A)(g:c.w=w)(p:c.hw=hw)(z:∀t,t%3=1->c.iss t){all:oz}(r:∀t,c.hdr t=(all[t/3]?).getD undef):
 ∀(j:Nat){Y:oz}{S:Z AC}{X:gw},cv (gZ A hw w) Y S X->S.all (AC.Gx O)=O->(∀i v,Y[i]?=I v->all[j+i]?=I v)->cv c Y (Qw j S) X:=by
 intro j Y
 induction Y generalizing j with
 |nil=>intro S X h _ _;cases S with
  |nil=>exact h
  |cons _ _=>exact h.elim
 |cons v Y N=>
  intro S X h a d
  cases S with
  |nil=>exact h.elim
  |cons x S=>
   obtain⟨f1,f2,rfl,m,F⟩:=h
   simp only[cC,af]at a
   have i1:=N (j+1) F a.2 (λi u M=>by rw[(J:j+1+i=j+(i+1))];exact d (i+1) u (by simpa using M))
   have l:=d 0 v rfl
   rw[eY]at l
   have oB:x.mj=O->Qw j (x::S)=x::Qw (j+1) S->cv c (v::Y) (Qw j (x::S)) (f1++f2):=by rintro H E;obtain⟨rfl,k⟩:=wh (c':=c) m H;rw[E];exact⟨[],f2,rfl,k,i1⟩
   cases x with
   |sl D e Q=>
    cases D with
    |own t=>
     have B:gX c.hw c.w (.sl e) [v] Q f1:=by rw[p,g];exact m.1
     refine⟨f1,f2,rfl,⟨B,λq L=>?_⟩,i1⟩
     cases L
     refine⟨z _ J,?_⟩
     rw[r,(J:(3*j+1)/3=j),l];rfl
    |arg k=>
     have K:k=true:=by simpa[AC.Gx]using a.1
     subst K
     exact⟨f1,f2,rfl,⟨m.1,by rw[g,o];exact m.2⟩,i1⟩
    |loc P R=>cases a.1
    |nest _ _ _ _ _ _=>cases a.1
    |part _ _ _ _=>cases a.1
    |im _ _ _=>cases a.1
   |int k n=>exact oB rfl rfl
   |bool b=>exact oB rfl rfl
   |str s=>exact oB rfl rfl
   |fn f=>exact oB rfl rfl
   |mP=>cases a.1
   |ptr s C=>cases a.1
   |I7 D e y i C=>cases a.1
   |un=>cases a.1
   |bot=>cases a.1
theorem adh {b}(n:∀k a o,A k a o->a<w.heap.size/\a≠b/\a∉X){fn e T E}(q:w.heap[b]?=I (.cells e T E))(MY:wE e E)(R:cv (gZ A hw w) e.toList S X)(P:S.all (AC.Gx O)=O)(hn:X.Nodup)(N:b∉X)(YI:∀a∈X,a<w.heap.size)(V:hw b=0)(h:uh A w Y Q): ub ⟨A,λa=>a=b\/a∈X,w,[.pointer (I ⟨b,0,W⟩)],λk a o l=>⟨(n k a o l).1,λj=>j.elim (n k a o l).2.1 (n k a o l).2.2⟩⟩ (IH fn S Q) {tmps:=(.pointer (I ⟨b,0,W⟩)::Y).toArray++Array.replicate (fn.ntmps-(Value.pointer (I ⟨b,0,W⟩)::Y).toArray.size) undef,defers:=[]} w:=by
 obtain⟨hl,hi⟩:=KZ h;let f:Value:=.pointer (I ⟨b,0,W⟩);let C:Ctx:=⟨A,λa=>a=b\/a∈X,w,[f],λk a o l=>⟨(n k a o l).1,λj=>j.elim (n k a o l).2.1 (n k a o l).2.2⟩⟩
 let g:Gh:=⟨hw,λ_=>b,λa=>if a=b\/a∈X then I (.box 0) else W,λt=>(e.toList[t/3]?).getD undef⟩
 have H:=qB q;have y:mn (IH fn S Q) 0:=⟨Qw 0 S,rfl⟩
 have L:(gZ A (λ_=>0) w).Le (dQ C g (IH fn S Q) w):=⟨rfl,λt ht=>ht.elim,λ_ _ _ _ _ p=>p,bq _,λs hs=>hs.elim,λ_ b o u ho _=>absurd ho (Nat.not_lt_zero _)⟩
 have k1:=alA (c:=dQ C g (IH fn S Q) w) (A:=A) rfl rfl rfl (λt ht=> .inl J) (all:=e.toList) (λt=>rfl) 0 R P (λi v p=>by rw[cR];exact p);refine⟨g,rfl,?_,?_,λi B hs=>?_,λs D hs=>?_,λk v B hk=>by simp at hk,λa x hx=>?_,Fr.refl _ _,⟨[],⟨[],[],rfl,⟨rfl,y,rfl⟩,rfl⟩,aD,aD⟩⟩;simp[IH,ua,hl];omega;simp[IH,ua];have d:((.one (.ptr 0 0)::Q)++List.replicate (fn.ntmps-(AV.one (.ptr 0 0)::Q).length) AV.bot)[i]?=I B:=hs;rcases ca i (Q.length+1)with M|K;rw[bE (by simpa using M)]at d;cases i with
 |zero=>
  simp at d;subst d;refine⟨[],?_,aD,aD⟩;have m:((f::Y).toArray++Array.replicate (fn.ntmps-(f::Y).toArray.size) undef).getD 0 undef=f:=by simp[dR,Array.getElem?_append]
  show iY _ (((f::Y).toArray++Array.replicate (fn.ntmps-(f::Y).toArray.size) undef).getD 0 undef) _ _;rw[m];exact qZ ⟨rfl,y,rfl⟩
 |succ i=>
  obtain⟨v,p,hr⟩:=hi i B (by simpa using d);refine⟨[],?_,aD,aD⟩;have m:((f::Y).toArray++Array.replicate (fn.ntmps-(f::Y).toArray.size) undef).getD (i+1) undef=v:=by
   have r:i<Y.length:=J;have U:Y[i]=v:=by rw[ah r]at p;exact bu p
   simp[dR,Array.getElem?_append,r,U]
  show iY _ (((f::Y).toArray++Array.replicate (fn.ntmps-(f::Y).toArray.size) undef).getD (i+1) undef) _ _;rw[m];exact hr.mono L aD
 rw[bN (by simpa using K),dZ]at d;split at d;cases d;exact⟨[],iY.bot _ _,aD,aD⟩;cases d;have d:(I (Qw 0 S)::List.replicate (Q.length+(fn.ntmps-(Q.length+1))) (W:aS (Z AC)))[s]?=I (I D):=hs;cases s with|zero=>simp at d;subst d;refine⟨e,T,E,X,q,MY,k1,hn,N,λa F=>?_,?_,V⟩;show(if a=b\/a∈X then _ else _)=_;rw[aI (.inr F)];show(if b=b\/b∈X then _ else _)=_;rw[aI (.inl rfl)]|succ s=>simp only[gI,dZ]at d;split at d<;>cases d
 have z:(if a=b\/a∈X then I (oN.box 0) else W)=I x:=hx;split at z;rename_i j;rcases j with rfl|j;exact⟨H,.inr (.inl rfl)⟩;exact⟨YI a j,.inr (.inr j)⟩;cases z
theorem auk {E N t}(hS:Sound P E Γ){fn}(hf:P.funcs[f]?=I fn)(aus:(fn.name== "runtime.NumGoroutine")=G)(hΛ:Gu E Γ an Λ (fn.body.getD .skip)):rC P f {R:=xY N×t.ct.D,fn:=ab5 E Γ an Λ fn N t,av:=λy=>GK N y.1,back:=λy=>lY t y.2,bx:=true}:=by
 intro Q y B;simp only at B;unfold ab5 at B;split at B;rename_i c S rest hb;split at B;rename_i V;refine⟨⟨fn,c,hf,hb,aus⟩,λ_ h=>(by cases h),λh=>(by cases h),λ_ cs0 auV he A w b Y arr T fr hw X hA acj MY aeB hn hnb YI hw0 aum=>?_,λh=>(by cases h)⟩;injection he with he1 he2;injection he1 with _ he3;subst he2;subst he3;refine calls_of_wp hf hb (wp_mono (We hS c (by rw[hb]at hΛ;exact hΛ) _ _ _ _ (adh (fn:=fn) hA acj MY aeB V.2 hn hnb YI hw0 aum) B) ?_);rintro e a' o ⟨ex,n,he,hs,hk⟩
 have main:(U (U (uJ n E [(O,0)] fn.results.toList) (nr N)) λr=>match n.io,n.boxes with
  |[.ptr 0 0],I p::_=>(match Vz t (p.map AC.strip)with|some (x,[])=>I (r,x)|_=>W)
  |_,_=>W)=I y->
  a'.defers=[]/\∃v,(Go.results fn a'.tmps).run P o=.ok v o/\∃v_1 hw' C j T' k i,Ending.returned v=Ending.returned v_1/\iY (gZ A hw' o) v_1 (GK N y.1) C/\o.heap[b]?=I (.cells j T' k)/\wE j k/\
    cv (gZ A hw' o) j.toList (lY t y.2) i/\i.Nodup/\b∉i/\(∀a∈i,a<o.heap.size/\(a∈X\/w.heap.size<=a))/\C.Nodup/\(∀a∈C,a<o.heap.size/\(a∈X\/w.heap.size<=a)/\a∉i/\a≠b)/\Fr (λa=>a=b\/a∈X) w o:=by
  intro d
  obtain⟨g,q⟩:=hs
  refine⟨q.defers,?_⟩
  cases u:uJ n E [(O,0)] fn.results.toList with
  |none=>rw[u]at d;cases d
  |some M=>
   rw[u]at d
   simp only[U]at d
   cases z:nr N M with
   |none=>rw[z]at d;cases d
   |some r0=>
    rw[z]at d
    simp only at d
    split at d
    ·rename_i p tl hio hbx
     split at d
     ·rename_i x hx
      cases d
      obtain⟨v,C,MX,aDK,hnd,aBy⟩:=Ux hS.ty q u z
      obtain⟨fpi,hri,_,_⟩:=q.io
      rw[hio]at hri
      obtain⟨g1,g2,_,aBh,_⟩:=hri
      have hβ:b=g.β 0:=by have:=aBh.1;simp only[Value.pointer.injEq,bI,Addr.mk.injEq]at this;exact this.1
      obtain⟨j,T',k,i,H,aeF,hr',YJ,s,J,K,_⟩:=q.boxes 0 p (by rw[hbx];rfl)
      rw[<-hβ]at H s K
      have hst:=Gd hr'
      have hsp:=F1 hx
      rw[bm]at hsp
      rw[hsp]at hst
      have hM:∀a,(w.heap.size<=a\/(a=b\/a∈X))->a≠b->a∈X\/w.heap.size<=a:=by rintro a (F|F|F) m;exact .inr F;exact absurd F m;exact .inl F
      refine⟨v,MX,v,g.hw,C,j,T',k,i,rfl,aDK,H,aeF,hst,YJ,s,λa l=>?_,hnd,λa l=>?_,q.frame⟩
      ·have:=q.ju a _ (J a l)
       exact⟨this.1,hM a this.2 (λe=>s (e▸l))⟩
      ·obtain⟨own,auw,L⟩:=aBy a l
       have Z:g.gb a≠I (.box 0):=by rw[L];intro e;have e2:Hc own=Hc (O,0):=bu e;exact auw (by rw[Ul e2];simp)
       have m:a≠b:=λe=>Z (by rw[e];exact K)
       have:=q.ju a _ L
       exact⟨this.1,hM a this.2 m,λhm=>Z (J a hm),m⟩
     ·cases d
    ·cases d
 cases e<;>cases ex<;>simp only[OP]at he;exact main hk;cases hk;exact main hk;cases B;cases B
theorem aul {E t}(hS:Sound P E Γ){fn}(hf:P.funcs[f]?=I fn)(aus:(fn.name== "runtime.NumGoroutine")=G)(J:Gu E Γ an Λ (fn.body.getD .skip)):rC P f {R:=t.ct.D,fn:=Vu E Γ an Λ fn t,av:=λ_=> .bot,back:=λy=>lY t y,pr:=true}:=by
 intro Q y n;simp only at n;unfold Vu at n;cases r:fn.body with
 |none=>rw[r]at n;cases n
 |some c=>
  rw[r]at n;simp only at n;split at n;have K:asV P f {R:=t.ct.D,fn:=Vu E Γ an Λ fn t,av:=λ_=> .bot,back:=λy=>lY t y,pr:=true} y Q:=by
   intro A w Y N p;refine calls_of_wp hf r (wp_mono (We hS c (by rw[r]at J;exact J) _ _ _ _ (TG N p) n) ?_);rintro e o l ⟨ex,k,M,hs,Z⟩
   have main:(match fn.results.toList with
    |[.tmp i]=>match k.get i with
     | .val G [.ptr s 0]=>match (nth k.boxes s).getD W with
       |some S=>if S.all AC.Su=O then(match Vz t (S.map AC.strip)with|some (x,[])=>I x|_=>W) else W
       |none=>W
     |_=>W
    |_=>W)=I y->o.defers=[]/\∃v,(Go.results fn o.tmps).run P l=.ok v l/\∃b d T u hw,Ending.returned v=.returned (.pointer (I ⟨b,0,W⟩))/\w.heap.size<=b/\l.heap[b]?=I (.cells d T u)/\wE d u/\cv (gZ A hw l) d.toList (lY t y) []/\Fr (λ_=>False) w l:=by
    intro a
    obtain⟨g,z⟩:=hs
    refine⟨z.defers,?_⟩
    split at a
    ·rename_i i hri
     split at a
     ·rename_i s hp
      cases j:(nth k.boxes s).getD W with
      |none=>rw[j]at a;cases a
      |some S=>
       rw[j]at a
       simp only at a
       split at a
       ·rename_i hok
        split at a
        ·rename_i x H
         cases a
         have j:k.boxes[s]?=I (I S):=by rw[fJ]at j;cases hq:k.boxes[s]? with|none=>rw[hq]at j;simp at j|some q=>rw[hq]at j;simp at j;rw[j]
         obtain⟨fp0,m,_,_⟩:=z.slot i
         rw[hp]at m
         have m:=Jo m
         obtain⟨d,T,u,X,U,MY,aeB,hn,hnb,hl,hl0,hw0⟩:=z.boxes s S j
         obtain⟨hfp,Y,L,B⟩:=arg_val (c:=dQ _ g k l) (c':=dQ _ g k l) rfl rfl (v:=.agg d.toList.toArray) (x:=.val O S) ⟨d.toList,rfl,aeB⟩ hok
         have hvs:d.toList=Y:=by have L:Value.agg d.toList.toArray=.agg Y.toArray:=L;simp only[Value.agg.injEq]at L;simpa using congrArg Array.toList L
         rw[<-hvs]at B
         have F:=Gd B
         have C:=F1 H
         rw[bm]at C
         rw[C]at F
         have MX:(Go.results fn o.tmps).run P l=.ok (o.tmps.getD i undef) l:=by
          have M:fn.results=#[.tmp i]:=by apply gV;exact hri
          have aDd:=LC (P:=P) (Lz o.tmps) (λ_=>o.tmps.getD i undef) l fn.results (λx H=>by rw[M]at H;simp at H;subst H;rfl)
          have hd:Go.results fn o.tmps=(do
           let Y<-fn.results.mapM (Lz o.tmps)
           pure (if h:Y.size=1 then Y[0] else .tuple Y)):=by
           unfold Go.results
           congr 1
          rw[hd];simp only[Sem.run_bind,aDd,Result.andThen_ok,Sem.run_pure];rw[M];simp
         refine⟨_,MX,g.β s,d,T,u,g.hw,congrArg Ending.returned m,?_,U,MY,F,z.frame⟩
         exact(z.ju _ _ hl0).2.resolve_right (λf=>f)
        ·cases a
       ·cases a
     ·cases a
    ·cases a
   cases e<;>cases ex<;>simp only[OP]at M;exact main Z;cases Z;exact main Z
  refine⟨⟨fn,c,hf,r,aus⟩,λ_ _ A w Y N p=>?_,λh=>(by cases h),λh=>(by cases h),λ_=>K⟩;refine(K A w Y N p).mono ?_;rintro e l ⟨b,d,T,u,hw,rfl,_,_,_,_,V⟩;exact⟨_,hw,[],rfl,iY.bot _ _,List.nodup_nil,(λb r=>by cases r),V⟩;cases n
end Go.Dn
