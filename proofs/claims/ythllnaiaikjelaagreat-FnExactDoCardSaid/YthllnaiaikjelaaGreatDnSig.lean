import Derived.Test.YthllnaiaikjelaaGreatDnLaw
/- Functions by the data that they take; loops by the data that they keep. -/
namespace Go.Dn
variable {f:Nat} {P:Program} {rs:ar (Bool×FT)}
inductive PS where
 |data (g:Bool) (t:CT)|fn (f:Nat)
variable {s:ar PS}
abbrev Gi:ar PS->Type
 |[]=>Unit
 | .data _ t::r=>t.D×Gi r
 | .fn _::r=>Gi r
def xS:(t:CT)->ar AC->au (t.D×ar AC)
 | .int k,.int k' n::r=>if k'=k then some (n,r) else none
 | .bool,.bool b::r=>some (b,r)
 | .str,.str s::r=>some (s,r)
 | .sl e,.sl (.arg false) e' xs::r=>if h:e'=e then some (h▸xs,r) else none
 | .sl _,.kL::r=>some ([],r)
 | .pair a b,cs=>(xS a cs).bind λx=>(xS b x.2).bind λy=>some ((x.1,y.1),y.2)
 |_,_=>none
def nq:(s:ar PS)->ar AV->au (Gi s)
 |[],[]=>some ()
 | .data g e::s,.val g' cs::xs=>bif g==g' then
  (match xS e cs with
   |some (x,[])=>(nq s xs).bind λr=>some (x,r)
   |_=>none) else none
 | .fn f::s,v::xs=>bif v.ajk f then nq s xs else none
 |_,_=>none
def ji:(s:ar PS)->Gi s->ar AV
 |[],_=>[]
 | .data g e::s,a=> .val g (cellsOf e (.arg false) a.1)::ji s a.2
 | .fn f::s,a=> .one (.fn f)::ji s a
theorem ajF {A:Rg}{hw:Nat->Nat}{w:World}:∀{t:CT}{cs r:ar AC}{x:t.D},xS t cs=some (x,r)->∀{vs:iU}{fp:ec},bD (fy A hw w) vs cs fp-> ∃v1 v2 f1 f2,vs=v1++v2/\fp=f1++f2/\bD (fy A hw w) v1 (cellsOf t (.arg false) x) f1/\bD (fy A hw w) v2 r f2:=by
 intro t
 have one:∀{y:AC}{ys:ar AC}{vs:iU}{fp:ec}{z:AC},bD (fy A hw w) vs (y::ys) fp->(∀v f,iA (fy A hw w) v y f->iA (fy A hw w) v z f)->
  ∃v1 v2 f1 f2,vs=v1++v2/\fp=f1++f2/\bD (fy A hw w) v1 [z] f1/\bD (fy A hw w) v2 ys f2:=by
  intro y ys vs fp z h hz
  cases vs with
  |nil=>exact h.elim
  |cons v vs=>
   obtain⟨f1,f2,rfl,h1,h2⟩:=h
   exact⟨[v],vs,f1,f2,rfl,rfl,⟨f1,[],by simp,hz v f1 h1,rfl⟩,h2⟩
 induction t with
 |int k=>intro cs r x h vs fp hr;cases cs with|nil=>simp[xS]at h|cons y ys=>cases y<;>simp[xS]at h;obtain⟨rfl,rfl,rfl⟩:=h;exact one hr λv f h=>h
 |bool=>intro cs r x h vs fp hr;cases cs with|nil=>simp[xS]at h|cons y ys=>cases y<;>simp[xS]at h;obtain⟨rfl,rfl⟩:=h;exact one hr λv f h=>h
 |str=>intro cs r x h vs fp hr;cases cs with|nil=>simp[xS]at h|cons y ys=>cases y<;>simp[xS]at h;obtain⟨rfl,rfl⟩:=h;exact one hr λv f h=>h
 |sl e _=>
  intro cs r x h vs fp hr;cases cs with
  |nil=>simp[xS]at h
  |cons y ys=>
   cases y with
   |sl fl e' xs=>
    cases fl with
    |arg k=>cases k with|true=>simp[xS]at h|false=>simp only[xS]at h;split at h;rename_i he;subst he;cases h;exact one hr λv f h=>h;cases h
    |own t=>simp[xS]at h
    |nest _ _ _ _ _ _=>simp[xS]at h
    |part _ _ _ _=>simp[xS]at h
    |fK _ _ _=>simp[xS]at h
    |loc ep pv=>simp[xS]at h
   |kL=>simp[xS]at h;obtain⟨rfl,rfl⟩:=h;refine one hr λv f h=>?_;obtain⟨rfl,rfl⟩:=h;exact⟨rfl,_,rfl,.inl ⟨⟨none,rfl⟩,rfl⟩⟩
   |_=>simp[xS]at h
 |pair a b iha ihb=>intro cs r x h vs fp hr;simp only[xS]at h;obtain⟨⟨x1,r1⟩,h1,h⟩:=aX.1 h;obtain⟨⟨x2,r2⟩,h2,h⟩:=aX.1 h;cases h;obtain⟨v1,v2,f1,f2,rfl,rfl,k1,k2⟩:=iha h1 hr;obtain⟨v3,v4,f3,f4,rfl,rfl,k3,k4⟩:=ihb h2 k2;exact⟨v1++v3,v4,f1++f3,f4,by simp,by simp,by simpa[cellsOf]using bD.append k1 k3,k4⟩
theorem Yk {v:AV}(h:v.ajk f=true):v=.one (.fn f):=by
 unfold AV.ajk at h;split at h;rename_i f';have:f=f':=by simpa using h
 subst this;rfl;cases h
theorem afF {v:AV}(h:v.ahx=true):v=.bot:=by unfold AV.ahx at h;split at h;rfl;cases h
theorem afH {v:AV}{s off:Nat}(h:v.ahy s off=true):v=.one (.ptr s off):=by unfold AV.ahy at h;split at h;simp only[ah,bn]at h;obtain⟨rfl,rfl⟩:=h;rfl;cases h
theorem vk {A:Rg}{w:World}:∀{s:ar PS}{xs:ar AV}{a:Gi s},nq s xs=some a->∀{vs:iU},oZ A w vs xs->oZ A w vs (ji s a)
 |[],[],a,_,vs,h=>h
 |[],_::_,_,h,_,_=>by simp[nq]at h
 | .data g e::s,[],_,h,_,_=>by simp[nq]at h
 | .data g e::s,.zU _::xs,_,h,_,_=>by simp[nq]at h
 | .data g e::s,.val g' cs::xs,a,h,vs,hr=>by
  simp only[nq]at h;cases hg:g==g' with
  |false=>rw[hg]at h;cases h
  |true=>
   rw[hg]at h;simp only[af]at h;have oV:g=g':=by simpa using hg
   subst oV;split at h;rename_i x hx;obtain⟨r,hr',h⟩:=aX.1 h;cases h;cases vs with
   |nil=>exact hr.elim
   |cons v vs=>
    obtain⟨⟨us,eM,hu⟩,h2⟩:=hr;obtain⟨v1,v2,f1,f2,rfl,hf,k1,k2⟩:=ajF hx hu;have SA:v2=[]:=by cases v2 with|nil=>rfl|cons _ _=>exact k2.elim
    subst SA;have hf1:f1=[]:=by have:=hf.symm;simp at this;exact this.1
    subst hf1;rw[bC]at eM;exact⟨⟨v1,eM,k1⟩,vk hr' h2⟩
   cases h
 | .fn f::s,[],a,h,vs,hr=>by simp[nq]at h
 | .fn f::s,v::xs,a,h,vs,hr=>by simp only[nq]at h;cases hg:v.ajk f with|false=>rw[hg]at h;cases h|true=>rw[hg]at h;have:=Yk hg;subst this;cases vs with|nil=>exact hr.elim|cons v vs=>exact⟨hr.1,vk h hr.2⟩
def XK (s:ar PS)(rs:ar (Bool×FT))(F:Gi s->au (jf rs)):Ez:={R:=jf rs,fn:=λxs=>aa (nq s xs) F,av:=Cm rs}
theorem mz.of {G:ar AV->au (jf rs)}(h:mz P f {R:=jf rs,fn:=G,av:=Cm rs}){F:Gi s->au (jf rs)}(hF:∀a,G (ji s a)=F a):mz P f (XK s rs F):=by
 intro xs y hy;simp only[XK]at hy y;cases ha:nq s xs with
 |none=>rw[ha]at hy;cases hy
 |some a=>
  rw[ha]at hy;have X5:G (ji s a)=some y:=by rw[hF a];exact hy
  have hh:=h (ji s a) y X5;exact⟨hh.1,λ_ _ A w vs hA hr=>hh.2.1 rfl rfl A w vs hA (vk ha hr),λh=>(by cases h),λh=>(by cases h),λh=>(by cases h)⟩
def OC (s:ar PS)(rs Tt:ar (Bool×FT))(h:jf Tt=jf rs)(F:Gi s->au (Bool×jf rs)):Ez:=
 {R:=Bool×jf rs,fn:=λxs=>aa (nq s xs) F,av:=λy=>Cm rs y.2,sel:=λy=>y.1,alt:=λy=>Cm Tt (cast h.symm y.2)}
theorem mz.ofAlt {Tt:ar (Bool×FT)}{h2:jf Tt=jf rs}{G:ar AV->au (Bool×jf rs)}(h:mz P f {R:=Bool×jf rs,fn:=G,av:=λy=>Cm rs y.2,sel:=λy=>y.1,alt:=λy=>Cm Tt (cast h2.symm y.2)}){F:Gi s->au (Bool×jf rs)}(hF:∀a,G (ji s a)=F a):mz P f (OC s rs Tt h2 F):=by
 intro xs y hy;simp only[OC]at hy y;cases ha:nq s xs with
 |none=>rw[ha]at hy;cases hy
 |some a=>
  rw[ha]at hy;have X5:G (ji s a)=some y:=by rw[hF a];exact hy
  have hh:=h (ji s a) y X5;exact⟨hh.1,λ_ _ A w vs hA hr=>hh.2.1 rfl rfl A w vs hA (vk ha hr),λh=>(by cases h),λh=>(by cases h),λh=>(by cases h)⟩
def ala (s:ar PS)(rs:ar (Bool×FT))(F:Gi s->au (Bool×jf rs)):Ez:=
 {R:=Bool×jf rs,fn:=λxs=>aa (nq s xs) λa=>amM (F a),av:=λy=>Cm rs y.2}
theorem mz.only {Tt:ar (Bool×FT)}{h2:jf Tt=jf rs}{F:Gi s->au (Bool×jf rs)}(h:mz P f (OC s rs Tt h2 F)):mz P f (ala s rs F):=by
 intro xs y hy;simp only[ala]at hy y;cases ha:nq s xs with
 |none=>rw[ha]at hy;cases hy
 |some a=>
  rw[ha]at hy;have hy:amM (F a)=some y:=hy;unfold amM at hy;cases hF:F a with
  |none=>rw[hF]at hy;cases hy
  |some r=>
   rw[hF]at hy;cases h1:r.1 with
   |false=>simp only[aa,h1,ae]at hy;cases hy
   |true=>
    simp only[aa,h1,af,bf]at hy;subst hy;have hf:(OC s rs Tt h2 F).fn xs=some r:=by show aa (nq s xs) F=some r;rw[ha];exact hF
    have hh:=h xs r hf;have hr:(OC s rs Tt h2 F).res r=Cm rs r.2:=by show cond r.1 (Cm rs r.2) _=_;rw[h1];rfl
    refine⟨hh.1,λ_ _ A w vs hA WV=>?_,λh=>(by cases h),λh=>(by cases h),λh=>(by cases h)⟩;have q:=hh.2.1 rfl rfl A w vs hA WV;rw[hr]at q;exact q
def apo (t:CT)(gg:Bool)(s:ar PS)(rs:ar (Bool×FT))(F:t.D->Gi s->au (jf rs×t.D)):Ez:=
 {R:=jf rs×t.D,fn:=λxs=>match xs with
  | .val g cs::rest=>bif gg==g then(match jM t cs with|some (x,[])=>aa (nq s rest) (F x)|_=>none) else none
  |_=>none,av:=λy=>Cm rs y.1,io:=true,back:=λy=>cellsOf t (.own none) y.2}
theorem mz.az4 {t:CT}{gg:Bool}{G:ar AV->au (jf rs×t.D)}(h:mz P f {R:=jf rs×t.D,fn:=G,av:=λy=>Cm rs y.1,io:=true,back:=λy=>cellsOf t (.own none) y.2}){F:t.D->Gi s->au (jf rs×t.D)}(hF:∀x a,G (.val gg (cellsOf t (.own none) x)::ji s a)=F x a):mz P f (apo t gg s rs F):=by
 intro xs y hy;simp only[apo]at hy y;split at hy;rename_i g cs rest;cases hg:(gg==g)with
 |false=>rw[hg]at hy;cases hy
 |true=>
  rw[hg]at hy;have:gg=g:=by simpa using hg
  subst this;simp only[af]at hy;split at hy;rename_i x hx;cases ha:nq s rest with
  |none=>rw[ha]at hy;cases hy
  |some a=>
   rw[ha]at hy;have X5:G (.val gg (cellsOf t (.own none) x)::ji s a)=some y:=by rw[hF x a];exact hy
   have hh:=h _ y X5;refine⟨hh.1,λh=>(by cases h),λ_ g0 WG am5 he A w v0 vs hw fp hA dY hn iG fJ=>?_,λh=>(by cases h),λh=>(by cases h)⟩;injection he with he1 he2;injection he1 with he1 he3;subst he1;subst he2;subst he3;refine hh.2.2.1 rfl gg (cellsOf t (.own none) x) (ji s a) rfl A w v0 vs hw fp hA ?_ hn iG (vk ha fJ);obtain⟨us,eM,dY⟩:=dY;obtain⟨f1,f2,rfl,fA,kH⟩:=rb dY hx;have ZW:us.drop t.size=[]:=by cases hd:us.drop t.size with|nil=>rfl|cons _ _=>rw[hd]at kH;exact kH.elim
   rw[ZW]at kH;have Jn:f2=[]:=kH;subst Jn;have al4:us.take t.size=us:=by have:=cK t.size us;rw[ZW,bC]at this;exact this
   rw[al4]at fA;rw[bC];exact⟨us,eM,wz (c:=fy A hw w) fA⟩
  cases hy
 cases hy
def FT.Ph:FT->Bool
 | .sl .arg _=>true
 | .sl .anZ _=>true
 | .sl _ _=>false
 | .pair a b=>a.Ph&&b.Ph
 |_=>true
theorem LB:∀{t:FT},t.Ph=true->∀x:t.ct.D,(jT t x).all AC.Ph=true
 | .int _,_,_=>rfl
 | .bool,_,_=>rfl
 | .str,_,_=>rfl
 | .sl fl e,h,_=>by cases fl<;>first|rfl|cases h
 | .pair a b,h,x=>by simp only[FT.Ph,ah]at h;simp only[jT,List.all_append,ah];exact⟨LB h.1 x.1,LB h.2 x.2⟩
def ak8 (t:FT)(s:ar PS)(rs:ar (Bool×FT))(F:t.ct.D->Gi s->au (jf rs×t.ct.D)):Ez:=
 {R:=jf rs×t.ct.D,fn:=λxs=>match xs with
  | .val true cs::rest=>(match TQ t cs with|some (x,[])=>aa (nq s rest) (F x)|_=>none)
  |_=>none,av:=λy=>Cm rs y.1,back:=λy=>jT t y.2,bx:=true,cur:=t.Ph,hcur:=λh y=>LB h y.2}
theorem mz.arD {t:FT}{G:ar AV->au (jf rs×t.ct.D)}(h:mz P f {R:=jf rs×t.ct.D,fn:=G,av:=λy=>Cm rs y.1,back:=λy=>jT t y.2,bx:=true}){F:t.ct.D->Gi s->au (jf rs×t.ct.D)}(hF:∀x a,G (.val true (jT t x)::ji s a)=F x a):mz P f (ak8 t s rs F):=by
 intro xs y hy;simp only[ak8]at hy y;split at hy;rename_i cs rest;split at hy;rename_i x hx;cases ha:nq s rest with
 |none=>rw[ha]at hy;cases hy
 |some a=>
  rw[ha]at hy;have X5:G (.val true (jT t x)::ji s a)=some y:=by rw[hF x a];exact hy
  have PO:=Eg hx;rw[bC]at PO;have hh:=h _ y X5;refine⟨hh.1,λ_ h=>(by cases h),λh=>(by cases h),λ_ WG am5 he A w b vs arr T fr hw fp hA kG uG dY hn xe iG NU fJ=>?_,λh=>(by cases h)⟩;injection he with he1 he2;injection he1 with _ he3;subst he2;subst he3;rw[PO]at dY;exact hh.2.2.2.1 rfl (jT t x) (ji s a) rfl A w b vs arr T fr hw fp hA kG uG dY hn xe iG NU (vk ha fJ)
 cases hy;cases hy
def ak9 (t:FT)(s:ar PS)(F:Gi s->au t.ct.D):Ez:=
 {R:=t.ct.D,fn:=λxs=>aa (nq s xs) F,av:=λ_=> .bot,back:=λy=>jT t y,pr:=true}
theorem mz.arE {t:FT}{G:ar AV->au t.ct.D}(h:mz P f {R:=t.ct.D,fn:=G,av:=λ_=> .bot,back:=λy=>jT t y,pr:=true}){F:Gi s->au t.ct.D}(hF:∀a,G (ji s a)=F a):mz P f (ak9 t s F):=by
 intro xs y hy;simp only[ak9]at hy y;cases ha:nq s xs with
 |none=>rw[ha]at hy;cases hy
 |some a=>
  rw[ha]at hy;have X5:G (ji s a)=some y:=by rw[hF a];exact hy
  have hh:=h _ y X5;exact⟨hh.1,λh1 h2 A w vs hA hr=>hh.2.1 h1 h2 A w vs hA (vk ha hr),λh=>(by cases h),λh=>(by cases h),λ_ A w vs hA hr=>hh.2.2.2.2 rfl A w vs hA (vk ha hr)⟩
theorem Yq {R σ:Type}{key:ec}{B:AS->(Ex->AS->au R)->au R}{K:Ex->AS->au R}(enc:σ->AS)(T:(σ->au R)->σ->au R)
 (h:∀m x,E3 key B (m+1) (enc x) K=T (λy=>E3 key B m (enc y) K) x):∀m x,E3 key B m (enc x) K=aH T m x
 |0,_=>rfl
 |m+1,x=>by rw[h m x];have:(λy=>E3 key B m (enc y) K)=aH T m:=funext λy=>Yq enc T h m y;rw[this];rfl
theorem xr:∀{l:ar PD}{vs:ar AV}{x:Kr l},lH l vs=some x->vs=xu l x
 |[],[],_,_=>rfl
 |[],_::_,_,h=>by simp[lH]at h
 | .data g t::l,[],_,h=>by simp[lH]at h
 | .data g t::l,.zU _::vs,_,h=>by simp[lH]at h
 | .data g t::l,.val g' cs::vs,x,h=>by
  simp only[lH]at h;cases hg:g==g' with
  |false=>rw[hg]at h;cases h
  |true=>
   rw[hg]at h;simp only[af]at h;have oV:g=g':=by simpa using hg
   subst oV;split at h;rename_i y hy;obtain⟨r,hr,h⟩:=aX.1 h;cases h;have h1:=Eg hy;rw[bC]at h1;rw[xu,h1,xr hr];cases h
 | .bot::l,[],x,h=>by simp[lH]at h
 | .ptr s off::l,[],x,h=>by simp[lH]at h
 | .fn f::l,[],x,h=>by simp[lH]at h
 | .bot::l,v::vs,x,h=>by simp only[lH]at h;cases hg:v.ahx with|false=>rw[hg]at h;cases h|true=>rw[hg]at h;rw[afF hg,xu,xr (l:=l) h]
 | .ptr s off::l,v::vs,x,h=>by simp only[lH]at h;cases hg:v.ahy s off with|false=>rw[hg]at h;cases h|true=>rw[hg]at h;rw[afH hg,xu,xr (l:=l) h]
 | .fn f::l,v::vs,x,h=>by simp only[lH]at h;cases hg:v.ajk f with|false=>rw[hg]at h;cases h|true=>rw[hg]at h;rw[Yk hg,xu,xr (l:=l) h]
theorem Ic:∀{l:ar (au FT)}{bs:ar (au (ar AC))}{x:Js l},uA l bs=some x->bs=IK l x
 |[],[],_,_=>rfl
 |[],_::_,_,h=>by simp[uA]at h
 |some t::l,[],_,h=>by simp[uA]at h
 |none::l,[],_,h=>by simp[uA]at h
 |some t::l,none::bs,_,h=>by simp[uA]at h
 |none::l,some _::bs,_,h=>by simp[uA]at h
 |none::l,none::bs,x,h=>by simp only[uA]at h;rw[IK,Ic h]
 |some t::l,some cs::bs,x,h=>by simp only[uA]at h;split at h;rename_i y hy;obtain⟨r,hr,h⟩:=aX.1 h;cases h;have h1:=Eg hy;rw[bC]at h1;rw[IK,h1,Ic hr];cases h
theorem aeQ:∀{o:IoD}{cs:ar AC}{x:ioD o},abp o cs=some x->cs=ak7 o x
 | .none,[],_,_=>rfl
 | .none,_::_,_,h=>by simp[abp]at h
 | .ptr,cs,x,h=>by simp only[abp]at h;cases hp:afG cs with|false=>rw[hp]at h;cases h|true=>unfold afG at hp;split at hp;rfl;cases hp
 | .some t,cs,x,h=>by simp only[abp]at h;split at h;rename_i y hy;cases h;have h1:=Eg hy;rw[bC]at h1;rw[ak7,h1];cases h
theorem SD.abq {d:SD}{st:AS}{x:d.D}(h:d.dec st=some x):st=d.enc x:=by unfold SD.dec at h;cases hc:(st.ep==0&&st.iss==List.replicate d.slots.length false)with|false=>rw[hc]at h;cases h|true=>rw[hc]at h;simp only[af]at h;obtain⟨y,hy,h⟩:=aX.1 h;obtain⟨z,hz,h⟩:=aX.1 h;obtain⟨u,hu,h⟩:=aX.1 h;cases h;simp only[ah,bn]at hc;cases st with|mk slots boxes ep iss io=>simp only at hc hy hz hu;obtain⟨rfl,rfl⟩:=hc;rw[xr hy,Ic hz,aeQ hu];rfl
theorem lok {E:Env}{Γ:Ci}{an:An}{Λ:Lm}{c:Code}(l:Q6)(h1:Λ (dR c)=l)(n:Nat)(h2:∀(R:Type)(x:l.sd.D)(K:Ex->AS->au R),l.run x K=E3 (an.mask (dR c)) (den E Γ an Λ c) n (l.sd.enc x) K):LOk E Γ an Λ c:=by refine⟨n,λR st K r h=>?_⟩;rw[h1]at h;unfold Q6.go at h;cases hd:l.sd.dec st with|none=>rw[hd]at h;cases h|some x=>rw[hd]at h;rw[SD.abq hd,<-h2];exact h
theorem cok {E:Env}{Γ:Ci}{an:An}{Λ:Lm}{c:Code}(l:Q6)(h1:Λ (Cp c)=l)(h2:∀(R:Type)(x:l.sd.D)(K:Ex->AS->au R),l.run x K=den E Γ an Λ c (l.sd.enc x) (λe st'=>K e (st'.mask (an.mask (Cp c+1))))):COk E Γ an Λ c:=by intro R st K r h;rw[h1]at h;unfold Q6.go at h;cases hd:l.sd.dec st with|none=>rw[hd]at h;cases h|some x=>rw[hd]at h;rw[SD.abq hd,<-h2];exact h
end Go.Dn
