import Derived.Test.YthllnaiaikjelaaGreatDnLaw
/- Functions by the data that they take; loops by the data that they keep. -/
namespace Go.Dn
variable {f:Nat} {P:Program} {rs:ar (Bool×FT)}
inductive PS where
 |data (g:Bool) (t:CT)|fn (f:Nat)
variable {s:ar PS}
abbrev Gu:ar PS->Type
 |[]=>Unit
 | .data _ t::r=>t.D×Gu r
 | .fn _::r=>Gu r
def ya:(t:CT)->ar AC->au (t.D×ar AC)
 | .int k,.int k' n::r=>if k'=k then some (n,r) else none
 | .bool,.bool b::r=>some (b,r)
 | .str,.str s::r=>some (s,r)
 | .sl e,.sl (.arg false) e' xs::r=>if h:e'=e then some (h▸xs,r) else none
 | .sl _,.kS::r=>some ([],r)
 | .pair a b,cs=>(ya a cs).bind λx=>(ya b x.2).bind λy=>some ((x.1,y.1),y.2)
 |_,_=>none
def nu:(s:ar PS)->ar AV->au (Gu s)
 |[],[]=>some ()
 | .data g e::s,.val g' cs::xs=>bif g==g' then
  (match ya e cs with
   |some (x,[])=>(nu s xs).bind λr=>some (x,r)
   |_=>none) else none
 | .fn f::s,v::xs=>bif v.ajI f then nu s xs else none
 |_,_=>none
def jk:(s:ar PS)->Gu s->ar AV
 |[],_=>[]
 | .data g e::s,a=> .val g (cellsOf e (.arg false) a.1)::jk s a.2
 | .fn f::s,a=> .one (.fn f)::jk s a
theorem aj3 {A:Rg}{hw:Nat->Nat}{w:World}:∀{t:CT}{cs r:ar AC}{x:t.D},ya t cs=some (x,r)->∀{vs:iW}{fp:ei},bE (fA A hw w) vs cs fp-> ∃v1 v2 f1 f2,vs=v1++v2/\fp=f1++f2/\bE (fA A hw w) v1 (cellsOf t (.arg false) x) f1/\bE (fA A hw w) v2 r f2:=by
 intro t
 have one:∀{y:AC}{ys:ar AC}{vs:iW}{fp:ei}{z:AC},bE (fA A hw w) vs (y::ys) fp->(∀v f,iD (fA A hw w) v y f->iD (fA A hw w) v z f)->
  ∃v1 v2 f1 f2,vs=v1++v2/\fp=f1++f2/\bE (fA A hw w) v1 [z] f1/\bE (fA A hw w) v2 ys f2:=by
  intro y ys vs fp z h hz
  cases vs with
  |nil=>exact h.elim
  |cons v vs=>
   obtain⟨f1,f2,rfl,h1,h2⟩:=h
   exact⟨[v],vs,f1,f2,rfl,rfl,⟨f1,[],by simp,hz v f1 h1,rfl⟩,h2⟩
 induction t with
 |int k=>intro cs r x h vs fp hr;cases cs with|nil=>simp[ya]at h|cons y ys=>cases y<;>simp[ya]at h;obtain⟨rfl,rfl,rfl⟩:=h;exact one hr λv f h=>h
 |bool=>intro cs r x h vs fp hr;cases cs with|nil=>simp[ya]at h|cons y ys=>cases y<;>simp[ya]at h;obtain⟨rfl,rfl⟩:=h;exact one hr λv f h=>h
 |str=>intro cs r x h vs fp hr;cases cs with|nil=>simp[ya]at h|cons y ys=>cases y<;>simp[ya]at h;obtain⟨rfl,rfl⟩:=h;exact one hr λv f h=>h
 |sl e _=>
  intro cs r x h vs fp hr;cases cs with
  |nil=>simp[ya]at h
  |cons y ys=>
   cases y with
   |sl fl e' xs=>
    cases fl with
    |arg k=>cases k with|true=>simp[ya]at h|false=>simp only[ya]at h;split at h;rename_i he;subst he;cases h;exact one hr λv f h=>h;cases h
    |own t=>simp[ya]at h
    |nest _ _ _ _ _ _=>simp[ya]at h
    |part _ _ _ _=>simp[ya]at h
    |fL _ _ _=>simp[ya]at h
    |loc ep pv=>simp[ya]at h
   |kS=>simp[ya]at h;obtain⟨rfl,rfl⟩:=h;refine one hr λv f h=>?_;obtain⟨rfl,rfl⟩:=h;exact⟨rfl,_,rfl,.inl ⟨⟨none,rfl⟩,rfl⟩⟩
   |_=>simp[ya]at h
 |pair a b iha ihb=>intro cs r x h vs fp hr;simp only[ya]at h;obtain⟨⟨x1,r1⟩,h1,h⟩:=aY.1 h;obtain⟨⟨x2,r2⟩,h2,h⟩:=aY.1 h;cases h;obtain⟨v1,v2,f1,f2,rfl,rfl,k1,k2⟩:=iha h1 hr;obtain⟨v3,v4,f3,f4,rfl,rfl,k3,k4⟩:=ihb h2 k2;exact⟨v1++v3,v4,f1++f3,f4,by simp,by simp,by simpa[cellsOf]using bE.append k1 k3,k4⟩
theorem YF {v:AV}(h:v.ajI f=true):v=.one (.fn f):=by
 unfold AV.ajI at h;split at h;rename_i f';have:f=f':=by simpa using h
 subst this;rfl;cases h
theorem af5 {v:AV}(h:v.ahX=true):v=.bot:=by unfold AV.ahX at h;split at h;rfl;cases h
theorem af7 {v:AV}{s off:Nat}(h:v.ahY s off=true):v=.one (.ptr s off):=by unfold AV.ahY at h;split at h;simp only[ah,bn]at h;obtain⟨rfl,rfl⟩:=h;rfl;cases h
theorem vp {A:Rg}{w:World}:∀{s:ar PS}{xs:ar AV}{a:Gu s},nu s xs=some a->∀{vs:iW},pc A w vs xs->pc A w vs (jk s a)
 |[],[],a,_,vs,h=>h
 |[],_::_,_,h,_,_=>by simp[nu]at h
 | .data g e::s,[],_,h,_,_=>by simp[nu]at h
 | .data g e::s,.Af _::xs,_,h,_,_=>by simp[nu]at h
 | .data g e::s,.val g' cs::xs,a,h,vs,hr=>by
  simp only[nu]at h;cases hg:g==g' with
  |false=>rw[hg]at h;cases h
  |true=>
   rw[hg]at h;simp only[af]at h;have oY:g=g':=by simpa using hg
   subst oY;split at h;rename_i x hx;obtain⟨r,hr',h⟩:=aY.1 h;cases h;cases vs with
   |nil=>exact hr.elim
   |cons v vs=>
    obtain⟨⟨us,eP,hu⟩,h2⟩:=hr;obtain⟨v1,v2,f1,f2,rfl,hf,k1,k2⟩:=aj3 hx hu;have SX:v2=[]:=by cases v2 with|nil=>rfl|cons _ _=>exact k2.elim
    subst SX;have hf1:f1=[]:=by have:=hf.symm;simp at this;exact this.1
    subst hf1;rw[bD]at eP;exact⟨⟨v1,eP,k1⟩,vp hr' h2⟩
   cases h
 | .fn f::s,[],a,h,vs,hr=>by simp[nu]at h
 | .fn f::s,v::xs,a,h,vs,hr=>by simp only[nu]at h;cases hg:v.ajI f with|false=>rw[hg]at h;cases h|true=>rw[hg]at h;have:=YF hg;subst this;cases vs with|nil=>exact hr.elim|cons v vs=>exact⟨hr.1,vp h hr.2⟩
def X3 (s:ar PS)(rs:ar (Bool×FT))(F:Gu s->au (jh rs)):EI:={R:=jh rs,fn:=λxs=>aa (nu s xs) F,av:=Cy rs}
theorem mD.of {G:ar AV->au (jh rs)}(h:mD P f {R:=jh rs,fn:=G,av:=Cy rs}){F:Gu s->au (jh rs)}(hF:∀a,G (jk s a)=F a):mD P f (X3 s rs F):=by
 intro xs y hy;simp only[X3]at hy y;cases ha:nu s xs with
 |none=>rw[ha]at hy;cases hy
 |some a=>
  rw[ha]at hy;have Yq:G (jk s a)=some y:=by rw[hF a];exact hy
  have hh:=h (jk s a) y Yq;exact⟨hh.1,λ_ _ A w vs hA hr=>hh.2.1 rfl rfl A w vs hA (vp ha hr),λh=>(by cases h),λh=>(by cases h),λh=>(by cases h)⟩
def OU (s:ar PS)(rs TP:ar (Bool×FT))(h:jh TP=jh rs)(F:Gu s->au (Bool×jh rs)):EI:=
 {R:=Bool×jh rs,fn:=λxs=>aa (nu s xs) F,av:=λy=>Cy rs y.2,sel:=λy=>y.1,alt:=λy=>Cy TP (cast h.symm y.2)}
theorem mD.ofAlt {TP:ar (Bool×FT)}{h2:jh TP=jh rs}{G:ar AV->au (Bool×jh rs)}(h:mD P f {R:=Bool×jh rs,fn:=G,av:=λy=>Cy rs y.2,sel:=λy=>y.1,alt:=λy=>Cy TP (cast h2.symm y.2)}){F:Gu s->au (Bool×jh rs)}(hF:∀a,G (jk s a)=F a):mD P f (OU s rs TP h2 F):=by
 intro xs y hy;simp only[OU]at hy y;cases ha:nu s xs with
 |none=>rw[ha]at hy;cases hy
 |some a=>
  rw[ha]at hy;have Yq:G (jk s a)=some y:=by rw[hF a];exact hy
  have hh:=h (jk s a) y Yq;exact⟨hh.1,λ_ _ A w vs hA hr=>hh.2.1 rfl rfl A w vs hA (vp ha hr),λh=>(by cases h),λh=>(by cases h),λh=>(by cases h)⟩
def alB (s:ar PS)(rs:ar (Bool×FT))(F:Gu s->au (Bool×jh rs)):EI:=
 {R:=Bool×jh rs,fn:=λxs=>aa (nu s xs) λa=>anb (F a),av:=λy=>Cy rs y.2}
theorem mD.only {TP:ar (Bool×FT)}{h2:jh TP=jh rs}{F:Gu s->au (Bool×jh rs)}(h:mD P f (OU s rs TP h2 F)):mD P f (alB s rs F):=by
 intro xs y hy;simp only[alB]at hy y;cases ha:nu s xs with
 |none=>rw[ha]at hy;cases hy
 |some a=>
  rw[ha]at hy;have hy:anb (F a)=some y:=hy;unfold anb at hy;cases hF:F a with
  |none=>rw[hF]at hy;cases hy
  |some r=>
   rw[hF]at hy;cases h1:r.1 with
   |false=>simp only[aa,h1,ae]at hy;cases hy
   |true=>
    simp only[aa,h1,af,bf]at hy;subst hy;have hf:(OU s rs TP h2 F).fn xs=some r:=by show aa (nu s xs) F=some r;rw[ha];exact hF
    have hh:=h xs r hf;have hr:(OU s rs TP h2 F).res r=Cy rs r.2:=by show cond r.1 (Cy rs r.2) _=_;rw[h1];rfl
    refine⟨hh.1,λ_ _ A w vs hA Xe=>?_,λh=>(by cases h),λh=>(by cases h),λh=>(by cases h)⟩;have q:=hh.2.1 rfl rfl A w vs hA Xe;rw[hr]at q;exact q
def apN (t:CT)(gg:Bool)(s:ar PS)(rs:ar (Bool×FT))(F:t.D->Gu s->au (jh rs×t.D)):EI:=
 {R:=jh rs×t.D,fn:=λxs=>match xs with
  | .val g cs::rest=>bif gg==g then(match jP t cs with|some (x,[])=>aa (nu s rest) (F x)|_=>none) else none
  |_=>none,av:=λy=>Cy rs y.1,io:=true,back:=λy=>cellsOf t (.own none) y.2}
theorem mD.aAw {t:CT}{gg:Bool}{G:ar AV->au (jh rs×t.D)}(h:mD P f {R:=jh rs×t.D,fn:=G,av:=λy=>Cy rs y.1,io:=true,back:=λy=>cellsOf t (.own none) y.2}){F:t.D->Gu s->au (jh rs×t.D)}(hF:∀x a,G (.val gg (cellsOf t (.own none) x)::jk s a)=F x a):mD P f (apN t gg s rs F):=by
 intro xs y hy;simp only[apN]at hy y;split at hy;rename_i g cs rest;cases hg:(gg==g)with
 |false=>rw[hg]at hy;cases hy
 |true=>
  rw[hg]at hy;have:gg=g:=by simpa using hg
  subst this;simp only[af]at hy;split at hy;rename_i x hx;cases ha:nu s rest with
  |none=>rw[ha]at hy;cases hy
  |some a=>
   rw[ha]at hy;have Yq:G (.val gg (cellsOf t (.own none) x)::jk s a)=some y:=by rw[hF x a];exact hy
   have hh:=h _ y Yq;refine⟨hh.1,λh=>(by cases h),λ_ g0 W0 anv he A w v0 vs hw fp hA ee hn iJ fK=>?_,λh=>(by cases h),λh=>(by cases h)⟩;injection he with he1 he2;injection he1 with he1 he3;subst he1;subst he2;subst he3;refine hh.2.2.1 rfl gg (cellsOf t (.own none) x) (jk s a) rfl A w v0 vs hw fp hA ?_ hn iJ (vp ha fK);obtain⟨us,eP,ee⟩:=ee;obtain⟨f1,f2,rfl,fB,kM⟩:=rh ee hx;have aaf:us.drop t.size=[]:=by cases hd:us.drop t.size with|nil=>rfl|cons _ _=>rw[hd]at kM;exact kM.elim
   rw[aaf]at kM;have JF:f2=[]:=kM;subst JF;have amt:us.take t.size=us:=by have:=cK t.size us;rw[aaf,bD]at this;exact this
   rw[amt]at fB;rw[bD];exact⟨us,eP,wE (c:=fA A hw w) fB⟩
  cases hy
 cases hy
def FT.PC:FT->Bool
 | .sl .arg _=>true
 | .sl .aoo _=>true
 | .sl _ _=>false
 | .pair a b=>a.PC&&b.PC
 |_=>true
theorem L2:∀{t:FT},t.PC=true->∀x:t.ct.D,(jW t x).all AC.PC=true
 | .int _,_,_=>rfl
 | .bool,_,_=>rfl
 | .str,_,_=>rfl
 | .sl fl e,h,_=>by cases fl<;>first|rfl|cases h
 | .pair a b,h,x=>by simp only[FT.PC,ah]at h;simp only[jW,List.all_append,ah];exact⟨L2 h.1 x.1,L2 h.2 x.2⟩
def alz (t:FT)(s:ar PS)(rs:ar (Bool×FT))(F:t.ct.D->Gu s->au (jh rs×t.ct.D)):EI:=
 {R:=jh rs×t.ct.D,fn:=λxs=>match xs with
  | .val true cs::rest=>(match Ud t cs with|some (x,[])=>aa (nu s rest) (F x)|_=>none)
  |_=>none,av:=λy=>Cy rs y.1,back:=λy=>jW t y.2,bx:=true,cur:=t.PC,hcur:=λh y=>L2 h y.2}
theorem mD.ar3 {t:FT}{G:ar AV->au (jh rs×t.ct.D)}(h:mD P f {R:=jh rs×t.ct.D,fn:=G,av:=λy=>Cy rs y.1,back:=λy=>jW t y.2,bx:=true}){F:t.ct.D->Gu s->au (jh rs×t.ct.D)}(hF:∀x a,G (.val true (jW t x)::jk s a)=F x a):mD P f (alz t s rs F):=by
 intro xs y hy;simp only[alz]at hy y;split at hy;rename_i cs rest;split at hy;rename_i x hx;cases ha:nu s rest with
 |none=>rw[ha]at hy;cases hy
 |some a=>
  rw[ha]at hy;have Yq:G (.val true (jW t x)::jk s a)=some y:=by rw[hF x a];exact hy
  have P9:=Ep hx;rw[bD]at P9;have hh:=h _ y Yq;refine⟨hh.1,λ_ h=>(by cases h),λh=>(by cases h),λ_ W0 anv he A w b vs arr T fr hw fp hA kL uI ee hn xk iJ Ob fK=>?_,λh=>(by cases h)⟩;injection he with he1 he2;injection he1 with _ he3;subst he2;subst he3;rw[P9]at ee;exact hh.2.2.2.1 rfl (jW t x) (jk s a) rfl A w b vs arr T fr hw fp hA kL uI ee hn xk iJ Ob (vp ha fK)
 cases hy;cases hy
def alA (t:FT)(s:ar PS)(F:Gu s->au t.ct.D):EI:=
 {R:=t.ct.D,fn:=λxs=>aa (nu s xs) F,av:=λ_=> .bot,back:=λy=>jW t y,pr:=true}
theorem mD.ar4 {t:FT}{G:ar AV->au t.ct.D}(h:mD P f {R:=t.ct.D,fn:=G,av:=λ_=> .bot,back:=λy=>jW t y,pr:=true}){F:Gu s->au t.ct.D}(hF:∀a,G (jk s a)=F a):mD P f (alA t s F):=by
 intro xs y hy;simp only[alA]at hy y;cases ha:nu s xs with
 |none=>rw[ha]at hy;cases hy
 |some a=>
  rw[ha]at hy;have Yq:G (jk s a)=some y:=by rw[hF a];exact hy
  have hh:=h _ y Yq;exact⟨hh.1,λh1 h2 A w vs hA hr=>hh.2.1 h1 h2 A w vs hA (vp ha hr),λh=>(by cases h),λh=>(by cases h),λ_ A w vs hA hr=>hh.2.2.2.2 rfl A w vs hA (vp ha hr)⟩
theorem YL {R σ:Type}{key:ei}{B:AS->(Ex->AS->au R)->au R}{K:Ex->AS->au R}(enc:σ->AS)(T:(σ->au R)->σ->au R)
 (h:∀m x,Ff key B (m+1) (enc x) K=T (λy=>Ff key B m (enc y) K) x):∀m x,Ff key B m (enc x) K=aH T m x
 |0,_=>rfl
 |m+1,x=>by rw[h m x];have:(λy=>Ff key B m (enc y) K)=aH T m:=funext λy=>YL enc T h m y;rw[this];rfl
theorem xz:∀{l:ar PD}{vs:ar AV}{x:KJ l},lM l vs=some x->vs=xB l x
 |[],[],_,_=>rfl
 |[],_::_,_,h=>by simp[lM]at h
 | .data g t::l,[],_,h=>by simp[lM]at h
 | .data g t::l,.Af _::vs,_,h=>by simp[lM]at h
 | .data g t::l,.val g' cs::vs,x,h=>by
  simp only[lM]at h;cases hg:g==g' with
  |false=>rw[hg]at h;cases h
  |true=>
   rw[hg]at h;simp only[af]at h;have oY:g=g':=by simpa using hg
   subst oY;split at h;rename_i y hy;obtain⟨r,hr,h⟩:=aY.1 h;cases h;have h1:=Ep hy;rw[bD]at h1;rw[xB,h1,xz hr];cases h
 | .bot::l,[],x,h=>by simp[lM]at h
 | .ptr s off::l,[],x,h=>by simp[lM]at h
 | .fn f::l,[],x,h=>by simp[lM]at h
 | .bot::l,v::vs,x,h=>by simp only[lM]at h;cases hg:v.ahX with|false=>rw[hg]at h;cases h|true=>rw[hg]at h;rw[af5 hg,xB,xz (l:=l) h]
 | .ptr s off::l,v::vs,x,h=>by simp only[lM]at h;cases hg:v.ahY s off with|false=>rw[hg]at h;cases h|true=>rw[hg]at h;rw[af7 hg,xB,xz (l:=l) h]
 | .fn f::l,v::vs,x,h=>by simp only[lM]at h;cases hg:v.ajI f with|false=>rw[hg]at h;cases h|true=>rw[hg]at h;rw[YF hg,xB,xz (l:=l) h]
theorem Ix:∀{l:ar (au FT)}{bs:ar (au (ar AC))}{x:JJ l},uC l bs=some x->bs=I4 l x
 |[],[],_,_=>rfl
 |[],_::_,_,h=>by simp[uC]at h
 |some t::l,[],_,h=>by simp[uC]at h
 |none::l,[],_,h=>by simp[uC]at h
 |some t::l,none::bs,_,h=>by simp[uC]at h
 |none::l,some _::bs,_,h=>by simp[uC]at h
 |none::l,none::bs,x,h=>by simp only[uC]at h;rw[I4,Ix h]
 |some t::l,some cs::bs,x,h=>by simp only[uC]at h;split at h;rename_i y hy;obtain⟨r,hr,h⟩:=aY.1 h;cases h;have h1:=Ep hy;rw[bD]at h1;rw[I4,h1,Ix hr];cases h
theorem afe:∀{o:IoD}{cs:ar AC}{x:ioD o},abL o cs=some x->cs=aly o x
 | .none,[],_,_=>rfl
 | .none,_::_,_,h=>by simp[abL]at h
 | .ptr,cs,x,h=>by simp only[abL]at h;cases hp:af6 cs with|false=>rw[hp]at h;cases h|true=>unfold af6 at hp;split at hp;rfl;cases hp
 | .some t,cs,x,h=>by simp only[abL]at h;split at h;rename_i y hy;cases h;have h1:=Ep hy;rw[bD]at h1;rw[aly,h1];cases h
theorem SD.abM {d:SD}{st:AS}{x:d.D}(h:d.dec st=some x):st=d.enc x:=by unfold SD.dec at h;cases hc:(st.ep==0&&st.iss==List.replicate d.slots.length false)with|false=>rw[hc]at h;cases h|true=>rw[hc]at h;simp only[af]at h;obtain⟨y,hy,h⟩:=aY.1 h;obtain⟨z,hz,h⟩:=aY.1 h;obtain⟨u,hu,h⟩:=aY.1 h;cases h;simp only[ah,bn]at hc;cases st with|mk slots boxes ep iss io=>simp only at hc hy hz hu;obtain⟨rfl,rfl⟩:=hc;rw[xz hy,Ix hz,afe hu];rfl
theorem lok {E:Env}{Γ:Cr}{an:An}{Λ:LG}{c:Code}(l:Rr)(h1:Λ (dV c)=l)(n:Nat)(h2:∀(R:Type)(x:l.sd.D)(K:Ex->AS->au R),l.run x K=Ff (an.mask (dV c)) (den E Γ an Λ c) n (l.sd.enc x) K):LOk E Γ an Λ c:=by refine⟨n,λR st K r h=>?_⟩;rw[h1]at h;unfold Rr.go at h;cases hd:l.sd.dec st with|none=>rw[hd]at h;cases h|some x=>rw[hd]at h;rw[SD.abM hd,<-h2];exact h
theorem cok {E:Env}{Γ:Cr}{an:An}{Λ:LG}{c:Code}(l:Rr)(h1:Λ (CD c)=l)(h2:∀(R:Type)(x:l.sd.D)(K:Ex->AS->au R),l.run x K=den E Γ an Λ c (l.sd.enc x) (λe st'=>K e (st'.mask (an.mask (CD c+1))))):COk E Γ an Λ c:=by intro R st K r h;rw[h1]at h;unfold Rr.go at h;cases hd:l.sd.dec st with|none=>rw[hd]at h;cases h|some x=>rw[hd]at h;rw[SD.abM hd,<-h2];exact h
end Go.Dn
