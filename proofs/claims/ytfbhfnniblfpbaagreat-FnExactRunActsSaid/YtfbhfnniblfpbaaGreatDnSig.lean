import Derived.Test.YtfbhfnniblfpbaaGreatDnLaw
/- Functions by the data that they take; loops by the data that they keep. -/
namespace Go.Dn
variable {f:Nat} {P:Program} {rs:aq (Bool×FT)}
inductive PS where
 |data (g:Bool) (t:CT)|fn (f:Nat)
variable {s:aq PS}
abbrev BV:aq PS->Type
 |[]=>Unit
 | .data _ t::r=>t.D×BV r
 | .fn _::r=>BV r
def ub:(t:CT)->aq AC->au (t.D×aq AC)
 | .int k,.int k' n::r=>if k'=k then some (n,r) else none
 | .bool,.bool b::r=>some (b,r)
 | .str,.str s::r=>some (s,r)
 | .sl e,.sl (.arg false) e' xs::r=>if h:e'=e then some (h▸xs,r) else none
 | .sl _,.jB::r=>some ([],r)
 | .pair a b,cs=>(ub a cs).bind λx=>(ub b x.2).bind λy=>some ((x.1,y.1),y.2)
 |_,_=>none
def lM:(s:aq PS)->aq AV->au (BV s)
 |[],[]=>some ()
 | .data g e::s,.val g' cs::xs=>bif g==g' then
  (match ub e cs with
   |some (x,[])=>(lM s xs).bind λr=>some (x,r)
   |_=>none) else none
 | .fn f::s,v::xs=>bif v.ab6 f then lM s xs else none
 |_,_=>none
def iy:(s:aq PS)->BV s->aq AV
 |[],_=>[]
 | .data g e::s,a=> .val g (cellsOf e (.arg false) a.1)::iy s a.2
 | .fn f::s,a=> .one (.fn f)::iy s a
theorem acw {A:Rg}{hw:Nat->Nat}{w:World}:∀{t:CT}{cs r:aq AC}{x:t.D},ub t cs=some (x,r)->∀{vs:ie}{fp:dX},bn (eQ A hw w) vs cs fp-> ∃v1 v2 f1 f2,vs=v1++v2/\fp=f1++f2/\bn (eQ A hw w) v1 (cellsOf t (.arg false) x) f1/\bn (eQ A hw w) v2 r f2:=by
 intro t
 have one:∀{y:AC}{ys:aq AC}{vs:ie}{fp:dX}{z:AC},bn (eQ A hw w) vs (y::ys) fp->(∀v f,gM (eQ A hw w) v y f->gM (eQ A hw w) v z f)->
  ∃v1 v2 f1 f2,vs=v1++v2/\fp=f1++f2/\bn (eQ A hw w) v1 [z] f1/\bn (eQ A hw w) v2 ys f2:=by
  intro y ys vs fp z h hz
  cases vs with
  |nil=>exact h.elim
  |cons v vs=>
   obtain⟨f1,f2,rfl,h1,h2⟩:=h
   exact⟨[v],vs,f1,f2,rfl,rfl,⟨f1,[],by simp,hz v f1 h1,rfl⟩,h2⟩
 induction t with
 |int k=>intro cs r x h vs fp hr;cases cs with|nil=>simp[ub]at h|cons y ys=>cases y<;>simp[ub]at h;obtain⟨rfl,rfl,rfl⟩:=h;exact one hr λv f h=>h
 |bool=>intro cs r x h vs fp hr;cases cs with|nil=>simp[ub]at h|cons y ys=>cases y<;>simp[ub]at h;obtain⟨rfl,rfl⟩:=h;exact one hr λv f h=>h
 |str=>intro cs r x h vs fp hr;cases cs with|nil=>simp[ub]at h|cons y ys=>cases y<;>simp[ub]at h;obtain⟨rfl,rfl⟩:=h;exact one hr λv f h=>h
 |sl e _=>
  intro cs r x h vs fp hr;cases cs with
  |nil=>simp[ub]at h
  |cons y ys=>
   cases y with
   |sl fl e' xs=>
    cases fl with
    |arg k=>cases k with|true=>simp[ub]at h|false=>simp only[ub]at h;split at h;rename_i he;subst he;cases h;exact one hr λv f h=>h;cases h
    |own t=>simp[ub]at h
    |nest _ _ _ _ _ _=>simp[ub]at h
    |part _ _ _ _=>simp[ub]at h
    |fe _ _ _=>simp[ub]at h
    |loc ep pv=>simp[ub]at h
   |jB=>simp[ub]at h;obtain⟨rfl,rfl⟩:=h;refine one hr λv f h=>?_;obtain⟨rfl,rfl⟩:=h;exact⟨rfl,_,rfl,.inl ⟨⟨none,rfl⟩,rfl⟩⟩
   |_=>simp[ub]at h
 |pair a b iha ihb=>intro cs r x h vs fp hr;simp only[ub]at h;obtain⟨⟨x1,r1⟩,h1,h⟩:=aL.1 h;obtain⟨⟨x2,r2⟩,h2,h⟩:=aL.1 h;cases h;obtain⟨v1,v2,f1,f2,rfl,rfl,k1,k2⟩:=iha h1 hr;obtain⟨v3,v4,f3,f4,rfl,rfl,k3,k4⟩:=ihb h2 k2;exact⟨v1++v3,v4,f1++f3,f4,by simp,by simp,by simpa[cellsOf]using bn.append k1 k3,k4⟩
theorem RX {v:AV}(h:v.ab6 f=true):v=.one (.fn f):=by
 unfold AV.ab6 at h;split at h;rename_i f';have:f=f':=by simpa using h
 subst this;rfl;cases h
theorem YT {v:AV}(h:v.aay=true):v=.bot:=by unfold AV.aay at h;split at h;rfl;cases h
theorem YV {v:AV}{s off:Nat}(h:v.aaz s off=true):v=.one (.ptr s off):=by unfold AV.aaz at h;split at h;simp only[ah,bD]at h;obtain⟨rfl,rfl⟩:=h;rfl;cases h
theorem rr {A:Rg}{w:World}:∀{s:aq PS}{xs:aq AV}{a:BV s},lM s xs=some a->∀{vs:ie},nf A w vs xs->nf A w vs (iy s a)
 |[],[],a,_,vs,h=>h
 |[],_::_,_,h,_,_=>by simp[lM]at h
 | .data g e::s,[],_,h,_,_=>by simp[lM]at h
 | .data g e::s,.vU _::xs,_,h,_,_=>by simp[lM]at h
 | .data g e::s,.val g' cs::xs,a,h,vs,hr=>by
  simp only[lM]at h;cases hg:g==g' with
  |false=>rw[hg]at h;cases h
  |true=>
   rw[hg]at h;simp only[af]at h;have na:g=g':=by simpa using hg
   subst na;split at h;rename_i x hx;obtain⟨r,hr',h⟩:=aL.1 h;cases h;cases vs with
   |nil=>exact hr.elim
   |cons v vs=>
    obtain⟨⟨us,eh,hu⟩,h2⟩:=hr;obtain⟨v1,v2,f1,f2,rfl,hf,k1,k2⟩:=acw hx hu;have MB:v2=[]:=by cases v2 with|nil=>rfl|cons _ _=>exact k2.elim
    subst MB;have hf1:f1=[]:=by have:=hf.symm;simp at this;exact this.1
    subst hf1;rw[bp]at eh;exact⟨⟨v1,eh,k1⟩,rr hr' h2⟩
   cases h
 | .fn f::s,[],a,h,vs,hr=>by simp[lM]at h
 | .fn f::s,v::xs,a,h,vs,hr=>by simp only[lM]at h;cases hg:v.ab6 f with|false=>rw[hg]at h;cases h|true=>rw[hg]at h;have:=RX hg;subst this;cases vs with|nil=>exact hr.elim|cons v vs=>exact⟨hr.1,rr h hr.2⟩
def Rp (s:aq PS)(rs:aq (Bool×FT))(F:BV s->au (iu rs)):Aq:={R:=iu rs,fn:=λxs=>aa (lM s xs) F,av:=xZ rs}
theorem kX.of {G:aq AV->au (iu rs)}(h:kX P f {R:=iu rs,fn:=G,av:=xZ rs}){F:BV s->au (iu rs)}(hF:∀a,G (iy s a)=F a):kX P f (Rp s rs F):=by
 intro xs y hy;simp only[Rp]at hy y;cases ha:lM s xs with
 |none=>rw[ha]at hy;cases hy
 |some a=>
  rw[ha]at hy;have RJ:G (iy s a)=some y:=by rw[hF a];exact hy
  have hh:=h (iy s a) y RJ;exact⟨hh.1,λ_ _ A w vs hA hr=>hh.2.1 rfl rfl A w vs hA (rr ha hr),λh=>(by cases h),λh=>(by cases h),λh=>(by cases h)⟩
def Jn (s:aq PS)(rs Np:aq (Bool×FT))(h:iu Np=iu rs)(F:BV s->au (Bool×iu rs)):Aq:=
 {R:=Bool×iu rs,fn:=λxs=>aa (lM s xs) F,av:=λy=>xZ rs y.2,sel:=λy=>y.1,alt:=λy=>xZ Np (cast h.symm y.2)}
theorem kX.ofAlt {Np:aq (Bool×FT)}{h2:iu Np=iu rs}{G:aq AV->au (Bool×iu rs)}(h:kX P f {R:=Bool×iu rs,fn:=G,av:=λy=>xZ rs y.2,sel:=λy=>y.1,alt:=λy=>xZ Np (cast h2.symm y.2)}){F:BV s->au (Bool×iu rs)}(hF:∀a,G (iy s a)=F a):kX P f (Jn s rs Np h2 F):=by
 intro xs y hy;simp only[Jn]at hy y;cases ha:lM s xs with
 |none=>rw[ha]at hy;cases hy
 |some a=>
  rw[ha]at hy;have RJ:G (iy s a)=some y:=by rw[hF a];exact hy
  have hh:=h (iy s a) y RJ;exact⟨hh.1,λ_ _ A w vs hA hr=>hh.2.1 rfl rfl A w vs hA (rr ha hr),λh=>(by cases h),λh=>(by cases h),λh=>(by cases h)⟩
def adU (s:aq PS)(rs:aq (Bool×FT))(F:BV s->au (Bool×iu rs)):Aq:=
 {R:=Bool×iu rs,fn:=λxs=>aa (lM s xs) λa=>afi (F a),av:=λy=>xZ rs y.2}
theorem kX.only {Np:aq (Bool×FT)}{h2:iu Np=iu rs}{F:BV s->au (Bool×iu rs)}(h:kX P f (Jn s rs Np h2 F)):kX P f (adU s rs F):=by
 intro xs y hy;simp only[adU]at hy y;cases ha:lM s xs with
 |none=>rw[ha]at hy;cases hy
 |some a=>
  rw[ha]at hy;have hy:afi (F a)=some y:=hy;unfold afi at hy;cases hF:F a with
  |none=>rw[hF]at hy;cases hy
  |some r=>
   rw[hF]at hy;cases h1:r.1 with
   |false=>simp only[aa,h1,ae]at hy;cases hy
   |true=>
    simp only[aa,h1,af,aZ]at hy;subst hy;have hf:(Jn s rs Np h2 F).fn xs=some r:=by show aa (lM s xs) F=some r;rw[ha];exact hF
    have hh:=h xs r hf;have hr:(Jn s rs Np h2 F).res r=xZ rs r.2:=by show cond r.1 (xZ rs r.2) _=_;rw[h1];rfl
    refine⟨hh.1,λ_ _ A w vs hA QH=>?_,λh=>(by cases h),λh=>(by cases h),λh=>(by cases h)⟩;have q:=hh.2.1 rfl rfl A w vs hA QH;rw[hr]at q;exact q
def ahH (t:CT)(gg:Bool)(s:aq PS)(rs:aq (Bool×FT))(F:t.D->BV s->au (iu rs×t.D)):Aq:=
 {R:=iu rs×t.D,fn:=λxs=>match xs with
  | .val g cs::rest=>bif gg==g then(match iS t cs with|some (x,[])=>aa (lM s rest) (F x)|_=>none) else none
  |_=>none,av:=λy=>xZ rs y.1,io:=true,back:=λy=>cellsOf t (.own none) y.2}
theorem kX.aqS {t:CT}{gg:Bool}{G:aq AV->au (iu rs×t.D)}(h:kX P f {R:=iu rs×t.D,fn:=G,av:=λy=>xZ rs y.1,io:=true,back:=λy=>cellsOf t (.own none) y.2}){F:t.D->BV s->au (iu rs×t.D)}(hF:∀x a,G (.val gg (cellsOf t (.own none) x)::iy s a)=F x a):kX P f (ahH t gg s rs F):=by
 intro xs y hy;simp only[ahH]at hy y;split at hy;rename_i g cs rest;cases hg:(gg==g)with
 |false=>rw[hg]at hy;cases hy
 |true=>
  rw[hg]at hy;have:gg=g:=by simpa using hg
  subst this;simp only[af]at hy;split at hy;rename_i x hx;cases ha:lM s rest with
  |none=>rw[ha]at hy;cases hy
  |some a=>
   rw[ha]at hy;have RJ:G (.val gg (cellsOf t (.own none) x)::iy s a)=some y:=by rw[hF x a];exact hy
   have hh:=h _ y RJ;refine⟨hh.1,λh=>(by cases h),λ_ g0 Qr afy he A w v0 vs hw fp hA dD hn gV fb=>?_,λh=>(by cases h),λh=>(by cases h)⟩;injection he with he1 he2;injection he1 with he1 he3;subst he1;subst he2;subst he3;refine hh.2.2.1 rfl gg (cellsOf t (.own none) x) (iy s a) rfl A w v0 vs hw fp hA ?_ hn gV (rr ha fb);obtain⟨us,eh,dD⟩:=dD;obtain⟨f1,f2,rfl,eR,jx⟩:=oz dD hx;have Tr:us.drop t.size=[]:=by cases hd:us.drop t.size with|nil=>rfl|cons _ _=>rw[hd]at jx;exact jx.elim
   rw[Tr]at jx;have H5:f2=[]:=jx;subst H5;have aeD:us.take t.size=us:=by have:=cp t.size us;rw[Tr,bp]at this;exact this
   rw[aeD]at eR;rw[bp];exact⟨us,eh,sE (c:=eQ A hw w) eR⟩
  cases hy
 cases hy
def FT.JU:FT->Bool
 | .sl .arg _=>true
 | .sl .age _=>true
 | .sl _ _=>false
 | .pair a b=>a.JU&&b.JU
 |_=>true
theorem GR:∀{t:FT},t.JU=true->∀x:t.ct.D,(iY t x).all AC.JU=true
 | .int _,_,_=>rfl
 | .bool,_,_=>rfl
 | .str,_,_=>rfl
 | .sl fl e,h,_=>by cases fl<;>first|rfl|cases h
 | .pair a b,h,x=>by simp only[FT.JU,ah]at h;simp only[iY,List.all_append,ah];exact⟨GR h.1 x.1,GR h.2 x.2⟩
def adS (t:FT)(s:aq PS)(rs:aq (Bool×FT))(F:t.ct.D->BV s->au (iu rs×t.ct.D)):Aq:=
 {R:=iu rs×t.ct.D,fn:=λxs=>match xs with
  | .val true cs::rest=>(match NL t cs with|some (x,[])=>aa (lM s rest) (F x)|_=>none)
  |_=>none,av:=λy=>xZ rs y.1,back:=λy=>iY t y.2,bx:=true,cur:=t.JU,hcur:=λh y=>GR h y.2}
theorem kX.ajJ {t:FT}{G:aq AV->au (iu rs×t.ct.D)}(h:kX P f {R:=iu rs×t.ct.D,fn:=G,av:=λy=>xZ rs y.1,back:=λy=>iY t y.2,bx:=true}){F:t.ct.D->BV s->au (iu rs×t.ct.D)}(hF:∀x a,G (.val true (iY t x)::iy s a)=F x a):kX P f (adS t s rs F):=by
 intro xs y hy;simp only[adS]at hy y;split at hy;rename_i cs rest;split at hy;rename_i x hx;cases ha:lM s rest with
 |none=>rw[ha]at hy;cases hy
 |some a=>
  rw[ha]at hy;have RJ:G (.val true (iY t x)::iy s a)=some y:=by rw[hF x a];exact hy
  have Kf:=Ac hx;rw[bp]at Kf;have hh:=h _ y RJ;refine⟨hh.1,λ_ h=>(by cases h),λh=>(by cases h),λ_ Qr afy he A w b vs arr T fr hw fp hA jw qV dD hn ti gV IQ fb=>?_,λh=>(by cases h)⟩;injection he with he1 he2;injection he1 with _ he3;subst he2;subst he3;rw[Kf]at dD;exact hh.2.2.2.1 rfl (iY t x) (iy s a) rfl A w b vs arr T fr hw fp hA jw qV dD hn ti gV IQ (rr ha fb)
 cases hy;cases hy
def adT (t:FT)(s:aq PS)(F:BV s->au t.ct.D):Aq:=
 {R:=t.ct.D,fn:=λxs=>aa (lM s xs) F,av:=λ_=> .bot,back:=λy=>iY t y,pr:=true}
theorem kX.ajK {t:FT}{G:aq AV->au t.ct.D}(h:kX P f {R:=t.ct.D,fn:=G,av:=λ_=> .bot,back:=λy=>iY t y,pr:=true}){F:BV s->au t.ct.D}(hF:∀a,G (iy s a)=F a):kX P f (adT t s F):=by
 intro xs y hy;simp only[adT]at hy y;cases ha:lM s xs with
 |none=>rw[ha]at hy;cases hy
 |some a=>
  rw[ha]at hy;have RJ:G (iy s a)=some y:=by rw[hF a];exact hy
  have hh:=h _ y RJ;exact⟨hh.1,λh1 h2 A w vs hA hr=>hh.2.1 h1 h2 A w vs hA (rr ha hr),λh=>(by cases h),λh=>(by cases h),λ_ A w vs hA hr=>hh.2.2.2.2 rfl A w vs hA (rr ha hr)⟩
theorem R3 {R σ:Type}{key:dX}{B:AS->(Ex->AS->au R)->au R}{K:Ex->AS->au R}(enc:σ->AS)(T:(σ->au R)->σ->au R)
 (h:∀m x,AU key B (m+1) (enc x) K=T (λy=>AU key B m (enc y) K) x):∀m x,AU key B m (enc x) K=aI T m x
 |0,_=>rfl
 |m+1,x=>by rw[h m x];have:(λy=>AU key B m (enc y) K)=aI T m:=funext λy=>R3 enc T h m y;rw[this];rfl
theorem tB:∀{l:aq PD}{vs:aq AV}{x:FJ l},kg l vs=some x->vs=tE l x
 |[],[],_,_=>rfl
 |[],_::_,_,h=>by simp[kg]at h
 | .data g t::l,[],_,h=>by simp[kg]at h
 | .data g t::l,.vU _::vs,_,h=>by simp[kg]at h
 | .data g t::l,.val g' cs::vs,x,h=>by
  simp only[kg]at h;cases hg:g==g' with
  |false=>rw[hg]at h;cases h
  |true=>
   rw[hg]at h;simp only[af]at h;have na:g=g':=by simpa using hg
   subst na;split at h;rename_i y hy;obtain⟨r,hr,h⟩:=aL.1 h;cases h;have h1:=Ac hy;rw[bp]at h1;rw[tE,h1,tB hr];cases h
 | .bot::l,[],x,h=>by simp[kg]at h
 | .ptr s off::l,[],x,h=>by simp[kg]at h
 | .fn f::l,[],x,h=>by simp[kg]at h
 | .bot::l,v::vs,x,h=>by simp only[kg]at h;cases hg:v.aay with|false=>rw[hg]at h;cases h|true=>rw[hg]at h;rw[YT hg,tE,tB (l:=l) h]
 | .ptr s off::l,v::vs,x,h=>by simp only[kg]at h;cases hg:v.aaz s off with|false=>rw[hg]at h;cases h|true=>rw[hg]at h;rw[YV hg,tE,tB (l:=l) h]
 | .fn f::l,v::vs,x,h=>by simp only[kg]at h;cases hg:v.ab6 f with|false=>rw[hg]at h;cases h|true=>rw[hg]at h;rw[RX hg,tE,tB (l:=l) h]
theorem DQ:∀{l:aq (au FT)}{bs:aq (au (aq AC))}{x:ER l},qP l bs=some x->bs=Eg l x
 |[],[],_,_=>rfl
 |[],_::_,_,h=>by simp[qP]at h
 |some t::l,[],_,h=>by simp[qP]at h
 |none::l,[],_,h=>by simp[qP]at h
 |some t::l,none::bs,_,h=>by simp[qP]at h
 |none::l,some _::bs,_,h=>by simp[qP]at h
 |none::l,none::bs,x,h=>by simp only[qP]at h;rw[Eg,DQ h]
 |some t::l,some cs::bs,x,h=>by simp only[qP]at h;split at h;rename_i y hy;obtain⟨r,hr,h⟩:=aL.1 h;cases h;have h1:=Ac hy;rw[bp]at h1;rw[Eg,h1,DQ hr];cases h
theorem X7:∀{o:IoD}{cs:aq AC}{x:ioD o},U8 o cs=some x->cs=adR o x
 | .none,[],_,_=>rfl
 | .none,_::_,_,h=>by simp[U8]at h
 | .ptr,cs,x,h=>by simp only[U8]at h;cases hp:YU cs with|false=>rw[hp]at h;cases h|true=>unfold YU at hp;split at hp;rfl;cases hp
 | .some t,cs,x,h=>by simp only[U8]at h;split at h;rename_i y hy;cases h;have h1:=Ac hy;rw[bp]at h1;rw[adR,h1];cases h
theorem SD.U9 {d:SD}{st:AS}{x:d.D}(h:d.dec st=some x):st=d.enc x:=by unfold SD.dec at h;cases hc:(st.ep==0&&st.iss==List.replicate d.slots.length false)with|false=>rw[hc]at h;cases h|true=>rw[hc]at h;simp only[af]at h;obtain⟨y,hy,h⟩:=aL.1 h;obtain⟨z,hz,h⟩:=aL.1 h;obtain⟨u,hu,h⟩:=aL.1 h;cases h;simp only[ah,bD]at hc;cases st with|mk slots boxes ep iss io=>simp only at hc hy hz hu;obtain⟨rfl,rfl⟩:=hc;rw[tB hy,DQ hz,X7 hu];rfl
theorem lok {E:Env}{Γ:xV}{an:An}{Λ:GD}{c:Code}(l:Lo)(h1:Λ (dz c)=l)(n:Nat)(h2:∀(R:Type)(x:l.sd.D)(K:Ex->AS->au R),l.run x K=AU (an.mask (dz c)) (den E Γ an Λ c) n (l.sd.enc x) K):XJ E Γ an Λ c:=by refine⟨n,λR st K r h=>?_⟩;rw[h1]at h;unfold Lo.go at h;cases hd:l.sd.dec st with|none=>rw[hd]at h;cases h|some x=>rw[hd]at h;rw[SD.U9 hd,<-h2];exact h
theorem cok {E:Env}{Γ:xV}{an:An}{Λ:GD}{c:Code}(l:Lo)(h1:Λ (yb c)=l)(h2:∀(R:Type)(x:l.sd.D)(K:Ex->AS->au R),l.run x K=den E Γ an Λ c (l.sd.enc x) (λe st'=>K e (st'.mask (an.mask (yb c+1))))):COk E Γ an Λ c:=by intro R st K r h;rw[h1]at h;unfold Lo.go at h;cases hd:l.sd.dec st with|none=>rw[hd]at h;cases h|some x=>rw[hd]at h;rw[SD.U9 hd,<-h2];exact h
end Go.Dn
