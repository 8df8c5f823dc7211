import Derived.Test.YtjoicgadhgkphabGreatDnLaw
/- Functions by the data that they take; loops by the data that they keep. -/
namespace Go.Dn
inductive PS where
 |data (g:Bool) (t:CT)|fn (f:Nat)
abbrev vK:List PS→Type
 |[]=>Unit
 | .data _ t::r=>t.D×vK r
 | .fn _::r=>vK r
def nh:(t:CT)→List AC→Option (t.D×List AC)
 | .int k,.int k' n::r=>if k'=k then some (n,r) else none
 | .bool,.bool b::r=>some (b,r)
 | .str,.str s::r=>some (s,r)
 | .sl e,.sl (.arg false) e' xs::r=>if h:e'=e then some (h▸xs,r) else none
 | .sl _,.nilsl::r=>some ([],r)
 | .pair a b,cs=>(nh a cs).bind λx=>(nh b x.2).bind λy=>some ((x.1,y.1),y.2)
 |_,_=>none
def jS:(s:List PS)→List AV→Option (vK s)
 |[],[]=>some ()
 | .data g e::s,.val g' cs::xs=>bif g==g' then
  (match nh e cs with
   |some (x,[])=>(jS s xs).bind λr=>some (x,r)
   |_=>none) else none
 | .fn f::s,v::xs=>bif v.N0 f then jS s xs else none
 |_,_=>none
def gN:(s:List PS)→vK s→List AV
 |[],_=>[]
 | .data g e::s,a=> .val g (cellsOf e (.arg false) a.1)::gN s a.2
 | .fn f::s,a=> .one (.fn f)::gN s a
theorem Ol {A:Rg}{hw:Nat→Nat}{w:World}:∀{t:CT}{cs r:List AC}{x:t.D},nh t cs=some (x,r)→∀{vs:List Value}{fp:List Nat},a6 (da A hw w) vs cs fp→ ∃v1 v2 f1 f2,vs=v1++v2∧fp=f1++f2∧a6 (da A hw w) v1 (cellsOf t (.arg false) x) f1∧a6 (da A hw w) v2 r f2:=by
 intro t
 have one:∀{y:AC}{ys:List AC}{vs:List Value}{fp:List Nat}{z:AC},a6 (da A hw w) vs (y::ys) fp→(∀v f,ef (da A hw w) v y f→ef (da A hw w) v z f)→
  ∃v1 v2 f1 f2,vs=v1++v2∧fp=f1++f2∧a6 (da A hw w) v1 [z] f1∧a6 (da A hw w) v2 ys f2:=by
  intro y ys vs fp z h hz
  cases vs with
  |nil=>exact h.elim
  |cons v vs=>
   obtain⟨f1,f2,rfl,h1,h2⟩:=h
   exact⟨[v],vs,f1,f2,rfl,rfl,⟨f1,[],by simp,hz v f1 h1,rfl⟩,h2⟩
 induction t with
 |int k=>intro cs r x h vs fp hr;cases cs with|nil=>simp[nh]at h|cons y ys=>cases y<;>simp[nh]at h;obtain⟨rfl,rfl,rfl⟩:=h;exact one hr λv f h=>h
 |bool=>intro cs r x h vs fp hr;cases cs with|nil=>simp[nh]at h|cons y ys=>cases y<;>simp[nh]at h;obtain⟨rfl,rfl⟩:=h;exact one hr λv f h=>h
 |str=>intro cs r x h vs fp hr;cases cs with|nil=>simp[nh]at h|cons y ys=>cases y<;>simp[nh]at h;obtain⟨rfl,rfl⟩:=h;exact one hr λv f h=>h
 |sl e _=>
  intro cs r x h vs fp hr;cases cs with
  |nil=>simp[nh]at h
  |cons y ys=>
   cases y with
   |sl fl e' xs=>
    cases fl with
    |arg k=>cases k with|true=>simp[nh]at h|false=>simp only[nh]at h;split at h;rename_i he;subst he;cases h;exact one hr λv f h=>h;cases h
    |own t=>simp[nh]at h
    |nest _ _ _ _ _ _=>simp[nh]at h
    |part _ _ _ _=>simp[nh]at h
    |holed _ _ _=>simp[nh]at h
    |loc ep pv=>simp[nh]at h
   |nilsl=>simp[nh]at h;obtain⟨rfl,rfl⟩:=h;refine one hr λv f h=>?_;obtain⟨rfl,rfl⟩:=h;exact⟨rfl,_,rfl,.inl ⟨⟨none,rfl⟩,rfl⟩⟩
   |_=>simp[nh]at h
 |pair a b iha ihb=>intro cs r x h vs fp hr;simp only[nh]at h;obtain⟨⟨x1,r1⟩,h1,h⟩:=aB.1 h;obtain⟨⟨x2,r2⟩,h2,h⟩:=aB.1 h;cases h;obtain⟨v1,v2,f1,f2,rfl,rfl,k1,k2⟩:=iha h1 hr;obtain⟨v3,v4,f3,f4,rfl,rfl,k3,k4⟩:=ihb h2 k2;exact⟨v1++v3,v4,f1++f3,f4,by simp,by simp,by simpa[cellsOf]using a6.append k1 k3,k4⟩
theorem EJ {v:AV}{f:Nat}(h:v.N0 f=true):v=.one (.fn f):=by
 unfold AV.N0 at h;split at h;rename_i f';have:f=f':=by simpa using h
 subst this;rfl;cases h
theorem K1 {v:AV}(h:v.MO=true):v=.bot:=by unfold AV.MO at h;split at h;rfl;cases h
theorem K3 {v:AV}{s off:Nat}(h:v.MP s off=true):v=.one (.ptr s off):=by unfold AV.MP at h;split at h;simp only[ai,aS]at h;obtain⟨rfl,rfl⟩:=h;rfl;cases h
theorem lK {A:Rg}{w:World}:∀{s:List PS}{xs:List AV}{a:vK s},jS s xs=some a→∀{vs:List Value},iy A w vs xs→iy A w vs (gN s a)
 |[],[],a,_,vs,h=>h
 |[],_::_,_,h,_,_=>by simp[jS]at h
 | .data g e::s,[],_,h,_,_=>by simp[jS]at h
 | .data g e::s,.tup _::xs,_,h,_,_=>by simp[jS]at h
 | .data g e::s,.val g' cs::xs,a,h,vs,hr=>by
  simp only[jS]at h;cases hg:g==g' with
  |false=>rw[hg]at h;cases h
  |true=>
   rw[hg]at h;simp only[ae]at h;have hg':g=g':=by simpa using hg
   subst hg';split at h;rename_i x hx;obtain⟨r,hr',h⟩:=aB.1 h;cases h;cases vs with
   |nil=>exact hr.elim
   |cons v vs=>
    obtain⟨⟨us,hcut,hu⟩,h2⟩:=hr;obtain⟨v1,v2,f1,f2,rfl,hf,k1,k2⟩:=Ol hx hu;have hv2:v2=[]:=by cases v2 with|nil=>rfl|cons _ _=>exact k2.elim
    subst hv2;have hf1:f1=[]:=by have:=hf.symm;simp at this;exact this.1
    subst hf1;rw[a8]at hcut;exact⟨⟨v1,hcut,k1⟩,lK hr' h2⟩
   cases h
 | .fn f::s,[],a,h,vs,hr=>by simp[jS]at h
 | .fn f::s,v::xs,a,h,vs,hr=>by simp only[jS]at h;cases hg:v.N0 f with|false=>rw[hg]at h;cases h|true=>rw[hg]at h;have:=EJ hg;subst this;cases vs with|nil=>exact hr.elim|cons v vs=>exact⟨hr.1,lK h hr.2⟩
def aA (s:List PS)(rs:List (Bool×FT))(F:vK s→Option (gD rs)):aM:={R:=gD rs,fn:=λxs=>aa (jS s xs) F,av:=rl rs}
theorem aI.of {P:Program}{f:Nat}{s:List PS}{rs:List (Bool×FT)}{G:List AV→Option (gD rs)}(h:aI P f {R:=gD rs,fn:=G,av:=rl rs}){F:vK s→Option (gD rs)}(hF:∀a,G (gN s a)=F a):aI P f (aA s rs F):=by
 intro xs y hy;simp only[aA]at hy y;cases ha:jS s xs with
 |none=>rw[ha]at hy;cases hy
 |some a=>
  rw[ha]at hy;have hy':G (gN s a)=some y:=by rw[hF a];exact hy
  have hh:=h (gN s a) y hy';exact⟨hh.1,λ_ _ A w vs hA hr=>hh.2.1 rfl rfl A w vs hA (lK ha hr),λh=>(by cases h),λh=>(by cases h),λh=>(by cases h)⟩
def Pr (s:List PS)(rs rs2:List (Bool×FT))(h:gD rs2=gD rs)(F:vK s→Option (Bool×gD rs)):aM:=
 {R:=Bool×gD rs,fn:=λxs=>aa (jS s xs) F,av:=λy=>rl rs y.2,sel:=λy=>y.1,alt:=λy=>rl rs2 (cast h.symm y.2)}
theorem aI.ofAlt {P:Program}{f:Nat}{s:List PS}{rs rs2:List (Bool×FT)}{h2:gD rs2=gD rs}{G:List AV→Option (Bool×gD rs)}(h:aI P f {R:=Bool×gD rs,fn:=G,av:=λy=>rl rs y.2,sel:=λy=>y.1,alt:=λy=>rl rs2 (cast h2.symm y.2)}){F:vK s→Option (Bool×gD rs)}(hF:∀a,G (gN s a)=F a):aI P f (Pr s rs rs2 h2 F):=by
 intro xs y hy;simp only[Pr]at hy y;cases ha:jS s xs with
 |none=>rw[ha]at hy;cases hy
 |some a=>
  rw[ha]at hy;have hy':G (gN s a)=some y:=by rw[hF a];exact hy
  have hh:=h (gN s a) y hy';exact⟨hh.1,λ_ _ A w vs hA hr=>hh.2.1 rfl rfl A w vs hA (lK ha hr),λh=>(by cases h),λh=>(by cases h),λh=>(by cases h)⟩
def uh (t:CT)(gg:Bool)(s:List PS)(rs:List (Bool×FT))(F:t.D→vK s→Option (gD rs×t.D)):aM:=
 {R:=gD rs×t.D,fn:=λxs=>match xs with
  | .val g cs::rest=>bif gg==g then(match eS t cs with|some (x,[])=>aa (jS s rest) (F x)|_=>none) else none
  |_=>none,av:=λy=>rl rs y.1,io:=true,back:=λy=>cellsOf t (.own none) y.2}
theorem aI.C2 {P:Program}{f:Nat}{t:CT}{gg:Bool}{s:List PS}{rs:List (Bool×FT)}{G:List AV→Option (gD rs×t.D)}(h:aI P f {R:=gD rs×t.D,fn:=G,av:=λy=>rl rs y.1,io:=true,back:=λy=>cellsOf t (.own none) y.2}){F:t.D→vK s→Option (gD rs×t.D)}(hF:∀x a,G (.val gg (cellsOf t (.own none) x)::gN s a)=F x a):aI P f (uh t gg s rs F):=by
 intro xs y hy;simp only[uh]at hy y;split at hy;rename_i g cs rest;cases hg:(gg==g)with
 |false=>rw[hg]at hy;cases hy
 |true=>
  rw[hg]at hy;have:gg=g:=by simpa using hg
  subst this;simp only[ae]at hy;split at hy;rename_i x hx;cases ha:jS s rest with
  |none=>rw[ha]at hy;cases hy
  |some a=>
   rw[ha]at hy;have hy':G (.val gg (cellsOf t (.own none) x)::gN s a)=some y:=by rw[hF x a];exact hy
   have hh:=h _ y hy';refine⟨hh.1,λh=>(by cases h),λ_ g0 cs0 rest0 he A w v0 vs hw fp hA hrel hn hlt hargs=>?_,λh=>(by cases h),λh=>(by cases h)⟩;injection he with he1 he2;injection he1 with he1 he3;subst he1;subst he2;subst he3;refine hh.2.2.1 rfl gg (cellsOf t (.own none) x) (gN s a) rfl A w v0 vs hw fp hA ?_ hn hlt (lK ha hargs);obtain⟨us,hcut,hrel⟩:=hrel;obtain⟨f1,f2,rfl,hown,hrest⟩:=jF hrel hx;have hnil:us.drop t.size=[]:=by cases hd:us.drop t.size with|nil=>rfl|cons _ _=>rw[hd]at hrest;exact hrest.elim
   rw[hnil]at hrest;have hf2:f2=[]:=hrest;subst hf2;have htake:us.take t.size=us:=by have:=bA t.size us;rw[hnil,a8]at this;exact this
   rw[htake]at hown;rw[a8];exact⟨us,hcut,ml (c:=da A hw w) hown⟩
  cases hy
 cases hy
def FT.yh:FT→Bool
 | .sl .arg _=>true
 | .sl .arg0 _=>true
 | .sl _ _=>false
 | .pair a b=>a.yh&&b.yh
 |_=>true
theorem vL:∀{t:FT},t.yh=true→∀x:t.ct.D,(fz t x).all AC.yh=true
 | .int _,_,_=>rfl
 | .bool,_,_=>rfl
 | .str,_,_=>rfl
 | .sl fl e,h,_=>by cases fl<;>first|rfl|cases h
 | .pair a b,h,x=>by simp only[FT.yh,ai]at h;simp only[fz,List.all_append,ai];exact⟨vL h.1 x.1,vL h.2 x.2⟩
def Gg (t:FT)(s:List PS)(rs:List (Bool×FT))(F:t.ct.D→vK s→Option (gD rs×t.ct.D)):aM:=
 {R:=gD rs×t.ct.D,fn:=λxs=>match xs with
  | .val true cs::rest=>(match Bm t cs with|some (x,[])=>aa (jS s rest) (F x)|_=>none)
  |_=>none,av:=λy=>rl rs y.1,back:=λy=>fz t y.2,bx:=true,cur:=t.yh,hcur:=λh y=>vL h y.2}
theorem aI.TC {P:Program}{f:Nat}{t:FT}{s:List PS}{rs:List (Bool×FT)}{G:List AV→Option (gD rs×t.ct.D)}(h:aI P f {R:=gD rs×t.ct.D,fn:=G,av:=λy=>rl rs y.1,back:=λy=>fz t y.2,bx:=true}){F:t.ct.D→vK s→Option (gD rs×t.ct.D)}(hF:∀x a,G (.val true (fz t x)::gN s a)=F x a):aI P f (Gg t s rs F):=by
 intro xs y hy;simp only[Gg]at hy y;split at hy;rename_i cs rest;split at hy;rename_i x hx;cases ha:jS s rest with
 |none=>rw[ha]at hy;cases hy
 |some a=>
  rw[ha]at hy;have hy':G (.val true (fz t x)::gN s a)=some y:=by rw[hF x a];exact hy
  have hsp:=qG hx;rw[a8]at hsp;have hh:=h _ y hy';refine⟨hh.1,λ_ h=>(by cases h),λh=>(by cases h),λ_ cs0 rest0 he A w b vs arr T fr hw fp hA hblk hth hrel hn hnb hlt hw0 hargs=>?_,λh=>(by cases h)⟩;injection he with he1 he2;injection he1 with _ he3;subst he2;subst he3;rw[hsp]at hrel;exact hh.2.2.2.1 rfl (fz t x) (gN s a) rfl A w b vs arr T fr hw fp hA hblk hth hrel hn hnb hlt hw0 (lK ha hargs)
 cases hy;cases hy
def Ps (t:FT)(s:List PS)(F:vK s→Option t.ct.D):aM:=
 {R:=t.ct.D,fn:=λxs=>aa (jS s xs) F,av:=λ_=> .bot,back:=λy=>fz t y,pr:=true}
theorem aI.aji {P:Program}{f:Nat}{t:FT}{s:List PS}{G:List AV→Option t.ct.D}(h:aI P f {R:=t.ct.D,fn:=G,av:=λ_=> .bot,back:=λy=>fz t y,pr:=true}){F:vK s→Option t.ct.D}(hF:∀a,G (gN s a)=F a):aI P f (Ps t s F):=by
 intro xs y hy;simp only[Ps]at hy y;cases ha:jS s xs with
 |none=>rw[ha]at hy;cases hy
 |some a=>
  rw[ha]at hy;have hy':G (gN s a)=some y:=by rw[hF a];exact hy
  have hh:=h _ y hy';exact⟨hh.1,λh1 h2 A w vs hA hr=>hh.2.1 h1 h2 A w vs hA (lK ha hr),λh=>(by cases h),λh=>(by cases h),λ_ A w vs hA hr=>hh.2.2.2.2 rfl A w vs hA (lK ha hr)⟩
theorem EO {R σ:Type}{key:List Nat}{B:AS→(Ex→AS→Option R)→Option R}{K:Ex→AS→Option R}(enc:σ→AS)(T:(σ→Option R)→σ→Option R)
 (h:∀m x,vI key B (m+1) (enc x) K=T (λy=>vI key B m (enc y) K) x):∀m x,vI key B m (enc x) K=aV T m x
 |0,_=>rfl
 |m+1,x=>by rw[h m x];have:(λy=>vI key B m (enc y) K)=aV T m:=funext λy=>EO enc T h m y;rw[this];rfl
theorem mS:∀{l:List PD}{vs:List AV}{x:Ad l},fW l vs=some x→vs=mT l x
 |[],[],_,_=>rfl
 |[],_::_,_,h=>by simp[fW]at h
 | .data g t::l,[],_,h=>by simp[fW]at h
 | .data g t::l,.tup _::vs,_,h=>by simp[fW]at h
 | .data g t::l,.val g' cs::vs,x,h=>by
  simp only[fW]at h;cases hg:g==g' with
  |false=>rw[hg]at h;cases h
  |true=>
   rw[hg]at h;simp only[ae]at h;have hg':g=g':=by simpa using hg
   subst hg';split at h;rename_i y hy;obtain⟨r,hr,h⟩:=aB.1 h;cases h;have h1:=qG hy;rw[a8]at h1;rw[mT,h1,mS hr];cases h
 | .bot::l,[],x,h=>by simp[fW]at h
 | .ptr s off::l,[],x,h=>by simp[fW]at h
 | .fn f::l,[],x,h=>by simp[fW]at h
 | .bot::l,v::vs,x,h=>by simp only[fW]at h;cases hg:v.MO with|false=>rw[hg]at h;cases h|true=>rw[hg]at h;rw[K1 hg,mT,mS (l:=l) h]
 | .ptr s off::l,v::vs,x,h=>by simp only[fW]at h;cases hg:v.MP s off with|false=>rw[hg]at h;cases h|true=>rw[hg]at h;rw[K3 hg,mT,mS (l:=l) h]
 | .fn f::l,v::vs,x,h=>by simp only[fW]at h;cases hg:v.N0 f with|false=>rw[hg]at h;cases h|true=>rw[hg]at h;rw[EJ hg,mT,mS (l:=l) h]
theorem tP:∀{l:List (Option FT)}{bs:List (Option (List AC))}{x:zv l},ln l bs=some x→bs=ug l x
 |[],[],_,_=>rfl
 |[],_::_,_,h=>by simp[ln]at h
 |some t::l,[],_,h=>by simp[ln]at h
 |none::l,[],_,h=>by simp[ln]at h
 |some t::l,none::bs,_,h=>by simp[ln]at h
 |none::l,some _::bs,_,h=>by simp[ln]at h
 |none::l,none::bs,x,h=>by simp only[ln]at h;rw[ug,tP h]
 |some t::l,some cs::bs,x,h=>by simp only[ln]at h;split at h;rename_i y hy;obtain⟨r,hr,h⟩:=aB.1 h;cases h;have h1:=qG hy;rw[a8]at h1;rw[ug,h1,tP hr];cases h
theorem Kv:∀{o:X0}{cs:List AC}{x:ioD o},H3 o cs=some x→cs=Pq o x
 | .none,[],_,_=>rfl
 | .none,_::_,_,h=>by simp[H3]at h
 | .ptr,cs,x,h=>by simp only[H3]at h;cases hp:K2 cs with|false=>rw[hp]at h;cases h|true=>unfold K2 at hp;split at hp;rfl;cases hp
 | .some t,cs,x,h=>by simp only[H3]at h;split at h;rename_i y hy;cases h;have h1:=qG hy;rw[a8]at h1;rw[Pq,h1];cases h
theorem SD.H4 {d:SD}{st:AS}{x:d.D}(h:d.dec st=some x):st=d.enc x:=by unfold SD.dec at h;cases hc:(st.ep==0&&st.iss==List.replicate d.slots.length false)with|false=>rw[hc]at h;cases h|true=>rw[hc]at h;simp only[ae]at h;obtain⟨y,hy,h⟩:=aB.1 h;obtain⟨z,hz,h⟩:=aB.1 h;obtain⟨u,hu,h⟩:=aB.1 h;cases h;simp only[ai,aS]at hc;cases st with|mk slots boxes ep iss io=>simp only at hc hy hz hu;obtain⟨rfl,rfl⟩:=hc;rw[mS hy,tP hz,Kv hu];rfl
theorem lok {E:Env}{Γ:bL}{an:An}{Λ:cg}{c:Code}(l:bQ)(h1:Λ (dw c)=l)(n:Nat)(h2:∀(R:Type)(x:l.sd.D)(K:Ex→AS→Option R),l.run x K=vI (an.mask (dw c)) (den E Γ an Λ c) n (l.sd.enc x) K):ee E Γ an Λ c:=by refine⟨n,λR st K r h=>?_⟩;rw[h1]at h;unfold bQ.go at h;cases hd:l.sd.dec st with|none=>rw[hd]at h;cases h|some x=>rw[hd]at h;rw[SD.H4 hd,←h2];exact h
theorem cok {E:Env}{Γ:bL}{an:An}{Λ:cg}{c:Code}(l:bQ)(h1:Λ (vN c)=l)(h2:∀(R:Type)(x:l.sd.D)(K:Ex→AS→Option R),l.run x K=den E Γ an Λ c (l.sd.enc x) (λe st'=>K e (st'.mask (an.mask (vN c+1))))):XZ E Γ an Λ c:=by intro R st K r h;rw[h1]at h;unfold bQ.go at h;cases hd:l.sd.dec st with|none=>rw[hd]at h;cases h|some x=>rw[hd]at h;rw[SD.H4 hd,←h2];exact h
end Go.Dn
