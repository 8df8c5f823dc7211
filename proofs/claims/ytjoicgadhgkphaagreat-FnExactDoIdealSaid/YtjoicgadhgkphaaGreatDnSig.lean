import Derived.Test.YtjoicgadhgkphaaGreatDnLaw
/- Functions by the data that they take; loops by the data that they keep. -/
namespace Go.Dn
inductive PS where
 |data (g:Bool) (t:CT)|fn (f:Nat)
abbrev vi:List PS→Type
 |[]=>Unit
 | .data _ t::r=>t.D×vi r
 | .fn _::r=>vi r
def mX:(t:CT)→List AC→Option (t.D×List AC)
 | .int k,.int k' n::r=>if k'=k then some (n,r) else none
 | .bool,.bool b::r=>some (b,r)
 | .str,.str s::r=>some (s,r)
 | .sl e,.sl (.arg false) e' xs::r=>if h:e'=e then some (h▸xs,r) else none
 | .sl _,.nilsl::r=>some ([],r)
 | .pair a b,cs=>(mX a cs).bind λx=>(mX b x.2).bind λy=>some ((x.1,y.1),y.2)
 |_,_=>none
def jP:(s:List PS)→List AV→Option (vi s)
 |[],[]=>some ()
 | .data g e::s,.val g' cs::xs=>bif g==g' then
  (match mX e cs with
   |some (x,[])=>(jP s xs).bind λr=>some (x,r)
   |_=>none) else none
 | .fn f::s,v::xs=>bif v.Nm f then jP s xs else none
 |_,_=>none
def gM:(s:List PS)→vi s→List AV
 |[],_=>[]
 | .data g e::s,a=> .val g (cellsOf e (.arg false) a.1)::gM s a.2
 | .fn f::s,a=> .one (.fn f)::gM s a
theorem NJ {A:Rg}{hw:Nat→Nat}{w:World}:∀{t:CT}{cs r:List AC}{x:t.D},mX t cs=some (x,r)→∀{vs:List Value}{fp:List Nat},a5 (c8 A hw w) vs cs fp→ ∃v1 v2 f1 f2,vs=v1++v2∧fp=f1++f2∧a5 (c8 A hw w) v1 (cellsOf t (.arg false) x) f1∧a5 (c8 A hw w) v2 r f2:=by
 intro t
 have one:∀{y:AC}{ys:List AC}{vs:List Value}{fp:List Nat}{z:AC},a5 (c8 A hw w) vs (y::ys) fp→(∀v f,ec (c8 A hw w) v y f→ec (c8 A hw w) v z f)→
  ∃v1 v2 f1 f2,vs=v1++v2∧fp=f1++f2∧a5 (c8 A hw w) v1 [z] f1∧a5 (c8 A hw w) v2 ys f2:=by
  intro y ys vs fp z h hz
  cases vs with
  |nil=>exact h.elim
  |cons v vs=>
   obtain⟨f1,f2,rfl,h1,h2⟩:=h
   exact⟨[v],vs,f1,f2,rfl,rfl,⟨f1,[],by simp,hz v f1 h1,rfl⟩,h2⟩
 induction t with
 |int k=>intro cs r x h vs fp hr;cases cs with|nil=>simp[mX]at h|cons y ys=>cases y<;>simp[mX]at h;obtain⟨rfl,rfl,rfl⟩:=h;exact one hr λv f h=>h
 |bool=>intro cs r x h vs fp hr;cases cs with|nil=>simp[mX]at h|cons y ys=>cases y<;>simp[mX]at h;obtain⟨rfl,rfl⟩:=h;exact one hr λv f h=>h
 |str=>intro cs r x h vs fp hr;cases cs with|nil=>simp[mX]at h|cons y ys=>cases y<;>simp[mX]at h;obtain⟨rfl,rfl⟩:=h;exact one hr λv f h=>h
 |sl e _=>
  intro cs r x h vs fp hr;cases cs with
  |nil=>simp[mX]at h
  |cons y ys=>
   cases y with
   |sl fl e' xs=>
    cases fl with
    |arg k=>cases k with|true=>simp[mX]at h|false=>simp only[mX]at h;split at h;rename_i he;subst he;cases h;exact one hr λv f h=>h;cases h
    |own t=>simp[mX]at h
    |nest _ _ _ _ _ _=>simp[mX]at h
    |part _ _ _ _=>simp[mX]at h
    |holed _ _ _=>simp[mX]at h
    |loc ep pv=>simp[mX]at h
   |nilsl=>simp[mX]at h;obtain⟨rfl,rfl⟩:=h;refine one hr λv f h=>?_;obtain⟨rfl,rfl⟩:=h;exact⟨rfl,_,rfl,.inl ⟨⟨none,rfl⟩,rfl⟩⟩
   |_=>simp[mX]at h
 |pair a b iha ihb=>intro cs r x h vs fp hr;simp only[mX]at h;obtain⟨⟨x1,r1⟩,h1,h⟩:=aB.1 h;obtain⟨⟨x2,r2⟩,h2,h⟩:=aB.1 h;cases h;obtain⟨v1,v2,f1,f2,rfl,rfl,k1,k2⟩:=iha h1 hr;obtain⟨v3,v4,f3,f4,rfl,rfl,k3,k4⟩:=ihb h2 k2;exact⟨v1++v3,v4,f1++f3,f4,by simp,by simp,by simpa[cellsOf]using a5.append k1 k3,k4⟩
theorem Ed {v:AV}{f:Nat}(h:v.Nm f=true):v=.one (.fn f):=by
 unfold AV.Nm at h;split at h;rename_i f';have:f=f':=by simpa using h
 subst this;rfl;cases h
theorem Kr {v:AV}(h:v.Md=true):v=.bot:=by unfold AV.Md at h;split at h;rfl;cases h
theorem Kt {v:AV}{s off:Nat}(h:v.Me s off=true):v=.one (.ptr s off):=by unfold AV.Me at h;split at h;simp only[ai,aR]at h;obtain⟨rfl,rfl⟩:=h;rfl;cases h
theorem lB {A:Rg}{w:World}:∀{s:List PS}{xs:List AV}{a:vi s},jP s xs=some a→∀{vs:List Value},iv A w vs xs→iv A w vs (gM s a)
 |[],[],a,_,vs,h=>h
 |[],_::_,_,h,_,_=>by simp[jP]at h
 | .data g e::s,[],_,h,_,_=>by simp[jP]at h
 | .data g e::s,.tup _::xs,_,h,_,_=>by simp[jP]at h
 | .data g e::s,.val g' cs::xs,a,h,vs,hr=>by
  simp only[jP]at h;cases hg:g==g' with
  |false=>rw[hg]at h;cases h
  |true=>
   rw[hg]at h;simp only[ae]at h;have hg':g=g':=by simpa using hg
   subst hg';split at h;rename_i x hx;obtain⟨r,hr',h⟩:=aB.1 h;cases h;cases vs with
   |nil=>exact hr.elim
   |cons v vs=>
    obtain⟨⟨us,hcut,hu⟩,h2⟩:=hr;obtain⟨v1,v2,f1,f2,rfl,hf,k1,k2⟩:=NJ hx hu;have hv2:v2=[]:=by cases v2 with|nil=>rfl|cons _ _=>exact k2.elim
    subst hv2;have hf1:f1=[]:=by have:=hf.symm;simp at this;exact this.1
    subst hf1;rw[a7]at hcut;exact⟨⟨v1,hcut,k1⟩,lB hr' h2⟩
   cases h
 | .fn f::s,[],a,h,vs,hr=>by simp[jP]at h
 | .fn f::s,v::xs,a,h,vs,hr=>by simp only[jP]at h;cases hg:v.Nm f with|false=>rw[hg]at h;cases h|true=>rw[hg]at h;have:=Ed hg;subst this;cases vs with|nil=>exact hr.elim|cons v vs=>exact⟨hr.1,lB h hr.2⟩
def aA (s:List PS)(rs:List (Bool×FT))(F:vi s→Option (gC rs)):aN:={R:=gC rs,fn:=λxs=>aa (jP s xs) F,av:=qM rs}
theorem aJ.of {P:Program}{f:Nat}{s:List PS}{rs:List (Bool×FT)}{G:List AV→Option (gC rs)}(h:aJ P f {R:=gC rs,fn:=G,av:=qM rs}){F:vi s→Option (gC rs)}(hF:∀a,G (gM s a)=F a):aJ P f (aA s rs F):=by
 intro xs y hy;simp only[aA]at hy y;cases ha:jP s xs with
 |none=>rw[ha]at hy;cases hy
 |some a=>
  rw[ha]at hy;have hy':G (gM s a)=some y:=by rw[hF a];exact hy
  have hh:=h (gM s a) y hy';exact⟨hh.1,λ_ _ A w vs hA hr=>hh.2.1 rfl rfl A w vs hA (lB ha hr),λh=>(by cases h),λh=>(by cases h),λh=>(by cases h)⟩
def OL (s:List PS)(rs rs2:List (Bool×FT))(h:gC rs2=gC rs)(F:vi s→Option (Bool×gC rs)):aN:=
 {R:=Bool×gC rs,fn:=λxs=>aa (jP s xs) F,av:=λy=>qM rs y.2,sel:=λy=>y.1,alt:=λy=>qM rs2 (cast h.symm y.2)}
theorem aJ.ofAlt {P:Program}{f:Nat}{s:List PS}{rs rs2:List (Bool×FT)}{h2:gC rs2=gC rs}{G:List AV→Option (Bool×gC rs)}(h:aJ P f {R:=Bool×gC rs,fn:=G,av:=λy=>qM rs y.2,sel:=λy=>y.1,alt:=λy=>qM rs2 (cast h2.symm y.2)}){F:vi s→Option (Bool×gC rs)}(hF:∀a,G (gM s a)=F a):aJ P f (OL s rs rs2 h2 F):=by
 intro xs y hy;simp only[OL]at hy y;cases ha:jP s xs with
 |none=>rw[ha]at hy;cases hy
 |some a=>
  rw[ha]at hy;have hy':G (gM s a)=some y:=by rw[hF a];exact hy
  have hh:=h (gM s a) y hy';exact⟨hh.1,λ_ _ A w vs hA hr=>hh.2.1 rfl rfl A w vs hA (lB ha hr),λh=>(by cases h),λh=>(by cases h),λh=>(by cases h)⟩
def uX (t:CT)(gg:Bool)(s:List PS)(rs:List (Bool×FT))(F:t.D→vi s→Option (gC rs×t.D)):aN:=
 {R:=gC rs×t.D,fn:=λxs=>match xs with
  | .val g cs::rest=>bif gg==g then(match eQ t cs with|some (x,[])=>aa (jP s rest) (F x)|_=>none) else none
  |_=>none,av:=λy=>qM rs y.1,io:=true,back:=λy=>cellsOf t (.own none) y.2}
theorem aJ.Dw {P:Program}{f:Nat}{t:CT}{gg:Bool}{s:List PS}{rs:List (Bool×FT)}{G:List AV→Option (gC rs×t.D)}(h:aJ P f {R:=gC rs×t.D,fn:=G,av:=λy=>qM rs y.1,io:=true,back:=λy=>cellsOf t (.own none) y.2}){F:t.D→vi s→Option (gC rs×t.D)}(hF:∀x a,G (.val gg (cellsOf t (.own none) x)::gM s a)=F x a):aJ P f (uX t gg s rs F):=by
 intro xs y hy;simp only[uX]at hy y;split at hy;rename_i g cs rest;cases hg:(gg==g)with
 |false=>rw[hg]at hy;cases hy
 |true=>
  rw[hg]at hy;have:gg=g:=by simpa using hg
  subst this;simp only[ae]at hy;split at hy;rename_i x hx;cases ha:jP s rest with
  |none=>rw[ha]at hy;cases hy
  |some a=>
   rw[ha]at hy;have hy':G (.val gg (cellsOf t (.own none) x)::gM s a)=some y:=by rw[hF x a];exact hy
   have hh:=h _ y hy';refine⟨hh.1,λh=>(by cases h),λ_ g0 cs0 rest0 he A w v0 vs hw fp hA hrel hn hlt hargs=>?_,λh=>(by cases h),λh=>(by cases h)⟩;injection he with he1 he2;injection he1 with he1 he3;subst he1;subst he2;subst he3;refine hh.2.2.1 rfl gg (cellsOf t (.own none) x) (gM s a) rfl A w v0 vs hw fp hA ?_ hn hlt (lB ha hargs);obtain⟨us,hcut,hrel⟩:=hrel;obtain⟨f1,f2,rfl,hown,hrest⟩:=jB hrel hx;have hnil:us.drop t.size=[]:=by cases hd:us.drop t.size with|nil=>rfl|cons _ _=>rw[hd]at hrest;exact hrest.elim
   rw[hnil]at hrest;have hf2:f2=[]:=hrest;subst hf2;have htake:us.take t.size=us:=by have:=bA t.size us;rw[hnil,a7]at this;exact this
   rw[htake]at hown;rw[a7];exact⟨us,hcut,l8 (c:=c8 A hw w) hown⟩
  cases hy
 cases hy
def FT.xJ:FT→Bool
 | .sl .arg _=>true
 | .sl .arg0 _=>true
 | .sl _ _=>false
 | .pair a b=>a.xJ&&b.xJ
 |_=>true
theorem vk:∀{t:FT},t.xJ=true→∀x:t.ct.D,(fw t x).all AC.xJ=true
 | .int _,_,_=>rfl
 | .bool,_,_=>rfl
 | .str,_,_=>rfl
 | .sl fl e,h,_=>by cases fl<;>first|rfl|cases h
 | .pair a b,h,x=>by simp only[FT.xJ,ai]at h;simp only[fw,List.all_append,ai];exact⟨vk h.1 x.1,vk h.2 x.2⟩
def FO (t:FT)(s:List PS)(rs:List (Bool×FT))(F:t.ct.D→vi s→Option (gC rs×t.ct.D)):aN:=
 {R:=gC rs×t.ct.D,fn:=λxs=>match xs with
  | .val true cs::rest=>(match AE t cs with|some (x,[])=>aa (jP s rest) (F x)|_=>none)
  |_=>none,av:=λy=>qM rs y.1,back:=λy=>fw t y.2,bx:=true,cur:=t.xJ,hcur:=λh y=>vk h y.2}
theorem aJ.SS {P:Program}{f:Nat}{t:FT}{s:List PS}{rs:List (Bool×FT)}{G:List AV→Option (gC rs×t.ct.D)}(h:aJ P f {R:=gC rs×t.ct.D,fn:=G,av:=λy=>qM rs y.1,back:=λy=>fw t y.2,bx:=true}){F:t.ct.D→vi s→Option (gC rs×t.ct.D)}(hF:∀x a,G (.val true (fw t x)::gM s a)=F x a):aJ P f (FO t s rs F):=by
 intro xs y hy;simp only[FO]at hy y;split at hy;rename_i cs rest;split at hy;rename_i x hx;cases ha:jP s rest with
 |none=>rw[ha]at hy;cases hy
 |some a=>
  rw[ha]at hy;have hy':G (.val true (fw t x)::gM s a)=some y:=by rw[hF x a];exact hy
  have hsp:=ql hx;rw[a7]at hsp;have hh:=h _ y hy';refine⟨hh.1,λ_ h=>(by cases h),λh=>(by cases h),λ_ cs0 rest0 he A w b vs arr T fr hw fp hA hblk hth hrel hn hnb hlt hw0 hargs=>?_,λh=>(by cases h)⟩;injection he with he1 he2;injection he1 with _ he3;subst he2;subst he3;rw[hsp]at hrel;exact hh.2.2.2.1 rfl (fw t x) (gM s a) rfl A w b vs arr T fr hw fp hA hblk hth hrel hn hnb hlt hw0 (lB ha hargs)
 cases hy;cases hy
def OM (t:FT)(s:List PS)(F:vi s→Option t.ct.D):aN:=
 {R:=t.ct.D,fn:=λxs=>aa (jP s xs) F,av:=λ_=> .bot,back:=λy=>fw t y,pr:=true}
theorem aJ.ah1 {P:Program}{f:Nat}{t:FT}{s:List PS}{G:List AV→Option t.ct.D}(h:aJ P f {R:=t.ct.D,fn:=G,av:=λ_=> .bot,back:=λy=>fw t y,pr:=true}){F:vi s→Option t.ct.D}(hF:∀a,G (gM s a)=F a):aJ P f (OM t s F):=by
 intro xs y hy;simp only[OM]at hy y;cases ha:jP s xs with
 |none=>rw[ha]at hy;cases hy
 |some a=>
  rw[ha]at hy;have hy':G (gM s a)=some y:=by rw[hF a];exact hy
  have hh:=h _ y hy';exact⟨hh.1,λh1 h2 A w vs hA hr=>hh.2.1 h1 h2 A w vs hA (lB ha hr),λh=>(by cases h),λh=>(by cases h),λ_ A w vs hA hr=>hh.2.2.2.2 rfl A w vs hA (lB ha hr)⟩
theorem Ei {R σ:Type}{key:List Nat}{B:AS→(Ex→AS→Option R)→Option R}{K:Ex→AS→Option R}(enc:σ→AS)(T:(σ→Option R)→σ→Option R)
 (h:∀m x,vg key B (m+1) (enc x) K=T (λy=>vg key B m (enc y) K) x):∀m x,vg key B m (enc x) K=aW T m x
 |0,_=>rfl
 |m+1,x=>by rw[h m x];have:(λy=>vg key B m (enc y) K)=aW T m:=funext λy=>Ei enc T h m y;rw[this];rfl
theorem mH:∀{l:List PD}{vs:List AV}{x:zC l},fT l vs=some x→vs=mI l x
 |[],[],_,_=>rfl
 |[],_::_,_,h=>by simp[fT]at h
 | .data g t::l,[],_,h=>by simp[fT]at h
 | .data g t::l,.tup _::vs,_,h=>by simp[fT]at h
 | .data g t::l,.val g' cs::vs,x,h=>by
  simp only[fT]at h;cases hg:g==g' with
  |false=>rw[hg]at h;cases h
  |true=>
   rw[hg]at h;simp only[ae]at h;have hg':g=g':=by simpa using hg
   subst hg';split at h;rename_i y hy;obtain⟨r,hr,h⟩:=aB.1 h;cases h;have h1:=ql hy;rw[a7]at h1;rw[mI,h1,mH hr];cases h
 | .bot::l,[],x,h=>by simp[fT]at h
 | .ptr s off::l,[],x,h=>by simp[fT]at h
 | .fn f::l,[],x,h=>by simp[fT]at h
 | .bot::l,v::vs,x,h=>by simp only[fT]at h;cases hg:v.Md with|false=>rw[hg]at h;cases h|true=>rw[hg]at h;rw[Kr hg,mI,mH (l:=l) h]
 | .ptr s off::l,v::vs,x,h=>by simp only[fT]at h;cases hg:v.Me s off with|false=>rw[hg]at h;cases h|true=>rw[hg]at h;rw[Kt hg,mI,mH (l:=l) h]
 | .fn f::l,v::vs,x,h=>by simp only[fT]at h;cases hg:v.Nm f with|false=>rw[hg]at h;cases h|true=>rw[hg]at h;rw[Ed hg,mI,mH (l:=l) h]
theorem tk:∀{l:List (Option FT)}{bs:List (Option (List AC))}{x:yS l},lg l bs=some x→bs=tH l x
 |[],[],_,_=>rfl
 |[],_::_,_,h=>by simp[lg]at h
 |some t::l,[],_,h=>by simp[lg]at h
 |none::l,[],_,h=>by simp[lg]at h
 |some t::l,none::bs,_,h=>by simp[lg]at h
 |none::l,some _::bs,_,h=>by simp[lg]at h
 |none::l,none::bs,x,h=>by simp only[lg]at h;rw[tH,tk h]
 |some t::l,some cs::bs,x,h=>by simp only[lg]at h;split at h;rename_i y hy;obtain⟨r,hr,h⟩:=aB.1 h;cases h;have h1:=ql hy;rw[a7]at h1;rw[tH,h1,tk hr];cases h
theorem JW:∀{o:Xc}{cs:List AC}{x:ioD o},Hy o cs=some x→cs=OK o x
 | .none,[],_,_=>rfl
 | .none,_::_,_,h=>by simp[Hy]at h
 | .ptr,cs,x,h=>by simp only[Hy]at h;cases hp:Ks cs with|false=>rw[hp]at h;cases h|true=>unfold Ks at hp;split at hp;rfl;cases hp
 | .some t,cs,x,h=>by simp only[Hy]at h;split at h;rename_i y hy;cases h;have h1:=ql hy;rw[a7]at h1;rw[OK,h1];cases h
theorem SD.Hz {d:SD}{st:AS}{x:d.D}(h:d.dec st=some x):st=d.enc x:=by unfold SD.dec at h;cases hc:(st.ep==0&&st.iss==List.replicate d.slots.length false)with|false=>rw[hc]at h;cases h|true=>rw[hc]at h;simp only[ae]at h;obtain⟨y,hy,h⟩:=aB.1 h;obtain⟨z,hz,h⟩:=aB.1 h;obtain⟨u,hu,h⟩:=aB.1 h;cases h;simp only[ai,aR]at hc;cases st with|mk slots boxes ep iss io=>simp only at hc hy hz hu;obtain⟨rfl,rfl⟩:=hc;rw[mH hy,tk hz,JW hu];rfl
theorem lok {E:Env}{Γ:bN}{an:An}{Λ:cl}{c:Code}(l:bU)(h1:Λ (du c)=l)(n:Nat)(h2:∀(R:Type)(x:l.sd.D)(K:Ex→AS→Option R),l.run x K=vg (an.mask (du c)) (den E Γ an Λ c) n (l.sd.enc x) K):eg E Γ an Λ c:=by refine⟨n,λR st K r h=>?_⟩;rw[h1]at h;unfold bU.go at h;cases hd:l.sd.dec st with|none=>rw[hd]at h;cases h|some x=>rw[hd]at h;rw[SD.Hz hd,←h2];exact h
theorem cok {E:Env}{Γ:bN}{an:An}{Λ:cl}{c:Code}(l:bU)(h1:Λ (vm c)=l)(h2:∀(R:Type)(x:l.sd.D)(K:Ex→AS→Option R),l.run x K=den E Γ an Λ c (l.sd.enc x) (λe st'=>K e (st'.mask (an.mask (vm c+1))))):Xb E Γ an Λ c:=by intro R st K r h;rw[h1]at h;unfold bU.go at h;cases hd:l.sd.dec st with|none=>rw[hd]at h;cases h|some x=>rw[hd]at h;rw[SD.Hz hd,←h2];exact h
end Go.Dn
