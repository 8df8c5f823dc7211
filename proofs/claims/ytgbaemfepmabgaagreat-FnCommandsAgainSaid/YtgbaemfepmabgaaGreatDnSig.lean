import Derived.Test.YtgbaemfepmabgaaGreatDnLaw
/- Functions by the data that they take; loops by the data that they keep. -/
namespace Go.Dn
inductive PS where
 |data (g:Bool) (t:CT)|fn (f:Nat)
abbrev sn:List PS→Type
 |[]=>Unit
 | .data _ t::r=>t.D×sn r
 | .fn _::r=>sn r
def kT:(t:CT)→List AC→Option (t.D×List AC)
 | .int k,.int k' n::r=>if k'=k then some (n,r) else none
 | .bool,.bool b::r=>some (b,r)
 | .str,.str s::r=>some (s,r)
 | .sl e,.sl (.arg false) e' xs::r=>if h:e'=e then some (h▸xs,r) else none
 | .sl _,.nilsl::r=>some ([],r)
 | .pair a b,cs=>(kT a cs).bind λx=>(kT b x.2).bind λy=>some ((x.1,y.1),y.2)
 |_,_=>none
def iz:(s:List PS)→List AV→Option (sn s)
 |[],[]=>some ()
 | .data g e::s,.val g' cs::xs=>bif g==g' then
  (match kT e cs with
   |some (x,[])=>(iz s xs).bind λr=>some (x,r)
   |_=>none) else none
 | .fn f::s,v::xs=>bif v.JB f then iz s xs else none
 |_,_=>none
def fQ:(s:List PS)→sn s→List AV
 |[],_=>[]
 | .data g e::s,a=> .val g (cellsOf e (.arg false) a.1)::fQ s a.2
 | .fn f::s,a=> .one (.fn f)::fQ s a
theorem J3 {A:Rg}{hw:Nat→Nat}{w:World}:∀{t:CT}{cs r:List AC}{x:t.D},kT t cs=some (x,r)→∀{vs:List Value}{fp:List Nat},aN (cL A hw w) vs cs fp→ ∃v1 v2 f1 f2,vs=v1++v2∧fp=f1++f2∧aN (cL A hw w) v1 (cellsOf t (.arg false) x) f1∧aN (cL A hw w) v2 r f2:=by
 intro t
 have one:∀{y:AC}{ys:List AC}{vs:List Value}{fp:List Nat}{z:AC},aN (cL A hw w) vs (y::ys) fp→(∀v f,dM (cL A hw w) v y f→dM (cL A hw w) v z f)→
  ∃v1 v2 f1 f2,vs=v1++v2∧fp=f1++f2∧aN (cL A hw w) v1 [z] f1∧aN (cL A hw w) v2 ys f2:=by
  intro y ys vs fp z h hz
  cases vs with
  |nil=>exact h.elim
  |cons v vs=>
   obtain⟨f1,f2,rfl,h1,h2⟩:=h
   exact⟨[v],vs,f1,f2,rfl,rfl,⟨f1,[],by simp,hz v f1 h1,rfl⟩,h2⟩
 induction t with
 |int k=>intro cs r x h vs fp hr;cases cs with|nil=>simp[kT]at h|cons y ys=>cases y<;>simp[kT]at h;obtain⟨rfl,rfl,rfl⟩:=h;exact one hr λv f h=>h
 |bool=>intro cs r x h vs fp hr;cases cs with|nil=>simp[kT]at h|cons y ys=>cases y<;>simp[kT]at h;obtain⟨rfl,rfl⟩:=h;exact one hr λv f h=>h
 |str=>intro cs r x h vs fp hr;cases cs with|nil=>simp[kT]at h|cons y ys=>cases y<;>simp[kT]at h;obtain⟨rfl,rfl⟩:=h;exact one hr λv f h=>h
 |sl e _=>
  intro cs r x h vs fp hr;cases cs with
  |nil=>simp[kT]at h
  |cons y ys=>
   cases y with
   |sl fl e' xs=>
    cases fl with
    |arg k=>cases k with|true=>simp[kT]at h|false=>simp only[kT]at h;split at h;rename_i he;subst he;cases h;exact one hr λv f h=>h;cases h
    |own t=>simp[kT]at h
    |nest _ _ _ _ _ _=>simp[kT]at h
    |part _ _ _ _=>simp[kT]at h
    |holed _ _ _=>simp[kT]at h
    |loc ep pv=>simp[kT]at h
   |nilsl=>simp[kT]at h;obtain⟨rfl,rfl⟩:=h;refine one hr λv f h=>?_;obtain⟨rfl,rfl⟩:=h;exact⟨rfl,_,rfl,.inl ⟨⟨none,rfl⟩,rfl⟩⟩
   |_=>simp[kT]at h
 |pair a b iha ihb=>intro cs r x h vs fp hr;simp only[kT]at h;obtain⟨⟨x1,r1⟩,h1,h⟩:=au.1 h;obtain⟨⟨x2,r2⟩,h2,h⟩:=au.1 h;cases h;obtain⟨v1,v2,f1,f2,rfl,rfl,k1,k2⟩:=iha h1 hr;obtain⟨v3,v4,f3,f4,rfl,rfl,k3,k4⟩:=ihb h2 k2;exact⟨v1++v3,v4,f1++f3,f4,by simp,by simp,by simpa[cellsOf]using aN.append k1 k3,k4⟩
theorem AU {v:AV}{f:Nat}(h:v.JB f=true):v=.one (.fn f):=by
 unfold AV.JB at h;split at h;rename_i f';have:f=f':=by simpa using h
 subst this;rfl;cases h
theorem G5 {v:AV}(h:v.It=true):v=.bot:=by unfold AV.It at h;split at h;rfl;cases h
theorem G7 {v:AV}{s off:Nat}(h:v.Iu s off=true):v=.one (.ptr s off):=by unfold AV.Iu at h;split at h;simp only[ab,aM]at h;obtain⟨rfl,rfl⟩:=h;rfl;cases h
theorem jP {A:Rg}{w:World}:∀{s:List PS}{xs:List AV}{a:sn s},iz s xs=some a→∀{vs:List Value},gD A w vs xs→gD A w vs (fQ s a)
 |[],[],a,_,vs,h=>h
 |[],_::_,_,h,_,_=>by simp[iz]at h
 | .data g e::s,[],_,h,_,_=>by simp[iz]at h
 | .data g e::s,.tup _::xs,_,h,_,_=>by simp[iz]at h
 | .data g e::s,.val g' cs::xs,a,h,vs,hr=>by
  simp only[iz]at h;cases hg:g==g' with
  |false=>rw[hg]at h;cases h
  |true=>
   rw[hg]at h;simp only[ah]at h;have hg':g=g':=by simpa using hg
   subst hg';split at h;rename_i x hx;obtain⟨r,hr',h⟩:=au.1 h;cases h;cases vs with
   |nil=>exact hr.elim
   |cons v vs=>
    obtain⟨⟨us,hcut,hu⟩,h2⟩:=hr;obtain⟨v1,v2,f1,f2,rfl,hf,k1,k2⟩:=J3 hx hu;have hv2:v2=[]:=by cases v2 with|nil=>rfl|cons _ _=>exact k2.elim
    subst hv2;have hf1:f1=[]:=by have:=hf.symm;simp at this;exact this.1
    subst hf1;rw[aU]at hcut;exact⟨⟨v1,hcut,k1⟩,jP hr' h2⟩
   cases h
 | .fn f::s,[],a,h,vs,hr=>by simp[iz]at h
 | .fn f::s,v::xs,a,h,vs,hr=>by simp only[iz]at h;cases hg:v.JB f with|false=>rw[hg]at h;cases h|true=>rw[hg]at h;have:=AU hg;subst this;cases vs with|nil=>exact hr.elim|cons v vs=>exact⟨hr.1,jP h hr.2⟩
def aP (s:List PS)(rs:List (Bool×FT))(F:sn s→Option (fL rs)):bd:={R:=fL rs,fn:=λxs=>aa (iz s xs) F,av:=oB rs}
theorem aR.of {P:Program}{f:Nat}{s:List PS}{rs:List (Bool×FT)}{G:List AV→Option (fL rs)}(h:aR P f {R:=fL rs,fn:=G,av:=oB rs}){F:sn s→Option (fL rs)}(hF:∀a,G (fQ s a)=F a):aR P f (aP s rs F):=by
 intro xs y hy;simp only[aP]at hy y;cases ha:iz s xs with
 |none=>rw[ha]at hy;cases hy
 |some a=>
  rw[ha]at hy;have hy':G (fQ s a)=some y:=by rw[hF a];exact hy
  have hh:=h (fQ s a) y hy';exact⟨hh.1,λ_ _ A w vs hA hr=>hh.2.1 rfl rfl A w vs hA (jP ha hr),λh=>(by cases h),λh=>(by cases h),λh=>(by cases h)⟩
def Ll (s:List PS)(rs rs2:List (Bool×FT))(h:fL rs2=fL rs)(F:sn s→Option (Bool×fL rs)):bd:=
 {R:=Bool×fL rs,fn:=λxs=>aa (iz s xs) F,av:=λy=>oB rs y.2,sel:=λy=>y.1,alt:=λy=>oB rs2 (cast h.symm y.2)}
theorem aR.ofAlt {P:Program}{f:Nat}{s:List PS}{rs rs2:List (Bool×FT)}{h2:fL rs2=fL rs}{G:List AV→Option (Bool×fL rs)}(h:aR P f {R:=Bool×fL rs,fn:=G,av:=λy=>oB rs y.2,sel:=λy=>y.1,alt:=λy=>oB rs2 (cast h2.symm y.2)}){F:sn s→Option (Bool×fL rs)}(hF:∀a,G (fQ s a)=F a):aR P f (Ll s rs rs2 h2 F):=by
 intro xs y hy;simp only[Ll]at hy y;cases ha:iz s xs with
 |none=>rw[ha]at hy;cases hy
 |some a=>
  rw[ha]at hy;have hy':G (fQ s a)=some y:=by rw[hF a];exact hy
  have hh:=h (fQ s a) y hy';exact⟨hh.1,λ_ _ A w vs hA hr=>hh.2.1 rfl rfl A w vs hA (jP ha hr),λh=>(by cases h),λh=>(by cases h),λh=>(by cases h)⟩
def O8 (t:CT)(gg:Bool)(s:List PS)(rs:List (Bool×FT))(F:t.D→sn s→Option (fL rs×t.D)):bd:=
 {R:=fL rs×t.D,fn:=λxs=>match xs with
  | .val g cs::rest=>bif gg==g then(match eu t cs with|some (x,[])=>aa (iz s rest) (F x)|_=>none) else none
  |_=>none,av:=λy=>oB rs y.1,io:=true,back:=λy=>cellsOf t (.own none) y.2}
theorem aR.aah {P:Program}{f:Nat}{t:CT}{gg:Bool}{s:List PS}{rs:List (Bool×FT)}{G:List AV→Option (fL rs×t.D)}(h:aR P f {R:=fL rs×t.D,fn:=G,av:=λy=>oB rs y.1,io:=true,back:=λy=>cellsOf t (.own none) y.2}){F:t.D→sn s→Option (fL rs×t.D)}(hF:∀x a,G (.val gg (cellsOf t (.own none) x)::fQ s a)=F x a):aR P f (O8 t gg s rs F):=by
 intro xs y hy;simp only[O8]at hy y;split at hy;rename_i g cs rest;cases hg:(gg==g)with
 |false=>rw[hg]at hy;cases hy
 |true=>
  rw[hg]at hy;have:gg=g:=by simpa using hg
  subst this;simp only[ah]at hy;split at hy;rename_i x hx;cases ha:iz s rest with
  |none=>rw[ha]at hy;cases hy
  |some a=>
   rw[ha]at hy;have hy':G (.val gg (cellsOf t (.own none) x)::fQ s a)=some y:=by rw[hF x a];exact hy
   have hh:=h _ y hy';refine⟨hh.1,λh=>(by cases h),λ_ g0 cs0 rest0 he A w v0 vs hw fp hA hrel hn hlt hargs=>?_,λh=>(by cases h),λh=>(by cases h)⟩;injection he with he1 he2;injection he1 with he1 he3;subst he1;subst he2;subst he3;refine hh.2.2.1 rfl gg (cellsOf t (.own none) x) (fQ s a) rfl A w v0 vs hw fp hA ?_ hn hlt (jP ha hargs);obtain⟨us,hcut,hrel⟩:=hrel;obtain⟨f1,f2,rfl,hown,hrest⟩:=ij hrel hx;have hnil:us.drop t.size=[]:=by cases hd:us.drop t.size with|nil=>rfl|cons _ _=>rw[hd]at hrest;exact hrest.elim
   rw[hnil]at hrest;have hf2:f2=[]:=hrest;subst hf2;have htake:us.take t.size=us:=by have:=bB t.size us;rw[hnil,aU]at this;exact this
   rw[htake]at hown;rw[aU];exact⟨us,hcut,kq (c:=cL A hw w) hown⟩
  cases hy
 cases hy
def FT.ur:FT→Bool
 | .sl .arg _=>true
 | .sl .arg0 _=>true
 | .sl _ _=>false
 | .pair a b=>a.ur&&b.ur
 |_=>true
theorem sr:∀{t:FT},t.ur=true→∀x:t.ct.D,(eR t x).all AC.ur=true
 | .int _,_,_=>rfl
 | .bool,_,_=>rfl
 | .str,_,_=>rfl
 | .sl fl e,h,_=>by cases fl<;>first|rfl|cases h
 | .pair a b,h,x=>by simp only[FT.ur,ab]at h;simp only[eR,List.all_append,ab];exact⟨sr h.1 x.1,sr h.2 x.2⟩
def fI (t:FT)(s:List PS)(rs:List (Bool×FT))(F:t.ct.D→sn s→Option (fL rs×t.ct.D)):bd:=
 {R:=fL rs×t.ct.D,fn:=λxs=>match xs with
  | .val true cs::rest=>(match xq t cs with|some (x,[])=>aa (iz s rest) (F x)|_=>none)
  |_=>none,av:=λy=>oB rs y.1,back:=λy=>eR t y.2,bx:=true,cur:=t.ur,hcur:=λh y=>sr h y.2}
theorem aR.kU {P:Program}{f:Nat}{t:FT}{s:List PS}{rs:List (Bool×FT)}{G:List AV→Option (fL rs×t.ct.D)}(h:aR P f {R:=fL rs×t.ct.D,fn:=G,av:=λy=>oB rs y.1,back:=λy=>eR t y.2,bx:=true}){F:t.ct.D→sn s→Option (fL rs×t.ct.D)}(hF:∀x a,G (.val true (eR t x)::fQ s a)=F x a):aR P f (fI t s rs F):=by
 intro xs y hy;simp only[fI]at hy y;split at hy;rename_i cs rest;split at hy;rename_i x hx;cases ha:iz s rest with
 |none=>rw[ha]at hy;cases hy
 |some a=>
  rw[ha]at hy;have hy':G (.val true (eR t x)::fQ s a)=some y:=by rw[hF x a];exact hy
  have hsp:=od hx;rw[aU]at hsp;have hh:=h _ y hy';refine⟨hh.1,λ_ h=>(by cases h),λh=>(by cases h),λ_ cs0 rest0 he A w b vs arr T fr hw fp hA hblk hth hrel hn hnb hlt hw0 hargs=>?_,λh=>(by cases h)⟩;injection he with he1 he2;injection he1 with _ he3;subst he2;subst he3;rw[hsp]at hrel;exact hh.2.2.2.1 rfl (eR t x) (fQ s a) rfl A w b vs arr T fr hw fp hA hblk hth hrel hn hnb hlt hw0 (jP ha hargs)
 cases hy;cases hy
def GI (t:FT)(s:List PS)(F:sn s→Option t.ct.D):bd:=
 {R:=t.ct.D,fn:=λxs=>aa (iz s xs) F,av:=λ_=> .bot,back:=λy=>eR t y,pr:=true}
theorem aR.Ws {P:Program}{f:Nat}{t:FT}{s:List PS}{G:List AV→Option t.ct.D}(h:aR P f {R:=t.ct.D,fn:=G,av:=λ_=> .bot,back:=λy=>eR t y,pr:=true}){F:sn s→Option t.ct.D}(hF:∀a,G (fQ s a)=F a):aR P f (GI t s F):=by
 intro xs y hy;simp only[GI]at hy y;cases ha:iz s xs with
 |none=>rw[ha]at hy;cases hy
 |some a=>
  rw[ha]at hy;have hy':G (fQ s a)=some y:=by rw[hF a];exact hy
  have hh:=h _ y hy';exact⟨hh.1,λh1 h2 A w vs hA hr=>hh.2.1 h1 h2 A w vs hA (jP ha hr),λh=>(by cases h),λh=>(by cases h),λ_ A w vs hA hr=>hh.2.2.2.2 rfl A w vs hA (jP ha hr)⟩
theorem Bb {R σ:Type}{key:List Nat}{B:AS→(Ex→AS→Option R)→Option R}{K:Ex→AS→Option R}(enc:σ→AS)(T:(σ→Option R)→σ→Option R)
 (h:∀m x,sg key B (m+1) (enc x) K=T (λy=>sg key B m (enc y) K) x):∀m x,sg key B m (enc x) K=bc T m x
 |0,_=>rfl
 |m+1,x=>by rw[h m x];have:(λy=>sg key B m (enc y) K)=bc T m:=funext λy=>Bb enc T h m y;rw[this];rfl
theorem kN:∀{l:List PD}{vs:List AV}{x:wb l},fi l vs=some x→vs=kO l x
 |[],[],_,_=>rfl
 |[],_::_,_,h=>by simp[fi]at h
 | .data g t::l,[],_,h=>by simp[fi]at h
 | .data g t::l,.tup _::vs,_,h=>by simp[fi]at h
 | .data g t::l,.val g' cs::vs,x,h=>by
  simp only[fi]at h;cases hg:g==g' with
  |false=>rw[hg]at h;cases h
  |true=>
   rw[hg]at h;simp only[ah]at h;have hg':g=g':=by simpa using hg
   subst hg';split at h;rename_i y hy;obtain⟨r,hr,h⟩:=au.1 h;cases h;have h1:=od hy;rw[aU]at h1;rw[kO,h1,kN hr];cases h
 | .bot::l,[],x,h=>by simp[fi]at h
 | .ptr s off::l,[],x,h=>by simp[fi]at h
 | .fn f::l,[],x,h=>by simp[fi]at h
 | .bot::l,v::vs,x,h=>by simp only[fi]at h;cases hg:v.It with|false=>rw[hg]at h;cases h|true=>rw[hg]at h;rw[G5 hg,kO,kN (l:=l) h]
 | .ptr s off::l,v::vs,x,h=>by simp only[fi]at h;cases hg:v.Iu s off with|false=>rw[hg]at h;cases h|true=>rw[hg]at h;rw[G7 hg,kO,kN (l:=l) h]
 | .fn f::l,v::vs,x,h=>by simp only[fi]at h;cases hg:v.JB f with|false=>rw[hg]at h;cases h|true=>rw[hg]at h;rw[AU hg,kO,kN (l:=l) h]
theorem qx:∀{l:List (Option FT)}{bs:List (Option (List AC))}{x:vz l},jH l bs=some x→bs=qM l x
 |[],[],_,_=>rfl
 |[],_::_,_,h=>by simp[jH]at h
 |some t::l,[],_,h=>by simp[jH]at h
 |none::l,[],_,h=>by simp[jH]at h
 |some t::l,none::bs,_,h=>by simp[jH]at h
 |none::l,some _::bs,_,h=>by simp[jH]at h
 |none::l,none::bs,x,h=>by simp only[jH]at h;rw[qM,qx h]
 |some t::l,some cs::bs,x,h=>by simp only[jH]at h;split at h;rename_i y hy;obtain⟨r,hr,h⟩:=au.1 h;cases h;have h1:=od hy;rw[aU]at h1;rw[qM,h1,qx hr];cases h
theorem GF:∀{o:SR}{cs:List AC}{x:WK o},DN o cs=some x→cs=Lk o x
 | .none,[],_,_=>rfl
 | .none,_::_,_,h=>by simp[DN]at h
 | .ptr,cs,x,h=>by simp only[DN]at h;cases hp:G6 cs with|false=>rw[hp]at h;cases h|true=>unfold G6 at hp;split at hp;rfl;cases hp
 | .some t,cs,x,h=>by simp only[DN]at h;split at h;rename_i y hy;cases h;have h1:=od hy;rw[aU]at h1;rw[Lk,h1];cases h
theorem SD.DP {d:SD}{st:AS}{x:d.D}(h:d.dec st=some x):st=d.enc x:=by unfold SD.dec at h;cases hc:(st.ep==0&&st.iss==List.replicate d.slots.length false)with|false=>rw[hc]at h;cases h|true=>rw[hc]at h;simp only[ah]at h;obtain⟨y,hy,h⟩:=au.1 h;obtain⟨z,hz,h⟩:=au.1 h;obtain⟨u,hu,h⟩:=au.1 h;cases h;simp only[ab,aM]at hc;cases st with|mk slots boxes ep iss io=>simp only at hc hy hz hu;obtain⟨rfl,rfl⟩:=hc;rw[kN hy,qx hz,GF hu];rfl
theorem lok {E:Env}{Γ:cG}{an:An}{Λ:c7}{c:Code}(l:cv)(h1:Λ (dj c)=l)(n:Nat)(h2:∀(R:Type)(x:l.sd.D)(K:Ex→AS→Option R),l.run x K=sg (an.mask (dj c)) (den E Γ an Λ c) n (l.sd.enc x) K):gE E Γ an Λ c:=by refine⟨n,λR st K r h=>?_⟩;rw[h1]at h;unfold cv.go at h;cases hd:l.sd.dec st with|none=>rw[hd]at h;cases h|some x=>rw[hd]at h;rw[SD.DP hd,←h2];exact h
theorem cok {E:Env}{Γ:cG}{an:An}{Λ:c7}{c:Code}(l:cv)(h1:Λ (sv c)=l)(h2:∀(R:Type)(x:l.sd.D)(K:Ex→AS→Option R),l.run x K=den E Γ an Λ c (l.sd.enc x) (λe st'=>K e (st'.mask (an.mask (sv c+1))))):zP E Γ an Λ c:=by intro R st K r h;rw[h1]at h;unfold cv.go at h;cases hd:l.sd.dec st with|none=>rw[hd]at h;cases h|some x=>rw[hd]at h;rw[SD.DP hd,←h2];exact h
end Go.Dn
