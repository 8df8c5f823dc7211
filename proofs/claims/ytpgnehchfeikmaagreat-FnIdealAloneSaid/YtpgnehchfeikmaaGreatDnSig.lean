import Derived.Test.YtpgnehchfeikmaaGreatDnLaw
/- Functions by the data that they take; loops by the data that they keep. -/
namespace Go.Dn
inductive PS where
 |data (g:Bool) (t:CT)|fn (f:Nat)
abbrev vf:List PS→Type
 |[]=>Unit
 | .data _ t::r=>t.D×vf r
 | .fn _::r=>vf r
def mr:(t:CT)→List AC→Option (t.D×List AC)
 | .int k,.int k' n::r=>if k'=k then some (n,r) else none
 | .bool,.bool b::r=>some (b,r)
 | .str,.str s::r=>some (s,r)
 | .sl e,.sl (.arg false) e' xs::r=>if h:e'=e then some (h▸xs,r) else none
 | .sl _,.nilsl::r=>some ([],r)
 | .pair a b,cs=>(mr a cs).bind λx=>(mr b x.2).bind λy=>some ((x.1,y.1),y.2)
 |_,_=>none
def jr:(s:List PS)→List AV→Option (vf s)
 |[],[]=>some ()
 | .data g e::s,.val g' cs::xs=>bif g==g' then
  (match mr e cs with
   |some (x,[])=>(jr s xs).bind λr=>some (x,r)
   |_=>none) else none
 | .fn f::s,v::xs=>bif v.Oe f then jr s xs else none
 |_,_=>none
def gI:(s:List PS)→vf s→List AV
 |[],_=>[]
 | .data g e::s,a=> .val g (cellsOf e (.arg false) a.1)::gI s a.2
 | .fn f::s,a=> .one (.fn f)::gI s a
theorem OL {A:Rg}{hw:Nat→Nat}{w:World}:∀{t:CT}{cs r:List AC}{x:t.D},mr t cs=some (x,r)→∀{vs:List Value}{fp:List Nat},aV (dc A hw w) vs cs fp→ ∃v1 v2 f1 f2,vs=v1++v2∧fp=f1++f2∧aV (dc A hw w) v1 (cellsOf t (.arg false) x) f1∧aV (dc A hw w) v2 r f2:=by
 intro t
 have one:∀{y:AC}{ys:List AC}{vs:List Value}{fp:List Nat}{z:AC},aV (dc A hw w) vs (y::ys) fp→(∀v f,eg (dc A hw w) v y f→eg (dc A hw w) v z f)→
  ∃v1 v2 f1 f2,vs=v1++v2∧fp=f1++f2∧aV (dc A hw w) v1 [z] f1∧aV (dc A hw w) v2 ys f2:=by
  intro y ys vs fp z h hz
  cases vs with
  |nil=>exact h.elim
  |cons v vs=>
   obtain⟨f1,f2,rfl,h1,h2⟩:=h
   exact⟨[v],vs,f1,f2,rfl,rfl,⟨f1,[],by simp,hz v f1 h1,rfl⟩,h2⟩
 induction t with
 |int k=>intro cs r x h vs fp hr;cases cs with|nil=>simp[mr]at h|cons y ys=>cases y<;>simp[mr]at h;obtain⟨rfl,rfl,rfl⟩:=h;exact one hr λv f h=>h
 |bool=>intro cs r x h vs fp hr;cases cs with|nil=>simp[mr]at h|cons y ys=>cases y<;>simp[mr]at h;obtain⟨rfl,rfl⟩:=h;exact one hr λv f h=>h
 |str=>intro cs r x h vs fp hr;cases cs with|nil=>simp[mr]at h|cons y ys=>cases y<;>simp[mr]at h;obtain⟨rfl,rfl⟩:=h;exact one hr λv f h=>h
 |sl e _=>
  intro cs r x h vs fp hr;cases cs with
  |nil=>simp[mr]at h
  |cons y ys=>
   cases y with
   |sl fl e' xs=>
    cases fl with
    |arg k=>cases k with|true=>simp[mr]at h|false=>simp only[mr]at h;split at h;rename_i he;subst he;cases h;exact one hr λv f h=>h;cases h
    |own t=>simp[mr]at h
    |nest _ _ _ _ _ _=>simp[mr]at h
    |part _ _ _ _=>simp[mr]at h
    |holed _ _ _=>simp[mr]at h
    |loc ep pv=>simp[mr]at h
   |nilsl=>simp[mr]at h;obtain⟨rfl,rfl⟩:=h;refine one hr λv f h=>?_;obtain⟨rfl,rfl⟩:=h;exact⟨rfl,_,rfl,.inl ⟨⟨none,rfl⟩,rfl⟩⟩
   |_=>simp[mr]at h
 |pair a b iha ihb=>intro cs r x h vs fp hr;simp only[mr]at h;obtain⟨⟨x1,r1⟩,h1,h⟩:=ay.1 h;obtain⟨⟨x2,r2⟩,h2,h⟩:=ay.1 h;cases h;obtain⟨v1,v2,f1,f2,rfl,rfl,k1,k2⟩:=iha h1 hr;obtain⟨v3,v4,f3,f4,rfl,rfl,k3,k4⟩:=ihb h2 k2;exact⟨v1++v3,v4,f1++f3,f4,by simp,by simp,by simpa[cellsOf]using aV.append k1 k3,k4⟩
theorem ED {v:AV}{f:Nat}(h:v.Oe f=true):v=.one (.fn f):=by
 unfold AV.Oe at h;split at h;rename_i f';have:f=f':=by simpa using h
 subst this;rfl;cases h
theorem K1 {v:AV}(h:v.MP=true):v=.bot:=by unfold AV.MP at h;split at h;rfl;cases h
theorem K3 {v:AV}{s off:Nat}(h:v.MQ s off=true):v=.one (.ptr s off):=by unfold AV.MQ at h;split at h;simp only[ab,aL]at h;obtain⟨rfl,rfl⟩:=h;rfl;cases h
theorem kW {A:Rg}{w:World}:∀{s:List PS}{xs:List AV}{a:vf s},jr s xs=some a→∀{vs:List Value},il A w vs xs→il A w vs (gI s a)
 |[],[],a,_,vs,h=>h
 |[],_::_,_,h,_,_=>by simp[jr]at h
 | .data g e::s,[],_,h,_,_=>by simp[jr]at h
 | .data g e::s,.tup _::xs,_,h,_,_=>by simp[jr]at h
 | .data g e::s,.val g' cs::xs,a,h,vs,hr=>by
  simp only[jr]at h;cases hg:g==g' with
  |false=>rw[hg]at h;cases h
  |true=>
   rw[hg]at h;simp only[ah]at h;have hg':g=g':=by simpa using hg
   subst hg';split at h;rename_i x hx;obtain⟨r,hr',h⟩:=ay.1 h;cases h;cases vs with
   |nil=>exact hr.elim
   |cons v vs=>
    obtain⟨⟨us,hcut,hu⟩,h2⟩:=hr;obtain⟨v1,v2,f1,f2,rfl,hf,k1,k2⟩:=OL hx hu;have hv2:v2=[]:=by cases v2 with|nil=>rfl|cons _ _=>exact k2.elim
    subst hv2;have hf1:f1=[]:=by have:=hf.symm;simp at this;exact this.1
    subst hf1;rw[ba]at hcut;exact⟨⟨v1,hcut,k1⟩,kW hr' h2⟩
   cases h
 | .fn f::s,[],a,h,vs,hr=>by simp[jr]at h
 | .fn f::s,v::xs,a,h,vs,hr=>by simp only[jr]at h;cases hg:v.Oe f with|false=>rw[hg]at h;cases h|true=>rw[hg]at h;have:=ED hg;subst this;cases vs with|nil=>exact hr.elim|cons v vs=>exact⟨hr.1,kW h hr.2⟩
def aN (s:List PS)(rs:List (Bool×FT))(F:vf s→Option (gB rs)):aW:={R:=gB rs,fn:=λxs=>aa (jr s xs) F,av:=qL rs}
theorem aU.of {P:Program}{f:Nat}{s:List PS}{rs:List (Bool×FT)}{G:List AV→Option (gB rs)}(h:aU P f {R:=gB rs,fn:=G,av:=qL rs}){F:vf s→Option (gB rs)}(hF:∀a,G (gI s a)=F a):aU P f (aN s rs F):=by
 intro xs y hy;simp only[aN]at hy y;cases ha:jr s xs with
 |none=>rw[ha]at hy;cases hy
 |some a=>
  rw[ha]at hy;have hy':G (gI s a)=some y:=by rw[hF a];exact hy
  have hh:=h (gI s a) y hy';exact⟨hh.1,λ_ _ A w vs hA hr=>hh.2.1 rfl rfl A w vs hA (kW ha hr),λh=>(by cases h),λh=>(by cases h),λh=>(by cases h)⟩
def P9 (s:List PS)(rs rs2:List (Bool×FT))(h:gB rs2=gB rs)(F:vf s→Option (Bool×gB rs)):aW:=
 {R:=Bool×gB rs,fn:=λxs=>aa (jr s xs) F,av:=λy=>qL rs y.2,sel:=λy=>y.1,alt:=λy=>qL rs2 (cast h.symm y.2)}
theorem aU.ofAlt {P:Program}{f:Nat}{s:List PS}{rs rs2:List (Bool×FT)}{h2:gB rs2=gB rs}{G:List AV→Option (Bool×gB rs)}(h:aU P f {R:=Bool×gB rs,fn:=G,av:=λy=>qL rs y.2,sel:=λy=>y.1,alt:=λy=>qL rs2 (cast h2.symm y.2)}){F:vf s→Option (Bool×gB rs)}(hF:∀a,G (gI s a)=F a):aU P f (P9 s rs rs2 h2 F):=by
 intro xs y hy;simp only[P9]at hy y;cases ha:jr s xs with
 |none=>rw[ha]at hy;cases hy
 |some a=>
  rw[ha]at hy;have hy':G (gI s a)=some y:=by rw[hF a];exact hy
  have hh:=h (gI s a) y hy';exact⟨hh.1,λ_ _ A w vs hA hr=>hh.2.1 rfl rfl A w vs hA (kW ha hr),λh=>(by cases h),λh=>(by cases h),λh=>(by cases h)⟩
def Uo (t:CT)(gg:Bool)(s:List PS)(rs:List (Bool×FT))(F:t.D→vf s→Option (gB rs×t.D)):aW:=
 {R:=gB rs×t.D,fn:=λxs=>match xs with
  | .val g cs::rest=>bif gg==g then(match eQ t cs with|some (x,[])=>aa (jr s rest) (F x)|_=>none) else none
  |_=>none,av:=λy=>qL rs y.1,io:=true,back:=λy=>cellsOf t (.own none) y.2}
theorem aU.af2 {P:Program}{f:Nat}{t:CT}{gg:Bool}{s:List PS}{rs:List (Bool×FT)}{G:List AV→Option (gB rs×t.D)}(h:aU P f {R:=gB rs×t.D,fn:=G,av:=λy=>qL rs y.1,io:=true,back:=λy=>cellsOf t (.own none) y.2}){F:t.D→vf s→Option (gB rs×t.D)}(hF:∀x a,G (.val gg (cellsOf t (.own none) x)::gI s a)=F x a):aU P f (Uo t gg s rs F):=by
 intro xs y hy;simp only[Uo]at hy y;split at hy;rename_i g cs rest;cases hg:(gg==g)with
 |false=>rw[hg]at hy;cases hy
 |true=>
  rw[hg]at hy;have:gg=g:=by simpa using hg
  subst this;simp only[ah]at hy;split at hy;rename_i x hx;cases ha:jr s rest with
  |none=>rw[ha]at hy;cases hy
  |some a=>
   rw[ha]at hy;have hy':G (.val gg (cellsOf t (.own none) x)::gI s a)=some y:=by rw[hF x a];exact hy
   have hh:=h _ y hy';refine⟨hh.1,λh=>(by cases h),λ_ g0 cs0 rest0 he A w v0 vs hw fp hA hrel hn hlt hargs=>?_,λh=>(by cases h),λh=>(by cases h)⟩;injection he with he1 he2;injection he1 with he1 he3;subst he1;subst he2;subst he3;refine hh.2.2.1 rfl gg (cellsOf t (.own none) x) (gI s a) rfl A w v0 vs hw fp hA ?_ hn hlt (kW ha hargs);obtain⟨us,hcut,hrel⟩:=hrel;obtain⟨f1,f2,rfl,hown,hrest⟩:=jf hrel hx;have hnil:us.drop t.size=[]:=by cases hd:us.drop t.size with|nil=>rfl|cons _ _=>rw[hd]at hrest;exact hrest.elim
   rw[hnil]at hrest;have hf2:f2=[]:=hrest;subst hf2;have htake:us.take t.size=us:=by have:=bI t.size us;rw[hnil,ba]at this;exact this
   rw[htake]at hown;rw[ba];exact⟨us,hcut,lB (c:=dc A hw w) hown⟩
  cases hy
 cases hy
def FT.xC:FT→Bool
 | .sl .arg _=>true
 | .sl .arg0 _=>true
 | .sl _ _=>false
 | .pair a b=>a.xC&&b.xC
 |_=>true
theorem vi:∀{t:FT},t.xC=true→∀x:t.ct.D,(fD t x).all AC.xC=true
 | .int _,_,_=>rfl
 | .bool,_,_=>rfl
 | .str,_,_=>rfl
 | .sl fl e,h,_=>by cases fl<;>first|rfl|cases h
 | .pair a b,h,x=>by simp only[FT.xC,ab]at h;simp only[fD,List.all_append,ab];exact⟨vi h.1 x.1,vi h.2 x.2⟩
def ga (t:FT)(s:List PS)(rs:List (Bool×FT))(F:t.ct.D→vf s→Option (gB rs×t.ct.D)):aW:=
 {R:=gB rs×t.ct.D,fn:=λxs=>match xs with
  | .val true cs::rest=>(match Bh t cs with|some (x,[])=>aa (jr s rest) (F x)|_=>none)
  |_=>none,av:=λy=>qL rs y.1,back:=λy=>fD t y.2,bx:=true,cur:=t.xC,hcur:=λh y=>vi h y.2}
theorem aU.lY {P:Program}{f:Nat}{t:FT}{s:List PS}{rs:List (Bool×FT)}{G:List AV→Option (gB rs×t.ct.D)}(h:aU P f {R:=gB rs×t.ct.D,fn:=G,av:=λy=>qL rs y.1,back:=λy=>fD t y.2,bx:=true}){F:t.ct.D→vf s→Option (gB rs×t.ct.D)}(hF:∀x a,G (.val true (fD t x)::gI s a)=F x a):aU P f (ga t s rs F):=by
 intro xs y hy;simp only[ga]at hy y;split at hy;rename_i cs rest;split at hy;rename_i x hx;cases ha:jr s rest with
 |none=>rw[ha]at hy;cases hy
 |some a=>
  rw[ha]at hy;have hy':G (.val true (fD t x)::gI s a)=some y:=by rw[hF x a];exact hy
  have hsp:=qo hx;rw[ba]at hsp;have hh:=h _ y hy';refine⟨hh.1,λ_ h=>(by cases h),λh=>(by cases h),λ_ cs0 rest0 he A w b vs arr T fr hw fp hA hblk hth hrel hn hnb hlt hw0 hargs=>?_,λh=>(by cases h)⟩;injection he with he1 he2;injection he1 with _ he3;subst he2;subst he3;rw[hsp]at hrel;exact hh.2.2.2.1 rfl (fD t x) (gI s a) rfl A w b vs arr T fr hw fp hA hblk hth hrel hn hnb hlt hw0 (kW ha hargs)
 cases hy;cases hy
def KD (t:FT)(s:List PS)(F:vf s→Option t.ct.D):aW:=
 {R:=t.ct.D,fn:=λxs=>aa (jr s xs) F,av:=λ_=> .bot,back:=λy=>fD t y,pr:=true}
theorem aU.ace {P:Program}{f:Nat}{t:FT}{s:List PS}{G:List AV→Option t.ct.D}(h:aU P f {R:=t.ct.D,fn:=G,av:=λ_=> .bot,back:=λy=>fD t y,pr:=true}){F:vf s→Option t.ct.D}(hF:∀a,G (gI s a)=F a):aU P f (KD t s F):=by
 intro xs y hy;simp only[KD]at hy y;cases ha:jr s xs with
 |none=>rw[ha]at hy;cases hy
 |some a=>
  rw[ha]at hy;have hy':G (gI s a)=some y:=by rw[hF a];exact hy
  have hh:=h _ y hy';exact⟨hh.1,λh1 h2 A w vs hA hr=>hh.2.1 h1 h2 A w vs hA (kW ha hr),λh=>(by cases h),λh=>(by cases h),λ_ A w vs hA hr=>hh.2.2.2.2 rfl A w vs hA (kW ha hr)⟩
theorem EJ {R σ:Type}{key:List Nat}{B:AS→(Ex→AS→Option R)→Option R}{K:Ex→AS→Option R}(enc:σ→AS)(T:(σ→Option R)→σ→Option R)
 (h:∀m x,u1 key B (m+1) (enc x) K=T (λy=>u1 key B m (enc y) K) x):∀m x,u1 key B m (enc x) K=aZ T m x
 |0,_=>rfl
 |m+1,x=>by rw[h m x];have:(λy=>u1 key B m (enc y) K)=aZ T m:=funext λy=>EJ enc T h m y;rw[this];rfl
theorem md:∀{l:List PD}{vs:List AV}{x:zJ l},fW l vs=some x→vs=me l x
 |[],[],_,_=>rfl
 |[],_::_,_,h=>by simp[fW]at h
 | .data g t::l,[],_,h=>by simp[fW]at h
 | .data g t::l,.tup _::vs,_,h=>by simp[fW]at h
 | .data g t::l,.val g' cs::vs,x,h=>by
  simp only[fW]at h;cases hg:g==g' with
  |false=>rw[hg]at h;cases h
  |true=>
   rw[hg]at h;simp only[ah]at h;have hg':g=g':=by simpa using hg
   subst hg';split at h;rename_i y hy;obtain⟨r,hr,h⟩:=ay.1 h;cases h;have h1:=qo hy;rw[ba]at h1;rw[me,h1,md hr];cases h
 | .bot::l,[],x,h=>by simp[fW]at h
 | .ptr s off::l,[],x,h=>by simp[fW]at h
 | .fn f::l,[],x,h=>by simp[fW]at h
 | .bot::l,v::vs,x,h=>by simp only[fW]at h;cases hg:v.MP with|false=>rw[hg]at h;cases h|true=>rw[hg]at h;rw[K1 hg,me,md (l:=l) h]
 | .ptr s off::l,v::vs,x,h=>by simp only[fW]at h;cases hg:v.MQ s off with|false=>rw[hg]at h;cases h|true=>rw[hg]at h;rw[K3 hg,me,md (l:=l) h]
 | .fn f::l,v::vs,x,h=>by simp only[fW]at h;cases hg:v.Oe f with|false=>rw[hg]at h;cases h|true=>rw[hg]at h;rw[ED hg,me,md (l:=l) h]
theorem tk:∀{l:List (Option FT)}{bs:List (Option (List AC))}{x:yZ l},kO l bs=some x→bs=tG l x
 |[],[],_,_=>rfl
 |[],_::_,_,h=>by simp[kO]at h
 |some t::l,[],_,h=>by simp[kO]at h
 |none::l,[],_,h=>by simp[kO]at h
 |some t::l,none::bs,_,h=>by simp[kO]at h
 |none::l,some _::bs,_,h=>by simp[kO]at h
 |none::l,none::bs,x,h=>by simp only[kO]at h;rw[tG,tk h]
 |some t::l,some cs::bs,x,h=>by simp only[kO]at h;split at h;rename_i y hy;obtain⟨r,hr,h⟩:=ay.1 h;cases h;have h1:=qo hy;rw[ba]at h1;rw[tG,h1,tk hr];cases h
theorem KA:∀{o:X7}{cs:List AC}{x:ioD o},HH o cs=some x→cs=P8 o x
 | .none,[],_,_=>rfl
 | .none,_::_,_,h=>by simp[HH]at h
 | .ptr,cs,x,h=>by simp only[HH]at h;cases hp:K2 cs with|false=>rw[hp]at h;cases h|true=>unfold K2 at hp;split at hp;rfl;cases hp
 | .some t,cs,x,h=>by simp only[HH]at h;split at h;rename_i y hy;cases h;have h1:=qo hy;rw[ba]at h1;rw[P8,h1];cases h
theorem SD.HI {d:SD}{st:AS}{x:d.D}(h:d.dec st=some x):st=d.enc x:=by unfold SD.dec at h;cases hc:(st.ep==0&&st.iss==List.replicate d.slots.length false)with|false=>rw[hc]at h;cases h|true=>rw[hc]at h;simp only[ah]at h;obtain⟨y,hy,h⟩:=ay.1 h;obtain⟨z,hz,h⟩:=ay.1 h;obtain⟨u,hu,h⟩:=ay.1 h;cases h;simp only[ab,aL]at hc;cases st with|mk slots boxes ep iss io=>simp only at hc hy hz hu;obtain⟨rfl,rfl⟩:=hc;rw[md hy,tk hz,KA hu];rfl
theorem lok {E:Env}{Γ:cG}{an:An}{Λ:cY}{c:Code}(l:cm)(h1:Λ (dz c)=l)(n:Nat)(h2:∀(R:Type)(x:l.sd.D)(K:Ex→AS→Option R),l.run x K=u1 (an.mask (dz c)) (den E Γ an Λ c) n (l.sd.enc x) K):fU E Γ an Λ c:=by refine⟨n,λR st K r h=>?_⟩;rw[h1]at h;unfold cm.go at h;cases hd:l.sd.dec st with|none=>rw[hd]at h;cases h|some x=>rw[hd]at h;rw[SD.HI hd,←h2];exact h
theorem cok {E:Env}{Γ:cG}{an:An}{Λ:cY}{c:Code}(l:cm)(h1:Λ (vj c)=l)(h2:∀(R:Type)(x:l.sd.D)(K:Ex→AS→Option R),l.run x K=den E Γ an Λ c (l.sd.enc x) (λe st'=>K e (st'.mask (an.mask (vj c+1))))):yU E Γ an Λ c:=by intro R st K r h;rw[h1]at h;unfold cm.go at h;cases hd:l.sd.dec st with|none=>rw[hd]at h;cases h|some x=>rw[hd]at h;rw[SD.HI hd,←h2];exact h
end Go.Dn
