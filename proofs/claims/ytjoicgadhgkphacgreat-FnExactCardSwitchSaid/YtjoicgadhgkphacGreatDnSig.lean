import Derived.Test.YtjoicgadhgkphacGreatDnLaw
/- Functions by the data that they take; loops by the data that they keep. -/
namespace Go.Dn
inductive PS where
 |data (g:Bool) (t:CT)|fn (f:Nat)
abbrev AO:List PS→Type
 |[]=>Unit
 | .data _ t::r=>t.D×AO r
 | .fn _::r=>AO r
def pC:(t:CT)→List AC→Option (t.D×List AC)
 | .int k,.int k' n::r=>if k'=k then some (n,r) else none
 | .bool,.bool b::r=>some (b,r)
 | .str,.str s::r=>some (s,r)
 | .sl e,.sl .arg e' xs::r=>if h:e'=e then some (h▸xs,r) else none
 | .sl _,.nilsl::r=>some ([],r)
 | .pair a b,cs=>(pC a cs).bind λx=>(pC b x.2).bind λy=>some ((x.1,y.1),y.2)
 |_,_=>none
def mw:(s:List PS)→List AV→Option (AO s)
 |[],[]=>some ()
 | .data g e::s,.val g' cs::xs=>bif g==g' then
  (match pC e cs with
   |some (x,[])=>(mw s xs).bind λr=>some (x,r)
   |_=>none) else none
 | .fn f::s,v::xs=>bif v.SK f then mw s xs else none
 |_,_=>none
def ki:(s:List PS)→AO s→List AV
 |[],_=>[]
 | .data g e::s,a=> .val g (cellsOf e .arg a.1)::ki s a.2
 | .fn f::s,a=> .one (.fn f)::ki s a
theorem S4 {A:Nat→Nat→Prop}{hw:Nat→Nat}{w:World}:∀{t:CT}{cs r:List AC}{x:t.D},pC t cs=some (x,r)→∀{vs:List Value}{fp:List Nat},ba (dN A hw w) vs cs fp→ ∃v1 v2 f1 f2,vs=v1++v2∧fp=f1++f2∧ba (dN A hw w) v1 (cellsOf t .arg x) f1∧ba (dN A hw w) v2 r f2:=by
 intro t
 have one:∀{y:AC}{ys:List AC}{vs:List Value}{fp:List Nat}{z:AC},ba (dN A hw w) vs (y::ys) fp→(∀v f,eK (dN A hw w) v y f→eK (dN A hw w) v z f)→
  ∃v1 v2 f1 f2,vs=v1++v2∧fp=f1++f2∧ba (dN A hw w) v1 [z] f1∧ba (dN A hw w) v2 ys f2:=by
  intro y ys vs fp z h hz
  cases vs with
  |nil=>exact h.elim
  |cons v vs=>
   obtain⟨f1,f2,rfl,h1,h2⟩:=h
   exact⟨[v],vs,f1,f2,rfl,rfl,⟨f1,[],by simp,hz v f1 h1,rfl⟩,h2⟩
 induction t with
 |int k=>intro cs r x h vs fp hr;cases cs with|nil=>simp[pC]at h|cons y ys=>cases y<;>simp[pC]at h;obtain⟨rfl,rfl,rfl⟩:=h;exact one hr λv f h=>h
 |bool=>intro cs r x h vs fp hr;cases cs with|nil=>simp[pC]at h|cons y ys=>cases y<;>simp[pC]at h;obtain⟨rfl,rfl⟩:=h;exact one hr λv f h=>h
 |str=>intro cs r x h vs fp hr;cases cs with|nil=>simp[pC]at h|cons y ys=>cases y<;>simp[pC]at h;obtain⟨rfl,rfl⟩:=h;exact one hr λv f h=>h
 |sl e _=>
  intro cs r x h vs fp hr;cases cs with
  |nil=>simp[pC]at h
  |cons y ys=>
   cases y with
   |sl fl e' xs=>cases fl with|arg=>simp only[pC]at h;split at h;rename_i he;subst he;cases h;exact one hr λv f h=>h;cases h|own t=>simp[pC]at h|nest _ _ _ _ _ _=>simp[pC]at h|part _ _ _ _=>simp[pC]at h|holed _ _ _=>simp[pC]at h|loc ep pv=>simp[pC]at h
   |nilsl=>simp[pC]at h;obtain⟨rfl,rfl⟩:=h;refine one hr λv f h=>?_;obtain⟨rfl,rfl⟩:=h;exact⟨rfl,_,rfl,.inl ⟨⟨none,rfl⟩,rfl⟩⟩
   |_=>simp[pC]at h
 |pair a b iha ihb=>intro cs r x h vs fp hr;simp only[pC]at h;obtain⟨⟨x1,r1⟩,h1,h⟩:=aF.1 h;obtain⟨⟨x2,r2⟩,h2,h⟩:=aF.1 h;cases h;obtain⟨v1,v2,f1,f2,rfl,rfl,k1,k2⟩:=iha h1 hr;obtain⟨v3,v4,f3,f4,rfl,rfl,k3,k4⟩:=ihb h2 k2;exact⟨v1++v3,v4,f1++f3,f4,by simp,by simp,by simpa[cellsOf]using ba.append k1 k3,k4⟩
theorem Iu {v:AV}{f:Nat}(h:v.SK f=true):v=.one (.fn f):=by
 unfold AV.SK at h;split at h;rename_i f';have:f=f':=by simpa using h
 subst this;rfl;cases h
theorem Pw {v:AV}(h:v.Rj=true):v=.bot:=by unfold AV.Rj at h;split at h;rfl;cases h
theorem Py {v:AV}{s off:Nat}(h:v.Rk s off=true):v=.one (.ptr s off):=by unfold AV.Rk at h;split at h;simp only[aj,aW]at h;obtain⟨rfl,rfl⟩:=h;rfl;cases h
theorem rJ {A:Nat→Nat→Prop}{w:World}:∀{s:List PS}{xs:List AV}{a:AO s},mw s xs=some a→∀{vs:List Value},mF A w vs xs→mF A w vs (ki s a)
 |[],[],a,_,vs,h=>h
 |[],_::_,_,h,_,_=>by simp[mw]at h
 | .data g e::s,[],_,h,_,_=>by simp[mw]at h
 | .data g e::s,.tup _::xs,_,h,_,_=>by simp[mw]at h
 | .data g e::s,.val g' cs::xs,a,h,vs,hr=>by
  simp only[mw]at h;cases hg:g==g' with
  |false=>rw[hg]at h;cases h
  |true=>
   rw[hg]at h;simp only[ai]at h;have hg':g=g':=by simpa using hg
   subst hg';split at h;rename_i x hx;obtain⟨r,hr',h⟩:=aF.1 h;cases h;cases vs with
   |nil=>exact hr.elim
   |cons v vs=>
    obtain⟨⟨us,hcut,hu⟩,h2⟩:=hr;obtain⟨v1,v2,f1,f2,rfl,hf,k1,k2⟩:=S4 hx hu;have hv2:v2=[]:=by cases v2 with|nil=>rfl|cons _ _=>exact k2.elim
    subst hv2;have hf1:f1=[]:=by have:=hf.symm;simp at this;exact this.1
    subst hf1;rw[bc]at hcut;exact⟨⟨v1,hcut,k1⟩,rJ hr' h2⟩
   cases h
 | .fn f::s,[],a,h,vs,hr=>by simp[mw]at h
 | .fn f::s,v::xs,a,h,vs,hr=>by simp only[mw]at h;cases hg:v.SK f with|false=>rw[hg]at h;cases h|true=>rw[hg]at h;have:=Iu hg;subst this;cases vs with|nil=>exact hr.elim|cons v vs=>exact⟨hr.1,rJ h hr.2⟩
def au (s:List PS)(rs:List (Bool×FT))(F:AO s→Option (iq rs)):aD:={R:=iq rs,fn:=λxs=>aa (mw s xs) F,av:=uN rs}
theorem aA.of {P:Program}{f:Nat}{s:List PS}{rs:List (Bool×FT)}{G:List AV→Option (iq rs)}(h:aA P f {R:=iq rs,fn:=G,av:=uN rs}){F:AO s→Option (iq rs)}(hF:∀a,G (ki s a)=F a):aA P f (au s rs F):=by
 intro xs y hy;simp only[au]at hy y;cases ha:mw s xs with
 |none=>rw[ha]at hy;cases hy
 |some a=>
  rw[ha]at hy;have hy':G (ki s a)=some y:=by rw[hF a];exact hy
  have hh:=h (ki s a) y hy';exact⟨hh.1,λ_ _ A w vs hA hr=>hh.2.1 rfl rfl A w vs hA (rJ ha hr),λh=>(by cases h),λh=>(by cases h)⟩
def OW (s:List PS)(rs rs2:List (Bool×FT))(h:iq rs2=iq rs)(F:AO s→Option (Bool×iq rs)):aD:=
 {R:=Bool×iq rs,fn:=λxs=>aa (mw s xs) F,av:=λy=>uN rs y.2,sel:=λy=>y.1,alt:=λy=>uN rs2 (cast h.symm y.2)}
theorem aA.ofAlt {P:Program}{f:Nat}{s:List PS}{rs rs2:List (Bool×FT)}{h2:iq rs2=iq rs}{G:List AV→Option (Bool×iq rs)}(h:aA P f {R:=Bool×iq rs,fn:=G,av:=λy=>uN rs y.2,sel:=λy=>y.1,alt:=λy=>uN rs2 (cast h2.symm y.2)}){F:AO s→Option (Bool×iq rs)}(hF:∀a,G (ki s a)=F a):aA P f (OW s rs rs2 h2 F):=by
 intro xs y hy;simp only[OW]at hy y;cases ha:mw s xs with
 |none=>rw[ha]at hy;cases hy
 |some a=>
  rw[ha]at hy;have hy':G (ki s a)=some y:=by rw[hF a];exact hy
  have hh:=h (ki s a) y hy';exact⟨hh.1,λ_ _ A w vs hA hr=>hh.2.1 rfl rfl A w vs hA (rJ ha hr),λh=>(by cases h),λh=>(by cases h)⟩
def rC (t:CT)(gg:Bool)(s:List PS)(rs:List (Bool×FT))(F:t.D→AO s→Option (iq rs×t.D)):aD:=
 {R:=iq rs×t.D,fn:=λxs=>match xs with
  | .val g cs::rest=>bif gg==g then(match eV t cs with|some (x,[])=>aa (mw s rest) (F x)|_=>none) else none
  |_=>none,av:=λy=>uN rs y.1,io:=true,back:=λy=>cellsOf t (.own none) y.2}
theorem aA.Ar {P:Program}{f:Nat}{t:CT}{gg:Bool}{s:List PS}{rs:List (Bool×FT)}{G:List AV→Option (iq rs×t.D)}(h:aA P f {R:=iq rs×t.D,fn:=G,av:=λy=>uN rs y.1,io:=true,back:=λy=>cellsOf t (.own none) y.2}){F:t.D→AO s→Option (iq rs×t.D)}(hF:∀x a,G (.val gg (cellsOf t (.own none) x)::ki s a)=F x a):aA P f (rC t gg s rs F):=by
 intro xs y hy;simp only[rC]at hy y;split at hy;rename_i g cs rest;cases hg:(gg==g)with
 |false=>rw[hg]at hy;cases hy
 |true=>
  rw[hg]at hy;have:gg=g:=by simpa using hg
  subst this;simp only[ai]at hy;split at hy;rename_i x hx;cases ha:mw s rest with
  |none=>rw[ha]at hy;cases hy
  |some a=>
   rw[ha]at hy;have hy':G (.val gg (cellsOf t (.own none) x)::ki s a)=some y:=by rw[hF x a];exact hy
   have hh:=h _ y hy';refine⟨hh.1,λh=>(by cases h),λ_ g0 cs0 rest0 he A w v0 vs hw fp hA hrel hn hlt hargs=>?_,λh=>(by cases h)⟩;injection he with he1 he2;injection he1 with he1 he3;subst he1;subst he2;subst he3;refine hh.2.2.1 rfl gg (cellsOf t (.own none) x) (ki s a) rfl A w v0 vs hw fp hA ?_ hn hlt (rJ ha hargs);obtain⟨us,hcut,hrel⟩:=hrel;obtain⟨f1,f2,rfl,hown,hrest⟩:=gS hrel hx;have hnil:us.drop t.size=[]:=by cases hd:us.drop t.size with|nil=>rfl|cons _ _=>rw[hd]at hrest;exact hrest.elim
   rw[hnil]at hrest;have hf2:f2=[]:=hrest;subst hf2;have htake:us.take t.size=us:=by have:=bz t.size us;rw[hnil,bc]at this;exact this
   rw[htake]at hown;rw[bc];exact⟨us,hcut,jS (c:=dN A hw w) hown⟩
  cases hy
 cases hy
def FV (t:CT)(s:List PS)(rs:List (Bool×FT))(F:t.D→AO s→Option (iq rs×t.D)):aD:=
 {R:=iq rs×t.D,fn:=λxs=>match xs with
  | .val true cs::rest=>(match eV t cs with|some (x,[])=>aa (mw s rest) (F x)|_=>none)
  |_=>none,av:=λy=>uN rs y.1,back:=λy=>cellsOf t (.own none) y.2,bx:=true}
theorem aA.Vo {P:Program}{f:Nat}{t:CT}{s:List PS}{rs:List (Bool×FT)}{G:List AV→Option (iq rs×t.D)}(h:aA P f {R:=iq rs×t.D,fn:=G,av:=λy=>uN rs y.1,back:=λy=>cellsOf t (.own none) y.2,bx:=true}){F:t.D→AO s→Option (iq rs×t.D)}(hF:∀x a,G (.val true (cellsOf t (.own none) x)::ki s a)=F x a):aA P f (FV t s rs F):=by
 intro xs y hy;simp only[FV]at hy y;split at hy;rename_i cs rest;split at hy;rename_i x hx;cases ha:mw s rest with
 |none=>rw[ha]at hy;cases hy
 |some a=>
  rw[ha]at hy;have hy':G (.val true (cellsOf t (.own none) x)::ki s a)=some y:=by rw[hF x a];exact hy
  have hh:=h _ y hy';refine⟨hh.1,λ_ h=>(by cases h),λh=>(by cases h),λ_ cs0 rest0 he A w b vs arr T fr hw fp hA hblk hth hrel hn hnb hlt hw0 hargs=>?_⟩;injection he with he1 he2;injection he1 with _ he3;subst he2;subst he3;refine hh.2.2.2 rfl (cellsOf t (.own none) x) (ki s a) rfl A w b vs arr T fr hw fp hA hblk hth ?_ hn hnb hlt hw0 (rJ ha hargs);obtain⟨f1,f2,rfl,hown,hrest⟩:=gS hrel hx;have hnil:arr.toList.drop t.size=[]:=by cases hd:arr.toList.drop t.size with|nil=>rfl|cons _ _=>rw[hd]at hrest;exact hrest.elim
  rw[hnil]at hrest;have hf2:f2=[]:=hrest;subst hf2;have htake:arr.toList.take t.size=arr.toList:=by have:=bz t.size arr.toList;rw[hnil,bc]at this;exact this
  rw[htake]at hown;rw[bc];exact jS (c:=dN A hw w) hown
 cases hy;cases hy
theorem Iz {R σ:Type}{key:List Nat}{B:AS→(Ex→AS→Option R)→Option R}{K:Ex→AS→Option R}(enc:σ→AS)(T:(σ→Option R)→σ→Option R)
 (h:∀m x,yI key B (m+1) (enc x) K=T (λy=>yI key B m (enc y) K) x):∀m x,yI key B m (enc x) K=aH T m x
 |0,_=>rfl
 |m+1,x=>by rw[h m x];have:(λy=>yI key B m (enc y) K)=aH T m:=funext λy=>Iz enc T h m y;rw[this];rfl
theorem nK:∀{l:List PD}{vs:List AV}{x:Dm l},gG l vs=some x→vs=nM l x
 |[],[],_,_=>rfl
 |[],_::_,_,h=>by simp[gG]at h
 | .data g t::l,[],_,h=>by simp[gG]at h
 | .data g t::l,.tup _::vs,_,h=>by simp[gG]at h
 | .data g t::l,.val g' cs::vs,x,h=>by
  simp only[gG]at h;cases hg:g==g' with
  |false=>rw[hg]at h;cases h
  |true=>
   rw[hg]at h;simp only[ai]at h;have hg':g=g':=by simpa using hg
   subst hg';split at h;rename_i y hy;obtain⟨r,hr,h⟩:=aF.1 h;cases h;have h1:=zm hy;rw[bc]at h1;rw[nM,h1,nK hr];cases h
 | .bot::l,[],x,h=>by simp[gG]at h
 | .ptr s off::l,[],x,h=>by simp[gG]at h
 | .fn f::l,[],x,h=>by simp[gG]at h
 | .bot::l,v::vs,x,h=>by simp only[gG]at h;cases hg:v.Rj with|false=>rw[hg]at h;cases h|true=>rw[hg]at h;rw[Pw hg,nM,nK (l:=l) h]
 | .ptr s off::l,v::vs,x,h=>by simp only[gG]at h;cases hg:v.Rk s off with|false=>rw[hg]at h;cases h|true=>rw[hg]at h;rw[Py hg,nM,nK (l:=l) h]
 | .fn f::l,v::vs,x,h=>by simp only[gG]at h;cases hg:v.SK f with|false=>rw[hg]at h;cases h|true=>rw[hg]at h;rw[Iu hg,nM,nK (l:=l) h]
theorem wv:∀{l:List (Option FT)}{bs:List (Option (List AC))}{x:CO l},lT l bs=some x→bs=wP l x
 |[],[],_,_=>rfl
 |[],_::_,_,h=>by simp[lT]at h
 |some t::l,[],_,h=>by simp[lT]at h
 |none::l,[],_,h=>by simp[lT]at h
 |some t::l,none::bs,_,h=>by simp[lT]at h
 |none::l,some _::bs,_,h=>by simp[lT]at h
 |none::l,none::bs,x,h=>by simp only[lT]at h;rw[wP,wv h]
 |some t::l,some cs::bs,x,h=>by simp only[lT]at h;split at h;rename_i y hy;obtain⟨r,hr,h⟩:=aF.1 h;cases h;have h1:=zm hy;rw[bc]at h1;rw[wP,h1,wv hr];cases h
theorem OU:∀{o:IoD}{cs:List AC}{x:ioD o},Mg o cs=some x→cs=T7 o x
 | .none,[],_,_=>rfl
 | .none,_::_,_,h=>by simp[Mg]at h
 | .ptr,cs,x,h=>by simp only[Mg]at h;cases hp:Px cs with|false=>rw[hp]at h;cases h|true=>unfold Px at hp;split at hp;rfl;cases hp
 | .some t,cs,x,h=>by simp only[Mg]at h;split at h;rename_i y hy;cases h;have h1:=zm hy;rw[bc]at h1;rw[T7,h1];cases h
theorem SD.T4 {d:SD}{st:AS}{x:d.D}(h:d.dec st=some x):st=d.enc x:=by unfold SD.dec at h;cases hc:(st.ep==0&&st.iss==List.replicate d.slots.length false)with|false=>rw[hc]at h;cases h|true=>rw[hc]at h;simp only[ai]at h;obtain⟨y,hy,h⟩:=aF.1 h;obtain⟨z,hz,h⟩:=aF.1 h;obtain⟨u,hu,h⟩:=aF.1 h;cases h;simp only[aj,aW]at hc;cases st with|mk slots boxes ep iss io=>simp only at hc hy hz hu;obtain⟨rfl,rfl⟩:=hc;rw[nK hy,wv hz,OU hu];rfl
theorem lok {E:Env}{Γ:bH}{an:An}{Λ:bN}{c:Code}(l:bG)(h1:Λ (fe c)=l)(n:Nat)(h2:∀(R:Type)(x:l.sd.D)(K:Ex→AS→Option R),l.run x K=yI (an.mask (fe c)) (den E Γ an Λ c) n (l.sd.enc x) K):dP E Γ an Λ c:=by refine⟨n,λR st K r h=>?_⟩;rw[h1]at h;unfold bG.go at h;cases hd:l.sd.dec st with|none=>rw[hd]at h;cases h|some x=>rw[hd]at h;rw[SD.T4 hd,←h2];exact h
end Go.Dn
