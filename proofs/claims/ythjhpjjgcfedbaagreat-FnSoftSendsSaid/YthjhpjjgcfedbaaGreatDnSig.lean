import Derived.Test.YthjhpjjgcfedbaaGreatDnLaw
/- Functions by the data that they take; loops by the data that they keep. -/
namespace Go.Dn
inductive PS where
 |data (g:Bool) (t:CT)|fn (f:Nat)
abbrev qv:List PS→Type
 |[]=>Unit
 | .data _ t::r=>t.D×qv r
 | .fn _::r=>qv r
def jI:(t:CT)→List AC→Option (t.D×List AC)
 | .int k,.int k' n::r=>if k'=k then some (n,r) else none
 | .bool,.bool b::r=>some (b,r)
 | .str,.str s::r=>some (s,r)
 | .sl e,.sl (.arg false) e' xs::r=>if h:e'=e then some (h▸xs,r) else none
 | .sl _,.nilsl::r=>some ([],r)
 | .pair a b,cs=>(jI a cs).bind λx=>(jI b x.2).bind λy=>some ((x.1,y.1),y.2)
 |_,_=>none
def gL:(s:List PS)→List AV→Option (qv s)
 |[],[]=>some ()
 | .data g e::s,.val g' cs::xs=>bif g==g' then
  (match jI e cs with
   |some (x,[])=>(gL s xs).bind λr=>some (x,r)
   |_=>none) else none
 | .fn f::s,v::xs=>bif v.GJ f then gL s xs else none
 |_,_=>none
def fg:(s:List PS)→qv s→List AV
 |[],_=>[]
 | .data g e::s,a=> .val g (cellsOf e (.arg false) a.1)::fg s a.2
 | .fn f::s,a=> .one (.fn f)::fg s a
theorem Ha {A:Rg}{hw:Nat→Nat}{w:World}:∀{t:CT}{cs r:List AC}{x:t.D},jI t cs=some (x,r)→∀{vs:List Value}{fp:List Nat},aM (cy A hw w) vs cs fp→ ∃v1 v2 f1 f2,vs=v1++v2∧fp=f1++f2∧aM (cy A hw w) v1 (cellsOf t (.arg false) x) f1∧aM (cy A hw w) v2 r f2:=by
 intro t
 have one:∀{y:AC}{ys:List AC}{vs:List Value}{fp:List Nat}{z:AC},aM (cy A hw w) vs (y::ys) fp→(∀v f,dq (cy A hw w) v y f→dq (cy A hw w) v z f)→
  ∃v1 v2 f1 f2,vs=v1++v2∧fp=f1++f2∧aM (cy A hw w) v1 [z] f1∧aM (cy A hw w) v2 ys f2:=by
  intro y ys vs fp z h hz
  cases vs with
  |nil=>exact h.elim
  |cons v vs=>
   obtain⟨f1,f2,rfl,h1,h2⟩:=h
   exact⟨[v],vs,f1,f2,rfl,rfl,⟨f1,[],by simp,hz v f1 h1,rfl⟩,h2⟩
 induction t with
 |int k=>intro cs r x h vs fp hr;cases cs with|nil=>simp[jI]at h|cons y ys=>cases y<;>simp[jI]at h;obtain⟨rfl,rfl,rfl⟩:=h;exact one hr λv f h=>h
 |bool=>intro cs r x h vs fp hr;cases cs with|nil=>simp[jI]at h|cons y ys=>cases y<;>simp[jI]at h;obtain⟨rfl,rfl⟩:=h;exact one hr λv f h=>h
 |str=>intro cs r x h vs fp hr;cases cs with|nil=>simp[jI]at h|cons y ys=>cases y<;>simp[jI]at h;obtain⟨rfl,rfl⟩:=h;exact one hr λv f h=>h
 |sl e _=>
  intro cs r x h vs fp hr;cases cs with
  |nil=>simp[jI]at h
  |cons y ys=>
   cases y with
   |sl fl e' xs=>
    cases fl with
    |arg k=>cases k with|true=>simp[jI]at h|false=>simp only[jI]at h;split at h;rename_i he;subst he;cases h;exact one hr λv f h=>h;cases h
    |own t=>simp[jI]at h
    |nest _ _ _ _ _ _=>simp[jI]at h
    |part _ _ _ _=>simp[jI]at h
    |holed _ _ _=>simp[jI]at h
    |loc ep pv=>simp[jI]at h
   |nilsl=>simp[jI]at h;obtain⟨rfl,rfl⟩:=h;refine one hr λv f h=>?_;obtain⟨rfl,rfl⟩:=h;exact⟨rfl,_,rfl,.inl ⟨⟨none,rfl⟩,rfl⟩⟩
   |_=>simp[jI]at h
 |pair a b iha ihb=>intro cs r x h vs fp hr;simp only[jI]at h;obtain⟨⟨x1,r1⟩,h1,h⟩:=aw.1 h;obtain⟨⟨x2,r2⟩,h2,h⟩:=aw.1 h;cases h;obtain⟨v1,v2,f1,f2,rfl,rfl,k1,k2⟩:=iha h1 hr;obtain⟨v3,v4,f3,f4,rfl,rfl,k3,k4⟩:=ihb h2 k2;exact⟨v1++v3,v4,f1++f3,f4,by simp,by simp,by simpa[cellsOf]using aM.append k1 k3,k4⟩
theorem yM {v:AV}{f:Nat}(h:v.GJ f=true):v=.one (.fn f):=by
 unfold AV.GJ at h;split at h;rename_i f';have:f=f':=by simpa using h
 subst this;rfl;cases h
theorem Eb {v:AV}(h:v.FC=true):v=.bot:=by unfold AV.FC at h;split at h;rfl;cases h
theorem Ed {v:AV}{s off:Nat}(h:v.FD s off=true):v=.one (.ptr s off):=by unfold AV.FD at h;split at h;simp only[aa,aS]at h;obtain⟨rfl,rfl⟩:=h;rfl;cases h
theorem iJ {A:Rg}{w:World}:∀{s:List PS}{xs:List AV}{a:qv s},gL s xs=some a→∀{vs:List Value},fS A w vs xs→fS A w vs (fg s a)
 |[],[],a,_,vs,h=>h
 |[],_::_,_,h,_,_=>by simp[gL]at h
 | .data g e::s,[],_,h,_,_=>by simp[gL]at h
 | .data g e::s,.tup _::xs,_,h,_,_=>by simp[gL]at h
 | .data g e::s,.val g' cs::xs,a,h,vs,hr=>by
  simp only[gL]at h;cases hg:g==g' with
  |false=>rw[hg]at h;cases h
  |true=>
   rw[hg]at h;simp only[af]at h;have hg':g=g':=by simpa using hg
   subst hg';split at h;rename_i x hx;obtain⟨r,hr',h⟩:=aw.1 h;cases h;cases vs with
   |nil=>exact hr.elim
   |cons v vs=>
    obtain⟨⟨us,hcut,hu⟩,h2⟩:=hr;obtain⟨v1,v2,f1,f2,rfl,hf,k1,k2⟩:=Ha hx hu;have hv2:v2=[]:=by cases v2 with|nil=>rfl|cons _ _=>exact k2.elim
    subst hv2;have hf1:f1=[]:=by have:=hf.symm;simp at this;exact this.1
    subst hf1;rw[aQ]at hcut;exact⟨⟨v1,hcut,k1⟩,iJ hr' h2⟩
   cases h
 | .fn f::s,[],a,h,vs,hr=>by simp[gL]at h
 | .fn f::s,v::xs,a,h,vs,hr=>by simp only[gL]at h;cases hg:v.GJ f with|false=>rw[hg]at h;cases h|true=>rw[hg]at h;have:=yM hg;subst this;cases vs with|nil=>exact hr.elim|cons v vs=>exact⟨hr.1,iJ h hr.2⟩
def aO (s:List PS)(rs:List (Bool×FT))(F:qv s→Option (fa rs)):aZ:={R:=fa rs,fn:=λxs=>ab (gL s xs) F,av:=mX rs}
theorem aP.of {P:Program}{f:Nat}{s:List PS}{rs:List (Bool×FT)}{G:List AV→Option (fa rs)}(h:aP P f {R:=fa rs,fn:=G,av:=mX rs}){F:qv s→Option (fa rs)}(hF:∀a,G (fg s a)=F a):aP P f (aO s rs F):=by
 intro xs y hy;simp only[aO]at hy y;cases ha:gL s xs with
 |none=>rw[ha]at hy;cases hy
 |some a=>
  rw[ha]at hy;have hy':G (fg s a)=some y:=by rw[hF a];exact hy
  have hh:=h (fg s a) y hy';exact⟨hh.1,λ_ _ A w vs hA hr=>hh.2.1 rfl rfl A w vs hA (iJ ha hr),λh=>(by cases h),λh=>(by cases h),λh=>(by cases h)⟩
def Ih (s:List PS)(rs rs2:List (Bool×FT))(h:fa rs2=fa rs)(F:qv s→Option (Bool×fa rs)):aZ:=
 {R:=Bool×fa rs,fn:=λxs=>ab (gL s xs) F,av:=λy=>mX rs y.2,sel:=λy=>y.1,alt:=λy=>mX rs2 (cast h.symm y.2)}
theorem aP.ofAlt {P:Program}{f:Nat}{s:List PS}{rs rs2:List (Bool×FT)}{h2:fa rs2=fa rs}{G:List AV→Option (Bool×fa rs)}(h:aP P f {R:=Bool×fa rs,fn:=G,av:=λy=>mX rs y.2,sel:=λy=>y.1,alt:=λy=>mX rs2 (cast h2.symm y.2)}){F:qv s→Option (Bool×fa rs)}(hF:∀a,G (fg s a)=F a):aP P f (Ih s rs rs2 h2 F):=by
 intro xs y hy;simp only[Ih]at hy y;cases ha:gL s xs with
 |none=>rw[ha]at hy;cases hy
 |some a=>
  rw[ha]at hy;have hy':G (fg s a)=some y:=by rw[hF a];exact hy
  have hh:=h (fg s a) y hy';exact⟨hh.1,λ_ _ A w vs hA hr=>hh.2.1 rfl rfl A w vs hA (iJ ha hr),λh=>(by cases h),λh=>(by cases h),λh=>(by cases h)⟩
def LO (t:CT)(gg:Bool)(s:List PS)(rs:List (Bool×FT))(F:t.D→qv s→Option (fa rs×t.D)):aZ:=
 {R:=fa rs×t.D,fn:=λxs=>match xs with
  | .val g cs::rest=>bif gg==g then(match dV t cs with|some (x,[])=>ab (gL s rest) (F x)|_=>none) else none
  |_=>none,av:=λy=>mX rs y.1,io:=true,back:=λy=>cellsOf t (.own none) y.2}
theorem aP.YG {P:Program}{f:Nat}{t:CT}{gg:Bool}{s:List PS}{rs:List (Bool×FT)}{G:List AV→Option (fa rs×t.D)}(h:aP P f {R:=fa rs×t.D,fn:=G,av:=λy=>mX rs y.1,io:=true,back:=λy=>cellsOf t (.own none) y.2}){F:t.D→qv s→Option (fa rs×t.D)}(hF:∀x a,G (.val gg (cellsOf t (.own none) x)::fg s a)=F x a):aP P f (LO t gg s rs F):=by
 intro xs y hy;simp only[LO]at hy y;split at hy;rename_i g cs rest;cases hg:(gg==g)with
 |false=>rw[hg]at hy;cases hy
 |true=>
  rw[hg]at hy;have:gg=g:=by simpa using hg
  subst this;simp only[af]at hy;split at hy;rename_i x hx;cases ha:gL s rest with
  |none=>rw[ha]at hy;cases hy
  |some a=>
   rw[ha]at hy;have hy':G (.val gg (cellsOf t (.own none) x)::fg s a)=some y:=by rw[hF x a];exact hy
   have hh:=h _ y hy';refine⟨hh.1,λh=>(by cases h),λ_ g0 cs0 rest0 he A w v0 vs hw fp hA hrel hn hlt hargs=>?_,λh=>(by cases h),λh=>(by cases h)⟩;injection he with he1 he2;injection he1 with he1 he3;subst he1;subst he2;subst he3;refine hh.2.2.1 rfl gg (cellsOf t (.own none) x) (fg s a) rfl A w v0 vs hw fp hA ?_ hn hlt (iJ ha hargs);obtain⟨us,hcut,hrel⟩:=hrel;obtain⟨f1,f2,rfl,hown,hrest⟩:=gF hrel hx;have hnil:us.drop t.size=[]:=by cases hd:us.drop t.size with|nil=>rfl|cons _ _=>rw[hd]at hrest;exact hrest.elim
   rw[hnil]at hrest;have hf2:f2=[]:=hrest;subst hf2;have htake:us.take t.size=us:=by have:=bt t.size us;rw[hnil,aQ]at this;exact this
   rw[htake]at hown;rw[aQ];exact⟨us,hcut,jc (c:=cy A hw w) hown⟩
  cases hy
 cases hy
def FT.sL:FT→Bool
 | .sl .arg _=>true
 | .sl .arg0 _=>true
 | .sl _ _=>false
 | .pair a b=>a.sL&&b.sL
 |_=>true
theorem qz:∀{t:FT},t.sL=true→∀x:t.ct.D,(ez t x).all AC.sL=true
 | .int _,_,_=>rfl
 | .bool,_,_=>rfl
 | .str,_,_=>rfl
 | .sl fl e,h,_=>by cases fl<;>first|rfl|cases h
 | .pair a b,h,x=>by simp only[FT.sL,aa]at h;simp only[ez,List.all_append,aa];exact⟨qz h.1 x.1,qz h.2 x.2⟩
def eP (t:FT)(s:List PS)(rs:List (Bool×FT))(F:t.ct.D→qv s→Option (fa rs×t.ct.D)):aZ:=
 {R:=fa rs×t.ct.D,fn:=λxs=>match xs with
  | .val true cs::rest=>(match vC t cs with|some (x,[])=>ab (gL s rest) (F x)|_=>none)
  |_=>none,av:=λy=>mX rs y.1,back:=λy=>ez t y.2,bx:=true,cur:=t.sL,hcur:=λh y=>qz h y.2}
theorem aP.jt {P:Program}{f:Nat}{t:FT}{s:List PS}{rs:List (Bool×FT)}{G:List AV→Option (fa rs×t.ct.D)}(h:aP P f {R:=fa rs×t.ct.D,fn:=G,av:=λy=>mX rs y.1,back:=λy=>ez t y.2,bx:=true}){F:t.ct.D→qv s→Option (fa rs×t.ct.D)}(hF:∀x a,G (.val true (ez t x)::fg s a)=F x a):aP P f (eP t s rs F):=by
 intro xs y hy;simp only[eP]at hy y;split at hy;rename_i cs rest;split at hy;rename_i x hx;cases ha:gL s rest with
 |none=>rw[ha]at hy;cases hy
 |some a=>
  rw[ha]at hy;have hy':G (.val true (ez t x)::fg s a)=some y:=by rw[hF x a];exact hy
  have hsp:=mG hx;rw[aQ]at hsp;have hh:=h _ y hy';refine⟨hh.1,λ_ h=>(by cases h),λh=>(by cases h),λ_ cs0 rest0 he A w b vs arr T fr hw fp hA hblk hth hrel hn hnb hlt hw0 hargs=>?_,λh=>(by cases h)⟩;injection he with he1 he2;injection he1 with _ he3;subst he2;subst he3;rw[hsp]at hrel;exact hh.2.2.2.1 rfl (ez t x) (fg s a) rfl A w b vs arr T fr hw fp hA hblk hth hrel hn hnb hlt hw0 (iJ ha hargs)
 cases hy;cases hy
def DM (t:FT)(s:List PS)(F:qv s→Option t.ct.D):aZ:=
 {R:=t.ct.D,fn:=λxs=>ab (gL s xs) F,av:=λ_=> .bot,back:=λy=>ez t y,pr:=true}
theorem aP.R3 {P:Program}{f:Nat}{t:FT}{s:List PS}{G:List AV→Option t.ct.D}(h:aP P f {R:=t.ct.D,fn:=G,av:=λ_=> .bot,back:=λy=>ez t y,pr:=true}){F:qv s→Option t.ct.D}(hF:∀a,G (fg s a)=F a):aP P f (DM t s F):=by
 intro xs y hy;simp only[DM]at hy y;cases ha:gL s xs with
 |none=>rw[ha]at hy;cases hy
 |some a=>
  rw[ha]at hy;have hy':G (fg s a)=some y:=by rw[hF a];exact hy
  have hh:=h _ y hy';exact⟨hh.1,λh1 h2 A w vs hA hr=>hh.2.1 h1 h2 A w vs hA (iJ ha hr),λh=>(by cases h),λh=>(by cases h),λ_ A w vs hA hr=>hh.2.2.2.2 rfl A w vs hA (iJ ha hr)⟩
theorem yR {R σ:Type}{key:List Nat}{B:AS→(Ex→AS→Option R)→Option R}{K:Ex→AS→Option R}(enc:σ→AS)(T:(σ→Option R)→σ→Option R)
 (h:∀m x,qp key B (m+1) (enc x) K=T (λy=>qp key B m (enc y) K) x):∀m x,qp key B m (enc x) K=bc T m x
 |0,_=>rfl
 |m+1,x=>by rw[h m x];have:(λy=>qp key B m (enc y) K)=bc T m:=funext λy=>yR enc T h m y;rw[this];rfl
theorem jw:∀{l:List PD}{vs:List AV}{x:uF l},eM l vs=some x→vs=jx l x
 |[],[],_,_=>rfl
 |[],_::_,_,h=>by simp[eM]at h
 | .data g t::l,[],_,h=>by simp[eM]at h
 | .data g t::l,.tup _::vs,_,h=>by simp[eM]at h
 | .data g t::l,.val g' cs::vs,x,h=>by
  simp only[eM]at h;cases hg:g==g' with
  |false=>rw[hg]at h;cases h
  |true=>
   rw[hg]at h;simp only[af]at h;have hg':g=g':=by simpa using hg
   subst hg';split at h;rename_i y hy;obtain⟨r,hr,h⟩:=aw.1 h;cases h;have h1:=mG hy;rw[aQ]at h1;rw[jx,h1,jw hr];cases h
 | .bot::l,[],x,h=>by simp[eM]at h
 | .ptr s off::l,[],x,h=>by simp[eM]at h
 | .fn f::l,[],x,h=>by simp[eM]at h
 | .bot::l,v::vs,x,h=>by simp only[eM]at h;cases hg:v.FC with|false=>rw[hg]at h;cases h|true=>rw[hg]at h;rw[Eb hg,jx,jw (l:=l) h]
 | .ptr s off::l,v::vs,x,h=>by simp only[eM]at h;cases hg:v.FD s off with|false=>rw[hg]at h;cases h|true=>rw[hg]at h;rw[Ed hg,jx,jw (l:=l) h]
 | .fn f::l,v::vs,x,h=>by simp only[eM]at h;cases hg:v.GJ f with|false=>rw[hg]at h;cases h|true=>rw[hg]at h;rw[yM hg,jx,jw (l:=l) h]
theorem oL:∀{l:List (Option FT)}{bs:List (Option (List AC))}{x:tU l},iC l bs=some x→bs=oZ l x
 |[],[],_,_=>rfl
 |[],_::_,_,h=>by simp[iC]at h
 |some t::l,[],_,h=>by simp[iC]at h
 |none::l,[],_,h=>by simp[iC]at h
 |some t::l,none::bs,_,h=>by simp[iC]at h
 |none::l,some _::bs,_,h=>by simp[iC]at h
 |none::l,none::bs,x,h=>by simp only[iC]at h;rw[oZ,oL h]
 |some t::l,some cs::bs,x,h=>by simp only[iC]at h;split at h;rename_i y hy;obtain⟨r,hr,h⟩:=aw.1 h;cases h;have h1:=mG hy;rw[aQ]at h1;rw[oZ,h1,oL hr];cases h
theorem DJ:∀{o:OO}{cs:List AC}{x:Sf o},Bv o cs=some x→cs=Ig o x
 | .none,[],_,_=>rfl
 | .none,_::_,_,h=>by simp[Bv]at h
 | .ptr,cs,x,h=>by simp only[Bv]at h;cases hp:Ec cs with|false=>rw[hp]at h;cases h|true=>unfold Ec at hp;split at hp;rfl;cases hp
 | .some t,cs,x,h=>by simp only[Bv]at h;split at h;rename_i y hy;cases h;have h1:=mG hy;rw[aQ]at h1;rw[Ig,h1];cases h
theorem SD.Bw {d:SD}{st:AS}{x:d.D}(h:d.dec st=some x):st=d.enc x:=by unfold SD.dec at h;cases hc:(st.ep==0&&st.iss==List.replicate d.slots.length false)with|false=>rw[hc]at h;cases h|true=>rw[hc]at h;simp only[af]at h;obtain⟨y,hy,h⟩:=aw.1 h;obtain⟨z,hz,h⟩:=aw.1 h;obtain⟨u,hu,h⟩:=aw.1 h;cases h;simp only[aa,aS]at hc;cases st with|mk slots boxes ep iss io=>simp only at hc hy hz hu;obtain⟨rfl,rfl⟩:=hc;rw[jw hy,oL hz,DJ hu];rfl
theorem X3 {E:Env}{Γ:cH}{an:An}{Λ:cZ}{c:Code}(l:cI)(h1:Λ (cS c)=l)(n:Nat)(h2:∀(R:Type)(x:l.sd.D)(K:Ex→AS→Option R),l.run x K=qp (an.mask (cS c)) (den E Γ an Λ c) n (l.sd.enc x) K):im E Γ an Λ c:=by refine⟨n,λR st K r h=>?_⟩;rw[h1]at h;unfold cI.go at h;cases hd:l.sd.dec st with|none=>rw[hd]at h;cases h|some x=>rw[hd]at h;rw[SD.Bw hd,←h2];exact h
theorem WT {E:Env}{Γ:cH}{an:An}{Λ:cZ}{c:Code}(l:cI)(h1:Λ (qB c)=l)(h2:∀(R:Type)(x:l.sd.D)(K:Ex→AS→Option R),l.run x K=den E Γ an Λ c (l.sd.enc x) (λe st'=>K e (st'.mask (an.mask (qB c+1))))):Dc E Γ an Λ c:=by intro R st K r h;rw[h1]at h;unfold cI.go at h;cases hd:l.sd.dec st with|none=>rw[hd]at h;cases h|some x=>rw[hd]at h;rw[SD.Bw hd,←h2];exact h
end Go.Dn
