import Derived.Test.YtbebkmajekhclaaGreatDnLaw
/- Functions by the data that they take; loops by the data that they keep. -/
namespace Go.Dn
variable {v:AV} {f:Nat} {P:Program} {rs:aw (Bool×FT)}
inductive PS where
 |data (g:Bool) (t:CT)|fn (f:Nat)
variable {s:aw PS}
abbrev DY:aw PS->Type
 |[]=>Unit
 | .data _ t::r=>t.D×DY r
 | .fn _::r=>DY r
def vD:(t:CT)->aw AC->aB (t.D×aw AC)
 | .int k,.int k' n::r=>if k'=k then some (n,r) else none
 | .bool,.bool b::r=>some (b,r)
 | .str,.str s::r=>some (s,r)
 | .sl e,.sl (.arg false) e' xs::r=>if h:e'=e then some (h▸xs,r) else none
 | .sl _,.kY::r=>some ([],r)
 | .pair a b,cs=>(vD a cs).bind λx=>(vD b x.2).bind λy=>some ((x.1,y.1),y.2)
 |_,_=>none
def pH:(s:aw PS)->aw AV->aB (DY s)
 |[],[]=>some ()
 | .data g e::s,.val g' cs::xs=>bif g==g' then
  (match vD e cs with
   |some (x,[])=>(pH s xs).bind λr=>some (x,r)
   |_=>none) else none
 | .fn f::s,v::xs=>bif v.ahA f then pH s xs else none
 |_,_=>none
def nh:(s:aw PS)->DY s->aw AV
 |[],_=>[]
 | .data g e::s,a=> .val g (cellsOf e (.arg false) a.1)::nh s a.2
 | .fn f::s,a=> .one (.fn f)::nh s a
theorem ah4 {A:Rg}{hw:Nat->Nat}{w:World}:∀{t:CT}{cs r:aw AC}{x:t.D},vD t cs=some (x,r)->∀{vs:jJ}{fp:fM},bV (gU A hw w) vs cs fp-> ∃v1 v2 f1 f2,vs=v1++v2/\fp=f1++f2/\bV (gU A hw w) v1 (cellsOf t (.arg false) x) f1/\bV (gU A hw w) v2 r f2:=by
 intro t
 have one:∀{y:AC}{ys:aw AC}{vs:jJ}{fp:fM}{z:AC},bV (gU A hw w) vs (y::ys) fp->(∀v f,iV (gU A hw w) v y f->iV (gU A hw w) v z f)->
  ∃v1 v2 f1 f2,vs=v1++v2/\fp=f1++f2/\bV (gU A hw w) v1 [z] f1/\bV (gU A hw w) v2 ys f2:=by
  intro y ys vs fp z h hz
  cases vs with
  |nil=>exact h.elim
  |cons v vs=>
   obtain⟨f1,f2,rfl,h1,h2⟩:=h
   exact⟨[v],vs,f1,f2,rfl,rfl,⟨f1,[],by simp,hz v f1 h1,rfl⟩,h2⟩
 induction t with
 |int k=>intro cs r x h vs fp hr;cases cs with|nil=>simp[vD]at h|cons y ys=>cases y<;>simp[vD]at h;obtain⟨rfl,rfl,rfl⟩:=h;exact one hr λv f h=>h
 |bool=>intro cs r x h vs fp hr;cases cs with|nil=>simp[vD]at h|cons y ys=>cases y<;>simp[vD]at h;obtain⟨rfl,rfl⟩:=h;exact one hr λv f h=>h
 |str=>intro cs r x h vs fp hr;cases cs with|nil=>simp[vD]at h|cons y ys=>cases y<;>simp[vD]at h;obtain⟨rfl,rfl⟩:=h;exact one hr λv f h=>h
 |sl e _=>
  intro cs r x h vs fp hr;cases cs with
  |nil=>simp[vD]at h
  |cons y ys=>
   cases y with
   |sl fl e' xs=>
    cases fl with
    |arg k=>cases k with|true=>simp[vD]at h|false=>simp only[vD]at h;split at h;rename_i he;subst he;cases h;exact one hr λv f h=>h;cases h
    |own t=>simp[vD]at h
    |nest _ _ _ _ _ _=>simp[vD]at h
    |part _ _ _ _=>simp[vD]at h
    |gB _ _ _=>simp[vD]at h
    |loc ep pv=>simp[vD]at h
   |kY=>simp[vD]at h;obtain⟨rfl,rfl⟩:=h;refine one hr λv f h=>?_;obtain⟨rfl,rfl⟩:=h;exact⟨rfl,_,rfl,.inl ⟨⟨none,rfl⟩,rfl⟩⟩
   |_=>simp[vD]at h
 |pair a b iha ihb=>intro cs r x h vs fp hr;simp only[vD]at h;obtain⟨⟨x1,r1⟩,h1,h⟩:=ba.1 h;obtain⟨⟨x2,r2⟩,h2,h⟩:=ba.1 h;cases h;obtain⟨v1,v2,f1,f2,rfl,rfl,k1,k2⟩:=iha h1 hr;obtain⟨v3,v4,f3,f4,rfl,rfl,k3,k4⟩:=ihb h2 k2;exact⟨v1++v3,v4,f1++f3,f4,by simp,by simp,by simpa[cellsOf]using bV.append k1 k3,k4⟩
theorem UC (h:v.ahA f=true):v=.one (.fn f):=by
 unfold AV.ahA at h;split at h;rename_i f';have:f=f':=by simpa using h
 subst this;rfl;cases h
theorem adt (h:v.afu=true):v=.bot:=by unfold AV.afu at h;split at h;rfl;cases h
theorem adv {s off:Nat}(h:v.afv s off=true):v=.one (.ptr s off):=by unfold AV.afv at h;split at h;simp only[ae,bn]at h;obtain⟨rfl,rfl⟩:=h;rfl;cases h
theorem wL {A:Rg}{w:World}:∀{s:aw PS}{xs:aw AV}{a:DY s},pH s xs=some a->∀{vs:jJ},rY A w vs xs->rY A w vs (nh s a)
 |[],[],a,_,vs,h=>h
 |[],_::_,_,h,_,_=>by simp[pH]at h
 | .data g e::s,[],_,h,_,_=>by simp[pH]at h
 | .data g e::s,.yE _::xs,_,h,_,_=>by simp[pH]at h
 | .data g e::s,.val g' cs::xs,a,h,vs,hr=>by
  simp only[pH]at h;cases hg:g==g' with
  |false=>rw[hg]at h;cases h
  |true=>
   rw[hg]at h;simp only[ah]at h;have qb:g=g':=by simpa using hg
   subst qb;split at h;rename_i x hx;obtain⟨r,hr',h⟩:=ba.1 h;cases h;cases vs with
   |nil=>exact hr.elim
   |cons v vs=>
    obtain⟨⟨us,gD,hu⟩,h2⟩:=hr;obtain⟨v1,v2,f1,f2,rfl,hf,k1,k2⟩:=ah4 hx hu;have WR:v2=[]:=by cases v2 with|nil=>rfl|cons _ _=>exact k2.elim
    subst WR;have hf1:f1=[]:=by have:=hf.symm;simp at this;exact this.1
    subst hf1;rw[bD]at gD;exact⟨⟨v1,gD,k1⟩,wL hr' h2⟩
   cases h
 | .fn f::s,[],a,h,vs,hr=>by simp[pH]at h
 | .fn f::s,v::xs,a,h,vs,hr=>by simp only[pH]at h;cases hg:v.ahA f with|false=>rw[hg]at h;cases h|true=>rw[hg]at h;have:=UC hg;subst this;cases vs with|nil=>exact hr.elim|cons v vs=>exact⟨hr.1,wL h hr.2⟩
def TX (s:aw PS)(rs:aw (Bool×FT))(F:DY s->aB (mx rs)):lK:={R:=mx rs,fn:=λxs=>aa (pH s xs) F,av:=Cp rs}
theorem jl.of {G:aw AV->aB (mx rs)}(h:jl P f {R:=mx rs,fn:=G,av:=Cp rs}){F:DY s->aB (mx rs)}(hF:∀a,G (nh s a)=F a):jl P f (TX s rs F):=by
 intro xs y hy;simp only[TX]at hy y;cases ha:pH s xs with
 |none=>rw[ha]at hy;cases hy
 |some a=>
  rw[ha]at hy;have XW:G (nh s a)=some y:=by rw[hF a];exact hy
  have hh:=h (nh s a) y XW;exact⟨hh.1,λ_ _ A w vs hA hr=>hh.2.1 rfl rfl A w vs hA (wL ha hr),λh=>(by cases h),λh=>(by cases h),λh=>(by cases h)⟩
def GB (s:aw PS)(rs SL:aw (Bool×FT))(h:mx SL=mx rs)(F:DY s->aB (Bool×mx rs)):lK:=
 {R:=Bool×mx rs,fn:=λxs=>aa (pH s xs) F,av:=λy=>Cp rs y.2,sel:=λy=>y.1,alt:=λy=>Cp SL (cast h.symm y.2)}
theorem jl.ofAlt {SL:aw (Bool×FT)}{h2:mx SL=mx rs}{G:aw AV->aB (Bool×mx rs)}(h:jl P f {R:=Bool×mx rs,fn:=G,av:=λy=>Cp rs y.2,sel:=λy=>y.1,alt:=λy=>Cp SL (cast h2.symm y.2)}){F:DY s->aB (Bool×mx rs)}(hF:∀a,G (nh s a)=F a):jl P f (GB s rs SL h2 F):=by
 intro xs y hy;simp only[GB]at hy y;cases ha:pH s xs with
 |none=>rw[ha]at hy;cases hy
 |some a=>
  rw[ha]at hy;have XW:G (nh s a)=some y:=by rw[hF a];exact hy
  have hh:=h (nh s a) y XW;exact⟨hh.1,λ_ _ A w vs hA hr=>hh.2.1 rfl rfl A w vs hA (wL ha hr),λh=>(by cases h),λh=>(by cases h),λh=>(by cases h)⟩
def akd (s:aw PS)(rs:aw (Bool×FT))(F:DY s->aB (Bool×mx rs)):lK:=
 {R:=Bool×mx rs,fn:=λxs=>aa (pH s xs) λa=>alD (F a),av:=λy=>Cp rs y.2}
theorem jl.only {SL:aw (Bool×FT)}{h2:mx SL=mx rs}{F:DY s->aB (Bool×mx rs)}(h:jl P f (GB s rs SL h2 F)):jl P f (akd s rs F):=by
 intro xs y hy;simp only[akd]at hy y;cases ha:pH s xs with
 |none=>rw[ha]at hy;cases hy
 |some a=>
  rw[ha]at hy;have hy:alD (F a)=some y:=hy;unfold alD at hy;cases hF:F a with
  |none=>rw[hF]at hy;cases hy
  |some r=>
   rw[hF]at hy;cases h1:r.1 with
   |false=>simp only[aa,h1,af]at hy;cases hy
   |true=>
    simp only[aa,h1,ah,bu]at hy;subst hy;have hf:(GB s rs SL h2 F).fn xs=some r:=by show aa (pH s xs) F=some r;rw[ha];exact hF
    have hh:=h xs r hf;have hr:(GB s rs SL h2 F).res r=Cp rs r.2:=by show cond r.1 (Cp rs r.2) _=_;rw[h1];rfl
    refine⟨hh.1,λ_ _ A w vs hA SK=>?_,λh=>(by cases h),λh=>(by cases h),λh=>(by cases h)⟩;have q:=hh.2.1 rfl rfl A w vs hA SK;rw[hr]at q;exact q
def FT.Ka:FT->Bool
 | .sl .arg _=>true
 | .sl .Bp _=>true
 | .sl _ _=>false
 | .pair a b=>a.Ka&&b.Ka
 |_=>true
theorem Gq:∀{t:FT},t.Ka=true->∀x:t.ct.D,(kI t x).all AC.Ka=true
 | .int _,_,_=>rfl
 | .bool,_,_=>rfl
 | .str,_,_=>rfl
 | .sl fl e,h,_=>by cases fl<;>first|rfl|cases h
 | .pair a b,h,x=>by simp only[FT.Ka,ae]at h;simp only[kI,List.all_append,ae];exact⟨Gq h.1 x.1,Gq h.2 x.2⟩
def lf (t:FT)(s:aw PS)(rs:aw (Bool×FT))(F:t.ct.D->DY s->aB (mx rs×t.ct.D)):lK:=
 {R:=mx rs×t.ct.D,fn:=λxs=>match xs with
  | .val true cs::rest=>(match Pg t cs with|some (x,[])=>aa (pH s rest) (F x)|_=>none)
  |_=>none,av:=λy=>Cp rs y.1,back:=λy=>kI t y.2,bx:=true,cur:=t.Ka,hcur:=λh y=>Gq h y.2}
theorem jl.tA {t:FT}{G:aw AV->aB (mx rs×t.ct.D)}(h:jl P f {R:=mx rs×t.ct.D,fn:=G,av:=λy=>Cp rs y.1,back:=λy=>kI t y.2,bx:=true}){F:t.ct.D->DY s->aB (mx rs×t.ct.D)}(hF:∀x a,G (.val true (kI t x)::nh s a)=F x a):jl P f (lf t s rs F):=by
 intro xs y hy;simp only[lf]at hy y;split at hy;rename_i cs rest;split at hy;rename_i x hx;cases ha:pH s rest with
 |none=>rw[ha]at hy;cases hy
 |some a=>
  rw[ha]at hy;have XW:G (.val true (kI t x)::nh s a)=some y:=by rw[hF x a];exact hy
  have Mn:=AB hx;rw[bD]at Mn;have hh:=h _ y XW;refine⟨hh.1,λ_ h=>(by cases h),λh=>(by cases h),λ_ TS atc he A w b vs arr T fr hw fp hA lQ uR fZ hn yJ hG J5 ib=>?_,λh=>(by cases h)⟩;injection he with he1 he2;injection he1 with _ he3;subst he2;subst he3;rw[Mn]at fZ;exact hh.2.2.2.1 rfl (kI t x) (nh s a) rfl A w b vs arr T fr hw fp hA lQ uR fZ hn yJ hG J5 (wL ha ib)
 cases hy;cases hy
def acJ (t:FT)(s:aw PS)(F:DY s->aB t.ct.D):lK:=
 {R:=t.ct.D,fn:=λxs=>aa (pH s xs) F,av:=λ_=> .bot,back:=λy=>kI t y,pr:=true}
theorem jl.as7 {t:FT}{G:aw AV->aB t.ct.D}(h:jl P f {R:=t.ct.D,fn:=G,av:=λ_=> .bot,back:=λy=>kI t y,pr:=true}){F:DY s->aB t.ct.D}(hF:∀a,G (nh s a)=F a):jl P f (acJ t s F):=by
 intro xs y hy;simp only[acJ]at hy y;cases ha:pH s xs with
 |none=>rw[ha]at hy;cases hy
 |some a=>
  rw[ha]at hy;have XW:G (nh s a)=some y:=by rw[hF a];exact hy
  have hh:=h _ y XW;exact⟨hh.1,λh1 h2 A w vs hA hr=>hh.2.1 h1 h2 A w vs hA (wL ha hr),λh=>(by cases h),λh=>(by cases h),λ_ A w vs hA hr=>hh.2.2.2.2 rfl A w vs hA (wL ha hr)⟩
theorem UK {R σ:Type}{key:fM}{B:AS->(Ex->AS->aB R)->aB R}{K:Ex->AS->aB R}(enc:σ->AS)(T:(σ->aB R)->σ->aB R)
 (h:∀m x,DJ key B (m+1) (enc x) K=T (λy=>DJ key B m (enc y) K) x):∀m x,DJ key B m (enc x) K=bj T m x
 |0,_=>rfl
 |m+1,x=>by rw[h m x];have:(λy=>DJ key B m (enc y) K)=bj T m:=funext λy=>UK enc T h m y;rw[this];rfl
theorem vg:∀{l:aw PD}{vs:aw AV}{x:Nc l},lC l vs=some x->vs=vh l x
 |[],[],_,_=>rfl
 |[],_::_,_,h=>by simp[lC]at h
 | .data g t::l,[],_,h=>by simp[lC]at h
 | .data g t::l,.yE _::vs,_,h=>by simp[lC]at h
 | .data g t::l,.val g' cs::vs,x,h=>by
  simp only[lC]at h;cases hg:g==g' with
  |false=>rw[hg]at h;cases h
  |true=>
   rw[hg]at h;simp only[ah]at h;have qb:g=g':=by simpa using hg
   subst qb;split at h;rename_i y hy;obtain⟨r,hr,h⟩:=ba.1 h;cases h;have h1:=AB hy;rw[bD]at h1;rw[vh,h1,vg hr];cases h
 | .bot::l,[],x,h=>by simp[lC]at h
 | .ptr s off::l,[],x,h=>by simp[lC]at h
 | .fn f::l,[],x,h=>by simp[lC]at h
 | .bot::l,v::vs,x,h=>by simp only[lC]at h;cases hg:v.afu with|false=>rw[hg]at h;cases h|true=>rw[hg]at h;rw[adt hg,vh,vg (l:=l) h]
 | .ptr s off::l,v::vs,x,h=>by simp only[lC]at h;cases hg:v.afv s off with|false=>rw[hg]at h;cases h|true=>rw[hg]at h;rw[adv hg,vh,vg (l:=l) h]
 | .fn f::l,v::vs,x,h=>by simp only[lC]at h;cases hg:v.ahA f with|false=>rw[hg]at h;cases h|true=>rw[hg]at h;rw[UC hg,vh,vg (l:=l) h]
theorem D2:∀{l:aw (aB FT)}{bs:aw (aB (aw AC))}{x:L8 l},sV l bs=some x->bs=Et l x
 |[],[],_,_=>rfl
 |[],_::_,_,h=>by simp[sV]at h
 |some t::l,[],_,h=>by simp[sV]at h
 |none::l,[],_,h=>by simp[sV]at h
 |some t::l,none::bs,_,h=>by simp[sV]at h
 |none::l,some _::bs,_,h=>by simp[sV]at h
 |none::l,none::bs,x,h=>by simp only[sV]at h;rw[Et,D2 h]
 |some t::l,some cs::bs,x,h=>by simp only[sV]at h;split at h;rename_i y hy;obtain⟨r,hr,h⟩:=ba.1 h;cases h;have h1:=AB hy;rw[bD]at h1;rw[Et,h1,D2 hr];cases h
theorem acF:∀{o:IoD}{cs:aw AC}{x:ioD o},Yq o cs=some x->cs=akc o x
 | .none,[],_,_=>rfl
 | .none,_::_,_,h=>by simp[Yq]at h
 | .ptr,cs,x,h=>by simp only[Yq]at h;cases hp:adu cs with|false=>rw[hp]at h;cases h|true=>unfold adu at hp;split at hp;rfl;cases hp
 | .some t,cs,x,h=>by simp only[Yq]at h;split at h;rename_i y hy;cases h;have h1:=AB hy;rw[bD]at h1;rw[akc,h1];cases h
theorem SD.Yr {d:SD}{st:AS}{x:d.D}(h:d.dec st=some x):st=d.enc x:=by unfold SD.dec at h;cases hc:(st.ep==0&&st.iss==List.replicate d.slots.length false)with|false=>rw[hc]at h;cases h|true=>rw[hc]at h;simp only[ah]at h;obtain⟨y,hy,h⟩:=ba.1 h;obtain⟨z,hz,h⟩:=ba.1 h;obtain⟨u,hu,h⟩:=ba.1 h;cases h;simp only[ae,bn]at hc;cases st with|mk slots boxes ep iss io=>simp only at hc hy hz hu;obtain⟨rfl,rfl⟩:=hc;rw[vg hy,D2 hz,acF hu];rfl
theorem lok {E:Env}{Γ:Cn}{an:An}{Λ:mc}{c:Code}(l:L3)(h1:Λ (fC c)=l)(n:Nat)(h2:∀(R:Type)(x:l.sd.D)(K:Ex->AS->aB R),l.run x K=DJ (an.mask (fC c)) (den E Γ an Λ c) n (l.sd.enc x) K):xo E Γ an Λ c:=by refine⟨n,λR st K r h=>?_⟩;rw[h1]at h;unfold L3.go at h;cases hd:l.sd.dec st with|none=>rw[hd]at h;cases h|some x=>rw[hd]at h;rw[SD.Yr hd,<-h2];exact h
theorem cok {E:Env}{Γ:Cn}{an:An}{Λ:mc}{c:Code}(l:L3)(h1:Λ (Gt c)=l)(h2:∀(R:Type)(x:l.sd.D)(K:Ex->AS->aB R),l.run x K=den E Γ an Λ c (l.sd.enc x) (λe cj=>K e (cj.mask (an.mask (Gt c+1))))):SE E Γ an Λ c:=by intro R st K r h;rw[h1]at h;unfold L3.go at h;cases hd:l.sd.dec st with|none=>rw[hd]at h;cases h|some x=>rw[hd]at h;rw[SD.Yr hd,<-h2];exact h
end Go.Dn
