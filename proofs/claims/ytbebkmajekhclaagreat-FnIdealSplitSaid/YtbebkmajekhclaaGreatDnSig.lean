import Derived.Test.YtbebkmajekhclaaGreatDnLaw
/- Functions by the data that they take; loops by the data that they keep. -/
namespace Go.Dn
variable {v:AV} {f:Nat} {P:Program} {rs:aw (Bool×FT)}
inductive PS where
 |data (g:Bool) (t:CT)|fn (f:Nat)
variable {s:aw PS}
abbrev Er:aw PS->Type
 |[]=>Unit
 | .data _ t::r=>t.D×Er r
 | .fn _::r=>Er r
def vp:(t:CT)->aw AC->az (t.D×aw AC)
 | .int k,.int k' n::r=>if k'=k then some (n,r) else none
 | .bool,.bool b::r=>some (b,r)
 | .str,.str s::r=>some (s,r)
 | .sl e,.sl (.arg false) e' xs::r=>if h:e'=e then some (h▸xs,r) else none
 | .sl _,.kv::r=>some ([],r)
 | .pair a b,cs=>(vp a cs).bind λx=>(vp b x.2).bind λy=>some ((x.1,y.1),y.2)
 |_,_=>none
def pL:(s:aw PS)->aw AV->az (Er s)
 |[],[]=>some ()
 | .data g e::s,.val g' cs::xs=>bif g==g' then
  (match vp e cs with
   |some (x,[])=>(pL s xs).bind λr=>some (x,r)
   |_=>none) else none
 | .fn f::s,v::xs=>bif v.ahu f then pL s xs else none
 |_,_=>none
def ot:(s:aw PS)->Er s->aw AV
 |[],_=>[]
 | .data g e::s,a=> .val g (cellsOf e (.arg false) a.1)::ot s a.2
 | .fn f::s,a=> .one (.fn f)::ot s a
theorem ahW {A:Rg}{hw:Nat->Nat}{w:World}:∀{t:CT}{cs r:aw AC}{x:t.D},vp t cs=some (x,r)->∀{vs:jf}{fp:fA},ca (gC A hw w) vs cs fp-> ∃v1 v2 f1 f2,vs=v1++v2/\fp=f1++f2/\ca (gC A hw w) v1 (cellsOf t (.arg false) x) f1/\ca (gC A hw w) v2 r f2:=by
 intro t
 have one:∀{y:AC}{ys:aw AC}{vs:jf}{fp:fA}{z:AC},ca (gC A hw w) vs (y::ys) fp->(∀v f,iy (gC A hw w) v y f->iy (gC A hw w) v z f)->
  ∃v1 v2 f1 f2,vs=v1++v2/\fp=f1++f2/\ca (gC A hw w) v1 [z] f1/\ca (gC A hw w) v2 ys f2:=by
  intro y ys vs fp z h hz
  cases vs with
  |nil=>exact h.elim
  |cons v vs=>
   obtain⟨f1,f2,rfl,h1,h2⟩:=h
   exact⟨[v],vs,f1,f2,rfl,rfl,⟨f1,[],by simp,hz v f1 h1,rfl⟩,h2⟩
 induction t with
 |int k=>intro cs r x h vs fp hr;cases cs with|nil=>simp[vp]at h|cons y ys=>cases y<;>simp[vp]at h;obtain⟨rfl,rfl,rfl⟩:=h;exact one hr λv f h=>h
 |bool=>intro cs r x h vs fp hr;cases cs with|nil=>simp[vp]at h|cons y ys=>cases y<;>simp[vp]at h;obtain⟨rfl,rfl⟩:=h;exact one hr λv f h=>h
 |str=>intro cs r x h vs fp hr;cases cs with|nil=>simp[vp]at h|cons y ys=>cases y<;>simp[vp]at h;obtain⟨rfl,rfl⟩:=h;exact one hr λv f h=>h
 |sl e _=>
  intro cs r x h vs fp hr;cases cs with
  |nil=>simp[vp]at h
  |cons y ys=>
   cases y with
   |sl fl e' xs=>
    cases fl with
    |arg k=>cases k with|true=>simp[vp]at h|false=>simp only[vp]at h;split at h;rename_i he;subst he;cases h;exact one hr λv f h=>h;cases h
    |own t=>simp[vp]at h
    |nest _ _ _ _ _ _=>simp[vp]at h
    |part _ _ _ _=>simp[vp]at h
    |fS _ _ _=>simp[vp]at h
    |loc ep pv=>simp[vp]at h
   |kv=>simp[vp]at h;obtain⟨rfl,rfl⟩:=h;refine one hr λv f h=>?_;obtain⟨rfl,rfl⟩:=h;exact⟨rfl,_,rfl,.inl ⟨⟨none,rfl⟩,rfl⟩⟩
   |_=>simp[vp]at h
 |pair a b iha ihb=>intro cs r x h vs fp hr;simp only[vp]at h;obtain⟨⟨x1,r1⟩,h1,h⟩:=aY.1 h;obtain⟨⟨x2,r2⟩,h2,h⟩:=aY.1 h;cases h;obtain⟨v1,v2,f1,f2,rfl,rfl,k1,k2⟩:=iha h1 hr;obtain⟨v3,v4,f3,f4,rfl,rfl,k3,k4⟩:=ihb h2 k2;exact⟨v1++v3,v4,f1++f3,f4,by simp,by simp,by simpa[cellsOf]using ca.append k1 k3,k4⟩
theorem UM (h:v.ahu f=true):v=.one (.fn f):=by
 unfold AV.ahu at h;split at h;rename_i f';have:f=f':=by simpa using h
 subst this;rfl;cases h
theorem adA (h:v.afA=true):v=.bot:=by unfold AV.afA at h;split at h;rfl;cases h
theorem adC {s off:Nat}(h:v.afB s off=true):v=.one (.ptr s off):=by unfold AV.afB at h;split at h;simp only[af,ba]at h;obtain⟨rfl,rfl⟩:=h;rfl;cases h
theorem yV {A:Rg}{w:World}:∀{s:aw PS}{xs:aw AV}{a:Er s},pL s xs=some a->∀{vs:jf},rq A w vs xs->rq A w vs (ot s a)
 |[],[],a,_,vs,h=>h
 |[],_::_,_,h,_,_=>by simp[pL]at h
 | .data g e::s,[],_,h,_,_=>by simp[pL]at h
 | .data g e::s,.yC _::xs,_,h,_,_=>by simp[pL]at h
 | .data g e::s,.val g' cs::xs,a,h,vs,hr=>by
  simp only[pL]at h;cases hg:g==g' with
  |false=>rw[hg]at h;cases h
  |true=>
   rw[hg]at h;simp only[ah]at h;have pw:g=g':=by simpa using hg
   subst pw;split at h;rename_i x hx;obtain⟨r,hr',h⟩:=aY.1 h;cases h;cases vs with
   |nil=>exact hr.elim
   |cons v vs=>
    obtain⟨⟨us,fU,hu⟩,h2⟩:=hr;obtain⟨v1,v2,f1,f2,rfl,hf,k1,k2⟩:=ahW hx hu;have WS:v2=[]:=by cases v2 with|nil=>rfl|cons _ _=>exact k2.elim
    subst WS;have hf1:f1=[]:=by have:=hf.symm;simp at this;exact this.1
    subst hf1;rw[bR]at fU;exact⟨⟨v1,fU,k1⟩,yV hr' h2⟩
   cases h
 | .fn f::s,[],a,h,vs,hr=>by simp[pL]at h
 | .fn f::s,v::xs,a,h,vs,hr=>by simp only[pL]at h;cases hg:v.ahu f with|false=>rw[hg]at h;cases h|true=>rw[hg]at h;have:=UM hg;subst this;cases vs with|nil=>exact hr.elim|cons v vs=>exact⟨hr.1,yV h hr.2⟩
def T5 (s:aw PS)(rs:aw (Bool×FT))(F:Er s->az (rj rs)):lH:={R:=rj rs,fn:=λxs=>aa (pL s xs) F,av:=Jb rs}
theorem jl.of {G:aw AV->az (rj rs)}(h:jl P f {R:=rj rs,fn:=G,av:=Jb rs}){F:Er s->az (rj rs)}(hF:∀a,G (ot s a)=F a):jl P f (T5 s rs F):=by
 intro xs y hy;simp only[T5]at hy y;cases ha:pL s xs with
 |none=>rw[ha]at hy;cases hy
 |some a=>
  rw[ha]at hy;have hy':G (ot s a)=some y:=by rw[hF a];exact hy
  have hh:=h (ot s a) y hy';exact⟨hh.1,λ_ _ A w vs hA hr=>hh.2.1 rfl rfl A w vs hA (yV ha hr),λh=>(by cases h),λh=>(by cases h),λh=>(by cases h)⟩
def acQ (s:aw PS)(rs rs2:aw (Bool×FT))(h:rj rs2=rj rs)(F:Er s->az (Bool×rj rs)):lH:=
 {R:=Bool×rj rs,fn:=λxs=>aa (pL s xs) F,av:=λy=>Jb rs y.2,sel:=λy=>y.1,alt:=λy=>Jb rs2 (cast h.symm y.2)}
def akt (s:aw PS)(rs:aw (Bool×FT))(F:Er s->az (Bool×rj rs)):lH:=
 {R:=Bool×rj rs,fn:=λxs=>aa (pL s xs) λa=>alG (F a),av:=λy=>Jb rs y.2}
theorem jl.only {rs2:aw (Bool×FT)}{h2:rj rs2=rj rs}{F:Er s->az (Bool×rj rs)}(h:jl P f (acQ s rs rs2 h2 F)):jl P f (akt s rs F):=by
 intro xs y hy;simp only[akt]at hy y;cases ha:pL s xs with
 |none=>rw[ha]at hy;cases hy
 |some a=>
  rw[ha]at hy;have hy:alG (F a)=some y:=hy;unfold alG at hy;cases hF:F a with
  |none=>rw[hF]at hy;cases hy
  |some r=>
   rw[hF]at hy;cases h1:r.1 with
   |false=>simp only[aa,h1,ae]at hy;cases hy
   |true=>
    simp only[aa,h1,ah,bq]at hy;subst hy;have hf:(acQ s rs rs2 h2 F).fn xs=some r:=by show aa (pL s xs) F=some r;rw[ha];exact hF
    have hh:=h xs r hf;have hr:(acQ s rs rs2 h2 F).res r=Jb rs r.2:=by show cond r.1 (Jb rs r.2) _=_;rw[h1];rfl
    refine⟨hh.1,λ_ _ A w vs hA Th=>?_,λh=>(by cases h),λh=>(by cases h),λh=>(by cases h)⟩;have q:=hh.2.1 rfl rfl A w vs hA Th;rw[hr]at q;exact q
def FT.KW:FT->Bool
 | .sl .arg _=>true
 | .sl .Bn _=>true
 | .sl _ _=>false
 | .pair a b=>a.KW&&b.KW
 |_=>true
theorem He:∀{t:FT},t.KW=true->∀x:t.ct.D,(kc t x).all AC.KW=true
 | .int _,_,_=>rfl
 | .bool,_,_=>rfl
 | .str,_,_=>rfl
 | .sl fl e,h,_=>by cases fl<;>first|rfl|cases h
 | .pair a b,h,x=>by simp only[FT.KW,af]at h;simp only[kc,List.all_append,af];exact⟨He h.1 x.1,He h.2 x.2⟩
def kf (t:FT)(s:aw PS)(rs:aw (Bool×FT))(F:t.ct.D->Er s->az (rj rs×t.ct.D)):lH:=
 {R:=rj rs×t.ct.D,fn:=λxs=>match xs with
  | .val true cs::rest=>(match PC t cs with|some (x,[])=>aa (pL s rest) (F x)|_=>none)
  |_=>none,av:=λy=>Jb rs y.1,back:=λy=>kc t y.2,bx:=true,cur:=t.KW,hcur:=λh y=>He h y.2}
theorem jl.rO {t:FT}{G:aw AV->az (rj rs×t.ct.D)}(h:jl P f {R:=rj rs×t.ct.D,fn:=G,av:=λy=>Jb rs y.1,back:=λy=>kc t y.2,bx:=true}){F:t.ct.D->Er s->az (rj rs×t.ct.D)}(hF:∀x a,G (.val true (kc t x)::ot s a)=F x a):jl P f (kf t s rs F):=by
 intro xs y hy;simp only[kf]at hy y;split at hy;rename_i cs rest;split at hy;rename_i x hx;cases ha:pL s rest with
 |none=>rw[ha]at hy;cases hy
 |some a=>
  rw[ha]at hy;have hy':G (.val true (kc t x)::ot s a)=some y:=by rw[hF x a];exact hy
  have MT:=AW hx;rw[bR]at MT;have hh:=h _ y hy';refine⟨hh.1,λ_ h=>(by cases h),λh=>(by cases h),λ_ T0 ats he A w b vs arr T fr hw fp hA lf uO fO hn yL gr KR gP=>?_,λh=>(by cases h)⟩;injection he with he1 he2;injection he1 with _ he3;subst he2;subst he3;rw[MT]at fO;exact hh.2.2.2.1 rfl (kc t x) (ot s a) rfl A w b vs arr T fr hw fp hA lf uO fO hn yL gr KR (yV ha gP)
 cases hy;cases hy
def acR (t:FT)(s:aw PS)(F:Er s->az t.ct.D):lH:=
 {R:=t.ct.D,fn:=λxs=>aa (pL s xs) F,av:=λ_=> .bot,back:=λy=>kc t y,pr:=true}
theorem jl.atn {t:FT}{G:aw AV->az t.ct.D}(h:jl P f {R:=t.ct.D,fn:=G,av:=λ_=> .bot,back:=λy=>kc t y,pr:=true}){F:Er s->az t.ct.D}(hF:∀a,G (ot s a)=F a):jl P f (acR t s F):=by
 intro xs y hy;simp only[acR]at hy y;cases ha:pL s xs with
 |none=>rw[ha]at hy;cases hy
 |some a=>
  rw[ha]at hy;have hy':G (ot s a)=some y:=by rw[hF a];exact hy
  have hh:=h _ y hy';exact⟨hh.1,λh1 h2 A w vs hA hr=>hh.2.1 h1 h2 A w vs hA (yV ha hr),λh=>(by cases h),λh=>(by cases h),λ_ A w vs hA hr=>hh.2.2.2.2 rfl A w vs hA (yV ha hr)⟩
theorem US {R σ:Type}{key:fA}{B:AS->(Ex->AS->az R)->az R}{K:Ex->AS->az R}(enc:σ->AS)(T:(σ->az R)->σ->az R)
 (h:∀m x,Ed key B (m+1) (enc x) K=T (λy=>Ed key B m (enc y) K) x):∀m x,Ed key B m (enc x) K=bh T m x
 |0,_=>rfl
 |m+1,x=>by rw[h m x];have:(λy=>Ed key B m (enc y) K)=bh T m:=funext λy=>US enc T h m y;rw[this];rfl
theorem uW:∀{l:aw PD}{vs:aw AV}{x:Ns l},kP l vs=some x->vs=uY l x
 |[],[],_,_=>rfl
 |[],_::_,_,h=>by simp[kP]at h
 | .data g t::l,[],_,h=>by simp[kP]at h
 | .data g t::l,.yC _::vs,_,h=>by simp[kP]at h
 | .data g t::l,.val g' cs::vs,x,h=>by
  simp only[kP]at h;cases hg:g==g' with
  |false=>rw[hg]at h;cases h
  |true=>
   rw[hg]at h;simp only[ah]at h;have pw:g=g':=by simpa using hg
   subst pw;split at h;rename_i y hy;obtain⟨r,hr,h⟩:=aY.1 h;cases h;have h1:=AW hy;rw[bR]at h1;rw[uY,h1,uW hr];cases h
 | .bot::l,[],x,h=>by simp[kP]at h
 | .ptr s off::l,[],x,h=>by simp[kP]at h
 | .fn f::l,[],x,h=>by simp[kP]at h
 | .bot::l,v::vs,x,h=>by simp only[kP]at h;cases hg:v.afA with|false=>rw[hg]at h;cases h|true=>rw[hg]at h;rw[adA hg,uY,uW (l:=l) h]
 | .ptr s off::l,v::vs,x,h=>by simp only[kP]at h;cases hg:v.afB s off with|false=>rw[hg]at h;cases h|true=>rw[hg]at h;rw[adC hg,uY,uW (l:=l) h]
 | .fn f::l,v::vs,x,h=>by simp only[kP]at h;cases hg:v.ahu f with|false=>rw[hg]at h;cases h|true=>rw[hg]at h;rw[UM hg,uY,uW (l:=l) h]
theorem Ew:∀{l:aw (az FT)}{bs:aw (az (aw AC))}{x:MJ l},sC l bs=some x->bs=E2 l x
 |[],[],_,_=>rfl
 |[],_::_,_,h=>by simp[sC]at h
 |some t::l,[],_,h=>by simp[sC]at h
 |none::l,[],_,h=>by simp[sC]at h
 |some t::l,none::bs,_,h=>by simp[sC]at h
 |none::l,some _::bs,_,h=>by simp[sC]at h
 |none::l,none::bs,x,h=>by simp only[sC]at h;rw[E2,Ew h]
 |some t::l,some cs::bs,x,h=>by simp only[sC]at h;split at h;rename_i y hy;obtain⟨r,hr,h⟩:=aY.1 h;cases h;have h1:=AW hy;rw[bR]at h1;rw[E2,h1,Ew hr];cases h
theorem acJ:∀{o:IoD}{cs:aw AC}{x:ioD o},Yw o cs=some x->cs=aks o x
 | .none,[],_,_=>rfl
 | .none,_::_,_,h=>by simp[Yw]at h
 | .ptr,cs,x,h=>by simp only[Yw]at h;cases hp:adB cs with|false=>rw[hp]at h;cases h|true=>unfold adB at hp;split at hp;rfl;cases hp
 | .some t,cs,x,h=>by simp only[Yw]at h;split at h;rename_i y hy;cases h;have h1:=AW hy;rw[bR]at h1;rw[aks,h1];cases h
theorem SD.Yx {d:SD}{st:AS}{x:d.D}(h:d.dec st=some x):st=d.enc x:=by unfold SD.dec at h;cases hc:(st.ep==0&&st.iss==List.replicate d.slots.length false)with|false=>rw[hc]at h;cases h|true=>rw[hc]at h;simp only[ah]at h;obtain⟨y,hy,h⟩:=aY.1 h;obtain⟨z,hz,h⟩:=aY.1 h;obtain⟨u,hu,h⟩:=aY.1 h;cases h;simp only[af,ba]at hc;cases st with|mk slots boxes ep iss io=>simp only at hc hy hz hu;obtain⟨rfl,rfl⟩:=hc;rw[uW hy,Ew hz,acJ hu];rfl
theorem lok {E:Env}{Γ:Dy}{an:An}{Λ:kC}{c:Code}(l:MF)(h1:Λ (eZ c)=l)(n:Nat)(h2:∀(R:Type)(x:l.sd.D)(K:Ex->AS->az R),l.run x K=Ed (an.mask (eZ c)) (den E Γ an Λ c) n (l.sd.enc x) K):uL E Γ an Λ c:=by refine⟨n,λR st K r h=>?_⟩;rw[h1]at h;unfold MF.go at h;cases hd:l.sd.dec st with|none=>rw[hd]at h;cases h|some x=>rw[hd]at h;rw[SD.Yx hd,<-h2];exact h
theorem cok {E:Env}{Γ:Dy}{an:An}{Λ:kC}{c:Code}(l:MF)(h1:Λ (Hj c)=l)(h2:∀(R:Type)(x:l.sd.D)(K:Ex->AS->az R),l.run x K=den E Γ an Λ c (l.sd.enc x) (λe cp=>K e (cp.mask (an.mask (Hj c+1))))):Mz E Γ an Λ c:=by intro R st K r h;rw[h1]at h;unfold MF.go at h;cases hd:l.sd.dec st with|none=>rw[hd]at h;cases h|some x=>rw[hd]at h;rw[SD.Yx hd,<-h2];exact h
end Go.Dn
