import Derived.Test.YtnmppgnbjfdffaaGreatDnLaw
/- Functions by the data that they take; loops by the data that they keep. -/
namespace Go.Dn
variable {v:AV} {f:Nat} {P:Program} {rs:aw (Bool×FT)}
inductive PS where
 |data (g:Bool) (t:CT)|fn (f:Nat)
variable {s:aw PS}
abbrev zH:aw PS->Type
 |[]=>Unit
 | .data _ t::r=>t.D×zH r
 | .fn _::r=>zH r
def rE:(t:CT)->aw AC->ax (t.D×aw AC)
 | .int k,.int k' n::r=>if k'=k then some (n,r) else none
 | .bool,.bool b::r=>some (b,r)
 | .str,.str s::r=>some (s,r)
 | .sl e,.sl (.arg false) e' xs::r=>if h:e'=e then some (h▸xs,r) else none
 | .sl _,.jm::r=>some ([],r)
 | .pair a b,cs=>(rE a cs).bind λx=>(rE b x.2).bind λy=>some ((x.1,y.1),y.2)
 |_,_=>none
def mW:(s:aw PS)->aw AV->ax (zH s)
 |[],[]=>some ()
 | .data g e::s,.val g' cs::xs=>bif g==g' then
  (match rE e cs with
   |some (x,[])=>(mW s xs).bind λr=>some (x,r)
   |_=>none) else none
 | .fn f::s,v::xs=>bif v.Zf f then mW s xs else none
 |_,_=>none
def kR:(s:aw PS)->zH s->aw AV
 |[],_=>[]
 | .data g e::s,a=> .val g (cellsOf e (.arg false) a.1)::kR s a.2
 | .fn f::s,a=> .one (.fn f)::kR s a
theorem ZJ {A:Rg}{hw:Nat->Nat}{w:World}:∀{t:CT}{cs r:aw AC}{x:t.D},rE t cs=some (x,r)->∀{vs:iq}{fp:fw},bB (fH A hw w) vs cs fp-> ∃v1 v2 f1 f2,vs=v1++v2/\fp=f1++f2/\bB (fH A hw w) v1 (cellsOf t (.arg false) x) f1/\bB (fH A hw w) v2 r f2:=by
 intro t
 have one:∀{y:AC}{ys:aw AC}{vs:iq}{fp:fw}{z:AC},bB (fH A hw w) vs (y::ys) fp->(∀v f,gA (fH A hw w) v y f->gA (fH A hw w) v z f)->
  ∃v1 v2 f1 f2,vs=v1++v2/\fp=f1++f2/\bB (fH A hw w) v1 [z] f1/\bB (fH A hw w) v2 ys f2:=by
  intro y ys vs fp z h hz
  cases vs with
  |nil=>exact h.elim
  |cons v vs=>
   obtain⟨f1,f2,rfl,h1,h2⟩:=h
   exact⟨[v],vs,f1,f2,rfl,rfl,⟨f1,[],by simp,hz v f1 h1,rfl⟩,h2⟩
 induction t with
 |int k=>intro cs r x h vs fp hr;cases cs with|nil=>simp[rE]at h|cons y ys=>cases y<;>simp[rE]at h;obtain⟨rfl,rfl,rfl⟩:=h;exact one hr λv f h=>h
 |bool=>intro cs r x h vs fp hr;cases cs with|nil=>simp[rE]at h|cons y ys=>cases y<;>simp[rE]at h;obtain⟨rfl,rfl⟩:=h;exact one hr λv f h=>h
 |str=>intro cs r x h vs fp hr;cases cs with|nil=>simp[rE]at h|cons y ys=>cases y<;>simp[rE]at h;obtain⟨rfl,rfl⟩:=h;exact one hr λv f h=>h
 |sl e _=>
  intro cs r x h vs fp hr;cases cs with
  |nil=>simp[rE]at h
  |cons y ys=>
   cases y with
   |sl fl e' xs=>
    cases fl with
    |arg k=>cases k with|true=>simp[rE]at h|false=>simp only[rE]at h;split at h;rename_i he;subst he;cases h;exact one hr λv f h=>h;cases h
    |own t=>simp[rE]at h
    |nest _ _ _ _ _ _=>simp[rE]at h
    |part _ _ _ _=>simp[rE]at h
    |fg _ _ _=>simp[rE]at h
    |loc ep pv=>simp[rE]at h
   |jm=>simp[rE]at h;obtain⟨rfl,rfl⟩:=h;refine one hr λv f h=>?_;obtain⟨rfl,rfl⟩:=h;exact⟨rfl,_,rfl,.inl ⟨⟨none,rfl⟩,rfl⟩⟩
   |_=>simp[rE]at h
 |pair a b iha ihb=>intro cs r x h vs fp hr;simp only[rE]at h;obtain⟨⟨x1,r1⟩,h1,h⟩:=aL.1 h;obtain⟨⟨x2,r2⟩,h2,h⟩:=aL.1 h;cases h;obtain⟨v1,v2,f1,f2,rfl,rfl,k1,k2⟩:=iha h1 hr;obtain⟨v3,v4,f3,f4,rfl,rfl,k3,k4⟩:=ihb h2 k2;exact⟨v1++v3,v4,f1++f3,f4,by simp,by simp,by simpa[cellsOf]using bB.append k1 k3,k4⟩
theorem NA (h:v.Zf f=true):v=.one (.fn f):=by
 unfold AV.Zf at h;split at h;rename_i f';have:f=f':=by simpa using h
 subst this;rfl;cases h
theorem Vo (h:v.Xk=true):v=.bot:=by unfold AV.Xk at h;split at h;rfl;cases h
theorem Vq {s off:Nat}(h:v.Xl s off=true):v=.one (.ptr s off):=by unfold AV.Xl at h;split at h;simp only[ae,aS]at h;obtain⟨rfl,rfl⟩:=h;rfl;cases h
theorem sL {A:Rg}{w:World}:∀{s:aw PS}{xs:aw AV}{a:zH s},mW s xs=some a->∀{vs:iq},oT A w vs xs->oT A w vs (kR s a)
 |[],[],a,_,vs,h=>h
 |[],_::_,_,h,_,_=>by simp[mW]at h
 | .data g e::s,[],_,h,_,_=>by simp[mW]at h
 | .data g e::s,.uF _::xs,_,h,_,_=>by simp[mW]at h
 | .data g e::s,.val g' cs::xs,a,h,vs,hr=>by
  simp only[mW]at h;cases hg:g==g' with
  |false=>rw[hg]at h;cases h
  |true=>
   rw[hg]at h;simp only[ah]at h;have nm:g=g':=by simpa using hg
   subst nm;split at h;rename_i x hx;obtain⟨r,hr',h⟩:=aL.1 h;cases h;cases vs with
   |nil=>exact hr.elim
   |cons v vs=>
    obtain⟨⟨us,fi,hu⟩,h2⟩:=hr;obtain⟨v1,v2,f1,f2,rfl,hf,k1,k2⟩:=ZJ hx hu;have Pp:v2=[]:=by cases v2 with|nil=>rfl|cons _ _=>exact k2.elim
    subst Pp;have hf1:f1=[]:=by have:=hf.symm;simp at this;exact this.1
    subst hf1;rw[bV]at fi;exact⟨⟨v1,fi,k1⟩,sL hr' h2⟩
   cases h
 | .fn f::s,[],a,h,vs,hr=>by simp[mW]at h
 | .fn f::s,v::xs,a,h,vs,hr=>by simp only[mW]at h;cases hg:v.Zf f with|false=>rw[hg]at h;cases h|true=>rw[hg]at h;have:=NA hg;subst this;cases vs with|nil=>exact hr.elim|cons v vs=>exact⟨hr.1,sL h hr.2⟩
def M4 (s:aw PS)(rs:aw (Bool×FT))(F:zH s->ax (kj rs)):iZ:={R:=kj rs,fn:=λxs=>aa (mW s xs) F,av:=yh rs}
theorem gC.of {G:aw AV->ax (kj rs)}(h:gC P f {R:=kj rs,fn:=G,av:=yh rs}){F:zH s->ax (kj rs)}(hF:∀a,G (kR s a)=F a):gC P f (M4 s rs F):=by
 intro xs y hy;simp only[M4]at hy y;cases ha:mW s xs with
 |none=>rw[ha]at hy;cases hy
 |some a=>
  rw[ha]at hy;have Qz:G (kR s a)=some y:=by rw[hF a];exact hy
  have hh:=h (kR s a) y Qz;exact⟨hh.1,λ_ _ A w vs hA hr=>hh.2.1 rfl rfl A w vs hA (sL ha hr),λh=>(by cases h),λh=>(by cases h),λh=>(by cases h)⟩
def zN (s:aw PS)(rs L7:aw (Bool×FT))(h:kj L7=kj rs)(F:zH s->ax (Bool×kj rs)):iZ:=
 {R:=Bool×kj rs,fn:=λxs=>aa (mW s xs) F,av:=λy=>yh rs y.2,sel:=λy=>y.1,alt:=λy=>yh L7 (cast h.symm y.2)}
theorem gC.ofAlt {L7:aw (Bool×FT)}{h2:kj L7=kj rs}{G:aw AV->ax (Bool×kj rs)}(h:gC P f {R:=Bool×kj rs,fn:=G,av:=λy=>yh rs y.2,sel:=λy=>y.1,alt:=λy=>yh L7 (cast h2.symm y.2)}){F:zH s->ax (Bool×kj rs)}(hF:∀a,G (kR s a)=F a):gC P f (zN s rs L7 h2 F):=by
 intro xs y hy;simp only[zN]at hy y;cases ha:mW s xs with
 |none=>rw[ha]at hy;cases hy
 |some a=>
  rw[ha]at hy;have Qz:G (kR s a)=some y:=by rw[hF a];exact hy
  have hh:=h (kR s a) y Qz;exact⟨hh.1,λ_ _ A w vs hA hr=>hh.2.1 rfl rfl A w vs hA (sL ha hr),λh=>(by cases h),λh=>(by cases h),λh=>(by cases h)⟩
def UG (s:aw PS)(rs:aw (Bool×FT))(F:zH s->ax (Bool×kj rs)):iZ:=
 {R:=Bool×kj rs,fn:=λxs=>aa (mW s xs) λa=>NP (F a),av:=λy=>yh rs y.2}
theorem gC.only {L7:aw (Bool×FT)}{h2:kj L7=kj rs}{F:zH s->ax (Bool×kj rs)}(h:gC P f (zN s rs L7 h2 F)):gC P f (UG s rs F):=by
 intro xs y hy;simp only[UG]at hy y;cases ha:mW s xs with
 |none=>rw[ha]at hy;cases hy
 |some a=>
  rw[ha]at hy;have hy:NP (F a)=some y:=hy;unfold NP at hy;cases hF:F a with
  |none=>rw[hF]at hy;cases hy
  |some r=>
   rw[hF]at hy;cases h1:r.1 with
   |false=>simp only[aa,h1,af]at hy;cases hy
   |true=>
    simp only[aa,h1,ah,aZ]at hy;subst hy;have hf:(zN s rs L7 h2 F).fn xs=some r:=by show aa (mW s xs) F=some r;rw[ha];exact hF
    have hh:=h xs r hf;have hr:(zN s rs L7 h2 F).res r=yh rs r.2:=by show cond r.1 (yh rs r.2) _=_;rw[h1];rfl
    refine⟨hh.1,λ_ _ A w vs hA Mo=>?_,λh=>(by cases h),λh=>(by cases h),λh=>(by cases h)⟩;have q:=hh.2.1 rfl rfl A w vs hA Mo;rw[hr]at q;exact q
def FT.Fm:FT->Bool
 | .sl .arg _=>true
 | .sl .wJ _=>true
 | .sl _ _=>false
 | .pair a b=>a.Fm&&b.Fm
 |_=>true
theorem B0:∀{t:FT},t.Fm=true->∀x:t.ct.D,(jc t x).all AC.Fm=true
 | .int _,_,_=>rfl
 | .bool,_,_=>rfl
 | .str,_,_=>rfl
 | .sl fl e,h,_=>by cases fl<;>first|rfl|cases h
 | .pair a b,h,x=>by simp only[FT.Fm,ae]at h;simp only[jc,List.all_append,ae];exact⟨B0 h.1 x.1,B0 h.2 x.2⟩
def jd (t:FT)(s:aw PS)(rs:aw (Bool×FT))(F:t.ct.D->zH s->ax (kj rs×t.ct.D)):iZ:=
 {R:=kj rs×t.ct.D,fn:=λxs=>match xs with
  | .val true cs::rest=>(match Jv t cs with|some (x,[])=>aa (mW s rest) (F x)|_=>none)
  |_=>none,av:=λy=>yh rs y.1,back:=λy=>jc t y.2,bx:=true,cur:=t.Fm,hcur:=λh y=>B0 h y.2}
theorem gC.pq {t:FT}{G:aw AV->ax (kj rs×t.ct.D)}(h:gC P f {R:=kj rs×t.ct.D,fn:=G,av:=λy=>yh rs y.1,back:=λy=>jc t y.2,bx:=true}){F:t.ct.D->zH s->ax (kj rs×t.ct.D)}(hF:∀x a,G (.val true (jc t x)::kR s a)=F x a):gC P f (jd t s rs F):=by
 intro xs y hy;simp only[jd]at hy y;split at hy;rename_i cs rest;split at hy;rename_i x hx;cases ha:mW s rest with
 |none=>rw[ha]at hy;cases hy
 |some a=>
  rw[ha]at hy;have Qz:G (.val true (jc t x)::kR s a)=some y:=by rw[hF x a];exact hy
  have Hf:=wz hx;rw[bV]at Hf;have hh:=h _ y Qz;refine⟨hh.1,λ_ h=>(by cases h),λh=>(by cases h),λ_ MY ajK he A w b vs arr T fr hw fp hA jL qZ eL hn uJ gQ Fe fN=>?_,λh=>(by cases h)⟩;injection he with he1 he2;injection he1 with _ he3;subst he2;subst he3;rw[Hf]at eL;exact hh.2.2.2.1 rfl (jc t x) (kR s a) rfl A w b vs arr T fr hw fp hA jL qZ eL hn uJ gQ Fe (sL ha fN)
 cases hy;cases hy
def UF (t:FT)(s:aw PS)(F:zH s->ax t.ct.D):iZ:=
 {R:=t.ct.D,fn:=λxs=>aa (mW s xs) F,av:=λ_=> .bot,back:=λy=>jc t y,pr:=true}
theorem gC.ajH {t:FT}{G:aw AV->ax t.ct.D}(h:gC P f {R:=t.ct.D,fn:=G,av:=λ_=> .bot,back:=λy=>jc t y,pr:=true}){F:zH s->ax t.ct.D}(hF:∀a,G (kR s a)=F a):gC P f (UF t s F):=by
 intro xs y hy;simp only[UF]at hy y;cases ha:mW s xs with
 |none=>rw[ha]at hy;cases hy
 |some a=>
  rw[ha]at hy;have Qz:G (kR s a)=some y:=by rw[hF a];exact hy
  have hh:=h _ y Qz;exact⟨hh.1,λh1 h2 A w vs hA hr=>hh.2.1 h1 h2 A w vs hA (sL ha hr),λh=>(by cases h),λh=>(by cases h),λ_ A w vs hA hr=>hh.2.2.2.2 rfl A w vs hA (sL ha hr)⟩
theorem NG {R σ:Type}{key:fw}{B:AS->(Ex->AS->ax R)->ax R}{K:Ex->AS->ax R}(enc:σ->AS)(T:(σ->ax R)->σ->ax R)
 (h:∀m x,zv key B (m+1) (enc x) K=T (λy=>zv key B m (enc y) K) x):∀m x,zv key B m (enc x) K=aX T m x
 |0,_=>rfl
 |m+1,x=>by rw[h m x];have:(λy=>zv key B m (enc y) K)=aX T m:=funext λy=>NG enc T h m y;rw[this];rfl
theorem rh:∀{l:aw PD}{vs:aw AV}{x:HR l},jz l vs=some x->vs=ri l x
 |[],[],_,_=>rfl
 |[],_::_,_,h=>by simp[jz]at h
 | .data g t::l,[],_,h=>by simp[jz]at h
 | .data g t::l,.uF _::vs,_,h=>by simp[jz]at h
 | .data g t::l,.val g' cs::vs,x,h=>by
  simp only[jz]at h;cases hg:g==g' with
  |false=>rw[hg]at h;cases h
  |true=>
   rw[hg]at h;simp only[ah]at h;have nm:g=g':=by simpa using hg
   subst nm;split at h;rename_i y hy;obtain⟨r,hr,h⟩:=aL.1 h;cases h;have h1:=wz hy;rw[bV]at h1;rw[ri,h1,rh hr];cases h
 | .bot::l,[],x,h=>by simp[jz]at h
 | .ptr s off::l,[],x,h=>by simp[jz]at h
 | .fn f::l,[],x,h=>by simp[jz]at h
 | .bot::l,v::vs,x,h=>by simp only[jz]at h;cases hg:v.Xk with|false=>rw[hg]at h;cases h|true=>rw[hg]at h;rw[Vo hg,ri,rh (l:=l) h]
 | .ptr s off::l,v::vs,x,h=>by simp only[jz]at h;cases hg:v.Xl s off with|false=>rw[hg]at h;cases h|true=>rw[hg]at h;rw[Vq hg,ri,rh (l:=l) h]
 | .fn f::l,v::vs,x,h=>by simp only[jz]at h;cases hg:v.Zf f with|false=>rw[hg]at h;cases h|true=>rw[hg]at h;rw[NA hg,ri,rh (l:=l) h]
theorem zL:∀{l:aw (ax FT)}{bs:aw (ax (aw AC))}{x:GY l},pJ l bs=some x->bs=Ae l x
 |[],[],_,_=>rfl
 |[],_::_,_,h=>by simp[pJ]at h
 |some t::l,[],_,h=>by simp[pJ]at h
 |none::l,[],_,h=>by simp[pJ]at h
 |some t::l,none::bs,_,h=>by simp[pJ]at h
 |none::l,some _::bs,_,h=>by simp[pJ]at h
 |none::l,none::bs,x,h=>by simp only[pJ]at h;rw[Ae,zL h]
 |some t::l,some cs::bs,x,h=>by simp only[pJ]at h;split at h;rename_i y hy;obtain⟨r,hr,h⟩:=aL.1 h;cases h;have h1:=wz hy;rw[bV]at h1;rw[Ae,h1,zL hr];cases h
theorem UB:∀{o:IoD}{cs:aw AC}{x:ioD o},QY o cs=some x->cs=abM o x
 | .none,[],_,_=>rfl
 | .none,_::_,_,h=>by simp[QY]at h
 | .ptr,cs,x,h=>by simp only[QY]at h;cases hp:Vp cs with|false=>rw[hp]at h;cases h|true=>unfold Vp at hp;split at hp;rfl;cases hp
 | .some t,cs,x,h=>by simp only[QY]at h;split at h;rename_i y hy;cases h;have h1:=wz hy;rw[bV]at h1;rw[abM,h1];cases h
theorem SD.QZ {d:SD}{st:AS}{x:d.D}(h:d.dec st=some x):st=d.enc x:=by unfold SD.dec at h;cases hc:(st.ep==0&&st.iss==List.replicate d.slots.length false)with|false=>rw[hc]at h;cases h|true=>rw[hc]at h;simp only[ah]at h;obtain⟨y,hy,h⟩:=aL.1 h;obtain⟨z,hz,h⟩:=aL.1 h;obtain⟨u,hu,h⟩:=aL.1 h;cases h;simp only[ae,aS]at hc;cases st with|mk slots boxes ep iss io=>simp only at hc hy hz hu;obtain⟨rfl,rfl⟩:=hc;rw[rh hy,zL hz,UB hu];rfl
theorem lok {E:Env}{Γ:xT}{an:An}{Λ:kZ}{c:Code}(l:GV)(h1:Λ (ed c)=l)(n:Nat)(h2:∀(R:Type)(x:l.sd.D)(K:Ex->AS->ax R),l.run x K=zv (an.mask (ed c)) (den E Γ an Λ c) n (l.sd.enc x) K):xU E Γ an Λ c:=by refine⟨n,λR st K r h=>?_⟩;rw[h1]at h;unfold GV.go at h;cases hd:l.sd.dec st with|none=>rw[hd]at h;cases h|some x=>rw[hd]at h;rw[SD.QZ hd,<-h2];exact h
theorem cok {E:Env}{Γ:xT}{an:An}{Λ:kZ}{c:Code}(l:GV)(h1:Λ (B8 c)=l)(h2:∀(R:Type)(x:l.sd.D)(K:Ex->AS->ax R),l.run x K=den E Γ an Λ c (l.sd.enc x) (λe bH=>K e (bH.mask (an.mask (B8 c+1))))):TF E Γ an Λ c:=by intro R st K r h;rw[h1]at h;unfold GV.go at h;cases hd:l.sd.dec st with|none=>rw[hd]at h;cases h|some x=>rw[hd]at h;rw[SD.QZ hd,<-h2];exact h
end Go.Dn
