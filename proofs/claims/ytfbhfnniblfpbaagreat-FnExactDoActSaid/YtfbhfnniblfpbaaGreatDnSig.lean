import Derived.Test.YtfbhfnniblfpbaaGreatDnLaw
/- Functions by the data that they take; loops by the data that they keep. -/
namespace Go.Dn
variable {f:Nat} {P:Program} {rs:ar (Bool×FT)}
inductive PS where
 |data (g:Bool) (t:CT)|fn (f:Nat)
variable {s:ar PS}
abbrev BM:ar PS->Type
 |[]=>Unit
 | .data _ t::r=>t.D×BM r
 | .fn _::r=>BM r
def tY:(t:CT)->ar AC->aw (t.D×ar AC)
 | .int k,.int k' n::r=>if k'=k then some (n,r) else none
 | .bool,.bool b::r=>some (b,r)
 | .str,.str s::r=>some (s,r)
 | .sl e,.sl (.arg false) e' xs::r=>if h:e'=e then some (h▸xs,r) else none
 | .sl _,.jw::r=>some ([],r)
 | .pair a b,cs=>(tY a cs).bind λx=>(tY b x.2).bind λy=>some ((x.1,y.1),y.2)
 |_,_=>none
def lJ:(s:ar PS)->ar AV->aw (BM s)
 |[],[]=>some ()
 | .data g e::s,.val g' cs::xs=>bif g==g' then
  (match tY e cs with
   |some (x,[])=>(lJ s xs).bind λr=>some (x,r)
   |_=>none) else none
 | .fn f::s,v::xs=>bif v.abQ f then lJ s xs else none
 |_,_=>none
def ix:(s:ar PS)->BM s->ar AV
 |[],_=>[]
 | .data g e::s,a=> .val g (cellsOf e (.arg false) a.1)::ix s a.2
 | .fn f::s,a=> .one (.fn f)::ix s a
theorem ace {A:Rg}{hw:Nat->Nat}{w:World}:∀{t:CT}{cs r:ar AC}{x:t.D},tY t cs=some (x,r)->∀{vs:ic}{fp:dV},bn (eQ A hw w) vs cs fp-> ∃v1 v2 f1 f2,vs=v1++v2/\fp=f1++f2/\bn (eQ A hw w) v1 (cellsOf t (.arg false) x) f1/\bn (eQ A hw w) v2 r f2:=by
 intro t
 have one:∀{y:AC}{ys:ar AC}{vs:ic}{fp:dV}{z:AC},bn (eQ A hw w) vs (y::ys) fp->(∀v f,gI (eQ A hw w) v y f->gI (eQ A hw w) v z f)->
  ∃v1 v2 f1 f2,vs=v1++v2/\fp=f1++f2/\bn (eQ A hw w) v1 [z] f1/\bn (eQ A hw w) v2 ys f2:=by
  intro y ys vs fp z h hz
  cases vs with
  |nil=>exact h.elim
  |cons v vs=>
   obtain⟨f1,f2,rfl,h1,h2⟩:=h
   exact⟨[v],vs,f1,f2,rfl,rfl,⟨f1,[],by simp,hz v f1 h1,rfl⟩,h2⟩
 induction t with
 |int k=>intro cs r x h vs fp hr;cases cs with|nil=>simp[tY]at h|cons y ys=>cases y<;>simp[tY]at h;obtain⟨rfl,rfl,rfl⟩:=h;exact one hr λv f h=>h
 |bool=>intro cs r x h vs fp hr;cases cs with|nil=>simp[tY]at h|cons y ys=>cases y<;>simp[tY]at h;obtain⟨rfl,rfl⟩:=h;exact one hr λv f h=>h
 |str=>intro cs r x h vs fp hr;cases cs with|nil=>simp[tY]at h|cons y ys=>cases y<;>simp[tY]at h;obtain⟨rfl,rfl⟩:=h;exact one hr λv f h=>h
 |sl e _=>
  intro cs r x h vs fp hr;cases cs with
  |nil=>simp[tY]at h
  |cons y ys=>
   cases y with
   |sl fl e' xs=>
    cases fl with
    |arg k=>cases k with|true=>simp[tY]at h|false=>simp only[tY]at h;split at h;rename_i he;subst he;cases h;exact one hr λv f h=>h;cases h
    |own t=>simp[tY]at h
    |nest _ _ _ _ _ _=>simp[tY]at h
    |part _ _ _ _=>simp[tY]at h
    |fe _ _ _=>simp[tY]at h
    |loc ep pv=>simp[tY]at h
   |jw=>simp[tY]at h;obtain⟨rfl,rfl⟩:=h;refine one hr λv f h=>?_;obtain⟨rfl,rfl⟩:=h;exact⟨rfl,_,rfl,.inl ⟨⟨none,rfl⟩,rfl⟩⟩
   |_=>simp[tY]at h
 |pair a b iha ihb=>intro cs r x h vs fp hr;simp only[tY]at h;obtain⟨⟨x1,r1⟩,h1,h⟩:=aL.1 h;obtain⟨⟨x2,r2⟩,h2,h⟩:=aL.1 h;cases h;obtain⟨v1,v2,f1,f2,rfl,rfl,k1,k2⟩:=iha h1 hr;obtain⟨v3,v4,f3,f4,rfl,rfl,k3,k4⟩:=ihb h2 k2;exact⟨v1++v3,v4,f1++f3,f4,by simp,by simp,by simpa[cellsOf]using bn.append k1 k3,k4⟩
theorem RB {v:AV}(h:v.abQ f=true):v=.one (.fn f):=by
 unfold AV.abQ at h;split at h;rename_i f';have:f=f':=by simpa using h
 subst this;rfl;cases h
theorem Yv {v:AV}(h:v.aah=true):v=.bot:=by unfold AV.aah at h;split at h;rfl;cases h
theorem Yx {v:AV}{s off:Nat}(h:v.aai s off=true):v=.one (.ptr s off):=by unfold AV.aai at h;split at h;simp only[ah,bD]at h;obtain⟨rfl,rfl⟩:=h;rfl;cases h
theorem rn {A:Rg}{w:World}:∀{s:ar PS}{xs:ar AV}{a:BM s},lJ s xs=some a->∀{vs:ic},nb A w vs xs->nb A w vs (ix s a)
 |[],[],a,_,vs,h=>h
 |[],_::_,_,h,_,_=>by simp[lJ]at h
 | .data g e::s,[],_,h,_,_=>by simp[lJ]at h
 | .data g e::s,.vQ _::xs,_,h,_,_=>by simp[lJ]at h
 | .data g e::s,.val g' cs::xs,a,h,vs,hr=>by
  simp only[lJ]at h;cases hg:g==g' with
  |false=>rw[hg]at h;cases h
  |true=>
   rw[hg]at h;simp only[af]at h;have mY:g=g':=by simpa using hg
   subst mY;split at h;rename_i x hx;obtain⟨r,hr',h⟩:=aL.1 h;cases h;cases vs with
   |nil=>exact hr.elim
   |cons v vs=>
    obtain⟨⟨us,ee,hu⟩,h2⟩:=hr;obtain⟨v1,v2,f1,f2,rfl,hf,k1,k2⟩:=ace hx hu;have Mh:v2=[]:=by cases v2 with|nil=>rfl|cons _ _=>exact k2.elim
    subst Mh;have hf1:f1=[]:=by have:=hf.symm;simp at this;exact this.1
    subst hf1;rw[bp]at ee;exact⟨⟨v1,ee,k1⟩,rn hr' h2⟩
   cases h
 | .fn f::s,[],a,h,vs,hr=>by simp[lJ]at h
 | .fn f::s,v::xs,a,h,vs,hr=>by simp only[lJ]at h;cases hg:v.abQ f with|false=>rw[hg]at h;cases h|true=>rw[hg]at h;have:=RB hg;subst this;cases vs with|nil=>exact hr.elim|cons v vs=>exact⟨hr.1,rn h hr.2⟩
def Q5 (s:ar PS)(rs:ar (Bool×FT))(F:BM s->aw (ir rs)):Ai:={R:=ir rs,fn:=λxs=>aa (lJ s xs) F,av:=xR rs}
theorem kV.of {G:ar AV->aw (ir rs)}(h:kV P f {R:=ir rs,fn:=G,av:=xR rs}){F:BM s->aw (ir rs)}(hF:∀a,G (ix s a)=F a):kV P f (Q5 s rs F):=by
 intro xs y hy;simp only[Q5]at hy y;cases ha:lJ s xs with
 |none=>rw[ha]at hy;cases hy
 |some a=>
  rw[ha]at hy;have Rn:G (ix s a)=some y:=by rw[hF a];exact hy
  have hh:=h (ix s a) y Rn;exact⟨hh.1,λ_ _ A w vs hA hr=>hh.2.1 rfl rfl A w vs hA (rn ha hr),λh=>(by cases h),λh=>(by cases h),λh=>(by cases h)⟩
def I8 (s:ar PS)(rs M4:ar (Bool×FT))(h:ir M4=ir rs)(F:BM s->aw (Bool×ir rs)):Ai:=
 {R:=Bool×ir rs,fn:=λxs=>aa (lJ s xs) F,av:=λy=>xR rs y.2,sel:=λy=>y.1,alt:=λy=>xR M4 (cast h.symm y.2)}
theorem kV.ofAlt {M4:ar (Bool×FT)}{h2:ir M4=ir rs}{G:ar AV->aw (Bool×ir rs)}(h:kV P f {R:=Bool×ir rs,fn:=G,av:=λy=>xR rs y.2,sel:=λy=>y.1,alt:=λy=>xR M4 (cast h2.symm y.2)}){F:BM s->aw (Bool×ir rs)}(hF:∀a,G (ix s a)=F a):kV P f (I8 s rs M4 h2 F):=by
 intro xs y hy;simp only[I8]at hy y;cases ha:lJ s xs with
 |none=>rw[ha]at hy;cases hy
 |some a=>
  rw[ha]at hy;have Rn:G (ix s a)=some y:=by rw[hF a];exact hy
  have hh:=h (ix s a) y Rn;exact⟨hh.1,λ_ _ A w vs hA hr=>hh.2.1 rfl rfl A w vs hA (rn ha hr),λh=>(by cases h),λh=>(by cases h),λh=>(by cases h)⟩
def adE (s:ar PS)(rs:ar (Bool×FT))(F:BM s->aw (Bool×ir rs)):Ai:=
 {R:=Bool×ir rs,fn:=λxs=>aa (lJ s xs) λa=>ae3 (F a),av:=λy=>xR rs y.2}
theorem kV.only {M4:ar (Bool×FT)}{h2:ir M4=ir rs}{F:BM s->aw (Bool×ir rs)}(h:kV P f (I8 s rs M4 h2 F)):kV P f (adE s rs F):=by
 intro xs y hy;simp only[adE]at hy y;cases ha:lJ s xs with
 |none=>rw[ha]at hy;cases hy
 |some a=>
  rw[ha]at hy;have hy:ae3 (F a)=some y:=hy;unfold ae3 at hy;cases hF:F a with
  |none=>rw[hF]at hy;cases hy
  |some r=>
   rw[hF]at hy;cases h1:r.1 with
   |false=>simp only[aa,h1,ae]at hy;cases hy
   |true=>
    simp only[aa,h1,af,aZ]at hy;subst hy;have hf:(I8 s rs M4 h2 F).fn xs=some r:=by show aa (lJ s xs) F=some r;rw[ha];exact hF
    have hh:=h xs r hf;have hr:(I8 s rs M4 h2 F).res r=xR rs r.2:=by show cond r.1 (xR rs r.2) _=_;rw[h1];rfl
    refine⟨hh.1,λ_ _ A w vs hA Qo=>?_,λh=>(by cases h),λh=>(by cases h),λh=>(by cases h)⟩;have q:=hh.2.1 rfl rfl A w vs hA Qo;rw[hr]at q;exact q
def aho (t:CT)(gg:Bool)(s:ar PS)(rs:ar (Bool×FT))(F:t.D->BM s->aw (ir rs×t.D)):Ai:=
 {R:=ir rs×t.D,fn:=λxs=>match xs with
  | .val g cs::rest=>bif gg==g then(match iQ t cs with|some (x,[])=>aa (lJ s rest) (F x)|_=>none) else none
  |_=>none,av:=λy=>xR rs y.1,io:=true,back:=λy=>cellsOf t (.own none) y.2}
theorem kV.aqw {t:CT}{gg:Bool}{G:ar AV->aw (ir rs×t.D)}(h:kV P f {R:=ir rs×t.D,fn:=G,av:=λy=>xR rs y.1,io:=true,back:=λy=>cellsOf t (.own none) y.2}){F:t.D->BM s->aw (ir rs×t.D)}(hF:∀x a,G (.val gg (cellsOf t (.own none) x)::ix s a)=F x a):kV P f (aho t gg s rs F):=by
 intro xs y hy;simp only[aho]at hy y;split at hy;rename_i g cs rest;cases hg:(gg==g)with
 |false=>rw[hg]at hy;cases hy
 |true=>
  rw[hg]at hy;have:gg=g:=by simpa using hg
  subst this;simp only[af]at hy;split at hy;rename_i x hx;cases ha:lJ s rest with
  |none=>rw[ha]at hy;cases hy
  |some a=>
   rw[ha]at hy;have Rn:G (.val gg (cellsOf t (.own none) x)::ix s a)=some y:=by rw[hF x a];exact hy
   have hh:=h _ y Rn;refine⟨hh.1,λh=>(by cases h),λ_ g0 P8 afj he A w v0 vs hw fp hA dC hn gV fb=>?_,λh=>(by cases h),λh=>(by cases h)⟩;injection he with he1 he2;injection he1 with he1 he3;subst he1;subst he2;subst he3;refine hh.2.2.1 rfl gg (cellsOf t (.own none) x) (ix s a) rfl A w v0 vs hw fp hA ?_ hn gV (rn ha fb);obtain⟨us,ee,dC⟩:=dC;obtain⟨f1,f2,rfl,eR,js⟩:=ox dC hx;have S7:us.drop t.size=[]:=by cases hd:us.drop t.size with|nil=>rfl|cons _ _=>rw[hd]at js;exact js.elim
   rw[S7]at js;have HM:f2=[]:=js;subst HM;have aeo:us.take t.size=us:=by have:=cp t.size us;rw[S7,bp]at this;exact this
   rw[aeo]at eR;rw[bp];exact⟨us,ee,sA (c:=eQ A hw w) eR⟩
  cases hy
 cases hy
def FT.JG:FT->Bool
 | .sl .arg _=>true
 | .sl .afZ _=>true
 | .sl _ _=>false
 | .pair a b=>a.JG&&b.JG
 |_=>true
theorem GC:∀{t:FT},t.JG=true->∀x:t.ct.D,(iW t x).all AC.JG=true
 | .int _,_,_=>rfl
 | .bool,_,_=>rfl
 | .str,_,_=>rfl
 | .sl fl e,h,_=>by cases fl<;>first|rfl|cases h
 | .pair a b,h,x=>by simp only[FT.JG,ah]at h;simp only[iW,List.all_append,ah];exact⟨GC h.1 x.1,GC h.2 x.2⟩
def adC (t:FT)(s:ar PS)(rs:ar (Bool×FT))(F:t.ct.D->BM s->aw (ir rs×t.ct.D)):Ai:=
 {R:=ir rs×t.ct.D,fn:=λxs=>match xs with
  | .val true cs::rest=>(match Nr t cs with|some (x,[])=>aa (lJ s rest) (F x)|_=>none)
  |_=>none,av:=λy=>xR rs y.1,back:=λy=>iW t y.2,bx:=true,cur:=t.JG,hcur:=λh y=>GC h y.2}
theorem kV.ajo {t:FT}{G:ar AV->aw (ir rs×t.ct.D)}(h:kV P f {R:=ir rs×t.ct.D,fn:=G,av:=λy=>xR rs y.1,back:=λy=>iW t y.2,bx:=true}){F:t.ct.D->BM s->aw (ir rs×t.ct.D)}(hF:∀x a,G (.val true (iW t x)::ix s a)=F x a):kV P f (adC t s rs F):=by
 intro xs y hy;simp only[adC]at hy y;split at hy;rename_i cs rest;split at hy;rename_i x hx;cases ha:lJ s rest with
 |none=>rw[ha]at hy;cases hy
 |some a=>
  rw[ha]at hy;have Rn:G (.val true (iW t x)::ix s a)=some y:=by rw[hF x a];exact hy
  have J1:=zU hx;rw[bp]at J1;have hh:=h _ y Rn;refine⟨hh.1,λ_ h=>(by cases h),λh=>(by cases h),λ_ P8 afj he A w b vs arr T fr hw fp hA jr qS dC hn tc gV Ix fb=>?_,λh=>(by cases h)⟩;injection he with he1 he2;injection he1 with _ he3;subst he2;subst he3;rw[J1]at dC;exact hh.2.2.2.1 rfl (iW t x) (ix s a) rfl A w b vs arr T fr hw fp hA jr qS dC hn tc gV Ix (rn ha fb)
 cases hy;cases hy
def adD (t:FT)(s:ar PS)(F:BM s->aw t.ct.D):Ai:=
 {R:=t.ct.D,fn:=λxs=>aa (lJ s xs) F,av:=λ_=> .bot,back:=λy=>iW t y,pr:=true}
theorem kV.ajp {t:FT}{G:ar AV->aw t.ct.D}(h:kV P f {R:=t.ct.D,fn:=G,av:=λ_=> .bot,back:=λy=>iW t y,pr:=true}){F:BM s->aw t.ct.D}(hF:∀a,G (ix s a)=F a):kV P f (adD t s F):=by
 intro xs y hy;simp only[adD]at hy y;cases ha:lJ s xs with
 |none=>rw[ha]at hy;cases hy
 |some a=>
  rw[ha]at hy;have Rn:G (ix s a)=some y:=by rw[hF a];exact hy
  have hh:=h _ y Rn;exact⟨hh.1,λh1 h2 A w vs hA hr=>hh.2.1 h1 h2 A w vs hA (rn ha hr),λh=>(by cases h),λh=>(by cases h),λ_ A w vs hA hr=>hh.2.2.2.2 rfl A w vs hA (rn ha hr)⟩
theorem RI {R σ:Type}{key:dV}{B:AS->(Ex->AS->aw R)->aw R}{K:Ex->AS->aw R}(enc:σ->AS)(T:(σ->aw R)->σ->aw R)
 (h:∀m x,AK key B (m+1) (enc x) K=T (λy=>AK key B m (enc y) K) x):∀m x,AK key B m (enc x) K=aJ T m x
 |0,_=>rfl
 |m+1,x=>by rw[h m x];have:(λy=>AK key B m (enc y) K)=aJ T m:=funext λy=>RI enc T h m y;rw[this];rfl
theorem tz:∀{l:ar PD}{vs:ar AV}{x:Fy l},ka l vs=some x->vs=tB l x
 |[],[],_,_=>rfl
 |[],_::_,_,h=>by simp[ka]at h
 | .data g t::l,[],_,h=>by simp[ka]at h
 | .data g t::l,.vQ _::vs,_,h=>by simp[ka]at h
 | .data g t::l,.val g' cs::vs,x,h=>by
  simp only[ka]at h;cases hg:g==g' with
  |false=>rw[hg]at h;cases h
  |true=>
   rw[hg]at h;simp only[af]at h;have mY:g=g':=by simpa using hg
   subst mY;split at h;rename_i y hy;obtain⟨r,hr,h⟩:=aL.1 h;cases h;have h1:=zU hy;rw[bp]at h1;rw[tB,h1,tz hr];cases h
 | .bot::l,[],x,h=>by simp[ka]at h
 | .ptr s off::l,[],x,h=>by simp[ka]at h
 | .fn f::l,[],x,h=>by simp[ka]at h
 | .bot::l,v::vs,x,h=>by simp only[ka]at h;cases hg:v.aah with|false=>rw[hg]at h;cases h|true=>rw[hg]at h;rw[Yv hg,tB,tz (l:=l) h]
 | .ptr s off::l,v::vs,x,h=>by simp only[ka]at h;cases hg:v.aai s off with|false=>rw[hg]at h;cases h|true=>rw[hg]at h;rw[Yx hg,tB,tz (l:=l) h]
 | .fn f::l,v::vs,x,h=>by simp only[ka]at h;cases hg:v.abQ f with|false=>rw[hg]at h;cases h|true=>rw[hg]at h;rw[RB hg,tB,tz (l:=l) h]
theorem DD:∀{l:ar (aw FT)}{bs:ar (aw (ar AC))}{x:EF l},qM l bs=some x->bs=D4 l x
 |[],[],_,_=>rfl
 |[],_::_,_,h=>by simp[qM]at h
 |some t::l,[],_,h=>by simp[qM]at h
 |none::l,[],_,h=>by simp[qM]at h
 |some t::l,none::bs,_,h=>by simp[qM]at h
 |none::l,some _::bs,_,h=>by simp[qM]at h
 |none::l,none::bs,x,h=>by simp only[qM]at h;rw[D4,DD h]
 |some t::l,some cs::bs,x,h=>by simp only[qM]at h;split at h;rename_i y hy;obtain⟨r,hr,h⟩:=aL.1 h;cases h;have h1:=zU hy;rw[bp]at h1;rw[D4,h1,DD hr];cases h
theorem XI:∀{o:IoD}{cs:ar AC}{x:ioD o},UL o cs=some x->cs=adB o x
 | .none,[],_,_=>rfl
 | .none,_::_,_,h=>by simp[UL]at h
 | .ptr,cs,x,h=>by simp only[UL]at h;cases hp:Yw cs with|false=>rw[hp]at h;cases h|true=>unfold Yw at hp;split at hp;rfl;cases hp
 | .some t,cs,x,h=>by simp only[UL]at h;split at h;rename_i y hy;cases h;have h1:=zU hy;rw[bp]at h1;rw[adB,h1];cases h
theorem SD.UM {d:SD}{st:AS}{x:d.D}(h:d.dec st=some x):st=d.enc x:=by unfold SD.dec at h;cases hc:(st.ep==0&&st.iss==List.replicate d.slots.length false)with|false=>rw[hc]at h;cases h|true=>rw[hc]at h;simp only[af]at h;obtain⟨y,hy,h⟩:=aL.1 h;obtain⟨z,hz,h⟩:=aL.1 h;obtain⟨u,hu,h⟩:=aL.1 h;cases h;simp only[ah,bD]at hc;cases st with|mk slots boxes ep iss io=>simp only at hc hy hz hu;obtain⟨rfl,rfl⟩:=hc;rw[tz hy,DD hz,XI hu];rfl
theorem lok {E:Env}{Γ:xO}{an:An}{Λ:Gs}{c:Code}(l:K5)(h1:Λ (dy c)=l)(n:Nat)(h2:∀(R:Type)(x:l.sd.D)(K:Ex->AS->aw R),l.run x K=AK (an.mask (dy c)) (den E Γ an Λ c) n (l.sd.enc x) K):Xk E Γ an Λ c:=by refine⟨n,λR st K r h=>?_⟩;rw[h1]at h;unfold K5.go at h;cases hd:l.sd.dec st with|none=>rw[hd]at h;cases h|some x=>rw[hd]at h;rw[SD.UM hd,<-h2];exact h
theorem cok {E:Env}{Γ:xO}{an:An}{Λ:Gs}{c:Code}(l:K5)(h1:Λ (xT c)=l)(h2:∀(R:Type)(x:l.sd.D)(K:Ex->AS->aw R),l.run x K=den E Γ an Λ c (l.sd.enc x) (λe st'=>K e (st'.mask (an.mask (xT c+1))))):COk E Γ an Λ c:=by intro R st K r h;rw[h1]at h;unfold K5.go at h;cases hd:l.sd.dec st with|none=>rw[hd]at h;cases h|some x=>rw[hd]at h;rw[SD.UM hd,<-h2];exact h
end Go.Dn
