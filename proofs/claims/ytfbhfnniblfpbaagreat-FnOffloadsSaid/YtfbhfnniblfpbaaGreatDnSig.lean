import Derived.Test.YtfbhfnniblfpbaaGreatDnLaw
/- Functions by the data that they take; loops by the data that they keep. -/
namespace Go.Dn
variable {f:Nat} {P:Program} {rs:ax (Bool×FT)}
inductive PS where
 |data (g:Bool) (t:CT)|fn (f:Nat)
variable {s:ax PS}
abbrev De:ax PS->Type
 |[]=>Unit
 | .data _ t::r=>t.D×De r
 | .fn _::r=>De r
def vR:(t:CT)->ax AC->aA (t.D×ax AC)
 | .int k,.int k' n::r=>if k'=k then some (n,r) else none
 | .bool,.bool b::r=>some (b,r)
 | .str,.str s::r=>some (s,r)
 | .sl e,.sl (.arg false) e' xs::r=>if h:e'=e then some (h▸xs,r) else none
 | .sl _,.kS::r=>some ([],r)
 | .pair a b,cs=>(vR a cs).bind λx=>(vR b x.2).bind λy=>some ((x.1,y.1),y.2)
 |_,_=>none
def ns:(s:ax PS)->ax AV->aA (De s)
 |[],[]=>some ()
 | .data g e::s,.val g' cs::xs=>bif g==g' then
  (match vR e cs with
   |some (x,[])=>(ns s xs).bind λr=>some (x,r)
   |_=>none) else none
 | .fn f::s,v::xs=>bif v.aeR f then ns s xs else none
 |_,_=>none
def jM:(s:ax PS)->De s->ax AV
 |[],_=>[]
 | .data g e::s,a=> .val g (cellsOf e (.arg false) a.1)::jM s a.2
 | .fn f::s,a=> .one (.fn f)::jM s a
theorem afn {A:Rg}{hw:Nat->Nat}{w:World}:∀{t:CT}{cs r:ax AC}{x:t.D},vR t cs=some (x,r)->∀{vs:jI}{fp:fi},bW (gh A hw w) vs cs fp-> ∃v1 v2 f1 f2,vs=v1++v2/\fp=f1++f2/\bW (gh A hw w) v1 (cellsOf t (.arg false) x) f1/\bW (gh A hw w) v2 r f2:=by
 intro t
 have one:∀{y:AC}{ys:ax AC}{vs:jI}{fp:fi}{z:AC},bW (gh A hw w) vs (y::ys) fp->(∀v f,je (gh A hw w) v y f->je (gh A hw w) v z f)->
  ∃v1 v2 f1 f2,vs=v1++v2/\fp=f1++f2/\bW (gh A hw w) v1 [z] f1/\bW (gh A hw w) v2 ys f2:=by
  intro y ys vs fp z h hz
  cases vs with
  |nil=>exact h.elim
  |cons v vs=>
   obtain⟨f1,f2,rfl,h1,h2⟩:=h
   exact⟨[v],vs,f1,f2,rfl,rfl,⟨f1,[],by simp,hz v f1 h1,rfl⟩,h2⟩
 induction t with
 |int k=>intro cs r x h vs fp hr;cases cs with|nil=>simp[vR]at h|cons y ys=>cases y<;>simp[vR]at h;obtain⟨rfl,rfl,rfl⟩:=h;exact one hr λv f h=>h
 |bool=>intro cs r x h vs fp hr;cases cs with|nil=>simp[vR]at h|cons y ys=>cases y<;>simp[vR]at h;obtain⟨rfl,rfl⟩:=h;exact one hr λv f h=>h
 |str=>intro cs r x h vs fp hr;cases cs with|nil=>simp[vR]at h|cons y ys=>cases y<;>simp[vR]at h;obtain⟨rfl,rfl⟩:=h;exact one hr λv f h=>h
 |sl e _=>
  intro cs r x h vs fp hr;cases cs with
  |nil=>simp[vR]at h
  |cons y ys=>
   cases y with
   |sl fl e' xs=>
    cases fl with
    |arg k=>cases k with|true=>simp[vR]at h|false=>simp only[vR]at h;split at h;rename_i he;subst he;cases h;exact one hr λv f h=>h;cases h
    |own t=>simp[vR]at h
    |nest _ _ _ _ _ _=>simp[vR]at h
    |part _ _ _ _=>simp[vR]at h
    |gr _ _ _=>simp[vR]at h
    |loc ep pv=>simp[vR]at h
   |kS=>simp[vR]at h;obtain⟨rfl,rfl⟩:=h;refine one hr λv f h=>?_;obtain⟨rfl,rfl⟩:=h;exact⟨rfl,_,rfl,.inl ⟨⟨none,rfl⟩,rfl⟩⟩
   |_=>simp[vR]at h
 |pair a b iha ihb=>intro cs r x h vs fp hr;simp only[vR]at h;obtain⟨⟨x1,r1⟩,h1,h⟩:=aY.1 h;obtain⟨⟨x2,r2⟩,h2,h⟩:=aY.1 h;cases h;obtain⟨v1,v2,f1,f2,rfl,rfl,k1,k2⟩:=iha h1 hr;obtain⟨v3,v4,f3,f4,rfl,rfl,k3,k4⟩:=ihb h2 k2;exact⟨v1++v3,v4,f1++f3,f4,by simp,by simp,by simpa[cellsOf]using bW.append k1 k3,k4⟩
theorem Ur {v:AV}(h:v.aeR f=true):v=.one (.fn f):=by
 unfold AV.aeR at h;split at h;rename_i f';have:f=f':=by simpa using h
 subst this;rfl;cases h
theorem abk {v:AV}(h:v.ac8=true):v=.bot:=by unfold AV.ac8 at h;split at h;rfl;cases h
theorem abm {v:AV}{s off:Nat}(h:v.ac9 s off=true):v=.one (.ptr s off):=by unfold AV.ac9 at h;split at h;simp only[ah,bD]at h;obtain⟨rfl,rfl⟩:=h;rfl;cases h
theorem tM {A:Rg}{w:World}:∀{s:ax PS}{xs:ax AV}{a:De s},ns s xs=some a->∀{vs:jI},qx A w vs xs->qx A w vs (jM s a)
 |[],[],a,_,vs,h=>h
 |[],_::_,_,h,_,_=>by simp[ns]at h
 | .data g e::s,[],_,h,_,_=>by simp[ns]at h
 | .data g e::s,.yY _::xs,_,h,_,_=>by simp[ns]at h
 | .data g e::s,.val g' cs::xs,a,h,vs,hr=>by
  simp only[ns]at h;cases hg:g==g' with
  |false=>rw[hg]at h;cases h
  |true=>
   rw[hg]at h;simp only[af]at h;have qn:g=g':=by simpa using hg
   subst qn;split at h;rename_i x hx;obtain⟨r,hr',h⟩:=aY.1 h;cases h;cases vs with
   |nil=>exact hr.elim
   |cons v vs=>
    obtain⟨⟨us,gb,hu⟩,h2⟩:=hr;obtain⟨v1,v2,f1,f2,rfl,hf,k1,k2⟩:=afn hx hu;have SY:v2=[]:=by cases v2 with|nil=>rfl|cons _ _=>exact k2.elim
    subst SY;have hf1:f1=[]:=by have:=hf.symm;simp at this;exact this.1
    subst hf1;rw[bg]at gb;exact⟨⟨v1,gb,k1⟩,tM hr' h2⟩
   cases h
 | .fn f::s,[],a,h,vs,hr=>by simp[ns]at h
 | .fn f::s,v::xs,a,h,vs,hr=>by simp only[ns]at h;cases hg:v.aeR f with|false=>rw[hg]at h;cases h|true=>rw[hg]at h;have:=Ur hg;subst this;cases vs with|nil=>exact hr.elim|cons v vs=>exact⟨hr.1,tM h hr.2⟩
def TN (s:ax PS)(rs:ax (Bool×FT))(F:De s->aA (jK rs)):BC:={R:=jK rs,fn:=λxs=>aa (ns s xs) F,av:=zC rs}
theorem nn.of {G:ax AV->aA (jK rs)}(h:nn P f {R:=jK rs,fn:=G,av:=zC rs}){F:De s->aA (jK rs)}(hF:∀a,G (jM s a)=F a):nn P f (TN s rs F):=by
 intro xs y hy;simp only[TN]at hy y;cases ha:ns s xs with
 |none=>rw[ha]at hy;cases hy
 |some a=>
  rw[ha]at hy;have Ud:G (jM s a)=some y:=by rw[hF a];exact hy
  have hh:=h (jM s a) y Ud;exact⟨hh.1,λ_ _ A w vs hA hr=>hh.2.1 rfl rfl A w vs hA (tM ha hr),λh=>(by cases h),λh=>(by cases h),λh=>(by cases h)⟩
def J6 (s:ax PS)(rs O6:ax (Bool×FT))(h:jK O6=jK rs)(F:De s->aA (Bool×jK rs)):BC:=
 {R:=Bool×jK rs,fn:=λxs=>aa (ns s xs) F,av:=λy=>zC rs y.2,sel:=λy=>y.1,alt:=λy=>zC O6 (cast h.symm y.2)}
theorem nn.ofAlt {O6:ax (Bool×FT)}{h2:jK O6=jK rs}{G:ax AV->aA (Bool×jK rs)}(h:nn P f {R:=Bool×jK rs,fn:=G,av:=λy=>zC rs y.2,sel:=λy=>y.1,alt:=λy=>zC O6 (cast h2.symm y.2)}){F:De s->aA (Bool×jK rs)}(hF:∀a,G (jM s a)=F a):nn P f (J6 s rs O6 h2 F):=by
 intro xs y hy;simp only[J6]at hy y;cases ha:ns s xs with
 |none=>rw[ha]at hy;cases hy
 |some a=>
  rw[ha]at hy;have Ud:G (jM s a)=some y:=by rw[hF a];exact hy
  have hh:=h (jM s a) y Ud;exact⟨hh.1,λ_ _ A w vs hA hr=>hh.2.1 rfl rfl A w vs hA (tM ha hr),λh=>(by cases h),λh=>(by cases h),λh=>(by cases h)⟩
def ag6 (s:ax PS)(rs:ax (Bool×FT))(F:De s->aA (Bool×jK rs)):BC:=
 {R:=Bool×jK rs,fn:=λxs=>aa (ns s xs) λa=>aik (F a),av:=λy=>zC rs y.2}
theorem nn.only {O6:ax (Bool×FT)}{h2:jK O6=jK rs}{F:De s->aA (Bool×jK rs)}(h:nn P f (J6 s rs O6 h2 F)):nn P f (ag6 s rs F):=by
 intro xs y hy;simp only[ag6]at hy y;cases ha:ns s xs with
 |none=>rw[ha]at hy;cases hy
 |some a=>
  rw[ha]at hy;have hy:aik (F a)=some y:=hy;unfold aik at hy;cases hF:F a with
  |none=>rw[hF]at hy;cases hy
  |some r=>
   rw[hF]at hy;cases h1:r.1 with
   |false=>simp only[aa,h1,ae]at hy;cases hy
   |true=>
    simp only[aa,h1,af,br]at hy;subst hy;have hf:(J6 s rs O6 h2 F).fn xs=some r:=by show aa (ns s xs) F=some r;rw[ha];exact hF
    have hh:=h xs r hf;have hr:(J6 s rs O6 h2 F).res r=zC rs r.2:=by show cond r.1 (zC rs r.2) _=_;rw[h1];rfl
    refine⟨hh.1,λ_ _ A w vs hA SW=>?_,λh=>(by cases h),λh=>(by cases h),λh=>(by cases h)⟩;have q:=hh.2.1 rfl rfl A w vs hA SW;rw[hr]at q;exact q
def akP (t:CT)(gg:Bool)(s:ax PS)(rs:ax (Bool×FT))(F:t.D->De s->aA (jK rs×t.D)):BC:=
 {R:=jK rs×t.D,fn:=λxs=>match xs with
  | .val g cs::rest=>bif gg==g then(match kJ t cs with|some (x,[])=>aa (ns s rest) (F x)|_=>none) else none
  |_=>none,av:=λy=>zC rs y.1,io:=true,back:=λy=>cellsOf t (.own none) y.2}
theorem nn.as6 {t:CT}{gg:Bool}{G:ax AV->aA (jK rs×t.D)}(h:nn P f {R:=jK rs×t.D,fn:=G,av:=λy=>zC rs y.1,io:=true,back:=λy=>cellsOf t (.own none) y.2}){F:t.D->De s->aA (jK rs×t.D)}(hF:∀x a,G (.val gg (cellsOf t (.own none) x)::jM s a)=F x a):nn P f (akP t gg s rs F):=by
 intro xs y hy;simp only[akP]at hy y;split at hy;rename_i g cs rest;cases hg:(gg==g)with
 |false=>rw[hg]at hy;cases hy
 |true=>
  rw[hg]at hy;have:gg=g:=by simpa using hg
  subst this;simp only[af]at hy;split at hy;rename_i x hx;cases ha:ns s rest with
  |none=>rw[ha]at hy;cases hy
  |some a=>
   rw[ha]at hy;have Ud:G (.val gg (cellsOf t (.own none) x)::jM s a)=some y:=by rw[hF x a];exact hy
   have hh:=h _ y Ud;refine⟨hh.1,λh=>(by cases h),λ_ g0 SA aiD he A w v0 vs hw fp hA fE hn iA gN=>?_,λh=>(by cases h),λh=>(by cases h)⟩;injection he with he1 he2;injection he1 with he1 he3;subst he1;subst he2;subst he3;refine hh.2.2.1 rfl gg (cellsOf t (.own none) x) (jM s a) rfl A w v0 vs hw fp hA ?_ hn iA (tM ha gN);obtain⟨us,gb,fE⟩:=fE;obtain⟨f1,f2,rfl,ix,oI⟩:=tN fE hx;have V3:us.drop t.size=[]:=by cases hd:us.drop t.size with|nil=>rfl|cons _ _=>rw[hd]at oI;exact oI.elim
   rw[V3]at oI;have F1:f2=[]:=oI;subst F1;have ahD:us.take t.size=us:=by have:=cg t.size us;rw[V3,bg]at this;exact this
   rw[ahD]at ix;rw[bg];exact⟨us,gb,xy (c:=gh A hw w) ix⟩
  cases hy
 cases hy
def FT.KN:FT->Bool
 | .sl .arg _=>true
 | .sl .ajo _=>true
 | .sl _ _=>false
 | .pair a b=>a.KN&&b.KN
 |_=>true
theorem Hu:∀{t:FT},t.KN=true->∀x:t.ct.D,(ks t x).all AC.KN=true
 | .int _,_,_=>rfl
 | .bool,_,_=>rfl
 | .str,_,_=>rfl
 | .sl fl e,h,_=>by cases fl<;>first|rfl|cases h
 | .pair a b,h,x=>by simp only[FT.KN,ah]at h;simp only[ks,List.all_append,ah];exact⟨Hu h.1 x.1,Hu h.2 x.2⟩
def ag4 (t:FT)(s:ax PS)(rs:ax (Bool×FT))(F:t.ct.D->De s->aA (jK rs×t.ct.D)):BC:=
 {R:=jK rs×t.ct.D,fn:=λxs=>match xs with
  | .val true cs::rest=>(match PA t cs with|some (x,[])=>aa (ns s rest) (F x)|_=>none)
  |_=>none,av:=λy=>zC rs y.1,back:=λy=>ks t y.2,bx:=true,cur:=t.KN,hcur:=λh y=>Hu h y.2}
theorem nn.ane {t:FT}{G:ax AV->aA (jK rs×t.ct.D)}(h:nn P f {R:=jK rs×t.ct.D,fn:=G,av:=λy=>zC rs y.1,back:=λy=>ks t y.2,bx:=true}){F:t.ct.D->De s->aA (jK rs×t.ct.D)}(hF:∀x a,G (.val true (ks t x)::jM s a)=F x a):nn P f (ag4 t s rs F):=by
 intro xs y hy;simp only[ag4]at hy y;split at hy;rename_i cs rest;split at hy;rename_i x hx;cases ha:ns s rest with
 |none=>rw[ha]at hy;cases hy
 |some a=>
  rw[ha]at hy;have Ud:G (.val true (ks t x)::jM s a)=some y:=by rw[hF x a];exact hy
  have ME:=Bn hx;rw[bg]at ME;have hh:=h _ y Ud;refine⟨hh.1,λ_ h=>(by cases h),λh=>(by cases h),λ_ SA aiD he A w b vs arr T fr hw fp hA ma vx fE hn zb iA KK gN=>?_,λh=>(by cases h)⟩;injection he with he1 he2;injection he1 with _ he3;subst he2;subst he3;rw[ME]at fE;exact hh.2.2.2.1 rfl (ks t x) (jM s a) rfl A w b vs arr T fr hw fp hA ma vx fE hn zb iA KK (tM ha gN)
 cases hy;cases hy
def ag5 (t:FT)(s:ax PS)(F:De s->aA t.ct.D):BC:=
 {R:=t.ct.D,fn:=λxs=>aa (ns s xs) F,av:=λ_=> .bot,back:=λy=>ks t y,pr:=true}
theorem nn.anf {t:FT}{G:ax AV->aA t.ct.D}(h:nn P f {R:=t.ct.D,fn:=G,av:=λ_=> .bot,back:=λy=>ks t y,pr:=true}){F:De s->aA t.ct.D}(hF:∀a,G (jM s a)=F a):nn P f (ag5 t s F):=by
 intro xs y hy;simp only[ag5]at hy y;cases ha:ns s xs with
 |none=>rw[ha]at hy;cases hy
 |some a=>
  rw[ha]at hy;have Ud:G (jM s a)=some y:=by rw[hF a];exact hy
  have hh:=h _ y Ud;exact⟨hh.1,λh1 h2 A w vs hA hr=>hh.2.1 h1 h2 A w vs hA (tM ha hr),λh=>(by cases h),λh=>(by cases h),λ_ A w vs hA hr=>hh.2.2.2.2 rfl A w vs hA (tM ha hr)⟩
theorem Uz {R σ:Type}{key:fi}{B:AS->(Ex->AS->aA R)->aA R}{K:Ex->AS->aA R}(enc:σ->AS)(T:(σ->aA R)->σ->aA R)
 (h:∀m x,B7 key B (m+1) (enc x) K=T (λy=>B7 key B m (enc y) K) x):∀m x,B7 key B m (enc x) K=aZ T m x
 |0,_=>rfl
 |m+1,x=>by rw[h m x];have:(λy=>B7 key B m (enc y) K)=aZ T m:=funext λy=>Uz enc T h m y;rw[this];rfl
theorem vC:∀{l:ax PD}{vs:ax AV}{x:GD l},lK l vs=some x->vs=vD l x
 |[],[],_,_=>rfl
 |[],_::_,_,h=>by simp[lK]at h
 | .data g t::l,[],_,h=>by simp[lK]at h
 | .data g t::l,.yY _::vs,_,h=>by simp[lK]at h
 | .data g t::l,.val g' cs::vs,x,h=>by
  simp only[lK]at h;cases hg:g==g' with
  |false=>rw[hg]at h;cases h
  |true=>
   rw[hg]at h;simp only[af]at h;have qn:g=g':=by simpa using hg
   subst qn;split at h;rename_i y hy;obtain⟨r,hr,h⟩:=aY.1 h;cases h;have h1:=Bn hy;rw[bg]at h1;rw[vD,h1,vC hr];cases h
 | .bot::l,[],x,h=>by simp[lK]at h
 | .ptr s off::l,[],x,h=>by simp[lK]at h
 | .fn f::l,[],x,h=>by simp[lK]at h
 | .bot::l,v::vs,x,h=>by simp only[lK]at h;cases hg:v.ac8 with|false=>rw[hg]at h;cases h|true=>rw[hg]at h;rw[abk hg,vD,vC (l:=l) h]
 | .ptr s off::l,v::vs,x,h=>by simp only[lK]at h;cases hg:v.ac9 s off with|false=>rw[hg]at h;cases h|true=>rw[hg]at h;rw[abm hg,vD,vC (l:=l) h]
 | .fn f::l,v::vs,x,h=>by simp only[lK]at h;cases hg:v.aeR f with|false=>rw[hg]at h;cases h|true=>rw[hg]at h;rw[Ur hg,vD,vC (l:=l) h]
theorem ER:∀{l:ax (aA FT)}{bs:ax (aA (ax AC))}{x:F5 l},tA l bs=some x->bs=Fg l x
 |[],[],_,_=>rfl
 |[],_::_,_,h=>by simp[tA]at h
 |some t::l,[],_,h=>by simp[tA]at h
 |none::l,[],_,h=>by simp[tA]at h
 |some t::l,none::bs,_,h=>by simp[tA]at h
 |none::l,some _::bs,_,h=>by simp[tA]at h
 |none::l,none::bs,x,h=>by simp only[tA]at h;rw[Fg,ER h]
 |some t::l,some cs::bs,x,h=>by simp only[tA]at h;split at h;rename_i y hy;obtain⟨r,hr,h⟩:=aY.1 h;cases h;have h1:=Bn hy;rw[bg]at h1;rw[Fg,h1,ER hr];cases h
theorem aaD:∀{o:IoD}{cs:ax AC}{x:ioD o},Xx o cs=some x->cs=ag3 o x
 | .none,[],_,_=>rfl
 | .none,_::_,_,h=>by simp[Xx]at h
 | .ptr,cs,x,h=>by simp only[Xx]at h;cases hp:abl cs with|false=>rw[hp]at h;cases h|true=>unfold abl at hp;split at hp;rfl;cases hp
 | .some t,cs,x,h=>by simp only[Xx]at h;split at h;rename_i y hy;cases h;have h1:=Bn hy;rw[bg]at h1;rw[ag3,h1];cases h
theorem SD.Xy {d:SD}{st:AS}{x:d.D}(h:d.dec st=some x):st=d.enc x:=by unfold SD.dec at h;cases hc:(st.ep==0&&st.iss==List.replicate d.slots.length false)with|false=>rw[hc]at h;cases h|true=>rw[hc]at h;simp only[af]at h;obtain⟨y,hy,h⟩:=aY.1 h;obtain⟨z,hz,h⟩:=aY.1 h;obtain⟨u,hu,h⟩:=aY.1 h;cases h;simp only[ah,bD]at hc;cases st with|mk slots boxes ep iss io=>simp only at hc hy hz hu;obtain⟨rfl,rfl⟩:=hc;rw[vC hy,ER hz,aaD hu];rfl
theorem lok {E:Env}{Γ:zu}{an:An}{Λ:Hg}{c:Code}(l:MI)(h1:Λ (eP c)=l)(n:Nat)(h2:∀(R:Type)(x:l.sd.D)(K:Ex->AS->aA R),l.run x K=B7 (an.mask (eP c)) (den E Γ an Λ c) n (l.sd.enc x) K):LOk E Γ an Λ c:=by refine⟨n,λR st K r h=>?_⟩;rw[h1]at h;unfold MI.go at h;cases hd:l.sd.dec st with|none=>rw[hd]at h;cases h|some x=>rw[hd]at h;rw[SD.Xy hd,<-h2];exact h
theorem cok {E:Env}{Γ:zu}{an:An}{Λ:Hg}{c:Code}(l:MI)(h1:Λ (zG c)=l)(h2:∀(R:Type)(x:l.sd.D)(K:Ex->AS->aA R),l.run x K=den E Γ an Λ c (l.sd.enc x) (λe cp=>K e (cp.mask (an.mask (zG c+1))))):COk E Γ an Λ c:=by intro R st K r h;rw[h1]at h;unfold MI.go at h;cases hd:l.sd.dec st with|none=>rw[hd]at h;cases h|some x=>rw[hd]at h;rw[SD.Xy hd,<-h2];exact h
end Go.Dn
