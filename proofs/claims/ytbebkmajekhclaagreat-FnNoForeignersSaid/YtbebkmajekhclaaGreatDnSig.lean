import Derived.Test.YtbebkmajekhclaaGreatDnLaw
/- Functions by the data that they take; loops by the data that they keep. -/
namespace Go.Dn
variable {v:AV} {f:Nat} {P:Program} {rs:ax (Bool×FT)}
inductive PS where
 |data (g:Bool) (t:CT)|fn (f:Nat)
variable {s:ax PS}
abbrev Dt:ax PS->Type
 |[]=>Unit
 | .data _ t::r=>t.D×Dt r
 | .fn _::r=>Dt r
def uV:(t:CT)->ax AC->az (t.D×ax AC)
 | .int k,.int k' n::r=>if k'=k then some (n,r) else none
 | .bool,.bool b::r=>some (b,r)
 | .str,.str s::r=>some (s,r)
 | .sl e,.sl (.arg false) e' xs::r=>if h:e'=e then some (h▸xs,r) else none
 | .sl _,.kI::r=>some ([],r)
 | .pair a b,cs=>(uV a cs).bind λx=>(uV b x.2).bind λy=>some ((x.1,y.1),y.2)
 |_,_=>none
def pk:(s:ax PS)->ax AV->az (Dt s)
 |[],[]=>some ()
 | .data g e::s,.val g' cs::xs=>bif g==g' then
  (match uV e cs with
   |some (x,[])=>(pk s xs).bind λr=>some (x,r)
   |_=>none) else none
 | .fn f::s,v::xs=>bif v.af2 f then pk s xs else none
 |_,_=>none
def mM:(s:ax PS)->Dt s->ax AV
 |[],_=>[]
 | .data g e::s,a=> .val g (cellsOf e (.arg false) a.1)::mM s a.2
 | .fn f::s,a=> .one (.fn f)::mM s a
theorem agy {A:Rg}{hw:Nat->Nat}{w:World}:∀{t:CT}{cs r:ax AC}{x:t.D},uV t cs=some (x,r)->∀{vs:jt}{fp:fK},bU (gD A hw w) vs cs fp-> ∃v1 v2 f1 f2,vs=v1++v2/\fp=f1++f2/\bU (gD A hw w) v1 (cellsOf t (.arg false) x) f1/\bU (gD A hw w) v2 r f2:=by
 intro t
 have one:∀{y:AC}{ys:ax AC}{vs:jt}{fp:fK}{z:AC},bU (gD A hw w) vs (y::ys) fp->(∀v f,iC (gD A hw w) v y f->iC (gD A hw w) v z f)->
  ∃v1 v2 f1 f2,vs=v1++v2/\fp=f1++f2/\bU (gD A hw w) v1 [z] f1/\bU (gD A hw w) v2 ys f2:=by
  intro y ys vs fp z h hz
  cases vs with
  |nil=>exact h.elim
  |cons v vs=>
   obtain⟨f1,f2,rfl,h1,h2⟩:=h
   exact⟨[v],vs,f1,f2,rfl,rfl,⟨f1,[],by simp,hz v f1 h1,rfl⟩,h2⟩
 induction t with
 |int k=>intro cs r x h vs fp hr;cases cs with|nil=>simp[uV]at h|cons y ys=>cases y<;>simp[uV]at h;obtain⟨rfl,rfl,rfl⟩:=h;exact one hr λv f h=>h
 |bool=>intro cs r x h vs fp hr;cases cs with|nil=>simp[uV]at h|cons y ys=>cases y<;>simp[uV]at h;obtain⟨rfl,rfl⟩:=h;exact one hr λv f h=>h
 |str=>intro cs r x h vs fp hr;cases cs with|nil=>simp[uV]at h|cons y ys=>cases y<;>simp[uV]at h;obtain⟨rfl,rfl⟩:=h;exact one hr λv f h=>h
 |sl e _=>
  intro cs r x h vs fp hr;cases cs with
  |nil=>simp[uV]at h
  |cons y ys=>
   cases y with
   |sl fl e' xs=>
    cases fl with
    |arg k=>cases k with|true=>simp[uV]at h|false=>simp only[uV]at h;split at h;rename_i he;subst he;cases h;exact one hr λv f h=>h;cases h
    |own t=>simp[uV]at h
    |nest _ _ _ _ _ _=>simp[uV]at h
    |part _ _ _ _=>simp[uV]at h
    |ga _ _ _=>simp[uV]at h
    |loc ep pv=>simp[uV]at h
   |kI=>simp[uV]at h;obtain⟨rfl,rfl⟩:=h;refine one hr λv f h=>?_;obtain⟨rfl,rfl⟩:=h;exact⟨rfl,_,rfl,.inl ⟨⟨none,rfl⟩,rfl⟩⟩
   |_=>simp[uV]at h
 |pair a b iha ihb=>intro cs r x h vs fp hr;simp only[uV]at h;obtain⟨⟨x1,r1⟩,h1,h⟩:=aZ.1 h;obtain⟨⟨x2,r2⟩,h2,h⟩:=aZ.1 h;cases h;obtain⟨v1,v2,f1,f2,rfl,rfl,k1,k2⟩:=iha h1 hr;obtain⟨v3,v4,f3,f4,rfl,rfl,k3,k4⟩:=ihb h2 k2;exact⟨v1++v3,v4,f1++f3,f4,by simp,by simp,by simpa[cellsOf]using bU.append k1 k3,k4⟩
theorem Tj (h:v.af2 f=true):v=.one (.fn f):=by
 unfold AV.af2 at h;split at h;rename_i f';have:f=f':=by simpa using h
 subst this;rfl;cases h
theorem abY (h:v.adY=true):v=.bot:=by unfold AV.adY at h;split at h;rfl;cases h
theorem ab0 {s off:Nat}(h:v.adZ s off=true):v=.one (.ptr s off):=by unfold AV.adZ at h;split at h;simp only[ae,bg]at h;obtain⟨rfl,rfl⟩:=h;rfl;cases h
theorem wc {A:Rg}{w:World}:∀{s:ax PS}{xs:ax AV}{a:Dt s},pk s xs=some a->∀{vs:jt},rz A w vs xs->rz A w vs (mM s a)
 |[],[],a,_,vs,h=>h
 |[],_::_,_,h,_,_=>by simp[pk]at h
 | .data g e::s,[],_,h,_,_=>by simp[pk]at h
 | .data g e::s,.yh _::xs,_,h,_,_=>by simp[pk]at h
 | .data g e::s,.val g' cs::xs,a,h,vs,hr=>by
  simp only[pk]at h;cases hg:g==g' with
  |false=>rw[hg]at h;cases h
  |true=>
   rw[hg]at h;simp only[ah]at h;have pJ:g=g':=by simpa using hg
   subst pJ;split at h;rename_i x hx;obtain⟨r,hr',h⟩:=aZ.1 h;cases h;cases vs with
   |nil=>exact hr.elim
   |cons v vs=>
    obtain⟨⟨us,gb,hu⟩,h2⟩:=hr;obtain⟨v1,v2,f1,f2,rfl,hf,k1,k2⟩:=agy hx hu;have Vq:v2=[]:=by cases v2 with|nil=>rfl|cons _ _=>exact k2.elim
    subst Vq;have hf1:f1=[]:=by have:=hf.symm;simp at this;exact this.1
    subst hf1;rw[bD]at gb;exact⟨⟨v1,gb,k1⟩,wc hr' h2⟩
   cases h
 | .fn f::s,[],a,h,vs,hr=>by simp[pk]at h
 | .fn f::s,v::xs,a,h,vs,hr=>by simp only[pk]at h;cases hg:v.af2 f with|false=>rw[hg]at h;cases h|true=>rw[hg]at h;have:=Tj hg;subst this;cases vs with|nil=>exact hr.elim|cons v vs=>exact⟨hr.1,wc h hr.2⟩
def SE (s:ax PS)(rs:ax (Bool×FT))(F:Dt s->az (lX rs)):lr:={R:=lX rs,fn:=λxs=>aa (pk s xs) F,av:=BX rs}
theorem iZ.of {G:ax AV->az (lX rs)}(h:iZ P f {R:=lX rs,fn:=G,av:=BX rs}){F:Dt s->az (lX rs)}(hF:∀a,G (mM s a)=F a):iZ P f (SE s rs F):=by
 intro xs y hy;simp only[SE]at hy y;cases ha:pk s xs with
 |none=>rw[ha]at hy;cases hy
 |some a=>
  rw[ha]at hy;have Ww:G (mM s a)=some y:=by rw[hF a];exact hy
  have hh:=h (mM s a) y Ww;exact⟨hh.1,λ_ _ A w vs hA hr=>hh.2.1 rfl rfl A w vs hA (wc ha hr),λh=>(by cases h),λh=>(by cases h),λh=>(by cases h)⟩
def F8 (s:ax PS)(rs RB:ax (Bool×FT))(h:lX RB=lX rs)(F:Dt s->az (Bool×lX rs)):lr:=
 {R:=Bool×lX rs,fn:=λxs=>aa (pk s xs) F,av:=λy=>BX rs y.2,sel:=λy=>y.1,alt:=λy=>BX RB (cast h.symm y.2)}
theorem iZ.ofAlt {RB:ax (Bool×FT)}{h2:lX RB=lX rs}{G:ax AV->az (Bool×lX rs)}(h:iZ P f {R:=Bool×lX rs,fn:=G,av:=λy=>BX rs y.2,sel:=λy=>y.1,alt:=λy=>BX RB (cast h2.symm y.2)}){F:Dt s->az (Bool×lX rs)}(hF:∀a,G (mM s a)=F a):iZ P f (F8 s rs RB h2 F):=by
 intro xs y hy;simp only[F8]at hy y;cases ha:pk s xs with
 |none=>rw[ha]at hy;cases hy
 |some a=>
  rw[ha]at hy;have Ww:G (mM s a)=some y:=by rw[hF a];exact hy
  have hh:=h (mM s a) y Ww;exact⟨hh.1,λ_ _ A w vs hA hr=>hh.2.1 rfl rfl A w vs hA (wc ha hr),λh=>(by cases h),λh=>(by cases h),λh=>(by cases h)⟩
def aiE (s:ax PS)(rs:ax (Bool×FT))(F:Dt s->az (Bool×lX rs)):lr:=
 {R:=Bool×lX rs,fn:=λxs=>aa (pk s xs) λa=>ajZ (F a),av:=λy=>BX rs y.2}
theorem iZ.only {RB:ax (Bool×FT)}{h2:lX RB=lX rs}{F:Dt s->az (Bool×lX rs)}(h:iZ P f (F8 s rs RB h2 F)):iZ P f (aiE s rs F):=by
 intro xs y hy;simp only[aiE]at hy y;cases ha:pk s xs with
 |none=>rw[ha]at hy;cases hy
 |some a=>
  rw[ha]at hy;have hy:ajZ (F a)=some y:=hy;unfold ajZ at hy;cases hF:F a with
  |none=>rw[hF]at hy;cases hy
  |some r=>
   rw[hF]at hy;cases h1:r.1 with
   |false=>simp only[aa,h1,af]at hy;cases hy
   |true=>
    simp only[aa,h1,ah,bq]at hy;subst hy;have hf:(F8 s rs RB h2 F).fn xs=some r:=by show aa (pk s xs) F=some r;rw[ha];exact hF
    have hh:=h xs r hf;have hr:(F8 s rs RB h2 F).res r=BX rs r.2:=by show cond r.1 (BX rs r.2) _=_;rw[h1];rfl
    refine⟨hh.1,λ_ _ A w vs hA RV=>?_,λh=>(by cases h),λh=>(by cases h),λh=>(by cases h)⟩;have q:=hh.2.1 rfl rfl A w vs hA RV;rw[hr]at q;exact q
def FT.Jx:FT->Bool
 | .sl .arg _=>true
 | .sl .AO _=>true
 | .sl _ _=>false
 | .pair a b=>a.Jx&&b.Jx
 |_=>true
theorem FQ:∀{t:FT},t.Jx=true->∀x:t.ct.D,(kv t x).all AC.Jx=true
 | .int _,_,_=>rfl
 | .bool,_,_=>rfl
 | .str,_,_=>rfl
 | .sl fl e,h,_=>by cases fl<;>first|rfl|cases h
 | .pair a b,h,x=>by simp only[FT.Jx,ae]at h;simp only[kv,List.all_append,ae];exact⟨FQ h.1 x.1,FQ h.2 x.2⟩
def kO (t:FT)(s:ax PS)(rs:ax (Bool×FT))(F:t.ct.D->Dt s->az (lX rs×t.ct.D)):lr:=
 {R:=lX rs×t.ct.D,fn:=λxs=>match xs with
  | .val true cs::rest=>(match Ot t cs with|some (x,[])=>aa (pk s rest) (F x)|_=>none)
  |_=>none,av:=λy=>BX rs y.1,back:=λy=>kv t y.2,bx:=true,cur:=t.Jx,hcur:=λh y=>FQ h y.2}
theorem iZ.sQ {t:FT}{G:ax AV->az (lX rs×t.ct.D)}(h:iZ P f {R:=lX rs×t.ct.D,fn:=G,av:=λy=>BX rs y.1,back:=λy=>kv t y.2,bx:=true}){F:t.ct.D->Dt s->az (lX rs×t.ct.D)}(hF:∀x a,G (.val true (kv t x)::mM s a)=F x a):iZ P f (kO t s rs F):=by
 intro xs y hy;simp only[kO]at hy y;split at hy;rename_i cs rest;split at hy;rename_i x hx;cases ha:pk s rest with
 |none=>rw[ha]at hy;cases hy
 |some a=>
  rw[ha]at hy;have Ww:G (.val true (kv t x)::mM s a)=some y:=by rw[hF x a];exact hy
  have LB:=Ai hx;rw[bD]at LB;have hh:=h _ y Ww;refine⟨hh.1,λ_ h=>(by cases h),λh=>(by cases h),λ_ Sz arj he A w b vs arr T fr hw fp hA lz uv fM hn yn gH Jt gP=>?_,λh=>(by cases h)⟩;injection he with he1 he2;injection he1 with _ he3;subst he2;subst he3;rw[LB]at fM;exact hh.2.2.2.1 rfl (kv t x) (mM s a) rfl A w b vs arr T fr hw fp hA lz uv fM hn yn gH Jt (wc ha gP)
 cases hy;cases hy
def abf (t:FT)(s:ax PS)(F:Dt s->az t.ct.D):lr:=
 {R:=t.ct.D,fn:=λxs=>aa (pk s xs) F,av:=λ_=> .bot,back:=λy=>kv t y,pr:=true}
theorem iZ.ard {t:FT}{G:ax AV->az t.ct.D}(h:iZ P f {R:=t.ct.D,fn:=G,av:=λ_=> .bot,back:=λy=>kv t y,pr:=true}){F:Dt s->az t.ct.D}(hF:∀a,G (mM s a)=F a):iZ P f (abf t s F):=by
 intro xs y hy;simp only[abf]at hy y;cases ha:pk s xs with
 |none=>rw[ha]at hy;cases hy
 |some a=>
  rw[ha]at hy;have Ww:G (mM s a)=some y:=by rw[hF a];exact hy
  have hh:=h _ y Ww;exact⟨hh.1,λh1 h2 A w vs hA hr=>hh.2.1 h1 h2 A w vs hA (wc ha hr),λh=>(by cases h),λh=>(by cases h),λ_ A w vs hA hr=>hh.2.2.2.2 rfl A w vs hA (wc ha hr)⟩
theorem Tp {R σ:Type}{key:fK}{B:AS->(Ex->AS->az R)->az R}{K:Ex->AS->az R}(enc:σ->AS)(T:(σ->az R)->σ->az R)
 (h:∀m x,Dd key B (m+1) (enc x) K=T (λy=>Dd key B m (enc y) K) x):∀m x,Dd key B m (enc x) K=bl T m x
 |0,_=>rfl
 |m+1,x=>by rw[h m x];have:(λy=>Dd key B m (enc y) K)=bl T m:=funext λy=>Tp enc T h m y;rw[this];rfl
theorem uE:∀{l:ax PD}{vs:ax AV}{x:Mq l},lf l vs=some x->vs=uF l x
 |[],[],_,_=>rfl
 |[],_::_,_,h=>by simp[lf]at h
 | .data g t::l,[],_,h=>by simp[lf]at h
 | .data g t::l,.yh _::vs,_,h=>by simp[lf]at h
 | .data g t::l,.val g' cs::vs,x,h=>by
  simp only[lf]at h;cases hg:g==g' with
  |false=>rw[hg]at h;cases h
  |true=>
   rw[hg]at h;simp only[ah]at h;have pJ:g=g':=by simpa using hg
   subst pJ;split at h;rename_i y hy;obtain⟨r,hr,h⟩:=aZ.1 h;cases h;have h1:=Ai hy;rw[bD]at h1;rw[uF,h1,uE hr];cases h
 | .bot::l,[],x,h=>by simp[lf]at h
 | .ptr s off::l,[],x,h=>by simp[lf]at h
 | .fn f::l,[],x,h=>by simp[lf]at h
 | .bot::l,v::vs,x,h=>by simp only[lf]at h;cases hg:v.adY with|false=>rw[hg]at h;cases h|true=>rw[hg]at h;rw[abY hg,uF,uE (l:=l) h]
 | .ptr s off::l,v::vs,x,h=>by simp only[lf]at h;cases hg:v.adZ s off with|false=>rw[hg]at h;cases h|true=>rw[hg]at h;rw[ab0 hg,uF,uE (l:=l) h]
 | .fn f::l,v::vs,x,h=>by simp only[lf]at h;cases hg:v.af2 f with|false=>rw[hg]at h;cases h|true=>rw[hg]at h;rw[Tj hg,uF,uE (l:=l) h]
theorem Dx:∀{l:ax (az FT)}{bs:ax (az (ax AC))}{x:Lq l},sr l bs=some x->bs=DZ l x
 |[],[],_,_=>rfl
 |[],_::_,_,h=>by simp[sr]at h
 |some t::l,[],_,h=>by simp[sr]at h
 |none::l,[],_,h=>by simp[sr]at h
 |some t::l,none::bs,_,h=>by simp[sr]at h
 |none::l,some _::bs,_,h=>by simp[sr]at h
 |none::l,none::bs,x,h=>by simp only[sr]at h;rw[DZ,Dx h]
 |some t::l,some cs::bs,x,h=>by simp only[sr]at h;split at h;rename_i y hy;obtain⟨r,hr,h⟩:=aZ.1 h;cases h;have h1:=Ai hy;rw[bD]at h1;rw[DZ,h1,Dx hr];cases h
theorem aba:∀{o:IoD}{cs:ax AC}{x:ioD o},W3 o cs=some x->cs=aiD o x
 | .none,[],_,_=>rfl
 | .none,_::_,_,h=>by simp[W3]at h
 | .ptr,cs,x,h=>by simp only[W3]at h;cases hp:abZ cs with|false=>rw[hp]at h;cases h|true=>unfold abZ at hp;split at hp;rfl;cases hp
 | .some t,cs,x,h=>by simp only[W3]at h;split at h;rename_i y hy;cases h;have h1:=Ai hy;rw[bD]at h1;rw[aiD,h1];cases h
theorem SD.W4 {d:SD}{st:AS}{x:d.D}(h:d.dec st=some x):st=d.enc x:=by unfold SD.dec at h;cases hc:(st.ep==0&&st.iss==List.replicate d.slots.length false)with|false=>rw[hc]at h;cases h|true=>rw[hc]at h;simp only[ah]at h;obtain⟨y,hy,h⟩:=aZ.1 h;obtain⟨z,hz,h⟩:=aZ.1 h;obtain⟨u,hu,h⟩:=aZ.1 h;cases h;simp only[ae,bg]at hc;cases st with|mk slots boxes ep iss io=>simp only at hc hy hz hu;obtain⟨rfl,rfl⟩:=hc;rw[uE hy,Dx hz,aba hu];rfl
theorem lok {E:Env}{Γ:BV}{an:An}{Λ:lZ}{c:Code}(l:Lm)(h1:Λ (ff c)=l)(n:Nat)(h2:∀(R:Type)(x:l.sd.D)(K:Ex->AS->az R),l.run x K=Dd (an.mask (ff c)) (den E Γ an Λ c) n (l.sd.enc x) K):wO E Γ an Λ c:=by refine⟨n,λR st K r h=>?_⟩;rw[h1]at h;unfold Lm.go at h;cases hd:l.sd.dec st with|none=>rw[hd]at h;cases h|some x=>rw[hd]at h;rw[SD.W4 hd,<-h2];exact h
theorem cok {E:Env}{Γ:BV}{an:An}{Λ:lZ}{c:Code}(l:Lm)(h1:Λ (FX c)=l)(h2:∀(R:Type)(x:l.sd.D)(K:Ex->AS->az R),l.run x K=den E Γ an Λ c (l.sd.enc x) (λe bZ=>K e (bZ.mask (an.mask (FX c+1))))):Rs E Γ an Λ c:=by intro R st K r h;rw[h1]at h;unfold Lm.go at h;cases hd:l.sd.dec st with|none=>rw[hd]at h;cases h|some x=>rw[hd]at h;rw[SD.W4 hd,<-h2];exact h
end Go.Dn
