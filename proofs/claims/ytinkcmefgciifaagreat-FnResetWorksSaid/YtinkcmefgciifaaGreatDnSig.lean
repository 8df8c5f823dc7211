import Derived.Test.YtinkcmefgciifaaGreatDnLaw
/- Functions by the data that they take; loops by the data that they keep. -/
namespace Go.Dn
variable {v:AV} {f:Nat} {P:Program} {rs:az (Bool×FT)}
inductive PS where
 |data (g:Bool) (t:CT)|fn (f:Nat)
variable {s:az PS}
abbrev CY:az PS->Type
 |[]=>Unit
 | .data _ t::r=>t.D×CY r
 | .fn _::r=>CY r
def uM:(t:CT)->az AC->aC (t.D×az AC)
 | .int k,.int k' n::r=>if k'=k then some (n,r) else none
 | .bool,.bool b::r=>some (b,r)
 | .str,.str s::r=>some (s,r)
 | .sl e,.sl (.arg false) e' xs::r=>if h:e'=e then some (h▸xs,r) else none
 | .sl _,.lj::r=>some ([],r)
 | .pair a b,cs=>(uM a cs).bind λx=>(uM b x.2).bind λy=>some ((x.1,y.1),y.2)
 |_,_=>none
def py:(s:az PS)->az AV->aC (CY s)
 |[],[]=>some ()
 | .data g e::s,.val g' cs::xs=>bif g==g' then
  (match uM e cs with
   |some (x,[])=>(py s xs).bind λr=>some (x,r)
   |_=>none) else none
 | .fn f::s,v::xs=>bif v.ad1 f then py s xs else none
 |_,_=>none
def nb:(s:az PS)->CY s->az AV
 |[],_=>[]
 | .data g e::s,a=> .val g (cellsOf e (.arg false) a.1)::nb s a.2
 | .fn f::s,a=> .one (.fn f)::nb s a
theorem aex {A:Rg}{hw:Nat->Nat}{w:World}:∀{t:CT}{cs r:az AC}{x:t.D},uM t cs=some (x,r)->∀{vs:jT}{fp:gk},bT (gT A hw w) vs cs fp-> ∃v1 v2 f1 f2,vs=v1++v2/\fp=f1++f2/\bT (gT A hw w) v1 (cellsOf t (.arg false) x) f1/\bT (gT A hw w) v2 r f2:=by
 intro t
 have one:∀{y:AC}{ys:az AC}{vs:jT}{fp:gk}{z:AC},bT (gT A hw w) vs (y::ys) fp->(∀v f,jh (gT A hw w) v y f->jh (gT A hw w) v z f)->
  ∃v1 v2 f1 f2,vs=v1++v2/\fp=f1++f2/\bT (gT A hw w) v1 [z] f1/\bT (gT A hw w) v2 ys f2:=by
  intro y ys vs fp z h hz
  cases vs with
  |nil=>exact h.elim
  |cons v vs=>
   obtain⟨f1,f2,rfl,h1,h2⟩:=h
   exact⟨[v],vs,f1,f2,rfl,rfl,⟨f1,[],by simp,hz v f1 h1,rfl⟩,h2⟩
 induction t with
 |int k=>intro cs r x h vs fp hr;cases cs with|nil=>simp[uM]at h|cons y ys=>cases y<;>simp[uM]at h;obtain⟨rfl,rfl,rfl⟩:=h;exact one hr λv f h=>h
 |bool=>intro cs r x h vs fp hr;cases cs with|nil=>simp[uM]at h|cons y ys=>cases y<;>simp[uM]at h;obtain⟨rfl,rfl⟩:=h;exact one hr λv f h=>h
 |str=>intro cs r x h vs fp hr;cases cs with|nil=>simp[uM]at h|cons y ys=>cases y<;>simp[uM]at h;obtain⟨rfl,rfl⟩:=h;exact one hr λv f h=>h
 |sl e _=>
  intro cs r x h vs fp hr;cases cs with
  |nil=>simp[uM]at h
  |cons y ys=>
   cases y with
   |sl fl e' xs=>
    cases fl with
    |arg k=>cases k with|true=>simp[uM]at h|false=>simp only[uM]at h;split at h;rename_i he;subst he;cases h;exact one hr λv f h=>h;cases h
    |own t=>simp[uM]at h
    |nest _ _ _ _ _ _=>simp[uM]at h
    |part _ _ _ _=>simp[uM]at h
    |gH _ _ _=>simp[uM]at h
    |loc ep pv=>simp[uM]at h
   |lj=>simp[uM]at h;obtain⟨rfl,rfl⟩:=h;refine one hr λv f h=>?_;obtain⟨rfl,rfl⟩:=h;exact⟨rfl,_,rfl,.inl ⟨⟨none,rfl⟩,rfl⟩⟩
   |_=>simp[uM]at h
 |pair a b iha ihb=>intro cs r x h vs fp hr;simp only[uM]at h;obtain⟨⟨x1,r1⟩,h1,h⟩:=aZ.1 h;obtain⟨⟨x2,r2⟩,h2,h⟩:=aZ.1 h;cases h;obtain⟨v1,v2,f1,f2,rfl,rfl,k1,k2⟩:=iha h1 hr;obtain⟨v3,v4,f3,f4,rfl,rfl,k3,k4⟩:=ihb h2 k2;exact⟨v1++v3,v4,f1++f3,f4,by simp,by simp,by simpa[cellsOf]using bT.append k1 k3,k4⟩
theorem Sp (h:v.ad1 f=true):v=.one (.fn f):=by
 unfold AV.ad1 at h;split at h;rename_i f';have:f=f':=by simpa using h
 subst this;rfl;cases h
theorem aas (h:v.acn=true):v=.bot:=by unfold AV.acn at h;split at h;rfl;cases h
theorem aau {s off:Nat}(h:v.aco s off=true):v=.one (.ptr s off):=by unfold AV.aco at h;split at h;simp only[ae,bn]at h;obtain⟨rfl,rfl⟩:=h;rfl;cases h
theorem vG {A:Rg}{w:World}:∀{s:az PS}{xs:az AV}{a:CY s},py s xs=some a->∀{vs:jT},rK A w vs xs->rK A w vs (nb s a)
 |[],[],a,_,vs,h=>h
 |[],_::_,_,h,_,_=>by simp[py]at h
 | .data g e::s,[],_,h,_,_=>by simp[py]at h
 | .data g e::s,.xN _::xs,_,h,_,_=>by simp[py]at h
 | .data g e::s,.val g' cs::xs,a,h,vs,hr=>by
  simp only[py]at h;cases hg:g==g' with
  |false=>rw[hg]at h;cases h
  |true=>
   rw[hg]at h;simp only[ah]at h;have pQ:g=g':=by simpa using hg
   subst pQ;split at h;rename_i x hx;obtain⟨r,hr',h⟩:=aZ.1 h;cases h;cases vs with
   |nil=>exact hr.elim
   |cons v vs=>
    obtain⟨⟨us,gJ,hu⟩,h2⟩:=hr;obtain⟨v1,v2,f1,f2,rfl,hf,k1,k2⟩:=aex hx hu;have Ur:v2=[]:=by cases v2 with|nil=>rfl|cons _ _=>exact k2.elim
    subst Ur;have hf1:f1=[]:=by have:=hf.symm;simp at this;exact this.1
    subst hf1;rw[bB]at gJ;exact⟨⟨v1,gJ,k1⟩,vG hr' h2⟩
   cases h
 | .fn f::s,[],a,h,vs,hr=>by simp[py]at h
 | .fn f::s,v::xs,a,h,vs,hr=>by simp only[py]at h;cases hg:v.ad1 f with|false=>rw[hg]at h;cases h|true=>rw[hg]at h;have:=Sp hg;subst this;cases vs with|nil=>exact hr.elim|cons v vs=>exact⟨hr.1,vG h hr.2⟩
def RT (s:az PS)(rs:az (Bool×FT))(F:CY s->aC (mA rs)):kH:={R:=mA rs,fn:=λxs=>aa (py s xs) F,av:=BN rs}
theorem jj.of {G:az AV->aC (mA rs)}(h:jj P f {R:=mA rs,fn:=G,av:=BN rs}){F:CY s->aC (mA rs)}(hF:∀a,G (nb s a)=F a):jj P f (RT s rs F):=by
 intro xs y hy;simp only[RT]at hy y;cases ha:py s xs with
 |none=>rw[ha]at hy;cases hy
 |some a=>
  rw[ha]at hy;have Vs:G (nb s a)=some y:=by rw[hF a];exact hy
  have hh:=h (nb s a) y Vs;exact⟨hh.1,λ_ _ A w vs hA hr=>hh.2.1 rfl rfl A w vs hA (vG ha hr),λh=>(by cases h),λh=>(by cases h),λh=>(by cases h)⟩
def C6 (s:az PS)(rs QL:az (Bool×FT))(h:mA QL=mA rs)(F:CY s->aC (Bool×mA rs)):kH:=
 {R:=Bool×mA rs,fn:=λxs=>aa (py s xs) F,av:=λy=>BN rs y.2,sel:=λy=>y.1,alt:=λy=>BN QL (cast h.symm y.2)}
theorem jj.ofAlt {QL:az (Bool×FT)}{h2:mA QL=mA rs}{G:az AV->aC (Bool×mA rs)}(h:jj P f {R:=Bool×mA rs,fn:=G,av:=λy=>BN rs y.2,sel:=λy=>y.1,alt:=λy=>BN QL (cast h2.symm y.2)}){F:CY s->aC (Bool×mA rs)}(hF:∀a,G (nb s a)=F a):jj P f (C6 s rs QL h2 F):=by
 intro xs y hy;simp only[C6]at hy y;cases ha:py s xs with
 |none=>rw[ha]at hy;cases hy
 |some a=>
  rw[ha]at hy;have Vs:G (nb s a)=some y:=by rw[hF a];exact hy
  have hh:=h (nb s a) y Vs;exact⟨hh.1,λ_ _ A w vs hA hr=>hh.2.1 rfl rfl A w vs hA (vG ha hr),λh=>(by cases h),λh=>(by cases h),λh=>(by cases h)⟩
def ZO (s:az PS)(rs:az (Bool×FT))(F:CY s->aC (Bool×mA rs)):kH:=
 {R:=Bool×mA rs,fn:=λxs=>aa (py s xs) λa=>SC (F a),av:=λy=>BN rs y.2}
theorem jj.only {QL:az (Bool×FT)}{h2:mA QL=mA rs}{F:CY s->aC (Bool×mA rs)}(h:jj P f (C6 s rs QL h2 F)):jj P f (ZO s rs F):=by
 intro xs y hy;simp only[ZO]at hy y;cases ha:py s xs with
 |none=>rw[ha]at hy;cases hy
 |some a=>
  rw[ha]at hy;have hy:SC (F a)=some y:=hy;unfold SC at hy;cases hF:F a with
  |none=>rw[hF]at hy;cases hy
  |some r=>
   rw[hF]at hy;cases h1:r.1 with
   |false=>simp only[aa,h1,af]at hy;cases hy
   |true=>
    simp only[aa,h1,ah,bw]at hy;subst hy;have hf:(C6 s rs QL h2 F).fn xs=some r:=by show aa (py s xs) F=some r;rw[ha];exact hF
    have hh:=h xs r hf;have hr:(C6 s rs QL h2 F).res r=BN rs r.2:=by show cond r.1 (BN rs r.2) _=_;rw[h1];rfl
    refine⟨hh.1,λ_ _ A w vs hA Q4=>?_,λh=>(by cases h),λh=>(by cases h),λh=>(by cases h)⟩;have q:=hh.2.1 rfl rfl A w vs hA Q4;rw[hr]at q;exact q
def FT.IL:FT->Bool
 | .sl .arg _=>true
 | .sl .zX _=>true
 | .sl _ _=>false
 | .pair a b=>a.IL&&b.IL
 |_=>true
theorem FA:∀{t:FT},t.IL=true->∀x:t.ct.D,(kM t x).all AC.IL=true
 | .int _,_,_=>rfl
 | .bool,_,_=>rfl
 | .str,_,_=>rfl
 | .sl fl e,h,_=>by cases fl<;>first|rfl|cases h
 | .pair a b,h,x=>by simp only[FT.IL,ae]at h;simp only[kM,List.all_append,ae];exact⟨FA h.1 x.1,FA h.2 x.2⟩
def kN (t:FT)(s:az PS)(rs:az (Bool×FT))(F:t.ct.D->CY s->aC (mA rs×t.ct.D)):kH:=
 {R:=mA rs×t.ct.D,fn:=λxs=>match xs with
  | .val true cs::rest=>(match NA t cs with|some (x,[])=>aa (py s rest) (F x)|_=>none)
  |_=>none,av:=λy=>BN rs y.1,back:=λy=>kM t y.2,bx:=true,cur:=t.IL,hcur:=λh y=>FA h y.2}
theorem jj.se {t:FT}{G:az AV->aC (mA rs×t.ct.D)}(h:jj P f {R:=mA rs×t.ct.D,fn:=G,av:=λy=>BN rs y.1,back:=λy=>kM t y.2,bx:=true}){F:t.ct.D->CY s->aC (mA rs×t.ct.D)}(hF:∀x a,G (.val true (kM t x)::nb s a)=F x a):jj P f (kN t s rs F):=by
 intro xs y hy;simp only[kN]at hy y;split at hy;rename_i cs rest;split at hy;rename_i x hx;cases ha:py s rest with
 |none=>rw[ha]at hy;cases hy
 |some a=>
  rw[ha]at hy;have Vs:G (.val true (kM t x)::nb s a)=some y:=by rw[hF x a];exact hy
  have KQ:=zJ hx;rw[bB]at KQ;have hh:=h _ y Vs;refine⟨hh.1,λ_ h=>(by cases h),λh=>(by cases h),λ_ RN aoy he A w b vs arr T fr hw fp hA lV uj ga hn xY iz IH il=>?_,λh=>(by cases h)⟩;injection he with he1 he2;injection he1 with _ he3;subst he2;subst he3;rw[KQ]at ga;exact hh.2.2.2.1 rfl (kM t x) (nb s a) rfl A w b vs arr T fr hw fp hA lV uj ga hn xY iz IH (vG ha il)
 cases hy;cases hy
def ZN (t:FT)(s:az PS)(F:CY s->aC t.ct.D):kH:=
 {R:=t.ct.D,fn:=λxs=>aa (py s xs) F,av:=λ_=> .bot,back:=λy=>kM t y,pr:=true}
theorem jj.aov {t:FT}{G:az AV->aC t.ct.D}(h:jj P f {R:=t.ct.D,fn:=G,av:=λ_=> .bot,back:=λy=>kM t y,pr:=true}){F:CY s->aC t.ct.D}(hF:∀a,G (nb s a)=F a):jj P f (ZN t s F):=by
 intro xs y hy;simp only[ZN]at hy y;cases ha:py s xs with
 |none=>rw[ha]at hy;cases hy
 |some a=>
  rw[ha]at hy;have Vs:G (nb s a)=some y:=by rw[hF a];exact hy
  have hh:=h _ y Vs;exact⟨hh.1,λh1 h2 A w vs hA hr=>hh.2.1 h1 h2 A w vs hA (vG ha hr),λh=>(by cases h),λh=>(by cases h),λ_ A w vs hA hr=>hh.2.2.2.2 rfl A w vs hA (vG ha hr)⟩
theorem Sx {R σ:Type}{key:gk}{B:AS->(Ex->AS->aC R)->aC R}{K:Ex->AS->aC R}(enc:σ->AS)(T:(σ->aC R)->σ->aC R)
 (h:∀m x,CJ key B (m+1) (enc x) K=T (λy=>CJ key B m (enc y) K) x):∀m x,CJ key B m (enc x) K=bp T m x
 |0,_=>rfl
 |m+1,x=>by rw[h m x];have:(λy=>CJ key B m (enc y) K)=bp T m:=funext λy=>Sx enc T h m y;rw[this];rfl
theorem uv:∀{l:az PD}{vs:az AV}{x:Ly l},lJ l vs=some x->vs=uw l x
 |[],[],_,_=>rfl
 |[],_::_,_,h=>by simp[lJ]at h
 | .data g t::l,[],_,h=>by simp[lJ]at h
 | .data g t::l,.xN _::vs,_,h=>by simp[lJ]at h
 | .data g t::l,.val g' cs::vs,x,h=>by
  simp only[lJ]at h;cases hg:g==g' with
  |false=>rw[hg]at h;cases h
  |true=>
   rw[hg]at h;simp only[ah]at h;have pQ:g=g':=by simpa using hg
   subst pQ;split at h;rename_i y hy;obtain⟨r,hr,h⟩:=aZ.1 h;cases h;have h1:=zJ hy;rw[bB]at h1;rw[uw,h1,uv hr];cases h
 | .bot::l,[],x,h=>by simp[lJ]at h
 | .ptr s off::l,[],x,h=>by simp[lJ]at h
 | .fn f::l,[],x,h=>by simp[lJ]at h
 | .bot::l,v::vs,x,h=>by simp only[lJ]at h;cases hg:v.acn with|false=>rw[hg]at h;cases h|true=>rw[hg]at h;rw[aas hg,uw,uv (l:=l) h]
 | .ptr s off::l,v::vs,x,h=>by simp only[lJ]at h;cases hg:v.aco s off with|false=>rw[hg]at h;cases h|true=>rw[hg]at h;rw[aau hg,uw,uv (l:=l) h]
 | .fn f::l,v::vs,x,h=>by simp only[lJ]at h;cases hg:v.ad1 f with|false=>rw[hg]at h;cases h|true=>rw[hg]at h;rw[Sp hg,uw,uv (l:=l) h]
theorem C3:∀{l:az (aC FT)}{bs:az (aC (az AC))}{x:Kz l},sG l bs=some x->bs=Dv l x
 |[],[],_,_=>rfl
 |[],_::_,_,h=>by simp[sG]at h
 |some t::l,[],_,h=>by simp[sG]at h
 |none::l,[],_,h=>by simp[sG]at h
 |some t::l,none::bs,_,h=>by simp[sG]at h
 |none::l,some _::bs,_,h=>by simp[sG]at h
 |none::l,none::bs,x,h=>by simp only[sG]at h;rw[Dv,C3 h]
 |some t::l,some cs::bs,x,h=>by simp only[sG]at h;split at h;rename_i y hy;obtain⟨r,hr,h⟩:=aZ.1 h;cases h;have h1:=zJ hy;rw[bB]at h1;rw[Dv,h1,C3 hr];cases h
theorem ZJ:∀{o:IoD}{cs:az AC}{x:ioD o},VR o cs=some x->cs=agD o x
 | .none,[],_,_=>rfl
 | .none,_::_,_,h=>by simp[VR]at h
 | .ptr,cs,x,h=>by simp only[VR]at h;cases hp:aat cs with|false=>rw[hp]at h;cases h|true=>unfold aat at hp;split at hp;rfl;cases hp
 | .some t,cs,x,h=>by simp only[VR]at h;split at h;rename_i y hy;cases h;have h1:=zJ hy;rw[bB]at h1;rw[agD,h1];cases h
theorem SD.VS {d:SD}{st:AS}{x:d.D}(h:d.dec st=some x):st=d.enc x:=by unfold SD.dec at h;cases hc:(st.ep==0&&st.iss==List.replicate d.slots.length false)with|false=>rw[hc]at h;cases h|true=>rw[hc]at h;simp only[ah]at h;obtain⟨y,hy,h⟩:=aZ.1 h;obtain⟨z,hz,h⟩:=aZ.1 h;obtain⟨u,hu,h⟩:=aZ.1 h;cases h;simp only[ae,bn]at hc;cases st with|mk slots boxes ep iss io=>simp only at hc hy hz hu;obtain⟨rfl,rfl⟩:=hc;rw[uv hy,C3 hz,ZJ hu];rfl
theorem lok {E:Env}{Γ:Bx}{an:An}{Λ:nq}{c:Code}(l:Kw)(h1:Λ (fF c)=l)(n:Nat)(h2:∀(R:Type)(x:l.sd.D)(K:Ex->AS->aC R),l.run x K=CJ (an.mask (fF c)) (den E Γ an Λ c) n (l.sd.enc x) K):AF E Γ an Λ c:=by refine⟨n,λR st K r h=>?_⟩;rw[h1]at h;unfold Kw.go at h;cases hd:l.sd.dec st with|none=>rw[hd]at h;cases h|some x=>rw[hd]at h;rw[SD.VS hd,<-h2];exact h
theorem cok {E:Env}{Γ:Bx}{an:An}{Λ:nq}{c:Code}(l:Kw)(h1:Λ (FD c)=l)(h2:∀(R:Type)(x:l.sd.D)(K:Ex->AS->aC R),l.run x K=den E Γ an Λ c (l.sd.enc x) (λe cc=>K e (cc.mask (an.mask (FD c+1))))):YA E Γ an Λ c:=by intro R st K r h;rw[h1]at h;unfold Kw.go at h;cases hd:l.sd.dec st with|none=>rw[hd]at h;cases h|some x=>rw[hd]at h;rw[SD.VS hd,<-h2];exact h
end Go.Dn
