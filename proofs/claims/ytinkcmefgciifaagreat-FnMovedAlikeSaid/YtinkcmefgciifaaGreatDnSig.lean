import Derived.Test.YtinkcmefgciifaaGreatDnLaw
/- Functions by the data that they take; loops by the data that they keep. -/
namespace Go.Dn
variable {v:AV} {f:Nat} {P:Program} {rs:ax (Bool×FT)}
inductive PS where
 |data (g:Bool) (t:CT)|fn (f:Nat)
variable {s:ax PS}
abbrev zT:ax PS->Type
 |[]=>Unit
 | .data _ t::r=>t.D×zT r
 | .fn _::r=>zT r
def rZ:(t:CT)->ax AC->ay (t.D×ax AC)
 | .int k,.int k' n::r=>if k'=k then some (n,r) else none
 | .bool,.bool b::r=>some (b,r)
 | .str,.str s::r=>some (s,r)
 | .sl e,.sl (.arg false) e' xs::r=>if h:e'=e then some (h▸xs,r) else none
 | .sl _,.jB::r=>some ([],r)
 | .pair a b,cs=>(rZ a cs).bind λx=>(rZ b x.2).bind λy=>some ((x.1,y.1),y.2)
 |_,_=>none
def nm:(s:ax PS)->ax AV->ay (zT s)
 |[],[]=>some ()
 | .data g e::s,.val g' cs::xs=>bif g==g' then
  (match rZ e cs with
   |some (x,[])=>(nm s xs).bind λr=>some (x,r)
   |_=>none) else none
 | .fn f::s,v::xs=>bif v.ZT f then nm s xs else none
 |_,_=>none
def lq:(s:ax PS)->zT s->ax AV
 |[],_=>[]
 | .data g e::s,a=> .val g (cellsOf e (.arg false) a.1)::lq s a.2
 | .fn f::s,a=> .one (.fn f)::lq s a
theorem aal {A:Rg}{hw:Nat->Nat}{w:World}:∀{t:CT}{cs r:ax AC}{x:t.D},rZ t cs=some (x,r)->∀{vs:iG}{fp:fy},bD (fK A hw w) vs cs fp-> ∃v1 v2 f1 f2,vs=v1++v2/\fp=f1++f2/\bD (fK A hw w) v1 (cellsOf t (.arg false) x) f1/\bD (fK A hw w) v2 r f2:=by
 intro t
 have one:∀{y:AC}{ys:ax AC}{vs:iG}{fp:fy}{z:AC},bD (fK A hw w) vs (y::ys) fp->(∀v f,gK (fK A hw w) v y f->gK (fK A hw w) v z f)->
  ∃v1 v2 f1 f2,vs=v1++v2/\fp=f1++f2/\bD (fK A hw w) v1 [z] f1/\bD (fK A hw w) v2 ys f2:=by
  intro y ys vs fp z h hz
  cases vs with
  |nil=>exact h.elim
  |cons v vs=>
   obtain⟨f1,f2,rfl,h1,h2⟩:=h
   exact⟨[v],vs,f1,f2,rfl,rfl,⟨f1,[],by simp,hz v f1 h1,rfl⟩,h2⟩
 induction t with
 |int k=>intro cs r x h vs fp hr;cases cs with|nil=>simp[rZ]at h|cons y ys=>cases y<;>simp[rZ]at h;obtain⟨rfl,rfl,rfl⟩:=h;exact one hr λv f h=>h
 |bool=>intro cs r x h vs fp hr;cases cs with|nil=>simp[rZ]at h|cons y ys=>cases y<;>simp[rZ]at h;obtain⟨rfl,rfl⟩:=h;exact one hr λv f h=>h
 |str=>intro cs r x h vs fp hr;cases cs with|nil=>simp[rZ]at h|cons y ys=>cases y<;>simp[rZ]at h;obtain⟨rfl,rfl⟩:=h;exact one hr λv f h=>h
 |sl e _=>
  intro cs r x h vs fp hr;cases cs with
  |nil=>simp[rZ]at h
  |cons y ys=>
   cases y with
   |sl fl e' xs=>
    cases fl with
    |arg k=>cases k with|true=>simp[rZ]at h|false=>simp only[rZ]at h;split at h;rename_i he;subst he;cases h;exact one hr λv f h=>h;cases h
    |own t=>simp[rZ]at h
    |nest _ _ _ _ _ _=>simp[rZ]at h
    |part _ _ _ _=>simp[rZ]at h
    |fi _ _ _=>simp[rZ]at h
    |loc ep pv=>simp[rZ]at h
   |jB=>simp[rZ]at h;obtain⟨rfl,rfl⟩:=h;refine one hr λv f h=>?_;obtain⟨rfl,rfl⟩:=h;exact⟨rfl,_,rfl,.inl ⟨⟨none,rfl⟩,rfl⟩⟩
   |_=>simp[rZ]at h
 |pair a b iha ihb=>intro cs r x h vs fp hr;simp only[rZ]at h;obtain⟨⟨x1,r1⟩,h1,h⟩:=aO.1 h;obtain⟨⟨x2,r2⟩,h2,h⟩:=aO.1 h;cases h;obtain⟨v1,v2,f1,f2,rfl,rfl,k1,k2⟩:=iha h1 hr;obtain⟨v3,v4,f3,f4,rfl,rfl,k3,k4⟩:=ihb h2 k2;exact⟨v1++v3,v4,f1++f3,f4,by simp,by simp,by simpa[cellsOf]using bD.append k1 k3,k4⟩
theorem NU (h:v.ZT f=true):v=.one (.fn f):=by
 unfold AV.ZT at h;split at h;rename_i f';have:f=f':=by simpa using h
 subst this;rfl;cases h
theorem VT (h:v.XV=true):v=.bot:=by unfold AV.XV at h;split at h;rfl;cases h
theorem VV {s off:Nat}(h:v.XW s off=true):v=.one (.ptr s off):=by unfold AV.XW at h;split at h;simp only[ae,aV]at h;obtain⟨rfl,rfl⟩:=h;rfl;cases h
theorem td {A:Rg}{w:World}:∀{s:ax PS}{xs:ax AV}{a:zT s},nm s xs=some a->∀{vs:iG},pA A w vs xs->pA A w vs (lq s a)
 |[],[],a,_,vs,h=>h
 |[],_::_,_,h,_,_=>by simp[nm]at h
 | .data g e::s,[],_,h,_,_=>by simp[nm]at h
 | .data g e::s,.uW _::xs,_,h,_,_=>by simp[nm]at h
 | .data g e::s,.val g' cs::xs,a,h,vs,hr=>by
  simp only[nm]at h;cases hg:g==g' with
  |false=>rw[hg]at h;cases h
  |true=>
   rw[hg]at h;simp only[ah]at h;have nE:g=g':=by simpa using hg
   subst nE;split at h;rename_i x hx;obtain⟨r,hr',h⟩:=aO.1 h;cases h;cases vs with
   |nil=>exact hr.elim
   |cons v vs=>
    obtain⟨⟨us,fj,hu⟩,h2⟩:=hr;obtain⟨v1,v2,f1,f2,rfl,hf,k1,k2⟩:=aal hx hu;have PK:v2=[]:=by cases v2 with|nil=>rfl|cons _ _=>exact k2.elim
    subst PK;have hf1:f1=[]:=by have:=hf.symm;simp at this;exact this.1
    subst hf1;rw[bS]at fj;exact⟨⟨v1,fj,k1⟩,td hr' h2⟩
   cases h
 | .fn f::s,[],a,h,vs,hr=>by simp[nm]at h
 | .fn f::s,v::xs,a,h,vs,hr=>by simp only[nm]at h;cases hg:v.ZT f with|false=>rw[hg]at h;cases h|true=>rw[hg]at h;have:=NU hg;subst this;cases vs with|nil=>exact hr.elim|cons v vs=>exact⟨hr.1,td h hr.2⟩
def Nk (s:ax PS)(rs:ax (Bool×FT))(F:zT s->ay (kG rs)):jj:={R:=kG rs,fn:=λxs=>aa (nm s xs) F,av:=yw rs}
theorem gM.of {G:ax AV->ay (kG rs)}(h:gM P f {R:=kG rs,fn:=G,av:=yw rs}){F:zT s->ay (kG rs)}(hF:∀a,G (lq s a)=F a):gM P f (Nk s rs F):=by
 intro xs y hy;simp only[Nk]at hy y;cases ha:nm s xs with
 |none=>rw[ha]at hy;cases hy
 |some a=>
  rw[ha]at hy;have QN:G (lq s a)=some y:=by rw[hF a];exact hy
  have hh:=h (lq s a) y QN;exact⟨hh.1,λ_ _ A w vs hA hr=>hh.2.1 rfl rfl A w vs hA (td ha hr),λh=>(by cases h),λh=>(by cases h),λh=>(by cases h)⟩
def zY (s:ax PS)(rs Mn:ax (Bool×FT))(h:kG Mn=kG rs)(F:zT s->ay (Bool×kG rs)):jj:=
 {R:=Bool×kG rs,fn:=λxs=>aa (nm s xs) F,av:=λy=>yw rs y.2,sel:=λy=>y.1,alt:=λy=>yw Mn (cast h.symm y.2)}
theorem gM.ofAlt {Mn:ax (Bool×FT)}{h2:kG Mn=kG rs}{G:ax AV->ay (Bool×kG rs)}(h:gM P f {R:=Bool×kG rs,fn:=G,av:=λy=>yw rs y.2,sel:=λy=>y.1,alt:=λy=>yw Mn (cast h2.symm y.2)}){F:zT s->ay (Bool×kG rs)}(hF:∀a,G (lq s a)=F a):gM P f (zY s rs Mn h2 F):=by
 intro xs y hy;simp only[zY]at hy y;cases ha:nm s xs with
 |none=>rw[ha]at hy;cases hy
 |some a=>
  rw[ha]at hy;have QN:G (lq s a)=some y:=by rw[hF a];exact hy
  have hh:=h (lq s a) y QN;exact⟨hh.1,λ_ _ A w vs hA hr=>hh.2.1 rfl rfl A w vs hA (td ha hr),λh=>(by cases h),λh=>(by cases h),λh=>(by cases h)⟩
def Vb (s:ax PS)(rs:ax (Bool×FT))(F:zT s->ay (Bool×kG rs)):jj:=
 {R:=Bool×kG rs,fn:=λxs=>aa (nm s xs) λa=>N4 (F a),av:=λy=>yw rs y.2}
theorem gM.only {Mn:ax (Bool×FT)}{h2:kG Mn=kG rs}{F:zT s->ay (Bool×kG rs)}(h:gM P f (zY s rs Mn h2 F)):gM P f (Vb s rs F):=by
 intro xs y hy;simp only[Vb]at hy y;cases ha:nm s xs with
 |none=>rw[ha]at hy;cases hy
 |some a=>
  rw[ha]at hy;have hy:N4 (F a)=some y:=hy;unfold N4 at hy;cases hF:F a with
  |none=>rw[hF]at hy;cases hy
  |some r=>
   rw[hF]at hy;cases h1:r.1 with
   |false=>simp only[aa,h1,af]at hy;cases hy
   |true=>
    simp only[aa,h1,ah,bc]at hy;subst hy;have hf:(zY s rs Mn h2 F).fn xs=some r:=by show aa (nm s xs) F=some r;rw[ha];exact hF
    have hh:=h xs r hf;have hr:(zY s rs Mn h2 F).res r=yw rs r.2:=by show cond r.1 (yw rs r.2) _=_;rw[h1];rfl
    refine⟨hh.1,λ_ _ A w vs hA MD=>?_,λh=>(by cases h),λh=>(by cases h),λh=>(by cases h)⟩;have q:=hh.2.1 rfl rfl A w vs hA MD;rw[hr]at q;exact q
def FT.Fx:FT->Bool
 | .sl .arg _=>true
 | .sl .xa _=>true
 | .sl _ _=>false
 | .pair a b=>a.Fx&&b.Fx
 |_=>true
theorem Cf:∀{t:FT},t.Fx=true->∀x:t.ct.D,(jm t x).all AC.Fx=true
 | .int _,_,_=>rfl
 | .bool,_,_=>rfl
 | .str,_,_=>rfl
 | .sl fl e,h,_=>by cases fl<;>first|rfl|cases h
 | .pair a b,h,x=>by simp only[FT.Fx,ae]at h;simp only[jm,List.all_append,ae];exact⟨Cf h.1 x.1,Cf h.2 x.2⟩
def jn (t:FT)(s:ax PS)(rs:ax (Bool×FT))(F:t.ct.D->zT s->ay (kG rs×t.ct.D)):jj:=
 {R:=kG rs×t.ct.D,fn:=λxs=>match xs with
  | .val true cs::rest=>(match JS t cs with|some (x,[])=>aa (nm s rest) (F x)|_=>none)
  |_=>none,av:=λy=>yw rs y.1,back:=λy=>jm t y.2,bx:=true,cur:=t.Fx,hcur:=λh y=>Cf h y.2}
theorem gM.pR {t:FT}{G:ax AV->ay (kG rs×t.ct.D)}(h:gM P f {R:=kG rs×t.ct.D,fn:=G,av:=λy=>yw rs y.1,back:=λy=>jm t y.2,bx:=true}){F:t.ct.D->zT s->ay (kG rs×t.ct.D)}(hF:∀x a,G (.val true (jm t x)::lq s a)=F x a):gM P f (jn t s rs F):=by
 intro xs y hy;simp only[jn]at hy y;split at hy;rename_i cs rest;split at hy;rename_i x hx;cases ha:nm s rest with
 |none=>rw[ha]at hy;cases hy
 |some a=>
  rw[ha]at hy;have QN:G (.val true (jm t x)::lq s a)=some y:=by rw[hF x a];exact hy
  have Hy:=wO hx;rw[bS]at Hy;have hh:=h _ y QN;refine⟨hh.1,λ_ h=>(by cases h),λh=>(by cases h),λ_ Ng akv he A w b vs arr T fr hw fp hA kb rz eQ hn vd gY Fo fT=>?_,λh=>(by cases h)⟩;injection he with he1 he2;injection he1 with _ he3;subst he2;subst he3;rw[Hy]at eQ;exact hh.2.2.2.1 rfl (jm t x) (lq s a) rfl A w b vs arr T fr hw fp hA kb rz eQ hn vd gY Fo (td ha fT)
 cases hy;cases hy
def Va (t:FT)(s:ax PS)(F:zT s->ay t.ct.D):jj:=
 {R:=t.ct.D,fn:=λxs=>aa (nm s xs) F,av:=λ_=> .bot,back:=λy=>jm t y,pr:=true}
theorem gM.aks {t:FT}{G:ax AV->ay t.ct.D}(h:gM P f {R:=t.ct.D,fn:=G,av:=λ_=> .bot,back:=λy=>jm t y,pr:=true}){F:zT s->ay t.ct.D}(hF:∀a,G (lq s a)=F a):gM P f (Va t s F):=by
 intro xs y hy;simp only[Va]at hy y;cases ha:nm s xs with
 |none=>rw[ha]at hy;cases hy
 |some a=>
  rw[ha]at hy;have QN:G (lq s a)=some y:=by rw[hF a];exact hy
  have hh:=h _ y QN;exact⟨hh.1,λh1 h2 A w vs hA hr=>hh.2.1 h1 h2 A w vs hA (td ha hr),λh=>(by cases h),λh=>(by cases h),λ_ A w vs hA hr=>hh.2.2.2.2 rfl A w vs hA (td ha hr)⟩
theorem NZ {R σ:Type}{key:fy}{B:AS->(Ex->AS->ay R)->ay R}{K:Ex->AS->ay R}(enc:σ->AS)(T:(σ->ay R)->σ->ay R)
 (h:∀m x,zG key B (m+1) (enc x) K=T (λy=>zG key B m (enc y) K) x):∀m x,zG key B m (enc x) K=ba T m x
 |0,_=>rfl
 |m+1,x=>by rw[h m x];have:(λy=>zG key B m (enc y) K)=ba T m:=funext λy=>NZ enc T h m y;rw[this];rfl
theorem rG:∀{l:ax PD}{vs:ax AV}{x:Ia l},jN l vs=some x->vs=rH l x
 |[],[],_,_=>rfl
 |[],_::_,_,h=>by simp[jN]at h
 | .data g t::l,[],_,h=>by simp[jN]at h
 | .data g t::l,.uW _::vs,_,h=>by simp[jN]at h
 | .data g t::l,.val g' cs::vs,x,h=>by
  simp only[jN]at h;cases hg:g==g' with
  |false=>rw[hg]at h;cases h
  |true=>
   rw[hg]at h;simp only[ah]at h;have nE:g=g':=by simpa using hg
   subst nE;split at h;rename_i y hy;obtain⟨r,hr,h⟩:=aO.1 h;cases h;have h1:=wO hy;rw[bS]at h1;rw[rH,h1,rG hr];cases h
 | .bot::l,[],x,h=>by simp[jN]at h
 | .ptr s off::l,[],x,h=>by simp[jN]at h
 | .fn f::l,[],x,h=>by simp[jN]at h
 | .bot::l,v::vs,x,h=>by simp only[jN]at h;cases hg:v.XV with|false=>rw[hg]at h;cases h|true=>rw[hg]at h;rw[VT hg,rH,rG (l:=l) h]
 | .ptr s off::l,v::vs,x,h=>by simp only[jN]at h;cases hg:v.XW s off with|false=>rw[hg]at h;cases h|true=>rw[hg]at h;rw[VV hg,rH,rG (l:=l) h]
 | .fn f::l,v::vs,x,h=>by simp only[jN]at h;cases hg:v.ZT f with|false=>rw[hg]at h;cases h|true=>rw[hg]at h;rw[NU hg,rH,rG (l:=l) h]
theorem zW:∀{l:ax (ay FT)}{bs:ax (ay (ax AC))}{x:Hl l},qh l bs=some x->bs=Ap l x
 |[],[],_,_=>rfl
 |[],_::_,_,h=>by simp[qh]at h
 |some t::l,[],_,h=>by simp[qh]at h
 |none::l,[],_,h=>by simp[qh]at h
 |some t::l,none::bs,_,h=>by simp[qh]at h
 |none::l,some _::bs,_,h=>by simp[qh]at h
 |none::l,none::bs,x,h=>by simp only[qh]at h;rw[Ap,zW h]
 |some t::l,some cs::bs,x,h=>by simp only[qh]at h;split at h;rename_i y hy;obtain⟨r,hr,h⟩:=aO.1 h;cases h;have h1:=wO hy;rw[bS]at h1;rw[Ap,h1,zW hr];cases h
theorem U6:∀{o:IoD}{cs:ax AC}{x:ioD o},Rc o cs=some x->cs=acs o x
 | .none,[],_,_=>rfl
 | .none,_::_,_,h=>by simp[Rc]at h
 | .ptr,cs,x,h=>by simp only[Rc]at h;cases hp:VU cs with|false=>rw[hp]at h;cases h|true=>unfold VU at hp;split at hp;rfl;cases hp
 | .some t,cs,x,h=>by simp only[Rc]at h;split at h;rename_i y hy;cases h;have h1:=wO hy;rw[bS]at h1;rw[acs,h1];cases h
theorem SD.Rd {d:SD}{st:AS}{x:d.D}(h:d.dec st=some x):st=d.enc x:=by unfold SD.dec at h;cases hc:(st.ep==0&&st.iss==List.replicate d.slots.length false)with|false=>rw[hc]at h;cases h|true=>rw[hc]at h;simp only[ah]at h;obtain⟨y,hy,h⟩:=aO.1 h;obtain⟨z,hz,h⟩:=aO.1 h;obtain⟨u,hu,h⟩:=aO.1 h;cases h;simp only[ae,aV]at hc;cases st with|mk slots boxes ep iss io=>simp only at hc hy hz hu;obtain⟨rfl,rfl⟩:=hc;rw[rG hy,zW hz,U6 hu];rfl
theorem lok {E:Env}{Γ:yk}{an:An}{Λ:lB}{c:Code}(l:Hh)(h1:Λ (ec c)=l)(n:Nat)(h2:∀(R:Type)(x:l.sd.D)(K:Ex->AS->ay R),l.run x K=zG (an.mask (ec c)) (den E Γ an Λ c) n (l.sd.enc x) K):xA E Γ an Λ c:=by refine⟨n,λR st K r h=>?_⟩;rw[h1]at h;unfold Hh.go at h;cases hd:l.sd.dec st with|none=>rw[hd]at h;cases h|some x=>rw[hd]at h;rw[SD.Rd hd,<-h2];exact h
theorem cok {E:Env}{Γ:yk}{an:An}{Λ:lB}{c:Code}(l:Hh)(h1:Λ (Cj c)=l)(h2:∀(R:Type)(x:l.sd.D)(K:Ex->AS->ay R),l.run x K=den E Γ an Λ c (l.sd.enc x) (λe bN=>K e (bN.mask (an.mask (Cj c+1))))):TZ E Γ an Λ c:=by intro R st K r h;rw[h1]at h;unfold Hh.go at h;cases hd:l.sd.dec st with|none=>rw[hd]at h;cases h|some x=>rw[hd]at h;rw[SD.Rd hd,<-h2];exact h
end Go.Dn
