import Derived.Test.YthllnaiaikjelaaGreatDnLaw
/- Functions by the data that they take; loops by the data that they keep. -/
namespace Go.Dn
variable {f:Nat} {P:Program} {rs:aq (Bool×FT)}
inductive PS where
 |data (g:Bool) (t:CT)|fn (f:Nat)
variable {s:aq PS}
abbrev Be:aq PS->Type
 |[]=>Unit
 | .data _ t::r=>t.D×Be r
 | .fn _::r=>Be r
def tf:(t:CT)->aq AC->ar (t.D×aq AC)
 | .int k,.int k' n::r=>if k'=k then some (n,r) else none
 | .bool,.bool b::r=>some (b,r)
 | .str,.str s::r=>some (s,r)
 | .sl e,.sl (.arg false) e' xs::r=>if h:e'=e then some (h▸xs,r) else none
 | .sl _,.jd::r=>some ([],r)
 | .pair a b,cs=>(tf a cs).bind λx=>(tf b x.2).bind λy=>some ((x.1,y.1),y.2)
 |_,_=>none
def kS:(s:aq PS)->aq AV->ar (Be s)
 |[],[]=>some ()
 | .data g e::s,.val g' cs::xs=>bif g==g' then
  (match tf e cs with
   |some (x,[])=>(kS s xs).bind λr=>some (x,r)
   |_=>none) else none
 | .fn f::s,v::xs=>bif v.aa9 f then kS s xs else none
 |_,_=>none
def ib:(s:aq PS)->Be s->aq AV
 |[],_=>[]
 | .data g e::s,a=> .val g (cellsOf e (.arg false) a.1)::ib s a.2
 | .fn f::s,a=> .one (.fn f)::ib s a
theorem abw {A:Rg}{hw:Nat->Nat}{w:World}:∀{t:CT}{cs r:aq AC}{x:t.D},tf t cs=some (x,r)->∀{vs:gO}{fp:dy},bn (eJ A hw w) vs cs fp-> ∃v1 v2 f1 f2,vs=v1++v2/\fp=f1++f2/\bn (eJ A hw w) v1 (cellsOf t (.arg false) x) f1/\bn (eJ A hw w) v2 r f2:=by
 intro t
 have one:∀{y:AC}{ys:aq AC}{vs:gO}{fp:dy}{z:AC},bn (eJ A hw w) vs (y::ys) fp->(∀v f,gy (eJ A hw w) v y f->gy (eJ A hw w) v z f)->
  ∃v1 v2 f1 f2,vs=v1++v2/\fp=f1++f2/\bn (eJ A hw w) v1 [z] f1/\bn (eJ A hw w) v2 ys f2:=by
  intro y ys vs fp z h hz
  cases vs with
  |nil=>exact h.elim
  |cons v vs=>
   obtain⟨f1,f2,rfl,h1,h2⟩:=h
   exact⟨[v],vs,f1,f2,rfl,rfl,⟨f1,[],by simp,hz v f1 h1,rfl⟩,h2⟩
 induction t with
 |int k=>intro cs r x h vs fp hr;cases cs with|nil=>simp[tf]at h|cons y ys=>cases y<;>simp[tf]at h;obtain⟨rfl,rfl,rfl⟩:=h;exact one hr λv f h=>h
 |bool=>intro cs r x h vs fp hr;cases cs with|nil=>simp[tf]at h|cons y ys=>cases y<;>simp[tf]at h;obtain⟨rfl,rfl⟩:=h;exact one hr λv f h=>h
 |str=>intro cs r x h vs fp hr;cases cs with|nil=>simp[tf]at h|cons y ys=>cases y<;>simp[tf]at h;obtain⟨rfl,rfl⟩:=h;exact one hr λv f h=>h
 |sl e _=>
  intro cs r x h vs fp hr;cases cs with
  |nil=>simp[tf]at h
  |cons y ys=>
   cases y with
   |sl fl e' xs=>
    cases fl with
    |arg k=>cases k with|true=>simp[tf]at h|false=>simp only[tf]at h;split at h;rename_i he;subst he;cases h;exact one hr λv f h=>h;cases h
    |own t=>simp[tf]at h
    |nest _ _ _ _ _ _=>simp[tf]at h
    |part _ _ _ _=>simp[tf]at h
    |eS _ _ _=>simp[tf]at h
    |loc ep pv=>simp[tf]at h
   |jd=>simp[tf]at h;obtain⟨rfl,rfl⟩:=h;refine one hr λv f h=>?_;obtain⟨rfl,rfl⟩:=h;exact⟨rfl,_,rfl,.inl ⟨⟨none,rfl⟩,rfl⟩⟩
   |_=>simp[tf]at h
 |pair a b iha ihb=>intro cs r x h vs fp hr;simp only[tf]at h;obtain⟨⟨x1,r1⟩,h1,h⟩:=aI.1 h;obtain⟨⟨x2,r2⟩,h2,h⟩:=aI.1 h;cases h;obtain⟨v1,v2,f1,f2,rfl,rfl,k1,k2⟩:=iha h1 hr;obtain⟨v3,v4,f3,f4,rfl,rfl,k3,k4⟩:=ihb h2 k2;exact⟨v1++v3,v4,f1++f3,f4,by simp,by simp,by simpa[cellsOf]using bn.append k1 k3,k4⟩
theorem Q9 {v:AV}(h:v.aa9 f=true):v=.one (.fn f):=by
 unfold AV.aa9 at h;split at h;rename_i f';have:f=f':=by simpa using h
 subst this;rfl;cases h
theorem XX {v:AV}(h:v.ZF=true):v=.bot:=by unfold AV.ZF at h;split at h;rfl;cases h
theorem XZ {v:AV}{s off:Nat}(h:v.ZG s off=true):v=.one (.ptr s off):=by unfold AV.ZG at h;split at h;simp only[ah,bk]at h;obtain⟨rfl,rfl⟩:=h;rfl;cases h
theorem qG {A:Rg}{w:World}:∀{s:aq PS}{xs:aq AV}{a:Be s},kS s xs=some a->∀{vs:gO},mu A w vs xs->mu A w vs (ib s a)
 |[],[],a,_,vs,h=>h
 |[],_::_,_,h,_,_=>by simp[kS]at h
 | .data g e::s,[],_,h,_,_=>by simp[kS]at h
 | .data g e::s,.uT _::xs,_,h,_,_=>by simp[kS]at h
 | .data g e::s,.val g' cs::xs,a,h,vs,hr=>by
  simp only[kS]at h;cases hg:g==g' with
  |false=>rw[hg]at h;cases h
  |true=>
   rw[hg]at h;simp only[af]at h;have ml:g=g':=by simpa using hg
   subst ml;split at h;rename_i x hx;obtain⟨r,hr',h⟩:=aI.1 h;cases h;cases vs with
   |nil=>exact hr.elim
   |cons v vs=>
    obtain⟨⟨us,dU,hu⟩,h2⟩:=hr;obtain⟨v1,v2,f1,f2,rfl,hf,k1,k2⟩:=abw hx hu;have L4:v2=[]:=by cases v2 with|nil=>rfl|cons _ _=>exact k2.elim
    subst L4;have hf1:f1=[]:=by have:=hf.symm;simp at this;exact this.1
    subst hf1;rw[bt]at dU;exact⟨⟨v1,dU,k1⟩,qG hr' h2⟩
   cases h
 | .fn f::s,[],a,h,vs,hr=>by simp[kS]at h
 | .fn f::s,v::xs,a,h,vs,hr=>by simp only[kS]at h;cases hg:v.aa9 f with|false=>rw[hg]at h;cases h|true=>rw[hg]at h;have:=Q9 hg;subst this;cases vs with|nil=>exact hr.elim|cons v vs=>exact⟨hr.1,qG h hr.2⟩
def QI (s:aq PS)(rs:aq (Bool×FT))(F:Be s->ar (hY rs)):zY:={R:=hY rs,fn:=λxs=>aa (kS s xs) F,av:=xj rs}
theorem kh.of {G:aq AV->ar (hY rs)}(h:kh P f {R:=hY rs,fn:=G,av:=xj rs}){F:Be s->ar (hY rs)}(hF:∀a,G (ib s a)=F a):kh P f (QI s rs F):=by
 intro xs y hy;simp only[QI]at hy y;cases ha:kS s xs with
 |none=>rw[ha]at hy;cases hy
 |some a=>
  rw[ha]at hy;have QY:G (ib s a)=some y:=by rw[hF a];exact hy
  have hh:=h (ib s a) y QY;exact⟨hh.1,λ_ _ A w vs hA hr=>hh.2.1 rfl rfl A w vs hA (qG ha hr),λh=>(by cases h),λh=>(by cases h),λh=>(by cases h)⟩
def K0 (s:aq PS)(rs MI:aq (Bool×FT))(h:hY MI=hY rs)(F:Be s->ar (Bool×hY rs)):zY:=
 {R:=Bool×hY rs,fn:=λxs=>aa (kS s xs) F,av:=λy=>xj rs y.2,sel:=λy=>y.1,alt:=λy=>xj MI (cast h.symm y.2)}
theorem kh.ofAlt {MI:aq (Bool×FT)}{h2:hY MI=hY rs}{G:aq AV->ar (Bool×hY rs)}(h:kh P f {R:=Bool×hY rs,fn:=G,av:=λy=>xj rs y.2,sel:=λy=>y.1,alt:=λy=>xj MI (cast h2.symm y.2)}){F:Be s->ar (Bool×hY rs)}(hF:∀a,G (ib s a)=F a):kh P f (K0 s rs MI h2 F):=by
 intro xs y hy;simp only[K0]at hy y;cases ha:kS s xs with
 |none=>rw[ha]at hy;cases hy
 |some a=>
  rw[ha]at hy;have QY:G (ib s a)=some y:=by rw[hF a];exact hy
  have hh:=h (ib s a) y QY;exact⟨hh.1,λ_ _ A w vs hA hr=>hh.2.1 rfl rfl A w vs hA (qG ha hr),λh=>(by cases h),λh=>(by cases h),λh=>(by cases h)⟩
def acK (s:aq PS)(rs:aq (Bool×FT))(F:Be s->ar (Bool×hY rs)):zY:=
 {R:=Bool×hY rs,fn:=λxs=>aa (kS s xs) λa=>aej (F a),av:=λy=>xj rs y.2}
theorem kh.only {MI:aq (Bool×FT)}{h2:hY MI=hY rs}{F:Be s->ar (Bool×hY rs)}(h:kh P f (K0 s rs MI h2 F)):kh P f (acK s rs F):=by
 intro xs y hy;simp only[acK]at hy y;cases ha:kS s xs with
 |none=>rw[ha]at hy;cases hy
 |some a=>
  rw[ha]at hy;have hy:aej (F a)=some y:=hy;unfold aej at hy;cases hF:F a with
  |none=>rw[hF]at hy;cases hy
  |some r=>
   rw[hF]at hy;cases h1:r.1 with
   |false=>simp only[aa,h1,ae]at hy;cases hy
   |true=>
    simp only[aa,h1,af,aZ]at hy;subst hy;have hf:(K0 s rs MI h2 F).fn xs=some r:=by show aa (kS s xs) F=some r;rw[ha];exact hF
    have hh:=h xs r hf;have hr:(K0 s rs MI h2 F).res r=xj rs r.2:=by show cond r.1 (xj rs r.2) _=_;rw[h1];rfl
    refine⟨hh.1,λ_ _ A w vs hA P0=>?_,λh=>(by cases h),λh=>(by cases h),λh=>(by cases h)⟩;have q:=hh.2.1 rfl rfl A w vs hA P0;rw[hr]at q;exact q
def agz (t:CT)(gg:Bool)(s:aq PS)(rs:aq (Bool×FT))(F:t.D->Be s->ar (hY rs×t.D)):zY:=
 {R:=hY rs×t.D,fn:=λxs=>match xs with
  | .val g cs::rest=>bif gg==g then(match iy t cs with|some (x,[])=>aa (kS s rest) (F x)|_=>none) else none
  |_=>none,av:=λy=>xj rs y.1,io:=true,back:=λy=>cellsOf t (.own none) y.2}
theorem kh.apY {t:CT}{gg:Bool}{G:aq AV->ar (hY rs×t.D)}(h:kh P f {R:=hY rs×t.D,fn:=G,av:=λy=>xj rs y.1,io:=true,back:=λy=>cellsOf t (.own none) y.2}){F:t.D->Be s->ar (hY rs×t.D)}(hF:∀x a,G (.val gg (cellsOf t (.own none) x)::ib s a)=F x a):kh P f (agz t gg s rs F):=by
 intro xs y hy;simp only[agz]at hy y;split at hy;rename_i g cs rest;cases hg:(gg==g)with
 |false=>rw[hg]at hy;cases hy
 |true=>
  rw[hg]at hy;have:gg=g:=by simpa using hg
  subst this;simp only[af]at hy;split at hy;rename_i x hx;cases ha:kS s rest with
  |none=>rw[ha]at hy;cases hy
  |some a=>
   rw[ha]at hy;have QY:G (.val gg (cellsOf t (.own none) x)::ib s a)=some y:=by rw[hF x a];exact hy
   have hh:=h _ y QY;refine⟨hh.1,λh=>(by cases h),λ_ g0 PH aey he A w v0 vs hw fp hA dx hn gM eR=>?_,λh=>(by cases h),λh=>(by cases h)⟩;injection he with he1 he2;injection he1 with he1 he3;subst he1;subst he2;subst he3;refine hh.2.2.1 rfl gg (cellsOf t (.own none) x) (ib s a) rfl A w v0 vs hw fp hA ?_ hn gM (qG ha eR);obtain⟨us,dU,dx⟩:=dx;obtain⟨f1,f2,rfl,eK,ja⟩:=nK dx hx;have SC:us.drop t.size=[]:=by cases hd:us.drop t.size with|nil=>rfl|cons _ _=>rw[hd]at ja;exact ja.elim
   rw[SC]at ja;have D0:f2=[]:=ja;subst D0;have adz:us.take t.size=us:=by have:=cg t.size us;rw[SC,bt]at this;exact this
   rw[adz]at eK;rw[bt];exact⟨us,dU,rN (c:=eJ A hw w) eK⟩
  cases hy
 cases hy
def FT.Jo:FT->Bool
 | .sl .arg _=>true
 | .sl .afg _=>true
 | .sl _ _=>false
 | .pair a b=>a.Jo&&b.Jo
 |_=>true
theorem F2:∀{t:FT},t.Jo=true->∀x:t.ct.D,(iH t x).all AC.Jo=true
 | .int _,_,_=>rfl
 | .bool,_,_=>rfl
 | .str,_,_=>rfl
 | .sl fl e,h,_=>by cases fl<;>first|rfl|cases h
 | .pair a b,h,x=>by simp only[FT.Jo,ah]at h;simp only[iH,List.all_append,ah];exact⟨F2 h.1 x.1,F2 h.2 x.2⟩
def acI (t:FT)(s:aq PS)(rs:aq (Bool×FT))(F:t.ct.D->Be s->ar (hY rs×t.ct.D)):zY:=
 {R:=hY rs×t.ct.D,fn:=λxs=>match xs with
  | .val true cs::rest=>(match M4 t cs with|some (x,[])=>aa (kS s rest) (F x)|_=>none)
  |_=>none,av:=λy=>xj rs y.1,back:=λy=>iH t y.2,bx:=true,cur:=t.Jo,hcur:=λh y=>F2 h y.2}
theorem kh.aiG {t:FT}{G:aq AV->ar (hY rs×t.ct.D)}(h:kh P f {R:=hY rs×t.ct.D,fn:=G,av:=λy=>xj rs y.1,back:=λy=>iH t y.2,bx:=true}){F:t.ct.D->Be s->ar (hY rs×t.ct.D)}(hF:∀x a,G (.val true (iH t x)::ib s a)=F x a):kh P f (acI t s rs F):=by
 intro xs y hy;simp only[acI]at hy y;split at hy;rename_i cs rest;split at hy;rename_i x hx;cases ha:kS s rest with
 |none=>rw[ha]at hy;cases hy
 |some a=>
  rw[ha]at hy;have QY:G (.val true (iH t x)::ib s a)=some y:=by rw[hF x a];exact hy
  have JN:=yY hx;rw[bt]at JN;have hh:=h _ y QY;refine⟨hh.1,λ_ h=>(by cases h),λh=>(by cases h),λ_ PH aey he A w b vs arr T fr hw fp hA iZ qf dx hn sr gM H8 eR=>?_,λh=>(by cases h)⟩;injection he with he1 he2;injection he1 with _ he3;subst he2;subst he3;rw[JN]at dx;exact hh.2.2.2.1 rfl (iH t x) (ib s a) rfl A w b vs arr T fr hw fp hA iZ qf dx hn sr gM H8 (qG ha eR)
 cases hy;cases hy
def acJ (t:FT)(s:aq PS)(F:Be s->ar t.ct.D):zY:=
 {R:=t.ct.D,fn:=λxs=>aa (kS s xs) F,av:=λ_=> .bot,back:=λy=>iH t y,pr:=true}
theorem kh.aiH {t:FT}{G:aq AV->ar t.ct.D}(h:kh P f {R:=t.ct.D,fn:=G,av:=λ_=> .bot,back:=λy=>iH t y,pr:=true}){F:Be s->ar t.ct.D}(hF:∀a,G (ib s a)=F a):kh P f (acJ t s F):=by
 intro xs y hy;simp only[acJ]at hy y;cases ha:kS s xs with
 |none=>rw[ha]at hy;cases hy
 |some a=>
  rw[ha]at hy;have QY:G (ib s a)=some y:=by rw[hF a];exact hy
  have hh:=h _ y QY;exact⟨hh.1,λh1 h2 A w vs hA hr=>hh.2.1 h1 h2 A w vs hA (qG ha hr),λh=>(by cases h),λh=>(by cases h),λ_ A w vs hA hr=>hh.2.2.2.2 rfl A w vs hA (qG ha hr)⟩
theorem Rf {R σ:Type}{key:dy}{B:AS->(Ex->AS->ar R)->ar R}{K:Ex->AS->ar R}(enc:σ->AS)(T:(σ->ar R)->σ->ar R)
 (h:∀m x,zV key B (m+1) (enc x) K=T (λy=>zV key B m (enc y) K) x):∀m x,zV key B m (enc x) K=aJ T m x
 |0,_=>rfl
 |m+1,x=>by rw[h m x];have:(λy=>zV key B m (enc y) K)=aJ T m:=funext λy=>Rf enc T h m y;rw[this];rfl
theorem sG:∀{l:aq PD}{vs:aq AV}{x:E0 l},jK l vs=some x->vs=sH l x
 |[],[],_,_=>rfl
 |[],_::_,_,h=>by simp[jK]at h
 | .data g t::l,[],_,h=>by simp[jK]at h
 | .data g t::l,.uT _::vs,_,h=>by simp[jK]at h
 | .data g t::l,.val g' cs::vs,x,h=>by
  simp only[jK]at h;cases hg:g==g' with
  |false=>rw[hg]at h;cases h
  |true=>
   rw[hg]at h;simp only[af]at h;have ml:g=g':=by simpa using hg
   subst ml;split at h;rename_i y hy;obtain⟨r,hr,h⟩:=aI.1 h;cases h;have h1:=yY hy;rw[bt]at h1;rw[sH,h1,sG hr];cases h
 | .bot::l,[],x,h=>by simp[jK]at h
 | .ptr s off::l,[],x,h=>by simp[jK]at h
 | .fn f::l,[],x,h=>by simp[jK]at h
 | .bot::l,v::vs,x,h=>by simp only[jK]at h;cases hg:v.ZF with|false=>rw[hg]at h;cases h|true=>rw[hg]at h;rw[XX hg,sH,sG (l:=l) h]
 | .ptr s off::l,v::vs,x,h=>by simp only[jK]at h;cases hg:v.ZG s off with|false=>rw[hg]at h;cases h|true=>rw[hg]at h;rw[XZ hg,sH,sG (l:=l) h]
 | .fn f::l,v::vs,x,h=>by simp only[jK]at h;cases hg:v.aa9 f with|false=>rw[hg]at h;cases h|true=>rw[hg]at h;rw[Q9 hg,sH,sG (l:=l) h]
theorem CQ:∀{l:aq (ar FT)}{bs:aq (ar (aq AC))}{x:D7 l},qa l bs=some x->bs=Dj l x
 |[],[],_,_=>rfl
 |[],_::_,_,h=>by simp[qa]at h
 |some t::l,[],_,h=>by simp[qa]at h
 |none::l,[],_,h=>by simp[qa]at h
 |some t::l,none::bs,_,h=>by simp[qa]at h
 |none::l,some _::bs,_,h=>by simp[qa]at h
 |none::l,none::bs,x,h=>by simp only[qa]at h;rw[Dj,CQ h]
 |some t::l,some cs::bs,x,h=>by simp only[qa]at h;split at h;rename_i y hy;obtain⟨r,hr,h⟩:=aI.1 h;cases h;have h1:=yY hy;rw[bt]at h1;rw[Dj,h1,CQ hr];cases h
theorem Xc:∀{o:IoD}{cs:aq AC}{x:ioD o},Uc o cs=some x->cs=acH o x
 | .none,[],_,_=>rfl
 | .none,_::_,_,h=>by simp[Uc]at h
 | .ptr,cs,x,h=>by simp only[Uc]at h;cases hp:XY cs with|false=>rw[hp]at h;cases h|true=>unfold XY at hp;split at hp;rfl;cases hp
 | .some t,cs,x,h=>by simp only[Uc]at h;split at h;rename_i y hy;cases h;have h1:=yY hy;rw[bt]at h1;rw[acH,h1];cases h
theorem SD.Ud {d:SD}{st:AS}{x:d.D}(h:d.dec st=some x):st=d.enc x:=by unfold SD.dec at h;cases hc:(st.ep==0&&st.iss==List.replicate d.slots.length false)with|false=>rw[hc]at h;cases h|true=>rw[hc]at h;simp only[af]at h;obtain⟨y,hy,h⟩:=aI.1 h;obtain⟨z,hz,h⟩:=aI.1 h;obtain⟨u,hu,h⟩:=aI.1 h;cases h;simp only[ah,bk]at hc;cases st with|mk slots boxes ep iss io=>simp only at hc hy hz hu;obtain⟨rfl,rfl⟩:=hc;rw[sG hy,CQ hz,Xc hu];rfl
theorem lok {E:Env}{Γ:xf}{an:An}{Λ:F0}{c:Code}(l:KU)(h1:Λ (du c)=l)(n:Nat)(h2:∀(R:Type)(x:l.sd.D)(K:Ex->AS->ar R),l.run x K=zV (an.mask (du c)) (den E Γ an Λ c) n (l.sd.enc x) K):Y6 E Γ an Λ c:=by refine⟨n,λR st K r h=>?_⟩;rw[h1]at h;unfold KU.go at h;cases hd:l.sd.dec st with|none=>rw[hd]at h;cases h|some x=>rw[hd]at h;rw[SD.Ud hd,<-h2];exact h
theorem cok {E:Env}{Γ:xf}{an:An}{Λ:F0}{c:Code}(l:KU)(h1:Λ (xl c)=l)(h2:∀(R:Type)(x:l.sd.D)(K:Ex->AS->ar R),l.run x K=den E Γ an Λ c (l.sd.enc x) (λe st'=>K e (st'.mask (an.mask (xl c+1))))):COk E Γ an Λ c:=by intro R st K r h;rw[h1]at h;unfold KU.go at h;cases hd:l.sd.dec st with|none=>rw[hd]at h;cases h|some x=>rw[hd]at h;rw[SD.Ud hd,<-h2];exact h
end Go.Dn
