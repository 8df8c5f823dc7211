import Derived.Test.YtfbhfnniblfpbaaGreatDnLaw
/- Functions by the data that they take; loops by the data that they keep. -/
namespace Go.Dn
variable {f:Nat} {P:Program} {rs:au (Bool×FT)}
inductive PS where
 |data (g:Bool) (t:CT)|fn (f:Nat)
variable {s:au PS}
abbrev Bb:au PS->Type
 |[]=>Unit
 | .data _ t::r=>t.D×Bb r
 | .fn _::r=>Bb r
def tB:(t:CT)->au AC->aw (t.D×au AC)
 | .int k,.int k' n::r=>if k'=k then some (n,r) else none
 | .bool,.bool b::r=>some (b,r)
 | .str,.str s::r=>some (s,r)
 | .sl e,.sl (.arg false) e' xs::r=>if h:e'=e then some (h▸xs,r) else none
 | .sl _,.jl::r=>some ([],r)
 | .pair a b,cs=>(tB a cs).bind λx=>(tB b x.2).bind λy=>some ((x.1,y.1),y.2)
 |_,_=>none
def ln:(s:au PS)->au AV->aw (Bb s)
 |[],[]=>some ()
 | .data g e::s,.val g' cs::xs=>bif g==g' then
  (match tB e cs with
   |some (x,[])=>(ln s xs).bind λr=>some (x,r)
   |_=>none) else none
 | .fn f::s,v::xs=>bif v.abe f then ln s xs else none
 |_,_=>none
def ia:(s:au PS)->Bb s->au AV
 |[],_=>[]
 | .data g e::s,a=> .val g (cellsOf e (.arg false) a.1)::ia s a.2
 | .fn f::s,a=> .one (.fn f)::ia s a
theorem abA {A:Rg}{hw:Nat->Nat}{w:World}:∀{t:CT}{cs r:au AC}{x:t.D},tB t cs=some (x,r)->∀{vs:gP}{fp:dI},bp (eD A hw w) vs cs fp-> ∃v1 v2 f1 f2,vs=v1++v2/\fp=f1++f2/\bp (eD A hw w) v1 (cellsOf t (.arg false) x) f1/\bp (eD A hw w) v2 r f2:=by
 intro t
 have one:∀{y:AC}{ys:au AC}{vs:gP}{fp:dI}{z:AC},bp (eD A hw w) vs (y::ys) fp->(∀v f,gr (eD A hw w) v y f->gr (eD A hw w) v z f)->
  ∃v1 v2 f1 f2,vs=v1++v2/\fp=f1++f2/\bp (eD A hw w) v1 [z] f1/\bp (eD A hw w) v2 ys f2:=by
  intro y ys vs fp z h hz
  cases vs with
  |nil=>exact h.elim
  |cons v vs=>
   obtain⟨f1,f2,rfl,h1,h2⟩:=h
   exact⟨[v],vs,f1,f2,rfl,rfl,⟨f1,[],by simp,hz v f1 h1,rfl⟩,h2⟩
 induction t with
 |int k=>intro cs r x h vs fp hr;cases cs with|nil=>simp[tB]at h|cons y ys=>cases y<;>simp[tB]at h;obtain⟨rfl,rfl,rfl⟩:=h;exact one hr λv f h=>h
 |bool=>intro cs r x h vs fp hr;cases cs with|nil=>simp[tB]at h|cons y ys=>cases y<;>simp[tB]at h;obtain⟨rfl,rfl⟩:=h;exact one hr λv f h=>h
 |str=>intro cs r x h vs fp hr;cases cs with|nil=>simp[tB]at h|cons y ys=>cases y<;>simp[tB]at h;obtain⟨rfl,rfl⟩:=h;exact one hr λv f h=>h
 |sl e _=>
  intro cs r x h vs fp hr;cases cs with
  |nil=>simp[tB]at h
  |cons y ys=>
   cases y with
   |sl fl e' xs=>
    cases fl with
    |arg k=>cases k with|true=>simp[tB]at h|false=>simp only[tB]at h;split at h;rename_i he;subst he;cases h;exact one hr λv f h=>h;cases h
    |own t=>simp[tB]at h
    |nest _ _ _ _ _ _=>simp[tB]at h
    |part _ _ _ _=>simp[tB]at h
    |eQ _ _ _=>simp[tB]at h
    |loc ep pv=>simp[tB]at h
   |jl=>simp[tB]at h;obtain⟨rfl,rfl⟩:=h;refine one hr λv f h=>?_;obtain⟨rfl,rfl⟩:=h;exact⟨rfl,_,rfl,.inl ⟨⟨none,rfl⟩,rfl⟩⟩
   |_=>simp[tB]at h
 |pair a b iha ihb=>intro cs r x h vs fp hr;simp only[tB]at h;obtain⟨⟨x1,r1⟩,h1,h⟩:=aK.1 h;obtain⟨⟨x2,r2⟩,h2,h⟩:=aK.1 h;cases h;obtain⟨v1,v2,f1,f2,rfl,rfl,k1,k2⟩:=iha h1 hr;obtain⟨v3,v4,f3,f4,rfl,rfl,k3,k4⟩:=ihb h2 k2;exact⟨v1++v3,v4,f1++f3,f4,by simp,by simp,by simpa[cellsOf]using bp.append k1 k3,k4⟩
theorem Ri {v:AV}(h:v.abe f=true):v=.one (.fn f):=by
 unfold AV.abe at h;split at h;rename_i f';have:f=f':=by simpa using h
 subst this;rfl;cases h
theorem XZ {v:AV}(h:v.ZK=true):v=.bot:=by unfold AV.ZK at h;split at h;rfl;cases h
theorem X1 {v:AV}{s off:Nat}(h:v.ZL s off=true):v=.one (.ptr s off):=by unfold AV.ZL at h;split at h;simp only[ah,bC]at h;obtain⟨rfl,rfl⟩:=h;rfl;cases h
theorem qX {A:Rg}{w:World}:∀{s:au PS}{xs:au AV}{a:Bb s},ln s xs=some a->∀{vs:gP},mL A w vs xs->mL A w vs (ia s a)
 |[],[],a,_,vs,h=>h
 |[],_::_,_,h,_,_=>by simp[ln]at h
 | .data g e::s,[],_,h,_,_=>by simp[ln]at h
 | .data g e::s,.vq _::xs,_,h,_,_=>by simp[ln]at h
 | .data g e::s,.val g' cs::xs,a,h,vs,hr=>by
  simp only[ln]at h;cases hg:g==g' with
  |false=>rw[hg]at h;cases h
  |true=>
   rw[hg]at h;simp only[af]at h;have mI:g=g':=by simpa using hg
   subst mI;split at h;rename_i x hx;obtain⟨r,hr',h⟩:=aK.1 h;cases h;cases vs with
   |nil=>exact hr.elim
   |cons v vs=>
    obtain⟨⟨us,dM,hu⟩,h2⟩:=hr;obtain⟨v1,v2,f1,f2,rfl,hf,k1,k2⟩:=abA hx hu;have LV:v2=[]:=by cases v2 with|nil=>rfl|cons _ _=>exact k2.elim
    subst LV;have hf1:f1=[]:=by have:=hf.symm;simp at this;exact this.1
    subst hf1;rw[br]at dM;exact⟨⟨v1,dM,k1⟩,qX hr' h2⟩
   cases h
 | .fn f::s,[],a,h,vs,hr=>by simp[ln]at h
 | .fn f::s,v::xs,a,h,vs,hr=>by simp only[ln]at h;cases hg:v.abe f with|false=>rw[hg]at h;cases h|true=>rw[hg]at h;have:=Ri hg;subst this;cases vs with|nil=>exact hr.elim|cons v vs=>exact⟨hr.1,qX h hr.2⟩
def QL (s:au PS)(rs:au (Bool×FT))(F:Bb s->aw (hH rs)):zy:={R:=hH rs,fn:=λxs=>aa (ln s xs) F,av:=xm rs}
theorem kB.of {G:au AV->aw (hH rs)}(h:kB P f {R:=hH rs,fn:=G,av:=xm rs}){F:Bb s->aw (hH rs)}(hF:∀a,G (ia s a)=F a):kB P f (QL s rs F):=by
 intro xs y hy;simp only[QL]at hy y;cases ha:ln s xs with
 |none=>rw[ha]at hy;cases hy
 |some a=>
  rw[ha]at hy;have Q1:G (ia s a)=some y:=by rw[hF a];exact hy
  have hh:=h (ia s a) y Q1;exact⟨hh.1,λ_ _ A w vs hA hr=>hh.2.1 rfl rfl A w vs hA (qX ha hr),λh=>(by cases h),λh=>(by cases h),λh=>(by cases h)⟩
def Iu (s:au PS)(rs MK:au (Bool×FT))(h:hH MK=hH rs)(F:Bb s->aw (Bool×hH rs)):zy:=
 {R:=Bool×hH rs,fn:=λxs=>aa (ln s xs) F,av:=λy=>xm rs y.2,sel:=λy=>y.1,alt:=λy=>xm MK (cast h.symm y.2)}
theorem kB.ofAlt {MK:au (Bool×FT)}{h2:hH MK=hH rs}{G:au AV->aw (Bool×hH rs)}(h:kB P f {R:=Bool×hH rs,fn:=G,av:=λy=>xm rs y.2,sel:=λy=>y.1,alt:=λy=>xm MK (cast h2.symm y.2)}){F:Bb s->aw (Bool×hH rs)}(hF:∀a,G (ia s a)=F a):kB P f (Iu s rs MK h2 F):=by
 intro xs y hy;simp only[Iu]at hy y;cases ha:ln s xs with
 |none=>rw[ha]at hy;cases hy
 |some a=>
  rw[ha]at hy;have Q1:G (ia s a)=some y:=by rw[hF a];exact hy
  have hh:=h (ia s a) y Q1;exact⟨hh.1,λ_ _ A w vs hA hr=>hh.2.1 rfl rfl A w vs hA (qX ha hr),λh=>(by cases h),λh=>(by cases h),λh=>(by cases h)⟩
def acY (s:au PS)(rs:au (Bool×FT))(F:Bb s->aw (Bool×hH rs)):zy:=
 {R:=Bool×hH rs,fn:=λxs=>aa (ln s xs) λa=>aeb (F a),av:=λy=>xm rs y.2}
theorem kB.only {MK:au (Bool×FT)}{h2:hH MK=hH rs}{F:Bb s->aw (Bool×hH rs)}(h:kB P f (Iu s rs MK h2 F)):kB P f (acY s rs F):=by
 intro xs y hy;simp only[acY]at hy y;cases ha:ln s xs with
 |none=>rw[ha]at hy;cases hy
 |some a=>
  rw[ha]at hy;have hy:aeb (F a)=some y:=hy;unfold aeb at hy;cases hF:F a with
  |none=>rw[hF]at hy;cases hy
  |some r=>
   rw[hF]at hy;cases h1:r.1 with
   |false=>simp only[aa,h1,ae]at hy;cases hy
   |true=>
    simp only[aa,h1,af,aZ]at hy;subst hy;have hf:(Iu s rs MK h2 F).fn xs=some r:=by show aa (ln s xs) F=some r;rw[ha];exact hF
    have hh:=h xs r hf;have hr:(Iu s rs MK h2 F).res r=xm rs r.2:=by show cond r.1 (xm rs r.2) _=_;rw[h1];rfl
    refine⟨hh.1,λ_ _ A w vs hA P4=>?_,λh=>(by cases h),λh=>(by cases h),λh=>(by cases h)⟩;have q:=hh.2.1 rfl rfl A w vs hA P4;rw[hr]at q;exact q
def ags (t:CT)(gg:Bool)(s:au PS)(rs:au (Bool×FT))(F:t.D->Bb s->aw (hH rs×t.D)):zy:=
 {R:=hH rs×t.D,fn:=λxs=>match xs with
  | .val g cs::rest=>bif gg==g then(match iD t cs with|some (x,[])=>aa (ln s rest) (F x)|_=>none) else none
  |_=>none,av:=λy=>xm rs y.1,io:=true,back:=λy=>cellsOf t (.own none) y.2}
theorem kB.apd {t:CT}{gg:Bool}{G:au AV->aw (hH rs×t.D)}(h:kB P f {R:=hH rs×t.D,fn:=G,av:=λy=>xm rs y.1,io:=true,back:=λy=>cellsOf t (.own none) y.2}){F:t.D->Bb s->aw (hH rs×t.D)}(hF:∀x a,G (.val gg (cellsOf t (.own none) x)::ia s a)=F x a):kB P f (ags t gg s rs F):=by
 intro xs y hy;simp only[ags]at hy y;split at hy;rename_i g cs rest;cases hg:(gg==g)with
 |false=>rw[hg]at hy;cases hy
 |true=>
  rw[hg]at hy;have:gg=g:=by simpa using hg
  subst this;simp only[af]at hy;split at hy;rename_i x hx;cases ha:ln s rest with
  |none=>rw[ha]at hy;cases hy
  |some a=>
   rw[ha]at hy;have Q1:G (.val gg (cellsOf t (.own none) x)::ia s a)=some y:=by rw[hF x a];exact hy
   have hh:=h _ y Q1;refine⟨hh.1,λh=>(by cases h),λ_ g0 PN aer he A w v0 vs hw fp hA dx hn gq eP=>?_,λh=>(by cases h),λh=>(by cases h)⟩;injection he with he1 he2;injection he1 with he1 he3;subst he1;subst he2;subst he3;refine hh.2.2.1 rfl gg (cellsOf t (.own none) x) (ia s a) rfl A w v0 vs hw fp hA ?_ hn gq (qX ha eP);obtain⟨us,dM,dx⟩:=dx;obtain⟨f1,f2,rfl,eE,ji⟩:=oc dx hx;have SJ:us.drop t.size=[]:=by cases hd:us.drop t.size with|nil=>rfl|cons _ _=>rw[hd]at ji;exact ji.elim
   rw[SJ]at ji;have Hh:f2=[]:=ji;subst Hh;have adC:us.take t.size=us:=by have:=cf t.size us;rw[SJ,br]at this;exact this
   rw[adC]at eE;rw[br];exact⟨us,dM,sa (c:=eD A hw w) eE⟩
  cases hy
 cases hy
def FT.I6:FT->Bool
 | .sl .arg _=>true
 | .sl .ae6 _=>true
 | .sl _ _=>false
 | .pair a b=>a.I6&&b.I6
 |_=>true
theorem FY:∀{t:FT},t.I6=true->∀x:t.ct.D,(iK t x).all AC.I6=true
 | .int _,_,_=>rfl
 | .bool,_,_=>rfl
 | .str,_,_=>rfl
 | .sl fl e,h,_=>by cases fl<;>first|rfl|cases h
 | .pair a b,h,x=>by simp only[FT.I6,ah]at h;simp only[iK,List.all_append,ah];exact⟨FY h.1 x.1,FY h.2 x.2⟩
def acW (t:FT)(s:au PS)(rs:au (Bool×FT))(F:t.ct.D->Bb s->aw (hH rs×t.ct.D)):zy:=
 {R:=hH rs×t.ct.D,fn:=λxs=>match xs with
  | .val true cs::rest=>(match M4 t cs with|some (x,[])=>aa (ln s rest) (F x)|_=>none)
  |_=>none,av:=λy=>xm rs y.1,back:=λy=>iK t y.2,bx:=true,cur:=t.I6,hcur:=λh y=>FY h y.2}
theorem kB.aix {t:FT}{G:au AV->aw (hH rs×t.ct.D)}(h:kB P f {R:=hH rs×t.ct.D,fn:=G,av:=λy=>xm rs y.1,back:=λy=>iK t y.2,bx:=true}){F:t.ct.D->Bb s->aw (hH rs×t.ct.D)}(hF:∀x a,G (.val true (iK t x)::ia s a)=F x a):kB P f (acW t s rs F):=by
 intro xs y hy;simp only[acW]at hy y;split at hy;rename_i cs rest;split at hy;rename_i x hx;cases ha:ln s rest with
 |none=>rw[ha]at hy;cases hy
 |some a=>
  rw[ha]at hy;have Q1:G (.val true (iK t x)::ia s a)=some y:=by rw[hF x a];exact hy
  have Jt:=za hx;rw[br]at Jt;have hh:=h _ y Q1;refine⟨hh.1,λ_ h=>(by cases h),λh=>(by cases h),λ_ PN aer he A w b vs arr T fr hw fp hA jh qG dx hn sO gq HV eP=>?_,λh=>(by cases h)⟩;injection he with he1 he2;injection he1 with _ he3;subst he2;subst he3;rw[Jt]at dx;exact hh.2.2.2.1 rfl (iK t x) (ia s a) rfl A w b vs arr T fr hw fp hA jh qG dx hn sO gq HV (qX ha eP)
 cases hy;cases hy
def acX (t:FT)(s:au PS)(F:Bb s->aw t.ct.D):zy:=
 {R:=t.ct.D,fn:=λxs=>aa (ln s xs) F,av:=λ_=> .bot,back:=λy=>iK t y,pr:=true}
theorem kB.aiy {t:FT}{G:au AV->aw t.ct.D}(h:kB P f {R:=t.ct.D,fn:=G,av:=λ_=> .bot,back:=λy=>iK t y,pr:=true}){F:Bb s->aw t.ct.D}(hF:∀a,G (ia s a)=F a):kB P f (acX t s F):=by
 intro xs y hy;simp only[acX]at hy y;cases ha:ln s xs with
 |none=>rw[ha]at hy;cases hy
 |some a=>
  rw[ha]at hy;have Q1:G (ia s a)=some y:=by rw[hF a];exact hy
  have hh:=h _ y Q1;exact⟨hh.1,λh1 h2 A w vs hA hr=>hh.2.1 h1 h2 A w vs hA (qX ha hr),λh=>(by cases h),λh=>(by cases h),λ_ A w vs hA hr=>hh.2.2.2.2 rfl A w vs hA (qX ha hr)⟩
theorem Ro {R σ:Type}{key:dI}{B:AS->(Ex->AS->aw R)->aw R}{K:Ex->AS->aw R}(enc:σ->AS)(T:(σ->aw R)->σ->aw R)
 (h:∀m x,zZ key B (m+1) (enc x) K=T (λy=>zZ key B m (enc y) K) x):∀m x,zZ key B m (enc x) K=aL T m x
 |0,_=>rfl
 |m+1,x=>by rw[h m x];have:(λy=>zZ key B m (enc y) K)=aL T m:=funext λy=>Ro enc T h m y;rw[this];rfl
theorem sT:∀{l:au PD}{vs:au AV}{x:EP l},jO l vs=some x->vs=sW l x
 |[],[],_,_=>rfl
 |[],_::_,_,h=>by simp[jO]at h
 | .data g t::l,[],_,h=>by simp[jO]at h
 | .data g t::l,.vq _::vs,_,h=>by simp[jO]at h
 | .data g t::l,.val g' cs::vs,x,h=>by
  simp only[jO]at h;cases hg:g==g' with
  |false=>rw[hg]at h;cases h
  |true=>
   rw[hg]at h;simp only[af]at h;have mI:g=g':=by simpa using hg
   subst mI;split at h;rename_i y hy;obtain⟨r,hr,h⟩:=aK.1 h;cases h;have h1:=za hy;rw[br]at h1;rw[sW,h1,sT hr];cases h
 | .bot::l,[],x,h=>by simp[jO]at h
 | .ptr s off::l,[],x,h=>by simp[jO]at h
 | .fn f::l,[],x,h=>by simp[jO]at h
 | .bot::l,v::vs,x,h=>by simp only[jO]at h;cases hg:v.ZK with|false=>rw[hg]at h;cases h|true=>rw[hg]at h;rw[XZ hg,sW,sT (l:=l) h]
 | .ptr s off::l,v::vs,x,h=>by simp only[jO]at h;cases hg:v.ZL s off with|false=>rw[hg]at h;cases h|true=>rw[hg]at h;rw[X1 hg,sW,sT (l:=l) h]
 | .fn f::l,v::vs,x,h=>by simp only[jO]at h;cases hg:v.abe f with|false=>rw[hg]at h;cases h|true=>rw[hg]at h;rw[Ri hg,sW,sT (l:=l) h]
theorem CX:∀{l:au (aw FT)}{bs:au (aw (au AC))}{x:D0 l},qz l bs=some x->bs=Dp l x
 |[],[],_,_=>rfl
 |[],_::_,_,h=>by simp[qz]at h
 |some t::l,[],_,h=>by simp[qz]at h
 |none::l,[],_,h=>by simp[qz]at h
 |some t::l,none::bs,_,h=>by simp[qz]at h
 |none::l,some _::bs,_,h=>by simp[qz]at h
 |none::l,none::bs,x,h=>by simp only[qz]at h;rw[Dp,CX h]
 |some t::l,some cs::bs,x,h=>by simp only[qz]at h;split at h;rename_i y hy;obtain⟨r,hr,h⟩:=aK.1 h;cases h;have h1:=za hy;rw[br]at h1;rw[Dp,h1,CX hr];cases h
theorem Xg:∀{o:IoD}{cs:au AC}{x:ioD o},Ui o cs=some x->cs=acV o x
 | .none,[],_,_=>rfl
 | .none,_::_,_,h=>by simp[Ui]at h
 | .ptr,cs,x,h=>by simp only[Ui]at h;cases hp:X0 cs with|false=>rw[hp]at h;cases h|true=>unfold X0 at hp;split at hp;rfl;cases hp
 | .some t,cs,x,h=>by simp only[Ui]at h;split at h;rename_i y hy;cases h;have h1:=za hy;rw[br]at h1;rw[acV,h1];cases h
theorem SD.Uj {d:SD}{st:AS}{x:d.D}(h:d.dec st=some x):st=d.enc x:=by unfold SD.dec at h;cases hc:(st.ep==0&&st.iss==List.replicate d.slots.length false)with|false=>rw[hc]at h;cases h|true=>rw[hc]at h;simp only[af]at h;obtain⟨y,hy,h⟩:=aK.1 h;obtain⟨z,hz,h⟩:=aK.1 h;obtain⟨u,hu,h⟩:=aK.1 h;cases h;simp only[ah,bC]at hc;cases st with|mk slots boxes ep iss io=>simp only at hc hy hz hu;obtain⟨rfl,rfl⟩:=hc;rw[sT hy,CX hz,Xg hu];rfl
theorem lok {E:Env}{Γ:xg}{an:An}{Λ:FL}{c:Code}(l:KG)(h1:Λ (dp c)=l)(n:Nat)(h2:∀(R:Type)(x:l.sd.D)(K:Ex->AS->aw R),l.run x K=zZ (an.mask (dp c)) (den E Γ an Λ c) n (l.sd.enc x) K):WS E Γ an Λ c:=by refine⟨n,λR st K r h=>?_⟩;rw[h1]at h;unfold KG.go at h;cases hd:l.sd.dec st with|none=>rw[hd]at h;cases h|some x=>rw[hd]at h;rw[SD.Uj hd,<-h2];exact h
theorem cok {E:Env}{Γ:xg}{an:An}{Λ:FL}{c:Code}(l:KG)(h1:Λ (xo c)=l)(h2:∀(R:Type)(x:l.sd.D)(K:Ex->AS->aw R),l.run x K=den E Γ an Λ c (l.sd.enc x) (λe st'=>K e (st'.mask (an.mask (xo c+1))))):COk E Γ an Λ c:=by intro R st K r h;rw[h1]at h;unfold KG.go at h;cases hd:l.sd.dec st with|none=>rw[hd]at h;cases h|some x=>rw[hd]at h;rw[SD.Uj hd,<-h2];exact h
end Go.Dn
