import Derived.Test.YtfbhfnniblfpbaaGreatDnLaw
/- Functions by the data that they take; loops by the data that they keep. -/
namespace Go.Dn
variable {f:Nat} {P:Program} {rs:au (Bool×FT)}
inductive PS where
 |data (g:Bool) (t:CT)|fn (f:Nat)
variable {s:au PS}
abbrev Bo:au PS->Type
 |[]=>Unit
 | .data _ t::r=>t.D×Bo r
 | .fn _::r=>Bo r
def tV:(t:CT)->au AC->ax (t.D×au AC)
 | .int k,.int k' n::r=>if k'=k then some (n,r) else none
 | .bool,.bool b::r=>some (b,r)
 | .str,.str s::r=>some (s,r)
 | .sl e,.sl (.arg false) e' xs::r=>if h:e'=e then some (h▸xs,r) else none
 | .sl _,.jE::r=>some ([],r)
 | .pair a b,cs=>(tV a cs).bind λx=>(tV b x.2).bind λy=>some ((x.1,y.1),y.2)
 |_,_=>none
def lI:(s:au PS)->au AV->ax (Bo s)
 |[],[]=>some ()
 | .data g e::s,.val g' cs::xs=>bif g==g' then
  (match tV e cs with
   |some (x,[])=>(lI s xs).bind λr=>some (x,r)
   |_=>none) else none
 | .fn f::s,v::xs=>bif v.aa7 f then lI s xs else none
 |_,_=>none
def im:(s:au PS)->Bo s->au AV
 |[],_=>[]
 | .data g e::s,a=> .val g (cellsOf e (.arg false) a.1)::im s a.2
 | .fn f::s,a=> .one (.fn f)::im s a
theorem abz {A:Rg}{hw:Nat->Nat}{w:World}:∀{t:CT}{cs r:au AC}{x:t.D},tV t cs=some (x,r)->∀{vs:ie}{fp:eo},bE (eS A hw w) vs cs fp-> ∃v1 v2 f1 f2,vs=v1++v2/\fp=f1++f2/\bE (eS A hw w) v1 (cellsOf t (.arg false) x) f1/\bE (eS A hw w) v2 r f2:=by
 intro t
 have one:∀{y:AC}{ys:au AC}{vs:ie}{fp:eo}{z:AC},bE (eS A hw w) vs (y::ys) fp->(∀v f,gE (eS A hw w) v y f->gE (eS A hw w) v z f)->
  ∃v1 v2 f1 f2,vs=v1++v2/\fp=f1++f2/\bE (eS A hw w) v1 [z] f1/\bE (eS A hw w) v2 ys f2:=by
  intro y ys vs fp z h hz
  cases vs with
  |nil=>exact h.elim
  |cons v vs=>
   obtain⟨f1,f2,rfl,h1,h2⟩:=h
   exact⟨[v],vs,f1,f2,rfl,rfl,⟨f1,[],by simp,hz v f1 h1,rfl⟩,h2⟩
 induction t with
 |int k=>intro cs r x h vs fp hr;cases cs with|nil=>simp[tV]at h|cons y ys=>cases y<;>simp[tV]at h;obtain⟨rfl,rfl,rfl⟩:=h;exact one hr λv f h=>h
 |bool=>intro cs r x h vs fp hr;cases cs with|nil=>simp[tV]at h|cons y ys=>cases y<;>simp[tV]at h;obtain⟨rfl,rfl⟩:=h;exact one hr λv f h=>h
 |str=>intro cs r x h vs fp hr;cases cs with|nil=>simp[tV]at h|cons y ys=>cases y<;>simp[tV]at h;obtain⟨rfl,rfl⟩:=h;exact one hr λv f h=>h
 |sl e _=>
  intro cs r x h vs fp hr;cases cs with
  |nil=>simp[tV]at h
  |cons y ys=>
   cases y with
   |sl fl e' xs=>
    cases fl with
    |arg k=>cases k with|true=>simp[tV]at h|false=>simp only[tV]at h;split at h;rename_i he;subst he;cases h;exact one hr λv f h=>h;cases h
    |own t=>simp[tV]at h
    |nest _ _ _ _ _ _=>simp[tV]at h
    |part _ _ _ _=>simp[tV]at h
    |eY _ _ _=>simp[tV]at h
    |loc ep pv=>simp[tV]at h
   |jE=>simp[tV]at h;obtain⟨rfl,rfl⟩:=h;refine one hr λv f h=>?_;obtain⟨rfl,rfl⟩:=h;exact⟨rfl,_,rfl,.inl ⟨⟨none,rfl⟩,rfl⟩⟩
   |_=>simp[tV]at h
 |pair a b iha ihb=>intro cs r x h vs fp hr;simp only[tV]at h;obtain⟨⟨x1,r1⟩,h1,h⟩:=aO.1 h;obtain⟨⟨x2,r2⟩,h2,h⟩:=aO.1 h;cases h;obtain⟨v1,v2,f1,f2,rfl,rfl,k1,k2⟩:=iha h1 hr;obtain⟨v3,v4,f3,f4,rfl,rfl,k3,k4⟩:=ihb h2 k2;exact⟨v1++v3,v4,f1++f3,f4,by simp,by simp,by simpa[cellsOf]using bE.append k1 k3,k4⟩
theorem QU {v:AV}(h:v.aa7 f=true):v=.one (.fn f):=by
 unfold AV.aa7 at h;split at h;rename_i f';have:f=f':=by simpa using h
 subst this;rfl;cases h
theorem XN {v:AV}(h:v.ZA=true):v=.bot:=by unfold AV.ZA at h;split at h;rfl;cases h
theorem XP {v:AV}{s off:Nat}(h:v.ZB s off=true):v=.one (.ptr s off):=by unfold AV.ZB at h;split at h;simp only[ah,bw]at h;obtain⟨rfl,rfl⟩:=h;rfl;cases h
theorem rJ {A:Rg}{w:World}:∀{s:au PS}{xs:au AV}{a:Bo s},lI s xs=some a->∀{vs:ie},oI A w vs xs->oI A w vs (im s a)
 |[],[],a,_,vs,h=>h
 |[],_::_,_,h,_,_=>by simp[lI]at h
 | .data g e::s,[],_,h,_,_=>by simp[lI]at h
 | .data g e::s,.xn _::xs,_,h,_,_=>by simp[lI]at h
 | .data g e::s,.val g' cs::xs,a,h,vs,hr=>by
  simp only[lI]at h;cases hg:g==g' with
  |false=>rw[hg]at h;cases h
  |true=>
   rw[hg]at h;simp only[af]at h;have oy:g=g':=by simpa using hg
   subst oy;split at h;rename_i x hx;obtain⟨r,hr',h⟩:=aO.1 h;cases h;cases vs with
   |nil=>exact hr.elim
   |cons v vs=>
    obtain⟨⟨us,eR,hu⟩,h2⟩:=hr;obtain⟨v1,v2,f1,f2,rfl,hf,k1,k2⟩:=abz hx hu;have Sv:v2=[]:=by cases v2 with|nil=>rfl|cons _ _=>exact k2.elim
    subst Sv;have hf1:f1=[]:=by have:=hf.symm;simp at this;exact this.1
    subst hf1;rw[bA]at eR;exact⟨⟨v1,eR,k1⟩,rJ hr' h2⟩
   cases h
 | .fn f::s,[],a,h,vs,hr=>by simp[lI]at h
 | .fn f::s,v::xs,a,h,vs,hr=>by simp only[lI]at h;cases hg:v.aa7 f with|false=>rw[hg]at h;cases h|true=>rw[hg]at h;have:=QU hg;subst this;cases vs with|nil=>exact hr.elim|cons v vs=>exact⟨hr.1,rJ h hr.2⟩
def Qk (s:au PS)(rs:au (Bool×FT))(F:Bo s->ax (ij rs)):zH:={R:=ij rs,fn:=λxs=>aa (lI s xs) F,av:=xz rs}
theorem lH.of {G:au AV->ax (ij rs)}(h:lH P f {R:=ij rs,fn:=G,av:=xz rs}){F:Bo s->ax (ij rs)}(hF:∀a,G (im s a)=F a):lH P f (Qk s rs F):=by
 intro xs y hy;simp only[Qk]at hy y;cases ha:lI s xs with
 |none=>rw[ha]at hy;cases hy
 |some a=>
  rw[ha]at hy;have QD:G (im s a)=some y:=by rw[hF a];exact hy
  have hh:=h (im s a) y QD;exact⟨hh.1,λ_ _ A w vs hA hr=>hh.2.1 rfl rfl A w vs hA (rJ ha hr),λh=>(by cases h),λh=>(by cases h),λh=>(by cases h)⟩
def HD (s:au PS)(rs Mc:au (Bool×FT))(h:ij Mc=ij rs)(F:Bo s->ax (Bool×ij rs)):zH:=
 {R:=Bool×ij rs,fn:=λxs=>aa (lI s xs) F,av:=λy=>xz rs y.2,sel:=λy=>y.1,alt:=λy=>xz Mc (cast h.symm y.2)}
theorem lH.ofAlt {Mc:au (Bool×FT)}{h2:ij Mc=ij rs}{G:au AV->ax (Bool×ij rs)}(h:lH P f {R:=Bool×ij rs,fn:=G,av:=λy=>xz rs y.2,sel:=λy=>y.1,alt:=λy=>xz Mc (cast h2.symm y.2)}){F:Bo s->ax (Bool×ij rs)}(hF:∀a,G (im s a)=F a):lH P f (HD s rs Mc h2 F):=by
 intro xs y hy;simp only[HD]at hy y;cases ha:lI s xs with
 |none=>rw[ha]at hy;cases hy
 |some a=>
  rw[ha]at hy;have QD:G (im s a)=some y:=by rw[hF a];exact hy
  have hh:=h (im s a) y QD;exact⟨hh.1,λ_ _ A w vs hA hr=>hh.2.1 rfl rfl A w vs hA (rJ ha hr),λh=>(by cases h),λh=>(by cases h),λh=>(by cases h)⟩
def ac3 (s:au PS)(rs:au (Bool×FT))(F:Bo s->ax (Bool×ij rs)):zH:=
 {R:=Bool×ij rs,fn:=λxs=>aa (lI s xs) λa=>ad8 (F a),av:=λy=>xz rs y.2}
theorem lH.only {Mc:au (Bool×FT)}{h2:ij Mc=ij rs}{F:Bo s->ax (Bool×ij rs)}(h:lH P f (HD s rs Mc h2 F)):lH P f (ac3 s rs F):=by
 intro xs y hy;simp only[ac3]at hy y;cases ha:lI s xs with
 |none=>rw[ha]at hy;cases hy
 |some a=>
  rw[ha]at hy;have hy:ad8 (F a)=some y:=hy;unfold ad8 at hy;cases hF:F a with
  |none=>rw[hF]at hy;cases hy
  |some r=>
   rw[hF]at hy;cases h1:r.1 with
   |false=>simp only[aa,h1,ae]at hy;cases hy
   |true=>
    simp only[aa,h1,af,ba]at hy;subst hy;have hf:(HD s rs Mc h2 F).fn xs=some r:=by show aa (lI s xs) F=some r;rw[ha];exact hF
    have hh:=h xs r hf;have hr:(HD s rs Mc h2 F).res r=xz rs r.2:=by show cond r.1 (xz rs r.2) _=_;rw[h1];rfl
    refine⟨hh.1,λ_ _ A w vs hA Py=>?_,λh=>(by cases h),λh=>(by cases h),λh=>(by cases h)⟩;have q:=hh.2.1 rfl rfl A w vs hA Py;rw[hr]at q;exact q
def agv (t:CT)(gg:Bool)(s:au PS)(rs:au (Bool×FT))(F:t.D->Bo s->ax (ij rs×t.D)):zH:=
 {R:=ij rs×t.D,fn:=λxs=>match xs with
  | .val g cs::rest=>bif gg==g then(match jt t cs with|some (x,[])=>aa (lI s rest) (F x)|_=>none) else none
  |_=>none,av:=λy=>xz rs y.1,io:=true,back:=λy=>cellsOf t (.own none) y.2}
theorem lH.aoK {t:CT}{gg:Bool}{G:au AV->ax (ij rs×t.D)}(h:lH P f {R:=ij rs×t.D,fn:=G,av:=λy=>xz rs y.1,io:=true,back:=λy=>cellsOf t (.own none) y.2}){F:t.D->Bo s->ax (ij rs×t.D)}(hF:∀x a,G (.val gg (cellsOf t (.own none) x)::im s a)=F x a):lH P f (agv t gg s rs F):=by
 intro xs y hy;simp only[agv]at hy y;split at hy;rename_i g cs rest;cases hg:(gg==g)with
 |false=>rw[hg]at hy;cases hy
 |true=>
  rw[hg]at hy;have:gg=g:=by simpa using hg
  subst this;simp only[af]at hy;split at hy;rename_i x hx;cases ha:lI s rest with
  |none=>rw[ha]at hy;cases hy
  |some a=>
   rw[ha]at hy;have QD:G (.val gg (cellsOf t (.own none) x)::im s a)=some y:=by rw[hF x a];exact hy
   have hh:=h _ y QD;refine⟨hh.1,λh=>(by cases h),λ_ g0 Pg aeq he A w v0 vs hw fp hA ed hn gB fy=>?_,λh=>(by cases h),λh=>(by cases h)⟩;injection he with he1 he2;injection he1 with he1 he3;subst he1;subst he2;subst he3;refine hh.2.2.1 rfl gg (cellsOf t (.own none) x) (im s a) rfl A w v0 vs hw fp hA ?_ hn gB (rJ ha fy);obtain⟨us,eR,ed⟩:=ed;obtain⟨f1,f2,rfl,fU,mU⟩:=rK ed hx;have Sq:us.drop t.size=[]:=by cases hd:us.drop t.size with|nil=>rfl|cons _ _=>rw[hd]at mU;exact mU.elim
   rw[Sq]at mU;have EH:f2=[]:=mU;subst EH;have ady:us.take t.size=us:=by have:=bW t.size us;rw[Sq,bA]at this;exact this
   rw[ady]at fU;rw[bA];exact⟨us,eR,vw (c:=eS A hw w) fU⟩
  cases hy
 cases hy
def FT.Ii:FT->Bool
 | .sl .arg _=>true
 | .sl .ae9 _=>true
 | .sl _ _=>false
 | .pair a b=>a.Ii&&b.Ii
 |_=>true
theorem E4:∀{t:FT},t.Ii=true->∀x:t.ct.D,(jc t x).all AC.Ii=true
 | .int _,_,_=>rfl
 | .bool,_,_=>rfl
 | .str,_,_=>rfl
 | .sl fl e,h,_=>by cases fl<;>first|rfl|cases h
 | .pair a b,h,x=>by simp only[FT.Ii,ah]at h;simp only[jc,List.all_append,ah];exact⟨E4 h.1 x.1,E4 h.2 x.2⟩
def ac1 (t:FT)(s:au PS)(rs:au (Bool×FT))(F:t.ct.D->Bo s->ax (ij rs×t.ct.D)):zH:=
 {R:=ij rs×t.ct.D,fn:=λxs=>match xs with
  | .val true cs::rest=>(match Mw t cs with|some (x,[])=>aa (lI s rest) (F x)|_=>none)
  |_=>none,av:=λy=>xz rs y.1,back:=λy=>jc t y.2,bx:=true,cur:=t.Ii,hcur:=λh y=>E4 h y.2}
theorem lH.aiQ {t:FT}{G:au AV->ax (ij rs×t.ct.D)}(h:lH P f {R:=ij rs×t.ct.D,fn:=G,av:=λy=>xz rs y.1,back:=λy=>jc t y.2,bx:=true}){F:t.ct.D->Bo s->ax (ij rs×t.ct.D)}(hF:∀x a,G (.val true (jc t x)::im s a)=F x a):lH P f (ac1 t s rs F):=by
 intro xs y hy;simp only[ac1]at hy y;split at hy;rename_i cs rest;split at hy;rename_i x hx;cases ha:lI s rest with
 |none=>rw[ha]at hy;cases hy
 |some a=>
  rw[ha]at hy;have QD:G (.val true (jc t x)::im s a)=some y:=by rw[hF x a];exact hy
  have Kl:=zv hx;rw[bA]at Kl;have hh:=h _ y QD;refine⟨hh.1,λ_ h=>(by cases h),λh=>(by cases h),λ_ Pg aeq he A w b vs arr T fr hw fp hA kz tw ed hn xx gB Ic fy=>?_,λh=>(by cases h)⟩;injection he with he1 he2;injection he1 with _ he3;subst he2;subst he3;rw[Kl]at ed;exact hh.2.2.2.1 rfl (jc t x) (im s a) rfl A w b vs arr T fr hw fp hA kz tw ed hn xx gB Ic (rJ ha fy)
 cases hy;cases hy
def ac2 (t:FT)(s:au PS)(F:Bo s->ax t.ct.D):zH:=
 {R:=t.ct.D,fn:=λxs=>aa (lI s xs) F,av:=λ_=> .bot,back:=λy=>jc t y,pr:=true}
theorem lH.aiR {t:FT}{G:au AV->ax t.ct.D}(h:lH P f {R:=t.ct.D,fn:=G,av:=λ_=> .bot,back:=λy=>jc t y,pr:=true}){F:Bo s->ax t.ct.D}(hF:∀a,G (im s a)=F a):lH P f (ac2 t s F):=by
 intro xs y hy;simp only[ac2]at hy y;cases ha:lI s xs with
 |none=>rw[ha]at hy;cases hy
 |some a=>
  rw[ha]at hy;have QD:G (im s a)=some y:=by rw[hF a];exact hy
  have hh:=h _ y QD;exact⟨hh.1,λh1 h2 A w vs hA hr=>hh.2.1 h1 h2 A w vs hA (rJ ha hr),λh=>(by cases h),λh=>(by cases h),λ_ A w vs hA hr=>hh.2.2.2.2 rfl A w vs hA (rJ ha hr)⟩
theorem QZ {R σ:Type}{key:eo}{B:AS->(Ex->AS->ax R)->ax R}{K:Ex->AS->ax R}(enc:σ->AS)(T:(σ->ax R)->σ->ax R)
 (h:∀m x,Ah key B (m+1) (enc x) K=T (λy=>Ah key B m (enc y) K) x):∀m x,Ah key B m (enc x) K=aM T m x
 |0,_=>rfl
 |m+1,x=>by rw[h m x];have:(λy=>Ah key B m (enc y) K)=aM T m:=funext λy=>QZ enc T h m y;rw[this];rfl
theorem tD:∀{l:au PD}{vs:au AV}{x:Eg l},kh l vs=some x->vs=tG l x
 |[],[],_,_=>rfl
 |[],_::_,_,h=>by simp[kh]at h
 | .data g t::l,[],_,h=>by simp[kh]at h
 | .data g t::l,.xn _::vs,_,h=>by simp[kh]at h
 | .data g t::l,.val g' cs::vs,x,h=>by
  simp only[kh]at h;cases hg:g==g' with
  |false=>rw[hg]at h;cases h
  |true=>
   rw[hg]at h;simp only[af]at h;have oy:g=g':=by simpa using hg
   subst oy;split at h;rename_i y hy;obtain⟨r,hr,h⟩:=aO.1 h;cases h;have h1:=zv hy;rw[bA]at h1;rw[tG,h1,tD hr];cases h
 | .bot::l,[],x,h=>by simp[kh]at h
 | .ptr s off::l,[],x,h=>by simp[kh]at h
 | .fn f::l,[],x,h=>by simp[kh]at h
 | .bot::l,v::vs,x,h=>by simp only[kh]at h;cases hg:v.ZA with|false=>rw[hg]at h;cases h|true=>rw[hg]at h;rw[XN hg,tG,tD (l:=l) h]
 | .ptr s off::l,v::vs,x,h=>by simp only[kh]at h;cases hg:v.ZB s off with|false=>rw[hg]at h;cases h|true=>rw[hg]at h;rw[XP hg,tG,tD (l:=l) h]
 | .fn f::l,v::vs,x,h=>by simp only[kh]at h;cases hg:v.aa7 f with|false=>rw[hg]at h;cases h|true=>rw[hg]at h;rw[QU hg,tG,tD (l:=l) h]
theorem CG:∀{l:au (ax FT)}{bs:au (ax (au AC))}{x:DK l},rm l bs=some x->bs=C3 l x
 |[],[],_,_=>rfl
 |[],_::_,_,h=>by simp[rm]at h
 |some t::l,[],_,h=>by simp[rm]at h
 |none::l,[],_,h=>by simp[rm]at h
 |some t::l,none::bs,_,h=>by simp[rm]at h
 |none::l,some _::bs,_,h=>by simp[rm]at h
 |none::l,none::bs,x,h=>by simp only[rm]at h;rw[C3,CG h]
 |some t::l,some cs::bs,x,h=>by simp only[rm]at h;split at h;rename_i y hy;obtain⟨r,hr,h⟩:=aO.1 h;cases h;have h1:=zv hy;rw[bA]at h1;rw[C3,h1,CG hr];cases h
theorem Xa:∀{o:IoD}{cs:au AC}{x:ioD o},T0 o cs=some x->cs=ac0 o x
 | .none,[],_,_=>rfl
 | .none,_::_,_,h=>by simp[T0]at h
 | .ptr,cs,x,h=>by simp only[T0]at h;cases hp:XO cs with|false=>rw[hp]at h;cases h|true=>unfold XO at hp;split at hp;rfl;cases hp
 | .some t,cs,x,h=>by simp only[T0]at h;split at h;rename_i y hy;cases h;have h1:=zv hy;rw[bA]at h1;rw[ac0,h1];cases h
theorem SD.T1 {d:SD}{st:AS}{x:d.D}(h:d.dec st=some x):st=d.enc x:=by unfold SD.dec at h;cases hc:(st.ep==0&&st.iss==List.replicate d.slots.length false)with|false=>rw[hc]at h;cases h|true=>rw[hc]at h;simp only[af]at h;obtain⟨y,hy,h⟩:=aO.1 h;obtain⟨z,hz,h⟩:=aO.1 h;obtain⟨u,hu,h⟩:=aO.1 h;cases h;simp only[ah,bw]at hc;cases st with|mk slots boxes ep iss io=>simp only at hc hy hz hu;obtain⟨rfl,rfl⟩:=hc;rw[tD hy,CG hz,Xa hu];rfl
theorem lok {E:Env}{Γ:xu}{an:An}{Λ:ET}{c:Code}(l:J6)(h1:Λ (dC c)=l)(n:Nat)(h2:∀(R:Type)(x:l.sd.D)(K:Ex->AS->ax R),l.run x K=Ah (an.mask (dC c)) (den E Γ an Λ c) n (l.sd.enc x) K):WE E Γ an Λ c:=by refine⟨n,λR st K r h=>?_⟩;rw[h1]at h;unfold J6.go at h;cases hd:l.sd.dec st with|none=>rw[hd]at h;cases h|some x=>rw[hd]at h;rw[SD.T1 hd,<-h2];exact h
theorem cok {E:Env}{Γ:xu}{an:An}{Λ:ET}{c:Code}(l:J6)(h1:Λ (xC c)=l)(h2:∀(R:Type)(x:l.sd.D)(K:Ex->AS->ax R),l.run x K=den E Γ an Λ c (l.sd.enc x) (λe bM=>K e (bM.mask (an.mask (xC c+1))))):COk E Γ an Λ c:=by intro R st K r h;rw[h1]at h;unfold J6.go at h;cases hd:l.sd.dec st with|none=>rw[hd]at h;cases h|some x=>rw[hd]at h;rw[SD.T1 hd,<-h2];exact h
end Go.Dn
