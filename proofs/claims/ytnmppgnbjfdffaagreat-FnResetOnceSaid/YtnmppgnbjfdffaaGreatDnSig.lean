import Derived.Test.YtnmppgnbjfdffaaGreatDnLaw
/- Functions by the data that they take; loops by the data that they keep. -/
namespace Go.Dn
variable {v:AV} {f:Nat} {P:Program} {rs:aw (Bool×FT)}
inductive PS where
 |data (g:Bool) (t:CT)|fn (f:Nat)
variable {s:aw PS}
abbrev yK:aw PS->Type
 |[]=>Unit
 | .data _ t::r=>t.D×yK r
 | .fn _::r=>yK r
def qP:(t:CT)->aw AC->ay (t.D×aw AC)
 | .int k,.int k' n::r=>if k'=k then some (n,r) else none
 | .bool,.bool b::r=>some (b,r)
 | .str,.str s::r=>some (s,r)
 | .sl e,.sl (.arg false) e' xs::r=>if h:e'=e then some (h▸xs,r) else none
 | .sl _,.jm::r=>some ([],r)
 | .pair a b,cs=>(qP a cs).bind λx=>(qP b x.2).bind λy=>some ((x.1,y.1),y.2)
 |_,_=>none
def mA:(s:aw PS)->aw AV->ay (yK s)
 |[],[]=>some ()
 | .data g e::s,.val g' cs::xs=>bif g==g' then
  (match qP e cs with
   |some (x,[])=>(mA s xs).bind λr=>some (x,r)
   |_=>none) else none
 | .fn f::s,v::xs=>bif v.XG f then mA s xs else none
 |_,_=>none
def kG:(s:aw PS)->yK s->aw AV
 |[],_=>[]
 | .data g e::s,a=> .val g (cellsOf e (.arg false) a.1)::kG s a.2
 | .fn f::s,a=> .one (.fn f)::kG s a
theorem Ya {A:Rg}{hw:Nat->Nat}{w:World}:∀{t:CT}{cs r:aw AC}{x:t.D},qP t cs=some (x,r)->∀{vs:ir}{fp:ff},bA (fD A hw w) vs cs fp-> ∃v1 v2 f1 f2,vs=v1++v2/\fp=f1++f2/\bA (fD A hw w) v1 (cellsOf t (.arg false) x) f1/\bA (fD A hw w) v2 r f2:=by
 intro t
 have one:∀{y:AC}{ys:aw AC}{vs:ir}{fp:ff}{z:AC},bA (fD A hw w) vs (y::ys) fp->(∀v f,gy (fD A hw w) v y f->gy (fD A hw w) v z f)->
  ∃v1 v2 f1 f2,vs=v1++v2/\fp=f1++f2/\bA (fD A hw w) v1 [z] f1/\bA (fD A hw w) v2 ys f2:=by
  intro y ys vs fp z h hz
  cases vs with
  |nil=>exact h.elim
  |cons v vs=>
   obtain⟨f1,f2,rfl,h1,h2⟩:=h
   exact⟨[v],vs,f1,f2,rfl,rfl,⟨f1,[],by simp,hz v f1 h1,rfl⟩,h2⟩
 induction t with
 |int k=>intro cs r x h vs fp hr;cases cs with|nil=>simp[qP]at h|cons y ys=>cases y<;>simp[qP]at h;obtain⟨rfl,rfl,rfl⟩:=h;exact one hr λv f h=>h
 |bool=>intro cs r x h vs fp hr;cases cs with|nil=>simp[qP]at h|cons y ys=>cases y<;>simp[qP]at h;obtain⟨rfl,rfl⟩:=h;exact one hr λv f h=>h
 |str=>intro cs r x h vs fp hr;cases cs with|nil=>simp[qP]at h|cons y ys=>cases y<;>simp[qP]at h;obtain⟨rfl,rfl⟩:=h;exact one hr λv f h=>h
 |sl e _=>
  intro cs r x h vs fp hr;cases cs with
  |nil=>simp[qP]at h
  |cons y ys=>
   cases y with
   |sl fl e' xs=>
    cases fl with
    |arg k=>cases k with|true=>simp[qP]at h|false=>simp only[qP]at h;split at h;rename_i he;subst he;cases h;exact one hr λv f h=>h;cases h
    |own t=>simp[qP]at h
    |nest _ _ _ _ _ _=>simp[qP]at h
    |part _ _ _ _=>simp[qP]at h
    |eX _ _ _=>simp[qP]at h
    |loc ep pv=>simp[qP]at h
   |jm=>simp[qP]at h;obtain⟨rfl,rfl⟩:=h;refine one hr λv f h=>?_;obtain⟨rfl,rfl⟩:=h;exact⟨rfl,_,rfl,.inl ⟨⟨none,rfl⟩,rfl⟩⟩
   |_=>simp[qP]at h
 |pair a b iha ihb=>intro cs r x h vs fp hr;simp only[qP]at h;obtain⟨⟨x1,r1⟩,h1,h⟩:=aM.1 h;obtain⟨⟨x2,r2⟩,h2,h⟩:=aM.1 h;cases h;obtain⟨v1,v2,f1,f2,rfl,rfl,k1,k2⟩:=iha h1 hr;obtain⟨v3,v4,f3,f4,rfl,rfl,k3,k4⟩:=ihb h2 k2;exact⟨v1++v3,v4,f1++f3,f4,by simp,by simp,by simpa[cellsOf]using bA.append k1 k3,k4⟩
theorem MF (h:v.XG f=true):v=.one (.fn f):=by
 unfold AV.XG at h;split at h;rename_i f';have:f=f':=by simpa using h
 subst this;rfl;cases h
theorem T8 (h:v.V1=true):v=.bot:=by unfold AV.V1 at h;split at h;rfl;cases h
theorem Ua {s off:Nat}(h:v.V2 s off=true):v=.one (.ptr s off):=by unfold AV.V2 at h;split at h;simp only[ae,bc]at h;obtain⟨rfl,rfl⟩:=h;rfl;cases h
theorem rT {A:Rg}{w:World}:∀{s:aw PS}{xs:aw AV}{a:yK s},mA s xs=some a->∀{vs:ir},ot A w vs xs->ot A w vs (kG s a)
 |[],[],a,_,vs,h=>h
 |[],_::_,_,h,_,_=>by simp[mA]at h
 | .data g e::s,[],_,h,_,_=>by simp[mA]at h
 | .data g e::s,.tS _::xs,_,h,_,_=>by simp[mA]at h
 | .data g e::s,.val g' cs::xs,a,h,vs,hr=>by
  simp only[mA]at h;cases hg:g==g' with
  |false=>rw[hg]at h;cases h
  |true=>
   rw[hg]at h;simp only[ah]at h;have mO:g=g':=by simpa using hg
   subst mO;split at h;rename_i x hx;obtain⟨r,hr',h⟩:=aM.1 h;cases h;cases vs with
   |nil=>exact hr.elim
   |cons v vs=>
    obtain⟨⟨us,eY,hu⟩,h2⟩:=hr;obtain⟨v1,v2,f1,f2,rfl,hf,k1,k2⟩:=Ya hx hu;have Oj:v2=[]:=by cases v2 with|nil=>rfl|cons _ _=>exact k2.elim
    subst Oj;have hf1:f1=[]:=by have:=hf.symm;simp at this;exact this.1
    subst hf1;rw[bt]at eY;exact⟨⟨v1,eY,k1⟩,rT hr' h2⟩
   cases h
 | .fn f::s,[],a,h,vs,hr=>by simp[mA]at h
 | .fn f::s,v::xs,a,h,vs,hr=>by simp only[mA]at h;cases hg:v.XG f with|false=>rw[hg]at h;cases h|true=>rw[hg]at h;have:=MF hg;subst this;cases vs with|nil=>exact hr.elim|cons v vs=>exact⟨hr.1,rT h hr.2⟩
def Mb (s:aw PS)(rs:aw (Bool×FT))(F:yK s->ay (jZ rs)):iW:={R:=jZ rs,fn:=λxs=>aa (mA s xs) F,av:=xx rs}
theorem gA.of {G:aw AV->ay (jZ rs)}(h:gA P f {R:=jZ rs,fn:=G,av:=xx rs}){F:yK s->ay (jZ rs)}(hF:∀a,G (kG s a)=F a):gA P f (Mb s rs F):=by
 intro xs y hy;simp only[Mb]at hy y;cases ha:mA s xs with
 |none=>rw[ha]at hy;cases hy
 |some a=>
  rw[ha]at hy;have Ps:G (kG s a)=some y:=by rw[hF a];exact hy
  have hh:=h (kG s a) y Ps;exact⟨hh.1,λ_ _ A w vs hA hr=>hh.2.1 rfl rfl A w vs hA (rT ha hr),λh=>(by cases h),λh=>(by cases h),λh=>(by cases h)⟩
def yQ (s:aw PS)(rs Lb:aw (Bool×FT))(h:jZ Lb=jZ rs)(F:yK s->ay (Bool×jZ rs)):iW:=
 {R:=Bool×jZ rs,fn:=λxs=>aa (mA s xs) F,av:=λy=>xx rs y.2,sel:=λy=>y.1,alt:=λy=>xx Lb (cast h.symm y.2)}
theorem gA.ofAlt {Lb:aw (Bool×FT)}{h2:jZ Lb=jZ rs}{G:aw AV->ay (Bool×jZ rs)}(h:gA P f {R:=Bool×jZ rs,fn:=G,av:=λy=>xx rs y.2,sel:=λy=>y.1,alt:=λy=>xx Lb (cast h2.symm y.2)}){F:yK s->ay (Bool×jZ rs)}(hF:∀a,G (kG s a)=F a):gA P f (yQ s rs Lb h2 F):=by
 intro xs y hy;simp only[yQ]at hy y;cases ha:mA s xs with
 |none=>rw[ha]at hy;cases hy
 |some a=>
  rw[ha]at hy;have Ps:G (kG s a)=some y:=by rw[hF a];exact hy
  have hh:=h (kG s a) y Ps;exact⟨hh.1,λ_ _ A w vs hA hr=>hh.2.1 rfl rfl A w vs hA (rT ha hr),λh=>(by cases h),λh=>(by cases h),λh=>(by cases h)⟩
def Tw (s:aw PS)(rs:aw (Bool×FT))(F:yK s->ay (Bool×jZ rs)):iW:=
 {R:=Bool×jZ rs,fn:=λxs=>aa (mA s xs) λa=>MP (F a),av:=λy=>xx rs y.2}
theorem gA.only {Lb:aw (Bool×FT)}{h2:jZ Lb=jZ rs}{F:yK s->ay (Bool×jZ rs)}(h:gA P f (yQ s rs Lb h2 F)):gA P f (Tw s rs F):=by
 intro xs y hy;simp only[Tw]at hy y;cases ha:mA s xs with
 |none=>rw[ha]at hy;cases hy
 |some a=>
  rw[ha]at hy;have hy:MP (F a)=some y:=hy;unfold MP at hy;cases hF:F a with
  |none=>rw[hF]at hy;cases hy
  |some r=>
   rw[hF]at hy;cases h1:r.1 with
   |false=>simp only[aa,h1,af]at hy;cases hy
   |true=>
    simp only[aa,h1,ah,aZ]at hy;subst hy;have hf:(yQ s rs Lb h2 F).fn xs=some r:=by show aa (mA s xs) F=some r;rw[ha];exact hF
    have hh:=h xs r hf;have hr:(yQ s rs Lb h2 F).res r=xx rs r.2:=by show cond r.1 (xx rs r.2) _=_;rw[h1];rfl
    refine⟨hh.1,λ_ _ A w vs hA Lr=>?_,λh=>(by cases h),λh=>(by cases h),λh=>(by cases h)⟩;have q:=hh.2.1 rfl rfl A w vs hA Lr;rw[hr]at q;exact q
def FT.EB:FT->Bool
 | .sl .arg _=>true
 | .sl .vT _=>true
 | .sl _ _=>false
 | .pair a b=>a.EB&&b.EB
 |_=>true
theorem Bk:∀{t:FT},t.EB=true->∀x:t.ct.D,(ja t x).all AC.EB=true
 | .int _,_,_=>rfl
 | .bool,_,_=>rfl
 | .str,_,_=>rfl
 | .sl fl e,h,_=>by cases fl<;>first|rfl|cases h
 | .pair a b,h,x=>by simp only[FT.EB,ae]at h;simp only[ja,List.all_append,ae];exact⟨Bk h.1 x.1,Bk h.2 x.2⟩
def jc (t:FT)(s:aw PS)(rs:aw (Bool×FT))(F:t.ct.D->yK s->ay (jZ rs×t.ct.D)):iW:=
 {R:=jZ rs×t.ct.D,fn:=λxs=>match xs with
  | .val true cs::rest=>(match IE t cs with|some (x,[])=>aa (mA s rest) (F x)|_=>none)
  |_=>none,av:=λy=>xx rs y.1,back:=λy=>ja t y.2,bx:=true,cur:=t.EB,hcur:=λh y=>Bk h y.2}
theorem gA.oJ {t:FT}{G:aw AV->ay (jZ rs×t.ct.D)}(h:gA P f {R:=jZ rs×t.ct.D,fn:=G,av:=λy=>xx rs y.1,back:=λy=>ja t y.2,bx:=true}){F:t.ct.D->yK s->ay (jZ rs×t.ct.D)}(hF:∀x a,G (.val true (ja t x)::kG s a)=F x a):gA P f (jc t s rs F):=by
 intro xs y hy;simp only[jc]at hy y;split at hy;rename_i cs rest;split at hy;rename_i x hx;cases ha:mA s rest with
 |none=>rw[ha]at hy;cases hy
 |some a=>
  rw[ha]at hy;have Ps:G (.val true (ja t x)::kG s a)=some y:=by rw[hF x a];exact hy
  have Gp:=vI hx;rw[bt]at Gp;have hh:=h _ y Ps;refine⟨hh.1,λ_ h=>(by cases h),λh=>(by cases h),λ_ L6 ah4 he A w b vs arr T fr hw fp hA jK qv eI hn tZ hG Er fL=>?_,λh=>(by cases h)⟩;injection he with he1 he2;injection he1 with _ he3;subst he2;subst he3;rw[Gp]at eI;exact hh.2.2.2.1 rfl (ja t x) (kG s a) rfl A w b vs arr T fr hw fp hA jK qv eI hn tZ hG Er (rT ha fL)
 cases hy;cases hy
def Tv (t:FT)(s:aw PS)(F:yK s->ay t.ct.D):iW:=
 {R:=t.ct.D,fn:=λxs=>aa (mA s xs) F,av:=λ_=> .bot,back:=λy=>ja t y,pr:=true}
theorem gA.ah1 {t:FT}{G:aw AV->ay t.ct.D}(h:gA P f {R:=t.ct.D,fn:=G,av:=λ_=> .bot,back:=λy=>ja t y,pr:=true}){F:yK s->ay t.ct.D}(hF:∀a,G (kG s a)=F a):gA P f (Tv t s F):=by
 intro xs y hy;simp only[Tv]at hy y;cases ha:mA s xs with
 |none=>rw[ha]at hy;cases hy
 |some a=>
  rw[ha]at hy;have Ps:G (kG s a)=some y:=by rw[hF a];exact hy
  have hh:=h _ y Ps;exact⟨hh.1,λh1 h2 A w vs hA hr=>hh.2.1 h1 h2 A w vs hA (rT ha hr),λh=>(by cases h),λh=>(by cases h),λ_ A w vs hA hr=>hh.2.2.2.2 rfl A w vs hA (rT ha hr)⟩
theorem MK {R σ:Type}{key:ff}{B:AS->(Ex->AS->ay R)->ay R}{K:Ex->AS->ay R}(enc:σ->AS)(T:(σ->ay R)->σ->ay R)
 (h:∀m x,yy key B (m+1) (enc x) K=T (λy=>yy key B m (enc y) K) x):∀m x,yy key B m (enc x) K=aW T m x
 |0,_=>rfl
 |m+1,x=>by rw[h m x];have:(λy=>yy key B m (enc y) K)=aW T m:=funext λy=>MK enc T h m y;rw[this];rfl
theorem qA:∀{l:aw PD}{vs:aw AV}{x:G3 l},jA l vs=some x->vs=qB l x
 |[],[],_,_=>rfl
 |[],_::_,_,h=>by simp[jA]at h
 | .data g t::l,[],_,h=>by simp[jA]at h
 | .data g t::l,.tS _::vs,_,h=>by simp[jA]at h
 | .data g t::l,.val g' cs::vs,x,h=>by
  simp only[jA]at h;cases hg:g==g' with
  |false=>rw[hg]at h;cases h
  |true=>
   rw[hg]at h;simp only[ah]at h;have mO:g=g':=by simpa using hg
   subst mO;split at h;rename_i y hy;obtain⟨r,hr,h⟩:=aM.1 h;cases h;have h1:=vI hy;rw[bt]at h1;rw[qB,h1,qA hr];cases h
 | .bot::l,[],x,h=>by simp[jA]at h
 | .ptr s off::l,[],x,h=>by simp[jA]at h
 | .fn f::l,[],x,h=>by simp[jA]at h
 | .bot::l,v::vs,x,h=>by simp only[jA]at h;cases hg:v.V1 with|false=>rw[hg]at h;cases h|true=>rw[hg]at h;rw[T8 hg,qB,qA (l:=l) h]
 | .ptr s off::l,v::vs,x,h=>by simp only[jA]at h;cases hg:v.V2 s off with|false=>rw[hg]at h;cases h|true=>rw[hg]at h;rw[Ua hg,qB,qA (l:=l) h]
 | .fn f::l,v::vs,x,h=>by simp only[jA]at h;cases hg:v.XG f with|false=>rw[hg]at h;cases h|true=>rw[hg]at h;rw[MF hg,qB,qA (l:=l) h]
theorem yO:∀{l:aw (ay FT)}{bs:aw (ay (aw AC))}{x:Gb l},oT l bs=some x->bs=zj l x
 |[],[],_,_=>rfl
 |[],_::_,_,h=>by simp[oT]at h
 |some t::l,[],_,h=>by simp[oT]at h
 |none::l,[],_,h=>by simp[oT]at h
 |some t::l,none::bs,_,h=>by simp[oT]at h
 |none::l,some _::bs,_,h=>by simp[oT]at h
 |none::l,none::bs,x,h=>by simp only[oT]at h;rw[zj,yO h]
 |some t::l,some cs::bs,x,h=>by simp only[oT]at h;split at h;rename_i y hy;obtain⟨r,hr,h⟩:=aM.1 h;cases h;have h1:=vI hy;rw[bt]at h1;rw[zj,h1,yO hr];cases h
theorem Tr:∀{o:IoD}{cs:aw AC}{x:ioD o},PV o cs=some x->cs=aan o x
 | .none,[],_,_=>rfl
 | .none,_::_,_,h=>by simp[PV]at h
 | .ptr,cs,x,h=>by simp only[PV]at h;cases hp:T9 cs with|false=>rw[hp]at h;cases h|true=>unfold T9 at hp;split at hp;rfl;cases hp
 | .some t,cs,x,h=>by simp only[PV]at h;split at h;rename_i y hy;cases h;have h1:=vI hy;rw[bt]at h1;rw[aan,h1];cases h
theorem SD.PW {d:SD}{st:AS}{x:d.D}(h:d.dec st=some x):st=d.enc x:=by unfold SD.dec at h;cases hc:(st.ep==0&&st.iss==List.replicate d.slots.length false)with|false=>rw[hc]at h;cases h|true=>rw[hc]at h;simp only[ah]at h;obtain⟨y,hy,h⟩:=aM.1 h;obtain⟨z,hz,h⟩:=aM.1 h;obtain⟨u,hu,h⟩:=aM.1 h;cases h;simp only[ae,bc]at hc;cases st with|mk slots boxes ep iss io=>simp only at hc hy hz hu;obtain⟨rfl,rfl⟩:=hc;rw[qA hy,yO hz,Tr hu];rfl
theorem lok {E:Env}{Γ:xl}{an:An}{Λ:kN}{c:Code}(l:F8)(h1:Λ (dU c)=l)(n:Nat)(h2:∀(R:Type)(x:l.sd.D)(K:Ex->AS->ay R),l.run x K=yy (an.mask (dU c)) (den E Γ an Λ c) n (l.sd.enc x) K):wC E Γ an Λ c:=by refine⟨n,λR st K r h=>?_⟩;rw[h1]at h;unfold F8.go at h;cases hd:l.sd.dec st with|none=>rw[hd]at h;cases h|some x=>rw[hd]at h;rw[SD.PW hd,<-h2];exact h
theorem cok {E:Env}{Γ:xl}{an:An}{Λ:kN}{c:Code}(l:F8)(h1:Λ (Bo c)=l)(h2:∀(R:Type)(x:l.sd.D)(K:Ex->AS->ay R),l.run x K=den E Γ an Λ c (l.sd.enc x) (λe bI=>K e (bI.mask (an.mask (Bo c+1))))):Su E Γ an Λ c:=by intro R st K r h;rw[h1]at h;unfold F8.go at h;cases hd:l.sd.dec st with|none=>rw[hd]at h;cases h|some x=>rw[hd]at h;rw[SD.PW hd,<-h2];exact h
end Go.Dn
