import Derived.Test.YtehfjiddofkdnaaGreatDnLaw
/- Functions by the data that they take; loops by the data that they keep. -/
open Bool renaming false->G,true->O
open Option renaming none->W,some->I
namespace Go.Dn
variable {f:Nat} {P:Program} {Y:Z (Bool×FT)}
inductive PS where
 |data (g:Bool) (t:CT)|fn (f:Nat)
variable {s:Z PS}
abbrev OH:Z PS->Type
 |[]=>Unit
 | .data _ t::r=>t.D×OH r
 | .fn _::r=>OH r
def Az:(t:CT)->Z AC->aS (t.D×Z AC)
 | .int k,.int f n::r=>if f=k then I (n,r) else W
 | .bool,.bool b::r=>I (b,r)
 | .str,.str s::r=>I (s,r)
 | .sl e,.sl (.arg G) d g::r=>if h:d=e then I (h▸g,r) else W
 | .sl _,.mP::r=>I ([],r)
 | .pair a b,c=>(Az a c).bind λx=>(Az b x.2).bind λy=>I ((x.1,y.1),y.2)
 |_,_=>W
def uH:(s:Z PS)->Z AV->aS (OH s)
 |[],[]=>I ()
 | .data g e::s,.val c b::a=>bif g==c then
  (match Az e b with
   |some (x,[])=>(uH s a).bind λr=>I (x,r)
   |_=>W) else W
 | .fn f::s,v::a=>bif v.amF f then uH s a else W
 |_,_=>W
def lh:(s:Z PS)->OH s->Z AV
 |[],_=>[]
 | .data g e::s,a=> .val g (cellsOf e (.arg G) a.1)::lh s a.2
 | .fn f::s,a=> .one (.fn f)::lh s a
theorem ana {A j w}:∀{t:CT}{d r:Z AC}{x:t.D},Az t d=I (x,r)->∀{c:oz}{g:gw},cv (gZ A j w) c d g-> ∃l n f1 f2,c=l++n/\g=f1++f2/\cv (gZ A j w) l (cellsOf t (.arg G) x) f1/\cv (gZ A j w) n r f2:=by
 intro t
 have one:∀{y:AC}{m:Z AC}{c:oz}{g:gw}{z:AC},cv (gZ A j w) c (y::m) g->(∀v f,kh (gZ A j w) v y f->kh (gZ A j w) v z f)->
  ∃l n f1 f2,c=l++n/\g=f1++f2/\cv (gZ A j w) l [z] f1/\cv (gZ A j w) n m f2:=by
  intro y m c g z h C
  cases c with
  |nil=>exact h.elim
  |cons v c=>
   obtain⟨f1,f2,rfl,o,p⟩:=h
   exact⟨[v],c,f1,f2,rfl,rfl,⟨f1,[],aD,C v f1 o,rfl⟩,p⟩
 induction t with
 |int k=>intro d r x h c g i;cases d with|nil=>simp[Az]at h|cons y m=>cases y<;>simp[Az]at h;obtain⟨rfl,rfl,rfl⟩:=h;exact one i λv f h=>h
 |bool=>intro d r x h c g i;cases d with|nil=>simp[Az]at h|cons y m=>cases y<;>simp[Az]at h;obtain⟨rfl,rfl⟩:=h;exact one i λv f h=>h
 |str=>intro d r x h c g i;cases d with|nil=>simp[Az]at h|cons y m=>cases y<;>simp[Az]at h;obtain⟨rfl,rfl⟩:=h;exact one i λv f h=>h
 |sl e _=>
  intro d r x h c g i;cases d with
  |nil=>simp[Az]at h
  |cons y m=>
   cases y with
   |sl u H Q=>
    cases u with
    |arg k=>cases k with|true=>simp[Az]at h|false=>simp only[Az]at h;split at h;rename_i B;subst B;cases h;exact one i λv f h=>h;cases h
    |own t=>simp[Az]at h
    |nest _ _ _ _ _ _=>simp[Az]at h
    |part _ _ _ _=>simp[Az]at h
    |im _ _ _=>simp[Az]at h
    |loc J K=>simp[Az]at h
   |mP=>simp[Az]at h;obtain⟨rfl,rfl⟩:=h;refine one i λv f h=>?_;obtain⟨rfl,rfl⟩:=h;exact⟨rfl,_,rfl,.inl ⟨⟨W,rfl⟩,rfl⟩⟩
   |_=>simp[Az]at h
 |pair a b q s=>intro d r x h c g i;simp only[Az]at h;obtain⟨⟨N,L⟩,o,h⟩:=br.1 h;obtain⟨⟨P,M⟩,p,h⟩:=br.1 h;cases h;obtain⟨l,n,f1,f2,rfl,rfl,k1,k2⟩:=q o i;obtain⟨E,F,f3,f4,rfl,rfl,k3,k4⟩:=s p k2;exact⟨l++E,F,f1++f3,f4,aD,aD,by simpa[cellsOf]using cv.append k1 k3,k4⟩
theorem aav {v:AV}(h:v.amF f=O):v=.one (.fn f):=by
 unfold AV.amF at h;split at h;rename_i a;have:f=a:=by simpa using h
 subst this;rfl;cases h
theorem aio {v:AV}(h:v.akx=O):v=.bot:=by unfold AV.akx at h;split at h;rfl;cases h
theorem aiq {v:AV}{s a}(h:v.aky s a=O):v=.one (.ptr s a):=by unfold AV.aky at h;split at h;simp only[af,bw]at h;obtain⟨rfl,rfl⟩:=h;rfl;cases h
theorem xS {A:Rg}{w:World}:∀{s:Z PS}{i:Z AV}{a:OH s},uH s i=I a->∀{b:oz},uh A w b i->uh A w b (lh s a)
 |[],[],a,_,b,h=>h
 |[],_::_,_,h,_,_=>by simp[uH]at h
 | .data g e::s,[],_,h,_,_=>by simp[uH]at h
 | .data g e::s,.DZ _::i,_,h,_,_=>by simp[uH]at h
 | .data g e::s,.val n B::i,a,h,b,d=>by
  simp only[uH]at h;cases c:g==n with
  |false=>rw[c]at h;cases h
  |true=>
   rw[c]at h;simp only[ae]at h;have k:g=n:=by simpa using c
   subst k;split at h;rename_i x y;obtain⟨r,l,h⟩:=br.1 h;cases h;cases b with
   |nil=>exact d.elim
   |cons v b=>
    obtain⟨⟨C,o,u⟩,q⟩:=d;obtain⟨z,p,f1,f2,rfl,t,k1,k2⟩:=ana y u;have m:p=[]:=by cases p with|nil=>rfl|cons _ _=>exact k2.elim
    subst m;have j:f1=[]:=by have:=t.symm;simp at this;exact this.1
    subst j;rw[bm]at o;exact⟨⟨z,o,k1⟩,xS l q⟩
   cases h
 | .fn f::s,[],a,h,b,d=>by simp[uH]at h
 | .fn f::s,v::i,a,h,b,d=>by simp only[uH]at h;cases c:v.amF f with|false=>rw[c]at h;cases h|true=>rw[c]at h;have:=aav c;subst this;cases b with|nil=>exact d.elim|cons v b=>exact⟨d.1,xS h d.2⟩
def ZT s Y(F:OH s->aS (xY Y)):JD:={R:=xY Y,fn:=λa=>U (uH s a) F,av:=GK Y}
theorem rC.of {G}(h:rC P f {R:=xY Y,fn:=G,av:=GK Y}){F}(hF:∀a,G (lh s a)=F a):rC P f (ZT s Y F):=by
 intro k y b;simp only[ZT]at b y;cases c:uH s k with
 |none=>rw[c]at b;cases b
 |some a=>
  rw[c]at b;have d:G (lh s a)=I y:=by rw[hF a];exact b
  have e:=h (lh s a) y d;exact⟨e.1,λ_ _ A w j g i=>e.2.1 rfl rfl A w j g (xS c i),λh=>(by cases h),λh=>(by cases h),λh=>(by cases h)⟩
def ab4 s Y a(h:xY a=xY Y)(F:OH s->aS (Bool×xY Y)):JD:=
 {R:=Bool×xY Y,fn:=λb=>U (uH s b) F,av:=λy=>GK Y y.2,sel:=λy=>y.1,alt:=λy=>GK a (cast h.symm y.2)}
theorem rC.ofAlt {c h2 G}(h:rC P f {R:=Bool×xY Y,fn:=G,av:=λy=>GK Y y.2,sel:=λy=>y.1,alt:=λy=>GK c (cast h2.symm y.2)}){F}(hF:∀a,G (lh s a)=F a):rC P f (ab4 s Y c h2 F):=by
 intro l y b;simp only[ab4]at b y;cases d:uH s l with
 |none=>rw[d]at b;cases b
 |some a=>
  rw[d]at b;have e:G (lh s a)=I y:=by rw[hF a];exact b
  have g:=h (lh s a) y e;exact⟨g.1,λ_ _ A w k i j=>g.2.1 rfl rfl A w k i (xS d j),λh=>(by cases h),λh=>(by cases h),λh=>(by cases h)⟩
def as0 (t:CT)(c:Bool)s Y(F:t.D->OH s->aS (xY Y×t.D)):JD:=
 {R:=xY Y×t.D,fn:=λd=>match d with
  | .val g b::a=>bif c==g then(match mC t b with|some (x,[])=>U (uH s a) (F x)|_=>W) else W
  |_=>W,av:=λy=>GK Y y.1,io:=true,back:=λy=>cellsOf t (.own W) y.2}
theorem rC.aBp {t j G}(h:rC P f {R:=xY Y×t.D,fn:=G,av:=λy=>GK Y y.1,io:=true,back:=λy=>cellsOf t (.own W) y.2}){F}(hF:∀x a,G (.val j (cellsOf t (.own W) x)::lh s a)=F x a):rC P f (as0 t j s Y F):=by
 intro xs y b;simp only[as0]at b y;split at b;rename_i g Z n;cases v:(j==g)with
 |false=>rw[v]at b;cases b
 |true=>
  rw[v]at b;have:j=g:=by simpa using v
  subst this;simp only[ae]at b;split at b;rename_i x T;cases o:uH s n with
  |none=>rw[o]at b;cases b
  |some a=>
   rw[o]at b;have B:G (.val j (cellsOf t (.own W) x)::lh s a)=I y:=by rw[hF x a];exact b
   have C:=h _ y B;refine⟨C.1,λh=>(by cases h),λ_ g0 H U N A w V X E J K i S Q p=>?_,λh=>(by cases h),λh=>(by cases h)⟩;injection N with e q;injection e with e r;subst e;subst q;subst r;refine C.2.2.1 rfl j (cellsOf t (.own W) x) (lh s a) rfl A w V X E J K ?_ S Q (xS o p);obtain⟨k,L,i⟩:=i;obtain⟨f1,f2,rfl,m,d⟩:=xT i T;have l:k.drop t.size=[]:=by cases M:k.drop t.size with|nil=>rfl|cons _ _=>rw[M]at d;exact d.elim
   rw[l]at d;have u:f2=[]:=d;subst u;have z:k.take t.size=k:=by have:=cH t.size k;rw[l,bm]at this;exact this
   rw[z]at m;rw[bm];exact⟨k,L,Cg (c:=gZ A E w) m⟩
  cases b
 cases b
def FT.Qq:FT->Bool
 | .sl .arg _=>O
 | .sl .arv _=>O
 | .sl _ _=>G
 | .pair a b=>a.Qq&&b.Qq
 |_=>O
theorem MC:∀{t:FT},t.Qq=O->∀x:t.ct.D,(lY t x).all AC.Qq=O
 | .int _,_,_=>rfl
 | .bool,_,_=>rfl
 | .str,_,_=>rfl
 | .sl c e,h,_=>by cases c<;>first|rfl|cases h
 | .pair a b,h,x=>by simp only[FT.Qq,af]at h;simp only[lY,List.all_append,af];exact⟨MC h.1 x.1,MC h.2 x.2⟩
def ao5 (t:FT)s Y(F:t.ct.D->OH s->aS (xY Y×t.ct.D)):JD:=
 {R:=xY Y×t.ct.D,fn:=λc=>match c with
  | .val O b::a=>(match Vz t b with|some (x,[])=>U (uH s a) (F x)|_=>W)
  |_=>W,av:=λy=>GK Y y.1,back:=λy=>lY t y.2,bx:=true,cur:=t.Qq,hcur:=λh y=>MC h y.2}
theorem rC.auP {t G}(h:rC P f {R:=xY Y×t.ct.D,fn:=G,av:=λy=>GK Y y.1,back:=λy=>lY t y.2,bx:=true}){F}(hF:∀x a,G (.val O (lY t x)::lh s a)=F x a):rC P f (ao5 t s Y F):=by
 intro U y c;simp only[ao5]at c y;split at c;rename_i S g;split at c;rename_i x M;cases j:uH s g with
 |none=>rw[j]at c;cases c
 |some a=>
  rw[j]at c;have r:G (.val O (lY t x)::lh s a)=I y:=by rw[hF x a];exact c
  have e:=F1 M;rw[bm]at e;have u:=h _ y r;refine⟨u.1,λ_ h=>(by cases h),λh=>(by cases h),λ_ v N E A w b Q i T B L z C l K d J p H q k=>?_,λh=>(by cases h)⟩;injection E with m n;injection m with _ o;subst n;subst o;rw[e]at d;exact u.2.2.2.1 rfl (lY t x) (lh s a) rfl A w b Q i T B L z C l K d J p H q (xS j k)
 cases c;cases c
def ao6 (t:FT)s(F:OH s->aS t.ct.D):JD:=
 {R:=t.ct.D,fn:=λa=>U (uH s a) F,av:=λ_=> .bot,back:=λy=>lY t y,pr:=true}
theorem rC.auQ {t G}(h:rC P f {R:=t.ct.D,fn:=G,av:=λ_=> .bot,back:=λy=>lY t y,pr:=true}){F}(hF:∀a,G (lh s a)=F a):rC P f (ao6 t s F):=by
 intro l y b;simp only[ao6]at b y;cases c:uH s l with
 |none=>rw[c]at b;cases b
 |some a=>
  rw[c]at b;have i:G (lh s a)=I y:=by rw[hF a];exact b
  have e:=h _ y i;exact⟨e.1,λk h2 A w j d g=>e.2.1 k h2 A w j d (xS c g),λh=>(by cases h),λh=>(by cases h),λ_ A w j d g=>e.2.2.2.2 rfl A w j d (xS c g)⟩
theorem aaE {R b:Type}{a:gw}{B:AS->(Ex->AS->aS R)->aS R}{K:Ex->AS->aS R}(enc:b->AS)(T:(b->aS R)->b->aS R)
 (h:∀m x,GF a B (m+1) (enc x) K=T (λy=>GF a B m (enc y) K) x):∀m x,GF a B m (enc x) K=aQ T m x
 |0,_=>rfl
 |m+1,x=>by rw[h m x];have:(λy=>GF a B m (enc y) K)=aQ T m:=funext λy=>aaE enc T h m y;rw[this];rfl
theorem Ai:∀{l:Z PD}{b:Z AV}{x:LG l},nE l b=I x->b=Aj l x
 |[],[],_,_=>rfl
 |[],_::_,_,h=>by simp[nE]at h
 | .data g t::l,[],_,h=>by simp[nE]at h
 | .data g t::l,.DZ _::b,_,h=>by simp[nE]at h
 | .data g t::l,.val e m::b,x,h=>by
  simp only[nE]at h;cases a:g==e with
  |false=>rw[a]at h;cases h
  |true=>
   rw[a]at h;simp only[ae]at h;have d:g=e:=by simpa using a
   subst d;split at h;rename_i y k;obtain⟨r,j,h⟩:=br.1 h;cases h;have i:=F1 k;rw[bm]at i;rw[Aj,i,Ai j];cases h
 | .bot::l,[],x,h=>by simp[nE]at h
 | .ptr s c::l,[],x,h=>by simp[nE]at h
 | .fn f::l,[],x,h=>by simp[nE]at h
 | .bot::l,v::b,x,h=>by simp only[nE]at h;cases a:v.akx with|false=>rw[a]at h;cases h|true=>rw[a]at h;rw[aio a,Aj,Ai (l:=l) h]
 | .ptr s c::l,v::b,x,h=>by simp only[nE]at h;cases a:v.aky s c with|false=>rw[a]at h;cases h|true=>rw[a]at h;rw[aiq a,Aj,Ai (l:=l) h]
 | .fn f::l,v::b,x,h=>by simp only[nE]at h;cases a:v.amF f with|false=>rw[a]at h;cases h|true=>rw[a]at h;rw[aav a,Aj,Ai (l:=l) h]
theorem JH:∀{l:Z (aS FT)}{bs:Z (aS (Z AC))}{x:K0 l},xB l bs=I x->bs=Kd l x
 |[],[],_,_=>rfl
 |[],_::_,_,h=>by simp[xB]at h
 |some t::l,[],_,h=>by simp[xB]at h
 |none::l,[],_,h=>by simp[xB]at h
 |some t::l,W::bs,_,h=>by simp[xB]at h
 |none::l,I _::bs,_,h=>by simp[xB]at h
 |none::l,W::bs,x,h=>by simp only[xB]at h;rw[Kd,JH h]
 |some t::l,I d::bs,x,h=>by simp only[xB]at h;split at h;rename_i y c;obtain⟨r,b,h⟩:=br.1 h;cases h;have a:=F1 c;rw[bm]at a;rw[Kd,a,JH b];cases h
theorem ahv:∀{o:IoD}{a:Z AC}{x:ioD o},adW o a=I x->a=ao4 o x
 | .none,[],_,_=>rfl
 | .none,_::_,_,h=>by simp[adW]at h
 | .ptr,a,x,h=>by simp only[adW]at h;cases b:aip a with|false=>rw[b]at h;cases h|true=>unfold aip at b;split at b;rfl;cases b
 | .some t,a,x,h=>by simp only[adW]at h;split at h;rename_i y d;cases h;have c:=F1 d;rw[bm]at c;rw[ao4,c];cases h
theorem SD.adX {d:SD}{b x}(h:d.dec b=I x):b=d.enc x:=by unfold SD.dec at h;cases a:(b.ep==0&&b.iss==List.replicate d.slots.length G)with|false=>rw[a]at h;cases h|true=>rw[a]at h;simp only[ae]at h;obtain⟨y,f,h⟩:=br.1 h;obtain⟨z,g,h⟩:=br.1 h;obtain⟨u,e,h⟩:=br.1 h;cases h;simp only[af,bw]at a;cases b with|mk c boxes j i io=>simp only at a f g e;obtain⟨rfl,rfl⟩:=a;rw[Ai f,JH g,ahv e];rfl
theorem lok {E e a d c}l(f:d (fG c)=l)n(g:∀(R:Type)(x:l.sd.D)(K:Ex->AS->aS R),l.run x K=GF (a.mask (fG c)) (den E e a d c) n (l.sd.enc x) K):LOk E e a d c:=by refine⟨n,λR i K r h=>?_⟩;rw[f]at h;unfold VL.go at h;cases b:l.sd.dec i with|none=>rw[b]at h;cases h|some x=>rw[b]at h;rw[SD.adX b,<-g];exact h
theorem cok {E g a f c}l(i:f (Ef c)=l)(j:∀(R:Type)(x:l.sd.D)(K:Ex->AS->aS R),l.run x K=den E g a f c (l.sd.enc x) (λe d=>K e (d.mask (a.mask (Ef c+1))))):COk E g a f c:=by intro R k K r h;rw[i]at h;unfold VL.go at h;cases b:l.sd.dec k with|none=>rw[b]at h;cases h|some x=>rw[b]at h;rw[SD.adX b,<-j];exact h
end Go.Dn
