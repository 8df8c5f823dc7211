import Derived.Test.YtbebkmajekhclaaGreatDnLaw
/- Functions by the data that they take; loops by the data that they keep. -/
namespace Go.Dn
variable {v:AV} {f:Nat} {P:Program} {rs:aw (Bool×FT)}
inductive PS where
 |data (g:Bool) (t:CT)|fn (f:Nat)
variable {s:aw PS}
abbrev C7:aw PS->Type
 |[]=>Unit
 | .data _ t::r=>t.D×C7 r
 | .fn _::r=>C7 r
def ux:(t:CT)->aw AC->ay (t.D×aw AC)
 | .int k,.int k' n::r=>if k'=k then some (n,r) else none
 | .bool,.bool b::r=>some (b,r)
 | .str,.str s::r=>some (s,r)
 | .sl e,.sl (.arg false) e' xs::r=>if h:e'=e then some (h▸xs,r) else none
 | .sl _,.kh::r=>some ([],r)
 | .pair a b,cs=>(ux a cs).bind λx=>(ux b x.2).bind λy=>some ((x.1,y.1),y.2)
 |_,_=>none
def oE:(s:aw PS)->aw AV->ay (C7 s)
 |[],[]=>some ()
 | .data g e::s,.val g' cs::xs=>bif g==g' then
  (match ux e cs with
   |some (x,[])=>(oE s xs).bind λr=>some (x,r)
   |_=>none) else none
 | .fn f::s,v::xs=>bif v.afy f then oE s xs else none
 |_,_=>none
def mm:(s:aw PS)->C7 s->aw AV
 |[],_=>[]
 | .data g e::s,a=> .val g (cellsOf e (.arg false) a.1)::mm s a.2
 | .fn f::s,a=> .one (.fn f)::mm s a
theorem afZ {A:Rg}{hw:Nat->Nat}{w:World}:∀{t:CT}{cs r:aw AC}{x:t.D},ux t cs=some (x,r)->∀{vs:jd}{fp:fE},bO (gr A hw w) vs cs fp-> ∃v1 v2 f1 f2,vs=v1++v2/\fp=f1++f2/\bO (gr A hw w) v1 (cellsOf t (.arg false) x) f1/\bO (gr A hw w) v2 r f2:=by
 intro t
 have one:∀{y:AC}{ys:aw AC}{vs:jd}{fp:fE}{z:AC},bO (gr A hw w) vs (y::ys) fp->(∀v f,iq (gr A hw w) v y f->iq (gr A hw w) v z f)->
  ∃v1 v2 f1 f2,vs=v1++v2/\fp=f1++f2/\bO (gr A hw w) v1 [z] f1/\bO (gr A hw w) v2 ys f2:=by
  intro y ys vs fp z h hz
  cases vs with
  |nil=>exact h.elim
  |cons v vs=>
   obtain⟨f1,f2,rfl,h1,h2⟩:=h
   exact⟨[v],vs,f1,f2,rfl,rfl,⟨f1,[],by simp,hz v f1 h1,rfl⟩,h2⟩
 induction t with
 |int k=>intro cs r x h vs fp hr;cases cs with|nil=>simp[ux]at h|cons y ys=>cases y<;>simp[ux]at h;obtain⟨rfl,rfl,rfl⟩:=h;exact one hr λv f h=>h
 |bool=>intro cs r x h vs fp hr;cases cs with|nil=>simp[ux]at h|cons y ys=>cases y<;>simp[ux]at h;obtain⟨rfl,rfl⟩:=h;exact one hr λv f h=>h
 |str=>intro cs r x h vs fp hr;cases cs with|nil=>simp[ux]at h|cons y ys=>cases y<;>simp[ux]at h;obtain⟨rfl,rfl⟩:=h;exact one hr λv f h=>h
 |sl e _=>
  intro cs r x h vs fp hr;cases cs with
  |nil=>simp[ux]at h
  |cons y ys=>
   cases y with
   |sl fl e' xs=>
    cases fl with
    |arg k=>cases k with|true=>simp[ux]at h|false=>simp only[ux]at h;split at h;rename_i he;subst he;cases h;exact one hr λv f h=>h;cases h
    |own t=>simp[ux]at h
    |nest _ _ _ _ _ _=>simp[ux]at h
    |part _ _ _ _=>simp[ux]at h
    |fR _ _ _=>simp[ux]at h
    |loc ep pv=>simp[ux]at h
   |kh=>simp[ux]at h;obtain⟨rfl,rfl⟩:=h;refine one hr λv f h=>?_;obtain⟨rfl,rfl⟩:=h;exact⟨rfl,_,rfl,.inl ⟨⟨none,rfl⟩,rfl⟩⟩
   |_=>simp[ux]at h
 |pair a b iha ihb=>intro cs r x h vs fp hr;simp only[ux]at h;obtain⟨⟨x1,r1⟩,h1,h⟩:=aS.1 h;obtain⟨⟨x2,r2⟩,h2,h⟩:=aS.1 h;cases h;obtain⟨v1,v2,f1,f2,rfl,rfl,k1,k2⟩:=iha h1 hr;obtain⟨v3,v4,f3,f4,rfl,rfl,k3,k4⟩:=ihb h2 k2;exact⟨v1++v3,v4,f1++f3,f4,by simp,by simp,by simpa[cellsOf]using bO.append k1 k3,k4⟩
theorem Su (h:v.afy f=true):v=.one (.fn f):=by
 unfold AV.afy at h;split at h;rename_i f';have:f=f':=by simpa using h
 subst this;rfl;cases h
theorem abE (h:v.adB=true):v=.bot:=by unfold AV.adB at h;split at h;rfl;cases h
theorem abG {s off:Nat}(h:v.adC s off=true):v=.one (.ptr s off):=by unfold AV.adC at h;split at h;simp only[ae,aZ]at h;obtain⟨rfl,rfl⟩:=h;rfl;cases h
theorem vE {A:Rg}{w:World}:∀{s:aw PS}{xs:aw AV}{a:C7 s},oE s xs=some a->∀{vs:jd},qT A w vs xs->qT A w vs (mm s a)
 |[],[],a,_,vs,h=>h
 |[],_::_,_,h,_,_=>by simp[oE]at h
 | .data g e::s,[],_,h,_,_=>by simp[oE]at h
 | .data g e::s,.xC _::xs,_,h,_,_=>by simp[oE]at h
 | .data g e::s,.val g' cs::xs,a,h,vs,hr=>by
  simp only[oE]at h;cases hg:g==g' with
  |false=>rw[hg]at h;cases h
  |true=>
   rw[hg]at h;simp only[ah]at h;have oX:g=g':=by simpa using hg
   subst oX;split at h;rename_i x hx;obtain⟨r,hr',h⟩:=aS.1 h;cases h;cases vs with
   |nil=>exact hr.elim
   |cons v vs=>
    obtain⟨⟨us,fS,hu⟩,h2⟩:=hr;obtain⟨v1,v2,f1,f2,rfl,hf,k1,k2⟩:=afZ hx hu;have UE:v2=[]:=by cases v2 with|nil=>rfl|cons _ _=>exact k2.elim
    subst UE;have hf1:f1=[]:=by have:=hf.symm;simp at this;exact this.1
    subst hf1;rw[bI]at fS;exact⟨⟨v1,fS,k1⟩,vE hr' h2⟩
   cases h
 | .fn f::s,[],a,h,vs,hr=>by simp[oE]at h
 | .fn f::s,v::xs,a,h,vs,hr=>by simp only[oE]at h;cases hg:v.afy f with|false=>rw[hg]at h;cases h|true=>rw[hg]at h;have:=Su hg;subst this;cases vs with|nil=>exact hr.elim|cons v vs=>exact⟨hr.1,vE h hr.2⟩
def RM (s:aw PS)(rs:aw (Bool×FT))(F:C7 s->ay (ly rs)):kH:={R:=ly rs,fn:=λxs=>aa (oE s xs) F,av:=BD rs}
theorem iJ.of {G:aw AV->ay (ly rs)}(h:iJ P f {R:=ly rs,fn:=G,av:=BD rs}){F:C7 s->ay (ly rs)}(hF:∀a,G (mm s a)=F a):iJ P f (RM s rs F):=by
 intro xs y hy;simp only[RM]at hy y;cases ha:oE s xs with
 |none=>rw[ha]at hy;cases hy
 |some a=>
  rw[ha]at hy;have VN:G (mm s a)=some y:=by rw[hF a];exact hy
  have hh:=h (mm s a) y VN;exact⟨hh.1,λ_ _ A w vs hA hr=>hh.2.1 rfl rfl A w vs hA (vE ha hr),λh=>(by cases h),λh=>(by cases h),λh=>(by cases h)⟩
def FD (s:aw PS)(rs QL:aw (Bool×FT))(h:ly QL=ly rs)(F:C7 s->ay (Bool×ly rs)):kH:=
 {R:=Bool×ly rs,fn:=λxs=>aa (oE s xs) F,av:=λy=>BD rs y.2,sel:=λy=>y.1,alt:=λy=>BD QL (cast h.symm y.2)}
theorem iJ.ofAlt {QL:aw (Bool×FT)}{h2:ly QL=ly rs}{G:aw AV->ay (Bool×ly rs)}(h:iJ P f {R:=Bool×ly rs,fn:=G,av:=λy=>BD rs y.2,sel:=λy=>y.1,alt:=λy=>BD QL (cast h2.symm y.2)}){F:C7 s->ay (Bool×ly rs)}(hF:∀a,G (mm s a)=F a):iJ P f (FD s rs QL h2 F):=by
 intro xs y hy;simp only[FD]at hy y;cases ha:oE s xs with
 |none=>rw[ha]at hy;cases hy
 |some a=>
  rw[ha]at hy;have VN:G (mm s a)=some y:=by rw[hF a];exact hy
  have hh:=h (mm s a) y VN;exact⟨hh.1,λ_ _ A w vs hA hr=>hh.2.1 rfl rfl A w vs hA (vE ha hr),λh=>(by cases h),λh=>(by cases h),λh=>(by cases h)⟩
def ah5 (s:aw PS)(rs:aw (Bool×FT))(F:C7 s->ay (Bool×ly rs)):kH:=
 {R:=Bool×ly rs,fn:=λxs=>aa (oE s xs) λa=>ajo (F a),av:=λy=>BD rs y.2}
theorem iJ.only {QL:aw (Bool×FT)}{h2:ly QL=ly rs}{F:C7 s->ay (Bool×ly rs)}(h:iJ P f (FD s rs QL h2 F)):iJ P f (ah5 s rs F):=by
 intro xs y hy;simp only[ah5]at hy y;cases ha:oE s xs with
 |none=>rw[ha]at hy;cases hy
 |some a=>
  rw[ha]at hy;have hy:ajo (F a)=some y:=hy;unfold ajo at hy;cases hF:F a with
  |none=>rw[hF]at hy;cases hy
  |some r=>
   rw[hF]at hy;cases h1:r.1 with
   |false=>simp only[aa,h1,af]at hy;cases hy
   |true=>
    simp only[aa,h1,ah,bp]at hy;subst hy;have hf:(FD s rs QL h2 F).fn xs=some r:=by show aa (oE s xs) F=some r;rw[ha];exact hF
    have hh:=h xs r hf;have hr:(FD s rs QL h2 F).res r=BD rs r.2:=by show cond r.1 (BD rs r.2) _=_;rw[h1];rfl
    refine⟨hh.1,λ_ _ A w vs hA Q2=>?_,λh=>(by cases h),λh=>(by cases h),λh=>(by cases h)⟩;have q:=hh.2.1 rfl rfl A w vs hA Q2;rw[hr]at q;exact q
def FT.I5:FT->Bool
 | .sl .arg _=>true
 | .sl .As _=>true
 | .sl _ _=>false
 | .pair a b=>a.I5&&b.I5
 |_=>true
theorem Fm:∀{t:FT},t.I5=true->∀x:t.ct.D,(jT t x).all AC.I5=true
 | .int _,_,_=>rfl
 | .bool,_,_=>rfl
 | .str,_,_=>rfl
 | .sl fl e,h,_=>by cases fl<;>first|rfl|cases h
 | .pair a b,h,x=>by simp only[FT.I5,ae]at h;simp only[jT,List.all_append,ae];exact⟨Fm h.1 x.1,Fm h.2 x.2⟩
def ko (t:FT)(s:aw PS)(rs:aw (Bool×FT))(F:t.ct.D->C7 s->ay (ly rs×t.ct.D)):kH:=
 {R:=ly rs×t.ct.D,fn:=λxs=>match xs with
  | .val true cs::rest=>(match NL t cs with|some (x,[])=>aa (oE s rest) (F x)|_=>none)
  |_=>none,av:=λy=>BD rs y.1,back:=λy=>jT t y.2,bx:=true,cur:=t.I5,hcur:=λh y=>Fm h y.2}
theorem iJ.si {t:FT}{G:aw AV->ay (ly rs×t.ct.D)}(h:iJ P f {R:=ly rs×t.ct.D,fn:=G,av:=λy=>BD rs y.1,back:=λy=>jT t y.2,bx:=true}){F:t.ct.D->C7 s->ay (ly rs×t.ct.D)}(hF:∀x a,G (.val true (jT t x)::mm s a)=F x a):iJ P f (ko t s rs F):=by
 intro xs y hy;simp only[ko]at hy y;split at hy;rename_i cs rest;split at hy;rename_i x hx;cases ha:oE s rest with
 |none=>rw[ha]at hy;cases hy
 |some a=>
  rw[ha]at hy;have VN:G (.val true (jT t x)::mm s a)=some y:=by rw[hF x a];exact hy
  have K4:=zL hx;rw[bI]at K4;have hh:=h _ y VN;refine⟨hh.1,λ_ h=>(by cases h),λh=>(by cases h),λ_ RI ara he A w b vs arr T fr hw fp hA kL tN fG hn xH gF IY gE=>?_,λh=>(by cases h)⟩;injection he with he1 he2;injection he1 with _ he3;subst he2;subst he3;rw[K4]at fG;exact hh.2.2.2.1 rfl (jT t x) (mm s a) rfl A w b vs arr T fr hw fp hA kL tN fG hn xH gF IY (vE ha gE)
 cases hy;cases hy
def aaU (t:FT)(s:aw PS)(F:C7 s->ay t.ct.D):kH:=
 {R:=t.ct.D,fn:=λxs=>aa (oE s xs) F,av:=λ_=> .bot,back:=λy=>jT t y,pr:=true}
theorem iJ.aq5 {t:FT}{G:aw AV->ay t.ct.D}(h:iJ P f {R:=t.ct.D,fn:=G,av:=λ_=> .bot,back:=λy=>jT t y,pr:=true}){F:C7 s->ay t.ct.D}(hF:∀a,G (mm s a)=F a):iJ P f (aaU t s F):=by
 intro xs y hy;simp only[aaU]at hy y;cases ha:oE s xs with
 |none=>rw[ha]at hy;cases hy
 |some a=>
  rw[ha]at hy;have VN:G (mm s a)=some y:=by rw[hF a];exact hy
  have hh:=h _ y VN;exact⟨hh.1,λh1 h2 A w vs hA hr=>hh.2.1 h1 h2 A w vs hA (vE ha hr),λh=>(by cases h),λh=>(by cases h),λ_ A w vs hA hr=>hh.2.2.2.2 rfl A w vs hA (vE ha hr)⟩
theorem SA {R σ:Type}{key:fE}{B:AS->(Ex->AS->ay R)->ay R}{K:Ex->AS->ay R}(enc:σ->AS)(T:(σ->ay R)->σ->ay R)
 (h:∀m x,CR key B (m+1) (enc x) K=T (λy=>CR key B m (enc y) K) x):∀m x,CR key B m (enc x) K=bc T m x
 |0,_=>rfl
 |m+1,x=>by rw[h m x];have:(λy=>CR key B m (enc y) K)=bc T m:=funext λy=>SA enc T h m y;rw[this];rfl
theorem ua:∀{l:aw PD}{vs:aw AV}{x:LR l},kA l vs=some x->vs=ub l x
 |[],[],_,_=>rfl
 |[],_::_,_,h=>by simp[kA]at h
 | .data g t::l,[],_,h=>by simp[kA]at h
 | .data g t::l,.xC _::vs,_,h=>by simp[kA]at h
 | .data g t::l,.val g' cs::vs,x,h=>by
  simp only[kA]at h;cases hg:g==g' with
  |false=>rw[hg]at h;cases h
  |true=>
   rw[hg]at h;simp only[ah]at h;have oX:g=g':=by simpa using hg
   subst oX;split at h;rename_i y hy;obtain⟨r,hr,h⟩:=aS.1 h;cases h;have h1:=zL hy;rw[bI]at h1;rw[ub,h1,ua hr];cases h
 | .bot::l,[],x,h=>by simp[kA]at h
 | .ptr s off::l,[],x,h=>by simp[kA]at h
 | .fn f::l,[],x,h=>by simp[kA]at h
 | .bot::l,v::vs,x,h=>by simp only[kA]at h;cases hg:v.adB with|false=>rw[hg]at h;cases h|true=>rw[hg]at h;rw[abE hg,ub,ua (l:=l) h]
 | .ptr s off::l,v::vs,x,h=>by simp only[kA]at h;cases hg:v.adC s off with|false=>rw[hg]at h;cases h|true=>rw[hg]at h;rw[abG hg,ub,ua (l:=l) h]
 | .fn f::l,v::vs,x,h=>by simp only[kA]at h;cases hg:v.afy f with|false=>rw[hg]at h;cases h|true=>rw[hg]at h;rw[Su hg,ub,ua (l:=l) h]
theorem Db:∀{l:aw (ay FT)}{bs:aw (ay (aw AC))}{x:KP l},rK l bs=some x->bs=DA l x
 |[],[],_,_=>rfl
 |[],_::_,_,h=>by simp[rK]at h
 |some t::l,[],_,h=>by simp[rK]at h
 |none::l,[],_,h=>by simp[rK]at h
 |some t::l,none::bs,_,h=>by simp[rK]at h
 |none::l,some _::bs,_,h=>by simp[rK]at h
 |none::l,none::bs,x,h=>by simp only[rK]at h;rw[DA,Db h]
 |some t::l,some cs::bs,x,h=>by simp only[rK]at h;split at h;rename_i y hy;obtain⟨r,hr,h⟩:=aS.1 h;cases h;have h1:=zL hy;rw[bI]at h1;rw[DA,h1,Db hr];cases h
theorem aaQ:∀{o:IoD}{cs:aw AC}{x:ioD o},Wp o cs=some x->cs=ah4 o x
 | .none,[],_,_=>rfl
 | .none,_::_,_,h=>by simp[Wp]at h
 | .ptr,cs,x,h=>by simp only[Wp]at h;cases hp:abF cs with|false=>rw[hp]at h;cases h|true=>unfold abF at hp;split at hp;rfl;cases hp
 | .some t,cs,x,h=>by simp only[Wp]at h;split at h;rename_i y hy;cases h;have h1:=zL hy;rw[bI]at h1;rw[ah4,h1];cases h
theorem SD.Wq {d:SD}{st:AS}{x:d.D}(h:d.dec st=some x):st=d.enc x:=by unfold SD.dec at h;cases hc:(st.ep==0&&st.iss==List.replicate d.slots.length false)with|false=>rw[hc]at h;cases h|true=>rw[hc]at h;simp only[ah]at h;obtain⟨y,hy,h⟩:=aS.1 h;obtain⟨z,hz,h⟩:=aS.1 h;obtain⟨u,hu,h⟩:=aS.1 h;cases h;simp only[ae,aZ]at hc;cases st with|mk slots boxes ep iss io=>simp only at hc hy hz hu;obtain⟨rfl,rfl⟩:=hc;rw[ua hy,Db hz,aaQ hu];rfl
theorem lok {E:Env}{Γ:BA}{an:An}{Λ:jZ}{c:Code}(l:KL)(h1:Λ (eT c)=l)(n:Nat)(h2:∀(R:Type)(x:l.sd.D)(K:Ex->AS->ay R),l.run x K=CR (an.mask (eT c)) (den E Γ an Λ c) n (l.sd.enc x) K):tE E Γ an Λ c:=by refine⟨n,λR st K r h=>?_⟩;rw[h1]at h;unfold KL.go at h;cases hd:l.sd.dec st with|none=>rw[hd]at h;cases h|some x=>rw[hd]at h;rw[SD.Wq hd,<-h2];exact h
theorem cok {E:Env}{Γ:BA}{an:An}{Λ:jZ}{c:Code}(l:KL)(h1:Λ (Fs c)=l)(h2:∀(R:Type)(x:l.sd.D)(K:Ex->AS->ay R),l.run x K=den E Γ an Λ c (l.sd.enc x) (λe bU=>K e (bU.mask (an.mask (Fs c+1))))):QI E Γ an Λ c:=by intro R st K r h;rw[h1]at h;unfold KL.go at h;cases hd:l.sd.dec st with|none=>rw[hd]at h;cases h|some x=>rw[hd]at h;rw[SD.Wq hd,<-h2];exact h
end Go.Dn
