import Derived.Test.YtnmppgnbjfdffaaGreatDnLaw
/- Functions by the data that they take; loops by the data that they keep. -/
namespace Go.Dn
variable {v:AV} {f:Nat} {P:Program} {rs:ay (Bool×FT)}
inductive PS where
 |data (g:Bool) (t:CT)|fn (f:Nat)
variable {s:ay PS}
abbrev Bu:ay PS->Type
 |[]=>Unit
 | .data _ t::r=>t.D×Bu r
 | .fn _::r=>Bu r
def td:(t:CT)->ay AC->aC (t.D×ay AC)
 | .int k,.int k' n::r=>if k'=k then some (n,r) else none
 | .bool,.bool b::r=>some (b,r)
 | .str,.str s::r=>some (s,r)
 | .sl e,.sl (.arg false) e' xs::r=>if h:e'=e then some (h▸xs,r) else none
 | .sl _,.kx::r=>some ([],r)
 | .pair a b,cs=>(td a cs).bind λx=>(td b x.2).bind λy=>some ((x.1,y.1),y.2)
 |_,_=>none
def oc:(s:ay PS)->ay AV->aC (Bu s)
 |[],[]=>some ()
 | .data g e::s,.val g' cs::xs=>bif g==g' then
  (match td e cs with
   |some (x,[])=>(oc s xs).bind λr=>some (x,r)
   |_=>none) else none
 | .fn f::s,v::xs=>bif v.abl f then oc s xs else none
 |_,_=>none
def me:(s:ay PS)->Bu s->ay AV
 |[],_=>[]
 | .data g e::s,a=> .val g (cellsOf e (.arg false) a.1)::me s a.2
 | .fn f::s,a=> .one (.fn f)::me s a
theorem abS {A:Rg}{hw:Nat->Nat}{w:World}:∀{t:CT}{cs r:ay AC}{x:t.D},td t cs=some (x,r)->∀{vs:jz}{fp:fR},bR (gC A hw w) vs cs fp-> ∃v1 v2 f1 f2,vs=v1++v2/\fp=f1++f2/\bR (gC A hw w) v1 (cellsOf t (.arg false) x) f1/\bR (gC A hw w) v2 r f2:=by
 intro t
 have one:∀{y:AC}{ys:ay AC}{vs:jz}{fp:fR}{z:AC},bR (gC A hw w) vs (y::ys) fp->(∀v f,iI (gC A hw w) v y f->iI (gC A hw w) v z f)->
  ∃v1 v2 f1 f2,vs=v1++v2/\fp=f1++f2/\bR (gC A hw w) v1 [z] f1/\bR (gC A hw w) v2 ys f2:=by
  intro y ys vs fp z h hz
  cases vs with
  |nil=>exact h.elim
  |cons v vs=>
   obtain⟨f1,f2,rfl,h1,h2⟩:=h
   exact⟨[v],vs,f1,f2,rfl,rfl,⟨f1,[],by simp,hz v f1 h1,rfl⟩,h2⟩
 induction t with
 |int k=>intro cs r x h vs fp hr;cases cs with|nil=>simp[td]at h|cons y ys=>cases y<;>simp[td]at h;obtain⟨rfl,rfl,rfl⟩:=h;exact one hr λv f h=>h
 |bool=>intro cs r x h vs fp hr;cases cs with|nil=>simp[td]at h|cons y ys=>cases y<;>simp[td]at h;obtain⟨rfl,rfl⟩:=h;exact one hr λv f h=>h
 |str=>intro cs r x h vs fp hr;cases cs with|nil=>simp[td]at h|cons y ys=>cases y<;>simp[td]at h;obtain⟨rfl,rfl⟩:=h;exact one hr λv f h=>h
 |sl e _=>
  intro cs r x h vs fp hr;cases cs with
  |nil=>simp[td]at h
  |cons y ys=>
   cases y with
   |sl fl e' xs=>
    cases fl with
    |arg k=>cases k with|true=>simp[td]at h|false=>simp only[td]at h;split at h;rename_i he;subst he;cases h;exact one hr λv f h=>h;cases h
    |own t=>simp[td]at h
    |nest _ _ _ _ _ _=>simp[td]at h
    |part _ _ _ _=>simp[td]at h
    |gj _ _ _=>simp[td]at h
    |loc ep pv=>simp[td]at h
   |kx=>simp[td]at h;obtain⟨rfl,rfl⟩:=h;refine one hr λv f h=>?_;obtain⟨rfl,rfl⟩:=h;exact⟨rfl,_,rfl,.inl ⟨⟨none,rfl⟩,rfl⟩⟩
   |_=>simp[td]at h
 |pair a b iha ihb=>intro cs r x h vs fp hr;simp only[td]at h;obtain⟨⟨x1,r1⟩,h1,h⟩:=aW.1 h;obtain⟨⟨x2,r2⟩,h2,h⟩:=aW.1 h;cases h;obtain⟨v1,v2,f1,f2,rfl,rfl,k1,k2⟩:=iha h1 hr;obtain⟨v3,v4,f3,f4,rfl,rfl,k3,k4⟩:=ihb h2 k2;exact⟨v1++v3,v4,f1++f3,f4,by simp,by simp,by simpa[cellsOf]using bR.append k1 k3,k4⟩
theorem PV (h:v.abl f=true):v=.one (.fn f):=by
 unfold AV.abl at h;split at h;rename_i f';have:f=f':=by simpa using h
 subst this;rfl;cases h
theorem XF (h:v.ZJ=true):v=.bot:=by unfold AV.ZJ at h;split at h;rfl;cases h
theorem XH {s off:Nat}(h:v.ZK s off=true):v=.one (.ptr s off):=by unfold AV.ZK at h;split at h;simp only[ab,bm]at h;obtain⟨rfl,rfl⟩:=h;rfl;cases h
theorem uf {A:Rg}{w:World}:∀{s:ay PS}{xs:ay AV}{a:Bu s},oc s xs=some a->∀{vs:jz},qj A w vs xs->qj A w vs (me s a)
 |[],[],a,_,vs,h=>h
 |[],_::_,_,h,_,_=>by simp[oc]at h
 | .data g e::s,[],_,h,_,_=>by simp[oc]at h
 | .data g e::s,.wh _::xs,_,h,_,_=>by simp[oc]at h
 | .data g e::s,.val g' cs::xs,a,h,vs,hr=>by
  simp only[oc]at h;cases hg:g==g' with
  |false=>rw[hg]at h;cases h
  |true=>
   rw[hg]at h;simp only[ah]at h;have oB:g=g':=by simpa using hg
   subst oB;split at h;rename_i x hx;obtain⟨r,hr',h⟩:=aW.1 h;cases h;cases vs with
   |nil=>exact hr.elim
   |cons v vs=>
    obtain⟨⟨us,gm,hu⟩,h2⟩:=hr;obtain⟨v1,v2,f1,f2,rfl,hf,k1,k2⟩:=abS hx hu;have RQ:v2=[]:=by cases v2 with|nil=>rfl|cons _ _=>exact k2.elim
    subst RQ;have hf1:f1=[]:=by have:=hf.symm;simp at this;exact this.1
    subst hf1;rw[bA]at gm;exact⟨⟨v1,gm,k1⟩,uf hr' h2⟩
   cases h
 | .fn f::s,[],a,h,vs,hr=>by simp[oc]at h
 | .fn f::s,v::xs,a,h,vs,hr=>by simp only[oc]at h;cases hg:v.abl f with|false=>rw[hg]at h;cases h|true=>rw[hg]at h;have:=PV hg;subst this;cases vs with|nil=>exact hr.elim|cons v vs=>exact⟨hr.1,uf h hr.2⟩
def Pm (s:ay PS)(rs:ay (Bool×FT))(F:Bu s->aC (lB rs)):kH:={R:=lB rs,fn:=λxs=>aa (oc s xs) F,av:=zR rs}
theorem iW.of {G:ay AV->aC (lB rs)}(h:iW P f {R:=lB rs,fn:=G,av:=zR rs}){F:Bu s->aC (lB rs)}(hF:∀a,G (me s a)=F a):iW P f (Pm s rs F):=by
 intro xs y hy;simp only[Pm]at hy y;cases ha:oc s xs with
 |none=>rw[ha]at hy;cases hy
 |some a=>
  rw[ha]at hy;have SR:G (me s a)=some y:=by rw[hF a];exact hy
  have hh:=h (me s a) y SR;exact⟨hh.1,λ_ _ A w vs hA hr=>hh.2.1 rfl rfl A w vs hA (uf ha hr),λh=>(by cases h),λh=>(by cases h),λh=>(by cases h)⟩
def DW (s:ay PS)(rs Oc:ay (Bool×FT))(h:lB Oc=lB rs)(F:Bu s->aC (Bool×lB rs)):kH:=
 {R:=Bool×lB rs,fn:=λxs=>aa (oc s xs) F,av:=λy=>zR rs y.2,sel:=λy=>y.1,alt:=λy=>zR Oc (cast h.symm y.2)}
theorem iW.ofAlt {Oc:ay (Bool×FT)}{h2:lB Oc=lB rs}{G:ay AV->aC (Bool×lB rs)}(h:iW P f {R:=Bool×lB rs,fn:=G,av:=λy=>zR rs y.2,sel:=λy=>y.1,alt:=λy=>zR Oc (cast h2.symm y.2)}){F:Bu s->aC (Bool×lB rs)}(hF:∀a,G (me s a)=F a):iW P f (DW s rs Oc h2 F):=by
 intro xs y hy;simp only[DW]at hy y;cases ha:oc s xs with
 |none=>rw[ha]at hy;cases hy
 |some a=>
  rw[ha]at hy;have SR:G (me s a)=some y:=by rw[hF a];exact hy
  have hh:=h (me s a) y SR;exact⟨hh.1,λ_ _ A w vs hA hr=>hh.2.1 rfl rfl A w vs hA (uf ha hr),λh=>(by cases h),λh=>(by cases h),λh=>(by cases h)⟩
def adW (s:ay PS)(rs:ay (Bool×FT))(F:Bu s->aC (Bool×lB rs)):kH:=
 {R:=Bool×lB rs,fn:=λxs=>aa (oc s xs) λa=>ae3 (F a),av:=λy=>zR rs y.2}
theorem iW.only {Oc:ay (Bool×FT)}{h2:lB Oc=lB rs}{F:Bu s->aC (Bool×lB rs)}(h:iW P f (DW s rs Oc h2 F)):iW P f (adW s rs F):=by
 intro xs y hy;simp only[adW]at hy y;cases ha:oc s xs with
 |none=>rw[ha]at hy;cases hy
 |some a=>
  rw[ha]at hy;have hy:ae3 (F a)=some y:=hy;unfold ae3 at hy;cases hF:F a with
  |none=>rw[hF]at hy;cases hy
  |some r=>
   rw[hF]at hy;cases h1:r.1 with
   |false=>simp only[aa,h1,af]at hy;cases hy
   |true=>
    simp only[aa,h1,ah,bu]at hy;subst hy;have hf:(DW s rs Oc h2 F).fn xs=some r:=by show aa (oc s xs) F=some r;rw[ha];exact hF
    have hh:=h xs r hf;have hr:(DW s rs Oc h2 F).res r=zR rs r.2:=by show cond r.1 (zR rs r.2) _=_;rw[h1];rfl
    refine⟨hh.1,λ_ _ A w vs hA Ow=>?_,λh=>(by cases h),λh=>(by cases h),λh=>(by cases h)⟩;have q:=hh.2.1 rfl rfl A w vs hA Ow;rw[hr]at q;exact q
def FT.GY:FT->Bool
 | .sl .arg _=>true
 | .sl .ye _=>true
 | .sl _ _=>false
 | .pair a b=>a.GY&&b.GY
 |_=>true
theorem DL:∀{t:FT},t.GY=true->∀x:t.ct.D,(jZ t x).all AC.GY=true
 | .int _,_,_=>rfl
 | .bool,_,_=>rfl
 | .str,_,_=>rfl
 | .sl fl e,h,_=>by cases fl<;>first|rfl|cases h
 | .pair a b,h,x=>by simp only[FT.GY,ab]at h;simp only[jZ,List.all_append,ab];exact⟨DL h.1 x.1,DL h.2 x.2⟩
def ka (t:FT)(s:ay PS)(rs:ay (Bool×FT))(F:t.ct.D->Bu s->aC (lB rs×t.ct.D)):kH:=
 {R:=lB rs×t.ct.D,fn:=λxs=>match xs with
  | .val true cs::rest=>(match Ll t cs with|some (x,[])=>aa (oc s rest) (F x)|_=>none)
  |_=>none,av:=λy=>zR rs y.1,back:=λy=>jZ t y.2,bx:=true,cur:=t.GY,hcur:=λh y=>DL h y.2}
theorem iW.qA {t:FT}{G:ay AV->aC (lB rs×t.ct.D)}(h:iW P f {R:=lB rs×t.ct.D,fn:=G,av:=λy=>zR rs y.1,back:=λy=>jZ t y.2,bx:=true}){F:t.ct.D->Bu s->aC (lB rs×t.ct.D)}(hF:∀x a,G (.val true (jZ t x)::me s a)=F x a):iW P f (ka t s rs F):=by
 intro xs y hy;simp only[ka]at hy y;split at hy;rename_i cs rest;split at hy;rename_i x hx;cases ha:oc s rest with
 |none=>rw[ha]at hy;cases hy
 |some a=>
  rw[ha]at hy;have SR:G (.val true (jZ t x)::me s a)=some y:=by rw[hF x a];exact hy
  have IY:=xV hx;rw[bA]at IY;have hh:=h _ y SR;refine⟨hh.1,λ_ h=>(by cases h),λh=>(by cases h),λ_ Pe alX he A w b vs arr T fr hw fp hA kU sE fJ hn wA ir GS gP=>?_,λh=>(by cases h)⟩;injection he with he1 he2;injection he1 with _ he3;subst he2;subst he3;rw[IY]at fJ;exact hh.2.2.2.1 rfl (jZ t x) (me s a) rfl A w b vs arr T fr hw fp hA kU sE fJ hn wA ir GS (uf ha gP)
 cases hy;cases hy
def WY (t:FT)(s:ay PS)(F:Bu s->aC t.ct.D):kH:=
 {R:=t.ct.D,fn:=λxs=>aa (oc s xs) F,av:=λ_=> .bot,back:=λy=>jZ t y,pr:=true}
theorem iW.alV {t:FT}{G:ay AV->aC t.ct.D}(h:iW P f {R:=t.ct.D,fn:=G,av:=λ_=> .bot,back:=λy=>jZ t y,pr:=true}){F:Bu s->aC t.ct.D}(hF:∀a,G (me s a)=F a):iW P f (WY t s F):=by
 intro xs y hy;simp only[WY]at hy y;cases ha:oc s xs with
 |none=>rw[ha]at hy;cases hy
 |some a=>
  rw[ha]at hy;have SR:G (me s a)=some y:=by rw[hF a];exact hy
  have hh:=h _ y SR;exact⟨hh.1,λh1 h2 A w vs hA hr=>hh.2.1 h1 h2 A w vs hA (uf ha hr),λh=>(by cases h),λh=>(by cases h),λ_ A w vs hA hr=>hh.2.2.2.2 rfl A w vs hA (uf ha hr)⟩
theorem P3 {R σ:Type}{key:fR}{B:AS->(Ex->AS->aC R)->aC R}{K:Ex->AS->aC R}(enc:σ->AS)(T:(σ->aC R)->σ->aC R)
 (h:∀m x,Bg key B (m+1) (enc x) K=T (λy=>Bg key B m (enc y) K) x):∀m x,Bg key B m (enc x) K=bt T m x
 |0,_=>rfl
 |m+1,x=>by rw[h m x];have:(λy=>Bg key B m (enc y) K)=bt T m:=funext λy=>P3 enc T h m y;rw[this];rfl
theorem sJ:∀{l:ay PD}{vs:ay AV}{x:JD l},kJ l vs=some x->vs=sK l x
 |[],[],_,_=>rfl
 |[],_::_,_,h=>by simp[kJ]at h
 | .data g t::l,[],_,h=>by simp[kJ]at h
 | .data g t::l,.wh _::vs,_,h=>by simp[kJ]at h
 | .data g t::l,.val g' cs::vs,x,h=>by
  simp only[kJ]at h;cases hg:g==g' with
  |false=>rw[hg]at h;cases h
  |true=>
   rw[hg]at h;simp only[ah]at h;have oB:g=g':=by simpa using hg
   subst oB;split at h;rename_i y hy;obtain⟨r,hr,h⟩:=aW.1 h;cases h;have h1:=xV hy;rw[bA]at h1;rw[sK,h1,sJ hr];cases h
 | .bot::l,[],x,h=>by simp[kJ]at h
 | .ptr s off::l,[],x,h=>by simp[kJ]at h
 | .fn f::l,[],x,h=>by simp[kJ]at h
 | .bot::l,v::vs,x,h=>by simp only[kJ]at h;cases hg:v.ZJ with|false=>rw[hg]at h;cases h|true=>rw[hg]at h;rw[XF hg,sK,sJ (l:=l) h]
 | .ptr s off::l,v::vs,x,h=>by simp only[kJ]at h;cases hg:v.ZK s off with|false=>rw[hg]at h;cases h|true=>rw[hg]at h;rw[XH hg,sK,sJ (l:=l) h]
 | .fn f::l,v::vs,x,h=>by simp only[kJ]at h;cases hg:v.abl f with|false=>rw[hg]at h;cases h|true=>rw[hg]at h;rw[PV hg,sK,sJ (l:=l) h]
theorem Bz:∀{l:ay (aC FT)}{bs:ay (aC (ay AC))}{x:IH l},qP l bs=some x->bs=BU l x
 |[],[],_,_=>rfl
 |[],_::_,_,h=>by simp[qP]at h
 |some t::l,[],_,h=>by simp[qP]at h
 |none::l,[],_,h=>by simp[qP]at h
 |some t::l,none::bs,_,h=>by simp[qP]at h
 |none::l,some _::bs,_,h=>by simp[qP]at h
 |none::l,none::bs,x,h=>by simp only[qP]at h;rw[BU,Bz h]
 |some t::l,some cs::bs,x,h=>by simp only[qP]at h;split at h;rename_i y hy;obtain⟨r,hr,h⟩:=aW.1 h;cases h;have h1:=xV hy;rw[bA]at h1;rw[BU,h1,Bz hr];cases h
theorem WT:∀{o:IoD}{cs:ay AC}{x:ioD o},Tk o cs=some x->cs=adV o x
 | .none,[],_,_=>rfl
 | .none,_::_,_,h=>by simp[Tk]at h
 | .ptr,cs,x,h=>by simp only[Tk]at h;cases hp:XG cs with|false=>rw[hp]at h;cases h|true=>unfold XG at hp;split at hp;rfl;cases hp
 | .some t,cs,x,h=>by simp only[Tk]at h;split at h;rename_i y hy;cases h;have h1:=xV hy;rw[bA]at h1;rw[adV,h1];cases h
theorem SD.Tl {d:SD}{st:AS}{x:d.D}(h:d.dec st=some x):st=d.enc x:=by unfold SD.dec at h;cases hc:(st.ep==0&&st.iss==List.replicate d.slots.length false)with|false=>rw[hc]at h;cases h|true=>rw[hc]at h;simp only[ah]at h;obtain⟨y,hy,h⟩:=aW.1 h;obtain⟨z,hz,h⟩:=aW.1 h;obtain⟨u,hu,h⟩:=aW.1 h;cases h;simp only[ab,bm]at hc;cases st with|mk slots boxes ep iss io=>simp only at hc hy hz hu;obtain⟨rfl,rfl⟩:=hc;rw[sJ hy,Bz hz,WT hu];rfl
theorem lok {E:Env}{Γ:zP}{an:An}{Λ:mS}{c:Code}(l:ID)(h1:Λ (fa c)=l)(n:Nat)(h2:∀(R:Type)(x:l.sd.D)(K:Ex->AS->aC R),l.run x K=Bg (an.mask (fa c)) (den E Γ an Λ c) n (l.sd.enc x) K):yF E Γ an Λ c:=by refine⟨n,λR st K r h=>?_⟩;rw[h1]at h;unfold ID.go at h;cases hd:l.sd.dec st with|none=>rw[hd]at h;cases h|some x=>rw[hd]at h;rw[SD.Tl hd,<-h2];exact h
theorem cok {E:Env}{Γ:zP}{an:An}{Λ:mS}{c:Code}(l:ID)(h1:Λ (DP c)=l)(h2:∀(R:Type)(x:l.sd.D)(K:Ex->AS->aC R),l.run x K=den E Γ an Λ c (l.sd.enc x) (λe bX=>K e (bX.mask (an.mask (DP c+1))))):VU E Γ an Λ c:=by intro R st K r h;rw[h1]at h;unfold ID.go at h;cases hd:l.sd.dec st with|none=>rw[hd]at h;cases h|some x=>rw[hd]at h;rw[SD.Tl hd,<-h2];exact h
end Go.Dn
