import Derived.Test.YtainmjjkipbciaaGreatDnLaw
/- Functions by the data that they take; loops by the data that they keep. -/
namespace Go.Dn
variable {v:AV} {f:Nat} {P:Program} {rs:aw (Bool×FT)}
inductive PS where
 |data (g:Bool) (t:CT)|fn (f:Nat)
variable {s:aw PS}
abbrev BH:aw PS->Type
 |[]=>Unit
 | .data _ t::r=>t.D×BH r
 | .fn _::r=>BH r
def rk:(t:CT)->aw AC->ax (t.D×aw AC)
 | .int k,.int k' n::r=>if k'=k then some (n,r) else none
 | .bool,.bool b::r=>some (b,r)
 | .str,.str s::r=>some (s,r)
 | .sl e,.sl (.arg false) e' xs::r=>if h:e'=e then some (h▸xs,r) else none
 | .sl _,.jn::r=>some ([],r)
 | .pair a b,cs=>(rk a cs).bind λx=>(rk b x.2).bind λy=>some ((x.1,y.1),y.2)
 |_,_=>none
def mK:(s:aw PS)->aw AV->ax (BH s)
 |[],[]=>some ()
 | .data g e::s,.val g' cs::xs=>bif g==g' then
  (match rk e cs with
   |some (x,[])=>(mK s xs).bind λr=>some (x,r)
   |_=>none) else none
 | .fn f::s,v::xs=>bif v.Zl f then mK s xs else none
 |_,_=>none
def nf:(s:aw PS)->BH s->aw AV
 |[],_=>[]
 | .data g e::s,a=> .val g (cellsOf e (.arg false) a.1)::nf s a.2
 | .fn f::s,a=> .one (.fn f)::nf s a
theorem ZR {A:Rg}{hw:Nat->Nat}{w:World}:∀{t:CT}{cs r:aw AC}{x:t.D},rk t cs=some (x,r)->∀{vs:ir}{fp:fg},bE (fD A hw w) vs cs fp-> ∃v1 v2 f1 f2,vs=v1++v2/\fp=f1++f2/\bE (fD A hw w) v1 (cellsOf t (.arg false) x) f1/\bE (fD A hw w) v2 r f2:=by
 intro t
 have one:∀{y:AC}{ys:aw AC}{vs:ir}{fp:fg}{z:AC},bE (fD A hw w) vs (y::ys) fp->(∀v f,gB (fD A hw w) v y f->gB (fD A hw w) v z f)->
  ∃v1 v2 f1 f2,vs=v1++v2/\fp=f1++f2/\bE (fD A hw w) v1 [z] f1/\bE (fD A hw w) v2 ys f2:=by
  intro y ys vs fp z h hz
  cases vs with
  |nil=>exact h.elim
  |cons v vs=>
   obtain⟨f1,f2,rfl,h1,h2⟩:=h
   exact⟨[v],vs,f1,f2,rfl,rfl,⟨f1,[],by simp,hz v f1 h1,rfl⟩,h2⟩
 induction t with
 |int k=>intro cs r x h vs fp hr;cases cs with|nil=>simp[rk]at h|cons y ys=>cases y<;>simp[rk]at h;obtain⟨rfl,rfl,rfl⟩:=h;exact one hr λv f h=>h
 |bool=>intro cs r x h vs fp hr;cases cs with|nil=>simp[rk]at h|cons y ys=>cases y<;>simp[rk]at h;obtain⟨rfl,rfl⟩:=h;exact one hr λv f h=>h
 |str=>intro cs r x h vs fp hr;cases cs with|nil=>simp[rk]at h|cons y ys=>cases y<;>simp[rk]at h;obtain⟨rfl,rfl⟩:=h;exact one hr λv f h=>h
 |sl e _=>
  intro cs r x h vs fp hr;cases cs with
  |nil=>simp[rk]at h
  |cons y ys=>
   cases y with
   |sl fl e' xs=>
    cases fl with
    |arg k=>cases k with|true=>simp[rk]at h|false=>simp only[rk]at h;split at h;rename_i he;subst he;cases h;exact one hr λv f h=>h;cases h
    |own t=>simp[rk]at h
    |nest _ _ _ _ _ _=>simp[rk]at h
    |part _ _ _ _=>simp[rk]at h
    |fa _ _ _=>simp[rk]at h
    |loc ep pv=>simp[rk]at h
   |jn=>simp[rk]at h;obtain⟨rfl,rfl⟩:=h;refine one hr λv f h=>?_;obtain⟨rfl,rfl⟩:=h;exact⟨rfl,_,rfl,.inl ⟨⟨none,rfl⟩,rfl⟩⟩
   |_=>simp[rk]at h
 |pair a b iha ihb=>intro cs r x h vs fp hr;simp only[rk]at h;obtain⟨⟨x1,r1⟩,h1,h⟩:=aM.1 h;obtain⟨⟨x2,r2⟩,h2,h⟩:=aM.1 h;cases h;obtain⟨v1,v2,f1,f2,rfl,rfl,k1,k2⟩:=iha h1 hr;obtain⟨v3,v4,f3,f4,rfl,rfl,k3,k4⟩:=ihb h2 k2;exact⟨v1++v3,v4,f1++f3,f4,by simp,by simp,by simpa[cellsOf]using bE.append k1 k3,k4⟩
theorem Nm (h:v.Zl f=true):v=.one (.fn f):=by
 unfold AV.Zl at h;split at h;rename_i f';have:f=f':=by simpa using h
 subst this;rfl;cases h
theorem Vj (h:v.Xl=true):v=.bot:=by unfold AV.Xl at h;split at h;rfl;cases h
theorem Vl {s off:Nat}(h:v.Xm s off=true):v=.one (.ptr s off):=by unfold AV.Xm at h;split at h;simp only[ae,aV]at h;obtain⟨rfl,rfl⟩:=h;rfl;cases h
theorem sA {A:Rg}{w:World}:∀{s:aw PS}{xs:aw AV}{a:BH s},mK s xs=some a->∀{vs:ir},oH A w vs xs->oH A w vs (nf s a)
 |[],[],a,_,vs,h=>h
 |[],_::_,_,h,_,_=>by simp[mK]at h
 | .data g e::s,[],_,h,_,_=>by simp[mK]at h
 | .data g e::s,.uw _::xs,_,h,_,_=>by simp[mK]at h
 | .data g e::s,.val g' cs::xs,a,h,vs,hr=>by
  simp only[mK]at h;cases hg:g==g' with
  |false=>rw[hg]at h;cases h
  |true=>
   rw[hg]at h;simp only[ah]at h;have mX:g=g':=by simpa using hg
   subst mX;split at h;rename_i x hx;obtain⟨r,hr',h⟩:=aM.1 h;cases h;cases vs with
   |nil=>exact hr.elim
   |cons v vs=>
    obtain⟨⟨us,fE,hu⟩,h2⟩:=hr;obtain⟨v1,v2,f1,f2,rfl,hf,k1,k2⟩:=ZR hx hu;have Px:v2=[]:=by cases v2 with|nil=>rfl|cons _ _=>exact k2.elim
    subst Px;have hf1:f1=[]:=by have:=hf.symm;simp at this;exact this.1
    subst hf1;rw[bR]at fE;exact⟨⟨v1,fE,k1⟩,sA hr' h2⟩
   cases h
 | .fn f::s,[],a,h,vs,hr=>by simp[mK]at h
 | .fn f::s,v::xs,a,h,vs,hr=>by simp only[mK]at h;cases hg:v.Zl f with|false=>rw[hg]at h;cases h|true=>rw[hg]at h;have:=Nm hg;subst this;cases vs with|nil=>exact hr.elim|cons v vs=>exact⟨hr.1,sA h hr.2⟩
def aN (s:aw PS)(rs:aw (Bool×FT))(F:BH s->ax (kO rs)):bg:={R:=kO rs,fn:=λxs=>aa (mK s xs) F,av:=xM rs}
theorem gY.of {G:aw AV->ax (kO rs)}(h:gY P f {R:=kO rs,fn:=G,av:=xM rs}){F:BH s->ax (kO rs)}(hF:∀a,G (nf s a)=F a):gY P f (aN s rs F):=by
 intro xs y hy;simp only[aN]at hy y;cases ha:mK s xs with
 |none=>rw[ha]at hy;cases hy
 |some a=>
  rw[ha]at hy;have QE:G (nf s a)=some y:=by rw[hF a];exact hy
  have hh:=h (nf s a) y QE;exact⟨hh.1,λ_ _ A w vs hA hr=>hh.2.1 rfl rfl A w vs hA (sA ha hr),λh=>(by cases h),λh=>(by cases h),λh=>(by cases h)⟩
def B4 (s:aw PS)(rs LU:aw (Bool×FT))(h:kO LU=kO rs)(F:BH s->ax (Bool×kO rs)):bg:=
 {R:=Bool×kO rs,fn:=λxs=>aa (mK s xs) F,av:=λy=>xM rs y.2,sel:=λy=>y.1,alt:=λy=>xM LU (cast h.symm y.2)}
theorem gY.ofAlt {LU:aw (Bool×FT)}{h2:kO LU=kO rs}{G:aw AV->ax (Bool×kO rs)}(h:gY P f {R:=Bool×kO rs,fn:=G,av:=λy=>xM rs y.2,sel:=λy=>y.1,alt:=λy=>xM LU (cast h2.symm y.2)}){F:BH s->ax (Bool×kO rs)}(hF:∀a,G (nf s a)=F a):gY P f (B4 s rs LU h2 F):=by
 intro xs y hy;simp only[B4]at hy y;cases ha:mK s xs with
 |none=>rw[ha]at hy;cases hy
 |some a=>
  rw[ha]at hy;have QE:G (nf s a)=some y:=by rw[hF a];exact hy
  have hh:=h (nf s a) y QE;exact⟨hh.1,λ_ _ A w vs hA hr=>hh.2.1 rfl rfl A w vs hA (sA ha hr),λh=>(by cases h),λh=>(by cases h),λh=>(by cases h)⟩
def abd (s:aw PS)(rs:aw (Bool×FT))(F:BH s->ax (Bool×kO rs)):bg:=
 {R:=Bool×kO rs,fn:=λxs=>aa (mK s xs) λa=>acv (F a),av:=λy=>xM rs y.2}
theorem gY.only {LU:aw (Bool×FT)}{h2:kO LU=kO rs}{F:BH s->ax (Bool×kO rs)}(h:gY P f (B4 s rs LU h2 F)):gY P f (abd s rs F):=by
 intro xs y hy;simp only[abd]at hy y;cases ha:mK s xs with
 |none=>rw[ha]at hy;cases hy
 |some a=>
  rw[ha]at hy;have hy:acv (F a)=some y:=hy;unfold acv at hy;cases hF:F a with
  |none=>rw[hF]at hy;cases hy
  |some r=>
   rw[hF]at hy;cases h1:r.1 with
   |false=>simp only[aa,h1,af]at hy;cases hy
   |true=>
    simp only[aa,h1,ah,ba]at hy;subst hy;have hf:(B4 s rs LU h2 F).fn xs=some r:=by show aa (mK s xs) F=some r;rw[ha];exact hF
    have hh:=h xs r hf;have hr:(B4 s rs LU h2 F).res r=xM rs r.2:=by show cond r.1 (xM rs r.2) _=_;rw[h1];rfl
    refine⟨hh.1,λ_ _ A w vs hA L9=>?_,λh=>(by cases h),λh=>(by cases h),λh=>(by cases h)⟩;have q:=hh.2.1 rfl rfl A w vs hA L9;rw[hr]at q;exact q
def FT.EV:FT->Bool
 | .sl .arg _=>true
 | .sl .wy _=>true
 | .sl _ _=>false
 | .pair a b=>a.EV&&b.EV
 |_=>true
theorem BO:∀{t:FT},t.EV=true->∀x:t.ct.D,(jc t x).all AC.EV=true
 | .int _,_,_=>rfl
 | .bool,_,_=>rfl
 | .str,_,_=>rfl
 | .sl fl e,h,_=>by cases fl<;>first|rfl|cases h
 | .pair a b,h,x=>by simp only[FT.EV,ae]at h;simp only[jc,List.all_append,ae];exact⟨BO h.1 x.1,BO h.2 x.2⟩
def jd (t:FT)(s:aw PS)(rs:aw (Bool×FT))(F:t.ct.D->BH s->ax (kO rs×t.ct.D)):bg:=
 {R:=kO rs×t.ct.D,fn:=λxs=>match xs with
  | .val true cs::rest=>(match IX t cs with|some (x,[])=>aa (mK s rest) (F x)|_=>none)
  |_=>none,av:=λy=>xM rs y.1,back:=λy=>jc t y.2,bx:=true,cur:=t.EV,hcur:=λh y=>BO h y.2}
theorem gY.oX {t:FT}{G:aw AV->ax (kO rs×t.ct.D)}(h:gY P f {R:=kO rs×t.ct.D,fn:=G,av:=λy=>xM rs y.1,back:=λy=>jc t y.2,bx:=true}){F:t.ct.D->BH s->ax (kO rs×t.ct.D)}(hF:∀x a,G (.val true (jc t x)::nf s a)=F x a):gY P f (jd t s rs F):=by
 intro xs y hy;simp only[jd]at hy y;split at hy;rename_i cs rest;split at hy;rename_i x hx;cases ha:mK s rest with
 |none=>rw[ha]at hy;cases hy
 |some a=>
  rw[ha]at hy;have QE:G (.val true (jc t x)::nf s a)=some y:=by rw[hF x a];exact hy
  have GH:=wh hx;rw[bR]at GH;have hh:=h _ y QE;refine⟨hh.1,λ_ h=>(by cases h),λh=>(by cases h),λ_ MM apw he A w b vs arr T fr hw fp hA jJ qM eK hn uz gW EO fM=>?_,λh=>(by cases h)⟩;injection he with he1 he2;injection he1 with _ he3;subst he2;subst he3;rw[GH]at eK;exact hh.2.2.2.1 rfl (jc t x) (nf s a) rfl A w b vs arr T fr hw fp hA jJ qM eK hn uz gW EO (sA ha fM)
 cases hy;cases hy
def UE (t:FT)(s:aw PS)(F:BH s->ax t.ct.D):bg:=
 {R:=t.ct.D,fn:=λxs=>aa (mK s xs) F,av:=λ_=> .bot,back:=λy=>jc t y,pr:=true}
theorem gY.apt {t:FT}{G:aw AV->ax t.ct.D}(h:gY P f {R:=t.ct.D,fn:=G,av:=λ_=> .bot,back:=λy=>jc t y,pr:=true}){F:BH s->ax t.ct.D}(hF:∀a,G (nf s a)=F a):gY P f (UE t s F):=by
 intro xs y hy;simp only[UE]at hy y;cases ha:mK s xs with
 |none=>rw[ha]at hy;cases hy
 |some a=>
  rw[ha]at hy;have QE:G (nf s a)=some y:=by rw[hF a];exact hy
  have hh:=h _ y QE;exact⟨hh.1,λh1 h2 A w vs hA hr=>hh.2.1 h1 h2 A w vs hA (sA ha hr),λh=>(by cases h),λh=>(by cases h),λ_ A w vs hA hr=>hh.2.2.2.2 rfl A w vs hA (sA ha hr)⟩
theorem Nr {R σ:Type}{key:fg}{B:AS->(Ex->AS->ax R)->ax R}{K:Ex->AS->ax R}(enc:σ->AS)(T:(σ->ax R)->σ->ax R)
 (h:∀m x,BE key B (m+1) (enc x) K=T (λy=>BE key B m (enc y) K) x):∀m x,BE key B m (enc x) K=bc T m x
 |0,_=>rfl
 |m+1,x=>by rw[h m x];have:(λy=>BE key B m (enc y) K)=bc T m:=funext λy=>Nr enc T h m y;rw[this];rfl
theorem qQ:∀{l:aw PD}{vs:aw AV}{x:Hi l},jy l vs=some x->vs=qR l x
 |[],[],_,_=>rfl
 |[],_::_,_,h=>by simp[jy]at h
 | .data g t::l,[],_,h=>by simp[jy]at h
 | .data g t::l,.uw _::vs,_,h=>by simp[jy]at h
 | .data g t::l,.val g' cs::vs,x,h=>by
  simp only[jy]at h;cases hg:g==g' with
  |false=>rw[hg]at h;cases h
  |true=>
   rw[hg]at h;simp only[ah]at h;have mX:g=g':=by simpa using hg
   subst mX;split at h;rename_i y hy;obtain⟨r,hr,h⟩:=aM.1 h;cases h;have h1:=wh hy;rw[bR]at h1;rw[qR,h1,qQ hr];cases h
 | .bot::l,[],x,h=>by simp[jy]at h
 | .ptr s off::l,[],x,h=>by simp[jy]at h
 | .fn f::l,[],x,h=>by simp[jy]at h
 | .bot::l,v::vs,x,h=>by simp only[jy]at h;cases hg:v.Xl with|false=>rw[hg]at h;cases h|true=>rw[hg]at h;rw[Vj hg,qR,qQ (l:=l) h]
 | .ptr s off::l,v::vs,x,h=>by simp only[jy]at h;cases hg:v.Xm s off with|false=>rw[hg]at h;cases h|true=>rw[hg]at h;rw[Vl hg,qR,qQ (l:=l) h]
 | .fn f::l,v::vs,x,h=>by simp only[jy]at h;cases hg:v.Zl f with|false=>rw[hg]at h;cases h|true=>rw[hg]at h;rw[Nm hg,qR,qQ (l:=l) h]
theorem zj:∀{l:aw (ax FT)}{bs:aw (ax (aw AC))}{x:Gu l},pq l bs=some x->bs=zI l x
 |[],[],_,_=>rfl
 |[],_::_,_,h=>by simp[pq]at h
 |some t::l,[],_,h=>by simp[pq]at h
 |none::l,[],_,h=>by simp[pq]at h
 |some t::l,none::bs,_,h=>by simp[pq]at h
 |none::l,some _::bs,_,h=>by simp[pq]at h
 |none::l,none::bs,x,h=>by simp only[pq]at h;rw[zI,zj h]
 |some t::l,some cs::bs,x,h=>by simp only[pq]at h;split at h;rename_i y hy;obtain⟨r,hr,h⟩:=aM.1 h;cases h;have h1:=wh hy;rw[bR]at h1;rw[zI,h1,zj hr];cases h
theorem UA:∀{o:IoD}{cs:aw AC}{x:ioD o},Rl o cs=some x->cs=abc o x
 | .none,[],_,_=>rfl
 | .none,_::_,_,h=>by simp[Rl]at h
 | .ptr,cs,x,h=>by simp only[Rl]at h;cases hp:Vk cs with|false=>rw[hp]at h;cases h|true=>unfold Vk at hp;split at hp;rfl;cases hp
 | .some t,cs,x,h=>by simp only[Rl]at h;split at h;rename_i y hy;cases h;have h1:=wh hy;rw[bR]at h1;rw[abc,h1];cases h
theorem SD.Rm {d:SD}{st:AS}{x:d.D}(h:d.dec st=some x):st=d.enc x:=by unfold SD.dec at h;cases hc:(st.ep==0&&st.iss==List.replicate d.slots.length false)with|false=>rw[hc]at h;cases h|true=>rw[hc]at h;simp only[ah]at h;obtain⟨y,hy,h⟩:=aM.1 h;obtain⟨z,hz,h⟩:=aM.1 h;obtain⟨u,hu,h⟩:=aM.1 h;cases h;simp only[ae,aV]at hc;cases st with|mk slots boxes ep iss io=>simp only at hc hy hz hu;obtain⟨rfl,rfl⟩:=hc;rw[qQ hy,zj hz,UA hu];rfl
theorem lok {E:Env}{Γ:fy}{an:An}{Λ:dL}{c:Code}(l:Gr)(h1:Λ (fu c)=l)(n:Nat)(h2:∀(R:Type)(x:l.sd.D)(K:Ex->AS->ax R),l.run x K=BE (an.mask (fu c)) (den E Γ an Λ c) n (l.sd.enc x) K):hY E Γ an Λ c:=by refine⟨n,λR st K r h=>?_⟩;rw[h1]at h;unfold Gr.go at h;cases hd:l.sd.dec st with|none=>rw[hd]at h;cases h|some x=>rw[hd]at h;rw[SD.Rm hd,<-h2];exact h
theorem cok {E:Env}{Γ:fy}{an:An}{Λ:dL}{c:Code}(l:Gr)(h1:Λ (BS c)=l)(h2:∀(R:Type)(x:l.sd.D)(K:Ex->AS->ax R),l.run x K=den E Γ an Λ c (l.sd.enc x) (λe bK=>K e (bK.mask (an.mask (BS c+1))))):TZ E Γ an Λ c:=by intro R st K r h;rw[h1]at h;unfold Gr.go at h;cases hd:l.sd.dec st with|none=>rw[hd]at h;cases h|some x=>rw[hd]at h;rw[SD.Rm hd,<-h2];exact h
end Go.Dn
