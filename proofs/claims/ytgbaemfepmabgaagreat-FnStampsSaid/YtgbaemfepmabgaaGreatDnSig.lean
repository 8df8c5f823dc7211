import Derived.Test.YtgbaemfepmabgaaGreatDnLaw
/- Functions by the data that they take; loops by the data that they keep. -/
namespace Go.Dn
variable {v:AV} {f:Nat} {P:Program}
inductive PS where
 |data (g:Bool) (t:CT)|fn (f:Nat)
variable {s:au PS}
abbrev BR:au PS->Type
 |[]=>Unit
 | .data _ t::r=>t.D×BR r
 | .fn _::r=>BR r
def rO:(t:CT)->au AC->aw (t.D×au AC)
 | .int k,.int k' n::r=>if k'=k then some (n,r) else none
 | .bool,.bool b::r=>some (b,r)
 | .str,.str s::r=>some (s,r)
 | .sl e,.sl (.arg false) e' xs::r=>if h:e'=e then some (h▸xs,r) else none
 | .sl _,.nilsl::r=>some ([],r)
 | .pair a b,cs=>(rO a cs).bind λx=>(rO b x.2).bind λy=>some ((x.1,y.1),y.2)
 |_,_=>none
def mL:(s:au PS)->au AV->aw (BR s)
 |[],[]=>some ()
 | .data g e::s,.val g' cs::xs=>bif g==g' then
  (match rO e cs with
   |some (x,[])=>(mL s xs).bind λr=>some (x,r)
   |_=>none) else none
 | .fn f::s,v::xs=>bif v.aan f then mL s xs else none
 |_,_=>none
def nk:(s:au PS)->BR s->au AV
 |[],_=>[]
 | .data g e::s,a=> .val g (cellsOf e (.arg false) a.1)::nk s a.2
 | .fn f::s,a=> .one (.fn f)::nk s a
theorem aaR {A:Rg}{hw:Nat->Nat}{w:World}:∀{t:CT}{cs r:au AC}{x:t.D},rO t cs=some (x,r)->∀{vs:ig}{fp:eG},bH (fB A hw w) vs cs fp-> ∃v1 v2 f1 f2,vs=v1++v2/\fp=f1++f2/\bH (fB A hw w) v1 (cellsOf t (.arg false) x) f1/\bH (fB A hw w) v2 r f2:=by
 intro t
 have one:∀{y:AC}{ys:au AC}{vs:ig}{fp:eG}{z:AC},bH (fB A hw w) vs (y::ys) fp->(∀v f,gz (fB A hw w) v y f->gz (fB A hw w) v z f)->
  ∃v1 v2 f1 f2,vs=v1++v2/\fp=f1++f2/\bH (fB A hw w) v1 [z] f1/\bH (fB A hw w) v2 ys f2:=by
  intro y ys vs fp z h hz
  cases vs with
  |nil=>exact h.elim
  |cons v vs=>
   obtain⟨f1,f2,rfl,h1,h2⟩:=h
   exact⟨[v],vs,f1,f2,rfl,rfl,⟨f1,[],by simp,hz v f1 h1,rfl⟩,h2⟩
 induction t with
 |int k=>intro cs r x h vs fp hr;cases cs with|nil=>simp[rO]at h|cons y ys=>cases y<;>simp[rO]at h;obtain⟨rfl,rfl,rfl⟩:=h;exact one hr λv f h=>h
 |bool=>intro cs r x h vs fp hr;cases cs with|nil=>simp[rO]at h|cons y ys=>cases y<;>simp[rO]at h;obtain⟨rfl,rfl⟩:=h;exact one hr λv f h=>h
 |str=>intro cs r x h vs fp hr;cases cs with|nil=>simp[rO]at h|cons y ys=>cases y<;>simp[rO]at h;obtain⟨rfl,rfl⟩:=h;exact one hr λv f h=>h
 |sl e _=>
  intro cs r x h vs fp hr;cases cs with
  |nil=>simp[rO]at h
  |cons y ys=>
   cases y with
   |sl fl e' xs=>
    cases fl with
    |arg k=>cases k with|true=>simp[rO]at h|false=>simp only[rO]at h;split at h;rename_i he;subst he;cases h;exact one hr λv f h=>h;cases h
    |own t=>simp[rO]at h
    |nest _ _ _ _ _ _=>simp[rO]at h
    |part _ _ _ _=>simp[rO]at h
    |holed _ _ _=>simp[rO]at h
    |loc ep pv=>simp[rO]at h
   |nilsl=>simp[rO]at h;obtain⟨rfl,rfl⟩:=h;refine one hr λv f h=>?_;obtain⟨rfl,rfl⟩:=h;exact⟨rfl,_,rfl,.inl ⟨⟨none,rfl⟩,rfl⟩⟩
   |_=>simp[rO]at h
 |pair a b iha ihb=>intro cs r x h vs fp hr;simp only[rO]at h;obtain⟨⟨x1,r1⟩,h1,h⟩:=aQ.1 h;obtain⟨⟨x2,r2⟩,h2,h⟩:=aQ.1 h;cases h;obtain⟨v1,v2,f1,f2,rfl,rfl,k1,k2⟩:=iha h1 hr;obtain⟨v3,v4,f3,f4,rfl,rfl,k3,k4⟩:=ihb h2 k2;exact⟨v1++v3,v4,f1++f3,f4,by simp,by simp,by simpa[cellsOf]using bH.append k1 k3,k4⟩
theorem NI (h:v.aan f=true):v=.one (.fn f):=by
 unfold AV.aan at h;split at h;rename_i f';have:f=f':=by simpa using h
 subst this;rfl;cases h
theorem We (h:v.Yj=true):v=.bot:=by unfold AV.Yj at h;split at h;rfl;cases h
theorem Wg {s off:Nat}(h:v.Yk s off=true):v=.one (.ptr s off):=by unfold AV.Yk at h;split at h;simp only[ae,bh]at h;obtain⟨rfl,rfl⟩:=h;rfl;cases h
theorem sW {A:Rg}{w:World}:∀{s:au PS}{xs:au AV}{a:BR s},mL s xs=some a->∀{vs:ig},oO A w vs xs->oO A w vs (nk s a)
 |[],[],a,_,vs,h=>h
 |[],_::_,_,h,_,_=>by simp[mL]at h
 | .data g e::s,[],_,h,_,_=>by simp[mL]at h
 | .data g e::s,.tup _::xs,_,h,_,_=>by simp[mL]at h
 | .data g e::s,.val g' cs::xs,a,h,vs,hr=>by
  simp only[mL]at h;cases hg:g==g' with
  |false=>rw[hg]at h;cases h
  |true=>
   rw[hg]at h;simp only[ah]at h;have hg':g=g':=by simpa using hg
   subst hg';split at h;rename_i x hx;obtain⟨r,hr',h⟩:=aQ.1 h;cases h;cases vs with
   |nil=>exact hr.elim
   |cons v vs=>
    obtain⟨⟨us,hcut,hu⟩,h2⟩:=hr;obtain⟨v1,v2,f1,f2,rfl,hf,k1,k2⟩:=aaR hx hu;have hv2:v2=[]:=by cases v2 with|nil=>rfl|cons _ _=>exact k2.elim
    subst hv2;have hf1:f1=[]:=by have:=hf.symm;simp at this;exact this.1
    subst hf1;rw[bw]at hcut;exact⟨⟨v1,hcut,k1⟩,sW hr' h2⟩
   cases h
 | .fn f::s,[],a,h,vs,hr=>by simp[mL]at h
 | .fn f::s,v::xs,a,h,vs,hr=>by simp only[mL]at h;cases hg:v.aan f with|false=>rw[hg]at h;cases h|true=>rw[hg]at h;have:=NI hg;subst this;cases vs with|nil=>exact hr.elim|cons v vs=>exact⟨hr.1,sW h hr.2⟩
def aK (s:au PS)(rs:au (Bool×FT))(F:BR s->aw (kP rs)):bg:={R:=kP rs,fn:=λxs=>aa (mL s xs) F,av:=xU rs}
theorem g8.of {P:Program}{f:Nat}{s:au PS}{rs:au (Bool×FT)}{G:au AV->aw (kP rs)}(h:g8 P f {R:=kP rs,fn:=G,av:=xU rs}){F:BR s->aw (kP rs)}(hF:∀a,G (nk s a)=F a):g8 P f (aK s rs F):=by
 intro xs y hy;simp only[aK]at hy y;cases ha:mL s xs with
 |none=>rw[ha]at hy;cases hy
 |some a=>
  rw[ha]at hy;have hy':G (nk s a)=some y:=by rw[hF a];exact hy
  have hh:=h (nk s a) y hy';exact⟨hh.1,λ_ _ A w vs hA hr=>hh.2.1 rfl rfl A w vs hA (sW ha hr),λh=>(by cases h),λh=>(by cases h),λh=>(by cases h)⟩
def Cd (s:au PS)(rs rs2:au (Bool×FT))(h:kP rs2=kP rs)(F:BR s->aw (Bool×kP rs)):bg:=
 {R:=Bool×kP rs,fn:=λxs=>aa (mL s xs) F,av:=λy=>xU rs y.2,sel:=λy=>y.1,alt:=λy=>xU rs2 (cast h.symm y.2)}
theorem g8.ofAlt {rs rs2:au (Bool×FT)}{h2:kP rs2=kP rs}{G:au AV->aw (Bool×kP rs)}(h:g8 P f {R:=Bool×kP rs,fn:=G,av:=λy=>xU rs y.2,sel:=λy=>y.1,alt:=λy=>xU rs2 (cast h2.symm y.2)}){F:BR s->aw (Bool×kP rs)}(hF:∀a,G (nk s a)=F a):g8 P f (Cd s rs rs2 h2 F):=by
 intro xs y hy;simp only[Cd]at hy y;cases ha:mL s xs with
 |none=>rw[ha]at hy;cases hy
 |some a=>
  rw[ha]at hy;have hy':G (nk s a)=some y:=by rw[hF a];exact hy
  have hh:=h (nk s a) y hy';exact⟨hh.1,λ_ _ A w vs hA hr=>hh.2.1 rfl rfl A w vs hA (sW ha hr),λh=>(by cases h),λh=>(by cases h),λh=>(by cases h)⟩
def acm (s:au PS)(rs:au (Bool×FT))(F:BR s->aw (Bool×kP rs)):bg:=
 {R:=Bool×kP rs,fn:=λxs=>aa (mL s xs) λa=>adr (F a),av:=λy=>xU rs y.2}
theorem g8.only {P:Program}{f:Nat}{s:au PS}{rs rs2:au (Bool×FT)}{h2:kP rs2=kP rs}{F:BR s->aw (Bool×kP rs)}(h:g8 P f (Cd s rs rs2 h2 F)):g8 P f (acm s rs F):=by
 intro xs y hy;simp only[acm]at hy y;cases ha:mL s xs with
 |none=>rw[ha]at hy;cases hy
 |some a=>
  rw[ha]at hy;have hy:adr (F a)=some y:=hy;unfold adr at hy;cases hF:F a with
  |none=>rw[hF]at hy;cases hy
  |some r=>
   rw[hF]at hy;cases h1:r.1 with
   |false=>simp only[aa,h1,af]at hy;cases hy
   |true=>
    simp only[aa,h1,ah,bl]at hy;subst hy;have hf:(Cd s rs rs2 h2 F).fn xs=some r:=by show aa (mL s xs) F=some r;rw[ha];exact hF
    have hh:=h xs r hf;have hr:(Cd s rs rs2 h2 F).res r=xU rs r.2:=by show cond r.1 (xU rs r.2) _=_;rw[h1];rfl
    refine⟨hh.1,λ_ _ A w vs hA hr2=>?_,λh=>(by cases h),λh=>(by cases h),λh=>(by cases h)⟩;have q:=hh.2.1 rfl rfl A w vs hA hr2;rw[hr]at q;exact q
def FT.E0:FT->Bool
 | .sl .arg _=>true
 | .sl .arg0 _=>true
 | .sl _ _=>false
 | .pair a b=>a.E0&&b.E0
 |_=>true
theorem BV:∀{t:FT},t.E0=true->∀x:t.ct.D,(iY t x).all AC.E0=true
 | .int _,_,_=>rfl
 | .bool,_,_=>rfl
 | .str,_,_=>rfl
 | .sl fl e,h,_=>by cases fl<;>first|rfl|cases h
 | .pair a b,h,x=>by simp only[FT.E0,ae]at h;simp only[iY,List.all_append,ae];exact⟨BV h.1 x.1,BV h.2 x.2⟩
def jm (t:FT)(s:au PS)(rs:au (Bool×FT))(F:t.ct.D->BR s->aw (kP rs×t.ct.D)):bg:=
 {R:=kP rs×t.ct.D,fn:=λxs=>match xs with
  | .val true cs::rest=>(match Jm t cs with|some (x,[])=>aa (mL s rest) (F x)|_=>none)
  |_=>none,av:=λy=>xU rs y.1,back:=λy=>iY t y.2,bx:=true,cur:=t.E0,hcur:=λh y=>BV h y.2}
theorem g8.pS {t:FT}{rs:au (Bool×FT)}{G:au AV->aw (kP rs×t.ct.D)}(h:g8 P f {R:=kP rs×t.ct.D,fn:=G,av:=λy=>xU rs y.1,back:=λy=>iY t y.2,bx:=true}){F:t.ct.D->BR s->aw (kP rs×t.ct.D)}(hF:∀x a,G (.val true (iY t x)::nk s a)=F x a):g8 P f (jm t s rs F):=by
 intro xs y hy;simp only[jm]at hy y;split at hy;rename_i cs rest;split at hy;rename_i x hx;cases ha:mL s rest with
 |none=>rw[ha]at hy;cases hy
 |some a=>
  rw[ha]at hy;have hy':G (.val true (iY t x)::nk s a)=some y:=by rw[hF x a];exact hy
  have hsp:=wC hx;rw[bw]at hsp;have hh:=h _ y hy';refine⟨hh.1,λ_ h=>(by cases h),λh=>(by cases h),λ_ cs0 rest0 he A w b vs arr T fr hw fp hA hblk hth hrel hn hnb hlt hw0 hargs=>?_,λh=>(by cases h)⟩;injection he with he1 he2;injection he1 with _ he3;subst he2;subst he3;rw[hsp]at hrel;exact hh.2.2.2.1 rfl (iY t x) (nk s a) rfl A w b vs arr T fr hw fp hA hblk hth hrel hn hnb hlt hw0 (sW ha hargs)
 cases hy;cases hy
def Vz (t:FT)(s:au PS)(F:BR s->aw t.ct.D):bg:=
 {R:=t.ct.D,fn:=λxs=>aa (mL s xs) F,av:=λ_=> .bot,back:=λy=>iY t y,pr:=true}
theorem g8.ar7 {t:FT}{G:au AV->aw t.ct.D}(h:g8 P f {R:=t.ct.D,fn:=G,av:=λ_=> .bot,back:=λy=>iY t y,pr:=true}){F:BR s->aw t.ct.D}(hF:∀a,G (nk s a)=F a):g8 P f (Vz t s F):=by
 intro xs y hy;simp only[Vz]at hy y;cases ha:mL s xs with
 |none=>rw[ha]at hy;cases hy
 |some a=>
  rw[ha]at hy;have hy':G (nk s a)=some y:=by rw[hF a];exact hy
  have hh:=h _ y hy';exact⟨hh.1,λh1 h2 A w vs hA hr=>hh.2.1 h1 h2 A w vs hA (sW ha hr),λh=>(by cases h),λh=>(by cases h),λ_ A w vs hA hr=>hh.2.2.2.2 rfl A w vs hA (sW ha hr)⟩
theorem NO {R σ:Type}{key:eG}{B:AS->(Ex->AS->aw R)->aw R}{K:Ex->AS->aw R}(enc:σ->AS)(T:(σ->aw R)->σ->aw R)
 (h:∀m x,BL key B (m+1) (enc x) K=T (λy=>BL key B m (enc y) K) x):∀m x,BL key B m (enc x) K=bc T m x
 |0,_=>rfl
 |m+1,x=>by rw[h m x];have:(λy=>BL key B m (enc y) K)=bc T m:=funext λy=>NO enc T h m y;rw[this];rfl
theorem rr:∀{l:au PD}{vs:au AV}{x:HC l},ju l vs=some x->vs=ru l x
 |[],[],_,_=>rfl
 |[],_::_,_,h=>by simp[ju]at h
 | .data g t::l,[],_,h=>by simp[ju]at h
 | .data g t::l,.tup _::vs,_,h=>by simp[ju]at h
 | .data g t::l,.val g' cs::vs,x,h=>by
  simp only[ju]at h;cases hg:g==g' with
  |false=>rw[hg]at h;cases h
  |true=>
   rw[hg]at h;simp only[ah]at h;have hg':g=g':=by simpa using hg
   subst hg';split at h;rename_i y hy;obtain⟨r,hr,h⟩:=aQ.1 h;cases h;have h1:=wC hy;rw[bw]at h1;rw[ru,h1,rr hr];cases h
 | .bot::l,[],x,h=>by simp[ju]at h
 | .ptr s off::l,[],x,h=>by simp[ju]at h
 | .fn f::l,[],x,h=>by simp[ju]at h
 | .bot::l,v::vs,x,h=>by simp only[ju]at h;cases hg:v.Yj with|false=>rw[hg]at h;cases h|true=>rw[hg]at h;rw[We hg,ru,rr (l:=l) h]
 | .ptr s off::l,v::vs,x,h=>by simp only[ju]at h;cases hg:v.Yk s off with|false=>rw[hg]at h;cases h|true=>rw[hg]at h;rw[Wg hg,ru,rr (l:=l) h]
 | .fn f::l,v::vs,x,h=>by simp only[ju]at h;cases hg:v.aan f with|false=>rw[hg]at h;cases h|true=>rw[hg]at h;rw[NI hg,ru,rr (l:=l) h]
theorem zL:∀{l:au (aw FT)}{bs:au (aw (au AC))}{x:GI l},py l bs=some x->bs=zZ l x
 |[],[],_,_=>rfl
 |[],_::_,_,h=>by simp[py]at h
 |some t::l,[],_,h=>by simp[py]at h
 |none::l,[],_,h=>by simp[py]at h
 |some t::l,none::bs,_,h=>by simp[py]at h
 |none::l,some _::bs,_,h=>by simp[py]at h
 |none::l,none::bs,x,h=>by simp only[py]at h;rw[zZ,zL h]
 |some t::l,some cs::bs,x,h=>by simp only[py]at h;split at h;rename_i y hy;obtain⟨r,hr,h⟩:=aQ.1 h;cases h;have h1:=wC hy;rw[bw]at h1;rw[zZ,h1,zL hr];cases h
theorem Vv:∀{o:IoD}{cs:au AC}{x:ioD o},RN o cs=some x->cs=ack o x
 | .none,[],_,_=>rfl
 | .none,_::_,_,h=>by simp[RN]at h
 | .ptr,cs,x,h=>by simp only[RN]at h;cases hp:Wf cs with|false=>rw[hp]at h;cases h|true=>unfold Wf at hp;split at hp;rfl;cases hp
 | .some t,cs,x,h=>by simp only[RN]at h;split at h;rename_i y hy;cases h;have h1:=wC hy;rw[bw]at h1;rw[ack,h1];cases h
theorem SD.RO {d:SD}{st:AS}{x:d.D}(h:d.dec st=some x):st=d.enc x:=by unfold SD.dec at h;cases hc:(st.ep==0&&st.iss==List.replicate d.slots.length false)with|false=>rw[hc]at h;cases h|true=>rw[hc]at h;simp only[ah]at h;obtain⟨y,hy,h⟩:=aQ.1 h;obtain⟨z,hz,h⟩:=aQ.1 h;obtain⟨u,hu,h⟩:=aQ.1 h;cases h;simp only[ae,bh]at hc;cases st with|mk slots boxes ep iss io=>simp only at hc hy hz hu;obtain⟨rfl,rfl⟩:=hc;rw[rr hy,zL hz,Vv hu];rfl
theorem lok {E:Env}{Γ:dm}{an:An}{Λ:dC}{c:Code}(l:cH)(h1:Λ (ft c)=l)(n:Nat)(h2:∀(R:Type)(x:l.sd.D)(K:Ex->AS->aw R),l.run x K=BL (an.mask (ft c)) (den E Γ an Λ c) n (l.sd.enc x) K):gy E Γ an Λ c:=by refine⟨n,λR st K r h=>?_⟩;rw[h1]at h;unfold cH.go at h;cases hd:l.sd.dec st with|none=>rw[hd]at h;cases h|some x=>rw[hd]at h;rw[SD.RO hd,<-h2];exact h
theorem cok {E:Env}{Γ:dm}{an:An}{Λ:dC}{c:Code}(l:cH)(h1:Λ (B0 c)=l)(h2:∀(R:Type)(x:l.sd.D)(K:Ex->AS->aw R),l.run x K=den E Γ an Λ c (l.sd.enc x) (λe st'=>K e (st'.mask (an.mask (B0 c+1))))):Ml E Γ an Λ c:=by intro R st K r h;rw[h1]at h;unfold cH.go at h;cases hd:l.sd.dec st with|none=>rw[hd]at h;cases h|some x=>rw[hd]at h;rw[SD.RO hd,<-h2];exact h
end Go.Dn
