import Derived.Test.YtgbaemfepmabgaaGreatDnLaw
/- Functions by the data that they take; loops by the data that they keep. -/
namespace Go.Dn
variable {v:AV} {f:Nat} {P:Program}
inductive PS where
 |data (g:Bool) (t:CT)|fn (f:Nat)
variable {s:aw PS}
abbrev C3:aw PS->Type
 |[]=>Unit
 | .data _ t::r=>t.D×C3 r
 | .fn _::r=>C3 r
def sZ:(t:CT)->aw AC->az (t.D×aw AC)
 | .int k,.int k' n::r=>if k'=k then some (n,r) else none
 | .bool,.bool b::r=>some (b,r)
 | .str,.str s::r=>some (s,r)
 | .sl e,.sl (.arg false) e' xs::r=>if h:e'=e then some (h▸xs,r) else none
 | .sl _,.nilsl::r=>some ([],r)
 | .pair a b,cs=>(sZ a cs).bind λx=>(sZ b x.2).bind λy=>some ((x.1,y.1),y.2)
 |_,_=>none
def nI:(s:aw PS)->aw AV->az (C3 s)
 |[],[]=>some ()
 | .data g e::s,.val g' cs::xs=>bif g==g' then
  (match sZ e cs with
   |some (x,[])=>(nI s xs).bind λr=>some (x,r)
   |_=>none) else none
 | .fn f::s,v::xs=>bif v.abj f then nI s xs else none
 |_,_=>none
def oh:(s:aw PS)->C3 s->aw AV
 |[],_=>[]
 | .data g e::s,a=> .val g (cellsOf e (.arg false) a.1)::oh s a.2
 | .fn f::s,a=> .one (.fn f)::oh s a
theorem abO {A:Rg}{hw:Nat->Nat}{w:World}:∀{t:CT}{cs r:aw AC}{x:t.D},sZ t cs=some (x,r)->∀{vs:iS}{fp:fu},bR (gi A hw w) vs cs fp-> ∃v1 v2 f1 f2,vs=v1++v2/\fp=f1++f2/\bR (gi A hw w) v1 (cellsOf t (.arg false) x) f1/\bR (gi A hw w) v2 r f2:=by
 intro t
 have one:∀{y:AC}{ys:aw AC}{vs:iS}{fp:fu}{z:AC},bR (gi A hw w) vs (y::ys) fp->(∀v f,hY (gi A hw w) v y f->hY (gi A hw w) v z f)->
  ∃v1 v2 f1 f2,vs=v1++v2/\fp=f1++f2/\bR (gi A hw w) v1 [z] f1/\bR (gi A hw w) v2 ys f2:=by
  intro y ys vs fp z h hz
  cases vs with
  |nil=>exact h.elim
  |cons v vs=>
   obtain⟨f1,f2,rfl,h1,h2⟩:=h
   exact⟨[v],vs,f1,f2,rfl,rfl,⟨f1,[],by simp,hz v f1 h1,rfl⟩,h2⟩
 induction t with
 |int k=>intro cs r x h vs fp hr;cases cs with|nil=>simp[sZ]at h|cons y ys=>cases y<;>simp[sZ]at h;obtain⟨rfl,rfl,rfl⟩:=h;exact one hr λv f h=>h
 |bool=>intro cs r x h vs fp hr;cases cs with|nil=>simp[sZ]at h|cons y ys=>cases y<;>simp[sZ]at h;obtain⟨rfl,rfl⟩:=h;exact one hr λv f h=>h
 |str=>intro cs r x h vs fp hr;cases cs with|nil=>simp[sZ]at h|cons y ys=>cases y<;>simp[sZ]at h;obtain⟨rfl,rfl⟩:=h;exact one hr λv f h=>h
 |sl e _=>
  intro cs r x h vs fp hr;cases cs with
  |nil=>simp[sZ]at h
  |cons y ys=>
   cases y with
   |sl fl e' xs=>
    cases fl with
    |arg k=>cases k with|true=>simp[sZ]at h|false=>simp only[sZ]at h;split at h;rename_i he;subst he;cases h;exact one hr λv f h=>h;cases h
    |own t=>simp[sZ]at h
    |nest _ _ _ _ _ _=>simp[sZ]at h
    |part _ _ _ _=>simp[sZ]at h
    |holed _ _ _=>simp[sZ]at h
    |loc ep pv=>simp[sZ]at h
   |nilsl=>simp[sZ]at h;obtain⟨rfl,rfl⟩:=h;refine one hr λv f h=>?_;obtain⟨rfl,rfl⟩:=h;exact⟨rfl,_,rfl,.inl ⟨⟨none,rfl⟩,rfl⟩⟩
   |_=>simp[sZ]at h
 |pair a b iha ihb=>intro cs r x h vs fp hr;simp only[sZ]at h;obtain⟨⟨x1,r1⟩,h1,h⟩:=aU.1 h;obtain⟨⟨x2,r2⟩,h2,h⟩:=aU.1 h;cases h;obtain⟨v1,v2,f1,f2,rfl,rfl,k1,k2⟩:=iha h1 hr;obtain⟨v3,v4,f3,f4,rfl,rfl,k3,k4⟩:=ihb h2 k2;exact⟨v1++v3,v4,f1++f3,f4,by simp,by simp,by simpa[cellsOf]using bR.append k1 k3,k4⟩
theorem OP (h:v.abj f=true):v=.one (.fn f):=by
 unfold AV.abj at h;split at h;rename_i f';have:f=f':=by simpa using h
 subst this;rfl;cases h
theorem Xl (h:v.Zr=true):v=.bot:=by unfold AV.Zr at h;split at h;rfl;cases h
theorem Xn {s off:Nat}(h:v.Zs s off=true):v=.one (.ptr s off):=by unfold AV.Zs at h;split at h;simp only[ae,bm]at h;obtain⟨rfl,rfl⟩:=h;rfl;cases h
theorem ug {A:Rg}{w:World}:∀{s:aw PS}{xs:aw AV}{a:C3 s},nI s xs=some a->∀{vs:iS},pV A w vs xs->pV A w vs (oh s a)
 |[],[],a,_,vs,h=>h
 |[],_::_,_,h,_,_=>by simp[nI]at h
 | .data g e::s,[],_,h,_,_=>by simp[nI]at h
 | .data g e::s,.tup _::xs,_,h,_,_=>by simp[nI]at h
 | .data g e::s,.val g' cs::xs,a,h,vs,hr=>by
  simp only[nI]at h;cases hg:g==g' with
  |false=>rw[hg]at h;cases h
  |true=>
   rw[hg]at h;simp only[ah]at h;have hg':g=g':=by simpa using hg
   subst hg';split at h;rename_i x hx;obtain⟨r,hr',h⟩:=aU.1 h;cases h;cases vs with
   |nil=>exact hr.elim
   |cons v vs=>
    obtain⟨⟨us,hcut,hu⟩,h2⟩:=hr;obtain⟨v1,v2,f1,f2,rfl,hf,k1,k2⟩:=abO hx hu;have hv2:v2=[]:=by cases v2 with|nil=>rfl|cons _ _=>exact k2.elim
    subst hv2;have hf1:f1=[]:=by have:=hf.symm;simp at this;exact this.1
    subst hf1;rw[bK]at hcut;exact⟨⟨v1,hcut,k1⟩,ug hr' h2⟩
   cases h
 | .fn f::s,[],a,h,vs,hr=>by simp[nI]at h
 | .fn f::s,v::xs,a,h,vs,hr=>by simp only[nI]at h;cases hg:v.abj f with|false=>rw[hg]at h;cases h|true=>rw[hg]at h;have:=OP hg;subst this;cases vs with|nil=>exact hr.elim|cons v vs=>exact⟨hr.1,ug h hr.2⟩
def aM (s:aw PS)(rs:aw (Bool×FT))(F:C3 s->az (lE rs)):bn:={R:=lE rs,fn:=λxs=>aa (nI s xs) F,av:=zA rs}
theorem iH.of {P:Program}{f:Nat}{s:aw PS}{rs:aw (Bool×FT)}{G:aw AV->az (lE rs)}(h:iH P f {R:=lE rs,fn:=G,av:=zA rs}){F:C3 s->az (lE rs)}(hF:∀a,G (oh s a)=F a):iH P f (aM s rs F):=by
 intro xs y hy;simp only[aM]at hy y;cases ha:nI s xs with
 |none=>rw[ha]at hy;cases hy
 |some a=>
  rw[ha]at hy;have hy':G (oh s a)=some y:=by rw[hF a];exact hy
  have hh:=h (oh s a) y hy';exact⟨hh.1,λ_ _ A w vs hA hr=>hh.2.1 rfl rfl A w vs hA (ug ha hr),λh=>(by cases h),λh=>(by cases h),λh=>(by cases h)⟩
def Dj (s:aw PS)(rs rs2:aw (Bool×FT))(h:lE rs2=lE rs)(F:C3 s->az (Bool×lE rs)):bn:=
 {R:=Bool×lE rs,fn:=λxs=>aa (nI s xs) F,av:=λy=>zA rs y.2,sel:=λy=>y.1,alt:=λy=>zA rs2 (cast h.symm y.2)}
theorem iH.ofAlt {rs rs2:aw (Bool×FT)}{h2:lE rs2=lE rs}{G:aw AV->az (Bool×lE rs)}(h:iH P f {R:=Bool×lE rs,fn:=G,av:=λy=>zA rs y.2,sel:=λy=>y.1,alt:=λy=>zA rs2 (cast h2.symm y.2)}){F:C3 s->az (Bool×lE rs)}(hF:∀a,G (oh s a)=F a):iH P f (Dj s rs rs2 h2 F):=by
 intro xs y hy;simp only[Dj]at hy y;cases ha:nI s xs with
 |none=>rw[ha]at hy;cases hy
 |some a=>
  rw[ha]at hy;have hy':G (oh s a)=some y:=by rw[hF a];exact hy
  have hh:=h (oh s a) y hy';exact⟨hh.1,λ_ _ A w vs hA hr=>hh.2.1 rfl rfl A w vs hA (ug ha hr),λh=>(by cases h),λh=>(by cases h),λh=>(by cases h)⟩
def adm (s:aw PS)(rs:aw (Bool×FT))(F:C3 s->az (Bool×lE rs)):bn:=
 {R:=Bool×lE rs,fn:=λxs=>aa (nI s xs) λa=>aeo (F a),av:=λy=>zA rs y.2}
theorem iH.only {P:Program}{f:Nat}{s:aw PS}{rs rs2:aw (Bool×FT)}{h2:lE rs2=lE rs}{F:C3 s->az (Bool×lE rs)}(h:iH P f (Dj s rs rs2 h2 F)):iH P f (adm s rs F):=by
 intro xs y hy;simp only[adm]at hy y;cases ha:nI s xs with
 |none=>rw[ha]at hy;cases hy
 |some a=>
  rw[ha]at hy;have hy:aeo (F a)=some y:=hy;unfold aeo at hy;cases hF:F a with
  |none=>rw[hF]at hy;cases hy
  |some r=>
   rw[hF]at hy;cases h1:r.1 with
   |false=>simp only[aa,h1,af]at hy;cases hy
   |true=>
    simp only[aa,h1,ah,br]at hy;subst hy;have hf:(Dj s rs rs2 h2 F).fn xs=some r:=by show aa (nI s xs) F=some r;rw[ha];exact hF
    have hh:=h xs r hf;have hr:(Dj s rs rs2 h2 F).res r=zA rs r.2:=by show cond r.1 (zA rs r.2) _=_;rw[h1];rfl
    refine⟨hh.1,λ_ _ A w vs hA hr2=>?_,λh=>(by cases h),λh=>(by cases h),λh=>(by cases h)⟩;have q:=hh.2.1 rfl rfl A w vs hA hr2;rw[hr]at q;exact q
def FT.Gc:FT->Bool
 | .sl .arg _=>true
 | .sl .arg0 _=>true
 | .sl _ _=>false
 | .pair a b=>a.Gc&&b.Gc
 |_=>true
theorem C5:∀{t:FT},t.Gc=true->∀x:t.ct.D,(jC t x).all AC.Gc=true
 | .int _,_,_=>rfl
 | .bool,_,_=>rfl
 | .str,_,_=>rfl
 | .sl fl e,h,_=>by cases fl<;>first|rfl|cases h
 | .pair a b,h,x=>by simp only[FT.Gc,ae]at h;simp only[jC,List.all_append,ae];exact⟨C5 h.1 x.1,C5 h.2 x.2⟩
def jS (t:FT)(s:aw PS)(rs:aw (Bool×FT))(F:t.ct.D->C3 s->az (lE rs×t.ct.D)):bn:=
 {R:=lE rs×t.ct.D,fn:=λxs=>match xs with
  | .val true cs::rest=>(match Kn t cs with|some (x,[])=>aa (nI s rest) (F x)|_=>none)
  |_=>none,av:=λy=>zA rs y.1,back:=λy=>jC t y.2,bx:=true,cur:=t.Gc,hcur:=λh y=>C5 h y.2}
theorem iH.qR {t:FT}{rs:aw (Bool×FT)}{G:aw AV->az (lE rs×t.ct.D)}(h:iH P f {R:=lE rs×t.ct.D,fn:=G,av:=λy=>zA rs y.1,back:=λy=>jC t y.2,bx:=true}){F:t.ct.D->C3 s->az (lE rs×t.ct.D)}(hF:∀x a,G (.val true (jC t x)::oh s a)=F x a):iH P f (jS t s rs F):=by
 intro xs y hy;simp only[jS]at hy y;split at hy;rename_i cs rest;split at hy;rename_i x hx;cases ha:nI s rest with
 |none=>rw[ha]at hy;cases hy
 |some a=>
  rw[ha]at hy;have hy':G (.val true (jC t x)::oh s a)=some y:=by rw[hF x a];exact hy
  have hsp:=xQ hx;rw[bK]at hsp;have hh:=h _ y hy';refine⟨hh.1,λ_ h=>(by cases h),λh=>(by cases h),λ_ cs0 rest0 he A w b vs arr T fr hw fp hA hblk hth hrel hn hnb hlt hw0 hargs=>?_,λh=>(by cases h)⟩;injection he with he1 he2;injection he1 with _ he3;subst he2;subst he3;rw[hsp]at hrel;exact hh.2.2.2.1 rfl (jC t x) (oh s a) rfl A w b vs arr T fr hw fp hA hblk hth hrel hn hnb hlt hw0 (ug ha hargs)
 cases hy;cases hy
def WE (t:FT)(s:aw PS)(F:C3 s->az t.ct.D):bn:=
 {R:=t.ct.D,fn:=λxs=>aa (nI s xs) F,av:=λ_=> .bot,back:=λy=>jC t y,pr:=true}
theorem iH.as1 {t:FT}{G:aw AV->az t.ct.D}(h:iH P f {R:=t.ct.D,fn:=G,av:=λ_=> .bot,back:=λy=>jC t y,pr:=true}){F:C3 s->az t.ct.D}(hF:∀a,G (oh s a)=F a):iH P f (WE t s F):=by
 intro xs y hy;simp only[WE]at hy y;cases ha:nI s xs with
 |none=>rw[ha]at hy;cases hy
 |some a=>
  rw[ha]at hy;have hy':G (oh s a)=some y:=by rw[hF a];exact hy
  have hh:=h _ y hy';exact⟨hh.1,λh1 h2 A w vs hA hr=>hh.2.1 h1 h2 A w vs hA (ug ha hr),λh=>(by cases h),λh=>(by cases h),λ_ A w vs hA hr=>hh.2.2.2.2 rfl A w vs hA (ug ha hr)⟩
theorem OV {R σ:Type}{key:fu}{B:AS->(Ex->AS->az R)->az R}{K:Ex->AS->az R}(enc:σ->AS)(T:(σ->az R)->σ->az R)
 (h:∀m x,CX key B (m+1) (enc x) K=T (λy=>CX key B m (enc y) K) x):∀m x,CX key B m (enc x) K=bl T m x
 |0,_=>rfl
 |m+1,x=>by rw[h m x];have:(λy=>CX key B m (enc y) K)=bl T m:=funext λy=>OV enc T h m y;rw[this];rfl
theorem sJ:∀{l:aw PD}{vs:aw AV}{x:IL l},ka l vs=some x->vs=sK l x
 |[],[],_,_=>rfl
 |[],_::_,_,h=>by simp[ka]at h
 | .data g t::l,[],_,h=>by simp[ka]at h
 | .data g t::l,.tup _::vs,_,h=>by simp[ka]at h
 | .data g t::l,.val g' cs::vs,x,h=>by
  simp only[ka]at h;cases hg:g==g' with
  |false=>rw[hg]at h;cases h
  |true=>
   rw[hg]at h;simp only[ah]at h;have hg':g=g':=by simpa using hg
   subst hg';split at h;rename_i y hy;obtain⟨r,hr,h⟩:=aU.1 h;cases h;have h1:=xQ hy;rw[bK]at h1;rw[sK,h1,sJ hr];cases h
 | .bot::l,[],x,h=>by simp[ka]at h
 | .ptr s off::l,[],x,h=>by simp[ka]at h
 | .fn f::l,[],x,h=>by simp[ka]at h
 | .bot::l,v::vs,x,h=>by simp only[ka]at h;cases hg:v.Zr with|false=>rw[hg]at h;cases h|true=>rw[hg]at h;rw[Xl hg,sK,sJ (l:=l) h]
 | .ptr s off::l,v::vs,x,h=>by simp only[ka]at h;cases hg:v.Zs s off with|false=>rw[hg]at h;cases h|true=>rw[hg]at h;rw[Xn hg,sK,sJ (l:=l) h]
 | .fn f::l,v::vs,x,h=>by simp only[ka]at h;cases hg:v.abj f with|false=>rw[hg]at h;cases h|true=>rw[hg]at h;rw[OP hg,sK,sJ (l:=l) h]
theorem Bj:∀{l:aw (az FT)}{bs:aw (az (aw AC))}{x:HM l},qy l bs=some x->bs=Bw l x
 |[],[],_,_=>rfl
 |[],_::_,_,h=>by simp[qy]at h
 |some t::l,[],_,h=>by simp[qy]at h
 |none::l,[],_,h=>by simp[qy]at h
 |some t::l,none::bs,_,h=>by simp[qy]at h
 |none::l,some _::bs,_,h=>by simp[qy]at h
 |none::l,none::bs,x,h=>by simp only[qy]at h;rw[Bw,Bj h]
 |some t::l,some cs::bs,x,h=>by simp only[qy]at h;split at h;rename_i y hy;obtain⟨r,hr,h⟩:=aU.1 h;cases h;have h1:=xQ hy;rw[bK]at h1;rw[Bw,h1,Bj hr];cases h
theorem WA:∀{o:IoD}{cs:aw AC}{x:ioD o},SW o cs=some x->cs=adl o x
 | .none,[],_,_=>rfl
 | .none,_::_,_,h=>by simp[SW]at h
 | .ptr,cs,x,h=>by simp only[SW]at h;cases hp:Xm cs with|false=>rw[hp]at h;cases h|true=>unfold Xm at hp;split at hp;rfl;cases hp
 | .some t,cs,x,h=>by simp only[SW]at h;split at h;rename_i y hy;cases h;have h1:=xQ hy;rw[bK]at h1;rw[adl,h1];cases h
theorem SD.SX {d:SD}{st:AS}{x:d.D}(h:d.dec st=some x):st=d.enc x:=by unfold SD.dec at h;cases hc:(st.ep==0&&st.iss==List.replicate d.slots.length false)with|false=>rw[hc]at h;cases h|true=>rw[hc]at h;simp only[ah]at h;obtain⟨y,hy,h⟩:=aU.1 h;obtain⟨z,hz,h⟩:=aU.1 h;obtain⟨u,hu,h⟩:=aU.1 h;cases h;simp only[ae,bm]at hc;cases st with|mk slots boxes ep iss io=>simp only at hc hy hz hu;obtain⟨rfl,rfl⟩:=hc;rw[sJ hy,Bj hz,WA hu];rfl
theorem lok {E:Env}{Γ:dK}{an:An}{Λ:dY}{c:Code}(l:da)(h1:Λ (fX c)=l)(n:Nat)(h2:∀(R:Type)(x:l.sd.D)(K:Ex->AS->az R),l.run x K=CX (an.mask (fX c)) (den E Γ an Λ c) n (l.sd.enc x) K):ia E Γ an Λ c:=by refine⟨n,λR st K r h=>?_⟩;rw[h1]at h;unfold da.go at h;cases hd:l.sd.dec st with|none=>rw[hd]at h;cases h|some x=>rw[hd]at h;rw[SD.SX hd,<-h2];exact h
theorem cok {E:Env}{Γ:dK}{an:An}{Λ:dY}{c:Code}(l:da)(h1:Λ (C9 c)=l)(h2:∀(R:Type)(x:l.sd.D)(K:Ex->AS->az R),l.run x K=den E Γ an Λ c (l.sd.enc x) (λe st'=>K e (st'.mask (an.mask (C9 c+1))))):Nr E Γ an Λ c:=by intro R st K r h;rw[h1]at h;unfold da.go at h;cases hd:l.sd.dec st with|none=>rw[hd]at h;cases h|some x=>rw[hd]at h;rw[SD.SX hd,<-h2];exact h
end Go.Dn
