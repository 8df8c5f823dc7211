import Derived.Test.YtainmjjkipbciaaGreatDnLaw
/- Functions by the data that they take; loops by the data that they keep. -/
namespace Go.Dn
variable {v:AV} {f:Nat} {P:Program}
inductive PS where
 |data (g:Bool) (t:CT)|fn (f:Nat)
variable {s:ax PS}
abbrev Bj:ax PS->Type
 |[]=>Unit
 | .data _ t::r=>t.D×Bj r
 | .fn _::r=>Bj r
def rL:(t:CT)->ax AC->aB (t.D×ax AC)
 | .int k,.int k' n::r=>if k'=k then some (n,r) else none
 | .bool,.bool b::r=>some (b,r)
 | .str,.str s::r=>some (s,r)
 | .sl e,.sl (.arg false) e' xs::r=>if h:e'=e then some (h▸xs,r) else none
 | .sl _,.nilsl::r=>some ([],r)
 | .pair a b,cs=>(rL a cs).bind λx=>(rL b x.2).bind λy=>some ((x.1,y.1),y.2)
 |_,_=>none
def nb:(s:ax PS)->ax AV->aB (Bj s)
 |[],[]=>some ()
 | .data g e::s,.val g' cs::xs=>bif g==g' then
  (match rL e cs with
   |some (x,[])=>(nb s xs).bind λr=>some (x,r)
   |_=>none) else none
 | .fn f::s,v::xs=>bif v.WT f then nb s xs else none
 |_,_=>none
def nH:(s:ax PS)->Bj s->ax AV
 |[],_=>[]
 | .data g e::s,a=> .val g (cellsOf e (.arg false) a.1)::nH s a.2
 | .fn f::s,a=> .one (.fn f)::nH s a
theorem Xs {A:Rg}{hw:Nat->Nat}{w:World}:∀{t:CT}{cs r:ax AC}{x:t.D},rL t cs=some (x,r)->∀{vs:iS}{fp:fF},bO (gh A hw w) vs cs fp-> ∃v1 v2 f1 f2,vs=v1++v2/\fp=f1++f2/\bO (gh A hw w) v1 (cellsOf t (.arg false) x) f1/\bO (gh A hw w) v2 r f2:=by
 intro t
 have one:∀{y:AC}{ys:ax AC}{vs:iS}{fp:fF}{z:AC},bO (gh A hw w) vs (y::ys) fp->(∀v f,hG (gh A hw w) v y f->hG (gh A hw w) v z f)->
  ∃v1 v2 f1 f2,vs=v1++v2/\fp=f1++f2/\bO (gh A hw w) v1 [z] f1/\bO (gh A hw w) v2 ys f2:=by
  intro y ys vs fp z h hz
  cases vs with
  |nil=>exact h.elim
  |cons v vs=>
   obtain⟨f1,f2,rfl,h1,h2⟩:=h
   exact⟨[v],vs,f1,f2,rfl,rfl,⟨f1,[],by simp,hz v f1 h1,rfl⟩,h2⟩
 induction t with
 |int k=>intro cs r x h vs fp hr;cases cs with|nil=>simp[rL]at h|cons y ys=>cases y<;>simp[rL]at h;obtain⟨rfl,rfl,rfl⟩:=h;exact one hr λv f h=>h
 |bool=>intro cs r x h vs fp hr;cases cs with|nil=>simp[rL]at h|cons y ys=>cases y<;>simp[rL]at h;obtain⟨rfl,rfl⟩:=h;exact one hr λv f h=>h
 |str=>intro cs r x h vs fp hr;cases cs with|nil=>simp[rL]at h|cons y ys=>cases y<;>simp[rL]at h;obtain⟨rfl,rfl⟩:=h;exact one hr λv f h=>h
 |sl e _=>
  intro cs r x h vs fp hr;cases cs with
  |nil=>simp[rL]at h
  |cons y ys=>
   cases y with
   |sl fl e' xs=>
    cases fl with
    |arg k=>cases k with|true=>simp[rL]at h|false=>simp only[rL]at h;split at h;rename_i he;subst he;cases h;exact one hr λv f h=>h;cases h
    |own t=>simp[rL]at h
    |nest _ _ _ _ _ _=>simp[rL]at h
    |part _ _ _ _=>simp[rL]at h
    |holed _ _ _=>simp[rL]at h
    |loc ep pv=>simp[rL]at h
   |nilsl=>simp[rL]at h;obtain⟨rfl,rfl⟩:=h;refine one hr λv f h=>?_;obtain⟨rfl,rfl⟩:=h;exact⟨rfl,_,rfl,.inl ⟨⟨none,rfl⟩,rfl⟩⟩
   |_=>simp[rL]at h
 |pair a b iha ihb=>intro cs r x h vs fp hr;simp only[rL]at h;obtain⟨⟨x1,r1⟩,h1,h⟩:=aP.1 h;obtain⟨⟨x2,r2⟩,h2,h⟩:=aP.1 h;cases h;obtain⟨v1,v2,f1,f2,rfl,rfl,k1,k2⟩:=iha h1 hr;obtain⟨v3,v4,f3,f4,rfl,rfl,k3,k4⟩:=ihb h2 k2;exact⟨v1++v3,v4,f1++f3,f4,by simp,by simp,by simpa[cellsOf]using bO.append k1 k3,k4⟩
theorem L5 (h:v.WT f=true):v=.one (.fn f):=by
 unfold AV.WT at h;split at h;rename_i f';have:f=f':=by simpa using h
 subst this;rfl;cases h
theorem Tg (h:v.Vi=true):v=.bot:=by unfold AV.Vi at h;split at h;rfl;cases h
theorem Ti {s off:Nat}(h:v.Vj s off=true):v=.one (.ptr s off):=by unfold AV.Vj at h;split at h;simp only[ae,bq]at h;obtain⟨rfl,rfl⟩:=h;rfl;cases h
theorem sJ {A:Rg}{w:World}:∀{s:ax PS}{xs:ax AV}{a:Bj s},nb s xs=some a->∀{vs:iS},oY A w vs xs->oY A w vs (nH s a)
 |[],[],a,_,vs,h=>h
 |[],_::_,_,h,_,_=>by simp[nb]at h
 | .data g e::s,[],_,h,_,_=>by simp[nb]at h
 | .data g e::s,.tup _::xs,_,h,_,_=>by simp[nb]at h
 | .data g e::s,.val g' cs::xs,a,h,vs,hr=>by
  simp only[nb]at h;cases hg:g==g' with
  |false=>rw[hg]at h;cases h
  |true=>
   rw[hg]at h;simp only[ah]at h;have hg':g=g':=by simpa using hg
   subst hg';split at h;rename_i x hx;obtain⟨r,hr',h⟩:=aP.1 h;cases h;cases vs with
   |nil=>exact hr.elim
   |cons v vs=>
    obtain⟨⟨us,hcut,hu⟩,h2⟩:=hr;obtain⟨v1,v2,f1,f2,rfl,hf,k1,k2⟩:=Xs hx hu;have hv2:v2=[]:=by cases v2 with|nil=>rfl|cons _ _=>exact k2.elim
    subst hv2;have hf1:f1=[]:=by have:=hf.symm;simp at this;exact this.1
    subst hf1;rw[bN]at hcut;exact⟨⟨v1,hcut,k1⟩,sJ hr' h2⟩
   cases h
 | .fn f::s,[],a,h,vs,hr=>by simp[nb]at h
 | .fn f::s,v::xs,a,h,vs,hr=>by simp only[nb]at h;cases hg:v.WT f with|false=>rw[hg]at h;cases h|true=>rw[hg]at h;have:=L5 hg;subst this;cases vs with|nil=>exact hr.elim|cons v vs=>exact⟨hr.1,sJ h hr.2⟩
def aU (s:ax PS)(rs:ax (Bool×FT))(F:Bj s->aB (la rs)):bp:={R:=la rs,fn:=λxs=>aa (nb s xs) F,av:=xM rs}
theorem im.of {P:Program}{f:Nat}{s:ax PS}{rs:ax (Bool×FT)}{G:ax AV->aB (la rs)}(h:im P f {R:=la rs,fn:=G,av:=xM rs}){F:Bj s->aB (la rs)}(hF:∀a,G (nH s a)=F a):im P f (aU s rs F):=by
 intro xs y hy;simp only[aU]at hy y;cases ha:nb s xs with
 |none=>rw[ha]at hy;cases hy
 |some a=>
  rw[ha]at hy;have hy':G (nH s a)=some y:=by rw[hF a];exact hy
  have hh:=h (nH s a) y hy';exact⟨hh.1,λ_ _ A w vs hA hr=>hh.2.1 rfl rfl A w vs hA (sJ ha hr),λh=>(by cases h),λh=>(by cases h),λh=>(by cases h)⟩
def yT (s:ax PS)(rs rs2:ax (Bool×FT))(h:la rs2=la rs)(F:Bj s->aB (Bool×la rs)):bp:=
 {R:=Bool×la rs,fn:=λxs=>aa (nb s xs) F,av:=λy=>xM rs y.2,sel:=λy=>y.1,alt:=λy=>xM rs2 (cast h.symm y.2)}
theorem im.ofAlt {rs rs2:ax (Bool×FT)}{h2:la rs2=la rs}{G:ax AV->aB (Bool×la rs)}(h:im P f {R:=Bool×la rs,fn:=G,av:=λy=>xM rs y.2,sel:=λy=>y.1,alt:=λy=>xM rs2 (cast h2.symm y.2)}){F:Bj s->aB (Bool×la rs)}(hF:∀a,G (nH s a)=F a):im P f (yT s rs rs2 h2 F):=by
 intro xs y hy;simp only[yT]at hy y;cases ha:nb s xs with
 |none=>rw[ha]at hy;cases hy
 |some a=>
  rw[ha]at hy;have hy':G (nH s a)=some y:=by rw[hF a];exact hy
  have hh:=h (nH s a) y hy';exact⟨hh.1,λ_ _ A w vs hA hr=>hh.2.1 rfl rfl A w vs hA (sJ ha hr),λh=>(by cases h),λh=>(by cases h),λh=>(by cases h)⟩
def SM (s:ax PS)(rs:ax (Bool×FT))(F:Bj s->aB (Bool×la rs)):bp:=
 {R:=Bool×la rs,fn:=λxs=>aa (nb s xs) λa=>Mh (F a),av:=λy=>xM rs y.2}
theorem im.only {P:Program}{f:Nat}{s:ax PS}{rs rs2:ax (Bool×FT)}{h2:la rs2=la rs}{F:Bj s->aB (Bool×la rs)}(h:im P f (yT s rs rs2 h2 F)):im P f (SM s rs F):=by
 intro xs y hy;simp only[SM]at hy y;cases ha:nb s xs with
 |none=>rw[ha]at hy;cases hy
 |some a=>
  rw[ha]at hy;have hy:Mh (F a)=some y:=hy;unfold Mh at hy;cases hF:F a with
  |none=>rw[hF]at hy;cases hy
  |some r=>
   rw[hF]at hy;cases h1:r.1 with
   |false=>simp only[aa,h1,af]at hy;cases hy
   |true=>
    simp only[aa,h1,ah,bj]at hy;subst hy;have hf:(yT s rs rs2 h2 F).fn xs=some r:=by show aa (nb s xs) F=some r;rw[ha];exact hF
    have hh:=h xs r hf;have hr:(yT s rs rs2 h2 F).res r=xM rs r.2:=by show cond r.1 (xM rs r.2) _=_;rw[h1];rfl
    refine⟨hh.1,λ_ _ A w vs hA hr2=>?_,λh=>(by cases h),λh=>(by cases h),λh=>(by cases h)⟩;have q:=hh.2.1 rfl rfl A w vs hA hr2;rw[hr]at q;exact q
def FT.D4:FT->Bool
 | .sl .arg _=>true
 | .sl .arg0 _=>true
 | .sl _ _=>false
 | .pair a b=>a.D4&&b.D4
 |_=>true
theorem Bn:∀{t:FT},t.D4=true->∀x:t.ct.D,(jt t x).all AC.D4=true
 | .int _,_,_=>rfl
 | .bool,_,_=>rfl
 | .str,_,_=>rfl
 | .sl fl e,h,_=>by cases fl<;>first|rfl|cases h
 | .pair a b,h,x=>by simp only[FT.D4,ae]at h;simp only[jt,List.all_append,ae];exact⟨Bn h.1 x.1,Bn h.2 x.2⟩
def jv (t:FT)(s:ax PS)(rs:ax (Bool×FT))(F:t.ct.D->Bj s->aB (la rs×t.ct.D)):bp:=
 {R:=la rs×t.ct.D,fn:=λxs=>match xs with
  | .val true cs::rest=>(match HR t cs with|some (x,[])=>aa (nb s rest) (F x)|_=>none)
  |_=>none,av:=λy=>xM rs y.1,back:=λy=>jt t y.2,bx:=true,cur:=t.D4,hcur:=λh y=>Bn h y.2}
theorem im.pA {t:FT}{rs:ax (Bool×FT)}{G:ax AV->aB (la rs×t.ct.D)}(h:im P f {R:=la rs×t.ct.D,fn:=G,av:=λy=>xM rs y.1,back:=λy=>jt t y.2,bx:=true}){F:t.ct.D->Bj s->aB (la rs×t.ct.D)}(hF:∀x a,G (.val true (jt t x)::nH s a)=F x a):im P f (jv t s rs F):=by
 intro xs y hy;simp only[jv]at hy y;split at hy;rename_i cs rest;split at hy;rename_i x hx;cases ha:nb s rest with
 |none=>rw[ha]at hy;cases hy
 |some a=>
  rw[ha]at hy;have hy':G (.val true (jt t x)::nH s a)=some y:=by rw[hF x a];exact hy
  have hsp:=we hx;rw[bN]at hsp;have hh:=h _ y hy';refine⟨hh.1,λ_ h=>(by cases h),λh=>(by cases h),λ_ cs0 rest0 he A w b vs arr T fr hw fp hA hblk hth hrel hn hnb hlt hw0 hargs=>?_,λh=>(by cases h)⟩;injection he with he1 he2;injection he1 with _ he3;subst he2;subst he3;rw[hsp]at hrel;exact hh.2.2.2.1 rfl (jt t x) (nH s a) rfl A w b vs arr T fr hw fp hA hblk hth hrel hn hnb hlt hw0 (sJ ha hargs)
 cases hy;cases hy
def SL (t:FT)(s:ax PS)(F:Bj s->aB t.ct.D):bp:=
 {R:=t.ct.D,fn:=λxs=>aa (nb s xs) F,av:=λ_=> .bot,back:=λy=>jt t y,pr:=true}
theorem im.amG {t:FT}{G:ax AV->aB t.ct.D}(h:im P f {R:=t.ct.D,fn:=G,av:=λ_=> .bot,back:=λy=>jt t y,pr:=true}){F:Bj s->aB t.ct.D}(hF:∀a,G (nH s a)=F a):im P f (SL t s F):=by
 intro xs y hy;simp only[SL]at hy y;cases ha:nb s xs with
 |none=>rw[ha]at hy;cases hy
 |some a=>
  rw[ha]at hy;have hy':G (nH s a)=some y:=by rw[hF a];exact hy
  have hh:=h _ y hy';exact⟨hh.1,λh1 h2 A w vs hA hr=>hh.2.1 h1 h2 A w vs hA (sJ ha hr),λh=>(by cases h),λh=>(by cases h),λ_ A w vs hA hr=>hh.2.2.2.2 rfl A w vs hA (sJ ha hr)⟩
theorem Mb {R σ:Type}{key:fF}{B:AS->(Ex->AS->aB R)->aB R}{K:Ex->AS->aB R}(enc:σ->AS)(T:(σ->aB R)->σ->aB R)
 (h:∀m x,Bf key B (m+1) (enc x) K=T (λy=>Bf key B m (enc y) K) x):∀m x,Bf key B m (enc x) K=bm T m x
 |0,_=>rfl
 |m+1,x=>by rw[h m x];have:(λy=>Bf key B m (enc y) K)=bm T m:=funext λy=>Mb enc T h m y;rw[this];rfl
theorem rn:∀{l:ax PD}{vs:ax AV}{x:Gg l},jU l vs=some x->vs=rp l x
 |[],[],_,_=>rfl
 |[],_::_,_,h=>by simp[jU]at h
 | .data g t::l,[],_,h=>by simp[jU]at h
 | .data g t::l,.tup _::vs,_,h=>by simp[jU]at h
 | .data g t::l,.val g' cs::vs,x,h=>by
  simp only[jU]at h;cases hg:g==g' with
  |false=>rw[hg]at h;cases h
  |true=>
   rw[hg]at h;simp only[ah]at h;have hg':g=g':=by simpa using hg
   subst hg';split at h;rename_i y hy;obtain⟨r,hr,h⟩:=aP.1 h;cases h;have h1:=we hy;rw[bN]at h1;rw[rp,h1,rn hr];cases h
 | .bot::l,[],x,h=>by simp[jU]at h
 | .ptr s off::l,[],x,h=>by simp[jU]at h
 | .fn f::l,[],x,h=>by simp[jU]at h
 | .bot::l,v::vs,x,h=>by simp only[jU]at h;cases hg:v.Vi with|false=>rw[hg]at h;cases h|true=>rw[hg]at h;rw[Tg hg,rp,rn (l:=l) h]
 | .ptr s off::l,v::vs,x,h=>by simp only[jU]at h;cases hg:v.Vj s off with|false=>rw[hg]at h;cases h|true=>rw[hg]at h;rw[Ti hg,rp,rn (l:=l) h]
 | .fn f::l,v::vs,x,h=>by simp only[jU]at h;cases hg:v.WT f with|false=>rw[hg]at h;cases h|true=>rw[hg]at h;rw[L5 hg,rp,rn (l:=l) h]
theorem yS:∀{l:ax (aB FT)}{bs:ax (aB (ax AC))}{x:Ft l},pL l bs=some x->bs=zx l x
 |[],[],_,_=>rfl
 |[],_::_,_,h=>by simp[pL]at h
 |some t::l,[],_,h=>by simp[pL]at h
 |none::l,[],_,h=>by simp[pL]at h
 |some t::l,none::bs,_,h=>by simp[pL]at h
 |none::l,some _::bs,_,h=>by simp[pL]at h
 |none::l,none::bs,x,h=>by simp only[pL]at h;rw[zx,yS h]
 |some t::l,some cs::bs,x,h=>by simp only[pL]at h;split at h;rename_i y hy;obtain⟨r,hr,h⟩:=aP.1 h;cases h;have h1:=we hy;rw[bN]at h1;rw[zx,h1,yS hr];cases h
theorem SH:∀{o:IoD}{cs:ax AC}{x:ioD o},Pz o cs=some x->cs=YU o x
 | .none,[],_,_=>rfl
 | .none,_::_,_,h=>by simp[Pz]at h
 | .ptr,cs,x,h=>by simp only[Pz]at h;cases hp:Th cs with|false=>rw[hp]at h;cases h|true=>unfold Th at hp;split at hp;rfl;cases hp
 | .some t,cs,x,h=>by simp only[Pz]at h;split at h;rename_i y hy;cases h;have h1:=we hy;rw[bN]at h1;rw[YU,h1];cases h
theorem SD.PA {d:SD}{st:AS}{x:d.D}(h:d.dec st=some x):st=d.enc x:=by unfold SD.dec at h;cases hc:(st.ep==0&&st.iss==List.replicate d.slots.length false)with|false=>rw[hc]at h;cases h|true=>rw[hc]at h;simp only[ah]at h;obtain⟨y,hy,h⟩:=aP.1 h;obtain⟨z,hz,h⟩:=aP.1 h;obtain⟨u,hu,h⟩:=aP.1 h;cases h;simp only[ae,bq]at hc;cases st with|mk slots boxes ep iss io=>simp only at hc hy hz hu;obtain⟨rfl,rfl⟩:=hc;rw[rn hy,yS hz,SH hu];rfl
theorem lok {E:Env}{Γ:eE}{an:An}{Λ:eP}{c:Code}(l:dI)(h1:Λ (fY c)=l)(n:Nat)(h2:∀(R:Type)(x:l.sd.D)(K:Ex->AS->aB R),l.run x K=Bf (an.mask (fY c)) (den E Γ an Λ c) n (l.sd.enc x) K):jh E Γ an Λ c:=by refine⟨n,λR st K r h=>?_⟩;rw[h1]at h;unfold dI.go at h;cases hd:l.sd.dec st with|none=>rw[hd]at h;cases h|some x=>rw[hd]at h;rw[SD.PA hd,<-h2];exact h
theorem cok {E:Env}{Γ:eE}{an:An}{Λ:eP}{c:Code}(l:dI)(h1:Λ (Bq c)=l)(h2:∀(R:Type)(x:l.sd.D)(K:Ex->AS->aB R),l.run x K=den E Γ an Λ c (l.sd.enc x) (λe st'=>K e (st'.mask (an.mask (Bq c+1))))):Sd E Γ an Λ c:=by intro R st K r h;rw[h1]at h;unfold dI.go at h;cases hd:l.sd.dec st with|none=>rw[hd]at h;cases h|some x=>rw[hd]at h;rw[SD.PA hd,<-h2];exact h
end Go.Dn
