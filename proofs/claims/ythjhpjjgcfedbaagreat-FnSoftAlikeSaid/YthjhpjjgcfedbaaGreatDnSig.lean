import Derived.Test.YthjhpjjgcfedbaaGreatDnLaw
/- Functions by the data that they take; loops by the data that they keep. -/
namespace Go.Dn
inductive PS where
 |data (g:Bool) (t:CT)|fn (f:Nat)
abbrev rR:List PS→Type
 |[]=>Unit
 | .data _ t::r=>t.D×rR r
 | .fn _::r=>rR r
def kF:(t:CT)→List AC→Option (t.D×List AC)
 | .int k,.int k' n::r=>if k'=k then some (n,r) else none
 | .bool,.bool b::r=>some (b,r)
 | .str,.str s::r=>some (s,r)
 | .sl e,.sl (.arg false) e' xs::r=>if h:e'=e then some (h▸xs,r) else none
 | .sl _,.nilsl::r=>some ([],r)
 | .pair a b,cs=>(kF a cs).bind λx=>(kF b x.2).bind λy=>some ((x.1,y.1),y.2)
 |_,_=>none
def hY:(s:List PS)→List AV→Option (rR s)
 |[],[]=>some ()
 | .data g e::s,.val g' cs::xs=>bif g==g' then
  (match kF e cs with
   |some (x,[])=>(hY s xs).bind λr=>some (x,r)
   |_=>none) else none
 | .fn f::s,v::xs=>bif v.IT f then hY s xs else none
 |_,_=>none
def fK:(s:List PS)→rR s→List AV
 |[],_=>[]
 | .data g e::s,a=> .val g (cellsOf e (.arg false) a.1)::fK s a.2
 | .fn f::s,a=> .one (.fn f)::fK s a
theorem Jk {A:Rg}{hw:Nat→Nat}{w:World}:∀{t:CT}{cs r:List AC}{x:t.D},kF t cs=some (x,r)→∀{vs:List Value}{fp:List Nat},aR (cH A hw w) vs cs fp→ ∃v1 v2 f1 f2,vs=v1++v2∧fp=f1++f2∧aR (cH A hw w) v1 (cellsOf t (.arg false) x) f1∧aR (cH A hw w) v2 r f2:=by
 intro t
 have one:∀{y:AC}{ys:List AC}{vs:List Value}{fp:List Nat}{z:AC},aR (cH A hw w) vs (y::ys) fp→(∀v f,dB (cH A hw w) v y f→dB (cH A hw w) v z f)→
  ∃v1 v2 f1 f2,vs=v1++v2∧fp=f1++f2∧aR (cH A hw w) v1 [z] f1∧aR (cH A hw w) v2 ys f2:=by
  intro y ys vs fp z h hz
  cases vs with
  |nil=>exact h.elim
  |cons v vs=>
   obtain⟨f1,f2,rfl,h1,h2⟩:=h
   exact⟨[v],vs,f1,f2,rfl,rfl,⟨f1,[],by simp,hz v f1 h1,rfl⟩,h2⟩
 induction t with
 |int k=>intro cs r x h vs fp hr;cases cs with|nil=>simp[kF]at h|cons y ys=>cases y<;>simp[kF]at h;obtain⟨rfl,rfl,rfl⟩:=h;exact one hr λv f h=>h
 |bool=>intro cs r x h vs fp hr;cases cs with|nil=>simp[kF]at h|cons y ys=>cases y<;>simp[kF]at h;obtain⟨rfl,rfl⟩:=h;exact one hr λv f h=>h
 |str=>intro cs r x h vs fp hr;cases cs with|nil=>simp[kF]at h|cons y ys=>cases y<;>simp[kF]at h;obtain⟨rfl,rfl⟩:=h;exact one hr λv f h=>h
 |sl e _=>
  intro cs r x h vs fp hr;cases cs with
  |nil=>simp[kF]at h
  |cons y ys=>
   cases y with
   |sl fl e' xs=>
    cases fl with
    |arg k=>cases k with|true=>simp[kF]at h|false=>simp only[kF]at h;split at h;rename_i he;subst he;cases h;exact one hr λv f h=>h;cases h
    |own t=>simp[kF]at h
    |nest _ _ _ _ _ _=>simp[kF]at h
    |part _ _ _ _=>simp[kF]at h
    |holed _ _ _=>simp[kF]at h
    |loc ep pv=>simp[kF]at h
   |nilsl=>simp[kF]at h;obtain⟨rfl,rfl⟩:=h;refine one hr λv f h=>?_;obtain⟨rfl,rfl⟩:=h;exact⟨rfl,_,rfl,.inl ⟨⟨none,rfl⟩,rfl⟩⟩
   |_=>simp[kF]at h
 |pair a b iha ihb=>intro cs r x h vs fp hr;simp only[kF]at h;obtain⟨⟨x1,r1⟩,h1,h⟩:=ax.1 h;obtain⟨⟨x2,r2⟩,h2,h⟩:=ax.1 h;cases h;obtain⟨v1,v2,f1,f2,rfl,rfl,k1,k2⟩:=iha h1 hr;obtain⟨v3,v4,f3,f4,rfl,rfl,k3,k4⟩:=ihb h2 k2;exact⟨v1++v3,v4,f1++f3,f4,by simp,by simp,by simpa[cellsOf]using aR.append k1 k3,k4⟩
theorem Az {v:AV}{f:Nat}(h:v.IT f=true):v=.one (.fn f):=by
 unfold AV.IT at h;split at h;rename_i f';have:f=f':=by simpa using h
 subst this;rfl;cases h
theorem Gm {v:AV}(h:v.HL=true):v=.bot:=by unfold AV.HL at h;split at h;rfl;cases h
theorem Gp {v:AV}{s off:Nat}(h:v.HM s off=true):v=.one (.ptr s off):=by unfold AV.HM at h;split at h;simp only[ab,aQ]at h;obtain⟨rfl,rfl⟩:=h;rfl;cases h
theorem ju {A:Rg}{w:World}:∀{s:List PS}{xs:List AV}{a:rR s},hY s xs=some a→∀{vs:List Value},gy A w vs xs→gy A w vs (fK s a)
 |[],[],a,_,vs,h=>h
 |[],_::_,_,h,_,_=>by simp[hY]at h
 | .data g e::s,[],_,h,_,_=>by simp[hY]at h
 | .data g e::s,.tup _::xs,_,h,_,_=>by simp[hY]at h
 | .data g e::s,.val g' cs::xs,a,h,vs,hr=>by
  simp only[hY]at h;cases hg:g==g' with
  |false=>rw[hg]at h;cases h
  |true=>
   rw[hg]at h;simp only[ah]at h;have hg':g=g':=by simpa using hg
   subst hg';split at h;rename_i x hx;obtain⟨r,hr',h⟩:=ax.1 h;cases h;cases vs with
   |nil=>exact hr.elim
   |cons v vs=>
    obtain⟨⟨us,hcut,hu⟩,h2⟩:=hr;obtain⟨v1,v2,f1,f2,rfl,hf,k1,k2⟩:=Jk hx hu;have hv2:v2=[]:=by cases v2 with|nil=>rfl|cons _ _=>exact k2.elim
    subst hv2;have hf1:f1=[]:=by have:=hf.symm;simp at this;exact this.1
    subst hf1;rw[aU]at hcut;exact⟨⟨v1,hcut,k1⟩,ju hr' h2⟩
   cases h
 | .fn f::s,[],a,h,vs,hr=>by simp[hY]at h
 | .fn f::s,v::xs,a,h,vs,hr=>by simp only[hY]at h;cases hg:v.IT f with|false=>rw[hg]at h;cases h|true=>rw[hg]at h;have:=Az hg;subst this;cases vs with|nil=>exact hr.elim|cons v vs=>exact⟨hr.1,ju h hr.2⟩
def aN (s:List PS)(rs:List (Bool×FT))(F:rR s→Option (fG rs)):aW:={R:=fG rs,fn:=λxs=>aa (hY s xs) F,av:=ot rs}
theorem aP.of {P:Program}{f:Nat}{s:List PS}{rs:List (Bool×FT)}{G:List AV→Option (fG rs)}(h:aP P f {R:=fG rs,fn:=G,av:=ot rs}){F:rR s→Option (fG rs)}(hF:∀a,G (fK s a)=F a):aP P f (aN s rs F):=by
 intro xs y hy;simp only[aN]at hy y;cases ha:hY s xs with
 |none=>rw[ha]at hy;cases hy
 |some a=>
  rw[ha]at hy;have hy':G (fK s a)=some y:=by rw[hF a];exact hy
  have hh:=h (fK s a) y hy';exact⟨hh.1,λ_ _ A w vs hA hr=>hh.2.1 rfl rfl A w vs hA (ju ha hr),λh=>(by cases h),λh=>(by cases h),λh=>(by cases h)⟩
def Kt (s:List PS)(rs rs2:List (Bool×FT))(h:fG rs2=fG rs)(F:rR s→Option (Bool×fG rs)):aW:=
 {R:=Bool×fG rs,fn:=λxs=>aa (hY s xs) F,av:=λy=>ot rs y.2,sel:=λy=>y.1,alt:=λy=>ot rs2 (cast h.symm y.2)}
theorem aP.ofAlt {P:Program}{f:Nat}{s:List PS}{rs rs2:List (Bool×FT)}{h2:fG rs2=fG rs}{G:List AV→Option (Bool×fG rs)}(h:aP P f {R:=Bool×fG rs,fn:=G,av:=λy=>ot rs y.2,sel:=λy=>y.1,alt:=λy=>ot rs2 (cast h2.symm y.2)}){F:rR s→Option (Bool×fG rs)}(hF:∀a,G (fK s a)=F a):aP P f (Kt s rs rs2 h2 F):=by
 intro xs y hy;simp only[Kt]at hy y;cases ha:hY s xs with
 |none=>rw[ha]at hy;cases hy
 |some a=>
  rw[ha]at hy;have hy':G (fK s a)=some y:=by rw[hF a];exact hy
  have hh:=h (fK s a) y hy';exact⟨hh.1,λ_ _ A w vs hA hr=>hh.2.1 rfl rfl A w vs hA (ju ha hr),λh=>(by cases h),λh=>(by cases h),λh=>(by cases h)⟩
def N0 (t:CT)(gg:Bool)(s:List PS)(rs:List (Bool×FT))(F:t.D→rR s→Option (fG rs×t.D)):aW:=
 {R:=fG rs×t.D,fn:=λxs=>match xs with
  | .val g cs::rest=>bif gg==g then(match ej t cs with|some (x,[])=>aa (hY s rest) (F x)|_=>none) else none
  |_=>none,av:=λy=>ot rs y.1,io:=true,back:=λy=>cellsOf t (.own none) y.2}
theorem aP.aab {P:Program}{f:Nat}{t:CT}{gg:Bool}{s:List PS}{rs:List (Bool×FT)}{G:List AV→Option (fG rs×t.D)}(h:aP P f {R:=fG rs×t.D,fn:=G,av:=λy=>ot rs y.1,io:=true,back:=λy=>cellsOf t (.own none) y.2}){F:t.D→rR s→Option (fG rs×t.D)}(hF:∀x a,G (.val gg (cellsOf t (.own none) x)::fK s a)=F x a):aP P f (N0 t gg s rs F):=by
 intro xs y hy;simp only[N0]at hy y;split at hy;rename_i g cs rest;cases hg:(gg==g)with
 |false=>rw[hg]at hy;cases hy
 |true=>
  rw[hg]at hy;have:gg=g:=by simpa using hg
  subst this;simp only[ah]at hy;split at hy;rename_i x hx;cases ha:hY s rest with
  |none=>rw[ha]at hy;cases hy
  |some a=>
   rw[ha]at hy;have hy':G (.val gg (cellsOf t (.own none) x)::fK s a)=some y:=by rw[hF x a];exact hy
   have hh:=h _ y hy';refine⟨hh.1,λh=>(by cases h),λ_ g0 cs0 rest0 he A w v0 vs hw fp hA hrel hn hlt hargs=>?_,λh=>(by cases h),λh=>(by cases h)⟩;injection he with he1 he2;injection he1 with he1 he3;subst he1;subst he2;subst he3;refine hh.2.2.1 rfl gg (cellsOf t (.own none) x) (fK s a) rfl A w v0 vs hw fp hA ?_ hn hlt (ju ha hargs);obtain⟨us,hcut,hrel⟩:=hrel;obtain⟨f1,f2,rfl,hown,hrest⟩:=g8 hrel hx;have hnil:us.drop t.size=[]:=by cases hd:us.drop t.size with|nil=>rfl|cons _ _=>rw[hd]at hrest;exact hrest.elim
   rw[hnil]at hrest;have hf2:f2=[]:=hrest;subst hf2;have htake:us.take t.size=us:=by have:=bu t.size us;rw[hnil,aU]at this;exact this
   rw[htake]at hown;rw[aU];exact⟨us,hcut,jS (c:=cH A hw w) hown⟩
  cases hy
 cases hy
def FT.ui:FT→Bool
 | .sl .arg _=>true
 | .sl .arg0 _=>true
 | .sl _ _=>false
 | .pair a b=>a.ui&&b.ui
 |_=>true
theorem sa:∀{t:FT},t.ui=true→∀x:t.ct.D,(eJ t x).all AC.ui=true
 | .int _,_,_=>rfl
 | .bool,_,_=>rfl
 | .str,_,_=>rfl
 | .sl fl e,h,_=>by cases fl<;>first|rfl|cases h
 | .pair a b,h,x=>by simp only[FT.ui,ab]at h;simp only[eJ,List.all_append,ab];exact⟨sa h.1 x.1,sa h.2 x.2⟩
def fb (t:FT)(s:List PS)(rs:List (Bool×FT))(F:t.ct.D→rR s→Option (fG rs×t.ct.D)):aW:=
 {R:=fG rs×t.ct.D,fn:=λxs=>match xs with
  | .val true cs::rest=>(match xg t cs with|some (x,[])=>aa (hY s rest) (F x)|_=>none)
  |_=>none,av:=λy=>ot rs y.1,back:=λy=>eJ t y.2,bx:=true,cur:=t.ui,hcur:=λh y=>sa h y.2}
theorem aP.kl {P:Program}{f:Nat}{t:FT}{s:List PS}{rs:List (Bool×FT)}{G:List AV→Option (fG rs×t.ct.D)}(h:aP P f {R:=fG rs×t.ct.D,fn:=G,av:=λy=>ot rs y.1,back:=λy=>eJ t y.2,bx:=true}){F:t.ct.D→rR s→Option (fG rs×t.ct.D)}(hF:∀x a,G (.val true (eJ t x)::fK s a)=F x a):aP P f (fb t s rs F):=by
 intro xs y hy;simp only[fb]at hy y;split at hy;rename_i cs rest;split at hy;rename_i x hx;cases ha:hY s rest with
 |none=>rw[ha]at hy;cases hy
 |some a=>
  rw[ha]at hy;have hy':G (.val true (eJ t x)::fK s a)=some y:=by rw[hF x a];exact hy
  have hsp:=nS hx;rw[aU]at hsp;have hh:=h _ y hy';refine⟨hh.1,λ_ h=>(by cases h),λh=>(by cases h),λ_ cs0 rest0 he A w b vs arr T fr hw fp hA hblk hth hrel hn hnb hlt hw0 hargs=>?_,λh=>(by cases h)⟩;injection he with he1 he2;injection he1 with _ he3;subst he2;subst he3;rw[hsp]at hrel;exact hh.2.2.2.1 rfl (eJ t x) (fK s a) rfl A w b vs arr T fr hw fp hA hblk hth hrel hn hnb hlt hw0 (ju ha hargs)
 cases hy;cases hy
def FV (t:FT)(s:List PS)(F:rR s→Option t.ct.D):aW:=
 {R:=t.ct.D,fn:=λxs=>aa (hY s xs) F,av:=λ_=> .bot,back:=λy=>eJ t y,pr:=true}
theorem aP.UQ {P:Program}{f:Nat}{t:FT}{s:List PS}{G:List AV→Option t.ct.D}(h:aP P f {R:=t.ct.D,fn:=G,av:=λ_=> .bot,back:=λy=>eJ t y,pr:=true}){F:rR s→Option t.ct.D}(hF:∀a,G (fK s a)=F a):aP P f (FV t s F):=by
 intro xs y hy;simp only[FV]at hy y;cases ha:hY s xs with
 |none=>rw[ha]at hy;cases hy
 |some a=>
  rw[ha]at hy;have hy':G (fK s a)=some y:=by rw[hF a];exact hy
  have hh:=h _ y hy';exact⟨hh.1,λh1 h2 A w vs hA hr=>hh.2.1 h1 h2 A w vs hA (ju ha hr),λh=>(by cases h),λh=>(by cases h),λ_ A w vs hA hr=>hh.2.2.2.2 rfl A w vs hA (ju ha hr)⟩
theorem AF {R σ:Type}{key:List Nat}{B:AS→(Ex→AS→Option R)→Option R}{K:Ex→AS→Option R}(enc:σ→AS)(T:(σ→Option R)→σ→Option R)
 (h:∀m x,rN key B (m+1) (enc x) K=T (λy=>rN key B m (enc y) K) x):∀m x,rN key B m (enc x) K=aZ T m x
 |0,_=>rfl
 |m+1,x=>by rw[h m x];have:(λy=>rN key B m (enc y) K)=aZ T m:=funext λy=>AF enc T h m y;rw[this];rfl
theorem ku:∀{l:List PD}{vs:List AV}{x:vZ l},eZ l vs=some x→vs=kv l x
 |[],[],_,_=>rfl
 |[],_::_,_,h=>by simp[eZ]at h
 | .data g t::l,[],_,h=>by simp[eZ]at h
 | .data g t::l,.tup _::vs,_,h=>by simp[eZ]at h
 | .data g t::l,.val g' cs::vs,x,h=>by
  simp only[eZ]at h;cases hg:g==g' with
  |false=>rw[hg]at h;cases h
  |true=>
   rw[hg]at h;simp only[ah]at h;have hg':g=g':=by simpa using hg
   subst hg';split at h;rename_i y hy;obtain⟨r,hr,h⟩:=ax.1 h;cases h;have h1:=nS hy;rw[aU]at h1;rw[kv,h1,ku hr];cases h
 | .bot::l,[],x,h=>by simp[eZ]at h
 | .ptr s off::l,[],x,h=>by simp[eZ]at h
 | .fn f::l,[],x,h=>by simp[eZ]at h
 | .bot::l,v::vs,x,h=>by simp only[eZ]at h;cases hg:v.HL with|false=>rw[hg]at h;cases h|true=>rw[hg]at h;rw[Gm hg,kv,ku (l:=l) h]
 | .ptr s off::l,v::vs,x,h=>by simp only[eZ]at h;cases hg:v.HM s off with|false=>rw[hg]at h;cases h|true=>rw[hg]at h;rw[Gp hg,kv,ku (l:=l) h]
 | .fn f::l,v::vs,x,h=>by simp only[eZ]at h;cases hg:v.IT f with|false=>rw[hg]at h;cases h|true=>rw[hg]at h;rw[Az hg,kv,ku (l:=l) h]
theorem qm:∀{l:List (Option FT)}{bs:List (Option (List AC))}{x:vq l},jm l bs=some x→bs=qB l x
 |[],[],_,_=>rfl
 |[],_::_,_,h=>by simp[jm]at h
 |some t::l,[],_,h=>by simp[jm]at h
 |none::l,[],_,h=>by simp[jm]at h
 |some t::l,none::bs,_,h=>by simp[jm]at h
 |none::l,some _::bs,_,h=>by simp[jm]at h
 |none::l,none::bs,x,h=>by simp only[jm]at h;rw[qB,qm h]
 |some t::l,some cs::bs,x,h=>by simp only[jm]at h;split at h;rename_i y hy;obtain⟨r,hr,h⟩:=ax.1 h;cases h;have h1:=nS hy;rw[aU]at h1;rw[qB,h1,qm hr];cases h
theorem FQ:∀{o:Rj}{cs:List AC}{x:U3 o},Dp o cs=some x→cs=Ks o x
 | .none,[],_,_=>rfl
 | .none,_::_,_,h=>by simp[Dp]at h
 | .ptr,cs,x,h=>by simp only[Dp]at h;cases hp:Gn cs with|false=>rw[hp]at h;cases h|true=>unfold Gn at hp;split at hp;rfl;cases hp
 | .some t,cs,x,h=>by simp only[Dp]at h;split at h;rename_i y hy;cases h;have h1:=nS hy;rw[aU]at h1;rw[Ks,h1];cases h
theorem SD.Dq {d:SD}{st:AS}{x:d.D}(h:d.dec st=some x):st=d.enc x:=by unfold SD.dec at h;cases hc:(st.ep==0&&st.iss==List.replicate d.slots.length false)with|false=>rw[hc]at h;cases h|true=>rw[hc]at h;simp only[ah]at h;obtain⟨y,hy,h⟩:=ax.1 h;obtain⟨z,hz,h⟩:=ax.1 h;obtain⟨u,hu,h⟩:=ax.1 h;cases h;simp only[ab,aQ]at hc;cases st with|mk slots boxes ep iss io=>simp only at hc hy hz hu;obtain⟨rfl,rfl⟩:=hc;rw[ku hy,qm hz,FQ hu];rfl
theorem lok {E:Env}{Γ:cD}{an:An}{Λ:cY}{c:Code}(l:cA)(h1:Λ (db c)=l)(n:Nat)(h2:∀(R:Type)(x:l.sd.D)(K:Ex→AS→Option R),l.run x K=rN (an.mask (db c)) (den E Γ an Λ c) n (l.sd.enc x) K):g7 E Γ an Λ c:=by refine⟨n,λR st K r h=>?_⟩;rw[h1]at h;unfold cA.go at h;cases hd:l.sd.dec st with|none=>rw[hd]at h;cases h|some x=>rw[hd]at h;rw[SD.Dq hd,←h2];exact h
theorem cok {E:Env}{Γ:cD}{an:An}{Λ:cY}{c:Code}(l:cA)(h1:Λ (se c)=l)(h2:∀(R:Type)(x:l.sd.D)(K:Ex→AS→Option R),l.run x K=den E Γ an Λ c (l.sd.enc x) (λe st'=>K e (st'.mask (an.mask (se c+1))))):Fk E Γ an Λ c:=by intro R st K r h;rw[h1]at h;unfold cA.go at h;cases hd:l.sd.dec st with|none=>rw[hd]at h;cases h|some x=>rw[hd]at h;rw[SD.Dq hd,←h2];exact h
end Go.Dn
