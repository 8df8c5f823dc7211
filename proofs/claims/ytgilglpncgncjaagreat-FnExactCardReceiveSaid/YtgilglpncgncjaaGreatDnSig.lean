import Derived.Test.YtgilglpncgncjaaGreatDnLaw
/- Functions by the data that they take; loops by the data that they keep. -/
namespace Go.Dn
inductive PS where
 |data (g:Bool) (t:CT)|fn (f:Nat)
@[reducible] def yJ:List PS→Type
  |[]=>Unit
  | .data _ t::r=>t.D×yJ r
  | .fn _::r=>yJ r
def nz:(t:CT)→List AC→Option (t.D×List AC)
 | .int k,.int k' n::r=>if k'=k then some (n,r) else none
 | .bool,.bool b::r=>some (b,r)
 | .str,.str s::r=>some (s,r)
 | .sl e,.sl .arg e' xs::r=>if h:e'=e then some (h▸xs,r) else none
 | .sl _,.nilsl::r=>some ([],r)
 | .pair a b,cs=>(nz a cs).bind fun x=>(nz b x.2).bind fun y=>some ((x.1,y.1),y.2)
 |_,_=>none
def ku:(s:List PS)→List AV→Option (yJ s)
 |[],[]=>some ()
 | .data g e::s,.val g' cs::xs=>bif g==g' then
  (match nz e cs with
   |some (x,[])=>(ku s xs).bind fun r=>some (x,r)
   |_=>none) else none
 | .fn f::s,v::xs=>bif v.Q8 f then ku s xs else none
 |_,_=>none
def hY:(s:List PS)→yJ s→List AV
 |[],_=>[]
 | .data g e::s,a=> .val g (cellsOf e .arg a.1)::hY s a.2
 | .fn f::s,a=> .one (.fn f)::hY s a
theorem Rq {A:Nat→Nat→Prop}{hw:Nat→Nat}{w:World}:∀{t:CT}{cs r:List AC}{x:t.D},nz t cs=some (x,r)→∀{vs:List Value}{fp:List Nat},aA (bS A hw w) vs cs fp→
 ∃v1 v2 f1 f2,vs=v1++v2∧fp=f1++f2∧aA (bS A hw w) v1 (cellsOf t .arg x) f1∧aA (bS A hw w) v2 r f2:=by
 intro t
 have one:∀{y:AC}{ys:List AC}{vs:List Value}{fp:List Nat}{z:AC},aA (bS A hw w) vs (y::ys) fp→(∀v f,cG (bS A hw w) v y f→cG (bS A hw w) v z f)→
  ∃v1 v2 f1 f2,vs=v1++v2∧fp=f1++f2∧aA (bS A hw w) v1 [z] f1∧aA (bS A hw w) v2 ys f2:=by
  intro y ys vs fp z h hz
  cases vs with
  |nil=>exact h.elim
  |cons v vs=>
   obtain ⟨f1,f2,rfl,h1,h2⟩:=h
   exact ⟨[v],vs,f1,f2,rfl,rfl,⟨f1,[],by simp,hz v f1 h1,rfl⟩,h2⟩
 induction t with
 |int k=>
  intro cs r x h vs fp hr
  cases cs with
  |nil=>simp [nz] at h
  |cons y ys=>
   cases y<;>simp [nz] at h
   obtain ⟨rfl,rfl,rfl⟩:=h
   exact one hr fun v f h=>h
 |bool=>
  intro cs r x h vs fp hr
  cases cs with
  |nil=>simp [nz] at h
  |cons y ys=>
   cases y<;>simp [nz] at h
   obtain ⟨rfl,rfl⟩:=h
   exact one hr fun v f h=>h
 |str=>
  intro cs r x h vs fp hr
  cases cs with
  |nil=>simp [nz] at h
  |cons y ys=>
   cases y<;>simp [nz] at h
   obtain ⟨rfl,rfl⟩:=h
   exact one hr fun v f h=>h
 |sl e _=>
  intro cs r x h vs fp hr
  cases cs with
  |nil=>simp [nz] at h
  |cons y ys=>
   cases y with
   |sl fl e' xs=>
    cases fl with
    |arg=>
     simp only [nz] at h
     split at h
     ·rename_i he
      subst he
      cases h
      exact one hr fun v f h=>h
     ·cases h
    |own t=>simp [nz] at h
    |nest _ _ _ _ _ _=>simp [nz] at h
    |part _ _ _ _=>simp [nz] at h
    |holed _ _ _=>simp [nz] at h
    |loc ep pv=>simp [nz] at h
   |nilsl=>
    simp [nz] at h
    obtain ⟨rfl,rfl⟩:=h
    refine one hr fun v f h=> ?_
    obtain ⟨rfl,rfl⟩:=h
    exact ⟨rfl,_,rfl,.inl ⟨⟨none,rfl⟩,rfl⟩⟩
   |_=>simp [nz] at h
 |pair a b iha ihb=>
  intro cs r x h vs fp hr
  simp only [nz] at h
  obtain ⟨⟨x1,r1⟩,h1,h⟩:=Option.bind_eq_some_iff.1 h
  obtain ⟨⟨x2,r2⟩,h2,h⟩:=Option.bind_eq_some_iff.1 h
  cases h
  obtain ⟨v1,v2,f1,f2,rfl,rfl,k1,k2⟩:=iha h1 hr
  obtain ⟨v3,v4,f3,f4,rfl,rfl,k3,k4⟩:=ihb h2 k2
  exact ⟨v1++v3,v4,f1++f3,f4,by simp,by simp,by simpa [cellsOf] using aA.append k1 k3,k4⟩
theorem GP {v:AV}{f:Nat}(h:v.Q8 f=true):v= .one (.fn f):=by
 unfold AV.Q8 at h
 split at h
 ·rename_i f'
  have:f=f':=by simpa using h
  subst this;rfl
 ·cases h
theorem NU {v:AV}(h:v.PL=true):v= .bot:=by
 unfold AV.PL at h
 split at h
 ·rfl
 ·cases h
theorem NW {v:AV}{s off:Nat}(h:v.PM s off=true):v= .one (.ptr s off):=by
 unfold AV.PM at h
 split at h
 ·simp only [Bool.and_eq_true,beq_iff_eq] at h
  obtain ⟨rfl,rfl⟩:=h
  rfl
 ·cases h
theorem pG {A:Nat→Nat→Prop}{w:World}:∀{s:List PS}{xs:List AV}{a:yJ s},ku s xs=some a→∀{vs:List Value},kH A w vs xs→kH A w vs (hY s a)
 |[],[],a,_,vs,h=>h
 |[],_::_,_,h,_,_=>by simp [ku] at h
 | .data g e::s,[],_,h,_,_=>by simp [ku] at h
 | .data g e::s,.tup _::xs,_,h,_,_=>by simp [ku] at h
 | .data g e::s,.val g' cs::xs,a,h,vs,hr=>by
   simp only [ku] at h
   cases hg:g==g' with
   |false=>rw [hg] at h;cases h
   |true=>
    rw [hg] at h
    simp only [cond_true] at h
    have hg':g=g':=by simpa using hg
    subst hg'
    split at h
    ·rename_i x hx
     obtain ⟨r,hr',h⟩:=Option.bind_eq_some_iff.1 h
     cases h
     cases vs with
     |nil=>exact hr.elim
     |cons v vs=>
      obtain ⟨⟨us,hcut,hu⟩,h2⟩:=hr
      obtain ⟨v1,v2,f1,f2,rfl,hf,k1,k2⟩:=Rq hx hu
      have hv2:v2=[]:=by
       cases v2 with
       |nil=>rfl
       |cons _ _=>exact k2.elim
      subst hv2
      have hf1:f1=[]:=by
       have:=hf.symm
       simp at this
       exact this.1
      subst hf1
      rw [List.append_nil] at hcut
      exact ⟨⟨v1,hcut,k1⟩,pG hr' h2⟩
    ·cases h
 | .fn f::s,[],a,h,vs,hr=>by simp [ku] at h
 | .fn f::s,v::xs,a,h,vs,hr=>by
   simp only [ku] at h
   cases hg:v.Q8 f with
   |false=>rw [hg] at h;cases h
   |true=>
    rw [hg] at h
    have:=GP hg
    subst this
    cases vs with
    |nil=>exact hr.elim
    |cons v vs=>exact ⟨hr.1,pG h hr.2⟩
def ae (s:List PS)(rs:List (Bool×FT))(F:yJ s→Option (fb rs)):al:={R:=fb rs,fn:=fun xs=>aa (ku s xs) F,av:=sL rs}
theorem ai.of {P:Program}{f:Nat}{s:List PS}{rs:List (Bool×FT)}{G:List AV→Option (fb rs)}(h:ai P f {R:=fb rs,fn:=G,av:=sL rs}){F:yJ s→Option (fb rs)}(hF:∀a,G (hY s a)=F a):ai P f (ae s rs F):=by
 intro xs y hy
 simp only [ae] at hy y
 cases ha:ku s xs with
 |none=>rw [ha] at hy;cases hy
 |some a=>
  rw [ha] at hy
  have hy':G (hY s a)=some y:=by rw [hF a];exact hy
  have hh:=h (hY s a) y hy'
  exact ⟨hh.1,fun _ _ A w vs hA hr=>hh.2.1 rfl rfl A w vs hA (pG ha hr),fun h=>(by cases h),fun h=>(by cases h)⟩
def Nm (s:List PS)(rs rs2:List (Bool×FT))(h:fb rs2=fb rs)(F:yJ s→Option (Bool×fb rs)):al:=
 {R:=Bool×fb rs,fn:=fun xs=>aa (ku s xs) F,av:=fun y=>sL rs y.2,sel:=fun y=>y.1,alt:=fun y=>sL rs2 (cast h.symm y.2)}
theorem ai.ofAlt {P:Program}{f:Nat}{s:List PS}{rs rs2:List (Bool×FT)}{h2:fb rs2=fb rs}{G:List AV→Option (Bool×fb rs)}(h:ai P f {R:=Bool×fb rs,fn:=G,av:=fun y=>sL rs y.2,sel:=fun y=>y.1,alt:=fun y=>sL rs2 (cast h2.symm y.2)})
 {F:yJ s→Option (Bool×fb rs)} (hF:∀a,G (hY s a)=F a):ai P f (Nm s rs rs2 h2 F):=by
 intro xs y hy
 simp only [Nm] at hy y
 cases ha:ku s xs with
 |none=>rw [ha] at hy;cases hy
 |some a=>
  rw [ha] at hy
  have hy':G (hY s a)=some y:=by rw [hF a];exact hy
  have hh:=h (hY s a) y hy'
  exact ⟨hh.1,fun _ _ A w vs hA hr=>hh.2.1 rfl rfl A w vs hA (pG ha hr),fun h=>(by cases h),fun h=>(by cases h)⟩
def pA (t:CT)(gg:Bool)(s:List PS)(rs:List (Bool×FT))(F:t.D→yJ s→Option (fb rs×t.D)):al:=
 {R:=fb rs×t.D,fn:=fun xs=>match xs with
  | .val g cs::rest=>bif gg==g then (match cQ t cs with|some (x,[])=>aa (ku s rest) (F x)|_=>none) else none
  |_=>none,av:=fun y=>sL rs y.1,io:=true,back:=fun y=>cellsOf t (.own none) y.2}
theorem ai.yn {P:Program}{f:Nat}{t:CT}{gg:Bool}{s:List PS}{rs:List (Bool×FT)}{G:List AV→Option (fb rs×t.D)}(h:ai P f {R:=fb rs×t.D,fn:=G,av:=fun y=>sL rs y.1,io:=true,back:=fun y=>cellsOf t (.own none) y.2})
 {F:t.D→yJ s→Option (fb rs×t.D)} (hF:∀x a,G (.val gg (cellsOf t (.own none) x)::hY s a)=F x a):ai P f (pA t gg s rs F):=by
 intro xs y hy
 simp only [pA] at hy y
 split at hy
 ·rename_i g cs rest
  cases hg:(gg==g) with
  |false=>rw [hg] at hy;cases hy
  |true=>
   rw [hg] at hy
   have:gg=g:=by simpa using hg
   subst this
   simp only [cond_true] at hy
   split at hy
   ·rename_i x hx
    cases ha:ku s rest with
    |none=>rw [ha] at hy;cases hy
    |some a=>
     rw [ha] at hy
     have hy':G (.val gg (cellsOf t (.own none) x)::hY s a)=some y:=by rw [hF x a];exact hy
     have hh:=h _ y hy'
     refine ⟨hh.1,fun h=>(by cases h),fun _ g0 cs0 rest0 he A w v0 vs hw fp hA hrel hn hlt hargs=> ?_,fun h=>(by cases h)⟩
     injection he with he1 he2
     injection he1 with he1 he3
     subst he1;subst he2;subst he3
     refine hh.2.2.1 rfl gg (cellsOf t (.own none) x) (hY s a) rfl A w v0 vs hw fp hA ?_ hn hlt (pG ha hargs)
     obtain ⟨us,hcut,hrel⟩:=hrel
     obtain ⟨f1,f2,rfl,hown,hrest⟩:=ez hrel hx
     have hnil:us.drop t.size=[]:=by
      cases hd:us.drop t.size with
      |nil=>rfl
      |cons _ _=>rw [hd] at hrest;exact hrest.elim
     rw [hnil] at hrest
     have hf2:f2=[]:=hrest
     subst hf2
     have htake:us.take t.size=us:=by
      have:=List.take_append_drop t.size us
      rw [hnil,List.append_nil] at this;exact this
     rw [htake] at hown
     rw [List.append_nil]
     exact ⟨us,hcut,gW (c:=bS A hw w) hown⟩
   ·cases hy
 ·cases hy
def Ed (t:CT)(s:List PS)(rs:List (Bool×FT))(F:t.D→yJ s→Option (fb rs×t.D)):al:=
 {R:=fb rs×t.D,fn:=fun xs=>match xs with
  | .val true cs::rest=>(match cQ t cs with|some (x,[])=>aa (ku s rest) (F x)|_=>none)
  |_=>none,av:=fun y=>sL rs y.1,back:=fun y=>cellsOf t (.own none) y.2,bx:=true}
theorem ai.TM {P:Program}{f:Nat}{t:CT}{s:List PS}{rs:List (Bool×FT)}{G:List AV→Option (fb rs×t.D)}(h:ai P f {R:=fb rs×t.D,fn:=G,av:=fun y=>sL rs y.1,back:=fun y=>cellsOf t (.own none) y.2,bx:=true})
 {F:t.D→yJ s→Option (fb rs×t.D)} (hF:∀x a,G (.val true (cellsOf t (.own none) x)::hY s a)=F x a):ai P f (Ed t s rs F):=by
 intro xs y hy
 simp only [Ed] at hy y
 split at hy
 ·rename_i cs rest
  split at hy
  ·rename_i x hx
   cases ha:ku s rest with
   |none=>rw [ha] at hy;cases hy
   |some a=>
    rw [ha] at hy
    have hy':G (.val true (cellsOf t (.own none) x)::hY s a)=some y:=by rw [hF x a];exact hy
    have hh:=h _ y hy'
    refine ⟨hh.1,fun _ h=>(by cases h),fun h=>(by cases h),fun _ cs0 rest0 he A w b vs arr T fr hw fp hA hblk hth hrel hn hnb hlt hw0 hargs=> ?_⟩
    injection he with he1 he2
    injection he1 with _ he3
    subst he2;subst he3
    refine hh.2.2.2 rfl (cellsOf t (.own none) x) (hY s a) rfl A w b vs arr T fr hw fp hA hblk hth ?_ hn hnb hlt hw0 (pG ha hargs)
    obtain ⟨f1,f2,rfl,hown,hrest⟩:=ez hrel hx
    have hnil:arr.toList.drop t.size=[]:=by
     cases hd:arr.toList.drop t.size with
     |nil=>rfl
     |cons _ _=>rw [hd] at hrest;exact hrest.elim
    rw [hnil] at hrest
    have hf2:f2=[]:=hrest
    subst hf2
    have htake:arr.toList.take t.size=arr.toList:=by
     have:=List.take_append_drop t.size arr.toList
     rw [hnil,List.append_nil] at this;exact this
    rw [htake] at hown
    rw [List.append_nil]
    exact gW (c:=bS A hw w) hown
  ·cases hy
 ·cases hy
theorem GW {R σ:Type}{key:List Nat}{B:AS→(Ex→AS→Option R)→Option R}{K:Ex→AS→Option R}(enc:σ→AS)(T:(σ→Option R)→σ→Option R)
 (h:∀m x,wO key B (m+1) (enc x) K=T (fun y=>wO key B m (enc y) K) x):∀m x,wO key B m (enc x) K=ar T m x
 |0,_=>rfl
 |m+1,x=>by
  rw [h m x]
  have:(fun y=>wO key B m (enc y) K)=ar T m:=funext fun y=>GW enc T h m y
  rw [this];rfl
theorem lS:∀{l:List PD}{vs:List AV}{x:BK l},ed l vs=some x→vs=lT l x
 |[],[],_,_=>rfl
 |[],_::_,_,h=>by simp [ed] at h
 | .data g t::l,[],_,h=>by simp [ed] at h
 | .data g t::l,.tup _::vs,_,h=>by simp [ed] at h
 | .data g t::l,.val g' cs::vs,x,h=>by
   simp only [ed] at h
   cases hg:g==g' with
   |false=>rw [hg] at h;cases h
   |true=>
    rw [hg] at h
    simp only [cond_true] at h
    have hg':g=g':=by simpa using hg
    subst hg'
    split at h
    ·rename_i y hy
     obtain ⟨r,hr,h⟩:=Option.bind_eq_some_iff.1 h
     cases h
     have h1:=xi hy
     rw [List.append_nil] at h1
     rw [lT,h1,lS hr]
    ·cases h
 | .bot::l,[],x,h=>by simp [ed] at h
 | .ptr s off::l,[],x,h=>by simp [ed] at h
 | .fn f::l,[],x,h=>by simp [ed] at h
 | .bot::l,v::vs,x,h=>by
   simp only [ed] at h
   cases hg:v.PL with
   |false=>rw [hg] at h;cases h
   |true=>rw [hg] at h;rw [NU hg,lT,lS (l:=l) h]
 | .ptr s off::l,v::vs,x,h=>by
   simp only [ed] at h
   cases hg:v.PM s off with
   |false=>rw [hg] at h;cases h
   |true=>rw [hg] at h;rw [NW hg,lT,lS (l:=l) h]
 | .fn f::l,v::vs,x,h=>by
   simp only [ed] at h
   cases hg:v.Q8 f with
   |false=>rw [hg] at h;cases h
   |true=>rw [hg] at h;rw [GP hg,lT,lS (l:=l) h]
theorem uv:∀{l:List (Option FT)}{bs:List (Option (List AC))}{x:Bb l},jM l bs=some x→bs=uM l x
 |[],[],_,_=>rfl
 |[],_::_,_,h=>by simp [jM] at h
 |some t::l,[],_,h=>by simp [jM] at h
 |none::l,[],_,h=>by simp [jM] at h
 |some t::l,none::bs,_,h=>by simp [jM] at h
 |none::l,some _::bs,_,h=>by simp [jM] at h
 |none::l,none::bs,x,h=>by
  simp only [jM] at h
  rw [uM,uv h]
 |some t::l,some cs::bs,x,h=>by
  simp only [jM] at h
  split at h
  ·rename_i y hy
   obtain ⟨r,hr,h⟩:=Option.bind_eq_some_iff.1 h
   cases h
   have h1:=xi hy
   rw [List.append_nil] at h1
   rw [uM,h1,uv hr]
  ·cases h
theorem Nk:∀{o:IoD}{cs:List AC}{x:ioD o},KE o cs=some x→cs=Su o x
 | .none,[],_,_=>rfl
 | .none,_::_,_,h=>by simp [KE] at h
 | .ptr,cs,x,h=>by
   simp only [KE] at h
   cases hp:NV cs with
   |false=>rw [hp] at h;cases h
   |true=>
    unfold NV at hp
    split at hp
    ·rfl
    ·cases hp
 | .some t,cs,x,h=>by
   simp only [KE] at h
   split at h
   ·rename_i y hy
    cases h
    have h1:=xi hy
    rw [List.append_nil] at h1
    rw [Su,h1]
   ·cases h
theorem SD.Sr {d:SD}{st:AS}{x:d.D}(h:d.dec st=some x):st=d.enc x:=by
 unfold SD.dec at h
 cases hc:(st.ep==0&&st.iss==List.replicate d.slots.length false) with
 |false=>rw [hc] at h;cases h
 |true=>
  rw [hc] at h
  simp only [cond_true] at h
  obtain ⟨y,hy,h⟩:=Option.bind_eq_some_iff.1 h
  obtain ⟨z,hz,h⟩:=Option.bind_eq_some_iff.1 h
  obtain ⟨u,hu,h⟩:=Option.bind_eq_some_iff.1 h
  cases h
  simp only [Bool.and_eq_true,beq_iff_eq] at hc
  cases st with
  |mk slots boxes ep iss io=>
   simp only at hc hy hz hu
   obtain ⟨rfl,rfl⟩:=hc
   rw [lS hy,uv hz,Nk hu]
   rfl
theorem lok {E:Env}{Γ:aJ}{an:An}{Λ:aN}{c:Code}(l:aI)(h1:Λ (cX c)=l)(n:Nat)
 (h2:∀(R:Type)(x:l.sd.D)(K:Ex→AS→Option R),l.run x K=wO (an.mask (cX c)) (den E Γ an Λ c) n (l.sd.enc x) K):bT E Γ an Λ c:=by
 refine ⟨n,fun R st K r h=> ?_⟩
 rw [h1] at h
 unfold aI.go at h
 cases hd:l.sd.dec st with
 |none=>rw [hd] at h;cases h
 |some x=>
  rw [hd] at h
  rw [SD.Sr hd,←h2]
  exact h
end Go.Dn
