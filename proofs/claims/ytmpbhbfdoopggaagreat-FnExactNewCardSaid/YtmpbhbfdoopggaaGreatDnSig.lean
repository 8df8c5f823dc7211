import Derived.Test.YtmpbhbfdoopggaaGreatDnLaw
/- Functions by the data that they take; loops by the data that they keep. -/
namespace Go.Dn
inductive PS where
 |data (g:Bool) (t:CT)|fn (f:Nat)
@[reducible] def sQ:List PS→Type
  |[]=>Unit
  | .data _ t::r=>t.D×sQ r
  | .fn _::r=>sQ r
def ka:(t:CT)→List AC→Option (t.D×List AC)
 | .int k,.int k' n::r=>if k'=k then some (n,r) else none
 | .bool,.bool b::r=>some (b,r)
 | .str,.str s::r=>some (s,r)
 | .sl e,.sl .arg e' xs::r=>if h:e'=e then some (h▸xs,r) else none
 | .sl _,.nilsl::r=>some ([],r)
 | .pair a b,cs=>(ka a cs).bind fun x=>(ka b x.2).bind fun y=>some ((x.1,y.1),y.2)
 |_,_=>none
def g6:(s:List PS)→List AV→Option (sQ s)
 |[],[]=>some ()
 | .data g e::s,.val g' cs::xs=>bif g==g' then
  (match ka e cs with
   |some (x,[])=>(g6 s xs).bind fun r=>some (x,r)
   |_=>none) else none
 | .fn f::s,v::xs=>bif v.HQ f then g6 s xs else none
 |_,_=>none
def fe:(s:List PS)→sQ s→List AV
 |[],_=>[]
 | .data g e::s,a=> .val g (cellsOf e .arg a.1)::fe s a.2
 | .fn f::s,a=> .one (.fn f)::fe s a
theorem Ib {A:Nat→Nat→Prop}{hw:Nat→Nat}{w:World}:∀{t:CT}{cs r:List AC}{x:t.D},ka t cs=some (x,r)→∀{vs:List Value}{fp:List Nat},ax (bu A hw w) vs cs fp→
 ∃v1 v2 f1 f2,vs=v1++v2∧fp=f1++f2∧ax (bu A hw w) v1 (cellsOf t .arg x) f1∧ax (bu A hw w) v2 r f2:=by
 intro t
 have one:∀{y:AC}{ys:List AC}{vs:List Value}{fp:List Nat}{z:AC},ax (bu A hw w) vs (y::ys) fp→(∀v f,bP (bu A hw w) v y f→bP (bu A hw w) v z f)→
  ∃v1 v2 f1 f2,vs=v1++v2∧fp=f1++f2∧ax (bu A hw w) v1 [z] f1∧ax (bu A hw w) v2 ys f2:=by
  intro y ys vs fp z h hz
  cases vs with
  |nil=>exact h.elim
  |cons v vs=>
   obtain ⟨f1,f2,rfl,h1,h2⟩:=h
   exact ⟨[v],vs,f1,f2,rfl,rfl,⟨f1,[],by simp,hz v f1 h1,rfl⟩,h2⟩
 induction t with
 |int k=>
  intro cs r x h vs fp hr
  cases cs with
  |nil=>simp [ka] at h
  |cons y ys=>
   cases y<;>simp [ka] at h
   obtain ⟨rfl,rfl,rfl⟩:=h
   exact one hr fun v f h=>h
 |bool=>
  intro cs r x h vs fp hr
  cases cs with
  |nil=>simp [ka] at h
  |cons y ys=>
   cases y<;>simp [ka] at h
   obtain ⟨rfl,rfl⟩:=h
   exact one hr fun v f h=>h
 |str=>
  intro cs r x h vs fp hr
  cases cs with
  |nil=>simp [ka] at h
  |cons y ys=>
   cases y<;>simp [ka] at h
   obtain ⟨rfl,rfl⟩:=h
   exact one hr fun v f h=>h
 |sl e _=>
  intro cs r x h vs fp hr
  cases cs with
  |nil=>simp [ka] at h
  |cons y ys=>
   cases y with
   |sl fl e' xs=>
    cases fl with
    |arg=>
     simp only [ka] at h
     split at h
     ·rename_i he
      subst he
      cases h
      exact one hr fun v f h=>h
     ·cases h
    |own t=>simp [ka] at h
    |nest _ _ _ _ _ _=>simp [ka] at h
    |part _ _ _ _=>simp [ka] at h
    |holed _ _ _=>simp [ka] at h
    |loc ep pv=>simp [ka] at h
   |nilsl=>
    simp [ka] at h
    obtain ⟨rfl,rfl⟩:=h
    refine one hr fun v f h=> ?_
    obtain ⟨rfl,rfl⟩:=h
    exact ⟨rfl,_,rfl,.inl ⟨⟨none,rfl⟩,rfl⟩⟩
   |_=>simp [ka] at h
 |pair a b iha ihb=>
  intro cs r x h vs fp hr
  simp only [ka] at h
  obtain ⟨⟨x1,r1⟩,h1,h⟩:=Option.bind_eq_some_iff.1 h
  obtain ⟨⟨x2,r2⟩,h2,h⟩:=Option.bind_eq_some_iff.1 h
  cases h
  obtain ⟨v1,v2,f1,f2,rfl,rfl,k1,k2⟩:=iha h1 hr
  obtain ⟨v3,v4,f3,f4,rfl,rfl,k3,k4⟩:=ihb h2 k2
  exact ⟨v1++v3,v4,f1++f3,f4,by simp,by simp,by simpa [cellsOf] using ax.append k1 k3,k4⟩
theorem zn {v:AV}{f:Nat}(h:v.HQ f=true):v= .one (.fn f):=by
 unfold AV.HQ at h
 split at h
 ·rename_i f'
  have:f=f':=by simpa using h
  subst this;rfl
 ·cases h
theorem Ff {v:AV}(h:v.GP=true):v= .bot:=by
 unfold AV.GP at h
 split at h
 ·rfl
 ·cases h
theorem Fh {v:AV}{s off:Nat}(h:v.GQ s off=true):v= .one (.ptr s off):=by
 unfold AV.GQ at h
 split at h
 ·simp only [Bool.and_eq_true,beq_iff_eq] at h
  obtain ⟨rfl,rfl⟩:=h
  rfl
 ·cases h
theorem ly {A:Nat→Nat→Prop}{w:World}:∀{s:List PS}{xs:List AV}{a:sQ s},g6 s xs=some a→∀{vs:List Value},hH A w vs xs→hH A w vs (fe s a)
 |[],[],a,_,vs,h=>h
 |[],_::_,_,h,_,_=>by simp [g6] at h
 | .data g e::s,[],_,h,_,_=>by simp [g6] at h
 | .data g e::s,.tup _::xs,_,h,_,_=>by simp [g6] at h
 | .data g e::s,.val g' cs::xs,a,h,vs,hr=>by
   simp only [g6] at h
   cases hg:g==g' with
   |false=>rw [hg] at h;cases h
   |true=>
    rw [hg] at h
    simp only [cond_true] at h
    have hg':g=g':=by simpa using hg
    subst hg'
    split at h
    ·rename_i x hx
     obtain ⟨r,hr',h⟩:=Option.bind_eq_some_iff.1 h
     cases h
     cases vs with
     |nil=>exact hr.elim
     |cons v vs=>
      obtain ⟨⟨us,hcut,hu⟩,h2⟩:=hr
      obtain ⟨v1,v2,f1,f2,rfl,hf,k1,k2⟩:=Ib hx hu
      have hv2:v2=[]:=by
       cases v2 with
       |nil=>rfl
       |cons _ _=>exact k2.elim
      subst hv2
      have hf1:f1=[]:=by
       have:=hf.symm
       simp at this
       exact this.1
      subst hf1
      rw [List.append_nil] at hcut
      exact ⟨⟨v1,hcut,k1⟩,ly hr' h2⟩
    ·cases h
 | .fn f::s,[],a,h,vs,hr=>by simp [g6] at h
 | .fn f::s,v::xs,a,h,vs,hr=>by
   simp only [g6] at h
   cases hg:v.HQ f with
   |false=>rw [hg] at h;cases h
   |true=>
    rw [hg] at h
    have:=zn hg
    subst this
    cases vs with
    |nil=>exact hr.elim
    |cons v vs=>exact ⟨hr.1,ly h hr.2⟩
def ah (s:List PS)(rs:List (Bool×FT))(F:sQ s→Option (dB rs)):aq:={R:=dB rs,fn:=fun xs=>aa (g6 s xs) F,av:=ny rs}
theorem ak.of {P:Program}{f:Nat}{s:List PS}{rs:List (Bool×FT)}{G:List AV→Option (dB rs)}(h:ak P f {R:=dB rs,fn:=G,av:=ny rs}){F:sQ s→Option (dB rs)}(hF:∀a,G (fe s a)=F a):ak P f (ah s rs F):=by
 intro xs y hy
 simp only [ah] at hy y
 cases ha:g6 s xs with
 |none=>rw [ha] at hy;cases hy
 |some a=>
  rw [ha] at hy
  have hy':G (fe s a)=some y:=by rw [hF a];exact hy
  have hh:=h (fe s a) y hy'
  exact ⟨hh.1,fun _ _ A w vs hA hr=>hh.2.1 rfl rfl A w vs hA (ly ha hr),fun h=>(by cases h),fun h=>(by cases h)⟩
def I9 (s:List PS)(rs rs2:List (Bool×FT))(h:dB rs2=dB rs)(F:sQ s→Option (Bool×dB rs)):aq:=
 {R:=Bool×dB rs,fn:=fun xs=>aa (g6 s xs) F,av:=fun y=>ny rs y.2,sel:=fun y=>y.1,alt:=fun y=>ny rs2 (cast h.symm y.2)}
theorem ak.ofAlt {P:Program}{f:Nat}{s:List PS}{rs rs2:List (Bool×FT)}{h2:dB rs2=dB rs}{G:List AV→Option (Bool×dB rs)}(h:ak P f {R:=Bool×dB rs,fn:=G,av:=fun y=>ny rs y.2,sel:=fun y=>y.1,alt:=fun y=>ny rs2 (cast h2.symm y.2)})
 {F:sQ s→Option (Bool×dB rs)} (hF:∀a,G (fe s a)=F a):ak P f (I9 s rs rs2 h2 F):=by
 intro xs y hy
 simp only [I9] at hy y
 cases ha:g6 s xs with
 |none=>rw [ha] at hy;cases hy
 |some a=>
  rw [ha] at hy
  have hy':G (fe s a)=some y:=by rw [hF a];exact hy
  have hh:=h (fe s a) y hy'
  exact ⟨hh.1,fun _ _ A w vs hA hr=>hh.2.1 rfl rfl A w vs hA (ly ha hr),fun h=>(by cases h),fun h=>(by cases h)⟩
def iP (t:CT)(gg:Bool)(s:List PS)(rs:List (Bool×FT))(F:t.D→sQ s→Option (dB rs×t.D)):aq:=
 {R:=dB rs×t.D,fn:=fun xs=>match xs with
  | .val g cs::rest=>bif gg==g then (match bS t cs with|some (x,[])=>aa (g6 s rest) (F x)|_=>none) else none
  |_=>none,av:=fun y=>ny rs y.1,io:=true,back:=fun y=>cellsOf t (.own none) y.2}
theorem ak.qo {P:Program}{f:Nat}{t:CT}{gg:Bool}{s:List PS}{rs:List (Bool×FT)}{G:List AV→Option (dB rs×t.D)}(h:ak P f {R:=dB rs×t.D,fn:=G,av:=fun y=>ny rs y.1,io:=true,back:=fun y=>cellsOf t (.own none) y.2})
 {F:t.D→sQ s→Option (dB rs×t.D)} (hF:∀x a,G (.val gg (cellsOf t (.own none) x)::fe s a)=F x a):ak P f (iP t gg s rs F):=by
 intro xs y hy
 simp only [iP] at hy y
 split at hy
 ·rename_i g cs rest
  cases hg:(gg==g) with
  |false=>rw [hg] at hy;cases hy
  |true=>
   rw [hg] at hy
   have:gg=g:=by simpa using hg
   subst this
   simp only [cond_true] at hy
   split at hy
   ·rename_i x hx
    cases ha:g6 s rest with
    |none=>rw [ha] at hy;cases hy
    |some a=>
     rw [ha] at hy
     have hy':G (.val gg (cellsOf t (.own none) x)::fe s a)=some y:=by rw [hF x a];exact hy
     have hh:=h _ y hy'
     refine ⟨hh.1,fun h=>(by cases h),fun _ g0 cs0 rest0 he A w v0 vs hw fp hA hrel hn hlt hargs=> ?_,fun h=>(by cases h)⟩
     injection he with he1 he2
     injection he1 with he1 he3
     subst he1;subst he2;subst he3
     refine hh.2.2.1 rfl gg (cellsOf t (.own none) x) (fe s a) rfl A w v0 vs hw fp hA ?_ hn hlt (ly ha hargs)
     obtain ⟨us,hcut,hrel⟩:=hrel
     obtain ⟨f1,f2,rfl,hown,hrest⟩:=dh hrel hx
     have hnil:us.drop t.size=[]:=by
      cases hd:us.drop t.size with
      |nil=>rfl
      |cons _ _=>rw [hd] at hrest;exact hrest.elim
     rw [hnil] at hrest
     have hf2:f2=[]:=hrest
     subst hf2
     have htake:us.take t.size=us:=by
      have:=List.take_append_drop t.size us
      rw [hnil,List.append_nil] at this;exact this
     rw [htake] at hown
     rw [List.append_nil]
     exact ⟨us,hcut,eQ (c:=bu A hw w) hown⟩
   ·cases hy
 ·cases hy
def EL (t:CT)(s:List PS)(rs:List (Bool×FT))(F:t.D→sQ s→Option (dB rs×t.D)):aq:=
 {R:=dB rs×t.D,fn:=fun xs=>match xs with
  | .val true cs::rest=>(match bS t cs with|some (x,[])=>aa (g6 s rest) (F x)|_=>none)
  |_=>none,av:=fun y=>ny rs y.1,back:=fun y=>cellsOf t (.own none) y.2,bx:=true}
theorem ak.Xt {P:Program}{f:Nat}{t:CT}{s:List PS}{rs:List (Bool×FT)}{G:List AV→Option (dB rs×t.D)}(h:ak P f {R:=dB rs×t.D,fn:=G,av:=fun y=>ny rs y.1,back:=fun y=>cellsOf t (.own none) y.2,bx:=true})
 {F:t.D→sQ s→Option (dB rs×t.D)} (hF:∀x a,G (.val true (cellsOf t (.own none) x)::fe s a)=F x a):ak P f (EL t s rs F):=by
 intro xs y hy
 simp only [EL] at hy y
 split at hy
 ·rename_i cs rest
  split at hy
  ·rename_i x hx
   cases ha:g6 s rest with
   |none=>rw [ha] at hy;cases hy
   |some a=>
    rw [ha] at hy
    have hy':G (.val true (cellsOf t (.own none) x)::fe s a)=some y:=by rw [hF x a];exact hy
    have hh:=h _ y hy'
    refine ⟨hh.1,fun _ h=>(by cases h),fun h=>(by cases h),fun _ cs0 rest0 he A w b vs arr T fr hw fp hA hblk hth hrel hn hnb hlt hw0 hargs=> ?_⟩
    injection he with he1 he2
    injection he1 with _ he3
    subst he2;subst he3
    refine hh.2.2.2 rfl (cellsOf t (.own none) x) (fe s a) rfl A w b vs arr T fr hw fp hA hblk hth ?_ hn hnb hlt hw0 (ly ha hargs)
    obtain ⟨f1,f2,rfl,hown,hrest⟩:=dh hrel hx
    have hnil:arr.toList.drop t.size=[]:=by
     cases hd:arr.toList.drop t.size with
     |nil=>rfl
     |cons _ _=>rw [hd] at hrest;exact hrest.elim
    rw [hnil] at hrest
    have hf2:f2=[]:=hrest
    subst hf2
    have htake:arr.toList.take t.size=arr.toList:=by
     have:=List.take_append_drop t.size arr.toList
     rw [hnil,List.append_nil] at this;exact this
    rw [htake] at hown
    rw [List.append_nil]
    exact eQ (c:=bu A hw w) hown
  ·cases hy
 ·cases hy
theorem zt {R σ:Type}{key:List Nat}{B:AS→(Ex→AS→Option R)→Option R}{K:Ex→AS→Option R}(enc:σ→AS)(T:(σ→Option R)→σ→Option R)
 (h:∀m x,qT key B (m+1) (enc x) K=T (fun y=>qT key B m (enc y) K) x):∀m x,qT key B m (enc x) K=aj T m x
 |0,_=>rfl
 |m+1,x=>by
  rw [h m x]
  have:(fun y=>qT key B m (enc y) K)=aj T m:=funext fun y=>zt enc T h m y
  rw [this];rfl
theorem iM:∀{l:List PD}{vs:List AV}{x:uX l},cW l vs=some x→vs=iO l x
 |[],[],_,_=>rfl
 |[],_::_,_,h=>by simp [cW] at h
 | .data g t::l,[],_,h=>by simp [cW] at h
 | .data g t::l,.tup _::vs,_,h=>by simp [cW] at h
 | .data g t::l,.val g' cs::vs,x,h=>by
   simp only [cW] at h
   cases hg:g==g' with
   |false=>rw [hg] at h;cases h
   |true=>
    rw [hg] at h
    simp only [cond_true] at h
    have hg':g=g':=by simpa using hg
    subst hg'
    split at h
    ·rename_i y hy
     obtain ⟨r,hr,h⟩:=Option.bind_eq_some_iff.1 h
     cases h
     have h1:=ry hy
     rw [List.append_nil] at h1
     rw [iO,h1,iM hr]
    ·cases h
 | .bot::l,[],x,h=>by simp [cW] at h
 | .ptr s off::l,[],x,h=>by simp [cW] at h
 | .fn f::l,[],x,h=>by simp [cW] at h
 | .bot::l,v::vs,x,h=>by
   simp only [cW] at h
   cases hg:v.GP with
   |false=>rw [hg] at h;cases h
   |true=>rw [hg] at h;rw [Ff hg,iO,iM (l:=l) h]
 | .ptr s off::l,v::vs,x,h=>by
   simp only [cW] at h
   cases hg:v.GQ s off with
   |false=>rw [hg] at h;cases h
   |true=>rw [hg] at h;rw [Fh hg,iO,iM (l:=l) h]
 | .fn f::l,v::vs,x,h=>by
   simp only [cW] at h
   cases hg:v.HQ f with
   |false=>rw [hg] at h;cases h
   |true=>rw [hg] at h;rw [zn hg,iO,iM (l:=l) h]
theorem oS:∀{l:List (Option FT)}{bs:List (Option (List AC))}{x:uw l},gE l bs=some x→bs=pj l x
 |[],[],_,_=>rfl
 |[],_::_,_,h=>by simp [gE] at h
 |some t::l,[],_,h=>by simp [gE] at h
 |none::l,[],_,h=>by simp [gE] at h
 |some t::l,none::bs,_,h=>by simp [gE] at h
 |none::l,some _::bs,_,h=>by simp [gE] at h
 |none::l,none::bs,x,h=>by
  simp only [gE] at h
  rw [pj,oS h]
 |some t::l,some cs::bs,x,h=>by
  simp only [gE] at h
  split at h
  ·rename_i y hy
   obtain ⟨r,hr,h⟩:=Option.bind_eq_some_iff.1 h
   cases h
   have h1:=ry hy
   rw [List.append_nil] at h1
   rw [pj,h1,oS hr]
  ·cases h
theorem EI:∀{o:RG}{cs:List AC}{x:XW o},CD o cs=some x→cs=I8 o x
 | .none,[],_,_=>rfl
 | .none,_::_,_,h=>by simp [CD] at h
 | .ptr,cs,x,h=>by
   simp only [CD] at h
   cases hp:Fg cs with
   |false=>rw [hp] at h;cases h
   |true=>
    unfold Fg at hp
    split at hp
    ·rfl
    ·cases hp
 | .some t,cs,x,h=>by
   simp only [CD] at h
   split at h
   ·rename_i y hy
    cases h
    have h1:=ry hy
    rw [List.append_nil] at h1
    rw [I8,h1]
   ·cases h
theorem SD.I5 {d:SD}{st:AS}{x:d.D}(h:d.dec st=some x):st=d.enc x:=by
 unfold SD.dec at h
 cases hc:(st.ep==0&&st.iss==List.replicate d.slots.length false) with
 |false=>rw [hc] at h;cases h
 |true=>
  rw [hc] at h
  simp only [cond_true] at h
  obtain ⟨y,hy,h⟩:=Option.bind_eq_some_iff.1 h
  obtain ⟨z,hz,h⟩:=Option.bind_eq_some_iff.1 h
  obtain ⟨u,hu,h⟩:=Option.bind_eq_some_iff.1 h
  cases h
  simp only [Bool.and_eq_true,beq_iff_eq] at hc
  cases st with
  |mk slots boxes ep iss io=>
   simp only at hc hy hz hu
   obtain ⟨rfl,rfl⟩:=hc
   rw [iM hy,oS hz,EI hu]
   rfl
theorem lok {E:Env}{Γ:aJ}{an:An}{Λ:aO}{c:Code}(l:aL)(h1:Λ (bU c)=l)(n:Nat)
 (h2:∀(R:Type)(x:l.sd.D)(K:Ex→AS→Option R),l.run x K=qT (an.mask (bU c)) (den E Γ an Λ c) n (l.sd.enc x) K):bZ E Γ an Λ c:=by
 refine ⟨n,fun R st K r h=> ?_⟩
 rw [h1] at h
 unfold aL.go at h
 cases hd:l.sd.dec st with
 |none=>rw [hd] at h;cases h
 |some x=>
  rw [hd] at h
  rw [SD.I5 hd,←h2]
  exact h
end Go.Dn
