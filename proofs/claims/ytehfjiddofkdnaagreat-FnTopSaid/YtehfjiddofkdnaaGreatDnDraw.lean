import Derived.Test.YtehfjiddofkdnaaGreatDnUpd
/- Operations that are apart may change places. -/
open Bool renaming false->G,true->O
open Option renaming none->W,some->I
namespace Go.Dn
variable {E:Env} {Γ:IY} {an:An} {ops:Z Oper}
variable {s s1 s2 st:AS} {d ep S t:Nat} {α:Type} {T:TypeId} {X Y:gw}
def dI (E:Env)(Γ:IY)(an:An)(ops:Z Oper)(X:gw)(o:Oper)(st:AS):aS AS:=
 bif fb E an X o st then jS E Γ an ops o st I else W
structure abI (an:An) (ops:List Oper) (X:List Nat) (o:Oper) (st M:AS):Prop where
 base:ki an X o st M
 gd:∀t∈MV an ops o,M.get t=st.get t
theorem afN {b}(h:st.get d=.val G [.bool b]):st.put (I d) (.one (.bool b))=st:=by cases st with|mk c boxes ep g io=>simp only[AS.put,AS.mk.injEq,lJ];rw[iA];apply dK;intro i;rw[bX];split;rename_i e;subst e;simp only[AS.get,fJ]at h;split;rename_i f;rw[ah f]at h⊢;simp only[gj]at h;rw[h];rename_i a;rw[cn (nC a)];rfl
theorem aca {M s}(h:nth M.boxes s=nth st.boxes s):MO E T M s S=MO E T st s S:=by unfold MO;rw[h]
theorem PN {o M}(a:ki an X o st M):fb E an X o M=fb E an X o st:=by
 unfold fb;split;rename_i b;rw[a.rd (λt c=>by simpa[fB,b]using c)];rename_i T p b;rw[a.rd (λt c=>by simp[fB,b,c]),a.ep];rename_i b;rw[a.rd (λt c=>by simp[fB,b,c]),a.ep];rename_i f d A b;have i:AO an X (erS an o) M d.toList=AO an X (erS an o) st d.toList:=by
  have r:∀x∈d.toList,∀t∈tm x,t∈fB o:=by intro x k t c;simp only[fB,b,aB,Zw,List.mem_flatMap];exact .inr ⟨x,k,c⟩
  generalize d.toList=l at r;cases l with
  |nil=>rfl
  |cons x w=>
   have u:w.all (RE (erS an o) M)=w.all (RE (erS an o) st):=by
    rw[fE];simp only[aL];have e:∀y∈w,RE (erS an o) M y=RE (erS an o) st y:=by intro y h;cases y with|tmp t=>have z:=a.get t (r (.tmp t) (by simp[h]) t (by simp[tm]));simp only[RE,z]|const v=>rfl|func v=>rfl|global v=>rfl
    exact⟨λg y h=>by rw[<-e y h];exact g y h,λg y h=>by rw[e y h];exact g y h⟩
   have m:=a.rd (r x aD);cases x with
   |tmp q=>
    simp only[AO,m];generalize st.rd (.tmp q)=v;unfold ao1;rw[u];split;rename_i s S;cases n:X.contains s with|true=>simp|false=>rw[a.box s n]
    rfl
   |const v=>simp only[AO,m]
   |func v=>simp only[AO,m]
   |global v=>simp only[AO,m]
 rw[i];congr 1;rw[fE];simp only[aL];constructor;intro k x j;have:=k x j;rwa[a.rd (λt c=>by simp only[fB,b,aB,Zw,List.mem_flatMap];exact .inr ⟨x,j,c⟩),a.ep]at this;intro k x j;rw[a.rd (λt c=>by simp only[fB,b,aB,Zw,List.mem_flatMap];exact .inr ⟨x,j,c⟩),a.ep];exact k x j;rename_i b;rw[a.rd (λt c=>by simpa[fB,b]using c),a.ep];split;rename_i s S _;cases n:X.contains s with|true=>rfl|false=>rw[aca (a.box s n)]
 rfl;rfl;rename_i b;rw[a.rd (λt c=>by simp only[fB,b,aB];exact .inl c)];rename_i b;rw[a.get _ (by simp[fB,b])];rfl
theorem UL (n:∀f,(Γ f).io=G/\((Γ f).bx=O->(Γ f).cur=O)/\(Γ f).pr=G){o i}(x:td an o=O)(h:dI E Γ an ops X o st=I i): ∃u:Sp,u.Pp an o/\i=u.apply st/\∀M,abI an ops X o st M->dI E Γ an ops X o M=I (u.apply M):=by
 unfold dI at h;cases e:fb E an X o st with
 |false=>rw[e]at h;cases h
 |true=>
  rw[e]at h;simp only[ae]at h;unfold jS at h;split at h;rename_i l;obtain⟨u,r,s,t⟩:=Yk (X:=X) n x e h;refine⟨u,r,s,λM a=>?_⟩;unfold dI;rw[PN a.base,e];simp only[ae,jS,l];exact t M a.base;rename_i j p l;split at h;rename_i d v;have m:d∈MV an ops o:=by simp[MV,l,v]
  split at h;rename_i b q;have g:(if(b==p)=O then dM E Γ an o st I else I (st.put o.dst (.one .un)))=I i:=by cases b<;>simpa only[ae,ab,afN q]using h
  have k:∀M,abI an ops X o st M->dI E Γ an ops X o M=(if(b==p)=O then dM E Γ an o M I else I (M.put o.dst (.one .un))):=by
   intro M a;have c:M.get d=.val G [.bool b]:=by rw[a.gd d m];exact q
   unfold dI;rw[PN a.base,e];simp only[ae,jS,l,v,c];cases b<;>simp only[ae,ab,afN c]
  split at g;rename_i w;obtain⟨u,r,s,t⟩:=Yk (X:=X) n x e g;exact⟨u,r,s,λM a=>by rw[k M a,aI w];exact t M a.base⟩;rename_i w;cases g;exact⟨LZ o (.one .un),J4 _,by rw[zW],λM a=>by rw[k M a,aK w,zW]⟩;rename_i q;cases h;refine⟨LZ o (.one .un),J4 _,by rw[zW],λM a=>?_⟩;have c:M.get d=.val G [.un]:=by rw[a.gd d m];exact q
  unfold dI;rw[PN a.base,e,zW];simp only[ae,jS,l,v,c];cases h;cases h
theorem ma l{i j}(h:i≠j)(v w:α):kA (kA l i v) j w=kA (kA l j w) i v:=by rw[iA,iA,iA,iA,List.set_comm _ _ h]
theorem ai4 l a{i}v(h:∀x∈a,x.1≠i):nu (kA l i v) a=kA (nu l a) i v:=by induction a generalizing l with|nil=>rfl|cons x a c=>simp only[nu];rw[ma _ (cI (h x aD)),c _ (λy b=>h y (by simp[b]))]
theorem afJ l a b(h:∀x∈a,∀y∈b,x.1≠y.1):nu (nu l a) b=nu (nu l b) a:=by induction b generalizing l with|nil=>rfl|cons y b e=>simp only[nu];rw[<-ai4 l a y.2 (λx c=>h x c y aD),e _ (λx c z d=>h x c z (by simp[d]))]
theorem Zj l a(h:∀x∈a,x.1≠t):nth (nu l a) t=nth l t:=by induction a generalizing l with|nil=>rfl|cons x a c=>rw[nu,c _ (λy b=>h y (by simp[b])),mQ,aK (h x aD)]
theorem qC {a b}(h:meets a b=G):∀x∈a,x∉b:=by intro x d c;unfold meets at h;rw[List.any_eq_false]at h;exact h x d (by simpa using c)
theorem Sp.HR {u:Sp}{o p}(j:u.Pp an o)(n:∀x∈writes an o,x∉fB p++MV an ops p++writes an p)(q:∀d∈NM an o,Y.contains d=O)(r:∀d∈NM an o,p.dst≠I d): abI an ops Y p (u.apply st) st/\abI an ops Y p st (u.apply st):=by
 have a:∀t,t∈fB p++MV an ops p++writes an p->(u.apply st).get t=st.get t:=by intro t b;unfold AS.get;have:nth (u.apply st).slots t=nth st.slots t:=Zj _ _ (λx v h=>n _ (j.slots x v) (by rw[h];exact b));rw[this]
 have e:∀d,p.dst=I d->nth (u.apply st).iss d=nth st.iss d/\nth (u.apply st).boxes d=nth st.boxes d:=by
  intro d g;have l:d∈fB p++MV an ops p++writes an p:=by simp[writes,g]
  have m:o.dst≠I d:=λh=>n d (by simp[writes,h]) l;constructor;unfold Sp.apply;cases i:u.iss with|none=>rfl|some k=>simp only;rw[mQ,aK];rintro rfl;exact m (j.iss _ i)
  unfold Sp.apply;cases i:u.box with|none=>rfl|some k=>simp only;rw[mQ,aK];intro h;exact r _ (j.box k i) (by rw[h];exact g)
 have f:∀s,Y.contains s=G->nth (u.apply st).boxes s=nth st.boxes s:=by intro s hs;unfold Sp.apply;cases i:u.box with|none=>rfl|some k=>simp only;rw[mQ,aK];rintro rfl;have:=q k.1 (j.box k i);rw[this]at hs;cases hs
 have c:(u.apply st).slots.length=st.slots.length:=XK _ _;exact⟨⟨⟨c.symm,λt b=>(a t (by simp[b])).symm,rfl,λd g=>⟨((e d g).1).symm,((e d g).2).symm⟩,λs hs=>(f s hs).symm,λt b=>(a t (by simp[MV,b])).symm⟩,λt b=>(a t (by simp[b])).symm⟩,⟨⟨c,λt b=>a t (by simp[b]),rfl,e,f,λt b=>a t (by simp[MV,b])⟩,λt b=>a t (by simp[b])⟩⟩
theorem ag9 {u v:Sp}{o p}(f:u.Pp an o)(j:v.Pp an p)(h:∀x∈writes an o,x∉writes an p)(d:∀x∈NM an o,x∉NM an p):v.apply (u.apply st)=u.apply (v.apply st):=by
 have e:∀a b,o.dst=I a->p.dst=I b->a≠b:=λa b q d c=>h a (by simp[writes,q]) (by simp[writes,d,c]);have hs:=afJ st.slots u.slots v.slots (λx r y s c=>h _ (f.slots x r) (by rw[c];exact j.slots y s));simp only[Sp.apply,AS.mk.injEq,true_and,lJ];refine⟨hs,?_,?_⟩;cases g:u.box with|none=>cases v.box<;>rfl|some k=>cases m:v.box with|none=>rfl|some l=>exact ma _ (λc=>d _ (f.box k g) (by rw[c];exact j.box l m)) _ _
 cases i:u.iss with|none=>cases v.iss<;>rfl|some k=>cases n:v.iss with|none=>rfl|some l=>exact ma _ (e _ _ (f.iss k i) (j.iss l n)) _ _
theorem ajF (c:∀f,(Γ f).io=G/\((Γ f).bx=O->(Γ f).cur=O)/\(Γ f).pr=G){o p}(s:ag7 an ops X Y o p=O)(A:dI E Γ an ops X o st=I s1)(B:dI E Γ an ops Y p s1=I s2): ∃t1,dI E Γ an ops Y p st=I t1/\dI E Γ an ops X o t1=I s2:=by
 simp only[ag7,af,aW,aL]at s;obtain⟨⟨⟨⟨⟨⟨⟨C,mp⟩,e⟩,r⟩,y⟩,z⟩,g⟩,j⟩:=s;have e:=qC e;have r:=qC r;have g:=qC g;have j:=qC j;obtain⟨u,t,rfl,m⟩:=UL c C A;obtain⟨v,w,rfl,n⟩:=UL c mp B;have h:=Sp.HR (ops:=ops) (p:=p) (Y:=Y) (st:=st) t e y (λd k l=>g d k (by simp[l]));have q:∀x∈writes an p,x∉fB o++MV an ops o++writes an o:=by intro x b a;rcases aB.1 a with a|a;exact r x b a;exact e x a (by simp[b])
 have i:=Sp.HR (ops:=ops) (p:=o) (Y:=X) (st:=st) w q z (λd k l=>j d k (by simp[l]));refine⟨v.apply st,n st h.1,?_⟩;rw[m _ i.2,ag9 t w (λx b a=>e x b (by simp[a])) (λx b a=>g x b (by simp[a]))]
theorem QM {v w}(h:st.get t=v)(b:v≠ .bot):(st.put (I t) w).get t=w:=by
 unfold AS.get at h;cases hn:nth st.slots t with
 |none=>rw[hn]at h;exact absurd h.symm b
 |some q=>
  have a:t<st.slots.length:=by rw[fJ]at hn;exact(aA.1 hn).1
  unfold AS.get AS.put;simp only[fJ,iA];rw[bn a];rfl
theorem BM {w}(h:d≠t):(st.put (I d) w).get t=st.get t:=by unfold AS.get AS.put;simp only[mQ,aK h]
theorem Ke {o:Oper}{i:Nat}(j:o.op=.extract (.tmp t) i)(l:o.dst=I d)(k:o.guard=W):dI E Γ an ops X o st=I s↔ ∃b g a,st.get t=.DZ b/\nth b i=I (g,a)/\(a.all AC.mj||an.mv.contains d)=O/\s=(st.put (I t) (.DZ (kA b i (g,bz 0 a)))).put (I d) (.val g a):=by
 unfold dI;simp only[fb,j,l];constructor;intro h;cases e:st.get t with|val g a=>simp only[e,ae,jS,k,dM,j,qm]at h;cases h|DZ b=>simp only[e]at h;cases c:nth b i with|none=>simp only[c,ae,jS,k,dM,j,qm,e]at h;cases h|some x=>obtain⟨g,a⟩:=x;simp only[c]at h;cases f:(a.all AC.mj||an.mv.contains d)with|false=>rw[f]at h;cases h|true=>rw[f]at h;simp only[ae,jS,k,dM,j,qm,e,c,l]at h;cases h;exact⟨b,g,a,rfl,c,f,rfl⟩
 rintro⟨b,g,a,e,c,f,rfl⟩;simp only[e,c,f,ae,jS,k,dM,j,qm,l]
theorem anJ l i(v w:α):kA (kA l i v) i w=kA l i w:=by rw[iA,iA,iA,List.set_set]
theorem apc {o p}(h:ahC o p=O)(K:dI E Γ an ops X o st=I s1)(L:dI E Γ an ops Y p s1=I s2): ∃t1,dI E Γ an ops Y p st=I t1/\dI E Γ an ops X o t1=I s2:=by
 unfold ahC at h;split at h;rename_i t i R j d Q H J D k F n;simp only[af,bw,aW,cc,ne_eq]at h;obtain⟨⟨⟨⟨rfl,c⟩,x⟩,l⟩,m⟩:=h;obtain⟨u,g,f,C,N,M,rfl⟩:=(Ke H D F).1 K;obtain⟨P,w,b,s,r,y,rfl⟩:=(Ke J k n).1 L;have z:((st.put (I t) (.DZ (kA u i (g,bz 0 f)))).put (I d) (.val g f)).get t=.DZ (kA u i (g,bz 0 f)):=by rw[BM l,QM C aD]
 rw[z]at s;cases s;rw[mQ,aK c]at r;refine⟨_,(Ke J k n).2 ⟨u,w,b,C,r,y,rfl⟩,(Ke H D F).2 ⟨kA u j (w,bz 0 b),g,f,?_,?_,M,?_⟩⟩;rw[BM m,QM C aD];rw[mQ,aK (cI c)];exact N;have e:=ma u c (g,bz 0 f) (w,bz 0 b);have a:∀(A B:AV)(q:Nat)(v:AV),q≠t->kA (kA (kA st.slots t A) q v) t B=kA (kA st.slots t B) q v:=λA B q v z=>by rw[ma _ z,anJ]
 simp only[AS.put,AS.mk.injEq,lJ];rw[a _ _ _ _ l,a _ _ _ _ m,e,ma _ x];cases h
theorem akP (s:AS)t:s.put (I t) (s.get t)=s:=by cases s with|mk b boxes ep e io=>simp only[AS.put,AS.mk.injEq,lJ];rw[iA];apply dK;intro i;rw[bX];split;rename_i c;subst c;simp only[AS.get,fJ];split;rename_i d;rw[ah d];rfl;rename_i a;rw[cn (nC a)];rfl
theorem af6 {o:Oper}(p:o.dst=I d)(r:o.guard=W)(f:(o.op=.move (.tmp t)/\an.mv.contains d=G/\an.fm.contains d=O)\/∃i,o.op=.extract (.tmp t) i)(_hdt:d≠t)(h:dI E Γ an ops X o st=I s): ∃z v,s=(st.put (I t) z).put (I d) v/\∀M:AS,M.get t=st.get t->dI E Γ an ops X o M=I ((M.put (I t) z).put (I d) v):=by
 rcases f with⟨f,q,l⟩|⟨i,f⟩;have m:∀M:AS,M.get t=st.get t->(st.rd (.tmp t)).py=O->M.rd (.tmp t)=st.get t:=by
  intro M n k;simp only[AS.rd,n]at k⊢;cases u:st.get t with
  |DZ A=>rw[u]at k;simp[AV.borrow,AV.py]at k
  |val g b=>
   rw[u]at k;simp only[AV.borrow,AV.py]at k⊢;congr 1;have x:∀(b:Z AC)(j:Nat),(ll st.ep (λj=>sn.slot t j) j b).all AC.py=O->ll M.ep (λj=>sn.slot t j) j b=b:=by
    intro b;induction b with
    |nil=>intro j _;rfl
    |cons c b F=>
     intro j h;simp only[ll,cC,af]at h⊢;rw[F (j+1) h.2];congr 1;cases c with
     |sl B e H=>cases B with|im _ _ ep=>cases ep<;>simp[AC.borrow,AC.py]at h|_=>simp[AC.borrow,AC.py]at h
     |_=>rfl
   exact x b 0 k
 unfold dI at h;have a:(st.rd (.tmp t)).py=true:=by cases k:(st.rd (.tmp t)).py with|true=>rfl|false=>simp only[fb,f,fmB,p,l,k]at h;cases h
 refine⟨st.get t,st.get t,?_,λM n=>?_⟩;simp only[fb,f,fmB,p,l,a,kv,ae,jS,r,dM,Ky,q,bD,cY]at h;cases h;rw[m st rfl a];congr 1;exact(akP st t).symm;unfold dI;have y:=m M n a;have w:(M.rd (.tmp t)).py=true:=by rw[y,<-m st rfl a];exact a
 simp only[fb,f,fmB,p,l,w,kv,ae,jS,r,dM,Ky,q,bD,cY];rw[y,<-n,akP];obtain⟨A,g,b,u,D,C,rfl⟩:=(Ke f p r).1 h;refine⟨_,_,rfl,λM n=>(Ke f p r).2 ⟨A,g,b,by rw[n,u],D,C,rfl⟩⟩
theorem arF {p q x}(t:p.op=.store T (.tmp q) (.tmp x))(P:p.dst=W)(Q:p.guard=W)(f:(an.eb q).isSome=O)(g:(an.es q).isNone=O)(m:(an.sb q).isNone=O)(R:Ii an p=G)(h:dI E Γ an ops Y p st=I s): ∃B,s=⟨kA st.slots x ((st.get x).bz st.ep),B,st.ep+1,st.iss,st.io⟩/\ ∀M:AS,M.get q=st.get q->M.get x=st.get x->M.boxes=st.boxes->M.ep=st.ep->M.iss=st.iss->M.io=st.io-> dI E Γ an ops Y p M=I ⟨kA M.slots x ((st.get x).bz st.ep),B,st.ep+1,st.iss,st.io⟩:=by
 have w:∀M:AS,M.get q=st.get q->M.ep=st.ep->fb E an Y p M=fb E an Y p st:=by intro M o u;simp only[fb,t,AS.rd,o,u]
 unfold dI at h;cases hf:fb E an Y p st with
 |false=>rw[hf]at h;cases h
 |true=>
  rw[hf]at h;simp only[ae,jS,Q,dM,t,P,R,bD,cY]at h;have a:=hf;simp only[fb,t]at a;have z:((an.sb q).isNone&&(an.eb q).isNone&&(an.es q).isNone)=false:=by cases d:an.eb q with|none=>rw[d]at f;cases f|some _=>simp
  rw[z,cq]at a;unfold EP at h;split at h;rename_i c;rw[c]at a;simp only[af,bw]at a;rw[a.2]at m;cases m;rename_i sh ep0 r tg e y i S hT c;rw[c]at a;cases r with
  |slot _ _=>simp only[af,bw]at a;rw[a.1.1]at g;cases g
  |io _=>simp at a
  |box b j=>
   split at h;rename_i K F C n;have X:(st.get x)=.val K F:=by have:=congrArg Prod.fst n;exact this
   have J:C=⟨kA st.slots x ((st.get x).bz st.ep),st.boxes,st.ep,st.iss,st.io⟩:=by have:=congrArg Prod.snd n;exact this.symm
   split at h;rename_i l;have main:∃B,∀sl:Z AV,(⟨sl,st.boxes,st.ep,st.iss,st.io⟩:AS).vW (.box b j) tg e i S F I=I ⟨sl,B,st.ep+1,st.iss,st.io⟩:=by
    subst J;simp only[AS.vW,AS.gN,AS.hZ,AS.gD]at h⊢;cases N:(nth st.boxes b).getD W with
    |none=>rw[N]at h;simp at h
    |some cs=>
     rw[N]at h;simp only[gi]at h⊢;split at h;rename_i t' V H hn;split at h;rename_i d;simp only[dif_pos d];generalize (d▸H:Z e.D)=zs at h⊢;split at h;rename_i A;simp only[aI A];cases k:idx zs i with|none=>rw[k]at h;simp[U]at h|some y0=>simp only[k,U]at h⊢;split at h;exact⟨_,λsl=>rfl⟩;cases h
     cases h;cases h;rename_i t' i' q0 V H hn;split at h;rename_i d;simp only[dif_pos d];generalize (d▸H:Z e.D)=zs at h⊢;split at h;rename_i A;simp only[aI A];cases k:acn zs i' i with|none=>rw[k]at h;simp[U]at h|some y0=>simp only[k,U]at h⊢;split at h;exact⟨_,λsl=>rfl⟩;cases h
     cases h;cases h;cases h
   obtain⟨B,L⟩:=main;refine⟨B,?_,λM o u h3 v h5 h6=>?_⟩;subst J;rw[L]at h;exact(bu h).symm;unfold dI;rw[w M o v,hf];have r2:M.rd (.tmp q)=st.rd (.tmp q):=by simp only[AS.rd,o,v]
   have t2:M.take (.tmp x)=(.val K F,⟨kA M.slots x ((st.get x).bz st.ep),st.boxes,st.ep,st.iss,st.io⟩):=by simp only[AS.take,AS.put,u,h3,v,h5,h6,X]
   simp only[ae,jS,Q,dM,t,P,R,bD,cY,EP,hT,r2,c,t2];rw[aI l];exact L _;cases h;cases h
  cases h
theorem ao3 {p q x}(F:p.op=.store T (.tmp q) (.tmp x))(hd:p.dst=W)(hg:p.guard=W){b}(o:an.es q=I b)(n:(an.eb q).isNone=O)(f:b≠x)(v:(an.sb q).isNone=O)(hl:Ii an p=G)(h:dI E Γ an ops Y p st=I s): ∃B,s=⟨kA (kA st.slots x ((st.get x).bz st.ep)) b B,st.boxes,st.ep+1,st.iss,st.io⟩/\ ∀M:AS,M.get q=st.get q->M.get x=st.get x->nth M.slots b=nth st.slots b->M.boxes=st.boxes->M.ep=st.ep->M.iss=st.iss->M.io=st.io-> dI E Γ an ops Y p M=I ⟨kA (kA M.slots x ((st.get x).bz st.ep)) b B,st.boxes,st.ep+1,st.iss,st.io⟩:=by
 have L:∀M:AS,M.get q=st.get q->M.ep=st.ep->fb E an Y p M=fb E an Y p st:=by intro M A H;simp only[fb,F,AS.rd,A,H]
 unfold dI at h;cases hf:fb E an Y p st with
 |false=>rw[hf]at h;cases h
 |true=>
  rw[hf]at h;simp only[ae,jS,hg,dM,F,hd,hl,bD,cY]at h;have a:=hf;simp only[fb,F]at a;have Q:((an.sb q).isNone&&(an.eb q).isNone&&(an.es q).isNone)=false:=by rw[o];simp
  rw[Q,cq]at a;unfold EP at h;split at h;rename_i d;rw[d]at a;simp only[af,bw]at a;rw[a.2]at v;cases v;rename_i sh ep0 r tg e y i S hT d;rw[d]at a;cases r with
  |box _ _=>simp only[af,bw]at a;rw[a.1.1]at n;cases n
  |io _=>simp at a
  |slot c j=>
   simp only[af,bw]at a;have K:c=b:=bu (a.1.1.symm.trans o);subst K;split at h;rename_i gg vs X w;have e1:(st.get x)=.val gg vs:=by have:=congrArg Prod.fst w;exact this
   have e2:X=⟨kA st.slots x ((st.get x).bz st.ep),st.boxes,st.ep,st.iss,st.io⟩:=by have:=congrArg Prod.snd w;exact this.symm
   split at h;rename_i t;have main:∃B,∀sl:Z AV,nth sl c=nth st.slots c->(⟨sl,st.boxes,st.ep,st.iss,st.io⟩:AS).vW (.slot c j) tg e i S vs I=I ⟨kA sl c B,st.boxes,st.ep+1,st.iss,st.io⟩:=by
    subst e2;have k:∀sl:Z AV,nth sl c=nth st.slots c->(⟨sl,st.boxes,st.ep,st.iss,st.io⟩:AS).get c=st.get c:=λsl u=>by unfold AS.get;rw[u]
    have R:nth (kA st.slots x ((st.get x).bz st.ep)) c=nth st.slots c:=by rw[mQ,aK (cI f)]
    simp only[AS.vW,AS.gN,AS.hZ,k _ R]at h;cases C:st.get c with
    |DZ _=>rw[C]at h;simp at h
    |val g0 cs=>
     rw[C]at h;simp only at h;split at h;rename_i t' e' z N;split at h;rename_i g;split at h;rename_i V;cases l:idx (g▸z:Z e.D) i with|none=>rw[l]at h;simp[U]at h|some y0=>simp only[l,U]at h;split at h;rename_i x' m;refine⟨.val g0 (kA cs j (.sl (.own (I t')) e ((g▸z:Z e.D).set i.toNat x'))),λsl u=>?_⟩;simp only[AS.vW,AS.gN,AS.hZ,k _ u,C,N,dif_pos g,aI V,l,U,m,AS.put];cases h
     cases h;cases h;rename_i t' i' q0 e' z N;split at h;rename_i g;split at h;rename_i V;cases l:acn (g▸z:Z e.D) i' i with|none=>rw[l]at h;simp[U]at h|some y0=>simp only[l,U]at h;split at h;rename_i x' m;refine⟨.val g0 (kA cs j (.sl (.own (I t')) e ((g▸z:Z e.D).set i.toNat x'))),λsl u=>?_⟩;simp only[AS.vW,AS.gN,AS.hZ,k _ u,C,N,dif_pos g,aI V,l,U,m,AS.put];cases h
     cases h;cases h;cases h
   obtain⟨B,hB⟩:=main;refine⟨B,?_,λM A H P h3 J h5 h6=>?_⟩;subst e2;rw[hB _ (by rw[mQ,aK (cI f)])]at h;exact(bu h).symm;unfold dI;rw[L M A J,hf];have r2:M.rd (.tmp q)=st.rd (.tmp q):=by simp only[AS.rd,A,J]
   have t2:M.take (.tmp x)=(.val gg vs,⟨kA M.slots x ((st.get x).bz st.ep),st.boxes,st.ep,st.iss,st.io⟩):=by simp only[AS.take,AS.put,H,h3,J,h5,h6,e1]
   simp only[ae,jS,hg,dM,F,hd,hl,bD,cY,EP,hT,r2,d,t2];rw[aI t];exact hB _ (by rw[mQ,aK (cI f)];exact P);cases h;cases h
  cases h
theorem arE {o p}(a:ahy an o p=O)(U:dI E Γ an ops X o st=I s1)(M:dI E Γ an ops Y p s1=I s2): ∃t1,dI E Γ an ops Y p st=I t1/\dI E Γ an ops X o t1=I s2:=by
 unfold ahy at a;split at a;rename_i T q x P y z;simp only[af,aW]at a;obtain⟨⟨⟨g,A⟩,N⟩,a⟩:=a;have F:∃d t,o.dst=I d/\o.guard=W/\((o.op=.move (.tmp t)/\an.mv.contains d=G/\an.fm.contains d=O)\/∃i,o.op=.extract (.tmp t) i)/\d≠q/\d≠x/\t≠x/\d≠t/\t≠q:=by split at a;rename_i t d k s w;simp only[af,aW,cc]at a;exact⟨d,t,s,w,.inl ⟨k,a.1.1.1.1.1.1,a.1.1.1.1.1.2⟩,a.1.1.1.1.2,a.1.1.1.2,a.1.1.2,a.2,a.1.2⟩;rename_i t i d k s w;simp only[af,aW,cc]at a;exact⟨d,t,s,w,.inr ⟨i,k⟩,a.1.1.1.1,a.1.1.1.2,a.1.1.2,a.2,a.1.2⟩;cases a
 obtain⟨d,t,s,w,k,H,m,h,J,L⟩:=F;obtain⟨f,v,rfl,R⟩:=af6 s w k J U;have Q:((st.put (I t) f).put (I d) v).get q=st.get q:=by rw[BM H];exact BM L
 have S:((st.put (I t) f).put (I d) v).get x=st.get x:=by rw[BM m,BM h]
 simp only[dW,af]at g;rcases g with⟨g,c⟩|c;obtain⟨B,rfl,r⟩:=arF P y z g c A N M;have k1:=r st Q.symm S.symm rfl rfl rfl rfl;refine⟨_,k1,?_⟩;have n:(⟨kA st.slots x ((((st.put (I t) f).put (I d) v).get x).bz ((st.put (I t) f).put (I d) v).ep),B,((st.put (I t) f).put (I d) v).ep+1,((st.put (I t) f).put (I d) v).iss,((st.put (I t) f).put (I d) v).io⟩:AS).get t=st.get t:=by simp only[AS.get,mQ,aK (cI h)]
 rw[R _ n];simp only[AS.put,bI,AS.mk.injEq,lJ];rw[ma _ (cI h),ma _ (cI m)];cases C:an.es q with
 |none=>rw[C]at c;cases c
 |some b=>
  rw[C]at c;simp only[af,aW,cc]at c;obtain⟨⟨⟨g,D⟩,_⟩,j⟩:=c;have j:=qC j b aD;have u:b≠d:=λe=>j (by simp[s,e]);have l:b≠t:=λe=>j (by refine aB.2 (.inr ?_);rcases k with⟨k,_⟩|⟨i,k⟩<;>simp[fB,k,tm,e]);obtain⟨B,rfl,r⟩:=ao3 P y z C g D A N M;have K:nth st.slots b=nth ((st.put (I t) f).put (I d) v).slots b:=by simp only[AS.put,mQ,aK (cI u),aK (cI l)]
  have k1:=r st Q.symm S.symm K rfl rfl rfl rfl;refine⟨_,k1,?_⟩;have n:(⟨kA (kA st.slots x ((((st.put (I t) f).put (I d) v).get x).bz ((st.put (I t) f).put (I d) v).ep)) b B,((st.put (I t) f).put (I d) v).boxes,((st.put (I t) f).put (I d) v).ep+1,((st.put (I t) f).put (I d) v).iss,((st.put (I t) f).put (I d) v).io⟩:AS).get t=st.get t:=by simp only[AS.get,mQ,aK (cI h),aK l]
  rw[R _ n];simp only[AS.put,bI,AS.mk.injEq,lJ];rw[ma _ l,ma _ u,ma _ (cI h),ma _ (cI m)]
 cases a
theorem adj {c:AC}(h:c.py=O\/(c.borrow ep W).py=O):c.borrow ep W=c:=by
 cases c with
 |sl a e b=>exfalso;cases a with|im _ _ ep=>cases ep<;>simp[AC.borrow,AC.py]at h|_=>simp[AC.borrow,AC.py]at h
 |_=>rfl
theorem Yh {a n}(f:S+n<=a.length)k:(fV a S (bz ep ((a.drop S).take n)))[k]?=(a[k]?).map λc=>if S<=k/\k<S+n then c.borrow ep W else c:=by
 have b:(bz ep ((a.drop S).take n)).length=n:=by simp[bz];omega
 unfold fV;rw[b];by_cases d:k<S;rw[aH,bE (by simp;omega),ft d];have:(λc:AC=>if S<=k/\k<S+n then c.borrow ep W else c)=id:=by funext c;rw[nQ];rfl
 rw[this,Option.map_id];rfl;by_cases g:k<S+n;rw[bE (by simp[b];omega),bN (by simp;omega)];have e:k-(a.take S).length=k-S:=by simp;omega
 rw[e,bz,gz,ft J,cA,(J:S+(k-S)=k)];congr 1;funext c;rw[zip];rw[bN (by simp[b];omega)];have e:k-(a.take S++bz ep ((a.drop S).take n)).length=k-(S+n):=by simp[b];omega
 rw[e,cA,(J:S+n+(k-(S+n))=k)];have:(λc:AC=>if S<=k/\k<S+n then c.borrow ep W else c)=id:=by funext c;rw[nQ];rfl
 rw[this,Option.map_id];rfl
theorem R5 {a n e d}(b:S+n<=a.length)(h:((a.drop e).take d).all AC.py=O\/(((fV a S (bz ep ((a.drop S).take n))).drop e).take d).all AC.py=O): ((fV a S (bz ep ((a.drop S).take n))).drop e).take d=(a.drop e).take d:=by
 apply dK;intro k;by_cases f:k<d;rw[ft f,ft f,cA,cA,Yh b];cases j:a[e+k]? with|none=>rfl|some c=>simp only[eP];split;rename_i g;refine congrArg I (adj ?_);rcases h with h|h;left;refine aL.1 h c (aF (i:=k) ?_);rw[ft f,cA,j];right;refine aL.1 h _ (aF (i:=k) ?_);rw[ft f,cA,Yh b,j,eP,aI g];rfl
 rw[cn (by simp;omega),cn (by simp;omega)]
theorem TI {b:Nat}:∀{a:Z AC}{j:Nat},a.all AC.py=O->ll ep (.box b) j a=a
 |[],_,_=>rfl
 |c::a,j,h=>by simp only[cC,af]at h;rw[ll,TI h.2];congr 1;cases c<;>first|rfl|(simp[AC.py]at h)
theorem Ys {o}(h:J1 an o=O):∃T q d,o.op=.load T (.tmp q)/\o.dst=I d/\o.guard=W/\an.mv.contains d=O/\(an.mb d).isSome=true:=by unfold J1 at h;split at h;rename_i T q d c a b;simp only[af]at h;exact⟨T,q,d,c,a,b,h.1,h.2⟩;cases h
theorem Wz {o}(h:Wy an o=O):∃T q d,o.op=.load T (.tmp q)/\o.dst=I d/\o.guard=W/\an.mv.contains d=G/\an.fm.contains d=true:=by unfold Wy at h;split at h;rename_i T q d c a b;simp only[af,aW]at h;exact⟨T,q,d,c,a,b,h.1,h.2⟩;cases h
theorem OF {o}{q:Nat}(y:J1 an o=O)(j:o.op=.load T (.tmp q))(m:o.dst=I d)(w:o.guard=W)(c:an.mv.contains d=O):dI E Γ an ops X o st=I s↔ ∃f b S e,lV E.ty T=I f/\st.rd (.tmp q)=.val G [.ptr b S]/\(nth st.boxes b).getD W=I e/\S+f.ct.size<=e.length/\X.contains b=G/\an.mb d=I b/\(fmB an o=O->MO E T st b S=O)/\ s=(st.gD b (I (fV e S (bz st.ep ((e.drop S).take f.ct.size))))).put (I d) (.val f.agg ((e.drop S).take f.ct.size)):=by
 have v:fb E an X o st=O->∀r,dM E Γ an o st I=I r->∃b S,st.rd (.tmp q)=.val G [.ptr b S]:=by intro hf r u;simp only[dM,j,vD]at u;split at u;rename_i a;exact⟨_,_,a⟩;rename_i a;simp only[fb,j,a,y,kv,ak,ij,iR]at hf;cases hf;cases u
 unfold dI;constructor;intro h;cases hf:fb E an X o st with|false=>rw[hf]at h;cases h|true=>rw[hf]at h;simp only[ae,jS,w]at h;obtain⟨b,S,a⟩:=v hf s h;simp only[fb,j,a,m,c,ak,cq,af,aW,bw,dW]at hf;simp only[dM,j,vD,a]at h;cases l:lV E.ty T with|none=>rw[l]at h;cases h|some f=>rw[l]at h;simp only at h;cases k:(nth st.boxes b).getD W with|none=>rw[k]at h;cases h|some e=>rw[k]at h;simp only at h;split at h;rename_i i;simp only[m,c,dm]at h;cases h;refine⟨f,b,S,e,rfl,a,k,i,hf.1.1,hf.1.2,λp=>?_,rfl⟩;rcases hf.2 with g|g;rw[p]at g;cases g;exact g;cases h
 rintro⟨f,b,S,e,l,a,k,i,x,t,n,rfl⟩;have hf:fb E an X o st=true:=by simp only[fb,j,a,m,c,x,t,ak,cq,af,aW,bw,dW];refine⟨⟨B,B⟩,?_⟩;cases p:fmB an o with|false=>exact .inl rfl|true=>exact .inr (n p)
 rw[hf];simp only[ae,jS,w,dM,j,vD,a,l,k,aI i,m,c,dm]
theorem N2 {o:Oper}{q:Nat}(n:o.op=.load T (.tmp q))(p:o.dst=I d)(w:o.guard=W)(f:an.mv.contains d=G)(t:an.fm.contains d=O):dI E Γ an ops X o st=I s↔ ∃g b S i,lV E.ty T=I g/\st.rd (.tmp q)=.val G [.ptr b S]/\(nth st.boxes b).getD W=I i/\S+g.ct.size<=i.length/\X.contains b=G/\((i.drop S).take g.ct.size).all AC.py=O/\ s=st.put (I d) (.val g.agg ((i.drop S).take g.ct.size)):=by
 have k:fmB an o=true:=by simp only[fmB,p,t]
 have v:fb E an X o st=O->∀r,dM E Γ an o st I=I r->∃b S,st.rd (.tmp q)=.val G [.ptr b S]:=by intro a r u;simp only[dM,n,vD]at u;split at u;rename_i e;exact⟨_,_,e⟩;rename_i e;simp only[fb,n,e,k,lI,ak,ij,iR]at a;cases a;cases u
 unfold dI;constructor;intro h;cases a:fb E an X o st with
 |false=>rw[a]at h;cases h
 |true=>
  rw[a]at h;simp only[ae,jS,w]at h;obtain⟨b,S,e⟩:=v a s h;simp only[fb,n,e,p,f,k,ak,bS,lI,cq,gB,af,aW]at a;simp only[dM,n,vD,e]at h;cases m:lV E.ty T with
  |none=>rw[m]at h;cases h
  |some g=>
   rw[m]at h;simp only at h;cases j:(nth st.boxes b).getD W with
   |none=>rw[j]at h;cases h
   |some i=>
    rw[j]at h;simp only at h;split at h;rename_i l;have c:((i.drop S).take g.ct.size).all AC.py=true:=by have:=a.2;unfold MO at this;rw[m,j]at this;exact this
    simp only[p,f,bD,cY,TI c]at h;cases h;exact⟨g,b,S,i,rfl,e,j,l,a.1,c,rfl⟩;cases h
 rintro⟨g,b,S,i,m,e,j,l,x,c,rfl⟩;have a:fb E an X o st=true:=by simp only[fb,n,e,p,f,x,k,MO,m,j,c];rfl
 rw[a];simp only[ae,jS,w,dM,n,vD,e,m,j,aI l,p,f,bD,cY,TI c]
theorem aaW {q v}(h:d≠q):(st.put (I d) v).rd (.tmp q)=st.rd (.tmp q):=by simp only[AS.rd,BM h];rfl
theorem aqv {q b:Nat}{a}:(st.gD b a).rd (.tmp q)=st.rd (.tmp q):=rfl
theorem ahf {b a x}(h:(nth st.boxes b).getD W=I a):(nth (kA st.boxes b (I x)) b).getD W=I x:=by
 rw[mQ,aI rfl];cases hn:nth st.boxes b with
 |none=>rw[hn]at h;cases h
 |some _=>
  have:b<st.boxes.length:=by rw[fJ]at hn;exact(aA.1 hn).1
  rw[aI this];rfl
theorem ahg {b a x}(h:b≠a):nth (kA st.boxes b (I x)) a=nth st.boxes a:=by rw[mQ,aK h]
theorem ar8 {o p}(Z:aix an o p=O)(h1:dI E Γ an ops X o st=I s1)(h2:dI E Γ an ops Y p s1=I s2): ∃t1,dI E Γ an ops Y p st=I t1/\dI E Γ an ops X o t1=I s2:=by
 simp only[aix,af,dW,aW]at Z;obtain⟨⟨Z,Q⟩,m2⟩:=Z;have Q:=qC Q;have m2:=qC m2;rcases Z with⟨P,hf⟩|⟨hf,P⟩;obtain⟨T,q,d,L,t,R,l,hmb⟩:=Ys P;obtain⟨T2,q2,d2,M,g,k,m,x⟩:=Wz hf;have n1:d≠d2:=λe=>Q d (by simp[t]) (by simp[g,e]);have n2:d≠q2:=λe=>Q d (by simp[t]) (by simp[fB,M,tm,e]);have n3:d2≠q:=λe=>m2 d2 (by simp[g]) (by simp[fB,L,tm,e]);obtain⟨z,b,S,i,hT,hr,C,u,hX,K,w,rfl⟩:=(OF P L t R l).1 h1;obtain⟨h,y,f,c,A,n,r,v,B,N,rfl⟩:=(N2 M g k m x).1 h2;rw[aaW n2,aqv]at n;have s:(nth (kA st.boxes b (I (fV i S (bz st.ep ((i.drop S).take z.ct.size))))) y).getD W=I c:=r;have F:∃a,(nth st.boxes y).getD W=I a/\f+h.ct.size<=a.length/\(c.drop f).take h.ct.size=(a.drop f).take h.ct.size:=by
  by_cases j:b=y;subst j;rw[ahf C]at s;cases s;have U:(fV i S (bz st.ep ((i.drop S).take z.ct.size))).length=i.length:=by simp only[fV,bz,aq,bt,bp,bA];omega
  exact⟨i,C,J,R5 u (.inr N)⟩;rw[ahg j]at s;exact⟨c,s,v,rfl⟩
 obtain⟨a,D,H,he⟩:=F;rw[he]at N⊢;refine⟨_,(N2 M g k m x).2 ⟨h,y,f,a,A,n,D,H,B,N,rfl⟩,(OF P L t R l).2 ⟨z,b,S,i,hT,by rw[aaW n3];exact hr,C,u,hX,K,λhm=>?_,?_⟩⟩;have:=w hm;unfold MO at this⊢;exact this;simp only[AS.put,AS.gD,AS.mk.injEq,lJ];exact ma _ n1 _ _;obtain⟨T,q,d,L,t,R,l,w⟩:=Wz hf;obtain⟨T2,q2,d2,M,g,k,m,aBz⟩:=Ys P;have n1:d≠d2:=λe=>Q d (by simp[t]) (by simp[g,e]);have n2:d≠q2:=λe=>Q d (by simp[t]) (by simp[fB,M,tm,e]);have n3:d2≠q:=λe=>m2 d2 (by simp[g]) (by simp[fB,L,tm,e]);obtain⟨z,b,S,i,hT,hr,C,u,hX,V,rfl⟩:=(N2 L t R l w).1 h1;obtain⟨h,y,f,c,A,n,r,v,B,K,x,rfl⟩:=(OF P M g k m).1 h2;rw[aaW n2]at n;refine⟨_,(OF P M g k m).2 ⟨h,y,f,c,A,n,r,v,B,K,λhm=>x hm,rfl⟩,?_⟩;have F:∃a,(nth (kA st.boxes y (I (fV c f (bz st.ep ((c.drop f).take h.ct.size))))) b).getD W=I a/\S+z.ct.size<=a.length/\(a.drop S).take z.ct.size=(i.drop S).take z.ct.size:=by
  by_cases j:y=b;subst j;have hcs:c=i:=bu (r.symm.trans C);subst hcs;have U:(fV c f (bz st.ep ((c.drop f).take h.ct.size))).length=c.length:=by simp only[fV,bz,aq,bt,bp,bA];omega
  exact⟨_,ahf C,J,R5 v (.inl V)⟩;exact⟨i,by rw[ahg j];exact C,u,rfl⟩
 obtain⟨a,D,H,he⟩:=F;refine(N2 L t R l w).2 ⟨z,b,S,a,hT,by rw[aaW n3,aqv];exact hr,D,H,hX,by rw[he];exact V,?_⟩;rw[he];simp only[AS.put,AS.gD,AS.mk.injEq,lJ];exact ma _ n1 _ _
theorem Yr {o}{q:Nat}(p:NG an o=O)(l:o.op=.load T (.tmp q))(m:o.dst=I d)(n:o.guard=W)(h:an.mv.contains d=O)(f:an.mb d=W):dI E Γ an ops X o st=I s↔ ∃(g:Bool)(e:CT)(r:Z (Nat×Nat))(b j t c:Nat)(x:e.D)(i:Int)(a:Z AC)(k:Z e.D)(y:e.D),lV E.ty T=I ⟨g,e,r⟩/\st.rd (.tmp q)=.val G [.I7 (.loc c (I (.box b j,t))) e x i 0]/\(nth st.boxes b).getD W=I a/\nth a j=I (.sl (.own (I t)) e k)/\idx k i=I y/\ X.contains b=G/\an.eb q=I b/\fmB an o=G/\s=(Sf st b j t e i a k).put (I d) (.val g (cellsOf e (.own W) y)):=by rw[<-Yq p l m h f];unfold dI;cases fb E an X o st with|false=>simp|true=>simp only[ae,jS,n,dM,l,true_and]
theorem anq {o}(h:Jl an o=O):∃T q d,o.op=.load T (.tmp q)/\o.dst=I d/\o.guard=W/\an.mv.contains d=G/\fmB an o=false:=by unfold Jl at h;split at h;rename_i T q d c a b;simp only[af,aW]at h;exact⟨T,q,d,c,a,b,h.1.1,by simp only[fmB,a];exact h.1.2⟩;cases h
theorem XF {o}{q:Nat}(n:Jl an o=O)(j:o.op=.load T (.tmp q))(k:o.dst=I d)(p:o.guard=W)(a:an.mv.contains d=G)(i:fmB an o=G):dI E Γ an ops X o st=I s↔ ∃f b S g,lV E.ty T=I f/\st.rd (.tmp q)=.val G [.ptr b S]/\(nth st.boxes b).getD W=I g/\S+f.ct.size<=g.length/\X.contains b=G/\ s=st.put (I d) (.val f.agg (ll st.ep (.box b) S ((g.drop S).take f.ct.size))):=by
 unfold dI;constructor;intro h;cases hf:fb E an X o st with|false=>rw[hf]at h;cases h|true=>rw[hf]at h;simp only[ae,jS,p,dM,j]at h;unfold vD at h;split at h;rename_i f b S l e;simp only[fb,j,e,k,a,i,bS,lI,gB,aW]at hf;split at h;rename_i g m;split at h;rename_i c;simp only[k,a,bD,cY]at h;cases h;exact⟨f,b,S,g,l,e,m,c,hf,rfl⟩;cases h;cases h;rename_i e;simp only[fb,j,e,n,ak,ij,iR]at hf;cases hf;cases h
 rintro⟨f,b,S,g,l,e,m,c,r,rfl⟩;have hf:fb E an X o st=true:=by simp only[fb,j,e,k,a,r,i];rfl
 rw[hf];simp only[ae,jS,p,dM,j,vD,e,l,m,aI c,k,a,bD,cY]
theorem V3 {b:Nat}:∀(a:Z AC)(p k:Nat)(d:AC),(∀c,a[k]?=I c->∀r,d.borrow ep (I r)=c.borrow ep (I r))->ll ep (.box b) p (a.set k d)=ll ep (.box b) p a
 |[],_,_,_,_=>rfl
 |c::a,p,0,d,h=>by simp only[List.set_cons_zero,ll,h c rfl]
 |c::a,p,k+1,d,h=>by simp only[List.set_cons_succ,ll];rw[V3 a (p+1) k d (λc e=>h c (by simpa using e))]
theorem adM {b j n e i f d}(g:nth d j=I (.sl (.own (I t)) e f)): ll ep (.box b) S (((kA d j (.sl (.im (I t) i (I ep)) e f)).drop S).take n)=ll ep (.box b) S ((d.drop S).take n):=by rw[iA,List.drop_set];split;rfl;rename_i h;rw[List.take_set];refine V3 _ _ _ _ λc a r=>?_;by_cases hn:j-S<n;rw[ft hn,cA,(J:S+(j-S)=j),<-fJ,g]at a;cases a;rfl;rw[cn (by simp;omega)]at a;cases a
theorem ary {o p}(ha:ahk an o p=O)(h1:dI E Γ an ops X o st=I s1)(h2:dI E Γ an ops Y p s1=I s2): ∃t1,dI E Γ an ops Y p st=I t1/\dI E Γ an ops X o t1=I s2:=by
 simp only[ahk,af,aW]at ha;obtain⟨⟨⟨h,ht⟩,C⟩,m2⟩:=ha;have C:=qC C;have m2:=qC m2;obtain⟨T,q,d,V,B,hg,w,s⟩:=anq h;obtain⟨T2,q2,d2,Z,f,u,z,v⟩:=aby ht;have n1:d≠d2:=λe=>C d (by simp[B]) (by simp[f,e]);have n2:d≠q2:=λe=>C d (by simp[B]) (by simp[fB,Z,tm,e]);have n3:d2≠q:=λe=>m2 d2 (by simp[f]) (by simp[fB,V,tm,e]);obtain⟨k,b,S,D,hT,hr,K,r,hX,rfl⟩:=(XF h V B hg w s).1 h1;obtain⟨g,e,nt,l,j,t,F,x,i,c,ys,y,H,A,M,hj,hi,J,P,U,rfl⟩:=(Yr ht Z f u z v).1 h2;rw[aaW n2]at A;have m:(nth st.boxes l).getD W=I c:=M;refine⟨_,(Yr ht Z f u z v).2 ⟨g,e,nt,l,j,t,F,x,i,c,ys,y,H,A,m,hj,hi,J,P,U,rfl⟩,?_⟩;have Q:∃a,(nth (kA st.boxes l (I (kA c j (.sl (.im (I t) i (I st.ep)) e ys)))) b).getD W=I a/\S+k.ct.size<=a.length/\ll st.ep (.box b) S ((a.drop S).take k.ct.size)=ll st.ep (.box b) S ((D.drop S).take k.ct.size):=by by_cases n:l=b;subst n;have N:c=D:=bu (m.symm.trans K);subst N;exact⟨_,ahf K,by rw[iA,aC];exact r,adM hj⟩;exact⟨D,by rw[ahg n];exact K,r,rfl⟩
 obtain⟨a,L,R,he⟩:=Q;refine(XF h V B hg w s).2 ⟨k,b,S,a,hT,by rw[aaW n3];exact hr,L,R,hX,?_⟩;show _=((Sf st l j t e i c ys).put (I d2) _).put (I d) (.val k.agg (ll st.ep (.box b) S ((a.drop S).take k.ct.size)));rw[he];simp only[AS.put,Sf,AS.gD,AS.mk.injEq,lJ];exact ma _ n1 _ _
def Zl (E:Env)(Γ:IY)(an:An)(ops:Z Oper)(X:Nat->gw):gw->AS->aS AS
 |[],st=>I st
 |i::r,st=>match nth ops i with
  |some o=>(dI E Γ an ops (X i) o st).bind (Zl E Γ an ops X r)
  |none=>W
theorem X0 (l:∀f,(Γ f).io=G/\((Γ f).bx=O->(Γ f).cur=O)/\(Γ f).pr=G){X:Nat->gw}{i:Nat}{n:Oper}(o:nth ops i=I n):∀(b post:gw)(st r:AS),(∀j∈b,∀c,nth ops j=I c->VV an ops (X j) (X i) c n=O)->
 Zl E Γ an ops X (b++i::post) st=I r->Zl E Γ an ops X (i::(b++post)) st=I r
 |[],post,st,r,_,h=>h
 |j::b,post,st,r,q,h=>by
  simp only[jm,Zl]at h;cases m:nth ops j with
  |none=>rw[m]at h;cases h
  |some c=>
   rw[m]at h;simp only at h;obtain⟨s1,d,s⟩:=br.1 h;have p:=X0 l o b post s1 r (λk u=>q k (by simp[u])) s;simp only[Zl,o]at p;obtain⟨s2,e,t⟩:=br.1 p;have g:=q j aD c m;obtain⟨t1,k1,k2⟩:∃t1,dI E Γ an ops (X i) n st=I t1/\dI E Γ an ops (X j) c t1=I s2:=by cases a:aqq an c n with|false=>rw[VV,a,cq]at g;exact ajF l g d e|true=>simp only[aqq,dW]at a;rcases a with((a|a)|a)|a;exact apc a d e;exact arE a d e;exact ar8 a d e;exact ary a d e
   simp only[Zl,o,k1,gi,jm,m,k2];exact t
end Go.Dn
