import Derived.KernelRfl
import Derived.Test.YtjoicgadhgkphabGreatPuX1
namespace Go.Pu
open Go.Dn
set_option linter.unusedSimpArgs false
set_option linter.unusedVariables false
noncomputable section
/- The switch: the program's and the reference's results are one. -/
structure kT (ps:List Port):Prop where
 n:ps.length≤1000000000
 v:∀p∈ps,p.2.1.length≤1000000000
def Iv (ps:List Port)(e:Int)(p:aC):Bool:=eE ps&&(dA p&&dD e 0 ((ps.length:Int)-1))
def Hn (x:Port)(p:aC):Int:=bif p.2.2.1== -1 then x.2.2.1 else p.2.2.1
def eM (ps:List Port)(e:Int)(p:aC):Int:=
 bif !Iv ps e p then-1 else
 bif !hasB (ps.getD e.toNat gM).2.1 (Hn (ps.getD e.toNat gM) p)||((e !=0)&&((ps.getD e.toNat gM).2.2.2&&((ps.getD e.toNat gM).1 !=p.2.1))) then-1 else Hn (ps.getD e.toNat gM) p
theorem LQ {p:aC}(h:dA p=true):(decide (p.2.2.1<0))=(p.2.2.1== -1):=by simp only[dA,vx,ai,de]at h;have:=h.1.2.2.1;rw[bK,aY,aS];omega
theorem xM (ps:List Port)(e:Int)(p:aC)(z:kT ps):iT ps e p=some (eM ps e p):=by
 have hn:=z.n;unfold iT eM Iv;rw[wM ps hn z.v,ab];cases hp:eE ps with|false=>rfl|true=>?_
 rw[lS,ab];cases hs:dA p with|false=>rfl|true=>?_
 rw[wrap64 (n:=(ps.length:Int)-1) (by omega) (by omega),dK];cases he:dD e 0 ((ps.length:Int)-1)with|false=>rfl|true=>?_
 have h1:=de.1 he;obtain⟨e,rfl⟩:=a4 h1.1;have hl:e<ps.length:=by omega
 have hv:=z.v _ (aD hl);simp only[au,af,ab,cf,aZ hl,ax,bF hl,rq _ _ hv,Hn];cases p.2.2.1== -1<;>simp only[ae,af]<;>cases hasB ps[e].2.1 p.2.2.1<;>cases hasB ps[e].2.1 ps[e].2.2.1<;>cases (e:Int) !=0<;>cases ps[e].2.2.2<;>cases ps[e].1 !=p.2.1<;>rfl
theorem vc (ps:List Port)(e:Int)(p:aC)(z:kT ps):jt ps e p=some (eM ps e p):=by
 have hn:=z.n;unfold jt eM Iv;rw[wW ps hn z.v,ab];cases hp:eE ps with|false=>rfl|true=>?_
 rw[mn,ab];cases hs:dA p with|false=>rfl|true=>?_
 rw[wrap64 (n:=(ps.length:Int)-1) (by omega) (by omega),cV];cases he:dD e 0 ((ps.length:Int)-1)with|false=>rfl|true=>?_
 have h1:=de.1 he;obtain⟨e,rfl⟩:=a4 h1.1;have hl:e<ps.length:=by omega
 have hv:=z.v _ (aD hl);rw[LQ hs];simp only[au,af,ab,cf,aZ hl,ax,bF hl,tH _ _ hv,Hn];cases p.2.2.1== -1<;>simp only[ae,af]<;>cases hasB ps[e].2.1 p.2.2.1<;>cases hasB ps[e].2.1 ps[e].2.2.1<;>cases (e:Int) !=0<;>cases ps[e].2.2.2<;>cases ps[e].1 !=p.2.1<;>rfl
def uZ (ps:List Port)(o v:Int)(p:aC):aC:=
 bif eE ps&&(dD o 0 ((ps.length:Int)-1)&&(hasB (ps.getD o.toNat gM).2.1 v&&dA p)) then
  (bif v==(ps.getD o.toNat gM).2.2.1 then(p.1,p.2.1, -1,p.2.2.2) else(p.1,p.2.1,v,p.2.2.2)) else Qn
theorem OD (ps:List Port)(o v:Int)(p:aC)(z:kT ps):mx ps o v p=some (uZ ps o v p):=by
 have hn:=z.n;unfold mx uZ;rw[wW ps hn z.v,ab];cases hp:eE ps with|false=>rfl|true=>?_
 rw[wrap64 (n:=(ps.length:Int)-1) (by omega) (by omega),cV];cases he:dD o 0 ((ps.length:Int)-1)with|false=>rfl|true=>?_
 have h1:=de.1 he;obtain⟨o,rfl⟩:=a4 h1.1;have hl:o<ps.length:=by omega
 have hv:=z.v _ (aD hl);simp only[au,af,ab,bn,aZ hl,ax,bF hl,tH _ _ hv,mn];cases hasB ps[o].2.1 v<;>cases dA p<;>cases v==ps[o].2.2.1<;>rfl
theorem NQ (ps:List Port)(o v:Int)(p:aC)(z:kT ps):lX ps o v p=some (uZ ps o v p):=by
 have hn:=z.n;unfold lX uZ;rw[wM ps hn z.v,ab];cases hp:eE ps with|false=>rfl|true=>?_
 rw[wrap64 (n:=(ps.length:Int)-1) (by omega) (by omega),dK];cases he:dD o 0 ((ps.length:Int)-1)with|false=>rfl|true=>?_
 have h1:=de.1 he;obtain⟨o,rfl⟩:=a4 h1.1;have hl:o<ps.length:=by omega
 have hv:=z.v _ (aD hl);simp only[au,af,ab,bn,aZ hl,ax,bF hl,rq _ _ hv,lS];cases hasB ps[o].2.1 v<;>cases dA p<;>cases v==ps[o].2.2.1<;>rfl
def xk (ps:List Port)(e v:Int)(j:Nat):Bool:=((j:Int) !=e)&&hasB (ps.getD j gM).2.1 v
def fe (l:List Nat):List Int:=l.map Int.ofNat
def Pa (p:aC):Bool:=p.1==281474976710655
theorem Ar {q:Nat→Bool}(l:List Nat)(i:Nat)(hi:i<l.length):(l.take (i+1)).filter q=bif q l[i] then(l.take i).filter q++[l[i]] else(l.take i).filter q:=by rw[bB hi,List.filter_append];cases hq:q l[i]<;>simp[hq]
theorem Cu {q:Nat→Bool}(l:List Nat)(i:Nat):((l.take i).filter q).length≤l.length:=aP (List.length_filter_le _ _) (by simp;omega)
theorem CI (ps:List Port)(e v:Int)(l:List Nat)(hl:l.length≤1000000000)(hb:∀j∈l,j<ps.length)(z:kT ps): aV (dL (λ(y7:List Int) (y8:Int)=>some y7) ps e v (fe l) ((fe l).length:Int)) fuel (([]:List Int),0)=some (fe (l.filter (xk ps e v))):=by
 refine cp (λi=>(fe ((l.take i).filter (xk ps e v)),(i:Int))) l.length (by omega) (λi nx hi=>?_) (λnx=>?_);have hj:=hb _ (aD hi);have hv:=z.v _ (aD hj);have hi2:i<(fe l).length:=by simpa[fe]using hi
 have e1:(fe l)[i]'hi2=(l[i]:Int):=by simp[fe]
 have hf:=Cu (q:=xk ps e v) l i;simp only[dL];rw[aj (by simpa[fe]using hi),aZ hi2,e1,wrap64 (by omega) (by omega)];simp only[ae,ab,aZ hj,rq _ _ hv];rw[Ar l i hi,xk,bF hj];have hr:∀k:Option (List Int),room (List.length (fe ((l.take i).filter (xk ps e v)))+List.length ([(l[i]:Int)])) k=k:=λk=>aN (by simp only[fe,ch,bz];omega);cases (l[i]:Int) !=e with|false=>rfl|true=>cases hasB ps[l[i]].2.1 v with|false=>rfl|true=>simp only[ae,ab,cf];rw[hr];simp[fe]
 simp only[dL];rw[ah (by simp[fe]),bJ];rfl
def su (ps:List Port)(p:aC):Nat→Nat
 |0=>0
 |i+1=>bif (ps.getD (i+1) gM).1==p.1 then i+1 else su ps p i
def mL (ps:List Port)(e:Int)(p:aC):List Nat:=
 (List.range ps.length).filter λj=>xk ps e (eM ps e p) j&&((j==su ps p (ps.length-1))||Pa p)
def tM (ps:List Port)(e:Int)(p:aC):List Int:=bif decide (eM ps e p<0) then [] else fe (mL ps e p)
theorem wi (ps:List Port)(e:Int)(p:aC)(z:kT ps):ib ps e p=some (tM ps e p):=by
 have hn:=z.n;unfold ib tM;rw[vc ps e p z,ab];cases hd:decide (eM ps e p<0)with|true=>rfl|false=>?_
 have hp:eE ps=true:=by cases hp:eE ps with|true=>rfl|false=>unfold eM Iv at hd;rw[hp]at hd;simp at hd
 have h1:1≤ps.length:=by simp only[eE,ai,de]at hp;omega
 simp only[af];refine cp (λi=>((su ps p i:Int),((i+1:Nat):Int))) (ps.length-1) (by omega) (λi nx hi=>?_) (λnx=>?_);have hj:i+1<ps.length:=by omega
 simp only[ic];rw[aj (by omega),aZ hj,wrap64 (by omega) (by omega),su,bF hj];simp only[ae,ab];cases ps[i+1].1==p.1<;>rfl
 ·simp only[ic];rw[ah (by omega),af];generalize hv:eM ps e p=v;have hsw:mL ps e p=(List.range ps.length).filter λj=>xk ps e v j&&((j==su ps p (ps.length-1))||Pa p):=by rw[mL,hv]
  rw[hsw];generalize hq:(λj=>xk ps e v j&&((j==su ps p (ps.length-1))||Pa p))=q;refine cp (λi=>(fe (((List.range ps.length).take i).filter q),(i:Int))) ps.length (by omega) (λi nx hi=>?_) (λnx=>?_)
  ·have hvv:=z.v _ (aD hi);have hi2:i<(List.range ps.length).length:=by simpa using hi
   have hf:=Cu (q:=q) (List.range ps.length) i;simp only[gI];rw[aj (by omega),aZ hi,wrap64 (by omega) (by omega)];simp only[ae,ab,tH _ _ hvv];rw[Ar (List.range ps.length) i hi2,List.getElem_range];have eq:q i=(((i:Int) !=e)&&hasB ps[i].2.1 v&&(((i:Int)==(su ps p (ps.length-1):Int))||(p.1==281474976710655))):=by rw[←hq];simp only[xk,bF hi,Pa];congr 2;rw[bK,aS,aS];omega
   have hr:∀k:Option (List Int),room (List.length (fe (((List.range ps.length).take i).filter q))+List.length ([(i:Int)])) k=k:=λk=>aN (by simp only[fe,ch,bz];rw[List.length_range]at hf;omega);rw[eq];cases (i:Int) !=e with|false=>rfl|true=>?_
   cases hasB ps[i].2.1 v with|false=>rfl|true=>?_
   simp only[ae,ab,bn];cases ((i:Int)==(su ps p (ps.length-1):Int))<;>cases p.1==281474976710655<;>simp only[ae,af,ab,cA,Bool.or_true,Bool.true_or]<;>first|rfl|(rw[hr];simp[fe])
  simp only[gI];rw[ah (by omega),br (by simp)];rfl
theorem Ey (q:Nat→Bool):∀l:List Nat,(uH q l= -1∧∀j∈l,q j=false)∨∃j∈l,q j=true∧uH q l=(j:Int)
 |[]=> .inl ⟨rfl,by simp⟩
 |j::l=>by rw[uH];cases hj:q j with|true=>exact .inr ⟨j,by simp,hj,rfl⟩|false=>simp only[af];rcases Ey q l with⟨h1,h2⟩|⟨k,h1,h2,h3⟩;exact .inl ⟨h1,by intro k hk;rcases bu.1 hk with rfl|hk;exact hj;exact h2 k hk⟩;exact .inr ⟨k,by simp[h1],h2,h3⟩
theorem CF {ps:List Port}{p:aC}:∀i,(∀j,1≤j→j≤i→((ps.getD j gM).1==p.1)=false)→su ps p i=0
 |0,_=>rfl
 |i+1,h=>by rw[su,h (i+1) (by omega) (by omega)];exact CF i λj h1 h2=>h j h1 (by omega)
theorem EC {ps:List Port}{p:aC}{k:Nat}(hk:1≤k)(h:((ps.getD k gM).1==p.1)=true):∀i,k≤i→(∀j,1≤j→j≤i→((ps.getD j gM).1==p.1)=true→j=k)→su ps p i=k
 |0,hi,_=>by omega
 |i+1,hi,hu=>by rw[su];by_cases he:k=i+1;rw[←he,h];rfl;cases hq:(ps.getD (i+1) gM).1==p.1 with|true=>have:=hu (i+1) (by omega) (by omega) hq;omega|false=>exact EC hk h i (by omega) λj h1 h2=>hu j h1 (by omega)
theorem MS {ps:List Port}(hp:eE ps=true){i j:Nat}(h1:1≤i)(hij:i<j)(hj:j<ps.length):((ps.getD i gM).1==(ps.getD j gM).1)=false:=by simp only[eE,ai,a7,c6,yM,aJ]at hp;have:=(hp.2 j hj).2 i hij;simp only[Bool.and_eq_false_iff,bne_eq_false_iff_eq]at this;rcases this with h|h;omega;exact h
theorem filter_one {q:Nat→Bool}{k n:Nat}(hk:k<n):(List.range n).filter (λj=>q j&&(j==k))=[k].filter q:=by
 have h1:(List.range n).filter (λj=>j==k)=[k]:=by
  induction n with
  |zero=>omega
  |succ n ih=>
   rw[List.range_succ,List.filter_append];by_cases he:k=n;subst he;have:(List.range k).filter (λj=>j==k)=[]:=by rw[List.filter_eq_nil_iff];intro j hj;have:=c6.1 hj;simp;omega
   rw[this];simp;rw[ih (by omega)];have:([n]:List Nat).filter (λj=>j==k)=[]:=by simp;omega
   rw[this];rfl
 have h2:(λj=>q j&&(j==k))=λj=>q j&&(λj=>j==k) j:=rfl;rw[h2,←List.filter_filter,h1]
theorem vU (ps:List Port)(e:Int)(p:aC)(z:kT ps):g7 ps e p=some (tM ps e p):=by
 have hn:=z.n;unfold g7 tM;rw[xM ps e p z,ab];cases hd:decide (eM ps e p<0)with|true=>rfl|false=>?_
 have hp:eE ps=true:=by cases hp:eE ps with|true=>rfl|false=>unfold eM Iv at hd;rw[hp]at hd;simp at hd
 have h1:1≤ps.length∧ps.length≤8:=by simp only[eE,ai,de]at hp;omega
 have hmac:∀j,j<ps.length→(ps.getD j gM).1≤281474976710654:=by intro j hj;simp only[eE,ai,a7,c6,yM,Bo,c8,de]at hp;exact(hp.2 j hj).1.1.2.1.2
 simp only[af,IS ps p.1 hn,ab];generalize hv:eM ps e p=v;have hsw:mL ps e p=(List.range ps.length).filter λj=>xk ps e v j&&((j==su ps p (ps.length-1))||Pa p):=by rw[mL,hv]
 rw[hsw];have hbcase:Pa p=true→∀j,j<ps.length→((ps.getD j gM).1==p.1)=false:=by
  intro hb j hj;have:=hmac j hj;have hb:p.1=281474976710655:=by simpa[Pa]using hb
  rw[hb,cW];omega
 rcases Ey (λj=>(j !=0)&&((ps.getD j gM).1==p.1)) (List.range' 0 ps.length)with⟨hf,hno⟩|⟨k,hk,hq,hf⟩;have hno:∀j,1≤j→j<ps.length→((ps.getD j gM).1==p.1)=false:=by intro j h2 h3;have:=hno j (by simp;omega);simp only[Bool.and_eq_false_iff,bne_eq_false_iff_eq]at this;rcases this with h|h;omega;exact h
 have hh:su ps p (ps.length-1)=0:=CF _ λj h2 h3=>hno j h2 (by omega);rw[hf,show decide ((-1:Int)≥0)=false from rfl,af,hh];rw[show(p.1==281474976710655)=Pa p from rfl];cases hb:Pa p with|true=>simp only[ae,Bool.or_true,gp];refine cp (λi=>(fe (List.range i),(i:Int))) ps.length (by omega) (λi nx hi=>?_) (λnx=>?_);simp only[gG];rw[aj (by omega),aN (by simp only[fe,ch,List.length_range,bz];omega),wrap64 (by omega) (by omega),List.range_succ];simp only[ae,fe,List.map_append];rfl;simp only[gG];rw[ah (by omega),af];exact CI ps e v (List.range ps.length) (by simp;omega) (λj hj=>c6.1 hj) z|false=>simp only[af,Bool.or_false];rw[filter_one (by omega)];exact CI ps e v [0] (by simp) (by simp;omega) z
 have hkl:k<ps.length:=by simp at hk;omega
 simp only[ai,bne_iff_ne]at hq;have hb:Pa p=false:=by cases hb:Pa p with|false=>rfl|true=>rw[hbcase hb k hkl]at hq;cases hq.2
 have hh:su ps p (ps.length-1)=k:=EC (by omega) hq.2 _ (by omega) λj h2 h3 h4=>by rcases Nat.lt_trichotomy j k with g|g|g;have:=MS hp h2 g hkl;have a:=aS.1 h4;have b:=aS.1 hq.2;rw[a,b]at this;simp at this;exact g;have:=MS hp (show 1≤k by omega) g (show j<ps.length by omega);have a:=aS.1 h4;have b:=aS.1 hq.2;rw[a,b]at this;simp at this
 rw[hf,aj (by omega),ae,hh,hb];simp only[Bool.or_false];rw[filter_one hkl];exact CI ps e v [k] (by simp) (by simp;omega) z
theorem tL {ps:List Port}{e:Int}{p:aC}:∀j∈mL ps e p,j<ps.length:=λj hj=>c6.1 (List.mem_filter.1 hj).1
theorem tK (ps:List Port)(e:Int)(p:aC):(mL ps e p).length≤ps.length:=aP (List.length_filter_le _ _) (by simp)
theorem yN (ms:List aR):kT (dx ms).1:=⟨(wU ms).1,(wU ms).2⟩
theorem nn {α:Type}(l:List α)(i:Nat)(hi:i<l.length):l.take i++[l[i]]=l.take (i+1):=(bB hi).symm
theorem tU {w:aX}{n:Nat}(z:bG n bk w):∀m∈w.2.2.2.1,m.1.2.2.length≤n:=λm hm=>(z.2.2.2.1.2 m hm).1.2.2.1
theorem pz {w:aX}(z:bG 1000000000 bk w):Fk w:=⟨z.1.1,z.2.2.1.1,tU z,λs hs=>(z.1.2 s hs).1.2.2.1,λs hs=>(z.1.2 s hs).2.1.1.1,λs hs=>(z.1.2 s hs).2.1.2.1.1,λs hs=>(z.1.2 s hs).2.1.2.2.2.1⟩
theorem pM (w:aX)(z:bG 1000000000 bk w):gB w=some w:=by have l1:w.1.length≤1000000000:=z.1.1;have l2:w.2.1.length≤1000000000:=z.2.1.1;unfold gB;simp only[ot _ z.2.2.1.1,xi _ z.2.2.2.1.1 (tU z),qT _ z.2.2.2.2.1,ab];refine cp (λi=>((i:Int),w.1.take i,([]:List (List Bytes)),w.2.2.1,w.2.2.2.1,w.2.2.2.2)) w.1.length (by omega) (λi nx hi=>?_) (λnx=>?_);simp only[k5];rw[aj (by omega),aZ hi,wrap64 (by omega) (by omega)];simp only[ae,ab,yx _ (z.1.2 _ (aD hi))];rw[aN (by simp;omega),nn _ i hi];rfl;simp only[k5];rw[ah (by omega),af,bJ];refine cp (λi=>((i:Int),w.1,w.2.1.take i,w.2.2.1,w.2.2.2.1,w.2.2.2.2)) w.2.1.length (by omega) (λi nx hi=>?_) (λnx=>?_);simp only[k6];rw[aj (by omega),aZ hi,wrap64 (by omega) (by omega)];simp only[ae,ab,qT _ (z.2.1.2 _ (aD hi)).1];rw[aN (by simp;omega),nn _ i hi];rfl;simp only[k6];rw[ah (by omega),af,bJ]
theorem tZ (w:aX)(z:bG 1000000000 bk w):mI w=some w:=by have l1:w.1.length≤1000000000:=z.1.1;have l2:w.2.1.length≤1000000000:=z.2.1.1;have l3:w.2.2.2.1.length≤1000000000:=z.2.2.2.1.1;unfold mI;rw[ga z.2.2.1.1,ga z.2.2.2.2.1];simp only[a9];refine cp (λi=>((i:Int),w.1.take i,([]:List (List Bytes)),w.2.2.1,([]:List aR),w.2.2.2.2)) w.1.length (by omega) (λi nx hi=>?_) (λnx=>?_);simp only[nL];rw[aj (by omega),aZ hi,wrap64 (by omega) (by omega)];simp only[ae,ab,yY _ (z.1.2 _ (aD hi))];rw[aN (by simp;omega),nn _ i hi];rfl;simp only[nL];rw[ah (by omega),af,bJ];refine cp (λi=>((i:Int),w.1,w.2.1.take i,w.2.2.1,([]:List aR),w.2.2.2.2)) w.2.1.length (by omega) (λi nx hi=>?_) (λnx=>?_);simp only[nM];rw[aj (by omega),aZ hi,wrap64 (by omega) (by omega)];simp only[ae,ab];rw[ga (z.2.1.2 _ (aD hi)).1,a9,aN (by simp;omega),nn _ i hi];rfl;simp only[nM];rw[ah (by omega),af,bJ];refine cp (λi=>((i:Int),w.1,w.2.1,w.2.2.1,w.2.2.2.1.take i,w.2.2.2.2)) w.2.2.2.1.length (by omega) (λi nx hi=>?_) (λnx=>?_);simp only[mJ];rw[aj (by omega),aZ hi,wrap64 (by omega) (by omega)];simp only[ae,ab,nA _ (tU z _ (aD hi))];rw[aN (by simp;omega),nn _ i hi];rfl;simp only[mJ];rw[ah (by omega),af,bJ]
def tJ (ps:List Port)(v:Int)(p:aC)(w:aX)(j:Nat):aX:=
 bif j==0 then(w.1,w.2.1,w.2.2.1,w.2.2.2.1,w.2.2.2.2++[(oo (uZ ps (j:Int) v p)).1])
 else(w.1.set (j-1) (sV (w.1.getD (j-1) adB) (oo (uZ ps (j:Int) v p)).1),w.2)
theorem Nc (ps:List Port)(v:Int)(p:aC)(w:aX)(j:Nat):(tJ ps v p w j).1.length=w.1.length:=by unfold tJ;cases j==0 with|true=>rfl|false=>exact aO ..
theorem ON {ps:List Port}{v:Int}{p:aC}{w:aX}{j n:Nat}(hj:j≤w.1.length)(hn:382≤n)(z:bG n bk w):bG (n+322) bk (tJ ps v p w j):=by
 have z':bG (n+322) bk w:=z.mono (by omega);have hfr:=wJ (uZ ps (j:Int) v p);unfold tJ;cases hj0:j==0 with
 |true=>refine⟨z'.1,z'.2.1,z'.2.2.1,z'.2.2.2.1,?_,λx hx=>?_⟩;have:w.2.2.2.2.length≤n:=z.2.2.2.2.1;show(w.2.2.2.2++[_]).length≤_;simp only[ak,bz];omega;rcases aq.1 hx with h|h;exact z'.2.2.2.2.2 x h;rw[cP.1 h];show List.length _≤_;omega
 |false=>
  have:j≠0:=by simpa using hj0
  have hl:j-1<w.1.length:=by omega
  refine⟨⟨?_,λx hx=>?_⟩,z'.2⟩;show(w.1.set _ _).length≤_;rw[aO];exact z'.1.1;rcases List.mem_or_eq_of_mem_set hx with h|h;exact z'.1.2 x h;rw[h,bF hl];exact GS (z.1.2 _ (aD hl))
def sY (ps:List Port)(v:Int)(p:aC)(w:aX)(l:List Nat):aX:=l.foldl (tJ ps v p) w
theorem Br (ps:List Port)(v:Int)(p:aC):∀(l:List Nat)(w:aX),(sY ps v p w l).1.length=w.1.length
 |[],w=>rfl
 |j::l,w=>by show(sY ps v p (tJ ps v p w j) l).1.length=_;rw[Br ps v p l,Nc]
theorem wV {ps:List Port}{v:Int}{p:aC}:∀(l:List Nat){w:aX}{n:Nat},(∀j∈l,j≤w.1.length)→382≤n→bG n bk w→bG (n+322*l.length) bk (sY ps v p w l)
 |[],w,n,_,_,z=>z
 |j::l,w,n,hj,hn,z=>by have h1:=ON (ps:=ps) (v:=v) (p:=p) (hj j (by simp)) hn z;have:=wV (ps:=ps) (v:=v) (p:=p) l (w:=tJ ps v p w j) (λk hk=>by rw[Nc];exact hj k (by simp[hk])) (by omega) h1;exact this.mono (by simp only[bE];omega)
theorem Df (ps:List Port)(v:Int)(p:aC)(w:aX)(l:List Nat)(i:Nat)(hi:i<l.length):sY ps v p w (l.take (i+1))=tJ ps v p (sY ps v p w (l.take i)) l[i]:=by rw[bB hi,sY,List.foldl_append];rfl
theorem CK {R:Type}(K:aX→Option R)(ps:List Port)(v:Int)(p:aC)(w:aX)(l:List Nat)(hl:l.length≤8)(hj:∀j∈l,j≤w.1.length)(z:bG 90000000 bk w)(zp:kT ps): aV (fX (λ(_:Int) (y16:aX)=>K y16) ps v (fe l) ((fe l).length:Int) p (([]:List dR),([]:List (List Bytes)),([]:List al),([]:List aR),([]:List Bytes))) fuel (0,w)=K (sY ps v p w l):=by
 refine cp (λi=>((i:Int),sY ps v p w (l.take i))) l.length (by omega) (λi nx hi=>?_) (λnx=>?_);have hi2:i<(fe l).length:=by simpa[fe]using hi
 have e1:(fe l)[i]'hi2=(l[i]:Int):=by simp[fe]
 have hn:=Br ps v p (l.take i) w;have hz:=(wV (ps:=ps) (v:=v) (p:=p) (l.take i) (λj h=>hj j (List.mem_of_mem_take h)) (by omega) z).mono (show 90000000+322*(l.take i).length≤100000000 by rw[bt];omega);have hji:=hj _ (aD hi);have hfr:=wJ (uZ ps (l[i]:Int) v p);rw[Df ps v p w l i hi];generalize sY ps v p w (l.take i)=W at hn hz⊢;have hw:W.2.2.2.2.length≤100000000:=hz.2.2.2.2.1;have hw1:W.1.length≤100000000:=hz.1.1;simp only[fX];rw[aj (by simpa[fe]using hi),aZ hi2,e1,wrap64 (n:=(i:Int)+1) (by omega) (by omega)];simp only[ae,ab,NQ ps _ v p zp,EF,tJ];by_cases h0:l[i]=0;rw[show((l[i]:Int)==0)=true from by simp[h0],show(l[i]==0)=true from by simp[h0]];simp only[ae];rw[aN (by simp only[bz];omega)];rfl;rw[show((l[i]:Int)==0)=false from by simp[h0],show(l[i]==0)=false from by simp[h0]];have hk:l[i]-1<W.1.length:=by omega
 rw[wrap64 (n:=(l[i]:Int)-1) (by omega) (by omega),show(l[i]:Int)-1=((l[i]-1:Nat):Int) by omega];simp only[af,aZ hk,ab,IK _ _ (hz.1.2 _ (aD hk)) (aP hfr (by omega)),ax,bF hk];rfl;simp only[fX];rw[ah (by simp[fe]),af,bJ]
theorem ve {R:Type}(K:aX→Option R)(ps:List Port)(v:Int)(p:aC)(w:aX)(l:List Nat)(hl:l.length≤8)(hj:∀j∈l,j≤w.1.length)(z:bG 90000000 bk w)(zp:kT ps): aV (ie (λ(_:Int) (y15:aX)=>K y15) ps (fe l) v p) fuel (0,w)=K (sY ps v p w l):=by
 refine cp (λi=>((i:Int),sY ps v p w (l.take i))) l.length (by omega) (λi nx hi=>?_) (λnx=>?_);have hi2:i<(fe l).length:=by simpa[fe]using hi
 have e1:(fe l)[i]'hi2=(l[i]:Int):=by simp[fe]
 have hn:=Br ps v p (l.take i) w;have hz:=(wV (ps:=ps) (v:=v) (p:=p) (l.take i) (λj h=>hj j (List.mem_of_mem_take h)) (by omega) z).mono (show 90000000+322*(l.take i).length≤100000000 by rw[bt];omega);have hji:=hj _ (aD hi);have hfr:=wJ (uZ ps (l[i]:Int) v p);rw[Df ps v p w l i hi];generalize sY ps v p w (l.take i)=W at hn hz⊢;have hw:W.2.2.2.2.length≤100000000:=hz.2.2.2.2.1;have hw1:W.1.length≤100000000:=hz.1.1;simp only[ie];rw[aj (by simpa[fe]using hi),aZ hi2,e1,wrap64 (n:=(i:Int)+1) (by omega) (by omega)];simp only[ae,ab,OD ps _ v p zp,E3,tJ];by_cases h0:l[i]=0;rw[show((l[i]:Int)==0)=true from by simp[h0],show(l[i]==0)=true from by simp[h0]];simp only[ae];rw[aN (by simp only[bz];omega)];rfl;rw[show((l[i]:Int)==0)=false from by simp[h0],show(l[i]==0)=false from by simp[h0]];have hk:l[i]-1<W.1.length:=by omega
 rw[wrap64 (n:=(l[i]:Int)-1) (by omega) (by omega),show(l[i]:Int)-1=((l[i]-1:Nat):Int) by omega];simp only[af,aZ hk,ab,JJ _ _ (hz.1.2 _ (aD hk)) (aP hfr (by omega)),ax,bF hk];rfl;simp only[ie];rw[ah (by simp[fe]),af,bJ]
def eA (w:aX)(e:Int)(p:aC):aX:=
 bif ik w&&dS p then(bif decide (eM (dx w.2.2.2.1).1 e p<0) then w else sY (dx w.2.2.2.1).1 (eM (dx w.2.2.2.1).1 e p) p w (mL (dx w.2.2.2.1).1 e p)) else w
theorem Bp {w:aX}(h:ik w=true):(dx w.2.2.2.1).1.length=w.1.length+1∧(dx w.2.2.2.1).1.length≤8:=by unfold ik at h;simp only[ai]at h;have hl:=(CS h.2.1).1;have h2:=h.1;unfold dx at h2⊢;cases hc:dD (w.2.2.2.1.length:Int) 1 3&&(w.2.2.2.1.all jE&&eE (tD w.2.2.2.1))with|false=>rw[hc]at h2;cases h2|true=>simp only[ai]at hc;have:=(CB w.2.2.2.1 0 ([0],[]) ⟨by simp,rfl,by simp⟩ hc.2.1).2.1;have h8:=hc.2.2;simp only[eE,ai,de]at h8;simp only[ae];refine⟨?_,by omega⟩;simp only[tD,bE];rw[this,hl];omega
theorem vz (w:aX)(e:Int)(p:aC)(z:bG 90000000 bk w):iX w e p=some (eA w e p):=by
 have z9:bG 1000000000 bk w:=z.mono (by omega);unfold iX eA;simp only[pM w z9,zG w (pz z9),uJ,ab];cases hi:ik w with|false=>rfl|true=>?_
 cases dS p with|false=>rfl|true=>?_
 have hn:=Bp hi;have zp:=yN w.2.2.2.1;simp only[au,af,ab,cf,ae,ti _ (tU z9),xM _ e p zp,vU _ e p zp];generalize (dx w.2.2.2.1).1=ps at hn zp⊢;unfold tM;cases decide (eM ps e p<0)with|true=>exact CK (λw=>some w) ps (eM ps e p) p w [] (by simp) (by simp) z zp|false=>exact CK (λw=>some w) ps (eM ps e p) p w (mL ps e p) (by have:=tK ps e p;omega) (λj hj=>by have:=tL j hj;omega) z zp
theorem AZ (w:aX)(e:Int)(p:aC)(z:bG 90000000 bk w):mw w e p=some (eA w e p):=by
 have z9:bG 1000000000 bk w:=z.mono (by omega);unfold mw jB eA;simp only[tZ w z9,Ah w (pz z9),vd,ab];cases hi:ik w with|false=>rfl|true=>?_
 cases dS p with|false=>rfl|true=>?_
 have hn:=Bp hi;have zp:=yN w.2.2.2.1;simp only[au,af,ab,cf,ae,qI _ (tU z9),vc _ e p zp,wi _ e p zp];generalize (dx w.2.2.2.1).1=ps at hn zp⊢;unfold tM;cases decide (eM ps e p<0)with|true=>exact congrArg (λq=>aa q λr:Unit×aX=>some r.2) (ve (λw=>some ((),w)) ps (eM ps e p) p w [] (by simp) (by simp) z zp)|false=>exact congrArg (λq=>aa q λr:Unit×aX=>some r.2) (ve (λw=>some ((),w)) ps (eM ps e p) p w (mL ps e p) (by have:=tK ps e p;omega) (λj hj=>by have:=tL j hj;omega) z zp)
theorem Ez {s:Bytes}{a:Nat}:cE s (a:Int)=bif decide (a+2≤s.length) then((bT s a*256+bT s (a+1):Nat):Int) else-1:=by unfold cE dz;rw[ax,show decide ((0:Int)≤a∧(a:Int)+2≤(s.length:Int))=decide (a+2≤s.length) from decide_eq_decide.2 (by omega)]
theorem Iu {s t:Bytes}{a:Nat}(hl:s.length=t.length)(h0:bT s a=bT t a)(h1:bT s (a+1)=bT t (a+1)):cE s (a:Int)=cE t (a:Int):=by rw[Ez,Ez,hl,h0,h1]
def rh (s:Bytes):Nat:=bif cE s 12==33024 then 18 else 14
def CP (s:Bytes):Nat:=bT s (rh s+9)
def Tb (k:Nat):Nat:=bif (k:Int)==6 then 16 else 6
def LP (s:Bytes):Nat:=rh s+10
def Ec (s:Bytes):Nat:=rh s+20+Tb (CP s)
theorem Tc (k:Nat):Tb k=16∧k=6∨Tb k=6∧k≠6:=by unfold Tb;by_cases h:k=6;subst h;exact .inl ⟨rfl,rfl⟩;exact .inr ⟨by rw[show((k:Int)==6)=false from by rw[cW];omega];rfl,h⟩
theorem Pc (s:Bytes):rh s=18∧(cE s 12==33024)=true∨rh s=14∧(cE s 12==33024)=false:=by unfold rh;cases cE s 12==33024 with|true=>exact .inl ⟨rfl,rfl⟩|false=>exact .inr ⟨rfl,rfl⟩
def Eg (s t:Bytes):Prop:=s.length=t.length∧∀i,i<LP t∨(LP t+2≤i∧i<Ec t)∨Ec t+2≤i→bT s i=bT t i
theorem Jn (t:Bytes):(rh t=14∨rh t=18)∧LP t=rh t+10∧rh t+26≤Ec t∧Ec t≤rh t+36∧(Ec t=rh t+36∧CP t=6∨Ec t=rh t+26∧CP t≠6):=by have h1:=Pc t;have h2:=Tc (CP t);unfold LP Ec;omega
theorem Eg.body {s t:Bytes}(h:Eg s t):rh s=rh t:=by have:=Jn t;unfold rh;have e:cE s ((12:Nat):Int)=cE t ((12:Nat):Int):=Iu h.1 (h.2 _ (by omega)) (h.2 _ (by omega));rw[show(12:Int)=((12:Nat):Int) from rfl,e]
theorem Eg.kind {s t:Bytes}(h:Eg s t):CP s=CP t:=by have:=Jn t;unfold CP;rw[h.body,h.2 _ (by omega)]
theorem Eg.ajf {s t:Bytes}(h:Eg s t):LP s=LP t∧Ec s=Ec t:=by unfold LP Ec;rw[h.body,h.kind];exact⟨rfl,rfl⟩
theorem Bj {α:Type}{l:List α}{k:Nat}(h:k<l.length)(x:α):idx (l.set k x) (k:Int)=some x:=by rw[wL,List.getElem?_set_self h]
theorem M5 {α:Type}(l:List α)(k:Nat)(x:α):(l.set k x).length=l.length:=aO ..
def lh (f:Filter)(v:Int):Filter×Bool:=bif c8 f&&(!hasB f.2.2 v&&c8 (f.1,f.2.1,ins v f.2.2)) then((f.1,f.2.1,ins v f.2.2),true) else(f,false)
theorem IC (f:Filter)(v:Int)(h:f.2.2.length≤100000000):ry f v=some (lh f v):=by have hi:=Bk v f.2.2;simp only[ry,iR f (by omega),lu f (by omega),rq f.2.2 v (by omega),Gs f.2.2 v (by omega),lu (f.1,f.2.1,ins v f.2.2) (show(ins v f.2.2).length≤1000000000 by omega),ab,lh];cases c8 f<;>cases hasB f.2.2 v<;>cases c8 (f.1,f.2.1,ins v f.2.2)<;>rfl
theorem UJ {l:List Int}(h:(List.range l.length).all (xx l)=true):∀(k j:Nat),j<k→k<l.length→l.getD j 0<l.getD k 0:=by
 rw[a7]at h;intro k;induction k with
 |zero=>intro j hj;omega
 |succ k ih=>
  intro j hj hk;have h1:=h (k+1) (c6.2 hk);simp only[xx,ai,aJ,Bool.and_eq_false_iff,cx]at h1;have h2:¬l.getD (k+1) 0≤l.getD (k+1-1) 0:=by rcases h1.2 with h2|h2;omega;exact h2
  rw[Nat.add_sub_cancel]at h2;rcases bc j k with h3|h3;have:=ih j h3 (by omega);omega;have:j=k:=by omega
  subst this;omega
theorem Si (f:Filter)(v:Int)(hf:c8 f=true)(hv:hasB f.2.2 v=true)(q:Bool):c8 (f.1,q,f.2.2.take (f.2.2.findIdx (λx=> !decide (x<v)))++[v]++f.2.2.drop (f.2.2.findIdx (λx=> !decide (x<v))))=false:=by
 have hasc:=UJ (l:=f.2.2) (by simp only[c8,ai]at hf;exact hf.1);generalize f.2.2=l at*;obtain⟨k,hk,hkv⟩:=List.mem_iff_getElem.1 (yw.1 hv);have hex:∃x∈l,(λx=> !decide (x<v)) x=true:=⟨l[k],aD hk,by simp[hkv]⟩
 have hj:=List.findIdx_lt_length_of_exists hex;have hge:=List.findIdx_getElem (w:=hj);have hmin:l.findIdx (λx=> !decide (x<v))≤k:=by rcases bc k (l.findIdx (λx=> !decide (x<v)))with h|h;have:=List.not_of_lt_findIdx h;simp[hkv]at this;exact h
 generalize l.findIdx (λx=> !decide (x<v))=j at*;have hle:l[j]≤v:=by
  rcases bc j k with h|h;have:=hasc k j h hk;rw[bF hk,bF hj,hkv]at this;omega;have:j=k:=by omega
  subst this;rw[hkv];omega
 rw[Bool.eq_false_iff];intro hb;simp only[c8,ai,a7]at hb;have hlen:(l.take j++[v]++l.drop j).length=l.length+1:=by simp;omega
 have h1:=hb.1 (j+1) (c6.2 (by rw[hlen];omega));have hl1:(l.take j++[v]).length=j+1:=by simp;omega
 have e1:(l.take j++[v]++l.drop j).getD (j+1) 0=l[j]:=by rw[List.getD_eq_getElem?_getD,List.getElem?_append_right (by omega),hl1,dr,List.getElem?_drop,cG,List.getElem?_eq_getElem hj];rfl
 have e2:(l.take j++[v]++l.drop j).getD j 0=v:=by
  have ht:(l.take j).length=j:=by simp;omega
  rw[List.getD_eq_getElem?_getD,List.getElem?_append_left (by omega),List.getElem?_append_right (by omega),ht,dr];rfl
 simp only[xx,ai,aJ,Bool.and_eq_false_iff,cx,Nat.add_sub_cancel,e1,e2]at h1;rcases h1.2 with h2|h2;omega;exact h2 hle
theorem JA (f:Filter)(v:Int)(h:f.2.2.length≤100000000):rM f v=some (lh f v):=by
 unfold rM;rw[jr f (by omega),ab]
 let K:Int→Option (Filter×Bool):=λy4=>aa (sub f.2.2 0 y4) λx5=>
     room (List.length ([]:List Int)+List.length x5) (
     room (List.length (([]:List Int)++x5)+List.length ([v])) (
     aa (sub f.2.2 y4 ((List.length f.2.2:Int))) λx6=>
     room (List.length ((([]:List Int)++x5)++([v]))+List.length x6) (
     aa (
      aa (dG f) λr7=>
      cond (!r7) (
       some true) (
       aa (dG (f.1,f.2.1,((([]:List Int)++x5)++([v]))++x6)) λr8=>
       some (!r8))) λq9=>
     cond q9 (
      aa (some f) λr10=>
      some (r10,false)) (
      some ((f.1,f.2.1,((([]:List Int)++x5)++([v]))++x6),true)))))
 show aV (kt K v f (0,false,([]:List Int)) f) fuel 0=_;rw[wG (hit:=K) (fin:=K (f.2.2.length:Int)) (λx=> !decide (x<v)) f.2.2 (by omega) (λi hi nx=>?hs) (λnx=>?hf)]
 case hs=>
  simp only[kt]
  rw[aj (by omega),aZ hi,wrap64 (n:=(i:Int)+1) (by omega) (by omega)]
  simp only[ae,ab]
  cases decide (f.2.2[i]<v)<;>rfl
 case hf=>
  simp only[kt]
  rw[ah (by omega)];rfl
 refine Eq.trans (Il (λx=> !decide (x<v)) K f.2.2) ?_;have hle:f.2.2.findIdx (λx=> !decide (x<v))≤f.2.2.length:=List.findIdx_le_length;have e:=KW v f.2.2;have d:=Si f v;have hi:=Bk v f.2.2;show K _=_;generalize f.2.2.findIdx (λx=> !decide (x<v))=j at*;simp only[K];rw[Du _ j hle,JR _ j hle];simp only[ab,a9];rw[aN (by simp;omega),aN (by simp;omega),aN (by simp;omega),lN f (by omega),lN _ (show(f.2.2.take j++[v]++f.2.2.drop j).length≤1000000000 by simp;omega)];simp only[ab,lh];cases hf:c8 f with|false=>rfl|true=>cases hh:hasB f.2.2 v with|true=>rw[d hf hh];rfl|false=>rw[e (λhm=>by rw[yw.2 hm]at hh;cases hh)];cases c8 (f.1,f.2.1,ins v f.2.2)<;>rfl
theorem Fm (f:Filter)(v:Int){n:Nat}(h:f.2.2.length≤n)(hn:8≤n):(lh f v).1.2.2.length≤n:=by unfold lh;cases hc:c8 f&&(!hasB f.2.2 v&&c8 (f.1,f.2.1,ins v f.2.2))with|false=>exact h|true=>simp only[ai]at hc;have:=hc.2.2;simp only[c8,ai,aY]at this;show(ins v f.2.2).length≤n;omega
def iQ (f:Filter)(v:Int):Filter×Bool:=bif c8 f&&hasB f.2.2 v then((f.1,f.2.1,f.2.2.filter (λx=>x !=v)),true) else(f,false)
theorem As (p:Int→Bool)(l:List Int)(i:Nat)(hi:i<l.length):(l.take (i+1)).filter p=bif p l[i] then(l.take i).filter p++[l[i]] else(l.take i).filter p:=by rw[bB hi,List.filter_append];cases hp:p l[i]<;>simp[hp]
theorem vu (p:Int→Bool)(l:List Int)(i:Nat):((l.take i).filter p).length≤l.length:=aP (List.length_filter_le _ _) (by simp;omega)
theorem Gu (f:Filter)(v:Int)(h:f.2.2.length≤1000000000):pP f v=some (iQ f v):=by
 simp only[pP,iR f h,lu f h,rq f.2.2 v h,ab,iQ];cases c8 f with|false=>rfl|true=>?_
 cases hasB f.2.2 v with|false=>rfl|true=>?_
 simp only[au,af,ab,cf,ae];refine(cp (λi=>((i:Int),f.1,f.2.1,(f.2.2.take i).filter (λx=>x !=v))) f.2.2.length (by omega) (λi nx hi=>?_) (λnx=>?_));have hl:=vu (λx=>x !=v) f.2.2 i;simp only[lT];rw[aj (by omega),aZ hi,wrap64 (by omega) (by omega),As _ _ i hi];simp only[ae,ab];rw[aN (by simp only[bz];omega)];cases f.2.2[i] !=v<;>rfl;simp only[lT];rw[ah (by omega),bJ];rfl
theorem G3 (f:Filter)(v:Int)(h:f.2.2.length≤1000000000):qe f v=some (iQ f v):=by
 simp only[qe,jr f h,lN f h,tH f.2.2 v h,ab,iQ];cases c8 f with|false=>rfl|true=>?_
 cases hasB f.2.2 v with|false=>rfl|true=>?_
 simp only[au,af,ab,cf,ae];refine(cp (λi=>((i:Int),f.1,f.2.1,(f.2.2.take i).filter (λx=>x !=v))) f.2.2.length (by omega) (λi nx hi=>?_) (λnx=>?_));have hl:=vu (λx=>x !=v) f.2.2 i;simp only[mq];rw[aj (by omega),aZ hi,wrap64 (by omega) (by omega),As _ _ i hi];simp only[ae,ab];rw[aN (by simp only[bz];omega)];cases f.2.2[i] !=v<;>rfl;simp only[mq];rw[ah (by omega),bJ];rfl
def oe (f:Filter)(m:Int×Int×Int):Filter×Int:=
 bif m.2.1==1 then(bif c8 (m.2.2,f.2) then((m.2.2,f.2),1) else(f,0))
 else bif m.2.1==2 then(bif (lh f m.2.2).2 then((lh f m.2.2).1,1) else(f,0))
 else bif m.2.1==3 then(bif (iQ f m.2.2).2 then((iQ f m.2.2).1,1) else(f,0))
 else bif m.2.1==4 then(f,f.1) else(f,0)
theorem ID (f:Filter)(m:Int×Int×Int)(h:f.2.2.length≤100000000):rF f m=some (oe f m):=by simp only[rF,iR f (by omega),lu (m.2.2,f.2) (show f.2.2.length≤1000000000 by omega),IC f _ h,Gu f _ (show f.2.2.length≤1000000000 by omega),ab,oe];cases m.2.1==1<;>cases m.2.1==2<;>cases m.2.1==3<;>cases m.2.1==4<;>cases c8 (m.2.2,f.2)<;>cases (lh f m.2.2).2<;>cases (iQ f m.2.2).2<;>rfl
theorem JB (f:Filter)(m:Int×Int×Int)(h:f.2.2.length≤100000000):nJ f m=some (oe f m):=by simp only[nJ,jr f (by omega),lN (m.2.2,f.2) (show f.2.2.length≤1000000000 by omega),JA f _ h,G3 f _ (show f.2.2.length≤1000000000 by omega),ab,oe];cases m.2.1==1<;>cases m.2.1==2<;>cases m.2.1==3<;>cases m.2.1==4<;>cases c8 (m.2.2,f.2)<;>cases (lh f m.2.2).2<;>cases (iQ f m.2.2).2<;>rfl
theorem Fw (f:Filter)(m:Int×Int×Int){n:Nat}(h:f.2.2.length≤n)(hn:8≤n):(oe f m).1.2.2.length≤n:=by
 have ha:=Fm f m.2.2 h hn;have hd:(iQ f m.2.2).1.2.2.length≤n:=by unfold iQ;cases c8 f&&hasB f.2.2 m.2.2 with|false=>exact h|true=>exact aP (List.length_filter_le _ _) h
 unfold oe;cases m.2.1==1<;>cases m.2.1==2<;>cases m.2.1==3<;>cases m.2.1==4<;>cases c8 (m.2.2,f.2)<;>cases (lh f m.2.2).2<;>cases (iQ f m.2.2).2<;>first|exact h|exact ha|exact hd
def jI (b:aR)(m:Int×Int×Int):aR×Int:=
 bif jE b then(bif m.1==b.2.1 then(b,b.2.2.1) else bif m.1==b.2.1+1 then(((oe b.1 m).1,m.1,(oe b.1 m).2,b.2.2.2+1),(oe b.1 m).2) else(b, -1)) else(b, -1)
theorem I1 {b:aR}(h:jE b=true):0≤b.2.1∧b.2.1≤1000000000000∧0≤b.2.2.2∧b.2.2.2≤1000000000000:=by simp only[jE,ai,de]at h;omega
theorem KO (b:aR)(m:Int×Int×Int)(h:b.1.2.2.length≤100000000):jL b m=some (jI b m):=by simp only[jL,qS b (by omega),II b (by omega),ID b.1 m h,ab,jI,bne];cases hm:jE b with|false=>rfl|true=>have hin:=I1 hm;rw[wrap64 (n:=b.2.1+1) (by omega) (by omega),wrap64 (n:=b.2.2.2+1) (by omega) (by omega)];cases m.1==b.2.1<;>cases m.1==b.2.1+1<;>rfl
theorem LC (b:aR)(m:Int×Int×Int)(h:b.1.2.2.length≤100000000)(hm1:m.1≤9223372036854775807):jX b m=some (jI b m):=by
 simp only[jX,nA b (by omega),JH b (by omega),JB b.1 m h,ab,jI,bne];cases hm:jE b with
 |false=>rfl
 |true=>
  have hin:=I1 hm;rw[wrap64 (n:=b.2.2.2+1) (by omega) (by omega)];by_cases h1:m.1=b.2.1;rw[aS.2 h1];rfl;have e1:(m.1==b.2.1)=false:=cW.2 h1;rw[e1];by_cases h2:m.1≤b.2.1;have e2:(m.1==b.2.1+1)=false:=cW.2 (by omega);rw[e2,aj h2];rfl;rw[ah h2,wrap64 (n:=m.1-1) (by omega) (by omega)];have e3:(m.1-1==b.2.1)=(m.1==b.2.1+1):=by rw[bK,aS,aS];omega
  rw[e3];cases m.1==b.2.1+1<;>rfl
def od (ms:List aR)(k:Nat)(m:Int×Int×Int):List aR×Int:=
 match ms[k]? with
 |none=>(ms, -1)
 |some b=>bif (dx (ms.set k (jI b m).1)).2 then(ms.set k (jI b m).1,(jI b m).2)
  else(ms.set k (b.1,m.1,0,aw (b.2.2.2+1)),0)
theorem vS (b:aR)(m:Int×Int×Int){n:Nat}(h:b.1.2.2.length≤n)(hn:8≤n):(jI b m).1.1.2.2.length≤n:=by have:=Fw b.1 m h hn;unfold jI;cases jE b<;>cases m.1==b.2.1<;>cases m.1==b.2.1+1<;>first|exact h|exact this
theorem u0 {α:Type}{l:List α}{k:Nat}{x y:α}(h:y∈l.set k x):y∈l∨y=x:=List.mem_or_eq_of_mem_set h
theorem zD (ms:List aR)(k:Nat)(m:Int×Int×Int)(hk:k<ms.length)(hl:ms.length≤1000000000)(h:∀b∈ms,b.1.2.2.length≤100000000):kY ms (k:Int) m=some (od ms k m):=by
 have hb:=h _ (aD hk);have hp:∀b∈ms.set k (jI ms[k] m).1,b.1.2.2.length≤1000000000:=by intro b hb';rcases u0 hb' with h1|rfl;have:=h b h1;omega;have:=vS ms[k] m hb (by omega);omega
 unfold kY od;simp only[xi ms hl (λb hb=>by have:=h b hb;omega),aZ hk,KO _ m hb,ab,List.getElem?_eq_getElem hk,ax,ti _ hp,qS ms[k] (by omega)];have hs:∀x:aR,k<(ms.set k x).length:=λx=>by rw[M5];exact hk
 simp only[Bj hk,ab,c7];cases (dx (ms.set k (jI ms[k] m).1)).2<;>rfl
theorem Ae (ms:List aR)(k:Nat)(m:Int×Int×Int)(hk:k<ms.length)(hl:ms.length≤1000000000)(h:∀b∈ms,b.1.2.2.length≤100000000)(hm1:m.1≤9223372036854775807):nK ms (k:Int) m=some (od ms k m):=by
 have hb:=h _ (aD hk);have hp:∀b∈ms.set k (jI ms[k] m).1,b.1.2.2.length≤1000000000:=by intro b hb';rcases u0 hb' with h1|rfl;have:=h b h1;omega;have:=vS ms[k] m hb (by omega);omega
 unfold nK od;refine(cp (λi=>(ms.take i,(i:Int))) ms.length (by omega) (λi nx hi=>?_) (λnx=>?_));simp only[kf];rw[aj (by omega),aZ hi,wrap64 (by omega) (by omega)];have:=h _ (aD hi);simp only[ae,ab,nA ms[i] (by omega)];rw[aN (by simp;omega),←bB hi];rfl;simp only[kf];rw[ah (by omega),bJ];simp only[af,aZ hk,LC _ m hb hm1,ab,List.getElem?_eq_getElem hk,ax,qI _ hp,nA ms[k] (show ms[k].1.2.2.length≤1000000000 by omega)];simp only[Bj hk,ab,c7];cases (dx (ms.set k (jI ms[k] m).1)).2<;>rfl
theorem pL (ms:List aR)(k:Nat)(m:Int×Int×Int):(od ms k m).1.length=ms.length:=by unfold od;split;rfl;rename_i b _;cases (dx (ms.set k (jI b m).1)).2<;>exact M5 ..
theorem xB (ms:List aR)(k:Nat)(m:Int×Int×Int){n:Nat}(hn:8≤n)(h:∀b∈ms,b.1.2.2.length≤n):∀b∈(od ms k m).1,b.1.2.2.length≤n:=by
 intro b hb;unfold od at hb;split at hb;exact h b hb;rename_i b0 hb0;have h0:=h b0 (List.mem_of_getElem? hb0);cases hp:(dx (ms.set k (jI b0 m).1)).2 with
 |true=>rw[hp]at hb;rcases u0 hb with h1|rfl;exact h b h1;exact vS b0 m h0 hn
 |false=>rw[hp]at hb;rcases u0 hb with h1|rfl;exact h b h1;exact h0
theorem GR {x:Bytes}(h:((dX x).2==0)=true):dS (dX x).1=true:=by
 unfold dX at h⊢;simp only at h⊢;cases h1:(ij x).2 with|false=>rw[h1]at h;cases h|true=>?_
 rw[h1]at h;simp only[au,af]at h⊢;cases h2:(ux (ij x).1).2 !=0 with|true=>rw[h2]at h;simp only[bne,ae]at h h2;rw[h]at h2;cases h2|false=>rw[h2]at h;simp only[af]at h⊢;cases h3:dS (ux (ij x).1).1 with|false=>rw[h3]at h;cases h|true=>exact h3
def wk (b:Int×Int×Int)(n:Int):(Int×Int×Int)×Bool:=bif np b&&dD n 0 b.2.2 then((b.1,b.2.1,aw (b.2.2-n)),true) else(b,false)
theorem OI (b:Int×Int×Int)(n:Int):mB b n=some (wk b n):=by unfold mB wk;simp only[u9,ab,cV];cases np b<;>cases dD n 0 b.2.2<;>rfl
theorem NV (b:Int×Int×Int)(n:Int):l6 b n=some (wk b n):=by unfold l6 wk;simp only[xL,ab,dK];cases np b<;>cases dD n 0 b.2.2<;>rfl
def Co (f:al):al:=(f.1,f.2.1,f.2.2.1,f.2.2.2.1,f.2.2.2.2.1,aw (f.2.2.2.2.2+1))
def Qx (f:al)(b:Int×Int×Int):al:=(f.1,f.2.1,b,f.2.2.2.1,aw (f.2.2.2.2.1+1),f.2.2.2.2.2)
def SQ (ps:List Port)(f:al)(p:aC):Bool:=f.2.2.2.1&&(!decide (eM ps f.2.1 p<0)&&(wk f.2.2.1 ((nP p).1.length:Int)).2)
def rj (l:List al)(ps:List Port)(a:Int)(p:aC):List al×List Int×Bool:=
 bif eN l ps&&(dS p&&(!decide (a<0)&& !decide (a≥(l.length:Int)))) then
  match l[a.toNat]? with
  |some f=>bif SQ ps f p then(l.set a.toNat (Qx f (wk f.2.2.1 ((nP p).1.length:Int)).1),tM ps f.2.1 p,true) else(l.set a.toNat (Co f),[],false)
  |none=>(l,[],false)
 else(l,[],false)
theorem OH (l:List al)(ps:List Port)(a:Int)(p:aC)(h:l.length≤1000000000)(z:kT ps):qn l ps a p=some (rj l ps a p):=by
 unfold qn rj;rw[aN (by simp only[dj];omega)];simp only[a9,xq l ps h z.1 z.2,vd,ab];cases eN l ps with|false=>rfl|true=>?_
 cases dS p with|false=>rfl|true=>?_
 by_cases h0:a<0;rw[aj h0];rfl;by_cases h1:a≥(l.length:Int);rw[ah h0,aj h1];rfl;obtain⟨a,rfl⟩:=a4 (by omega:0≤a);have ha:a<l.length:=by omega
 rw[ah h0,ah h1];simp only[ax,List.getElem?_eq_getElem ha,aZ ha,ab,au,bq,af,ae,cf,E4,OI,vc _ _ p z,wi _ _ p z,SQ];generalize l[a]=f;cases h3:f.2.2.2.1 with|false=>simp only[bq,ae,af,cD,ab,Co,h3]|true=>simp only[au,af,bn,Bj ha,ab,c7];cases decide (eM ps f.2.1 p<0)with|true=>simp only[au,ae,cD,af,ab,Co,h3]|false=>simp only[bq,af,bn,ab];cases (wk f.2.2.1 ((nP p).1.length:Int)).2 with|false=>simp only[bq,ae,af,Co,h3]|true=>simp only[au,ae,af,Qx,h3]
theorem NU (l:List al)(ps:List Port)(a:Int)(p:aC)(h:l.length≤1000000000)(z:kT ps):pX l ps a p=some (rj l ps a p):=by
 unfold pX rj;rw[ot l h,ab,wrap64 (n:=(l.length:Int)-1) (by omega) (by omega)];simp only[xj l ps h z.1 z.2,uJ,ab,dK];cases eN l ps with|false=>rfl|true=>?_
 cases dS p with|false=>rfl|true=>?_
 rw[show dD a 0 ((l.length:Int)-1)=(!decide (a<0)&& !decide (a≥(l.length:Int))) from by rw[bK,de];simp;omega];by_cases h0:a<0;rw[aj h0];rfl;by_cases h1:a≥(l.length:Int);rw[ah h0,aj h1];rfl;obtain⟨a,rfl⟩:=a4 (by omega:0≤a);have ha:a<l.length:=by omega
 rw[ah h0,ah h1];simp only[ax,List.getElem?_eq_getElem ha,aZ ha,ab,au,bq,af,ae,cf,EG,NV,xM _ _ p z,vU _ _ p z,SQ];generalize l[a]=f;cases h3:f.2.2.2.1 with|false=>simp only[bq,ae,af,cD,ab,Co,h3]|true=>simp only[au,af,bn,Bj ha,ab,c7];cases decide (eM ps f.2.1 p<0)with|true=>simp only[au,ae,cD,af,ab,Co,h3]|false=>simp only[bq,af,bn,ab,vU _ _ p z];cases (wk f.2.2.1 ((nP p).1.length:Int)).2 with|false=>simp only[bq,ae,af,Co,h3]|true=>simp only[au,ae,af,Qx,h3]
theorem Ac (l:List al)(ps:List Port)(a:Int)(p:aC):(rj l ps a p).1.length=l.length:=by
 unfold rj;cases eN l ps&&(dS p&&(!decide (a<0)&& !decide (a≥(l.length:Int))))with|false=>rfl|true=>?_
 simp only[ae];cases l[a.toNat]? with|none=>rfl|some f=>cases h:SQ ps f p<;>simp only[h,ae,af,aO]
theorem Qw {l:List al}{ps:List Port}{a:Int}{p:aC}(h:dS p=false):rj l ps a p=(l,[],false):=by unfold rj;rw[h,cD,eK,af]
theorem Ls:dS Qn=false:=by decide
theorem Qq {x:Bytes}(h:((dX x).2==0)=false):dS (dX x).1=false:=by
 unfold dX at h⊢;simp only at h⊢;cases h1:(ij x).2 with|false=>exact Ls|true=>?_
 rw[h1]at h;simp only[au,af]at h⊢;cases h2:(ux (ij x).1).2 !=0 with|true=>exact Ls|false=>?_
 rw[h2]at h;simp only[af]at h⊢;cases h3:dS (ux (ij x).1).1 with|false=>exact Ls|true=>rw[h3]at h;cases h
theorem Kb (a:Act):∃b,pE a=some b:=by simp only[pE,aQ,bl,ab];exact⟨_,rfl⟩
def Nr (a:Act):Bool:=(pE a).getD false
theorem M7 (a:Act):pE a=some (Nr a):=by obtain⟨b,hb⟩:=Kb a;simp[Nr,hb]
theorem St (a:Act):xO a=some (Nr a):=M7 a
def adI:Act:=(0,Qn,0,0,([]:Bytes),0)
theorem xm {R:Type}(K:Int→Bytes→Option R):∀(n:Nat)(v:Int)(s:Bytes)(m:Nat),0≤v→v≤1000000000000000→v<10^n→s.length+n≤1000→n<m→∃s':Bytes,s'.length≤1000∧∃v',aV (mi K) m (v,s)=K v' s'
 |0,v,s,m,h0,_,h1,hs,hm=>by
  have hv:v=0:=by simp at h1;omega
  subst hv;cases m with|zero=>omega|succ m=>exact⟨s,by omega,0,by rw[aV];rfl⟩
 |n+1,v,s,m,h0,hb,h1,hs,hm=>by cases m with|zero=>omega|succ m=>rw[aV];simp only[mi];by_cases hv:v>0;have hq:Int.tdiv v 10=v/10:=Int.tdiv_eq_ediv_of_nonneg h0;rw[aj hv];simp only[ae];rw[ar (by omega),aN (by simp[bytesOf];omega),ar (by omega),hq,wrap64 (n:=v/10) (by omega) (by omega)];exact xm K n (v/10) _ m (by omega) (by omega) (by rw[Int.pow_succ]at h1;omega) (by simp[bytesOf];omega) (by omega);rw[ah hv];exact⟨s,by omega,v,rfl⟩
theorem DW (k:Int)(h1:1≤k)(h2:k≤1000000000000000):∃s,bR k=some s:=by have hfu:=fj;unfold bR;rw[ah (by omega)];simp only[af];obtain⟨s,hs,v,h⟩:=xm (λ(_:Int) (y2:Bytes)=>room (List.length ([109]:Bytes)+List.length y2) (some (([109]:Bytes)++y2))) 16 k [] fuel (by omega) h2 (by omega) (by simp) (by omega);rw[h,aN (by simp;omega)];exact⟨_,rfl⟩
def To (k:Int):Bytes:=(bR k).getD []
theorem kh (k:Int)(h1:1≤k)(h2:k≤1000000000000000):bR k=some (To k):=by obtain⟨s,hs⟩:=DW k h1 h2;rw[To,hs];rfl
def ll:(t:CT)→t.D→Nat
 | .int _,_=>1
 | .bool,_=>1
 | .str,_=>1
 | .sl e,xs=>(xs.map (ll e)).sum
 | .pair a b,x=>ll a x.1+ll b x.2
def Xn {α:Type}(f:α→Int→α)(c:α→Nat):List α→Int→List α
 |[],_=>[]
 |x::xs,k=>f x k::Xn f c xs (k+c x)
def mk:(t:CT)→t.D→Int→t.D
 | .int _,_,k=>k
 | .bool,_,k=>Int.tmod k 3==0
 | .str,_,k=>To k
 | .sl e,xs,k=>Xn (mk e) (ll e) xs k
 | .pair a b,x,k=>(mk a x.1 k,mk b x.2 (k+ll a x.1))
def iP:(t:CT)→t.D→Nat
 | .int _,_=>0
 | .bool,_=>0
 | .str,_=>0
 | .sl e,xs=>ll (.sl e) xs
 | .pair a b,x=>iP a x.1+iP b x.2
def I6:(t:CT)→t.D→Int→t.D
 | .int _,x,_=>x
 | .bool,x,_=>x
 | .str,x,_=>x
 | .sl e,xs,k=>mk (.sl e) xs k
 | .pair a b,x,k=>(I6 a x.1 k,I6 b x.2 (k+iP a x.1))
theorem zQ {k:IntKind}(x k':Int):mk (.int k) x k'=k':=rfl
theorem wT (x:Bool)(k:Int):mk .bool x k=(Int.tmod k 3==0):=rfl
theorem zR (x:Bytes)(k:Int):mk .str x k=To k:=rfl
theorem tB {a b:CT}(x:a.D×b.D)(k:Int):mk (.pair a b) x k=(mk a x.1 k,mk b x.2 (k+ll a x.1)):=rfl
theorem gW {k:IntKind}(x:Int):ll (.int k) x=1:=rfl
theorem fA (x:Bool):ll .bool x=1:=rfl
theorem gX (x:Bytes):ll .str x=1:=rfl
theorem fB {a b:CT}(x:a.D×b.D):ll (.pair a b) x=ll a x.1+ll b x.2:=rfl
theorem MU {k:IntKind}(x k':Int):I6 (.int k) x k'=x:=rfl
theorem I7 (x:Bool)(k:Int):I6 .bool x k=x:=rfl
theorem MV (x:Bytes)(k:Int):I6 .str x k=x:=rfl
theorem I8 {a b:CT}(x:a.D×b.D)(k:Int):I6 (.pair a b) x k=(I6 a x.1 k,I6 b x.2 (k+iP a x.1)):=rfl
theorem HC {k:IntKind}(x:Int):iP (.int k) x=0:=rfl
theorem En (x:Bool):iP .bool x=0:=rfl
theorem HD (x:Bytes):iP .str x=0:=rfl
theorem Eo {a b:CT}(x:a.D×b.D):iP (.pair a b) x=iP a x.1+iP b x.2:=rfl
theorem XV:¬(3:Int)=0:=by omega
theorem wC {n:Int}(h:¬n<0):decide (n<0)=false:=ah h
theorem jJ {α:Type}{l:List α}{i:Nat}(x:α)(h:i<l.length):idx (l.set i x) (i:Int)=some x:=by rw[wL,List.getElem?_set_self h]
theorem EP {e:CT}{T:((List e.D×Int×Int×List e.D)→Option (Int×List e.D))→(List e.D×Int×Int×List e.D)→Option (Int×List e.D)}
 (hs:∀(l:List e.D)(i:Nat)(hi:i<l.length)(k:Int) nx,1≤k→k+ll e l[i]≤1000000000000000→l.length≤1000000000000→bG 1000000000000 e l[i]→
  T nx (l,k,(i:Int),l)=nx (l.set i (mk e l[i] k),k+ll e l[i],(i:Int)+1,l.set i (mk e l[i] k)))
 (hf:∀(l:List e.D)(k:Int) nx,T nx (l,k,(l.length:Int),l)=some (k,l)):
 ∀(xs pre:List e.D)(k:Int)(n:Nat),1≤k→k+ll (.sl e) xs≤1000000000000000→pre.length+xs.length≤1000000000000→(∀x∈xs,bG 1000000000000 e x)→xs.length<n→
  aV T n (pre++xs,k,(pre.length:Int),pre++xs)=some (k+ll (.sl e) xs,pre++mk (.sl e) xs k)
 |[],pre,k,n,_,_,_,_,hn=>by cases n with|zero=>omega|succ n=>rw[aV,a8,hf];simp[ll,mk,Xn]
 |x::xs,pre,k,n,h1,h2,h3,h4,hn=>by
  cases n with
  |zero=>omega
  |succ n=>
   have hc:ll (.sl e) (x::xs)=ll e x+ll (.sl e) xs:=by simp[ll]
   have hi:pre.length<(pre++x::xs).length:=by simp
   have hx:(pre++x::xs)[pre.length]=x:=by simp
   simp only[bE]at h3 hn;rw[aV,hs _ pre.length hi k _ h1 (by rw[hx];omega) (by simp;omega) (by rw[hx];exact h4 x (by simp)),hx];have hset:(pre++x::xs).set pre.length (mk e x k)=(pre++[mk e x k])++xs:=by rw[List.set_append_right _ _ (a5 _),dr,List.set_cons_zero,aF];rfl
   have hl:((pre.length:Int)+1)=(((pre++[mk e x k]).length:Nat):Int):=by simp
   rw[hset,hl,EP hs hf xs _ _ n (by omega) (by omega) (by simp;omega) (λy hy=>h4 y (by simp[hy])) (by omega)];rw[hc];congr 1;refine Prod.ext (by simp only;omega) ?_;simp only[mk,Xn,aF,List.singleton_append]
theorem EB {e:CT}{T:List e.D→((Int×Int)→Option Int)→(Int×Int)→Option Int}
 (hs:∀(l:List e.D)(i:Nat)(hi:i<l.length)(x:e.D)(k:Int) nx,l[i]=mk e x k→1≤k→k+ll e x≤1000000000000000→l.length≤1000000000000→bG 1000000000000 e x→
  T l nx (k,(i:Int))=nx (k+ll e x,(i:Int)+1))
 (hf:∀(l:List e.D)(k:Int) nx,T l nx (k,(l.length:Int))=some k):
 ∀(xs pre:List e.D)(k:Int)(n:Nat),1≤k→k+ll (.sl e) xs≤1000000000000000→pre.length+xs.length≤1000000000000→(∀x∈xs,bG 1000000000000 e x)→xs.length<n→
  aV (T (pre++mk (.sl e) xs k)) n (k,(pre.length:Int))=some (k+ll (.sl e) xs)
 |[],pre,k,n,_,_,_,_,hn=>by
  cases n with
  |zero=>omega
  |succ n=>
   have:pre++mk (.sl e) ([]:List e.D) k=pre:=by simp[mk,Xn]
   rw[aV,this,hf];simp[ll]
 |x::xs,pre,k,n,h1,h2,h3,h4,hn=>by
  cases n with
  |zero=>omega
  |succ n=>
   have hc:ll (.sl e) (x::xs)=ll e x+ll (.sl e) xs:=by simp[ll]
   have hm:pre++mk (.sl e) (x::xs) k=(pre++[mk e x k])++mk (.sl e) xs (k+ll e x):=by simp[mk,Xn]
   have hlen:∀(ys:List e.D)(k:Int),(mk (.sl e) ys k).length=ys.length:=by intro ys;induction ys with|nil=>intro k;rfl|cons y ys ih=>intro k;have:=ih (k+ll e y);simp only[mk,Xn,bE]at this⊢;omega
   simp only[bE]at h3 hn;rw[aV,hm,hs _ pre.length (by simp) x k _ (by simp) h1 (by omega) (by have:=hlen xs (k+ll e x);simp;omega) (h4 x (by simp))];have hl:((pre.length:Int)+1)=(((pre++[mk e x k]).length:Nat):Int):=by simp
   rw[hl,EB hs hf xs _ _ n (by omega) (by omega) (by simp;omega) (λy hy=>h4 y (by simp[hy])) (by omega),hc];congr 1;omega
def J8 (t:CT)(mark:t.D→Int→Option (Int×t.D)):Prop:=∀(a:t.D)(_:bG 1000000000000 t a)(k:Int)(_:1≤k)(_:k+ll t a≤1000000000000000),mark a k=some (k+ll t a,mk t a k)
def L3 (t:CT)(held:t.D→Int→Option Int):Prop:=∀(a:t.D)(_:bG 1000000000000 t a)(k:Int)(_:1≤k)(_:k+ll t a≤1000000000000000),held (mk t a k) k=some (k+ll t a)
theorem GG {e:CT}{T:((List e.D×Int×Int×List e.D)→Option (Int×List e.D))→(List e.D×Int×Int×List e.D)→Option (Int×List e.D)}(hs:∀(l:List e.D)(i:Nat)(hi:i<l.length)(k:Int) nx,1≤k→k+ll e l[i]≤1000000000000000→l.length≤1000000000000→bG 1000000000000 e l[i]→ T nx (l,k,(i:Int),l)=nx (l.set i (mk e l[i] k),k+ll e l[i],(i:Int)+1,l.set i (mk e l[i] k)))(hf:∀(l:List e.D)(k:Int) nx,T nx (l,k,(l.length:Int),l)=some (k,l)):J8 (.sl e) (λa k=>aV T fuel (a,k,0,a)):=by have hfu:=fj;intro a h k h1 h2;have hl:a.length≤1000000000000:=h.1;exact EP hs hf a [] k fuel h1 h2 (by simp;omega) h.2 (by omega)
theorem GF {e:CT}{H:List e.D→((Int×Int)→Option Int)→(Int×Int)→Option Int}(gs:∀(l:List e.D)(i:Nat)(hi:i<l.length)(x:e.D)(k:Int) nx,l[i]=mk e x k→1≤k→k+ll e x≤1000000000000000→l.length≤1000000000000→bG 1000000000000 e x→ H l nx (k,(i:Int))=nx (k+ll e x,(i:Int)+1))(gf:∀(l:List e.D)(k:Int) nx,H l nx (k,(l.length:Int))=some k):L3 (.sl e) (λa k=>aV (H a) fuel (k,0)):=by have hfu:=fj;intro a h k h1 h2;have hl:a.length≤1000000000000:=h.1;exact EB gs gf a [] k fuel h1 h2 (by simp;omega) h.2 (by omega)
def MtM (t:CT)(mark:t.D→Int→Option (Int×t.D)):Prop:=∀(a:t.D)(_:bG 1000000000000 t a)(k:Int)(_:1≤k)(_:k+iP t a≤1000000000000000),mark a k=some (k+iP t a,I6 t a k)
def MtH (t:CT)(held:t.D→Int→Option Int):Prop:=∀(a:t.D)(_:bG 1000000000000 t a)(k:Int)(_:1≤k)(_:k+iP t a≤1000000000000000),held (I6 t a k) k=some (k+iP t a)
theorem J8.top {e:CT}{mark:List e.D→Int→Option (Int×List e.D)}(h:J8 (.sl e) mark):MtM (.sl e) mark:=h
theorem L3.top {e:CT}{held:List e.D→Int→Option Int}(h:L3 (.sl e) held):MtH (.sl e) held:=h
def OkW:{t:CT}→J9 FM t→Prop
 |_,.sl (e:=e) m=>J8 (.sl e) m
 |_,.pair a b=>OkW a∧OkW b
 |_,_=>True
theorem GY {α R:Type}{f:Int→Option Bytes}(hf:∀k,1≤k→k≤1000000000000000→f k=some (To k)){l:List α}{i:Nat}(hi:i<l.length):∀{t:CT}(n:J9 FM t)(_:OkW n)(g:α→t.D)(s:α→t.D→α)(_:∀y v,g (s y v)=v)(_:∀y v w,s (s y v) w=s y w)(x:α)(k:Int)(K:List α→Int→Option R),1≤k→k+ll t (g x)≤1000000000000000→bG 1000000000000 t (g x)→
 xa f (i:Int) n g s (l.set i x) (l.set i x) k K=K (l.set i (s x (mk t (g x) k))) (k+ll t (g x))
 |_,.int _,_,g,s,_,_,x,k,K,h1,h2,_=>by simp only[gW]at h2⊢;rw[xa,jJ x hi,ab,ab,ax,c7,wrap64 (by omega) (by omega)];rfl
 |_,.bool,_,g,s,_,_,x,k,K,h1,h2,_=>by simp only[fA]at h2⊢;rw[xa,jJ x hi,ab,ab,ax,c7,wrap64 (by omega) (by omega)];rfl
 |_,.str,_,g,s,_,_,x,k,K,h1,h2,_=>by simp only[gX]at h2⊢;rw[xa,hf k h1 (by omega),ab,jJ x hi,ab,ab,ax,c7,wrap64 (by omega) (by omega)];rfl
 |_,.sl m,hn,g,s,_,_,x,k,K,h1,h2,h3=>by rw[xa,jJ x hi,ab,ab,hn (g x) h3 k h1 h2,ab,ax,c7]
 |_,.pair (a:=ca) (b:=cb) a b,hn,g,s,l1,l2,x,k,K,h1,h2,h3=>by rw[fB]at h2⊢;have e1:=GY (R:=R) hf hi a hn.1 (λy=>(g y).1) (λy v=>s y (v,(g y).2)) (λy v=>by simp only[l1]) (λy v w=>by simp only[l1,l2]) x k;rw[xa,e1 _ h1 (by show k+((ll ca (g x).1:Nat):Int)≤_;omega) h3.1];have e2:=GY (R:=R) hf hi b hn.2 (λy=>(g y).2) (λy v=>s y ((g y).1,v)) (λy v=>by simp only[l1]) (λy v w=>by simp only[l1,l2]) (s x (mk ca (g x).1 k,(g x).2)) (k+ll ca (g x).1) K (by omega) (by simp only[l1];omega) (by simp only[l1];exact h3.2);rw[e2];simp only[l1,l2,tB];congr 1;omega
theorem CW {e:CT}(n:J9 FM e){T:((List e.D×Int×Int×List e.D)→Option (Int×List e.D))→(List e.D×Int×Int×List e.D)→Option (Int×List e.D)}{f:Int→Option Bytes}(hf:∀k,1≤k→k≤1000000000000000→f k=some (To k))(hn:OkW n)(he:∀(l:List e.D)(k i:Int) nx,T nx (l,k,i,l)=cond (decide (i<(l.length:Int))) (xa f i n (λy=>y) (λ_ v=>v) l l k (λL k'=>nx (L,k',aw (i+1),L))) (some (k,l))):J8 (.sl e) (λa k=>aV T fuel (a,k,0,a)):=by
 refine GG (λl i hi k nx h1 h2 h3 hx=>?_) (λl k nx=>?_)
 ·have hl:l=l.set i l[i]:=(List.set_getElem_self hi).symm;rw[he,aj (by omega),ae];conv=>lhs;rw[hl]
  rw[GY hf hi n hn (λy=>y) (λ_ v=>v) (λ_ _=>rfl) (λ_ _ _=>rfl) l[i] k _ h1 h2 hx];rw[wrap64 (by omega) (by omega)]
 rw[he,ah (by omega)];rfl
def OkV:{t:CT}→J9 FH t→Prop
 |_,.sl (e:=e) m=>L3 (.sl e) m
 |_,.pair a b=>OkV a∧OkV b
 |_,_=>True
theorem GX {α R:Type}{f:Int→Option Bytes}(hf:∀k,1≤k→k≤1000000000000000→f k=some (To k)){v:List α}{i:Nat}(hi:i<v.length)(bad:Int→Option R):∀{t:CT}(n:J9 FH t)(_:OkV n)(g:α→t.D)(K:Int→Option R)(x:t.D)(k:Int),1≤k→k+ll t x≤1000000000000000→bG 1000000000000 t x→g v[i]=mk t x k→
 xU f (i:Int) v bad n g K k=K (k+ll t x)
 |_,.int _,_,g,K,x,k,h1,h2,_,h4=>by simp only[gW]at h2⊢;have h5:g v[i]=k:=h4;rw[xU,aZ hi,ab,h5,dT,af,wrap64 (by omega) (by omega)];rfl
 |_,.bool,_,g,K,x,k,h1,h2,_,h4=>by simp only[fA]at h2⊢;have h5:g v[i]=(Int.tmod k 3==0):=h4;rw[xU,aZ hi,ab,h5,dI,au,af,wrap64 (by omega) (by omega)];rfl
 |_,.str,_,g,K,x,k,h1,h2,_,h4=>by simp only[gX]at h2⊢;have h5:g v[i]=To k:=h4;rw[xU,aZ hi,ab,hf k h1 (by omega),ab,h5,dI,au,af,wrap64 (by omega) (by omega)];rfl
 |_,.sl m,hn,g,K,x,k,h1,h2,h3,h4=>by rw[xU,aZ hi,ab,h4,hn x h3 k h1 h2,ab,ah (by omega),af]
 |_,.pair a b,hn,g,K,x,k,h1,h2,h3,h4=>by rw[fB]at h2⊢;rw[tB]at h4;rw[xU,GX hf hi bad a hn.1 _ _ x.1 k h1 (by omega) h3.1 (by simp only[h4]),GX hf hi bad b hn.2 _ _ x.2 _ (by omega) (by omega) h3.2 (by simp only[h4])];congr 1;omega
theorem ER {e:CT}(n:J9 FH e){H:List e.D→((Int×Int)→Option Int)→(Int×Int)→Option Int}{bad:List e.D→Int→Int→Option Int}{f:Int→Option Bytes}(hf:∀k,1≤k→k≤1000000000000000→f k=some (To k))(hn:OkV n)(he:∀(l:List e.D)(k i:Int) nx,H l nx (k,i)=cond (decide (i<(l.length:Int))) (xU f i l (bad l i) n (λy=>y) (λk'=>nx (k',aw (i+1))) k) (some k)):L3 (.sl e) (λa k=>aV (H a) fuel (k,0)):=by refine GF (λl i hi x k nx hm h1 h2 h3 hx=>?_) (λl k nx=>?_);rw[he,aj (by omega),ae,GX hf hi _ n hn _ _ x k h1 h2 hx hm,wrap64 (by omega) (by omega)];rw[he,ah (by omega)];rfl
theorem Bc:∀{t:CT}{x:t.D},iP t x≤ll t x
 | .int _,_=>by simp[iP]
 | .bool,_=>by simp[iP]
 | .str,_=>by simp[iP]
 | .sl _,_=>a5 _
 | .pair a b,x=>by simp only[iP,ll];exact Nat.add_le_add Bc Bc
def Ek (n:Nat):CT→Nat
 | .sl e=>n*Ek n e
 | .pair a b=>Ek n a+Ek n b
 |_=>1
theorem rm {n:Nat}:∀{t:CT}{x:t.D},bG n t x→ll t x≤Ek n t
 | .int _,_,_=>by simp[ll,Ek]
 | .bool,_,_=>by simp[ll,Ek]
 | .str,_,_=>by simp[ll,Ek]
 | .sl e,xs,h=>by
  have h1:∀l:List e.D,(∀x∈l,bG n e x)→(l.map (ll e)).sum≤l.length*Ek n e:=by intro l;induction l with|nil=>simp|cons y l ih=>intro hl;have:=rm (hl y (by simp));have:=ih (λx hx=>hl x (by simp[hx]));simp only[cn,List.sum_cons,bE,bm,cJ];omega
  simp only[ll,Ek];exact aP (h1 xs h.2) (bf _ h.1)
 | .pair a b,x,h=>by simp only[ll,Ek];exact Nat.add_le_add (rm h.1) (rm h.2)
theorem Bd {n:Nat}{e:CT}:∀{xs:List e.D},(∀x∈xs,bG n e x)→ll (.sl e) xs≤xs.length*Ek n e
 |[],_=>by simp[ll]
 |y::l,h=>by have h1:=rm (h y (by simp));have h2:=Bd (xs:=l) (λx hx=>h x (by simp[hx]));simp only[ll,cn,List.sum_cons,bE,bm,cJ]at h2⊢;omega
def yO (b:Int×Int×Int)(n:Int):Int×Int×Int:=
 bif np b&&dD n 0 1000000 then(b.1,b.2.1,if b.2.1<aw (b.2.2+aw (b.1*n)) then b.2.1 else aw (b.2.2+aw (b.1*n))) else b
theorem KT (b:Int×Int×Int)(n:Int):kX b n=some (yO b n):=by unfold kX yO;simp only[xL,ab,dK];cases np b<;>cases dD n 0 1000000<;>rfl
theorem LG (b:Int×Int×Int)(n:Int):ld b n=some (yO b n):=by
 unfold ld yO;have e:∀x y:Int,(if x<y then x else y)=if y<x then y else x:=by intro x y;split<;>split<;>omega
 simp only[u9,ab,cV,e];cases np b<;>cases dD n 0 1000000<;>rfl
def uu {α:Type}(f:α→α)(l:List α)(i:Nat):List α:=(l.take i).map f++l.drop i
theorem wR {α:Type}(f:α→α)(l:List α)(i:Nat):(uu f l i).length=l.length:=by simp only[uu,ak,ch,bt,bN];omega
theorem wQ {α:Type}(f:α→α){l:List α}{i:Nat}(h:i<l.length):idx (uu f l i) (i:Int)=some l[i]:=by rw[wL,uu,List.getElem?_append_right (by simp only[ch,bt];omega),List.getElem?_drop];rw[show i+(i-((l.take i).map f).length)=i by simp;omega];exact List.getElem?_eq_getElem h
theorem wS {α:Type}(f:α→α){l:List α}{i:Nat}(h:i<l.length):(uu f l i).set i (f l[i])=uu f l (i+1):=by
 have hl:((l.take i).map f).length=i:=by simp;omega
 rw[uu,uu,List.set_append_right _ _ (by omega),hl,dr,bh h,List.set_cons_zero,bB h,List.map_append,aF];rfl
theorem wP {α:Type}(f:α→α)(l:List α):uu f l l.length=l.map f:=by rw[uu,bJ,List.drop_length,a8]
def JW (n:Int)(f:al):al:=(f.1,f.2.1,yO f.2.2.1 n,f.2.2.2)
theorem IQ (l:List al)(n:Int)(h:l.length≤1000000000):jO l n=some (l.map (JW n)):=by unfold jO;rw[ot l h,ab];refine cp (λi=>(uu (JW n) l i,(i:Int))) l.length (by omega) (λi nx hi=>?_) (λnx=>?_);simp only[gH];rw[aj (by omega),wQ _ hi,wrap64 (by omega) (by omega)];simp only[ae,ab,KT,ax];rw[←wS _ hi];rfl;simp only[gH];rw[ah (by omega),af,wP]
theorem JM (l:List al)(n:Int)(h:l.length≤1000000000):kb l n=some (l.map (JW n)):=by unfold kb;rw[ga h,a9];refine cp (λi=>(uu (JW n) l i,(i:Int))) l.length (by omega) (λi nx hi=>?_) (λnx=>?_);simp only[gJ,wR];rw[aj (by omega),wQ _ hi,wrap64 (by omega) (by omega)];simp only[ae,ab,LG,ax];rw[←wS _ hi];rfl;simp only[gJ,wR];rw[ah (by omega),af,wP]
def XW (w:aX)(i:Nat):aX:=(w.1,uu (λ_=>[]) w.2.1 i,w.2.2)
theorem Sx (w b:aX)(h:w.2.1.length≤1000000000):aV (iS (λ_ y13=>some y13) ((List.length w.2.1:Int)) b) fuel (0,w)=some (w.1,w.2.1.map (λ_=>[]),w.2.2):=by refine cp (λi=>((i:Int),XW w i)) w.2.1.length (by omega) (λi nx hi=>?_) (λnx=>?_);simp only[iS,XW];rw[aj (by omega),wQ _ hi,wrap64 (by omega) (by omega)];simp only[ae,ab,ax];rw[←wS _ hi];rfl;simp only[iS,XW];rw[ah (by omega),af,wP]
theorem S7 (w b:aX)(h:w.2.1.length≤1000000000):aV (js (λ_ y15=>some y15) b) fuel (0,w)=some (w.1,w.2.1.map (λ_=>[]),w.2.2):=by refine cp (λi=>((i:Int),XW w i)) w.2.1.length (by omega) (λi nx hi=>?_) (λnx=>?_);simp only[js,XW,wR];rw[aj (by omega),wQ _ hi,wrap64 (by omega) (by omega)];simp only[ae,ab,ax];rw[←wS _ hi];rfl;simp only[js,XW,wR];rw[ah (by omega),af,wP]
theorem Hb (w:aX)(e:Int)(p:aC)(hi:ik w=true)(hp:dS p=true)(z:bG 90000000 bk w):jB w e p=some ((),eA w e p):=by have z9:bG 1000000000 bk w:=z.mono (by omega);have hn:=Bp hi;have zp:=yN w.2.2.2.1;unfold jB eA;simp only[hi,hp,cf,ae,qI _ (tU z9),vc _ e p zp,wi _ e p zp,ab];generalize (dx w.2.2.2.1).1=ps at hn zp⊢;unfold tM;cases decide (eM ps e p<0)with|true=>exact ve (λw=>some ((),w)) ps (eM ps e p) p w [] (by simp) (by simp) z zp|false=>exact ve (λw=>some ((),w)) ps (eM ps e p) p w (mL ps e p) (by have:=tK ps e p;omega) (λj hj=>by have:=tL j hj;omega) z zp
theorem wc {w:aX}(h:ik w=true):w.1.length=w.2.2.2.1.length∧w.2.1.length=w.2.2.2.1.length∧w.2.2.1.length=w.2.2.2.1.length∧1≤w.2.2.2.1.length∧w.2.2.2.1.length≤3:=by have h':=h;unfold ik at h';simp only[ai]at h';have h2:=h'.1;have hl:=h'.2.1;simp only[xl,ai,aS]at hl;unfold dx at h2;cases hc:dD (w.2.2.2.1.length:Int) 1 3&&(w.2.2.2.1.all jE&&eE (tD w.2.2.2.1))with|false=>rw[hc]at h2;cases h2|true=>simp only[ai,de]at hc;omega
theorem th {w:aX}{e:Int}{p:aC}{n:Nat}(hn:382≤n)(z:bG n bk w):bG (n+1288) bk (eA w e p):=by
 have z':bG (n+1288) bk w:=z.mono (by omega);unfold eA;cases hi:ik w with|false=>exact z'|true=>?_
 cases dS p with|false=>exact z'|true=>?_
 have h:=(Bp hi).1;have h4:=wc hi;simp only[cf,ae];generalize (dx w.2.2.2.1).1=ps at h⊢;cases decide (eM ps e p<0)with|true=>exact z'|false=>have h8:=tK ps e p;exact(wV (mL ps e p) (λj hj=>by have:=tL j hj;omega) hn z).mono (by omega)
theorem Tf (ps:List Port)(v:Int)(p:aC)(w:aX)(j:Nat):(tJ ps v p w j).2.1=w.2.1∧(tJ ps v p w j).2.2.2.1=w.2.2.2.1:=by unfold tJ;cases j==0<;>exact⟨rfl,rfl⟩
theorem M1 (ps:List Port)(v:Int)(p:aC):∀(l:List Nat)(w:aX),(sY ps v p w l).2.1=w.2.1∧(sY ps v p w l).2.2.2.1=w.2.2.2.1
 |[],w=>⟨rfl,rfl⟩
 |j::l,w=>by have h1:=M1 ps v p l (tJ ps v p w j);have h2:=Tf ps v p w j;exact⟨h1.1.trans h2.1,h1.2.trans h2.2⟩
def O0 (a b:aX):Prop:=b.1.length=a.1.length∧b.2.1=a.2.1∧b.2.2.2.1=a.2.2.2.1
theorem wq (w:aX)(e:Int)(p:aC):O0 w (eA w e p):=by
 unfold eA;cases ik w&&dS p with|false=>exact⟨rfl,rfl,rfl⟩|true=>?_
 cases hd:decide (eM (dx w.2.2.2.1).1 e p<0)with|true=>exact⟨rfl,rfl,rfl⟩|false=>have h:=M1 (dx w.2.2.2.1).1 (eM (dx w.2.2.2.1).1 e p) p (mL (dx w.2.2.2.1).1 e p) w;exact⟨Br _ _ _ _ _,h.1,h.2⟩
def gL (x:Bytes):Bool:=decide (22≤x.length)
theorem Lw {x:Bytes}(h:((dX x).2==0)=true):gL x=true:=by
 unfold gL;refine aj (fV λhx=>?_);have hl:(ij x).2=true→(ij x).1.length<18:=by unfold ij;cases h4:decide ((x.length:Int)<4)with|true=>intro h;cases h|false=>cases rZ (x.take ((x.length:Int)-4).toNat)==x with|false=>intro h;cases h|true=>intro _;simp only[cx]at h4;show(x.take ((x.length:Int)-4).toNat).length<18;rw[bt];omega
 unfold dX at h;simp only at h;cases h1:(ij x).2 with
 |false=>rw[h1]at h;simp at h
 |true=>
  have h18:=hl h1;have he:(lL (ij x).1).2=false:=by unfold lL;rw[aj (by omega)];rfl
  have hr:ux (ij x).1=(Qn,2):=by unfold ux;simp only[he,bq,Bool.true_or,ae]
  rw[h1,hr]at h;simp at h
def ze (ps:List Port)(k:Int)(w:aX)(x:Bytes):aX:=
 bif (dX x).2==0 then(bif (rj w.2.2.1 ps k (dX x).1).2.2 then eA (w.1,w.2.1,(rj w.2.2.1 ps k (dX x).1).1,w.2.2.2) (k+1) (dX x).1
  else(w.1,w.2.1,(rj w.2.2.1 ps k (dX x).1).1,w.2.2.2)) else w
def yR (ps:List Port)(k:Int)(w:aX)(l:List Bytes):aX:=l.foldl (ze ps k) w
theorem Ss {n:Nat}{l:List al}(h:l.length≤n):bG n (.sl ay) l:=⟨h,λ_ _=>⟨trivial,trivial,⟨trivial,trivial,trivial⟩,trivial,trivial,trivial⟩⟩
theorem tN {n:Nat}{w:aX}(z:bG n bk w){l:List al}(h:l.length=w.2.2.1.length):bG n bk (w.1,w.2.1,l,w.2.2.2):=⟨z.1,z.2.1,Ss (by rw[h];exact z.2.2.1.1),z.2.2.2⟩
theorem OM {ps:List Port}{k:Int}{w:aX}{x:Bytes}{n:Nat}(hn:382≤n)(z:bG n bk w):bG (n+1288*[x].countP gL) bk (ze ps k w x):=by
 unfold ze;cases hr:(dX x).2==0 with
 |false=>exact z.mono (by omega)
 |true=>
  have e:[x].countP gL=1:=by simp[Lw hr]
  have z2:=tN z (Ac w.2.2.1 ps k (dX x).1);rw[e];cases (rj w.2.2.1 ps k (dX x).1).2.2 with|false=>exact z2.mono (by omega)|true=>exact th hn z2
theorem yS {ps:List Port}{k:Int}:∀(l:List Bytes){w:aX}{n:Nat},382≤n→bG n bk w→bG (n+1288*l.countP gL) bk (yR ps k w l)
 |[],w,n,_,z=>z
 |x::l,w,n,hn,z=>by have h:=yS (ps:=ps) (k:=k) l (by omega) (OM (ps:=ps) (k:=k) (x:=x) hn z);refine h.mono ?_;rw[show x::l=[x]++l from rfl,List.countP_append];omega
theorem LJ (ps:List Port)(k:Int)(w:aX)(x:Bytes):O0 w (ze ps k w x):=by
 unfold ze;cases (dX x).2==0 with|false=>exact⟨rfl,rfl,rfl⟩|true=>?_
 cases (rj w.2.2.1 ps k (dX x).1).2.2 with|false=>exact⟨rfl,rfl,rfl⟩|true=>exact wq (w.1,w.2.1,(rj w.2.2.1 ps k (dX x).1).1,w.2.2.2) _ _
theorem z0 (ps:List Port)(k:Int):∀(l:List Bytes)(w:aX),O0 w (yR ps k w l)
 |[],w=>⟨rfl,rfl,rfl⟩
 |x::l,w=>by have h1:=z0 ps k l (ze ps k w x);have h2:=LJ ps k w x;exact⟨h1.1.trans h2.1,h1.2.1.trans h2.2.1,h1.2.2.trans h2.2.2⟩
theorem E1 (ps:List Port)(k:Int)(w:aX)(l:List Bytes)(i:Nat)(hi:i<l.length):yR ps k w (l.take (i+1))=ze ps k (yR ps k w (l.take i)) l[i]:=by rw[bB hi,yR,List.foldl_append];rfl
theorem Aq {α:Type}(p:α→Bool)(l:List α)(i:Nat):(l.take i).countP p≤l.countP p:=(List.take_sublist i l).countP_le
theorem NS (ps:List Port)(k n:Nat)(w b:aX)(l:List Bytes)(hk:k≤100000000)(hn:382≤n)(z:bG n bk w)(hN:n+1288*l.countP gL≤90000000)(hl:bG 1000000000 (.sl .str) l)(zp:kT ps): aV (eV (λ_ y11=>some y11) (k:Int) ps l ((List.length l:Int)) b) fuel (0,w)=some (yR ps k w l):=by
 have hl1:l.length≤1000000000:=hl.1;refine cp (λi=>((i:Int),yR ps k w (l.take i))) l.length (by omega) (λi nx hi=>?_) (λnx=>?_);have hx:l[i].length≤1000000000:=hl.2 _ (aD hi);have hc:=Aq gL l i;have hz:bG 90000000 bk (yR ps k w (l.take i)):=(yS (ps:=ps) (k:=k) (l.take i) hn z).mono (by omega);rw[E1 ps k w l i hi];generalize yR ps k w (l.take i)=W at hz⊢;have hf:W.2.2.1.length≤1000000000:=aP hz.2.2.1.1 (by omega);simp only[eV];rw[aj (by omega),aZ hi,wrap64 (n:=(i:Int)+1) (by omega) (by omega)];simp only[ae,ab,zH _ hx,ze,bne];cases hr:(dX l[i]).2==0 with|false=>rfl|true=>simp only[au,af,ae,NU _ ps _ _ hf zp,ab];have z2:=tN hz (Ac W.2.2.1 ps k (dX l[i]).1);cases (rj W.2.2.1 ps k (dX l[i]).1).2.2 with|false=>rfl|true=>rw[wrap64 (n:=(k:Int)+1) (by omega) (by omega)];simp only[ae,vz _ _ _ z2,ab];rfl
 simp only[eV];rw[ah (by omega),af,bJ]
theorem OF (ps:List Port)(k n:Nat)(w:aX)(l:List Bytes)(hk:k≤100000000)(hn:382≤n)(z:bG n bk w)(hN:n+1288*l.countP gL≤90000000)(hl:bG 1000000000 (.sl .str) l)(zp:kT ps): aV (gb (λ_ y11=>some ((),y11)) (k:Int) l ps) fuel (0,w)=some ((),yR ps k w l):=by
 have hl1:l.length≤1000000000:=hl.1;refine cp (λi=>((i:Int),yR ps k w (l.take i))) l.length (by omega) (λi nx hi=>?_) (λnx=>?_);have hx:l[i].length≤1000000000:=hl.2 _ (aD hi);have hc:=Aq gL l i;have hz:bG 90000000 bk (yR ps k w (l.take i)):=(yS (ps:=ps) (k:=k) (l.take i) hn z).mono (by omega);rw[E1 ps k w l i hi];generalize yR ps k w (l.take i)=W at hz⊢;have hf:W.2.2.1.length≤1000000000:=aP hz.2.2.1.1 (by omega);simp only[gb];rw[aj (by omega),aZ hi,wrap64 (n:=(i:Int)+1) (by omega) (by omega),wrap64 (n:=(k:Int)+1) (by omega) (by omega)];simp only[ae,ab,Ai _ hx,OH _ ps _ _ hf zp,ze];have z2:=tN hz (Ac W.2.2.1 ps k (dX l[i]).1);cases hr:(dX l[i]).2==0 with|false=>rw[Qw (Qq hr)];rfl|true=>cases (rj W.2.2.1 ps k (dX l[i]).1).2.2 with|false=>rfl|true=>simp only[ae,AZ _ _ _ z2,ab];rfl
 simp only[gb];rw[ah (by omega),af,bJ]
def si (w:aX)(k:Nat):aX:=yR (dx w.2.2.2.1).1 k (w.1,w.2.1.set k [],w.2.2) (w.2.1.getD k [])
theorem uG {n:Nat}{w:aX}(k:Nat)(z:bG n bk w):bG n bk (w.1,w.2.1.set k [],w.2.2):=⟨z.1,⟨by rw[aO];exact z.2.1.1,λx hx=>by rcases List.mem_or_eq_of_mem_set hx with h|rfl;exact z.2.1.2 x h;exact⟨dv _,λy hy=>by cases hy⟩⟩,z.2.2⟩
theorem DU (w:aX)(k n:Nat)(hk:k<w.2.1.length)(hn:382≤n)(z:bG n bk w)(hN:n+1288*(w.2.1.getD k []).countP gL≤90000000):jP w (k:Int)=some (si w k):=by have z9:bG 1000000000 bk w:=z.mono (by omega);have hq:w.2.1.length≤n:=z.2.1.1;rw[bF hk]at hN;unfold jP si;simp only[pM w z9,ti _ (tU z9),ab,aZ hk,ax,bF hk];exact NS _ k n (w.1,w.2.1.set k [],w.2.2) _ _ (by omega) hn (uG k z) hN (z9.2.1.2 _ (aD hk)) (yN _)
theorem D8 (w:aX)(k n:Nat)(hk:k<w.2.1.length)(hn:382≤n)(z:bG n bk w)(hN:n+1288*(w.2.1.getD k []).countP gL≤90000000):mK w (k:Int)=some ((),si w k):=by have z9:bG 1000000000 bk w:=z.mono (by omega);have hq:w.2.1.length≤n:=z.2.1.1;rw[bF hk]at hN;unfold mK si;simp only[qI _ (tU z9),ab,zB,aZ hk,ax,bF hk];exact OF _ k n (w.1,w.2.1.set k [],w.2.2) _ (by omega) hn (uG k z) hN (z9.2.1.2 _ (aD hk)) (yN _)
def vM (w:aX)(k:Nat)(m:Int×Int×Int):aX:=
 match (od w.2.2.2.1 k m).1[k]?,w.1[k]? with
 |some b,some s=>(w.1.set k (b.1,s.2),w.2.1,w.2.2.1,(od w.2.2.2.1 k m).1,w.2.2.2.2)
 |_,_=>w
def M4 (w:aX)(k:Nat)(p:aC)(n:Int):aX:=(w.1,w.2.1.set k (w.2.1.getD k []++yV p n),w.2.2)
def Fl (w:aX)(a:bS)(v:Int):aX:=
 bif a.1==1 then vM w a.2.1.toNat a.2.2.2.1 else
 bif a.1==2 then(w.1,w.2.1.map (λ_=>[]),w.2.2) else
 bif a.2.2.1.1==0 then(bif v==1 then M4 w a.2.1.toNat a.2.2.1.2.1 a.2.2.1.2.2.1 else w) else
 bif a.2.2.1.1==1 then si w a.2.1.toNat else
 bif a.2.2.1.1==2 then(bif (dX a.2.2.1.2.2.2.2.1).2==0 then eA w 0 (dX a.2.2.1.2.2.2.2.1).1 else w) else
 bif a.2.2.1.1==4 then(w.1,w.2.1,w.2.2.1.map (JW 1),w.2.2.2) else
 bif a.2.2.1.1==6 then(w.1,w.2.1.set a.2.1.toNat [],w.2.2) else w
def XI (w:aX)(a:bS):Bool:=ik w&&(Nr a.2.2.1&&(dD a.2.1 0 ((w.1.length:Int)-1)&&(dD a.1 0 2&&dD a.2.2.2.2.2 0 100)))
def lp (w:aX)(a:bS)(v:Int):aX:=bif XI w a then Fl w a v else w
def zt (N:Nat)(w:aX):Prop:=∃n,382≤n∧bG n bk w∧n+1288*(w.2.1.map (λq=>q.countP gL)).sum≤N
theorem I5 {l:List Nat}{x:Nat}(h:x∈l):x≤l.sum:=by have:=xQ (λy=>y) l x h;simpa using this
theorem TA {N k:Nat}{w:aX}{n:Nat}(h:n+1288*(w.2.1.map (λq=>q.countP gL)).sum≤N)(hk:k<w.2.1.length):n+1288*(w.2.1.getD k []).countP gL≤N:=by
 have h1:(w.2.1.getD k []).countP gL≤(w.2.1.map (λq=>q.countP gL)).sum:=by rw[bF hk];exact I5 (List.mem_map_of_mem (aD hk))
 omega
theorem IG (w:aX)(a:bS)(v:Int)(N:Nat)(hi:zt N w)(hN:N≤90000000)(hA:bG 1000000000 bD a):rz w a v=some (lp w a v):=by
 obtain⟨n,hn,z,hq⟩:=hi;have z9:bG 1000000000 bk w:=z.mono (by omega);have zN:bG 90000000 bk w:=z.mono (by omega);have hf9:w.2.2.1.length≤1000000000:=z9.2.2.1.1;have hx:a.2.2.1.2.2.2.2.1.length≤1000000000:=hA.2.2.1.2.2.2.2.1;unfold rz lp XI sy;simp only[pM w z9,zG w (pz z9),ab];cases hw:ik w with|false=>rfl|true=>?_
 obtain⟨l1,l2,l3,l4,l5⟩:=wc hw;rw[wrap64 (n:=(w.2.2.1.length:Int)-1) (by omega) (by omega),show(w.2.2.1.length:Int)-1=(w.1.length:Int)-1 by omega];simp only[St,dK,ab,au,af,bn];cases Nr a.2.2.1 with|false=>rfl|true=>?_
 cases hk:dD a.2.1 0 ((w.1.length:Int)-1)with|false=>rfl|true=>?_
 cases dD a.1 0 2 with|false=>rfl|true=>?_
 cases dD a.2.2.2.2.2 0 100 with|false=>rfl|true=>?_
 simp only[ae,ab,au,af,cf];have hk:=de.1 hk;obtain⟨k,hke⟩:=a4 hk.1;have hk1:k<w.1.length:=by omega
 have hk2:k<w.2.1.length:=by omega
 have hk3:k<w.2.2.2.1.length:=by omega
 unfold Fl;rw[hke,ax];cases a.1==1 with
 |true=>
  have hb:∀b∈w.2.2.2.1,b.1.2.2.length≤100000000:=λb hb=>aP (tU zN b hb) (by omega);have hk4:k<(od w.2.2.2.1 k a.2.2.2.1).1.length:=by rw[pL];exact hk3
  have hl:=xB w.2.2.2.1 k a.2.2.2.1 (n:=100000000) (by omega) hb _ (aD hk4);simp only[ae,zD _ k _ hk3 (by omega) hb,ab,aZ hk4,iR _ (show(od w.2.2.2.1 k a.2.2.2.1).1[k].1.2.2.length≤1000000000 by omega),aZ hk1,vM,List.getElem?_eq_getElem hk4,List.getElem?_eq_getElem hk1]
 |false=>
  simp only[af];cases a.1==2 with
  |true=>exact Sx w _ (by omega)
  |false=>
   simp only[af];cases a.2.2.1.1==0 with
   |true=>simp only[ae];cases v==1 with|false=>rfl|true=>have hs:=(Ab a.2.2.1.2.1 a.2.2.1.2.2.1).1;have hql:w.2.1[k].length≤90000000:=(zN.2.1.2 _ (aD hk2)).1;simp only[ae,zB,aZ hk2,PV,ab,M4,bF hk2];rw[aN (by omega)]
   |false=>
    simp only[af];cases a.2.2.1.1==1 with
    |true=>simp only[ae,DU w k n hk2 hn z (by have:=TA hq hk2;omega),ab]
    |false=>
     simp only[af];cases a.2.2.1.1==2 with
     |true=>simp only[ae,zH _ hx,ab];cases (dX a.2.2.1.2.2.2.2.1).2==0 with|false=>rfl|true=>simp only[ae,vz w 0 _ zN,ab]
     |false=>simp only[af];cases a.2.2.1.1==4 with|true=>simp only[ae,IQ _ _ hf9,ab]|false=>simp only[af];cases a.2.2.1.1==6 with|true=>simp only[ae,aZ hk2,ab]|false=>rfl
theorem JD (w:aX)(a:bS)(v:Int)(N:Nat)(hi:zt N w)(hN:N≤90000000)(hA:bG 1000000000 bD a)(hm1:a.2.2.2.1.1≤9223372036854775807):rN w a v=some (lp w a v):=by
 obtain⟨n,hn,z,hq⟩:=hi;have z9:bG 1000000000 bk w:=z.mono (by omega);have zN:bG 90000000 bk w:=z.mono (by omega);have hf9:w.2.2.1.length≤1000000000:=z9.2.2.1.1;have hx:a.2.2.1.2.2.2.2.1.length≤1000000000:=hA.2.2.1.2.2.2.2.1;unfold rN lp XI;rw[show dD a.2.1 0 ((w.1.length:Int)-1)=(!decide (a.2.1<0)&& !decide (a.2.1≥(w.1.length:Int))) from by rw[bK,de];simp;omega];simp only[tZ w z9,Ah w (pz z9),M7,cV,ab];cases hw:ik w with|false=>rfl|true=>?_
 obtain⟨l1,l2,l3,l4,l5⟩:=wc hw;cases Nr a.2.2.1 with|false=>rfl|true=>?_
 cases hk0:decide (a.2.1<0)with|true=>rfl|false=>?_
 cases hk1:decide (a.2.1≥(w.1.length:Int))with|true=>rfl|false=>?_
 cases dD a.1 0 2 with|false=>rfl|true=>?_
 cases dD a.2.2.2.2.2 0 100 with|false=>rfl|true=>?_
 simp only[ae,ab,au,bq,af,cf];simp only[cx]at hk0 hk1;obtain⟨k,hke⟩:=a4 (show 0≤a.2.1 by omega);have hk1:k<w.1.length:=by omega
 have hk2:k<w.2.1.length:=by omega
 have hk3:k<w.2.2.2.1.length:=by omega
 unfold Fl;rw[hke,ax];cases a.1==1 with
 |true=>
  have hb:∀b∈w.2.2.2.1,b.1.2.2.length≤100000000:=λb hb=>aP (tU zN b hb) (by omega);have hk4:k<(od w.2.2.2.1 k a.2.2.2.1).1.length:=by rw[pL];exact hk3
  have hl:=xB w.2.2.2.1 k a.2.2.2.1 (n:=100000000) (by omega) hb _ (aD hk4);simp only[ae,Ae _ k _ hk3 (by omega) hb hm1,ab,aZ hk4,jr _ (show(od w.2.2.2.1 k a.2.2.2.1).1[k].1.2.2.length≤1000000000 by omega),aZ hk1,vM,List.getElem?_eq_getElem hk4,List.getElem?_eq_getElem hk1]
 |false=>
  simp only[af];cases a.1==2 with
  |true=>exact S7 w _ (by omega)
  |false=>
   simp only[af];cases a.2.2.1.1==0 with
   |true=>simp only[ae];cases v==1 with|false=>rfl|true=>have hs:=(Ab a.2.2.1.2.1 a.2.2.1.2.2.1).1;have hql:w.2.1[k].length≤90000000:=(zN.2.1.2 _ (aD hk2)).1;simp only[ae,zB,aZ hk2,QD,ab,M4,bF hk2];rw[aN (by omega)]
   |false=>
    simp only[af];cases a.2.2.1.1==1 with
    |true=>simp only[ae,D8 w k n hk2 hn z (by have:=TA hq hk2;omega),ab]
    |false=>
     simp only[af];cases a.2.2.1.1==2 with
     |true=>simp only[ae,Ai _ hx,ab];cases hr:(dX a.2.2.1.2.2.2.2.1).2==0 with|false=>rfl|true=>simp only[ae,Hb w 0 _ hw (GR hr) zN,ab]
     |false=>simp only[af];cases a.2.2.1.1==4 with|true=>simp only[ae,JM _ _ hf9,ab]|false=>simp only[af];cases a.2.2.1.1==6 with|true=>simp only[ae,aZ hk2,ab]|false=>rfl
theorem Hg (c:List Bytes→Nat):∀(l:List (List Bytes))(k:Nat)(x:List Bytes)(h:k<l.length),((l.set k x).map c).sum+c l[k]=(l.map c).sum+c x
 |y::l,0,x,_=>by simp only[List.set_cons_zero,cn,List.sum_cons,List.getElem_cons_zero];omega
 |y::l,k+1,x,h=>by have:=Hg c l k x (by simpa using h);simp only[List.set_cons_succ,cn,List.sum_cons,List.getElem_cons_succ];omega
theorem sum_nil (l:List (List Bytes)):((l.map (λ_=>([]:List Bytes))).map (λq=>q.countP gL)).sum=0:=by induction l with|nil=>rfl|cons x l ih=>simp only[cn,List.sum_cons,List.countP_nil,bH];exact ih
theorem O7 {N:Nat}{w:aX}{a:bS}{v:Int}(hi:zt N w)(ho:XI w a=true):zt (N+412542) (Fl w a v):=by
 obtain⟨n,hn,z,hq⟩:=hi;simp only[XI,ai]at ho;obtain⟨hw,_,hk,_⟩:=ho;obtain⟨l1,l2,l3,l4,l5⟩:=wc hw;have hk:=de.1 hk;obtain⟨k,hke⟩:=a4 hk.1;have hk1:k<w.1.length:=by omega
 have hk2:k<w.2.1.length:=by omega
 have same:zt (N+412542) w:=⟨n,hn,z,by omega⟩
 have hc:=Hg (λq=>q.countP gL) w.2.1 k [] hk2;simp only[List.countP_nil,cG]at hc;unfold Fl;rw[hke,ax];cases a.1==1 with
 |true=>simp only[ae,vM];split;rename_i b s hb hs;have hbm:=xB w.2.2.2.1 k a.2.2.2.1 (n:=n) (by omega) (λb hb=>(z.2.2.2.1.2 b hb).1.2.2.1);have hs':=z.1.2 _ (List.mem_of_getElem? hs);refine⟨n,hn,⟨⟨by rw[aO];exact z.1.1,λx hx=>?_⟩,z.2.1,z.2.2.1,⟨by rw[pL];exact z.2.2.2.1.1,λx hx=>?_⟩,z.2.2.2.2⟩,by show n+1288*(w.2.1.map (λq=>q.countP gL)).sum≤_;omega⟩;rcases List.mem_or_eq_of_mem_set hx with h|rfl;exact z.1.2 x h;exact⟨⟨trivial,trivial,hbm b (List.mem_of_getElem? hb),λ_ _=>trivial⟩,hs'.2⟩;exact⟨⟨trivial,trivial,hbm x hx,λ_ _=>trivial⟩,trivial,trivial,trivial⟩;exact same
 |false=>
  simp only[af];cases a.1==2 with
  |true=>rw[ae];refine⟨n,hn,⟨z.1,⟨by rw[ch];exact z.2.1.1,λx hx=>?_⟩,z.2.2⟩,?_⟩;obtain⟨_,_,rfl⟩:=List.mem_map.1 hx;exact⟨dv _,λy hy=>by cases hy⟩;show n+1288*((w.2.1.map (λ_=>([]:List Bytes))).map (λq=>q.countP gL)).sum≤_;rw[sum_nil];omega
  |false=>
   simp only[af];cases a.2.2.1.1==0 with
   |true=>simp only[ae];cases v==1 with|false=>exact same|true=>have hs:=Ab a.2.2.1.2.1 a.2.2.1.2.2.1;have hql:=z.2.1.2 _ (aD hk2);have hc2:=Hg (λq=>q.countP gL) w.2.1 k (w.2.1[k]++yV a.2.2.1.2.1 a.2.2.1.2.2.1) hk2;have hcs:(yV a.2.2.1.2.1 a.2.2.1.2.2.1).countP gL≤320:=aP List.countP_le_length hs.1;simp only[List.countP_append]at hc2;simp only[ae,M4,bF hk2];have z2:bG (n+320) bk w:=z.mono (by omega);refine⟨n+320,by omega,⟨z2.1,⟨by rw[aO];exact z2.2.1.1,λx hx=>?_⟩,z2.2.2⟩,by show n+320+1288*((w.2.1.set k (w.2.1[k]++yV a.2.2.1.2.1 a.2.2.1.2.2.1)).map (λq=>q.countP gL)).sum≤_;omega⟩;rcases List.mem_or_eq_of_mem_set hx with h|rfl;exact z2.2.1.2 x h;refine⟨by have:=hql.1;rw[ak];omega,λy hy=>?_⟩;rcases aq.1 hy with h|h;exact aP (hql.2 y h) (by omega);exact aP (hs.2 y h) (by omega)
   |false=>
    simp only[af];cases a.2.2.1.1==1 with
    |true=>simp only[ae,si,bF hk2];have hkp:=(z0 (dx w.2.2.2.1).1 k w.2.1[k] (w.1,w.2.1.set k [],w.2.2)).2.1;refine⟨_,by omega,yS w.2.1[k] hn (uG k z),?_⟩;rw[hkp];show _+1288*((w.2.1.set k []).map (λq=>q.countP gL)).sum≤_;omega
    |false=>
     simp only[af];cases a.2.2.1.1==2 with
     |true=>simp only[ae];cases (dX a.2.2.1.2.2.2.2.1).2==0 with|false=>exact same|true=>refine⟨n+1288,by omega,th hn z,?_⟩;rw[ae,(wq w 0 (dX a.2.2.1.2.2.2.2.1).1).2.1];omega
     |false=>simp only[af];cases a.2.2.1.1==4 with|true=>rw[ae];exact⟨n,hn,tN z (ch ..),by show n+1288*(w.2.1.map (λq=>q.countP gL)).sum≤_;omega⟩|false=>simp only[af];cases a.2.2.1.1==6 with|true=>rw[ae];refine⟨n,hn,uG k z,?_⟩;show n+1288*((w.2.1.set k []).map (λq=>q.countP gL)).sum≤_;omega|false=>exact same
theorem Ge {N:Nat}{w:aX}{a:bS}{v:Int}(hi:zt N w):zt (N+412542) (lp w a v):=by unfold lp;cases ho:XI w a with|true=>exact O7 hi ho|false=>obtain⟨n,hn,z,hq⟩:=hi;rw[af];exact⟨n,hn,z,by omega⟩
theorem UG (w:aX)(a:bS)(v:Int):(Fl w a v).1.length=w.1.length∧(Fl w a v).2.1.length=w.2.1.length∧(Fl w a v).2.2.2.1.length=w.2.2.2.1.length:=by
 have same:w.1.length=w.1.length∧w.2.1.length=w.2.1.length∧w.2.2.2.1.length=w.2.2.2.1.length:=⟨rfl,rfl,rfl⟩
 unfold Fl;cases a.1==1 with
 |true=>simp only[ae,vM];split;exact⟨aO ..,rfl,pL _ _ _⟩;exact same
 |false=>
  simp only[af];cases a.1==2 with|true=>exact⟨rfl,ch ..,rfl⟩|false=>?_
  simp only[af];cases a.2.2.1.1==0 with
  |true=>cases v==1 with|true=>exact⟨rfl,aO ..,rfl⟩|false=>exact same
  |false=>
   simp only[af];cases a.2.2.1.1==1 with
   |true=>have h:=z0 (dx w.2.2.2.1).1 ((a.2.1.toNat:Nat):Int) (w.2.1.getD a.2.1.toNat []) (w.1,w.2.1.set a.2.1.toNat [],w.2.2);exact⟨h.1,(congrArg List.length h.2.1).trans (aO ..),congrArg List.length h.2.2⟩
   |false=>
    simp only[af];cases a.2.2.1.1==2 with
    |true=>cases (dX a.2.2.1.2.2.2.2.1).2==0 with|false=>exact same|true=>have h:=wq w 0 (dX a.2.2.1.2.2.2.2.1).1;exact⟨h.1,congrArg List.length h.2.1,congrArg List.length h.2.2⟩
    |false=>
     simp only[af];cases a.2.2.1.1==4 with|true=>exact same|false=>?_
     simp only[af];cases a.2.2.1.1==6 with|true=>exact⟨rfl,aO ..,rfl⟩|false=>exact same
theorem Kw (w:aX)(a:bS)(v:Int):(lp w a v).1.length=w.1.length∧(lp w a v).2.1.length=w.2.1.length∧(lp w a v).2.2.2.1.length=w.2.2.2.1.length:=by unfold lp;cases XI w a with|true=>exact UG w a v|false=>exact⟨rfl,rfl,rfl⟩
theorem NI {n:Nat}{w:aX}(z:bG n bk w)(h1:w.1.length≤3)(h2:w.2.1.length≤3)(h3:w.2.2.2.1.length≤3):iP bk w≤200*(n+1):=by
 refine aP Bc ?_;have e1:=aP (Bd z.1.2) (bf _ h1);have e2:=aP (Bd z.2.1.2) (bf _ h2);have e3:ll (.sl ay) w.2.2.1≤n*8:=aP (rm z.2.2.1) (Nat.le_of_eq (by kernel_rfl));have e4:=aP (Bd z.2.2.2.1.2) (bf _ h3);have e5:ll (.sl .str) w.2.2.2.2≤n*1:=aP (rm z.2.2.2.2) (Nat.le_of_eq (by kernel_rfl));have q1:Ek n cz=(1+(1+n*1))+((n*9+(n*7+(1+n*1)))+(1+(n*8+n*1))):=by kernel_rfl
 have q2:Ek n (.sl .str)=n*1:=by kernel_rfl
 have q3:Ek n ba=(1+(1+n*1))+(1+(1+1)):=by kernel_rfl
 have s:ll bk w=ll (.sl cz) w.1+(ll (.sl (.sl .str)) w.2.1+(ll (.sl ay) w.2.2.1+(ll (.sl ba) w.2.2.2.1+ll (.sl .str) w.2.2.2.2))):=by kernel_rfl
 rw[s];omega
theorem U7 {w:aX}(h:mN bk w≤1048576):zt 63000000 w:=by
 have key:∀q:List Bytes,22*q.countP gL≤mN (.sl .str) q:=by
  intro q;induction q with
  |nil=>simp
  |cons x q ih=>
   simp only[mN,cn,List.sum_cons,bE]at ih⊢;by_cases hx:gL x=true;rw[List.countP_cons_of_pos hx];have:22≤x.length:=by simpa[gL]using hx
   omega;rw[List.countP_cons_of_neg hx];omega
 have key2:∀l:List (List Bytes),22*(l.map (λq=>q.countP gL)).sum≤(l.map (mN (.sl .str))).sum:=by intro l;induction l with|nil=>simp|cons q l ih=>have:=key q;simp only[cn,List.sum_cons];omega
 have hq:mN (.sl (.sl .str)) w.2.1≤mN bk w:=by
  show _≤mN (.sl cz) w.1+(mN (.sl (.sl .str)) w.2.1+_)
  omega
 have h2:=key2 w.2.1;have h3:((w.2.1.map (mN (.sl .str))).sum:Nat)≤mN (.sl (.sl .str)) w.2.1:=by show _≤w.2.1.length+(w.2.1.map (mN (.sl .str))).sum;omega
 exact⟨1048576,by omega,w3 h,by omega⟩
end
end Go.Pu
section
namespace Go.Pu
open Go.Dn
set_option linter.unusedVariables false
set_option linter.unusedSimpArgs false
set_option maxRecDepth 100000
set_option maxHeartbeats 4000000
theorem Bl:J8 (.sl (.int .i64)) ft:=by
 refine GG (e:=(.int .i64)) (T:=jf (λ_ y _ z=>some (y,z))) (λl i hi k nx h1 h2 h3 hx=>?_) (λl k nx=>?_)
 ·try simp only[fB,gW,fA,gX,bO,bP,←cm]at h2
  simp only[jf];rw[aj (by omega)];simp (disch:=omega) only[ae,aZ hi,ab,jJ,aO,c7,ax,wrap64,ar,XV,kh];try simp only[tB,zQ,wT,zR,fB,gW,fA,gX,bO,bP,←cm]
 simp only[jf];rw[ah (by omega)];rfl
theorem xR:J8 (.sl .str) gx:=by
 refine GG (e:=.str) (T:=fZ (λ_ y _ z=>some (y,z))) (λl i hi k nx h1 h2 h3 hx=>?_) (λl k nx=>?_)
 ·try simp only[fB,gW,fA,gX,bO,bP,←cm]at h2
  simp only[fZ];rw[aj (by omega)];simp (disch:=omega) only[ae,aZ hi,ab,jJ,aO,c7,ax,wrap64,ar,XV,kh];try simp only[tB,zQ,wT,zR,fB,gW,fA,gX,bO,bP,←cm]
 simp only[fZ];rw[ah (by omega)];rfl
theorem P8:J8 (.sl dn) oS:=CW (e:=dn) (T:=oT (λ_ y _ z=>some (y,z))) (f:=bR) (.pair (.int _) (.pair (.int _) (.pair (.int _) (.pair (.int _) (.pair (.int _) (.pair (.int _) (.pair (.int _) (.pair (.int _) (.int _))))))))) kh ⟨trivial,⟨trivial,⟨trivial,⟨trivial,⟨trivial,⟨trivial,⟨trivial,⟨trivial,trivial⟩⟩⟩⟩⟩⟩⟩⟩ (λl k i nx=>by kernel_rfl)
theorem P9:J8 (.sl cM) oU:=CW (e:=cM) (T:=oV (λ_ y _ z=>some (y,z))) (f:=bR) (.pair (.int _) (.pair (.pair (.int _) (.pair (.int _) (.pair (.int _) (.pair (.int _) (.int _))))) (.int _))) kh ⟨trivial,⟨⟨trivial,⟨trivial,⟨trivial,⟨trivial,trivial⟩⟩⟩⟩,trivial⟩⟩ (λl k i nx=>by kernel_rfl)
theorem Lb:J8 (.sl bC) mh:=CW (e:=bC) (T:=mP (λ_ y _ z=>some (y,z))) (f:=bR) (.pair (.pair (.int _) (.pair (.int _) (.pair (.int _) (.pair (.int _) (.int _))))) (.pair (.int _) (.pair .str .bool))) kh ⟨⟨trivial,⟨trivial,⟨trivial,⟨trivial,trivial⟩⟩⟩⟩,⟨trivial,⟨trivial,trivial⟩⟩⟩ (λl k i nx=>by kernel_rfl)
theorem Qa:J8 (.sl cz) sG:=CW (e:=cz) (T:=oW (λ_ y _ z=>some (y,z))) (f:=bR) (.pair (.pair (.int _) (.pair .bool (.sl (e:=(.int .i64)) ft))) (.pair (.pair (.sl (e:=dn) oS) (.pair (.sl (e:=cM) oU) (.pair .str (.sl (e:=(.int .i64)) ft)))) (.pair (.int _) (.pair (.sl (e:=bC) mh) (.sl (e:=.str) gx))))) kh ⟨⟨trivial,⟨trivial,Bl⟩⟩,⟨⟨P8,⟨P9,⟨trivial,Bl⟩⟩⟩,⟨trivial,⟨Lb,xR⟩⟩⟩⟩ (λl k i nx=>by kernel_rfl)
theorem Jb:J8 (.sl (.sl .str)) oX:=by
 refine GG (e:=(.sl .str)) (T:=fE (λ_ y _ z=>some (y,z))) (λl i hi k nx h1 h2 h3 hx=>?_) (λl k nx=>?_)
 ·try simp only[fB,gW,fA,gX,bO,bP,←cm]at h2
  simp only[fE];rw[aj (by omega)];simp (disch:=omega) only[ae,aZ hi,ab,jJ,aO,c7,ax,wrap64,ar,XV,kh,xR _ hx];try simp only[tB,zQ,wT,zR,fB,gW,fA,gX,bO,bP,←cm]
 simp only[fE];rw[ah (by omega)];rfl
theorem w9:J8 (.sl ay) gQ:=CW (e:=ay) (T:=fP (λ_ y _ z=>some (y,z))) (f:=bR) (.pair (.int _) (.pair (.int _) (.pair (.pair (.int _) (.pair (.int _) (.int _))) (.pair .bool (.pair (.int _) (.int _)))))) kh ⟨trivial,⟨trivial,⟨⟨trivial,⟨trivial,trivial⟩⟩,⟨trivial,⟨trivial,trivial⟩⟩⟩⟩⟩ (λl k i nx=>by kernel_rfl)
theorem Ja:J8 (.sl ba) oR:=CW (e:=ba) (T:=lG (λ_ y _ z=>some (y,z))) (f:=bR) (.pair (.pair (.int _) (.pair .bool (.sl (e:=(.int .i64)) ft))) (.pair (.int _) (.pair (.int _) (.int _)))) kh ⟨⟨trivial,⟨trivial,Bl⟩⟩,⟨trivial,⟨trivial,trivial⟩⟩⟩ (λl k i nx=>by kernel_rfl)
theorem yl (a:aX):iP bk a=iP (.sl cz) a.1+(iP (.sl (.sl .str)) a.2.1+(iP (.sl ay) a.2.2.1+(iP (.sl ba) a.2.2.2.1+(iP (.sl .str) a.2.2.2.2)))):=rfl
theorem I3 (a:aX)(k:Int):I6 bk a k=(I6 (.sl cz) a.1 (k),I6 (.sl (.sl .str)) a.2.1 (k+((iP (.sl cz) a.1:Nat):Int)),I6 (.sl ay) a.2.2.1 (k+((iP (.sl cz) a.1:Nat):Int)+((iP (.sl (.sl .str)) a.2.1:Nat):Int)),I6 (.sl ba) a.2.2.2.1 (k+((iP (.sl cz) a.1:Nat):Int)+((iP (.sl (.sl .str)) a.2.1:Nat):Int)+((iP (.sl ay) a.2.2.1:Nat):Int)),I6 (.sl .str) a.2.2.2.2 (k+((iP (.sl cz) a.1:Nat):Int)+((iP (.sl (.sl .str)) a.2.1:Nat):Int)+((iP (.sl ay) a.2.2.1:Nat):Int)+((iP (.sl ba) a.2.2.2.1:Nat):Int))):=by simp only[I8,MU,I7,MV,Eo,HC,En,HD,bO,Int.natCast_zero,Int.add_zero,←cm]
theorem Jj:MtM bk lF:=by intro a h k h1 h2;rw[yl]at h2;simp (disch:=omega) only[lF,ab,Qa.top _ h.1,Jb.top _ h.2.1,w9.top _ h.2.2.1,Ja.top _ h.2.2.2.1,xR.top _ h.2.2.2.2];rw[I3,yl];refine congrArg some (Prod.ext (by simp only;omega) ?_);first|rfl|simp only[I8,MU,I7,MV,Eo,HC,En,HD,bO,Int.natCast_zero,Int.add_zero,←cm]
theorem I9:J8 (.sl bD) oQ:=CW (e:=bD) (T:=lE (λ_ y _ z=>some (y,z))) (f:=bR) (.pair (.int _) (.pair (.int _) (.pair (.pair (.int _) (.pair (.pair (.int _) (.pair (.int _) (.pair (.int _) (.pair (.int _) (.pair (.int _) (.pair (.int _) (.pair (.int _) (.pair (.int _) (.pair (.int _) (.pair (.int _) (.pair (.int _) (.pair (.int _) (.pair (.int _) (.pair (.int _) (.pair (.int _) .str))))))))))))))) (.pair (.int _) (.pair (.int _) (.pair .str (.int _)))))) (.pair (.pair (.int _) (.pair (.int _) (.int _))) (.pair .str (.int _)))))) kh ⟨trivial,⟨trivial,⟨⟨trivial,⟨⟨trivial,⟨trivial,⟨trivial,⟨trivial,⟨trivial,⟨trivial,⟨trivial,⟨trivial,⟨trivial,⟨trivial,⟨trivial,⟨trivial,⟨trivial,⟨trivial,⟨trivial,trivial⟩⟩⟩⟩⟩⟩⟩⟩⟩⟩⟩⟩⟩⟩⟩,⟨trivial,⟨trivial,⟨trivial,trivial⟩⟩⟩⟩⟩,⟨⟨trivial,⟨trivial,trivial⟩⟩,⟨trivial,trivial⟩⟩⟩⟩⟩ (λl k i nx=>by kernel_rfl)
theorem xJ:L3 (.sl .str) gw:=by
 refine GF (e:=.str) (H:=λv=>fY (λy _=>some y) (λ_ y _=>some y) v 0) (λl i hi x k nx hm h1 h2 h3 hx=>?_) (λl k nx=>?_)
 ·try simp only[fB,gW,fA,gX,bO,bP,←cm]at h2
  try simp only[tB,zQ,wT,zR,fB,gW,fA,gX,bO,bP,←cm]at hm
  simp only[fY];rw[aj (by omega)];simp (disch:=omega) only[ae,aZ hi,hm,ab,dT,dI,au,af,wrap64,ar,XV,wC,kh];try simp only[fB,gW,fA,gX,bO,bP,←cm]
 simp only[fY];rw[ah (by omega)];rfl
theorem Gr:L3 (.sl (.int .i64)) gm:=by
 refine GF (e:=(.int .i64)) (H:=λv=>je (λy _=>some y) (λ_ y _=>some y) v 0) (λl i hi x k nx hm h1 h2 h3 hx=>?_) (λl k nx=>?_)
 ·try simp only[fB,gW,fA,gX,bO,bP,←cm]at h2
  try simp only[tB,zQ,wT,zR,fB,gW,fA,gX,bO,bP,←cm]at hm
  simp only[je];rw[aj (by omega)];simp (disch:=omega) only[ae,aZ hi,hm,ab,dT,dI,au,af,wrap64,ar,XV,wC,kh];try simp only[fB,gW,fA,gX,bO,bP,←cm]
 simp only[je];rw[ah (by omega)];rfl
theorem PG:L3 (.sl dn) oK:=ER (e:=dn) (H:=λv=>oL (λy _=>some y) (λ_ y _=>some y) v 0) (bad:=λ_ i k=>some (-1)) (f:=bR) (.pair (.int _) (.pair (.int _) (.pair (.int _) (.pair (.int _) (.pair (.int _) (.pair (.int _) (.pair (.int _) (.pair (.int _) (.int _))))))))) kh ⟨trivial,⟨trivial,⟨trivial,⟨trivial,⟨trivial,⟨trivial,⟨trivial,⟨trivial,trivial⟩⟩⟩⟩⟩⟩⟩⟩ (λl k i nx=>by kernel_rfl)
theorem PH:L3 (.sl cM) oM:=ER (e:=cM) (H:=λv=>oN (λy _=>some y) (λ_ y _=>some y) v 0) (bad:=λ_ i k=>some (-1)) (f:=bR) (.pair (.int _) (.pair (.pair (.int _) (.pair (.int _) (.pair (.int _) (.pair (.int _) (.int _))))) (.int _))) kh ⟨trivial,⟨⟨trivial,⟨trivial,⟨trivial,⟨trivial,trivial⟩⟩⟩⟩,trivial⟩⟩ (λl k i nx=>by kernel_rfl)
theorem KK:L3 (.sl bC) mf:=ER (e:=bC) (H:=λv=>mO (λy _=>some y) (λ_ y _=>some y) v 0) (bad:=λ_ i k=>some (-1)) (f:=bR) (.pair (.pair (.int _) (.pair (.int _) (.pair (.int _) (.pair (.int _) (.int _))))) (.pair (.int _) (.pair .str .bool))) kh ⟨⟨trivial,⟨trivial,⟨trivial,⟨trivial,trivial⟩⟩⟩⟩,⟨trivial,⟨trivial,trivial⟩⟩⟩ (λl k i nx=>by kernel_rfl)
theorem PI:L3 (.sl cz) sF:=ER (e:=cz) (H:=λv=>oO (λy _=>some y) (λ_ y _=>some y) v 0) (bad:=λ_ i k=>some (-1)) (f:=bR) (.pair (.pair (.int _) (.pair .bool (.sl (e:=(.int .i64)) gm))) (.pair (.pair (.sl (e:=dn) oK) (.pair (.sl (e:=cM) oM) (.pair .str (.sl (e:=(.int .i64)) gm)))) (.pair (.int _) (.pair (.sl (e:=bC) mf) (.sl (e:=.str) gw))))) kh ⟨⟨trivial,⟨trivial,Gr⟩⟩,⟨⟨PG,⟨PH,⟨trivial,Gr⟩⟩⟩,⟨trivial,⟨KK,xJ⟩⟩⟩⟩ (λl k i nx=>by kernel_rfl)
theorem Iy:L3 (.sl (.sl .str)) oP:=by
 refine GF (e:=(.sl .str)) (H:=λv=>fD (λy _=>some y) (λ_ y _=>some y) v 0) (λl i hi x k nx hm h1 h2 h3 hx=>?_) (λl k nx=>?_)
 ·try simp only[fB,gW,fA,gX,bO,bP,←cm]at h2
  try simp only[tB,zQ,wT,zR,fB,gW,fA,gX,bO,bP,←cm]at hm
  simp only[fD];rw[aj (by omega)];simp (disch:=omega) only[ae,aZ hi,hm,ab,dT,dI,au,af,wrap64,ar,XV,wC,kh,xJ _ hx];try simp only[fB,gW,fA,gX,bO,bP,←cm]
 simp only[fD];rw[ah (by omega)];rfl
theorem w8:L3 (.sl ay) gP:=ER (e:=ay) (H:=λv=>fO (λy _=>some y) (λ_ y _=>some y) v 0) (bad:=λ_ i k=>some (-1)) (f:=bR) (.pair (.int _) (.pair (.int _) (.pair (.pair (.int _) (.pair (.int _) (.int _))) (.pair .bool (.pair (.int _) (.int _)))))) kh ⟨trivial,⟨trivial,⟨⟨trivial,⟨trivial,trivial⟩⟩,⟨trivial,⟨trivial,trivial⟩⟩⟩⟩⟩ (λl k i nx=>by kernel_rfl)
theorem Ix:L3 (.sl ba) oJ:=ER (e:=ba) (H:=λv=>lD (λy _=>some y) (λ_ y _=>some y) v 0) (bad:=λ_ i k=>some (-1)) (f:=bR) (.pair (.pair (.int _) (.pair .bool (.sl (e:=(.int .i64)) gm))) (.pair (.int _) (.pair (.int _) (.int _)))) kh ⟨⟨trivial,⟨trivial,Gr⟩⟩,⟨trivial,⟨trivial,trivial⟩⟩⟩ (λl k i nx=>by kernel_rfl)
theorem PK:MtH bk jd:=by intro a h k h1 h2;rw[yl]at h2;rw[I3];simp (disch:=omega) only[jd,ab,PI.top _ h.1,Iy.top _ h.2.1,w8.top _ h.2.2.1,Ix.top _ h.2.2.2.1,xJ.top _ h.2.2.2.2,wC,af];rw[yl];refine congrArg some (by omega)
end Go.Pu
end
namespace Go.Pu
open Go.Dn
set_option linter.unusedSimpArgs false
set_option linter.unusedVariables false
noncomputable section
def O6:bS:=(0,0,adI,(0,0,0),([]:Bytes),0)
def AW (l:List bS)(v:List Int)(w:aX):Nat→aX
 |0=>w
 |i+1=>lp (AW l v w i) (l.getD i O6) (v.getD i 0)
theorem yQ {l:List bS}{v:List Int}{w:aX}{N:Nat}(h:zt N w):∀i,zt (N+412542*i) (AW l v w i)
 |0=>h
 |i+1=>by have:=Ge (a:=l.getD i O6) (v:=v.getD i 0) (yQ (l:=l) (v:=v) h i);rw[show N+412542*(i+1)=N+412542*i+412542 by omega];exact this
theorem Qu (l:List bS)(v:List Int)(w:aX):∀i,(AW l v w i).1.length=w.1.length∧(AW l v w i).2.1.length=w.2.1.length∧(AW l v w i).2.2.2.1.length=w.2.2.2.1.length
 |0=>⟨rfl,rfl,rfl⟩
 |i+1=>by have h1:=Kw (AW l v w i) (l.getD i O6) (v.getD i 0);have h2:=Qu l v w i;exact⟨h1.1.trans h2.1,h1.2.1.trans h2.2.1,h1.2.2.trans h2.2.2⟩
def nY (w:aX)(l:List bS)(v:List Int):aX:=
 bif !ik w||(decide ((l.length:Int)>40)||((v.length:Int) !=(l.length:Int))) then w else AW l v w l.length
theorem GA (w:aX)(l:List bS)(v:List Int)(h:zt 63000000 w)(hl:bG 1000000000 (.sl bD) l):mX w l v=some (nY w l v):=by
 obtain⟨n,_,z,_⟩:=id h;have z9:bG 1000000000 bk w:=z.mono (by omega);unfold mX nY;simp only[pM w z9,zG w (pz z9),ab];cases ik w with|false=>rfl|true=>?_
 by_cases h40:(l.length:Int)>40;rw[aj h40];rfl;rw[ah h40];cases hv:((v.length:Int) !=(l.length:Int))with|true=>rfl|false=>?_
 have hv:v.length=l.length:=by simp at hv;omega
 simp only[au,af,ab,cA];refine cp (λi=>((i:Int),AW l v w i)) l.length (by omega) (λi nx hi=>?_) (λnx=>?_);have hvi:i<v.length:=by omega
 simp only[lZ];rw[aj (by omega),aZ hi,aZ hvi,wrap64 (by omega) (by omega)];simp only[ae,ab,IG _ l[i] v[i] _ (yQ (l:=l) (v:=v) h i) (by omega) (hl.2 _ (aD hi)),AW,bF hi,bF hvi];rfl;simp only[lZ];rw[ah (by omega),af]
theorem Ha (w:aX)(l:List bS)(v:List Int)(h:zt 63000000 w)(hl:bG 1000000000 (.sl bD) l)(hm:∀a∈l,a.2.2.2.1.1≤9223372036854775807):qm w l v=some (nY w l v):=by
 obtain⟨n,_,z,_⟩:=id h;have z9:bG 1000000000 bk w:=z.mono (by omega);unfold qm nY;simp only[tZ w z9,Ah w (pz z9),ab];cases ik w with|false=>rfl|true=>?_
 by_cases h40:(l.length:Int)>40;rw[aj h40];rfl;rw[ah h40];cases hv:((v.length:Int) !=(l.length:Int))with|true=>rfl|false=>?_
 have hv:v.length=l.length:=by simp at hv;omega
 simp only[au,af,ab,cA];refine cp (λi=>((i:Int),AW l v w i)) l.length (by omega) (λi nx hi=>?_) (λnx=>?_);have hvi:i<v.length:=by omega
 simp only[mz];rw[aj (by omega),aZ hi,aZ hvi,wrap64 (by omega) (by omega)];simp only[ae,ab,JD _ l[i] v[i] _ (yQ (l:=l) (v:=v) h i) (by omega) (hl.2 _ (aD hi)) (hm _ (aD hi)),AW,bF hi,bF hvi];rfl;simp only[mz];rw[ah (by omega),af]
theorem D4 (a:aX)(l:List bS)(v:List Int)(ha:n4 bk a)(hl0:n4 (.sl bD) l)(hv0:n4 (.sl (.int .i64)) v):lz a l v=some true:=by
 unfold lz;by_cases hv:(v.length:Int)>1048576;rw[aj hv];rfl;rw[ah hv,af];refine(QH a ha).use (by omega) (by omega) λhl=>?_;refine(JS l hl0).use (by omega) (by omega) λhl2=>?_;have hA:bG 1048576 bk a:=w3 (by omega);have hL:bG 1048576 (.sl bD) l:=w3 (by omega);have hV:bG 1048576 (.sl (.int .i64)) v:=⟨by show v.length≤_;omega,λ_ _=>trivial⟩
 have hI:zt 63000000 a:=U7 (by omega);have hs:=Ha a l v hI (hL.mono (by omega)) (λc hc=>(hl0.2 c hc).2.2.2.1.1.2);have hi:=GA a l v hI (hL.mono (by omega));have c1:iP bk a≤Ek 1048576 bk:=aP Bc (rm hA);have c3:ll (.sl bD) l≤Ek 1048576 (.sl bD):=rm hL;have c4:ll (.sl (.int .i64)) v≤Ek 1048576 (.sl (.int .i64)):=rm hV;have b1:Ek 1048576 bk≤400000000000000:=by decide
 have b3:Ek 1048576 (.sl bD)≤100000000000000:=by decide
 have b4:Ek 1048576 (.sl (.int .i64))≤100000000000000:=by decide
 have hRc:bG 90000000 bk (nY a l v)∧iP bk (nY a l v)≤900000000000000:=by unfold nY;cases hc: !ik a||(decide ((l.length:Int)>40)||((v.length:Int) !=(l.length:Int)))with|true=>exact⟨hA.mono (by omega),by rw[ae];omega⟩|false=>simp only[Bool.or_eq_false_iff,cx,Bool.not_eq_false']at hc;obtain⟨n,_,hR,hn⟩:=yQ (l:=l) (v:=v) hI l.length;have hR:bG 90000000 bk (AW l v a l.length):=hR.mono (by omega);have h4:=wc hc.1;have hnn:=Qu l v a l.length;rw[af];exact⟨hR,aP (NI hR (by omega) (by omega) (by omega)) (by omega)⟩
 obtain⟨hR,c2⟩:=hRc;generalize nY a l v=r at hs hi hR c2;have m1:=Jj a (hA.mono (by omega)) 1 (by omega) (by omega);have m4:=I9 l (hL.mono (by omega)) (1+(iP bk a:Int)) (by omega) (by omega);have m5:=Bl v (hV.mono (by omega)) (1+(iP bk a:Int)+(ll (.sl bD) l:Int)) (by omega) (by omega);have m2:=Jj r (hR.mono (by omega)) 1 (by omega) (by omega);have m3:∀t,t=I6 bk r 1→jd t 1=some (1+(iP bk r:Int)):=by rintro _ rfl;exact PK r (hR.mono (by omega)) 1 (by omega) (by omega)
 simp (disch:=omega) only[RY a hA,JX l hL,zi v hV,ab,hs,hi,H9 r (hR.mono (by omega)),H9 a (hA.mono (by omega)),H8 l (hL.mono (by omega)),Gl v (hV.mono (by omega)),dI,dT,au,af,m1,m2,m4,m5,wC];rw[m3];simp (disch:=omega) only[ab,wC,af,dT];rfl
end
end Go.Pu
