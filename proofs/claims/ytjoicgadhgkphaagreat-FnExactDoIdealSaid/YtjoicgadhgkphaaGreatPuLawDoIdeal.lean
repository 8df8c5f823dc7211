import Derived.KernelRfl
import Derived.Test.YtjoicgadhgkphaaGreatPuX1
namespace Go.Pu
open Go.Dn
set_option linter.unusedSimpArgs false
set_option linter.unusedVariables false
noncomputable section
/- The switch: the program's and the reference's results are one. -/
structure kQ (ps:List Port):Prop where
 n:ps.length≤1000000000
 v:∀p∈ps,p.2.1.length≤1000000000
def HV (ps:List Port)(e:Int)(p:aC):Bool:=eA ps&&(dy p&&dB e 0 ((ps.length:Int)-1))
def GV (x:Port)(p:aC):Int:=bif p.2.2.1== -1 then x.2.2.1 else p.2.2.1
def eK (ps:List Port)(e:Int)(p:aC):Int:=
 bif !HV ps e p then-1 else
 bif !hasB (ps.getD e.toNat gL).2.1 (GV (ps.getD e.toNat gL) p)||((e !=0)&&((ps.getD e.toNat gL).2.2.2&&((ps.getD e.toNat gL).1 !=p.2.1))) then-1 else GV (ps.getD e.toNat gL) p
theorem Ld {p:aC}(h:dy p=true):(decide (p.2.2.1<0))=(p.2.2.1== -1):=by simp only[dy,u1,ai,db]at h;have:=h.1.2.2.1;rw[bH,aX,aR];omega
theorem xn (ps:List Port)(e:Int)(p:aC)(z:kQ ps):iQ ps e p=some (eK ps e p):=by
 have hn:=z.n;unfold iQ eK HV;rw[wh ps hn z.v,ab];cases hp:eA ps with|false=>rfl|true=>?_
 rw[lK,ab];cases hs:dy p with|false=>rfl|true=>?_
 rw[wrap64 (n:=(ps.length:Int)-1) (by omega) (by omega),dH];cases he:dB e 0 ((ps.length:Int)-1)with|false=>rfl|true=>?_
 have h1:=db.1 he;obtain⟨e,rfl⟩:=aY h1.1;have hl:e<ps.length:=by omega
 have hv:=z.v _ (aG hl);simp only[au,af,ab,bZ,a4 hl,ax,bI hl,qP _ _ hv,GV];cases p.2.2.1== -1<;>simp only[ae,af]<;>cases hasB ps[e].2.1 p.2.2.1<;>cases hasB ps[e].2.1 ps[e].2.2.1<;>cases (e:Int) !=0<;>cases ps[e].2.2.2<;>cases ps[e].1 !=p.2.1<;>rfl
theorem uI (ps:List Port)(e:Int)(p:aC)(z:kQ ps):jq ps e p=some (eK ps e p):=by
 have hn:=z.n;unfold jq eK HV;rw[wy ps hn z.v,ab];cases hp:eA ps with|false=>rfl|true=>?_
 rw[ma,ab];cases hs:dy p with|false=>rfl|true=>?_
 rw[wrap64 (n:=(ps.length:Int)-1) (by omega) (by omega),cS];cases he:dB e 0 ((ps.length:Int)-1)with|false=>rfl|true=>?_
 have h1:=db.1 he;obtain⟨e,rfl⟩:=aY h1.1;have hl:e<ps.length:=by omega
 have hv:=z.v _ (aG hl);rw[Ld hs];simp only[au,af,ab,bZ,a4 hl,ax,bI hl,s9 _ _ hv,GV];cases p.2.2.1== -1<;>simp only[ae,af]<;>cases hasB ps[e].2.1 p.2.2.1<;>cases hasB ps[e].2.1 ps[e].2.2.1<;>cases (e:Int) !=0<;>cases ps[e].2.2.2<;>cases ps[e].1 !=p.2.1<;>rfl
def uA (ps:List Port)(o v:Int)(p:aC):aC:=
 bif eA ps&&(dB o 0 ((ps.length:Int)-1)&&(hasB (ps.getD o.toNat gL).2.1 v&&dy p)) then
  (bif v==(ps.getD o.toNat gL).2.2.1 then(p.1,p.2.1, -1,p.2.2.2) else(p.1,p.2.1,v,p.2.2.2)) else Rp
theorem NY (ps:List Port)(o v:Int)(p:aC)(z:kQ ps):mf ps o v p=some (uA ps o v p):=by
 have hn:=z.n;unfold mf uA;rw[wy ps hn z.v,ab];cases hp:eA ps with|false=>rfl|true=>?_
 rw[wrap64 (n:=(ps.length:Int)-1) (by omega) (by omega),cS];cases he:dB o 0 ((ps.length:Int)-1)with|false=>rfl|true=>?_
 have h1:=db.1 he;obtain⟨o,rfl⟩:=aY h1.1;have hl:o<ps.length:=by omega
 have hv:=z.v _ (aG hl);simp only[au,af,ab,bm,a4 hl,ax,bI hl,s9 _ _ hv,ma];cases hasB ps[o].2.1 v<;>cases dy p<;>cases v==ps[o].2.2.1<;>rfl
theorem Nb (ps:List Port)(o v:Int)(p:aC)(z:kQ ps):lO ps o v p=some (uA ps o v p):=by
 have hn:=z.n;unfold lO uA;rw[wh ps hn z.v,ab];cases hp:eA ps with|false=>rfl|true=>?_
 rw[wrap64 (n:=(ps.length:Int)-1) (by omega) (by omega),dH];cases he:dB o 0 ((ps.length:Int)-1)with|false=>rfl|true=>?_
 have h1:=db.1 he;obtain⟨o,rfl⟩:=aY h1.1;have hl:o<ps.length:=by omega
 have hv:=z.v _ (aG hl);simp only[au,af,ab,bm,a4 hl,ax,bI hl,qP _ _ hv,lK];cases hasB ps[o].2.1 v<;>cases dy p<;>cases v==ps[o].2.2.1<;>rfl
def wS (ps:List Port)(e v:Int)(j:Nat):Bool:=((j:Int) !=e)&&hasB (ps.getD j gL).2.1 v
def eZ (l:List Nat):List Int:=l.map Int.ofNat
def Ox (p:aC):Bool:=p.1==281474976710655
theorem zP {q:Nat→Bool}(l:List Nat)(i:Nat)(hi:i<l.length):(l.take (i+1)).filter q=bif q l[i] then(l.take i).filter q++[l[i]] else(l.take i).filter q:=by rw[bB hi,List.filter_append];cases hq:q l[i]<;>simp[hq]
theorem B2 {q:Nat→Bool}(l:List Nat)(i:Nat):((l.take i).filter q).length≤l.length:=aP (List.length_filter_le _ _) (by simp;omega)
theorem Cf (ps:List Port)(e v:Int)(l:List Nat)(hl:l.length≤1000000000)(hb:∀j∈l,j<ps.length)(z:kQ ps): aW (dI (λ(y7:List Int) (y8:Int)=>some y7) ps e v (eZ l) ((eZ l).length:Int)) fuel (([]:List Int),0)=some (eZ (l.filter (wS ps e v))):=by
 refine cu (λi=>(eZ ((l.take i).filter (wS ps e v)),(i:Int))) l.length (by omega) (λi nx hi=>?_) (λnx=>?_);have hj:=hb _ (aG hi);have hv:=z.v _ (aG hj);have hi2:i<(eZ l).length:=by simpa[eZ]using hi
 have e1:(eZ l)[i]'hi2=(l[i]:Int):=by simp[eZ]
 have hf:=B2 (q:=wS ps e v) l i;simp only[dI];rw[aj (by simpa[eZ]using hi),a4 hi2,e1,wrap64 (by omega) (by omega)];simp only[ae,ab,a4 hj,qP _ _ hv];rw[zP l i hi,wS,bI hj];have hr:∀k:Option (List Int),room (List.length (eZ ((l.take i).filter (wS ps e v)))+List.length ([(l[i]:Int)])) k=k:=λk=>aM (by simp only[eZ,cd,bz];omega);cases (l[i]:Int) !=e with|false=>rfl|true=>cases hasB ps[l[i]].2.1 v with|false=>rfl|true=>simp only[ae,ab,bZ];rw[hr];simp[eZ]
 simp only[dI];rw[ah (by simp[eZ]),bG];rfl
def rN (ps:List Port)(p:aC):Nat→Nat
 |0=>0
 |i+1=>bif (ps.getD (i+1) gL).1==p.1 then i+1 else rN ps p i
def my (ps:List Port)(e:Int)(p:aC):List Nat:=
 (List.range ps.length).filter λj=>wS ps e (eK ps e p) j&&((j==rN ps p (ps.length-1))||Ox p)
def th (ps:List Port)(e:Int)(p:aC):List Int:=bif decide (eK ps e p<0) then [] else eZ (my ps e p)
theorem vI (ps:List Port)(e:Int)(p:aC)(z:kQ ps):h9 ps e p=some (th ps e p):=by
 have hn:=z.n;unfold h9 th;rw[uI ps e p z,ab];cases hd:decide (eK ps e p<0)with|true=>rfl|false=>?_
 have hp:eA ps=true:=by cases hp:eA ps with|true=>rfl|false=>unfold eK HV at hd;rw[hp]at hd;simp at hd
 have h1:1≤ps.length:=by simp only[eA,ai,db]at hp;omega
 simp only[af];refine cu (λi=>((rN ps p i:Int),((i+1:Nat):Int))) (ps.length-1) (by omega) (λi nx hi=>?_) (λnx=>?_);have hj:i+1<ps.length:=by omega
 simp only[ia];rw[aj (by omega),a4 hj,wrap64 (by omega) (by omega),rN,bI hj];simp only[ae,ab];cases ps[i+1].1==p.1<;>rfl
 ·simp only[ia];rw[ah (by omega),af];generalize hv:eK ps e p=v;have hsw:my ps e p=(List.range ps.length).filter λj=>wS ps e v j&&((j==rN ps p (ps.length-1))||Ox p):=by rw[my,hv]
  rw[hsw];generalize hq:(λj=>wS ps e v j&&((j==rN ps p (ps.length-1))||Ox p))=q;refine cu (λi=>(eZ (((List.range ps.length).take i).filter q),(i:Int))) ps.length (by omega) (λi nx hi=>?_) (λnx=>?_)
  ·have hvv:=z.v _ (aG hi);have hi2:i<(List.range ps.length).length:=by simpa using hi
   have hf:=B2 (q:=q) (List.range ps.length) i;simp only[gH];rw[aj (by omega),a4 hi,wrap64 (by omega) (by omega)];simp only[ae,ab,s9 _ _ hvv];rw[zP (List.range ps.length) i hi2,List.getElem_range];have eq:q i=(((i:Int) !=e)&&hasB ps[i].2.1 v&&(((i:Int)==(rN ps p (ps.length-1):Int))||(p.1==281474976710655))):=by rw[←hq];simp only[wS,bI hi,Ox];congr 2;rw[bH,aR,aR];omega
   have hr:∀k:Option (List Int),room (List.length (eZ (((List.range ps.length).take i).filter q))+List.length ([(i:Int)])) k=k:=λk=>aM (by simp only[eZ,cd,bz];rw[List.length_range]at hf;omega);rw[eq];cases (i:Int) !=e with|false=>rfl|true=>?_
   cases hasB ps[i].2.1 v with|false=>rfl|true=>?_
   simp only[ae,ab,bm];cases ((i:Int)==(rN ps p (ps.length-1):Int))<;>cases p.1==281474976710655<;>simp only[ae,af,ab,cM,Bool.or_true,Bool.true_or]<;>first|rfl|(rw[hr];simp[eZ])
  simp only[gH];rw[ah (by omega),bq (by simp)];rfl
theorem D1 (q:Nat→Bool):∀l:List Nat,(ud q l= -1∧∀j∈l,q j=false)∨∃j∈l,q j=true∧ud q l=(j:Int)
 |[]=> .inl ⟨rfl,by simp⟩
 |j::l=>by rw[ud];cases hj:q j with|true=>exact .inr ⟨j,by simp,hj,rfl⟩|false=>simp only[af];rcases D1 q l with⟨h1,h2⟩|⟨k,h1,h2,h3⟩;exact .inl ⟨h1,by intro k hk;rcases bu.1 hk with rfl|hk;exact hj;exact h2 k hk⟩;exact .inr ⟨k,by simp[h1],h2,h3⟩
theorem Cc {ps:List Port}{p:aC}:∀i,(∀j,1≤j→j≤i→((ps.getD j gL).1==p.1)=false)→rN ps p i=0
 |0,_=>rfl
 |i+1,h=>by rw[rN,h (i+1) (by omega) (by omega)];exact Cc i λj h1 h2=>h j h1 (by omega)
theorem D5 {ps:List Port}{p:aC}{k:Nat}(hk:1≤k)(h:((ps.getD k gL).1==p.1)=true):∀i,k≤i→(∀j,1≤j→j≤i→((ps.getD j gL).1==p.1)=true→j=k)→rN ps p i=k
 |0,hi,_=>by omega
 |i+1,hi,hu=>by rw[rN];by_cases he:k=i+1;rw[←he,h];rfl;cases hq:(ps.getD (i+1) gL).1==p.1 with|true=>have:=hu (i+1) (by omega) (by omega) hq;omega|false=>exact D5 hk h i (by omega) λj h1 h2=>hu j h1 (by omega)
theorem Mh {ps:List Port}(hp:eA ps=true){i j:Nat}(h1:1≤i)(hij:i<j)(hj:j<ps.length):((ps.getD i gL).1==(ps.getD j gL).1)=false:=by simp only[eA,ai,a6,cZ,yn,aI]at hp;have:=(hp.2 j hj).2 i hij;simp only[Bool.and_eq_false_iff,bne_eq_false_iff_eq]at this;rcases this with h|h;omega;exact h
theorem filter_one {q:Nat→Bool}{k n:Nat}(hk:k<n):(List.range n).filter (λj=>q j&&(j==k))=[k].filter q:=by
 have h1:(List.range n).filter (λj=>j==k)=[k]:=by
  induction n with
  |zero=>omega
  |succ n ih=>
   rw[List.range_succ,List.filter_append];by_cases he:k=n;subst he;have:(List.range k).filter (λj=>j==k)=[]:=by rw[List.filter_eq_nil_iff];intro j hj;have:=cZ.1 hj;simp;omega
   rw[this];simp;rw[ih (by omega)];have:([n]:List Nat).filter (λj=>j==k)=[]:=by simp;omega
   rw[this];rfl
 have h2:(λj=>q j&&(j==k))=λj=>q j&&(λj=>j==k) j:=rfl;rw[h2,←List.filter_filter,h1]
theorem vw (ps:List Port)(e:Int)(p:aC)(z:kQ ps):g4 ps e p=some (th ps e p):=by
 have hn:=z.n;unfold g4 th;rw[xn ps e p z,ab];cases hd:decide (eK ps e p<0)with|true=>rfl|false=>?_
 have hp:eA ps=true:=by cases hp:eA ps with|true=>rfl|false=>unfold eK HV at hd;rw[hp]at hd;simp at hd
 have h1:1≤ps.length∧ps.length≤8:=by simp only[eA,ai,db]at hp;omega
 have hmac:∀j,j<ps.length→(ps.getD j gL).1≤281474976710654:=by intro j hj;simp only[eA,ai,a6,cZ,yn,AG,c6,db]at hp;exact(hp.2 j hj).1.1.2.1.2
 simp only[af,Ih ps p.1 hn,ab];generalize hv:eK ps e p=v;have hsw:my ps e p=(List.range ps.length).filter λj=>wS ps e v j&&((j==rN ps p (ps.length-1))||Ox p):=by rw[my,hv]
 rw[hsw];have hbcase:Ox p=true→∀j,j<ps.length→((ps.getD j gL).1==p.1)=false:=by
  intro hb j hj;have:=hmac j hj;have hb:p.1=281474976710655:=by simpa[Ox]using hb
  rw[hb,cU];omega
 rcases D1 (λj=>(j !=0)&&((ps.getD j gL).1==p.1)) (List.range' 0 ps.length)with⟨hf,hno⟩|⟨k,hk,hq,hf⟩;have hno:∀j,1≤j→j<ps.length→((ps.getD j gL).1==p.1)=false:=by intro j h2 h3;have:=hno j (by simp;omega);simp only[Bool.and_eq_false_iff,bne_eq_false_iff_eq]at this;rcases this with h|h;omega;exact h
 have hh:rN ps p (ps.length-1)=0:=Cc _ λj h2 h3=>hno j h2 (by omega);rw[hf,show decide ((-1:Int)≥0)=false from rfl,af,hh];rw[show(p.1==281474976710655)=Ox p from rfl];cases hb:Ox p with|true=>simp only[ae,Bool.or_true,gm];refine cu (λi=>(eZ (List.range i),(i:Int))) ps.length (by omega) (λi nx hi=>?_) (λnx=>?_);simp only[gF];rw[aj (by omega),aM (by simp only[eZ,cd,List.length_range,bz];omega),wrap64 (by omega) (by omega),List.range_succ];simp only[ae,eZ,List.map_append];rfl;simp only[gF];rw[ah (by omega),af];exact Cf ps e v (List.range ps.length) (by simp;omega) (λj hj=>cZ.1 hj) z|false=>simp only[af,Bool.or_false];rw[filter_one (by omega)];exact Cf ps e v [0] (by simp) (by simp;omega) z
 have hkl:k<ps.length:=by simp at hk;omega
 simp only[ai,bne_iff_ne]at hq;have hb:Ox p=false:=by cases hb:Ox p with|false=>rfl|true=>rw[hbcase hb k hkl]at hq;cases hq.2
 have hh:rN ps p (ps.length-1)=k:=D5 (by omega) hq.2 _ (by omega) λj h2 h3 h4=>by rcases Nat.lt_trichotomy j k with g|g|g;have:=Mh hp h2 g hkl;have a:=aR.1 h4;have b:=aR.1 hq.2;rw[a,b]at this;simp at this;exact g;have:=Mh hp (show 1≤k by omega) g (show j<ps.length by omega);have a:=aR.1 h4;have b:=aR.1 hq.2;rw[a,b]at this;simp at this
 rw[hf,aj (by omega),ae,hh,hb];simp only[Bool.or_false];rw[filter_one hkl];exact Cf ps e v [k] (by simp) (by simp;omega) z
theorem tf {ps:List Port}{e:Int}{p:aC}:∀j∈my ps e p,j<ps.length:=λj hj=>cZ.1 (List.mem_filter.1 hj).1
theorem td (ps:List Port)(e:Int)(p:aC):(my ps e p).length≤ps.length:=aP (List.length_filter_le _ _) (by simp)
theorem yo (ms:List aS):kQ (dv ms).1:=⟨(wv ms).1,(wv ms).2⟩
theorem m7 {α:Type}(l:List α)(i:Nat)(hi:i<l.length):l.take i++[l[i]]=l.take (i+1):=(bB hi).symm
theorem tu {w:a8}{n:Nat}(z:bK n br w):∀m∈w.2.2.2.1,m.1.2.2.length≤n:=λm hm=>(z.2.2.2.1.2 m hm).1.2.2.1
theorem uf {w:a8}(z:bK 1000000000 br w):ER w:=⟨z.1.1,z.2.2.1.1,tu z,λs hs=>(z.1.2 s hs).1.2.2.1,λs hs=>(z.1.2 s hs).2.1.1.1,λs hs=>(z.1.2 s hs).2.1.2.1.1,λs hs=>(z.1.2 s hs).2.1.2.2.2.1⟩
theorem tp (w:a8)(z:bK 1000000000 br w):iW w=some w:=by have l1:w.1.length≤1000000000:=z.1.1;have l2:w.2.1.length≤1000000000:=z.2.1.1;unfold iW;simp only[nX _ z.2.2.1.1,wQ _ z.2.2.2.1.1 (tu z),qz _ z.2.2.2.2.1,ab];refine cu (λi=>((i:Int),w.1.take i,([]:List (List Bytes)),w.2.2.1,w.2.2.2.1,w.2.2.2.2)) w.1.length (by omega) (λi nx hi=>?_) (λnx=>?_);simp only[kX];rw[aj (by omega),a4 hi,wrap64 (by omega) (by omega)];simp only[ae,ab,xY _ (z.1.2 _ (aG hi))];rw[aM (by simp;omega),m7 _ i hi];rfl;simp only[kX];rw[ah (by omega),af,bG];refine cu (λi=>((i:Int),w.1,w.2.1.take i,w.2.2.1,w.2.2.2.1,w.2.2.2.2)) w.2.1.length (by omega) (λi nx hi=>?_) (λnx=>?_);simp only[kY];rw[aj (by omega),a4 hi,wrap64 (by omega) (by omega)];simp only[ae,ab,qz _ (z.2.1.2 _ (aG hi)).1];rw[aM (by simp;omega),m7 _ i hi];rfl;simp only[kY];rw[ah (by omega),af,bG]
theorem wY (w:a8)(z:bK 1000000000 br w):oY w=some w:=by have l1:w.1.length≤1000000000:=z.1.1;have l2:w.2.1.length≤1000000000:=z.2.1.1;have l3:w.2.2.2.1.length≤1000000000:=z.2.2.2.1.1;unfold oY;rw[fX z.2.2.1.1,fX z.2.2.2.2.1];simp only[a9];refine cu (λi=>((i:Int),w.1.take i,([]:List (List Bytes)),w.2.2.1,([]:List aS),w.2.2.2.2)) w.1.length (by omega) (λi nx hi=>?_) (λnx=>?_);simp only[nw];rw[aj (by omega),a4 hi,wrap64 (by omega) (by omega)];simp only[ae,ab,yz _ (z.1.2 _ (aG hi))];rw[aM (by simp;omega),m7 _ i hi];rfl;simp only[nw];rw[ah (by omega),af,bG];refine cu (λi=>((i:Int),w.1,w.2.1.take i,w.2.2.1,([]:List aS),w.2.2.2.2)) w.2.1.length (by omega) (λi nx hi=>?_) (λnx=>?_);simp only[ny];rw[aj (by omega),a4 hi,wrap64 (by omega) (by omega)];simp only[ae,ab];rw[fX (z.2.1.2 _ (aG hi)).1,a9,aM (by simp;omega),m7 _ i hi];rfl;simp only[ny];rw[ah (by omega),af,bG];refine cu (λi=>((i:Int),w.1,w.2.1,w.2.2.1,w.2.2.2.1.take i,w.2.2.2.2)) w.2.2.2.1.length (by omega) (λi nx hi=>?_) (λnx=>?_);simp only[mw];rw[aj (by omega),a4 hi,wrap64 (by omega) (by omega)];simp only[ae,ab,nk _ (tu z _ (aG hi))];rw[aM (by simp;omega),m7 _ i hi];rfl;simp only[mw];rw[ah (by omega),af,bG]
def tc (ps:List Port)(v:Int)(p:aC)(w:a8)(j:Nat):a8:=
 bif j==0 then(w.1,w.2.1,w.2.2.1,w.2.2.2.1,w.2.2.2.2++[(nV (uA ps (j:Int) v p)).1])
 else(w.1.set (j-1) (sq (w.1.getD (j-1) acN) (nV (uA ps (j:Int) v p)).1),w.2)
theorem MA (ps:List Port)(v:Int)(p:aC)(w:a8)(j:Nat):(tc ps v p w j).1.length=w.1.length:=by unfold tc;cases j==0 with|true=>rfl|false=>exact aO ..
theorem N8 {ps:List Port}{v:Int}{p:aC}{w:a8}{j n:Nat}(hj:j≤w.1.length)(hn:382≤n)(z:bK n br w):bK (n+322) br (tc ps v p w j):=by
 have z':bK (n+322) br w:=z.mono (by omega);have hfr:=wc (uA ps (j:Int) v p);unfold tc;cases hj0:j==0 with
 |true=>refine⟨z'.1,z'.2.1,z'.2.2.1,z'.2.2.2.1,?_,λx hx=>?_⟩;have:w.2.2.2.2.length≤n:=z.2.2.2.2.1;show(w.2.2.2.2++[_]).length≤_;simp only[ak,bz];omega;rcases aq.1 hx with h|h;exact z'.2.2.2.2.2 x h;rw[cL.1 h];show List.length _≤_;omega
 |false=>
  have:j≠0:=by simpa using hj0
  have hl:j-1<w.1.length:=by omega
  refine⟨⟨?_,λx hx=>?_⟩,z'.2⟩;show(w.1.set _ _).length≤_;rw[aO];exact z'.1.1;rcases List.mem_or_eq_of_mem_set hx with h|h;exact z'.1.2 x h;rw[h,bI hl];exact Gq (z.1.2 _ (aG hl))
def sv (ps:List Port)(v:Int)(p:aC)(w:a8)(l:List Nat):a8:=l.foldl (tc ps v p) w
theorem AJ (ps:List Port)(v:Int)(p:aC):∀(l:List Nat)(w:a8),(sv ps v p w l).1.length=w.1.length
 |[],w=>rfl
 |j::l,w=>by show(sv ps v p (tc ps v p w j) l).1.length=_;rw[AJ ps v p l,MA]
theorem wx {ps:List Port}{v:Int}{p:aC}:∀(l:List Nat){w:a8}{n:Nat},(∀j∈l,j≤w.1.length)→382≤n→bK n br w→bK (n+322*l.length) br (sv ps v p w l)
 |[],w,n,_,_,z=>z
 |j::l,w,n,hj,hn,z=>by have h1:=N8 (ps:=ps) (v:=v) (p:=p) (hj j (by simp)) hn z;have:=wx (ps:=ps) (v:=v) (p:=p) l (w:=tc ps v p w j) (λk hk=>by rw[MA];exact hj k (by simp[hk])) (by omega) h1;exact this.mono (by simp only[bD];omega)
theorem CJ (ps:List Port)(v:Int)(p:aC)(w:a8)(l:List Nat)(i:Nat)(hi:i<l.length):sv ps v p w (l.take (i+1))=tc ps v p (sv ps v p w (l.take i)) l[i]:=by rw[bB hi,sv,List.foldl_append];rfl
theorem Ch {R:Type}(K:a8→Option R)(ps:List Port)(v:Int)(p:aC)(w:a8)(l:List Nat)(hl:l.length≤8)(hj:∀j∈l,j≤w.1.length)(z:bK 90000000 br w)(zp:kQ ps): aW (fU (λ(_:Int) (y16:a8)=>K y16) ps v (eZ l) ((eZ l).length:Int) p (([]:List dV),([]:List (List Bytes)),([]:List al),([]:List aS),([]:List Bytes))) fuel (0,w)=K (sv ps v p w l):=by
 refine cu (λi=>((i:Int),sv ps v p w (l.take i))) l.length (by omega) (λi nx hi=>?_) (λnx=>?_);have hi2:i<(eZ l).length:=by simpa[eZ]using hi
 have e1:(eZ l)[i]'hi2=(l[i]:Int):=by simp[eZ]
 have hn:=AJ ps v p (l.take i) w;have hz:=(wx (ps:=ps) (v:=v) (p:=p) (l.take i) (λj h=>hj j (List.mem_of_mem_take h)) (by omega) z).mono (show 90000000+322*(l.take i).length≤100000000 by rw[bt];omega);have hji:=hj _ (aG hi);have hfr:=wc (uA ps (l[i]:Int) v p);rw[CJ ps v p w l i hi];generalize sv ps v p w (l.take i)=W at hn hz⊢;have hw:W.2.2.2.2.length≤100000000:=hz.2.2.2.2.1;have hw1:W.1.length≤100000000:=hz.1.1;simp only[fU];rw[aj (by simpa[eZ]using hi),a4 hi2,e1,wrap64 (n:=(i:Int)+1) (by omega) (by omega)];simp only[ae,ab,Nb ps _ v p zp,D8,tc];by_cases h0:l[i]=0;rw[show((l[i]:Int)==0)=true from by simp[h0],show(l[i]==0)=true from by simp[h0]];simp only[ae];rw[aM (by simp only[bz];omega)];rfl;rw[show((l[i]:Int)==0)=false from by simp[h0],show(l[i]==0)=false from by simp[h0]];have hk:l[i]-1<W.1.length:=by omega
 rw[wrap64 (n:=(l[i]:Int)-1) (by omega) (by omega),show(l[i]:Int)-1=((l[i]-1:Nat):Int) by omega];simp only[af,a4 hk,ab,Ia _ _ (hz.1.2 _ (aG hk)) (aP hfr (by omega)),ax,bI hk];rfl;simp only[fU];rw[ah (by simp[eZ]),af,bG]
theorem uK {R:Type}(K:a8→Option R)(ps:List Port)(v:Int)(p:aC)(w:a8)(l:List Nat)(hl:l.length≤8)(hj:∀j∈l,j≤w.1.length)(z:bK 90000000 br w)(zp:kQ ps): aW (ib (λ(_:Int) (y15:a8)=>K y15) ps (eZ l) v p) fuel (0,w)=K (sv ps v p w l):=by
 refine cu (λi=>((i:Int),sv ps v p w (l.take i))) l.length (by omega) (λi nx hi=>?_) (λnx=>?_);have hi2:i<(eZ l).length:=by simpa[eZ]using hi
 have e1:(eZ l)[i]'hi2=(l[i]:Int):=by simp[eZ]
 have hn:=AJ ps v p (l.take i) w;have hz:=(wx (ps:=ps) (v:=v) (p:=p) (l.take i) (λj h=>hj j (List.mem_of_mem_take h)) (by omega) z).mono (show 90000000+322*(l.take i).length≤100000000 by rw[bt];omega);have hji:=hj _ (aG hi);have hfr:=wc (uA ps (l[i]:Int) v p);rw[CJ ps v p w l i hi];generalize sv ps v p w (l.take i)=W at hn hz⊢;have hw:W.2.2.2.2.length≤100000000:=hz.2.2.2.2.1;have hw1:W.1.length≤100000000:=hz.1.1;simp only[ib];rw[aj (by simpa[eZ]using hi),a4 hi2,e1,wrap64 (n:=(i:Int)+1) (by omega) (by omega)];simp only[ae,ab,NY ps _ v p zp,Ez,tc];by_cases h0:l[i]=0;rw[show((l[i]:Int)==0)=true from by simp[h0],show(l[i]==0)=true from by simp[h0]];simp only[ae];rw[aM (by simp only[bz];omega)];rfl;rw[show((l[i]:Int)==0)=false from by simp[h0],show(l[i]==0)=false from by simp[h0]];have hk:l[i]-1<W.1.length:=by omega
 rw[wrap64 (n:=(l[i]:Int)-1) (by omega) (by omega),show(l[i]:Int)-1=((l[i]-1:Nat):Int) by omega];simp only[af,a4 hk,ab,Jd _ _ (hz.1.2 _ (aG hk)) (aP hfr (by omega)),ax,bI hk];rfl;simp only[ib];rw[ah (by simp[eZ]),af,bG]
def eu (w:a8)(e:Int)(p:aC):a8:=
 bif kJ w&&dN p then(bif decide (eK (dv w.2.2.2.1).1 e p<0) then w else sv (dv w.2.2.2.1).1 (eK (dv w.2.2.2.1).1 e p) p w (my (dv w.2.2.2.1).1 e p)) else w
theorem AH {w:a8}(h:kJ w=true):(dv w.2.2.2.1).1.length=w.1.length+1∧(dv w.2.2.2.1).1.length≤8:=by unfold kJ at h;simp only[ai]at h;have hl:=(Cp h.2.1).1;have h2:=h.1;unfold dv at h2⊢;cases hc:dB (w.2.2.2.1.length:Int) 1 3&&(w.2.2.2.1.all jA&&eA (s5 w.2.2.2.1))with|false=>rw[hc]at h2;cases h2|true=>simp only[ai]at hc;have:=(B8 w.2.2.2.1 0 ([0],[]) ⟨by simp,rfl,by simp⟩ hc.2.1).2.1;have h8:=hc.2.2;simp only[eA,ai,db]at h8;simp only[ae];refine⟨?_,by omega⟩;simp only[s5,bD];rw[this,hl];omega
theorem u4 (w:a8)(e:Int)(p:aC)(z:bK 90000000 br w):iU w e p=some (eu w e p):=by
 have z9:bK 1000000000 br w:=z.mono (by omega);unfold iU eu;simp only[tp w z9,D9 w (uf z9),ug,ab];cases hi:kJ w with|false=>rfl|true=>?_
 cases dN p with|false=>rfl|true=>?_
 have hn:=AH hi;have zp:=yo w.2.2.2.1;simp only[au,af,ab,bZ,ae,sJ _ (tu z9),xn _ e p zp,vw _ e p zp];generalize (dv w.2.2.2.1).1=ps at hn zp⊢;unfold th;cases decide (eK ps e p<0)with|true=>exact Ch (λw=>some w) ps (eK ps e p) p w [] (by simp) (by simp) z zp|false=>exact Ch (λw=>some w) ps (eK ps e p) p w (my ps e p) (by have:=td ps e p;omega) (λj hj=>by have:=tf j hj;omega) z zp
theorem Ar (w:a8)(e:Int)(p:aC)(z:bK 90000000 br w):me w e p=some (eu w e p):=by
 have z9:bK 1000000000 br w:=z.mono (by omega);unfold me jy eu;simp only[wY w z9,EA w (uf z9),uJ,ab];cases hi:kJ w with|false=>rfl|true=>?_
 cases dN p with|false=>rfl|true=>?_
 have hn:=AH hi;have zp:=yo w.2.2.2.1;simp only[au,af,ab,bZ,ae,qn _ (tu z9),uI _ e p zp,vI _ e p zp];generalize (dv w.2.2.2.1).1=ps at hn zp⊢;unfold th;cases decide (eK ps e p<0)with|true=>exact congrArg (λq=>aa q λr:Unit×a8=>some r.2) (uK (λw=>some ((),w)) ps (eK ps e p) p w [] (by simp) (by simp) z zp)|false=>exact congrArg (λq=>aa q λr:Unit×a8=>some r.2) (uK (λw=>some ((),w)) ps (eK ps e p) p w (my ps e p) (by have:=td ps e p;omega) (λj hj=>by have:=tf j hj;omega) z zp)
theorem D2 {s:Bytes}{a:Nat}:cz s (a:Int)=bif decide (a+2≤s.length) then((bO s a*256+bO s (a+1):Nat):Int) else-1:=by unfold cz dx;rw[ax,show decide ((0:Int)≤a∧(a:Int)+2≤(s.length:Int))=decide (a+2≤s.length) from decide_eq_decide.2 (by omega)]
theorem HU {s t:Bytes}{a:Nat}(hl:s.length=t.length)(h0:bO s a=bO t a)(h1:bO s (a+1)=bO t (a+1)):cz s (a:Int)=cz t (a:Int):=by rw[D2,D2,hl,h0,h1]
def qI (s:Bytes):Nat:=bif cz s 12==33024 then 18 else 14
def Cm (s:Bytes):Nat:=bO s (qI s+9)
def Sr (k:Nat):Nat:=bif (k:Int)==6 then 16 else 6
def Lc (s:Bytes):Nat:=qI s+10
def DG (s:Bytes):Nat:=qI s+20+Sr (Cm s)
theorem Ss (k:Nat):Sr k=16∧k=6∨Sr k=6∧k≠6:=by unfold Sr;by_cases h:k=6;subst h;exact .inl ⟨rfl,rfl⟩;exact .inr ⟨by rw[show((k:Int)==6)=false from by rw[cU];omega];rfl,h⟩
theorem Oz (s:Bytes):qI s=18∧(cz s 12==33024)=true∨qI s=14∧(cz s 12==33024)=false:=by unfold qI;cases cz s 12==33024 with|true=>exact .inl ⟨rfl,rfl⟩|false=>exact .inr ⟨rfl,rfl⟩
def DL (s t:Bytes):Prop:=s.length=t.length∧∀i,i<Lc t∨(Lc t+2≤i∧i<DG t)∨DG t+2≤i→bO s i=bO t i
theorem IQ (t:Bytes):(qI t=14∨qI t=18)∧Lc t=qI t+10∧qI t+26≤DG t∧DG t≤qI t+36∧(DG t=qI t+36∧Cm t=6∨DG t=qI t+26∧Cm t≠6):=by have h1:=Oz t;have h2:=Ss (Cm t);unfold Lc DG;omega
theorem DL.body {s t:Bytes}(h:DL s t):qI s=qI t:=by have:=IQ t;unfold qI;have e:cz s ((12:Nat):Int)=cz t ((12:Nat):Int):=HU h.1 (h.2 _ (by omega)) (h.2 _ (by omega));rw[show(12:Int)=((12:Nat):Int) from rfl,e]
theorem DL.kind {s t:Bytes}(h:DL s t):Cm s=Cm t:=by have:=IQ t;unfold Cm;rw[h.body,h.2 _ (by omega)]
theorem DL.ahY {s t:Bytes}(h:DL s t):Lc s=Lc t∧DG s=DG t:=by unfold Lc DG;rw[h.body,h.kind];exact⟨rfl,rfl⟩
theorem AB {α:Type}{l:List α}{k:Nat}(h:k<l.length)(x:α):idx (l.set k x) (k:Int)=some x:=by rw[wg,List.getElem?_set_self h]
theorem Mt {α:Type}(l:List α)(k:Nat)(x:α):(l.set k x).length=l.length:=aO ..
def ld (f:Filter)(v:Int):Filter×Bool:=bif c6 f&&(!hasB f.2.2 v&&c6 (f.1,f.2.1,ins v f.2.2)) then((f.1,f.2.1,ins v f.2.2),true) else(f,false)
theorem H3 (f:Filter)(v:Int)(h:f.2.2.length≤100000000):qS f v=some (ld f v):=by have hi:=AD v f.2.2;simp only[qS,iO f (by omega),ll f (by omega),qP f.2.2 v (by omega),FZ f.2.2 v (by omega),ll (f.1,f.2.1,ins v f.2.2) (show(ins v f.2.2).length≤1000000000 by omega),ab,ld];cases c6 f<;>cases hasB f.2.2 v<;>cases c6 (f.1,f.2.1,ins v f.2.2)<;>rfl
theorem TW {l:List Int}(h:(List.range l.length).all (w8 l)=true):∀(k j:Nat),j<k→k<l.length→l.getD j 0<l.getD k 0:=by
 rw[a6]at h;intro k;induction k with
 |zero=>intro j hj;omega
 |succ k ih=>
  intro j hj hk;have h1:=h (k+1) (cZ.2 hk);simp only[w8,ai,aI,Bool.and_eq_false_iff,cE]at h1;have h2:¬l.getD (k+1) 0≤l.getD (k+1-1) 0:=by rcases h1.2 with h2|h2;omega;exact h2
  rw[Nat.add_sub_cancel]at h2;rcases bc j k with h3|h3;have:=ih j h3 (by omega);omega;have:j=k:=by omega
  subst this;omega
theorem RA (f:Filter)(v:Int)(hf:c6 f=true)(hv:hasB f.2.2 v=true)(q:Bool):c6 (f.1,q,f.2.2.take (f.2.2.findIdx (λx=> !decide (x<v)))++[v]++f.2.2.drop (f.2.2.findIdx (λx=> !decide (x<v))))=false:=by
 have hasc:=TW (l:=f.2.2) (by simp only[c6,ai]at hf;exact hf.1);generalize f.2.2=l at*;obtain⟨k,hk,hkv⟩:=List.mem_iff_getElem.1 (xX.1 hv);have hex:∃x∈l,(λx=> !decide (x<v)) x=true:=⟨l[k],aG hk,by simp[hkv]⟩
 have hj:=List.findIdx_lt_length_of_exists hex;have hge:=List.findIdx_getElem (w:=hj);have hmin:l.findIdx (λx=> !decide (x<v))≤k:=by rcases bc k (l.findIdx (λx=> !decide (x<v)))with h|h;have:=List.not_of_lt_findIdx h;simp[hkv]at this;exact h
 generalize l.findIdx (λx=> !decide (x<v))=j at*;have hle:l[j]≤v:=by
  rcases bc j k with h|h;have:=hasc k j h hk;rw[bI hk,bI hj,hkv]at this;omega;have:j=k:=by omega
  subst this;rw[hkv];omega
 rw[Bool.eq_false_iff];intro hb;simp only[c6,ai,a6]at hb;have hlen:(l.take j++[v]++l.drop j).length=l.length+1:=by simp;omega
 have h1:=hb.1 (j+1) (cZ.2 (by rw[hlen];omega));have hl1:(l.take j++[v]).length=j+1:=by simp;omega
 have e1:(l.take j++[v]++l.drop j).getD (j+1) 0=l[j]:=by rw[List.getD_eq_getElem?_getD,List.getElem?_append_right (by omega),hl1,dp,List.getElem?_drop,cA,List.getElem?_eq_getElem hj];rfl
 have e2:(l.take j++[v]++l.drop j).getD j 0=v:=by
  have ht:(l.take j).length=j:=by simp;omega
  rw[List.getD_eq_getElem?_getD,List.getElem?_append_left (by omega),List.getElem?_append_right (by omega),ht,dp];rfl
 simp only[w8,ai,aI,Bool.and_eq_false_iff,cE,Nat.add_sub_cancel,e1,e2]at h1;rcases h1.2 with h2|h2;omega;exact h2 hle
theorem I4 (f:Filter)(v:Int)(h:f.2.2.length≤100000000):rf f v=some (ld f v):=by
 unfold rf;rw[jn f (by omega),ab]
 let K:Int→Option (Filter×Bool):=λy4=>aa (sub f.2.2 0 y4) λx5=>
     room (List.length ([]:List Int)+List.length x5) (
     room (List.length (([]:List Int)++x5)+List.length ([v])) (
     aa (sub f.2.2 y4 ((List.length f.2.2:Int))) λx6=>
     room (List.length ((([]:List Int)++x5)++([v]))+List.length x6) (
     aa (
      aa (dD f) λr7=>
      cond (!r7) (
       some true) (
       aa (dD (f.1,f.2.1,((([]:List Int)++x5)++([v]))++x6)) λr8=>
       some (!r8))) λq9=>
     cond q9 (
      aa (some f) λr10=>
      some (r10,false)) (
      some ((f.1,f.2.1,((([]:List Int)++x5)++([v]))++x6),true)))))
 show aW (kk K v f (0,false,([]:List Int)) f) fuel 0=_;rw[vZ (hit:=K) (fin:=K (f.2.2.length:Int)) (λx=> !decide (x<v)) f.2.2 (by omega) (λi hi nx=>?hs) (λnx=>?hf)]
 case hs=>
  simp only[kk]
  rw[aj (by omega),a4 hi,wrap64 (n:=(i:Int)+1) (by omega) (by omega)]
  simp only[ae,ab]
  cases decide (f.2.2[i]<v)<;>rfl
 case hf=>
  simp only[kk]
  rw[ah (by omega)];rfl
 refine Eq.trans (HN (λx=> !decide (x<v)) K f.2.2) ?_;have hle:f.2.2.findIdx (λx=> !decide (x<v))≤f.2.2.length:=List.findIdx_le_length;have e:=Kl v f.2.2;have d:=RA f v;have hi:=AD v f.2.2;show K _=_;generalize f.2.2.findIdx (λx=> !decide (x<v))=j at*;simp only[K];rw[CX _ j hle,Jl _ j hle];simp only[ab,a9];rw[aM (by simp;omega),aM (by simp;omega),aM (by simp;omega),lE f (by omega),lE _ (show(f.2.2.take j++[v]++f.2.2.drop j).length≤1000000000 by simp;omega)];simp only[ab,ld];cases hf:c6 f with|false=>rfl|true=>cases hh:hasB f.2.2 v with|true=>rw[d hf hh];rfl|false=>rw[e (λhm=>by rw[xX.2 hm]at hh;cases hh)];cases c6 (f.1,f.2.1,ins v f.2.2)<;>rfl
theorem EU (f:Filter)(v:Int){n:Nat}(h:f.2.2.length≤n)(hn:8≤n):(ld f v).1.2.2.length≤n:=by unfold ld;cases hc:c6 f&&(!hasB f.2.2 v&&c6 (f.1,f.2.1,ins v f.2.2))with|false=>exact h|true=>simp only[ai]at hc;have:=hc.2.2;simp only[c6,ai,aX]at this;show(ins v f.2.2).length≤n;omega
def iM (f:Filter)(v:Int):Filter×Bool:=bif c6 f&&hasB f.2.2 v then((f.1,f.2.1,f.2.2.filter (λx=>x !=v)),true) else(f,false)
theorem zQ (p:Int→Bool)(l:List Int)(i:Nat)(hi:i<l.length):(l.take (i+1)).filter p=bif p l[i] then(l.take i).filter p++[l[i]] else(l.take i).filter p:=by rw[bB hi,List.filter_append];cases hp:p l[i]<;>simp[hp]
theorem uZ (p:Int→Bool)(l:List Int)(i:Nat):((l.take i).filter p).length≤l.length:=aP (List.length_filter_le _ _) (by simp;omega)
theorem F1 (f:Filter)(v:Int)(h:f.2.2.length≤1000000000):px f v=some (iM f v):=by
 simp only[px,iO f h,ll f h,qP f.2.2 v h,ab,iM];cases c6 f with|false=>rfl|true=>?_
 cases hasB f.2.2 v with|false=>rfl|true=>?_
 simp only[au,af,ab,bZ,ae];refine(cu (λi=>((i:Int),f.1,f.2.1,(f.2.2.take i).filter (λx=>x !=v))) f.2.2.length (by omega) (λi nx hi=>?_) (λnx=>?_));have hl:=uZ (λx=>x !=v) f.2.2 i;simp only[lL];rw[aj (by omega),a4 hi,wrap64 (by omega) (by omega),zQ _ _ i hi];simp only[ae,ab];rw[aM (by simp only[bz];omega)];cases f.2.2[i] !=v<;>rfl;simp only[lL];rw[ah (by omega),bG];rfl
theorem GA (f:Filter)(v:Int)(h:f.2.2.length≤1000000000):pS f v=some (iM f v):=by
 simp only[pS,jn f h,lE f h,s9 f.2.2 v h,ab,iM];cases c6 f with|false=>rfl|true=>?_
 cases hasB f.2.2 v with|false=>rfl|true=>?_
 simp only[au,af,ab,bZ,ae];refine(cu (λi=>((i:Int),f.1,f.2.1,(f.2.2.take i).filter (λx=>x !=v))) f.2.2.length (by omega) (λi nx hi=>?_) (λnx=>?_));have hl:=uZ (λx=>x !=v) f.2.2 i;simp only[mc];rw[aj (by omega),a4 hi,wrap64 (by omega) (by omega),zQ _ _ i hi];simp only[ae,ab];rw[aM (by simp only[bz];omega)];cases f.2.2[i] !=v<;>rfl;simp only[mc];rw[ah (by omega),bG];rfl
def nS (f:Filter)(m:Int×Int×Int):Filter×Int:=
 bif m.2.1==1 then(bif c6 (m.2.2,f.2) then((m.2.2,f.2),1) else(f,0))
 else bif m.2.1==2 then(bif (ld f m.2.2).2 then((ld f m.2.2).1,1) else(f,0))
 else bif m.2.1==3 then(bif (iM f m.2.2).2 then((iM f m.2.2).1,1) else(f,0))
 else bif m.2.1==4 then(f,f.1) else(f,0)
theorem H4 (f:Filter)(m:Int×Int×Int)(h:f.2.2.length≤100000000):qX f m=some (nS f m):=by simp only[qX,iO f (by omega),ll (m.2.2,f.2) (show f.2.2.length≤1000000000 by omega),H3 f _ h,F1 f _ (show f.2.2.length≤1000000000 by omega),ab,nS];cases m.2.1==1<;>cases m.2.1==2<;>cases m.2.1==3<;>cases m.2.1==4<;>cases c6 (m.2.2,f.2)<;>cases (ld f m.2.2).2<;>cases (iM f m.2.2).2<;>rfl
theorem I5 (f:Filter)(m:Int×Int×Int)(h:f.2.2.length≤100000000):nu f m=some (nS f m):=by simp only[nu,jn f (by omega),lE (m.2.2,f.2) (show f.2.2.length≤1000000000 by omega),I4 f _ h,GA f _ (show f.2.2.length≤1000000000 by omega),ab,nS];cases m.2.1==1<;>cases m.2.1==2<;>cases m.2.1==3<;>cases m.2.1==4<;>cases c6 (m.2.2,f.2)<;>cases (ld f m.2.2).2<;>cases (iM f m.2.2).2<;>rfl
theorem E2 (f:Filter)(m:Int×Int×Int){n:Nat}(h:f.2.2.length≤n)(hn:8≤n):(nS f m).1.2.2.length≤n:=by
 have ha:=EU f m.2.2 h hn;have hd:(iM f m.2.2).1.2.2.length≤n:=by unfold iM;cases c6 f&&hasB f.2.2 m.2.2 with|false=>exact h|true=>exact aP (List.length_filter_le _ _) h
 unfold nS;cases m.2.1==1<;>cases m.2.1==2<;>cases m.2.1==3<;>cases m.2.1==4<;>cases c6 (m.2.2,f.2)<;>cases (ld f m.2.2).2<;>cases (iM f m.2.2).2<;>first|exact h|exact ha|exact hd
def jF (b:aS)(m:Int×Int×Int):aS×Int:=
 bif jA b then(bif m.1==b.2.1 then(b,b.2.2.1) else bif m.1==b.2.1+1 then(((nS b.1 m).1,m.1,(nS b.1 m).2,b.2.2.2+1),(nS b.1 m).2) else(b, -1)) else(b, -1)
theorem Is {b:aS}(h:jA b=true):0≤b.2.1∧b.2.1≤1000000000000∧0≤b.2.2.2∧b.2.2.2≤1000000000000:=by simp only[jA,ai,db]at h;omega
theorem Kd (b:aS)(m:Int×Int×Int)(h:b.1.2.2.length≤100000000):jI b m=some (jF b m):=by simp only[jI,qy b (by omega),H8 b (by omega),H4 b.1 m h,ab,jF,bne];cases hm:jA b with|false=>rfl|true=>have hin:=Is hm;rw[wrap64 (n:=b.2.1+1) (by omega) (by omega),wrap64 (n:=b.2.2.2+1) (by omega) (by omega)];cases m.1==b.2.1<;>cases m.1==b.2.1+1<;>rfl
theorem K1 (b:aS)(m:Int×Int×Int)(h:b.1.2.2.length≤100000000)(hm1:m.1≤9223372036854775807):jT b m=some (jF b m):=by
 simp only[jT,nk b (by omega),Jb b (by omega),I5 b.1 m h,ab,jF,bne];cases hm:jA b with
 |false=>rfl
 |true=>
  have hin:=Is hm;rw[wrap64 (n:=b.2.2.2+1) (by omega) (by omega)];by_cases h1:m.1=b.2.1;rw[aR.2 h1];rfl;have e1:(m.1==b.2.1)=false:=cU.2 h1;rw[e1];by_cases h2:m.1≤b.2.1;have e2:(m.1==b.2.1+1)=false:=cU.2 (by omega);rw[e2,aj h2];rfl;rw[ah h2,wrap64 (n:=m.1-1) (by omega) (by omega)];have e3:(m.1-1==b.2.1)=(m.1==b.2.1+1):=by rw[bH,aR,aR];omega
  rw[e3];cases m.1==b.2.1+1<;>rfl
def nR (ms:List aS)(k:Nat)(m:Int×Int×Int):List aS×Int:=
 match ms[k]? with
 |none=>(ms, -1)
 |some b=>bif (dv (ms.set k (jF b m).1)).2 then(ms.set k (jF b m).1,(jF b m).2)
  else(ms.set k (b.1,m.1,0,aw (b.2.2.2+1)),0)
theorem vt (b:aS)(m:Int×Int×Int){n:Nat}(h:b.1.2.2.length≤n)(hn:8≤n):(jF b m).1.1.2.2.length≤n:=by have:=E2 b.1 m h hn;unfold jF;cases jA b<;>cases m.1==b.2.1<;>cases m.1==b.2.1+1<;>first|exact h|exact this
theorem uB {α:Type}{l:List α}{k:Nat}{x y:α}(h:y∈l.set k x):y∈l∨y=x:=List.mem_or_eq_of_mem_set h
theorem za (ms:List aS)(k:Nat)(m:Int×Int×Int)(hk:k<ms.length)(hl:ms.length≤1000000000)(h:∀b∈ms,b.1.2.2.length≤100000000):kV ms (k:Int) m=some (nR ms k m):=by
 have hb:=h _ (aG hk);have hp:∀b∈ms.set k (jF ms[k] m).1,b.1.2.2.length≤1000000000:=by intro b hb';rcases uB hb' with h1|rfl;have:=h b h1;omega;have:=vt ms[k] m hb (by omega);omega
 unfold kV nR;simp only[wQ ms hl (λb hb=>by have:=h b hb;omega),a4 hk,Kd _ m hb,ab,List.getElem?_eq_getElem hk,ax,sJ _ hp,qy ms[k] (by omega)];have hs:∀x:aS,k<(ms.set k x).length:=λx=>by rw[Mt];exact hk
 simp only[AB hk,ab,c5];cases (dv (ms.set k (jF ms[k] m).1)).2<;>rfl
theorem zD (ms:List aS)(k:Nat)(m:Int×Int×Int)(hk:k<ms.length)(hl:ms.length≤1000000000)(h:∀b∈ms,b.1.2.2.length≤100000000)(hm1:m.1≤9223372036854775807):nv ms (k:Int) m=some (nR ms k m):=by
 have hb:=h _ (aG hk);have hp:∀b∈ms.set k (jF ms[k] m).1,b.1.2.2.length≤1000000000:=by intro b hb';rcases uB hb' with h1|rfl;have:=h b h1;omega;have:=vt ms[k] m hb (by omega);omega
 unfold nv nR;refine(cu (λi=>(ms.take i,(i:Int))) ms.length (by omega) (λi nx hi=>?_) (λnx=>?_));simp only[jZ];rw[aj (by omega),a4 hi,wrap64 (by omega) (by omega)];have:=h _ (aG hi);simp only[ae,ab,nk ms[i] (by omega)];rw[aM (by simp;omega),←bB hi];rfl;simp only[jZ];rw[ah (by omega),bG];simp only[af,a4 hk,K1 _ m hb hm1,ab,List.getElem?_eq_getElem hk,ax,qn _ hp,nk ms[k] (show ms[k].1.2.2.length≤1000000000 by omega)];simp only[AB hk,ab,c5];cases (dv (ms.set k (jF ms[k] m).1)).2<;>rfl
theorem pq (ms:List aS)(k:Nat)(m:Int×Int×Int):(nR ms k m).1.length=ms.length:=by unfold nR;split;rfl;rename_i b _;cases (dv (ms.set k (jF b m).1)).2<;>exact Mt ..
theorem xc (ms:List aS)(k:Nat)(m:Int×Int×Int){n:Nat}(hn:8≤n)(h:∀b∈ms,b.1.2.2.length≤n):∀b∈(nR ms k m).1,b.1.2.2.length≤n:=by
 intro b hb;unfold nR at hb;split at hb;exact h b hb;rename_i b0 hb0;have h0:=h b0 (List.mem_of_getElem? hb0);cases hp:(dv (ms.set k (jF b0 m).1)).2 with
 |true=>rw[hp]at hb;rcases uB hb with h1|rfl;exact h b h1;exact vt b0 m h0 hn
 |false=>rw[hp]at hb;rcases uB hb with h1|rfl;exact h b h1;exact h0
theorem Gp {x:Bytes}(h:((dT x).2==0)=true):dN (dT x).1=true:=by
 unfold dT at h⊢;simp only at h⊢;cases h1:(ie x).2 with|false=>rw[h1]at h;cases h|true=>?_
 rw[h1]at h;simp only[au,af]at h⊢;cases h2:(tS (ie x).1).2 !=0 with|true=>rw[h2]at h;simp only[bne,ae]at h h2;rw[h]at h2;cases h2|false=>rw[h2]at h;simp only[af]at h⊢;cases h3:dN (tS (ie x).1).1 with|false=>rw[h3]at h;cases h|true=>exact h3
def vK (b:Int×Int×Int)(n:Int):(Int×Int×Int)×Bool:=bif m8 b&&dB n 0 b.2.2 then((b.1,b.2.1,aw (b.2.2-n)),true) else(b,false)
theorem N3 (b:Int×Int×Int)(n:Int):mj b n=some (vK b n):=by unfold mj vK;simp only[uH,ab,cS];cases m8 b<;>cases dB n 0 b.2.2<;>rfl
theorem Nh (b:Int×Int×Int)(n:Int):lR b n=some (vK b n):=by unfold lR vK;simp only[xm,ab,dH];cases m8 b<;>cases dB n 0 b.2.2<;>rfl
def BV (f:al):al:=(f.1,f.2.1,f.2.2.1,f.2.2.2.1,f.2.2.2.2.1,aw (f.2.2.2.2.2+1))
def PQ (f:al)(b:Int×Int×Int):al:=(f.1,f.2.1,b,f.2.2.2.1,aw (f.2.2.2.2.1+1),f.2.2.2.2.2)
def R8 (ps:List Port)(f:al)(p:aC):Bool:=f.2.2.2.1&&(!decide (eK ps f.2.1 p<0)&&(vK f.2.2.1 ((nB p).1.length:Int)).2)
def qK (l:List al)(ps:List Port)(a:Int)(p:aC):List al×List Int×Bool:=
 bif eL l ps&&(dN p&&(!decide (a<0)&& !decide (a≥(l.length:Int)))) then
  match l[a.toNat]? with
  |some f=>bif R8 ps f p then(l.set a.toNat (PQ f (vK f.2.2.1 ((nB p).1.length:Int)).1),th ps f.2.1 p,true) else(l.set a.toNat (BV f),[],false)
  |none=>(l,[],false)
 else(l,[],false)
theorem N2 (l:List al)(ps:List Port)(a:Int)(p:aC)(h:l.length≤1000000000)(z:kQ ps):p4 l ps a p=some (qK l ps a p):=by
 unfold p4 qK;rw[aM (by simp only[dh];omega)];simp only[a9,wZ l ps h z.1 z.2,uJ,ab];cases eL l ps with|false=>rfl|true=>?_
 cases dN p with|false=>rfl|true=>?_
 by_cases h0:a<0;rw[aj h0];rfl;by_cases h1:a≥(l.length:Int);rw[ah h0,aj h1];rfl;obtain⟨a,rfl⟩:=aY (by omega:0≤a);have ha:a<l.length:=by omega
 rw[ah h0,ah h1];simp only[ax,List.getElem?_eq_getElem ha,a4 ha,ab,au,bp,af,ae,bZ,EB,N3,uI _ _ p z,vI _ _ p z,R8];generalize l[a]=f;cases h3:f.2.2.2.1 with|false=>simp only[bp,ae,af,cy,ab,BV,h3]|true=>simp only[au,af,bm,AB ha,ab,c5];cases decide (eK ps f.2.1 p<0)with|true=>simp only[au,ae,cy,af,ab,BV,h3]|false=>simp only[bp,af,bm,ab];cases (vK f.2.2.1 ((nB p).1.length:Int)).2 with|false=>simp only[bp,ae,af,BV,h3]|true=>simp only[au,ae,af,PQ,h3]
theorem Ng (l:List al)(ps:List Port)(a:Int)(p:aC)(h:l.length≤1000000000)(z:kQ ps):pF l ps a p=some (qK l ps a p):=by
 unfold pF qK;rw[nX l h,ab,wrap64 (n:=(l.length:Int)-1) (by omega) (by omega)];simp only[wR l ps h z.1 z.2,ug,ab,dH];cases eL l ps with|false=>rfl|true=>?_
 cases dN p with|false=>rfl|true=>?_
 rw[show dB a 0 ((l.length:Int)-1)=(!decide (a<0)&& !decide (a≥(l.length:Int))) from by rw[bH,db];simp;omega];by_cases h0:a<0;rw[aj h0];rfl;by_cases h1:a≥(l.length:Int);rw[ah h0,aj h1];rfl;obtain⟨a,rfl⟩:=aY (by omega:0≤a);have ha:a<l.length:=by omega
 rw[ah h0,ah h1];simp only[ax,List.getElem?_eq_getElem ha,a4 ha,ab,au,bp,af,ae,bZ,Ea,Nh,xn _ _ p z,vw _ _ p z,R8];generalize l[a]=f;cases h3:f.2.2.2.1 with|false=>simp only[bp,ae,af,cy,ab,BV,h3]|true=>simp only[au,af,bm,AB ha,ab,c5];cases decide (eK ps f.2.1 p<0)with|true=>simp only[au,ae,cy,af,ab,BV,h3]|false=>simp only[bp,af,bm,ab,vw _ _ p z];cases (vK f.2.2.1 ((nB p).1.length:Int)).2 with|false=>simp only[bp,ae,af,BV,h3]|true=>simp only[au,ae,af,PQ,h3]
theorem zB (l:List al)(ps:List Port)(a:Int)(p:aC):(qK l ps a p).1.length=l.length:=by
 unfold qK;cases eL l ps&&(dN p&&(!decide (a<0)&& !decide (a≥(l.length:Int))))with|false=>rfl|true=>?_
 simp only[ae];cases l[a.toNat]? with|none=>rfl|some f=>cases h:R8 ps f p<;>simp only[h,ae,af,aO]
theorem PO {l:List al}{ps:List Port}{a:Int}{p:aC}(h:dN p=false):qK l ps a p=(l,[],false):=by unfold qK;rw[h,cy,eI,af]
theorem KR:dN Rp=false:=by decide
theorem PJ {x:Bytes}(h:((dT x).2==0)=false):dN (dT x).1=false:=by
 unfold dT at h⊢;simp only at h⊢;cases h1:(ie x).2 with|false=>exact KR|true=>?_
 rw[h1]at h;simp only[au,af]at h⊢;cases h2:(tS (ie x).1).2 !=0 with|true=>exact KR|false=>?_
 rw[h2]at h;simp only[af]at h⊢;cases h3:dN (tS (ie x).1).1 with|false=>exact KR|true=>rw[h3]at h;cases h
theorem JD (a:Act):∃b,pg a=some b:=by simp only[pg,aQ,bk,ab];exact⟨_,rfl⟩
def MN (a:Act):Bool:=(pg a).getD false
theorem Mv (a:Act):pg a=some (MN a):=by obtain⟨b,hb⟩:=JD a;simp[MN,hb]
theorem RN (a:Act):xp a=some (MN a):=Mv a
theorem wU {R:Type}(K:Int→Bytes→Option R):∀(n:Nat)(v:Int)(s:Bytes)(m:Nat),0≤v→v≤1000000000000000→v<10^n→s.length+n≤1000→n<m→∃s':Bytes,s'.length≤1000∧∃v',aW (l6 K) m (v,s)=K v' s'
 |0,v,s,m,h0,_,h1,hs,hm=>by
  have hv:v=0:=by simp at h1;omega
  subst hv;cases m with|zero=>omega|succ m=>exact⟨s,by omega,0,by rw[aW];rfl⟩
 |n+1,v,s,m,h0,hb,h1,hs,hm=>by cases m with|zero=>omega|succ m=>rw[aW];simp only[l6];by_cases hv:v>0;have hq:Int.tdiv v 10=v/10:=Int.tdiv_eq_ediv_of_nonneg h0;rw[aj hv];simp only[ae];rw[ar (by omega),aM (by simp[bytesOf];omega),ar (by omega),hq,wrap64 (n:=v/10) (by omega) (by omega)];exact wU K n (v/10) _ m (by omega) (by omega) (by rw[Int.pow_succ]at h1;omega) (by simp[bytesOf];omega) (by omega);rw[ah hv];exact⟨s,by omega,v,rfl⟩
theorem Dp (k:Int)(h1:1≤k)(h2:k≤1000000000000000):∃s,cc k=some s:=by have hfu:=fg;unfold cc;rw[ah (by omega)];simp only[af];obtain⟨s,hs,v,h⟩:=wU (λ(_:Int) (y2:Bytes)=>room (List.length ([109]:Bytes)+List.length y2) (some (([109]:Bytes)++y2))) 16 k [] fuel (by omega) h2 (by omega) (by simp) (by omega);rw[h,aM (by simp;omega)];exact⟨_,rfl⟩
def SF (k:Int):Bytes:=(cc k).getD []
theorem kO (k:Int)(h1:1≤k)(h2:k≤1000000000000000):cc k=some (SF k):=by obtain⟨s,hs⟩:=Dp k h1 h2;rw[SF,hs];rfl
def mA:(t:CT)→t.D→Nat
 | .int _,_=>1
 | .bool,_=>1
 | .str,_=>1
 | .sl e,xs=>(xs.map (mA e)).sum
 | .pair a b,x=>mA a x.1+mA b x.2
def WB {α:Type}(f:α→Int→α)(c:α→Nat):List α→Int→List α
 |[],_=>[]
 |x::xs,k=>f x k::WB f c xs (k+c x)
def mk:(t:CT)→t.D→Int→t.D
 | .int _,_,k=>k
 | .bool,_,k=>Int.tmod k 3==0
 | .str,_,k=>SF k
 | .sl e,xs,k=>WB (mk e) (mA e) xs k
 | .pair a b,x,k=>(mk a x.1 k,mk b x.2 (k+mA a x.1))
def jE:(t:CT)→t.D→Nat
 | .int _,_=>0
 | .bool,_=>0
 | .str,_=>0
 | .sl e,xs=>mA (.sl e) xs
 | .pair a b,x=>jE a x.1+jE b x.2
def Ix:(t:CT)→t.D→Int→t.D
 | .int _,x,_=>x
 | .bool,x,_=>x
 | .str,x,_=>x
 | .sl e,xs,k=>mk (.sl e) xs k
 | .pair a b,x,k=>(Ix a x.1 k,Ix b x.2 (k+jE a x.1))
theorem zl {k:IntKind}(x k':Int):mk (.int k) x k'=k':=rfl
theorem wu (x:Bool)(k:Int):mk .bool x k=(Int.tmod k 3==0):=rfl
theorem zm (x:Bytes)(k:Int):mk .str x k=SF k:=rfl
theorem sY {a b:CT}(x:a.D×b.D)(k:Int):mk (.pair a b) x k=(mk a x.1 k,mk b x.2 (k+mA a x.1)):=rfl
theorem gU {k:IntKind}(x:Int):mA (.int k) x=1:=rfl
theorem fy (x:Bool):mA .bool x=1:=rfl
theorem gV (x:Bytes):mA .str x=1:=rfl
theorem fz {a b:CT}(x:a.D×b.D):mA (.pair a b) x=mA a x.1+mA b x.2:=rfl
theorem Mj {k:IntKind}(x k':Int):Ix (.int k) x k'=x:=rfl
theorem Iy (x:Bool)(k:Int):Ix .bool x k=x:=rfl
theorem Mk (x:Bytes)(k:Int):Ix .str x k=x:=rfl
theorem Iz {a b:CT}(x:a.D×b.D)(k:Int):Ix (.pair a b) x k=(Ix a x.1 k,Ix b x.2 (k+jE a x.1)):=rfl
theorem Ha {k:IntKind}(x:Int):jE (.int k) x=0:=rfl
theorem DS (x:Bool):jE .bool x=0:=rfl
theorem Hb (x:Bytes):jE .str x=0:=rfl
theorem DT {a b:CT}(x:a.D×b.D):jE (.pair a b) x=jE a x.1+jE b x.2:=rfl
theorem W7:¬(3:Int)=0:=by omega
theorem vV {n:Int}(h:¬n<0):decide (n<0)=false:=ah h
theorem jG {α:Type}{l:List α}{i:Nat}(x:α)(h:i<l.length):idx (l.set i x) (i:Int)=some x:=by rw[wg,List.getElem?_set_self h]
theorem Ej {e:CT}{T:((List e.D×Int×Int×List e.D)→Option (Int×List e.D))→(List e.D×Int×Int×List e.D)→Option (Int×List e.D)}
 (hs:∀(l:List e.D)(i:Nat)(hi:i<l.length)(k:Int) nx,1≤k→k+mA e l[i]≤1000000000000000→l.length≤1000000000000→bK 1000000000000 e l[i]→
  T nx (l,k,(i:Int),l)=nx (l.set i (mk e l[i] k),k+mA e l[i],(i:Int)+1,l.set i (mk e l[i] k)))
 (hf:∀(l:List e.D)(k:Int) nx,T nx (l,k,(l.length:Int),l)=some (k,l)):
 ∀(xs pre:List e.D)(k:Int)(n:Nat),1≤k→k+mA (.sl e) xs≤1000000000000000→pre.length+xs.length≤1000000000000→(∀x∈xs,bK 1000000000000 e x)→xs.length<n→
  aW T n (pre++xs,k,(pre.length:Int),pre++xs)=some (k+mA (.sl e) xs,pre++mk (.sl e) xs k)
 |[],pre,k,n,_,_,_,_,hn=>by cases n with|zero=>omega|succ n=>rw[aW,a7,hf];simp[mA,mk,WB]
 |x::xs,pre,k,n,h1,h2,h3,h4,hn=>by
  cases n with
  |zero=>omega
  |succ n=>
   have hc:mA (.sl e) (x::xs)=mA e x+mA (.sl e) xs:=by simp[mA]
   have hi:pre.length<(pre++x::xs).length:=by simp
   have hx:(pre++x::xs)[pre.length]=x:=by simp
   simp only[bD]at h3 hn;rw[aW,hs _ pre.length hi k _ h1 (by rw[hx];omega) (by simp;omega) (by rw[hx];exact h4 x (by simp)),hx];have hset:(pre++x::xs).set pre.length (mk e x k)=(pre++[mk e x k])++xs:=by rw[List.set_append_right _ _ (aZ _),dp,List.set_cons_zero,aD];rfl
   have hl:((pre.length:Int)+1)=(((pre++[mk e x k]).length:Nat):Int):=by simp
   rw[hset,hl,Ej hs hf xs _ _ n (by omega) (by omega) (by simp;omega) (λy hy=>h4 y (by simp[hy])) (by omega)];rw[hc];congr 1;refine Prod.ext (by simp only;omega) ?_;simp only[mk,WB,aD,List.singleton_append]
theorem D4 {e:CT}{T:List e.D→((Int×Int)→Option Int)→(Int×Int)→Option Int}
 (hs:∀(l:List e.D)(i:Nat)(hi:i<l.length)(x:e.D)(k:Int) nx,l[i]=mk e x k→1≤k→k+mA e x≤1000000000000000→l.length≤1000000000000→bK 1000000000000 e x→
  T l nx (k,(i:Int))=nx (k+mA e x,(i:Int)+1))
 (hf:∀(l:List e.D)(k:Int) nx,T l nx (k,(l.length:Int))=some k):
 ∀(xs pre:List e.D)(k:Int)(n:Nat),1≤k→k+mA (.sl e) xs≤1000000000000000→pre.length+xs.length≤1000000000000→(∀x∈xs,bK 1000000000000 e x)→xs.length<n→
  aW (T (pre++mk (.sl e) xs k)) n (k,(pre.length:Int))=some (k+mA (.sl e) xs)
 |[],pre,k,n,_,_,_,_,hn=>by
  cases n with
  |zero=>omega
  |succ n=>
   have:pre++mk (.sl e) ([]:List e.D) k=pre:=by simp[mk,WB]
   rw[aW,this,hf];simp[mA]
 |x::xs,pre,k,n,h1,h2,h3,h4,hn=>by
  cases n with
  |zero=>omega
  |succ n=>
   have hc:mA (.sl e) (x::xs)=mA e x+mA (.sl e) xs:=by simp[mA]
   have hm:pre++mk (.sl e) (x::xs) k=(pre++[mk e x k])++mk (.sl e) xs (k+mA e x):=by simp[mk,WB]
   have hlen:∀(ys:List e.D)(k:Int),(mk (.sl e) ys k).length=ys.length:=by intro ys;induction ys with|nil=>intro k;rfl|cons y ys ih=>intro k;have:=ih (k+mA e y);simp only[mk,WB,bD]at this⊢;omega
   simp only[bD]at h3 hn;rw[aW,hm,hs _ pre.length (by simp) x k _ (by simp) h1 (by omega) (by have:=hlen xs (k+mA e x);simp;omega) (h4 x (by simp))];have hl:((pre.length:Int)+1)=(((pre++[mk e x k]).length:Nat):Int):=by simp
   rw[hl,D4 hs hf xs _ _ n (by omega) (by omega) (by simp;omega) (λy hy=>h4 y (by simp[hy])) (by omega),hc];congr 1;omega
def Lq (t:CT)(mark:t.D→Int→Option (Int×t.D)):Prop:=∀(a:t.D)(_:bK 1000000000000 t a)(k:Int)(_:1≤k)(_:k+mA t a≤1000000000000000),mark a k=some (k+mA t a,mk t a k)
def Lp (t:CT)(held:t.D→Int→Option Int):Prop:=∀(a:t.D)(_:bK 1000000000000 t a)(k:Int)(_:1≤k)(_:k+mA t a≤1000000000000000),held (mk t a k) k=some (k+mA t a)
theorem Gb {e:CT}{T:((List e.D×Int×Int×List e.D)→Option (Int×List e.D))→(List e.D×Int×Int×List e.D)→Option (Int×List e.D)}(hs:∀(l:List e.D)(i:Nat)(hi:i<l.length)(k:Int) nx,1≤k→k+mA e l[i]≤1000000000000000→l.length≤1000000000000→bK 1000000000000 e l[i]→ T nx (l,k,(i:Int),l)=nx (l.set i (mk e l[i] k),k+mA e l[i],(i:Int)+1,l.set i (mk e l[i] k)))(hf:∀(l:List e.D)(k:Int) nx,T nx (l,k,(l.length:Int),l)=some (k,l)):Lq (.sl e) (λa k=>aW T fuel (a,k,0,a)):=by have hfu:=fg;intro a h k h1 h2;have hl:a.length≤1000000000000:=h.1;exact Ej hs hf a [] k fuel h1 h2 (by simp;omega) h.2 (by omega)
theorem Ga {e:CT}{H:List e.D→((Int×Int)→Option Int)→(Int×Int)→Option Int}(gs:∀(l:List e.D)(i:Nat)(hi:i<l.length)(x:e.D)(k:Int) nx,l[i]=mk e x k→1≤k→k+mA e x≤1000000000000000→l.length≤1000000000000→bK 1000000000000 e x→ H l nx (k,(i:Int))=nx (k+mA e x,(i:Int)+1))(gf:∀(l:List e.D)(k:Int) nx,H l nx (k,(l.length:Int))=some k):Lp (.sl e) (λa k=>aW (H a) fuel (k,0)):=by have hfu:=fg;intro a h k h1 h2;have hl:a.length≤1000000000000:=h.1;exact D4 gs gf a [] k fuel h1 h2 (by simp;omega) h.2 (by omega)
def MtM (t:CT)(mark:t.D→Int→Option (Int×t.D)):Prop:=∀(a:t.D)(_:bK 1000000000000 t a)(k:Int)(_:1≤k)(_:k+jE t a≤1000000000000000),mark a k=some (k+jE t a,Ix t a k)
def MtH (t:CT)(held:t.D→Int→Option Int):Prop:=∀(a:t.D)(_:bK 1000000000000 t a)(k:Int)(_:1≤k)(_:k+jE t a≤1000000000000000),held (Ix t a k) k=some (k+jE t a)
theorem Lq.top {e:CT}{mark:List e.D→Int→Option (Int×List e.D)}(h:Lq (.sl e) mark):MtM (.sl e) mark:=h
theorem Lp.top {e:CT}{held:List e.D→Int→Option Int}(h:Lp (.sl e) held):MtH (.sl e) held:=h
def OkW:{t:CT}→JB FM t→Prop
 |_,.sl (e:=e) m=>Lq (.sl e) m
 |_,.pair a b=>OkW a∧OkW b
 |_,_=>True
theorem Gv {α R:Type}{f:Int→Option Bytes}(hf:∀k,1≤k→k≤1000000000000000→f k=some (SF k)){l:List α}{i:Nat}(hi:i<l.length):∀{t:CT}(n:JB FM t)(_:OkW n)(g:α→t.D)(s:α→t.D→α)(_:∀y v,g (s y v)=v)(_:∀y v w,s (s y v) w=s y w)(x:α)(k:Int)(K:List α→Int→Option R),1≤k→k+mA t (g x)≤1000000000000000→bK 1000000000000 t (g x)→
 xx f (i:Int) n g s (l.set i x) (l.set i x) k K=K (l.set i (s x (mk t (g x) k))) (k+mA t (g x))
 |_,.int _,_,g,s,_,_,x,k,K,h1,h2,_=>by simp only[gU]at h2⊢;rw[xx,jG x hi,ab,ab,ax,c5,wrap64 (by omega) (by omega)];rfl
 |_,.bool,_,g,s,_,_,x,k,K,h1,h2,_=>by simp only[fy]at h2⊢;rw[xx,jG x hi,ab,ab,ax,c5,wrap64 (by omega) (by omega)];rfl
 |_,.str,_,g,s,_,_,x,k,K,h1,h2,_=>by simp only[gV]at h2⊢;rw[xx,hf k h1 (by omega),ab,jG x hi,ab,ab,ax,c5,wrap64 (by omega) (by omega)];rfl
 |_,.sl m,hn,g,s,_,_,x,k,K,h1,h2,h3=>by rw[xx,jG x hi,ab,ab,hn (g x) h3 k h1 h2,ab,ax,c5]
 |_,.pair (a:=ca) (b:=cb) a b,hn,g,s,l1,l2,x,k,K,h1,h2,h3=>by rw[fz]at h2⊢;have e1:=Gv (R:=R) hf hi a hn.1 (λy=>(g y).1) (λy v=>s y (v,(g y).2)) (λy v=>by simp only[l1]) (λy v w=>by simp only[l1,l2]) x k;rw[xx,e1 _ h1 (by show k+((mA ca (g x).1:Nat):Int)≤_;omega) h3.1];have e2:=Gv (R:=R) hf hi b hn.2 (λy=>(g y).2) (λy v=>s y ((g y).1,v)) (λy v=>by simp only[l1]) (λy v w=>by simp only[l1,l2]) (s x (mk ca (g x).1 k,(g x).2)) (k+mA ca (g x).1) K (by omega) (by simp only[l1];omega) (by simp only[l1];exact h3.2);rw[e2];simp only[l1,l2,sY];congr 1;omega
theorem El {e:CT}(n:JB FM e){T:((List e.D×Int×Int×List e.D)→Option (Int×List e.D))→(List e.D×Int×Int×List e.D)→Option (Int×List e.D)}{f:Int→Option Bytes}(hf:∀k,1≤k→k≤1000000000000000→f k=some (SF k))(hn:OkW n)(he:∀(l:List e.D)(k i:Int) nx,T nx (l,k,i,l)=cond (decide (i<(l.length:Int))) (xx f i n (λy=>y) (λ_ v=>v) l l k (λL k'=>nx (L,k',aw (i+1),L))) (some (k,l))):Lq (.sl e) (λa k=>aW T fuel (a,k,0,a)):=by
 refine Gb (λl i hi k nx h1 h2 h3 hx=>?_) (λl k nx=>?_)
 ·have hl:l=l.set i l[i]:=(List.set_getElem_self hi).symm;rw[he,aj (by omega),ae];conv=>lhs;rw[hl]
  rw[Gv hf hi n hn (λy=>y) (λ_ v=>v) (λ_ _=>rfl) (λ_ _ _=>rfl) l[i] k _ h1 h2 hx];rw[wrap64 (by omega) (by omega)]
 rw[he,ah (by omega)];rfl
def OkV:{t:CT}→JB FH t→Prop
 |_,.sl (e:=e) m=>Lp (.sl e) m
 |_,.pair a b=>OkV a∧OkV b
 |_,_=>True
theorem Gu {α R:Type}{f:Int→Option Bytes}(hf:∀k,1≤k→k≤1000000000000000→f k=some (SF k)){v:List α}{i:Nat}(hi:i<v.length)(bad:Int→Option R):∀{t:CT}(n:JB FH t)(_:OkV n)(g:α→t.D)(K:Int→Option R)(x:t.D)(k:Int),1≤k→k+mA t x≤1000000000000000→bK 1000000000000 t x→g v[i]=mk t x k→
 xw f (i:Int) v bad n g K k=K (k+mA t x)
 |_,.int _,_,g,K,x,k,h1,h2,_,h4=>by simp only[gU]at h2⊢;have h5:g v[i]=k:=h4;rw[xw,a4 hi,ab,h5,dP,af,wrap64 (by omega) (by omega)];rfl
 |_,.bool,_,g,K,x,k,h1,h2,_,h4=>by simp only[fy]at h2⊢;have h5:g v[i]=(Int.tmod k 3==0):=h4;rw[xw,a4 hi,ab,h5,dF,au,af,wrap64 (by omega) (by omega)];rfl
 |_,.str,_,g,K,x,k,h1,h2,_,h4=>by simp only[gV]at h2⊢;have h5:g v[i]=SF k:=h4;rw[xw,a4 hi,ab,hf k h1 (by omega),ab,h5,dF,au,af,wrap64 (by omega) (by omega)];rfl
 |_,.sl m,hn,g,K,x,k,h1,h2,h3,h4=>by rw[xw,a4 hi,ab,h4,hn x h3 k h1 h2,ab,ah (by omega),af]
 |_,.pair a b,hn,g,K,x,k,h1,h2,h3,h4=>by rw[fz]at h2⊢;rw[sY]at h4;rw[xw,Gu hf hi bad a hn.1 _ _ x.1 k h1 (by omega) h3.1 (by simp only[h4]),Gu hf hi bad b hn.2 _ _ x.2 _ (by omega) (by omega) h3.2 (by simp only[h4])];congr 1;omega
theorem Ek {e:CT}(n:JB FH e){H:List e.D→((Int×Int)→Option Int)→(Int×Int)→Option Int}{bad:List e.D→Int→Int→Option Int}{f:Int→Option Bytes}(hf:∀k,1≤k→k≤1000000000000000→f k=some (SF k))(hn:OkV n)(he:∀(l:List e.D)(k i:Int) nx,H l nx (k,i)=cond (decide (i<(l.length:Int))) (xw f i l (bad l i) n (λy=>y) (λk'=>nx (k',aw (i+1))) k) (some k)):Lp (.sl e) (λa k=>aW (H a) fuel (k,0)):=by refine Ga (λl i hi x k nx hm h1 h2 h3 hx=>?_) (λl k nx=>?_);rw[he,aj (by omega),ae,Gu hf hi _ n hn _ _ x k h1 h2 hx hm,wrap64 (by omega) (by omega)];rw[he,ah (by omega)];rfl
theorem Av:∀{t:CT}{x:t.D},jE t x≤mA t x
 | .int _,_=>by simp[jE]
 | .bool,_=>by simp[jE]
 | .str,_=>by simp[jE]
 | .sl _,_=>aZ _
 | .pair a b,x=>by simp only[jE,mA];exact Nat.add_le_add Av Av
def Jx (n:Nat):CT→Nat
 | .sl e=>n*Jx n e
 | .pair a b=>Jx n a+Jx n b
 |_=>1
theorem uc {n:Nat}:∀{t:CT}{x:t.D},bK n t x→mA t x≤Jx n t
 | .int _,_,_=>by simp[mA,Jx]
 | .bool,_,_=>by simp[mA,Jx]
 | .str,_,_=>by simp[mA,Jx]
 | .sl e,xs,h=>by
  have h1:∀l:List e.D,(∀x∈l,bK n e x)→(l.map (mA e)).sum≤l.length*Jx n e:=by intro l;induction l with|nil=>simp|cons y l ih=>intro hl;have:=uc (hl y (by simp));have:=ih (λx hx=>hl x (by simp[hx]));simp only[cj,List.sum_cons,bD,bl,cD];omega
  simp only[mA,Jx];exact aP (h1 xs h.2) (bf _ h.1)
 | .pair a b,x,h=>by simp only[mA,Jx];exact Nat.add_le_add (uc h.1) (uc h.2)
theorem Aw {n:Nat}{e:CT}:∀{xs:List e.D},(∀x∈xs,bK n e x)→mA (.sl e) xs≤xs.length*Jx n e
 |[],_=>by simp[mA]
 |y::l,h=>by have h1:=uc (h y (by simp));have h2:=Aw (xs:=l) (λx hx=>h x (by simp[hx]));simp only[mA,cj,List.sum_cons,bD,bl,cD]at h2⊢;omega
def yp (b:Int×Int×Int)(n:Int):Int×Int×Int:=
 bif m8 b&&dB n 0 1000000 then(b.1,b.2.1,if b.2.1<aw (b.2.2+aw (b.1*n)) then b.2.1 else aw (b.2.2+aw (b.1*n))) else b
theorem Ki (b:Int×Int×Int)(n:Int):kU b n=some (yp b n):=by unfold kU yp;simp only[xm,ab,dH];cases m8 b<;>cases dB n 0 1000000<;>rfl
theorem K4 (b:Int×Int×Int)(n:Int):k9 b n=some (yp b n):=by
 unfold k9 yp;have e:∀x y:Int,(if x<y then x else y)=if y<x then y else x:=by intro x y;split<;>split<;>omega
 simp only[uH,ab,cS,e];cases m8 b<;>cases dB n 0 1000000<;>rfl
def tP {α:Type}(f:α→α)(l:List α)(i:Nat):List α:=(l.take i).map f++l.drop i
theorem wo {α:Type}(f:α→α)(l:List α)(i:Nat):(tP f l i).length=l.length:=by simp only[tP,ak,cd,bt,bJ];omega
theorem wm {α:Type}(f:α→α){l:List α}{i:Nat}(h:i<l.length):idx (tP f l i) (i:Int)=some l[i]:=by rw[wg,tP,List.getElem?_append_right (by simp only[cd,bt];omega),List.getElem?_drop];rw[show i+(i-((l.take i).map f).length)=i by simp;omega];exact List.getElem?_eq_getElem h
theorem wq {α:Type}(f:α→α){l:List α}{i:Nat}(h:i<l.length):(tP f l i).set i (f l[i])=tP f l (i+1):=by
 have hl:((l.take i).map f).length=i:=by simp;omega
 rw[tP,tP,List.set_append_right _ _ (by omega),hl,dp,bh h,List.set_cons_zero,bB h,List.map_append,aD];rfl
theorem wk {α:Type}(f:α→α)(l:List α):tP f l l.length=l.map f:=by rw[tP,bG,List.drop_length,a7]
def Jp (n:Int)(f:al):al:=(f.1,f.2.1,yp f.2.2.1 n,f.2.2.2)
theorem Ig (l:List al)(n:Int)(h:l.length≤1000000000):jL l n=some (l.map (Jp n)):=by unfold jL;rw[nX l h,ab];refine cu (λi=>(tP (Jp n) l i,(i:Int))) l.length (by omega) (λi nx hi=>?_) (λnx=>?_);simp only[gG];rw[aj (by omega),wm _ hi,wrap64 (by omega) (by omega)];simp only[ae,ab,Ki,ax];rw[←wq _ hi];rfl;simp only[gG];rw[ah (by omega),af,wk]
theorem Jg (l:List al)(n:Int)(h:l.length≤1000000000):jX l n=some (l.map (Jp n)):=by unfold jX;rw[fX h,a9];refine cu (λi=>(tP (Jp n) l i,(i:Int))) l.length (by omega) (λi nx hi=>?_) (λnx=>?_);simp only[gI,wo];rw[aj (by omega),wm _ hi,wrap64 (by omega) (by omega)];simp only[ae,ab,K4,ax];rw[←wq _ hi];rfl;simp only[gI,wo];rw[ah (by omega),af,wk]
def W8 (w:a8)(i:Nat):a8:=(w.1,tP (λ_=>[]) w.2.1 i,w.2.2)
theorem RR (w b:a8)(h:w.2.1.length≤1000000000):aW (iP (λ_ y13=>some y13) ((List.length w.2.1:Int)) b) fuel (0,w)=some (w.1,w.2.1.map (λ_=>[]),w.2.2):=by refine cu (λi=>((i:Int),W8 w i)) w.2.1.length (by omega) (λi nx hi=>?_) (λnx=>?_);simp only[iP,W8];rw[aj (by omega),wm _ hi,wrap64 (by omega) (by omega)];simp only[ae,ab,ax];rw[←wq _ hi];rfl;simp only[iP,W8];rw[ah (by omega),af,wk]
theorem Sn (w b:a8)(h:w.2.1.length≤1000000000):aW (jo (λ_ y15=>some y15) b) fuel (0,w)=some (w.1,w.2.1.map (λ_=>[]),w.2.2):=by refine cu (λi=>((i:Int),W8 w i)) w.2.1.length (by omega) (λi nx hi=>?_) (λnx=>?_);simp only[jo,W8,wo];rw[aj (by omega),wm _ hi,wrap64 (by omega) (by omega)];simp only[ae,ab,ax];rw[←wq _ hi];rfl;simp only[jo,W8,wo];rw[ah (by omega),af,wk]
theorem GI (w:a8)(e:Int)(p:aC)(hi:kJ w=true)(hp:dN p=true)(z:bK 90000000 br w):jy w e p=some ((),eu w e p):=by have z9:bK 1000000000 br w:=z.mono (by omega);have hn:=AH hi;have zp:=yo w.2.2.2.1;unfold jy eu;simp only[hi,hp,bZ,ae,qn _ (tu z9),uI _ e p zp,vI _ e p zp,ab];generalize (dv w.2.2.2.1).1=ps at hn zp⊢;unfold th;cases decide (eK ps e p<0)with|true=>exact uK (λw=>some ((),w)) ps (eK ps e p) p w [] (by simp) (by simp) z zp|false=>exact uK (λw=>some ((),w)) ps (eK ps e p) p w (my ps e p) (by have:=td ps e p;omega) (λj hj=>by have:=tf j hj;omega) z zp
theorem vE {w:a8}(h:kJ w=true):w.1.length=w.2.2.2.1.length∧w.2.1.length=w.2.2.2.1.length∧w.2.2.1.length=w.2.2.2.1.length∧1≤w.2.2.2.1.length∧w.2.2.2.1.length≤3:=by have h':=h;unfold kJ at h';simp only[ai]at h';have h2:=h'.1;have hl:=h'.2.1;simp only[wT,ai,aR]at hl;unfold dv at h2;cases hc:dB (w.2.2.2.1.length:Int) 1 3&&(w.2.2.2.1.all jA&&eA (s5 w.2.2.2.1))with|false=>rw[hc]at h2;cases h2|true=>simp only[ai,db]at hc;omega
theorem sI {w:a8}{e:Int}{p:aC}{n:Nat}(hn:382≤n)(z:bK n br w):bK (n+1288) br (eu w e p):=by
 have z':bK (n+1288) br w:=z.mono (by omega);unfold eu;cases hi:kJ w with|false=>exact z'|true=>?_
 cases dN p with|false=>exact z'|true=>?_
 have h:=(AH hi).1;have h4:=vE hi;simp only[bZ,ae];generalize (dv w.2.2.2.1).1=ps at h⊢;cases decide (eK ps e p<0)with|true=>exact z'|false=>have h8:=td ps e p;exact(wx (my ps e p) (λj hj=>by have:=tf j hj;omega) hn z).mono (by omega)
theorem Sv (ps:List Port)(v:Int)(p:aC)(w:a8)(j:Nat):(tc ps v p w j).2.1=w.2.1∧(tc ps v p w j).2.2.2.1=w.2.2.2.1:=by unfold tc;cases j==0<;>exact⟨rfl,rfl⟩
theorem Mq (ps:List Port)(v:Int)(p:aC):∀(l:List Nat)(w:a8),(sv ps v p w l).2.1=w.2.1∧(sv ps v p w l).2.2.2.1=w.2.2.2.1
 |[],w=>⟨rfl,rfl⟩
 |j::l,w=>by have h1:=Mq ps v p l (tc ps v p w j);have h2:=Sv ps v p w j;exact⟨h1.1.trans h2.1,h1.2.trans h2.2⟩
def Ol (a b:a8):Prop:=b.1.length=a.1.length∧b.2.1=a.2.1∧b.2.2.2.1=a.2.2.2.1
theorem vN (w:a8)(e:Int)(p:aC):Ol w (eu w e p):=by
 unfold eu;cases kJ w&&dN p with|false=>exact⟨rfl,rfl,rfl⟩|true=>?_
 cases hd:decide (eK (dv w.2.2.2.1).1 e p<0)with|true=>exact⟨rfl,rfl,rfl⟩|false=>have h:=Mq (dv w.2.2.2.1).1 (eK (dv w.2.2.2.1).1 e p) p (my (dv w.2.2.2.1).1 e p) w;exact⟨AJ _ _ _ _ _,h.1,h.2⟩
def gK (x:Bytes):Bool:=decide (22≤x.length)
theorem KV {x:Bytes}(h:((dT x).2==0)=true):gK x=true:=by
 unfold gK;refine aj (fS λhx=>?_);have hl:(ie x).2=true→(ie x).1.length<18:=by unfold ie;cases h4:decide ((x.length:Int)<4)with|true=>intro h;cases h|false=>cases ru (x.take ((x.length:Int)-4).toNat)==x with|false=>intro h;cases h|true=>intro _;simp only[cE]at h4;show(x.take ((x.length:Int)-4).toNat).length<18;rw[bt];omega
 unfold dT at h;simp only at h;cases h1:(ie x).2 with
 |false=>rw[h1]at h;simp at h
 |true=>
  have h18:=hl h1;have he:(lC (ie x).1).2=false:=by unfold lC;rw[aj (by omega)];rfl
  have hr:tS (ie x).1=(Rp,2):=by unfold tS;simp only[he,bp,Bool.true_or,ae]
  rw[h1,hr]at h;simp at h
def yF (ps:List Port)(k:Int)(w:a8)(x:Bytes):a8:=
 bif (dT x).2==0 then(bif (qK w.2.2.1 ps k (dT x).1).2.2 then eu (w.1,w.2.1,(qK w.2.2.1 ps k (dT x).1).1,w.2.2.2) (k+1) (dT x).1
  else(w.1,w.2.1,(qK w.2.2.1 ps k (dT x).1).1,w.2.2.2)) else w
def yr (ps:List Port)(k:Int)(w:a8)(l:List Bytes):a8:=l.foldl (yF ps k) w
theorem RM {n:Nat}{l:List al}(h:l.length≤n):bK n (.sl ay) l:=⟨h,λ_ _=>⟨trivial,trivial,⟨trivial,trivial,trivial⟩,trivial,trivial,trivial⟩⟩
theorem ti {n:Nat}{w:a8}(z:bK n br w){l:List al}(h:l.length=w.2.2.1.length):bK n br (w.1,w.2.1,l,w.2.2.2):=⟨z.1,z.2.1,RM (by rw[h];exact z.2.2.1.1),z.2.2.2⟩
theorem N7 {ps:List Port}{k:Int}{w:a8}{x:Bytes}{n:Nat}(hn:382≤n)(z:bK n br w):bK (n+1288*[x].countP gK) br (yF ps k w x):=by
 unfold yF;cases hr:(dT x).2==0 with
 |false=>exact z.mono (by omega)
 |true=>
  have e:[x].countP gK=1:=by simp[KV hr]
  have z2:=ti z (zB w.2.2.1 ps k (dT x).1);rw[e];cases (qK w.2.2.1 ps k (dT x).1).2.2 with|false=>exact z2.mono (by omega)|true=>exact sI hn z2
theorem yt {ps:List Port}{k:Int}:∀(l:List Bytes){w:a8}{n:Nat},382≤n→bK n br w→bK (n+1288*l.countP gK) br (yr ps k w l)
 |[],w,n,_,z=>z
 |x::l,w,n,hn,z=>by have h:=yt (ps:=ps) (k:=k) l (by omega) (N7 (ps:=ps) (k:=k) (x:=x) hn z);refine h.mono ?_;rw[show x::l=[x]++l from rfl,List.countP_append];omega
theorem K7 (ps:List Port)(k:Int)(w:a8)(x:Bytes):Ol w (yF ps k w x):=by
 unfold yF;cases (dT x).2==0 with|false=>exact⟨rfl,rfl,rfl⟩|true=>?_
 cases (qK w.2.2.1 ps k (dT x).1).2.2 with|false=>exact⟨rfl,rfl,rfl⟩|true=>exact vN (w.1,w.2.1,(qK w.2.2.1 ps k (dT x).1).1,w.2.2.2) _ _
theorem zy (ps:List Port)(k:Int):∀(l:List Bytes)(w:a8),Ol w (yr ps k w l)
 |[],w=>⟨rfl,rfl,rfl⟩
 |x::l,w=>by have h1:=zy ps k l (yF ps k w x);have h2:=K7 ps k w x;exact⟨h1.1.trans h2.1,h1.2.1.trans h2.2.1,h1.2.2.trans h2.2.2⟩
theorem Ew (ps:List Port)(k:Int)(w:a8)(l:List Bytes)(i:Nat)(hi:i<l.length):yr ps k w (l.take (i+1))=yF ps k (yr ps k w (l.take i)) l[i]:=by rw[bB hi,yr,List.foldl_append];rfl
theorem zO {α:Type}(p:α→Bool)(l:List α)(i:Nat):(l.take i).countP p≤l.countP p:=(List.take_sublist i l).countP_le
theorem Nd (ps:List Port)(k n:Nat)(w b:a8)(l:List Bytes)(hk:k≤100000000)(hn:382≤n)(z:bK n br w)(hN:n+1288*l.countP gK≤90000000)(hl:bK 1000000000 (.sl .str) l)(zp:kQ ps): aW (eT (λ_ y11=>some y11) (k:Int) ps l ((List.length l:Int)) b) fuel (0,w)=some (yr ps k w l):=by
 have hl1:l.length≤1000000000:=hl.1;refine cu (λi=>((i:Int),yr ps k w (l.take i))) l.length (by omega) (λi nx hi=>?_) (λnx=>?_);have hx:l[i].length≤1000000000:=hl.2 _ (aG hi);have hc:=zO gK l i;have hz:bK 90000000 br (yr ps k w (l.take i)):=(yt (ps:=ps) (k:=k) (l.take i) hn z).mono (by omega);rw[Ew ps k w l i hi];generalize yr ps k w (l.take i)=W at hz⊢;have hf:W.2.2.1.length≤1000000000:=aP hz.2.2.1.1 (by omega);simp only[eT];rw[aj (by omega),a4 hi,wrap64 (n:=(i:Int)+1) (by omega) (by omega)];simp only[ae,ab,zd _ hx,yF,bne];cases hr:(dT l[i]).2==0 with|false=>rfl|true=>simp only[au,af,ae,Ng _ ps _ _ hf zp,ab];have z2:=ti hz (zB W.2.2.1 ps k (dT l[i]).1);cases (qK W.2.2.1 ps k (dT l[i]).1).2.2 with|false=>rfl|true=>rw[wrap64 (n:=(k:Int)+1) (by omega) (by omega)];simp only[ae,u4 _ _ _ z2,ab];rfl
 simp only[eT];rw[ah (by omega),af,bG]
theorem N0 (ps:List Port)(k n:Nat)(w:a8)(l:List Bytes)(hk:k≤100000000)(hn:382≤n)(z:bK n br w)(hN:n+1288*l.countP gK≤90000000)(hl:bK 1000000000 (.sl .str) l)(zp:kQ ps): aW (fY (λ_ y11=>some ((),y11)) (k:Int) l ps) fuel (0,w)=some ((),yr ps k w l):=by
 have hl1:l.length≤1000000000:=hl.1;refine cu (λi=>((i:Int),yr ps k w (l.take i))) l.length (by omega) (λi nx hi=>?_) (λnx=>?_);have hx:l[i].length≤1000000000:=hl.2 _ (aG hi);have hc:=zO gK l i;have hz:bK 90000000 br (yr ps k w (l.take i)):=(yt (ps:=ps) (k:=k) (l.take i) hn z).mono (by omega);rw[Ew ps k w l i hi];generalize yr ps k w (l.take i)=W at hz⊢;have hf:W.2.2.1.length≤1000000000:=aP hz.2.2.1.1 (by omega);simp only[fY];rw[aj (by omega),a4 hi,wrap64 (n:=(i:Int)+1) (by omega) (by omega),wrap64 (n:=(k:Int)+1) (by omega) (by omega)];simp only[ae,ab,zG _ hx,N2 _ ps _ _ hf zp,yF];have z2:=ti hz (zB W.2.2.1 ps k (dT l[i]).1);cases hr:(dT l[i]).2==0 with|false=>rw[PO (PJ hr)];rfl|true=>cases (qK W.2.2.1 ps k (dT l[i]).1).2.2 with|false=>rfl|true=>simp only[ae,Ar _ _ _ z2,ab];rfl
 simp only[fY];rw[ah (by omega),af,bG]
def rE (w:a8)(k:Nat):a8:=yr (dv w.2.2.2.1).1 k (w.1,w.2.1.set k [],w.2.2) (w.2.1.getD k [])
theorem ub {n:Nat}{w:a8}(k:Nat)(z:bK n br w):bK n br (w.1,w.2.1.set k [],w.2.2):=⟨z.1,⟨by rw[aO];exact z.2.1.1,λx hx=>by rcases List.mem_or_eq_of_mem_set hx with h|rfl;exact z.2.1.2 x h;exact⟨dr _,λy hy=>by cases hy⟩⟩,z.2.2⟩
theorem Dl (w:a8)(k n:Nat)(hk:k<w.2.1.length)(hn:382≤n)(z:bK n br w)(hN:n+1288*(w.2.1.getD k []).countP gK≤90000000):jM w (k:Int)=some (rE w k):=by have z9:bK 1000000000 br w:=z.mono (by omega);have hq:w.2.1.length≤n:=z.2.1.1;rw[bI hk]at hN;unfold jM rE;simp only[tp w z9,sJ _ (tu z9),ab,a4 hk,ax,bI hk];exact Nd _ k n (w.1,w.2.1.set k [],w.2.2) _ _ (by omega) hn (ub k z) hN (z9.2.1.2 _ (aG hk)) (yo _)
theorem DC (w:a8)(k n:Nat)(hk:k<w.2.1.length)(hn:382≤n)(z:bK n br w)(hN:n+1288*(w.2.1.getD k []).countP gK≤90000000):mx w (k:Int)=some ((),rE w k):=by have z9:bK 1000000000 br w:=z.mono (by omega);have hq:w.2.1.length≤n:=z.2.1.1;rw[bI hk]at hN;unfold mx rE;simp only[qn _ (tu z9),ab,yY,a4 hk,ax,bI hk];exact N0 _ k n (w.1,w.2.1.set k [],w.2.2) _ (by omega) hn (ub k z) hN (z9.2.1.2 _ (aG hk)) (yo _)
def vl (w:a8)(k:Nat)(m:Int×Int×Int):a8:=
 match (nR w.2.2.2.1 k m).1[k]?,w.1[k]? with
 |some b,some s=>(w.1.set k (b.1,s.2),w.2.1,w.2.2.1,(nR w.2.2.2.1 k m).1,w.2.2.2.2)
 |_,_=>w
def Ms (w:a8)(k:Nat)(p:aC)(n:Int):a8:=(w.1,w.2.1.set k (w.2.1.getD k []++yw p n),w.2.2)
def ET (w:a8)(a:fZ)(v:Int):a8:=
 bif a.1==1 then vl w a.2.1.toNat a.2.2.2.1 else
 bif a.1==2 then(w.1,w.2.1.map (λ_=>[]),w.2.2) else
 bif a.2.2.1.1==0 then(bif v==1 then Ms w a.2.1.toNat a.2.2.1.2.1 a.2.2.1.2.2.1 else w) else
 bif a.2.2.1.1==1 then rE w a.2.1.toNat else
 bif a.2.2.1.1==2 then(bif (dT a.2.2.1.2.2.2.2.1).2==0 then eu w 0 (dT a.2.2.1.2.2.2.2.1).1 else w) else
 bif a.2.2.1.1==4 then(w.1,w.2.1,w.2.2.1.map (Jp 1),w.2.2.2) else
 bif a.2.2.1.1==6 then(w.1,w.2.1.set a.2.1.toNat [],w.2.2) else w
def SU (w:a8)(a:fZ):Bool:=kJ w&&(MN a.2.2.1&&(dB a.2.1 0 ((w.1.length:Int)-1)&&(dB a.1 0 2&&dB a.2.2.2.2.2 0 100)))
def gy (w:a8)(a:fZ)(v:Int):a8:=bif SU w a then ET w a v else w
def ES (N:Nat)(w:a8):Prop:=∃n,382≤n∧bK n br w∧n+1288*(w.2.1.map (λq=>q.countP gK)).sum≤N
theorem Iw {l:List Nat}{x:Nat}(h:x∈l):x≤l.sum:=by have:=xr (λy=>y) l x h;simpa using this
theorem SQ {N k:Nat}{w:a8}{n:Nat}(h:n+1288*(w.2.1.map (λq=>q.countP gK)).sum≤N)(hk:k<w.2.1.length):n+1288*(w.2.1.getD k []).countP gK≤N:=by
 have h1:(w.2.1.getD k []).countP gK≤(w.2.1.map (λq=>q.countP gK)).sum:=by rw[bI hk];exact Iw (List.mem_map_of_mem (aG hk))
 omega
theorem H6 (w:a8)(a:fZ)(v:Int)(N:Nat)(hi:ES N w)(hN:N≤90000000)(hA:bK 1000000000 ft a):n0 w a v=some (gy w a v):=by
 obtain⟨n,hn,z,hq⟩:=hi;have z9:bK 1000000000 br w:=z.mono (by omega);have zN:bK 90000000 br w:=z.mono (by omega);have hf9:w.2.2.1.length≤1000000000:=z9.2.2.1.1;have hx:a.2.2.1.2.2.2.2.1.length≤1000000000:=hA.2.2.1.2.2.2.2.1;unfold n0 gy SU rP;simp only[tp w z9,D9 w (uf z9),ab];cases hw:kJ w with|false=>rfl|true=>?_
 obtain⟨l1,l2,l3,l4,l5⟩:=vE hw;rw[wrap64 (n:=(w.2.2.1.length:Int)-1) (by omega) (by omega),show(w.2.2.1.length:Int)-1=(w.1.length:Int)-1 by omega];simp only[RN,dH,ab,au,af,bm];cases MN a.2.2.1 with|false=>rfl|true=>?_
 cases hk:dB a.2.1 0 ((w.1.length:Int)-1)with|false=>rfl|true=>?_
 cases dB a.1 0 2 with|false=>rfl|true=>?_
 cases dB a.2.2.2.2.2 0 100 with|false=>rfl|true=>?_
 simp only[ae,ab,au,af,bZ];have hk:=db.1 hk;obtain⟨k,hke⟩:=aY hk.1;have hk1:k<w.1.length:=by omega
 have hk2:k<w.2.1.length:=by omega
 have hk3:k<w.2.2.2.1.length:=by omega
 unfold ET;rw[hke,ax];cases a.1==1 with
 |true=>
  have hb:∀b∈w.2.2.2.1,b.1.2.2.length≤100000000:=λb hb=>aP (tu zN b hb) (by omega);have hk4:k<(nR w.2.2.2.1 k a.2.2.2.1).1.length:=by rw[pq];exact hk3
  have hl:=xc w.2.2.2.1 k a.2.2.2.1 (n:=100000000) (by omega) hb _ (aG hk4);simp only[ae,za _ k _ hk3 (by omega) hb,ab,a4 hk4,iO _ (show(nR w.2.2.2.1 k a.2.2.2.1).1[k].1.2.2.length≤1000000000 by omega),a4 hk1,vl,List.getElem?_eq_getElem hk4,List.getElem?_eq_getElem hk1]
 |false=>
  simp only[af];cases a.1==2 with
  |true=>exact RR w _ (by omega)
  |false=>
   simp only[af];cases a.2.2.1.1==0 with
   |true=>simp only[ae];cases v==1 with|false=>rfl|true=>have hs:=(zA a.2.2.1.2.1 a.2.2.1.2.2.1).1;have hql:w.2.1[k].length≤90000000:=(zN.2.1.2 _ (aG hk2)).1;simp only[ae,yY,a4 hk2,Pb,ab,Ms,bI hk2];rw[aM (by omega)]
   |false=>
    simp only[af];cases a.2.2.1.1==1 with
    |true=>simp only[ae,Dl w k n hk2 hn z (by have:=SQ hq hk2;omega),ab]
    |false=>
     simp only[af];cases a.2.2.1.1==2 with
     |true=>simp only[ae,zd _ hx,ab];cases (dT a.2.2.1.2.2.2.2.1).2==0 with|false=>rfl|true=>simp only[ae,u4 w 0 _ zN,ab]
     |false=>simp only[af];cases a.2.2.1.1==4 with|true=>simp only[ae,Ig _ _ hf9,ab]|false=>simp only[af];cases a.2.2.1.1==6 with|true=>simp only[ae,a4 hk2,ab]|false=>rfl
theorem I7 (w:a8)(a:fZ)(v:Int)(N:Nat)(hi:ES N w)(hN:N≤90000000)(hA:bK 1000000000 ft a)(hm1:a.2.2.2.1.1≤9223372036854775807):rh w a v=some (gy w a v):=by
 obtain⟨n,hn,z,hq⟩:=hi;have z9:bK 1000000000 br w:=z.mono (by omega);have zN:bK 90000000 br w:=z.mono (by omega);have hf9:w.2.2.1.length≤1000000000:=z9.2.2.1.1;have hx:a.2.2.1.2.2.2.2.1.length≤1000000000:=hA.2.2.1.2.2.2.2.1;unfold rh gy SU;rw[show dB a.2.1 0 ((w.1.length:Int)-1)=(!decide (a.2.1<0)&& !decide (a.2.1≥(w.1.length:Int))) from by rw[bH,db];simp;omega];simp only[wY w z9,EA w (uf z9),Mv,cS,ab];cases hw:kJ w with|false=>rfl|true=>?_
 obtain⟨l1,l2,l3,l4,l5⟩:=vE hw;cases MN a.2.2.1 with|false=>rfl|true=>?_
 cases hk0:decide (a.2.1<0)with|true=>rfl|false=>?_
 cases hk1:decide (a.2.1≥(w.1.length:Int))with|true=>rfl|false=>?_
 cases dB a.1 0 2 with|false=>rfl|true=>?_
 cases dB a.2.2.2.2.2 0 100 with|false=>rfl|true=>?_
 simp only[ae,ab,au,bp,af,bZ];simp only[cE]at hk0 hk1;obtain⟨k,hke⟩:=aY (show 0≤a.2.1 by omega);have hk1:k<w.1.length:=by omega
 have hk2:k<w.2.1.length:=by omega
 have hk3:k<w.2.2.2.1.length:=by omega
 unfold ET;rw[hke,ax];cases a.1==1 with
 |true=>
  have hb:∀b∈w.2.2.2.1,b.1.2.2.length≤100000000:=λb hb=>aP (tu zN b hb) (by omega);have hk4:k<(nR w.2.2.2.1 k a.2.2.2.1).1.length:=by rw[pq];exact hk3
  have hl:=xc w.2.2.2.1 k a.2.2.2.1 (n:=100000000) (by omega) hb _ (aG hk4);simp only[ae,zD _ k _ hk3 (by omega) hb hm1,ab,a4 hk4,jn _ (show(nR w.2.2.2.1 k a.2.2.2.1).1[k].1.2.2.length≤1000000000 by omega),a4 hk1,vl,List.getElem?_eq_getElem hk4,List.getElem?_eq_getElem hk1]
 |false=>
  simp only[af];cases a.1==2 with
  |true=>exact Sn w _ (by omega)
  |false=>
   simp only[af];cases a.2.2.1.1==0 with
   |true=>simp only[ae];cases v==1 with|false=>rfl|true=>have hs:=(zA a.2.2.1.2.1 a.2.2.1.2.2.1).1;have hql:w.2.1[k].length≤90000000:=(zN.2.1.2 _ (aG hk2)).1;simp only[ae,yY,a4 hk2,PX,ab,Ms,bI hk2];rw[aM (by omega)]
   |false=>
    simp only[af];cases a.2.2.1.1==1 with
    |true=>simp only[ae,DC w k n hk2 hn z (by have:=SQ hq hk2;omega),ab]
    |false=>
     simp only[af];cases a.2.2.1.1==2 with
     |true=>simp only[ae,zG _ hx,ab];cases hr:(dT a.2.2.1.2.2.2.2.1).2==0 with|false=>rfl|true=>simp only[ae,GI w 0 _ hw (Gp hr) zN,ab]
     |false=>simp only[af];cases a.2.2.1.1==4 with|true=>simp only[ae,Jg _ _ hf9,ab]|false=>simp only[af];cases a.2.2.1.1==6 with|true=>simp only[ae,a4 hk2,ab]|false=>rfl
theorem GN (c:List Bytes→Nat):∀(l:List (List Bytes))(k:Nat)(x:List Bytes)(h:k<l.length),((l.set k x).map c).sum+c l[k]=(l.map c).sum+c x
 |y::l,0,x,_=>by simp only[List.set_cons_zero,cj,List.sum_cons,List.getElem_cons_zero];omega
 |y::l,k+1,x,h=>by have:=GN c l k x (by simpa using h);simp only[List.set_cons_succ,cj,List.sum_cons,List.getElem_cons_succ];omega
theorem sum_nil (l:List (List Bytes)):((l.map (λ_=>([]:List Bytes))).map (λq=>q.countP gK)).sum=0:=by induction l with|nil=>rfl|cons x l ih=>simp only[cj,List.sum_cons,List.countP_nil,bE];exact ih
theorem Ou {N:Nat}{w:a8}{a:fZ}{v:Int}(hi:ES N w)(ho:SU w a=true):ES (N+412542) (ET w a v):=by
 obtain⟨n,hn,z,hq⟩:=hi;simp only[SU,ai]at ho;obtain⟨hw,_,hk,_⟩:=ho;obtain⟨l1,l2,l3,l4,l5⟩:=vE hw;have hk:=db.1 hk;obtain⟨k,hke⟩:=aY hk.1;have hk1:k<w.1.length:=by omega
 have hk2:k<w.2.1.length:=by omega
 have same:ES (N+412542) w:=⟨n,hn,z,by omega⟩
 have hc:=GN (λq=>q.countP gK) w.2.1 k [] hk2;simp only[List.countP_nil,cA]at hc;unfold ET;rw[hke,ax];cases a.1==1 with
 |true=>simp only[ae,vl];split;rename_i b s hb hs;have hbm:=xc w.2.2.2.1 k a.2.2.2.1 (n:=n) (by omega) (λb hb=>(z.2.2.2.1.2 b hb).1.2.2.1);have hs':=z.1.2 _ (List.mem_of_getElem? hs);refine⟨n,hn,⟨⟨by rw[aO];exact z.1.1,λx hx=>?_⟩,z.2.1,z.2.2.1,⟨by rw[pq];exact z.2.2.2.1.1,λx hx=>?_⟩,z.2.2.2.2⟩,by show n+1288*(w.2.1.map (λq=>q.countP gK)).sum≤_;omega⟩;rcases List.mem_or_eq_of_mem_set hx with h|rfl;exact z.1.2 x h;exact⟨⟨trivial,trivial,hbm b (List.mem_of_getElem? hb),λ_ _=>trivial⟩,hs'.2⟩;exact⟨⟨trivial,trivial,hbm x hx,λ_ _=>trivial⟩,trivial,trivial,trivial⟩;exact same
 |false=>
  simp only[af];cases a.1==2 with
  |true=>rw[ae];refine⟨n,hn,⟨z.1,⟨by rw[cd];exact z.2.1.1,λx hx=>?_⟩,z.2.2⟩,?_⟩;obtain⟨_,_,rfl⟩:=List.mem_map.1 hx;exact⟨dr _,λy hy=>by cases hy⟩;show n+1288*((w.2.1.map (λ_=>([]:List Bytes))).map (λq=>q.countP gK)).sum≤_;rw[sum_nil];omega
  |false=>
   simp only[af];cases a.2.2.1.1==0 with
   |true=>simp only[ae];cases v==1 with|false=>exact same|true=>have hs:=zA a.2.2.1.2.1 a.2.2.1.2.2.1;have hql:=z.2.1.2 _ (aG hk2);have hc2:=GN (λq=>q.countP gK) w.2.1 k (w.2.1[k]++yw a.2.2.1.2.1 a.2.2.1.2.2.1) hk2;have hcs:(yw a.2.2.1.2.1 a.2.2.1.2.2.1).countP gK≤320:=aP List.countP_le_length hs.1;simp only[List.countP_append]at hc2;simp only[ae,Ms,bI hk2];have z2:bK (n+320) br w:=z.mono (by omega);refine⟨n+320,by omega,⟨z2.1,⟨by rw[aO];exact z2.2.1.1,λx hx=>?_⟩,z2.2.2⟩,by show n+320+1288*((w.2.1.set k (w.2.1[k]++yw a.2.2.1.2.1 a.2.2.1.2.2.1)).map (λq=>q.countP gK)).sum≤_;omega⟩;rcases List.mem_or_eq_of_mem_set hx with h|rfl;exact z2.2.1.2 x h;refine⟨by have:=hql.1;rw[ak];omega,λy hy=>?_⟩;rcases aq.1 hy with h|h;exact aP (hql.2 y h) (by omega);exact aP (hs.2 y h) (by omega)
   |false=>
    simp only[af];cases a.2.2.1.1==1 with
    |true=>simp only[ae,rE,bI hk2];have hkp:=(zy (dv w.2.2.2.1).1 k w.2.1[k] (w.1,w.2.1.set k [],w.2.2)).2.1;refine⟨_,by omega,yt w.2.1[k] hn (ub k z),?_⟩;rw[hkp];show _+1288*((w.2.1.set k []).map (λq=>q.countP gK)).sum≤_;omega
    |false=>
     simp only[af];cases a.2.2.1.1==2 with
     |true=>simp only[ae];cases (dT a.2.2.1.2.2.2.2.1).2==0 with|false=>exact same|true=>refine⟨n+1288,by omega,sI hn z,?_⟩;rw[ae,(vN w 0 (dT a.2.2.1.2.2.2.2.1).1).2.1];omega
     |false=>simp only[af];cases a.2.2.1.1==4 with|true=>rw[ae];exact⟨n,hn,ti z (cd ..),by show n+1288*(w.2.1.map (λq=>q.countP gK)).sum≤_;omega⟩|false=>simp only[af];cases a.2.2.1.1==6 with|true=>rw[ae];refine⟨n,hn,ub k z,?_⟩;show n+1288*((w.2.1.set k []).map (λq=>q.countP gK)).sum≤_;omega|false=>exact same
theorem FL {N:Nat}{w:a8}{a:fZ}{v:Int}(hi:ES N w):ES (N+412542) (gy w a v):=by unfold gy;cases ho:SU w a with|true=>exact Ou hi ho|false=>obtain⟨n,hn,z,hq⟩:=hi;rw[af];exact⟨n,hn,z,by omega⟩
theorem TT (w:a8)(a:fZ)(v:Int):(ET w a v).1.length=w.1.length∧(ET w a v).2.1.length=w.2.1.length∧(ET w a v).2.2.2.1.length=w.2.2.2.1.length:=by
 have same:w.1.length=w.1.length∧w.2.1.length=w.2.1.length∧w.2.2.2.1.length=w.2.2.2.1.length:=⟨rfl,rfl,rfl⟩
 unfold ET;cases a.1==1 with
 |true=>simp only[ae,vl];split;exact⟨aO ..,rfl,pq _ _ _⟩;exact same
 |false=>
  simp only[af];cases a.1==2 with|true=>exact⟨rfl,cd ..,rfl⟩|false=>?_
  simp only[af];cases a.2.2.1.1==0 with
  |true=>cases v==1 with|true=>exact⟨rfl,aO ..,rfl⟩|false=>exact same
  |false=>
   simp only[af];cases a.2.2.1.1==1 with
   |true=>have h:=zy (dv w.2.2.2.1).1 ((a.2.1.toNat:Nat):Int) (w.2.1.getD a.2.1.toNat []) (w.1,w.2.1.set a.2.1.toNat [],w.2.2);exact⟨h.1,(congrArg List.length h.2.1).trans (aO ..),congrArg List.length h.2.2⟩
   |false=>
    simp only[af];cases a.2.2.1.1==2 with
    |true=>cases (dT a.2.2.1.2.2.2.2.1).2==0 with|false=>exact same|true=>have h:=vN w 0 (dT a.2.2.1.2.2.2.2.1).1;exact⟨h.1,congrArg List.length h.2.1,congrArg List.length h.2.2⟩
    |false=>
     simp only[af];cases a.2.2.1.1==4 with|true=>exact same|false=>?_
     simp only[af];cases a.2.2.1.1==6 with|true=>exact⟨rfl,aO ..,rfl⟩|false=>exact same
theorem JX (w:a8)(a:fZ)(v:Int):(gy w a v).1.length=w.1.length∧(gy w a v).2.1.length=w.2.1.length∧(gy w a v).2.2.2.1.length=w.2.2.2.1.length:=by unfold gy;cases SU w a with|true=>exact TT w a v|false=>exact⟨rfl,rfl,rfl⟩
theorem M3 {n:Nat}{w:a8}(z:bK n br w)(h1:w.1.length≤3)(h2:w.2.1.length≤3)(h3:w.2.2.2.1.length≤3):jE br w≤200*(n+1):=by
 refine aP Av ?_;have e1:=aP (Aw z.1.2) (bf _ h1);have e2:=aP (Aw z.2.1.2) (bf _ h2);have e3:mA (.sl ay) w.2.2.1≤n*8:=aP (uc z.2.2.1) (Nat.le_of_eq (by kernel_rfl));have e4:=aP (Aw z.2.2.2.1.2) (bf _ h3);have e5:mA (.sl .str) w.2.2.2.2≤n*1:=aP (uc z.2.2.2.2) (Nat.le_of_eq (by kernel_rfl));have q1:Jx n cw=(1+(1+n*1))+((n*9+(n*7+(1+n*1)))+(1+(n*8+n*1))):=by kernel_rfl
 have q2:Jx n (.sl .str)=n*1:=by kernel_rfl
 have q3:Jx n ba=(1+(1+n*1))+(1+(1+1)):=by kernel_rfl
 have s:mA br w=mA (.sl cw) w.1+(mA (.sl (.sl .str)) w.2.1+(mA (.sl ay) w.2.2.1+(mA (.sl ba) w.2.2.2.1+mA (.sl .str) w.2.2.2.2))):=by kernel_rfl
 rw[s];omega
theorem Ui {w:a8}(h:mF br w≤1048576):ES 63000000 w:=by
 have key:∀q:List Bytes,22*q.countP gK≤mF (.sl .str) q:=by
  intro q;induction q with
  |nil=>simp
  |cons x q ih=>
   simp only[mF,cj,List.sum_cons,bD]at ih⊢;by_cases hx:gK x=true;rw[List.countP_cons_of_pos hx];have:22≤x.length:=by simpa[gK]using hx
   omega;rw[List.countP_cons_of_neg hx];omega
 have key2:∀l:List (List Bytes),22*(l.map (λq=>q.countP gK)).sum≤(l.map (mF (.sl .str))).sum:=by intro l;induction l with|nil=>simp|cons q l ih=>have:=key q;simp only[cj,List.sum_cons];omega
 have hq:mF (.sl (.sl .str)) w.2.1≤mF br w:=by
  show _≤mF (.sl cw) w.1+(mF (.sl (.sl .str)) w.2.1+_)
  omega
 have h2:=key2 w.2.1;have h3:((w.2.1.map (mF (.sl .str))).sum:Nat)≤mF (.sl (.sl .str)) w.2.1:=by show _≤w.2.1.length+(w.2.1.map (mF (.sl .str))).sum;omega
 exact⟨1048576,by omega,wC h,by omega⟩
end
end Go.Pu
section
namespace Go.Pu
open Go.Dn
set_option linter.unusedVariables false
set_option linter.unusedSimpArgs false
set_option maxRecDepth 100000
set_option maxHeartbeats 4000000
theorem xt:Lq (.sl .str) gv:=by
 refine Gb (e:=.str) (T:=fW (λ_ y _ z=>some (y,z))) (λl i hi k nx h1 h2 h3 hx=>?_) (λl k nx=>?_)
 ·try simp only[fz,gU,fy,gV,bL,bM,←ch]at h2
  simp only[fW];rw[aj (by omega)];simp (disch:=omega) only[ae,a4 hi,ab,jG,aO,c5,ax,wrap64,ar,W7,kO];try simp only[sY,zl,wu,zm,fz,gU,fy,gV,bL,bM,←ch]
 simp only[fW];rw[ah (by omega)];rfl
theorem Gc:Lq (.sl (.int .i64)) gj:=by
 refine Gb (e:=(.int .i64)) (T:=jd (λ_ y _ z=>some (y,z))) (λl i hi k nx h1 h2 h3 hx=>?_) (λl k nx=>?_)
 ·try simp only[fz,gU,fy,gV,bL,bM,←ch]at h2
  simp only[jd];rw[aj (by omega)];simp (disch:=omega) only[ae,a4 hi,ab,jG,aO,c5,ax,wrap64,ar,W7,kO];try simp only[sY,zl,wu,zm,fz,gU,fy,gV,bL,bM,←ch]
 simp only[jd];rw[ah (by omega)];rfl
theorem Pq:Lq (.sl dk) oA:=El (e:=dk) (T:=oB (λ_ y _ z=>some (y,z))) (f:=cc) (.pair (.int _) (.pair (.int _) (.pair (.int _) (.pair (.int _) (.pair (.int _) (.pair (.int _) (.pair (.int _) (.pair (.int _) (.int _))))))))) kO ⟨trivial,⟨trivial,⟨trivial,⟨trivial,⟨trivial,⟨trivial,⟨trivial,⟨trivial,trivial⟩⟩⟩⟩⟩⟩⟩⟩ (λl k i nx=>by kernel_rfl)
theorem Pr:Lq (.sl cI) oC:=El (e:=cI) (T:=oD (λ_ y _ z=>some (y,z))) (f:=cc) (.pair (.int _) (.pair (.pair (.int _) (.pair (.int _) (.pair (.int _) (.pair (.int _) (.int _))))) (.int _))) kO ⟨trivial,⟨⟨trivial,⟨trivial,⟨trivial,⟨trivial,trivial⟩⟩⟩⟩,trivial⟩⟩ (λl k i nx=>by kernel_rfl)
theorem KB:Lq (.sl bC) l0:=El (e:=bC) (T:=mD (λ_ y _ z=>some (y,z))) (f:=cc) (.pair (.pair (.int _) (.pair (.int _) (.pair (.int _) (.pair (.int _) (.int _))))) (.pair (.int _) (.pair .str .bool))) kO ⟨⟨trivial,⟨trivial,⟨trivial,⟨trivial,trivial⟩⟩⟩⟩,⟨trivial,⟨trivial,trivial⟩⟩⟩ (λl k i nx=>by kernel_rfl)
theorem Ps:Lq (.sl cw) rY:=El (e:=cw) (T:=oE (λ_ y _ z=>some (y,z))) (f:=cc) (.pair (.pair (.int _) (.pair .bool (.sl (e:=(.int .i64)) gj))) (.pair (.pair (.sl (e:=dk) oA) (.pair (.sl (e:=cI) oC) (.pair .str (.sl (e:=(.int .i64)) gj)))) (.pair (.int _) (.pair (.sl (e:=bC) l0) (.sl (e:=.str) gv))))) kO ⟨⟨trivial,⟨trivial,Gc⟩⟩,⟨⟨Pq,⟨Pr,⟨trivial,Gc⟩⟩⟩,⟨trivial,⟨KB,xt⟩⟩⟩⟩ (λl k i nx=>by kernel_rfl)
theorem IB:Lq (.sl (.sl .str)) oF:=by
 refine Gb (e:=(.sl .str)) (T:=fC (λ_ y _ z=>some (y,z))) (λl i hi k nx h1 h2 h3 hx=>?_) (λl k nx=>?_)
 ·try simp only[fz,gU,fy,gV,bL,bM,←ch]at h2
  simp only[fC];rw[aj (by omega)];simp (disch:=omega) only[ae,a4 hi,ab,jG,aO,c5,ax,wrap64,ar,W7,kO,xt _ hx];try simp only[sY,zl,wu,zm,fz,gU,fy,gV,bL,bM,←ch]
 simp only[fC];rw[ah (by omega)];rfl
theorem wI:Lq (.sl ay) gP:=El (e:=ay) (T:=fN (λ_ y _ z=>some (y,z))) (f:=cc) (.pair (.int _) (.pair (.int _) (.pair (.pair (.int _) (.pair (.int _) (.int _))) (.pair .bool (.pair (.int _) (.int _)))))) kO ⟨trivial,⟨trivial,⟨⟨trivial,⟨trivial,trivial⟩⟩,⟨trivial,⟨trivial,trivial⟩⟩⟩⟩⟩ (λl k i nx=>by kernel_rfl)
theorem IA:Lq (.sl ba) oz:=El (e:=ba) (T:=ly (λ_ y _ z=>some (y,z))) (f:=cc) (.pair (.pair (.int _) (.pair .bool (.sl (e:=(.int .i64)) gj))) (.pair (.int _) (.pair (.int _) (.int _)))) kO ⟨⟨trivial,⟨trivial,Gc⟩⟩,⟨trivial,⟨trivial,trivial⟩⟩⟩ (λl k i nx=>by kernel_rfl)
theorem xN (a:a8):jE br a=jE (.sl cw) a.1+(jE (.sl (.sl .str)) a.2.1+(jE (.sl ay) a.2.2.1+(jE (.sl ba) a.2.2.2.1+(jE (.sl .str) a.2.2.2.2)))):=rfl
theorem Iu (a:a8)(k:Int):Ix br a k=(Ix (.sl cw) a.1 (k),Ix (.sl (.sl .str)) a.2.1 (k+((jE (.sl cw) a.1:Nat):Int)),Ix (.sl ay) a.2.2.1 (k+((jE (.sl cw) a.1:Nat):Int)+((jE (.sl (.sl .str)) a.2.1:Nat):Int)),Ix (.sl ba) a.2.2.2.1 (k+((jE (.sl cw) a.1:Nat):Int)+((jE (.sl (.sl .str)) a.2.1:Nat):Int)+((jE (.sl ay) a.2.2.1:Nat):Int)),Ix (.sl .str) a.2.2.2.2 (k+((jE (.sl cw) a.1:Nat):Int)+((jE (.sl (.sl .str)) a.2.1:Nat):Int)+((jE (.sl ay) a.2.2.1:Nat):Int)+((jE (.sl ba) a.2.2.2.1:Nat):Int))):=by simp only[Iz,Mj,Iy,Mk,DT,Ha,DS,Hb,bL,Int.natCast_zero,Int.add_zero,←ch]
theorem IK:MtM br lx:=by intro a h k h1 h2;rw[xN]at h2;simp (disch:=omega) only[lx,ab,Ps.top _ h.1,IB.top _ h.2.1,wI.top _ h.2.2.1,IA.top _ h.2.2.2.1,xt.top _ h.2.2.2.2];rw[Iu,xN];refine congrArg some (Prod.ext (by simp only;omega) ?_);first|rfl|simp only[Iz,Mj,Iy,Mk,DT,Ha,DS,Hb,bL,Int.natCast_zero,Int.add_zero,←ch]
theorem xk:Lp (.sl .str) gu:=by
 refine Ga (e:=.str) (H:=λv=>fV (λy _=>some y) (λ_ y _=>some y) v 0) (λl i hi x k nx hm h1 h2 h3 hx=>?_) (λl k nx=>?_)
 ·try simp only[fz,gU,fy,gV,bL,bM,←ch]at h2
  try simp only[sY,zl,wu,zm,fz,gU,fy,gV,bL,bM,←ch]at hm
  simp only[fV];rw[aj (by omega)];simp (disch:=omega) only[ae,a4 hi,hm,ab,dP,dF,au,af,wrap64,ar,W7,vV,kO];try simp only[fz,gU,fy,gV,bL,bM,←ch]
 simp only[fV];rw[ah (by omega)];rfl
theorem FY:Lp (.sl (.int .i64)) gi:=by
 refine Ga (e:=(.int .i64)) (H:=λv=>jc (λy _=>some y) (λ_ y _=>some y) v 0) (λl i hi x k nx hm h1 h2 h3 hx=>?_) (λl k nx=>?_)
 ·try simp only[fz,gU,fy,gV,bL,bM,←ch]at h2
  try simp only[sY,zl,wu,zm,fz,gU,fy,gV,bL,bM,←ch]at hm
  simp only[jc];rw[aj (by omega)];simp (disch:=omega) only[ae,a4 hi,hm,ab,dP,dF,au,af,wrap64,ar,W7,vV,kO];try simp only[fz,gU,fy,gV,bL,bM,←ch]
 simp only[jc];rw[ah (by omega)];rfl
theorem OY:Lp (.sl dk) ot:=Ek (e:=dk) (H:=λv=>ou (λy _=>some y) (λ_ y _=>some y) v 0) (bad:=λ_ i k=>some (-1)) (f:=cc) (.pair (.int _) (.pair (.int _) (.pair (.int _) (.pair (.int _) (.pair (.int _) (.pair (.int _) (.pair (.int _) (.pair (.int _) (.int _))))))))) kO ⟨trivial,⟨trivial,⟨trivial,⟨trivial,⟨trivial,⟨trivial,⟨trivial,⟨trivial,trivial⟩⟩⟩⟩⟩⟩⟩⟩ (λl k i nx=>by kernel_rfl)
theorem OZ:Lp (.sl cI) ov:=Ek (e:=cI) (H:=λv=>ow (λy _=>some y) (λ_ y _=>some y) v 0) (bad:=λ_ i k=>some (-1)) (f:=cc) (.pair (.int _) (.pair (.pair (.int _) (.pair (.int _) (.pair (.int _) (.pair (.int _) (.int _))))) (.int _))) kO ⟨trivial,⟨⟨trivial,⟨trivial,⟨trivial,⟨trivial,trivial⟩⟩⟩⟩,trivial⟩⟩ (λl k i nx=>by kernel_rfl)
theorem J9:Lp (.sl bC) lZ:=Ek (e:=bC) (H:=λv=>mC (λy _=>some y) (λ_ y _=>some y) v 0) (bad:=λ_ i k=>some (-1)) (f:=cc) (.pair (.pair (.int _) (.pair (.int _) (.pair (.int _) (.pair (.int _) (.int _))))) (.pair (.int _) (.pair .str .bool))) kO ⟨⟨trivial,⟨trivial,⟨trivial,⟨trivial,trivial⟩⟩⟩⟩,⟨trivial,⟨trivial,trivial⟩⟩⟩ (λl k i nx=>by kernel_rfl)
theorem O0:Lp (.sl cw) rX:=Ek (e:=cw) (H:=λv=>ox (λy _=>some y) (λ_ y _=>some y) v 0) (bad:=λ_ i k=>some (-1)) (f:=cc) (.pair (.pair (.int _) (.pair .bool (.sl (e:=(.int .i64)) gi))) (.pair (.pair (.sl (e:=dk) ot) (.pair (.sl (e:=cI) ov) (.pair .str (.sl (e:=(.int .i64)) gi)))) (.pair (.int _) (.pair (.sl (e:=bC) lZ) (.sl (e:=.str) gu))))) kO ⟨⟨trivial,⟨trivial,FY⟩⟩,⟨⟨OY,⟨OZ,⟨trivial,FY⟩⟩⟩,⟨trivial,⟨J9,xk⟩⟩⟩⟩ (λl k i nx=>by kernel_rfl)
theorem HY:Lp (.sl (.sl .str)) oy:=by
 refine Ga (e:=(.sl .str)) (H:=λv=>fB (λy _=>some y) (λ_ y _=>some y) v 0) (λl i hi x k nx hm h1 h2 h3 hx=>?_) (λl k nx=>?_)
 ·try simp only[fz,gU,fy,gV,bL,bM,←ch]at h2
  try simp only[sY,zl,wu,zm,fz,gU,fy,gV,bL,bM,←ch]at hm
  simp only[fB];rw[aj (by omega)];simp (disch:=omega) only[ae,a4 hi,hm,ab,dP,dF,au,af,wrap64,ar,W7,vV,kO,xk _ hx];try simp only[fz,gU,fy,gV,bL,bM,←ch]
 simp only[fB];rw[ah (by omega)];rfl
theorem wH:Lp (.sl ay) gO:=Ek (e:=ay) (H:=λv=>fM (λy _=>some y) (λ_ y _=>some y) v 0) (bad:=λ_ i k=>some (-1)) (f:=cc) (.pair (.int _) (.pair (.int _) (.pair (.pair (.int _) (.pair (.int _) (.int _))) (.pair .bool (.pair (.int _) (.int _)))))) kO ⟨trivial,⟨trivial,⟨⟨trivial,⟨trivial,trivial⟩⟩,⟨trivial,⟨trivial,trivial⟩⟩⟩⟩⟩ (λl k i nx=>by kernel_rfl)
theorem HX:Lp (.sl ba) oq:=Ek (e:=ba) (H:=λv=>lv (λy _=>some y) (λ_ y _=>some y) v 0) (bad:=λ_ i k=>some (-1)) (f:=cc) (.pair (.pair (.int _) (.pair .bool (.sl (e:=(.int .i64)) gi))) (.pair (.int _) (.pair (.int _) (.int _)))) kO ⟨⟨trivial,⟨trivial,FY⟩⟩,⟨trivial,⟨trivial,trivial⟩⟩⟩ (λl k i nx=>by kernel_rfl)
theorem O2:MtH br jb:=by intro a h k h1 h2;rw[xN]at h2;rw[Iu];simp (disch:=omega) only[jb,ab,O0.top _ h.1,HY.top _ h.2.1,wH.top _ h.2.2.1,HX.top _ h.2.2.2.1,xk.top _ h.2.2.2.2,vV,af];rw[xN];refine congrArg some (by omega)
end Go.Pu
end
namespace Go.Pu
open Go.Dn
set_option linter.unusedSimpArgs false
set_option linter.unusedVariables false
noncomputable section
theorem FN (a:a8)(c:fZ)(v:Int)(ha:nO br a)(hc:nO ft c)(hv:nO (.int .i64) v):mB a c v=some true:=by
 unfold mB;refine(P1 a ha).use (by omega) (by omega) λhl=>?_;refine(Lf c hc).use (by omega) (by omega) λhl2=>?_;have hA:bK 1048576 br a:=wC (by omega);have hC:bK 1048576 ft c:=wC (by omega);have hI:ES 63000000 a:=Ui (by omega);have hs:=I7 a c v _ hI (by omega) (hC.mono (by omega)) hc.2.2.2.1.1.2;have hi:=H6 a c v _ hI (by omega) (hC.mono (by omega));obtain⟨n,_,hR,hn⟩:=FL (a:=c) (v:=v) hI;have hR:bK 70000000 br (gy a c v):=hR.mono (by omega);have c1:jE br a≤Jx 1048576 br:=aP Av (uc hA);have b1:Jx 1048576 br≤900000000000000:=by decide
 have c2:jE br (gy a c v)≤900000000000000:=by
  cases hb:kJ a with
  |false=>
   have:gy a c v=a:=by unfold gy SU;rw[hb];rfl
   rw[this];omega
  |true=>have h4:=vE hb;have hnn:=JX a c v;exact aP (M3 hR (by omega) (by omega) (by omega)) (by omega)
 generalize gy a c v=q at hs hi hR c2;have m1:=IK a (hA.mono (by omega)) 1 (by omega) (by omega);have m2:=IK q (hR.mono (by omega)) 1 (by omega) (by omega);have m3:∀t,t=Ix br q 1→jb t 1=some (1+(jE br q:Int)):=by rintro _ rfl;exact O2 q (hR.mono (by omega)) 1 (by omega) (by omega)
 simp (disch:=omega) only[Rh a hA,Lj c hC,ab,hs,hi,HD q (hR.mono (by omega)),HD a (hA.mono (by omega)),dF,dP,au,af,m1,m2,vV];rw[m3];simp (disch:=omega) only[ab,vV,af,dP];rfl
end
end Go.Pu
