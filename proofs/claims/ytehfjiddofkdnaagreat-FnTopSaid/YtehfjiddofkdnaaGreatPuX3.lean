import Derived.KernelRfl
import Derived.Test.YtehfjiddofkdnaaGreatPure
import Derived.Test.YtehfjiddofkdnaaGreatPuX2
open Bool renaming false->G,true->O
open Decidable renaming decide->ay
open Option renaming some->I
namespace Go.Pu
open Go.Dn
open Int (tmod)
set_option linter.unusedSimpArgs false
set_option linter.unusedVariables false
noncomputable section
variable {x:Bytes} {h:Host} {a d z:Int} {hd k:Nat} {p:bQ} {g:jQ} {s:HP} {t:eT} {R α:Type} {l:Z cE} {ps:Z ic} {L:Z cL} {m m':cL} {f:cL×dq} {r:rn}
/- Plain laws of the pure functions. -/
structure Co (n:Nat) (h:Host):Prop where
 z:cJ n fC h
 t:h.2.2.1.2.1.2.2.2.length+(bM h.2.2.1.2.2.1).length<=n
theorem Co.mono {n m}(k:Co n h)(hn:n<=m:=by omega):Co m h:=⟨k.z.mono hn,bf k.t hn⟩
theorem Co.sz {n}(k:Co n h)(hn:n<=10^9:=by omega):KX h:=by have z:cJ 1000000000 fC h:=k.z.mono hn;exact⟨z.1.1,z.2.1.1,z.2.2.1.2.2.1.1,bf k.t hn,z.2.2.2.2.2.2.2.1.2.2.1,z.2.2.2.2.2.2.2.2.1.1.1,z.2.2.2.2.2.2.2.2.1.2.1.1,z.2.2.2.2.2.2.2.2.1.2.2.2.1,λp a=>(z.2.2.2.2.1.2 p a).2.2.2.1⟩
theorem Co.of (k:szC fC h<=1048576):Co 1048576 h:=by refine⟨Sb k,?_⟩;have a:=aka h.2.2.1.2.2.1;simp_all[szC];omega
def qn (p:gL):Z xw->gL
 |[]=>p
 |x::l=>qn (H4 p x.2.2).1 l
theorem N7:∀(l:Z xw)(p:gL),(qn p l).2.2.2.length<=p.2.2.2.length+(bM l).length
 |[],p=>by simp[qn]
 |x::l,p=>by have a:=aep p x.2.2;have b:=N7 l (H4 p x.2.2).1;grind[qn,bM]
theorem SM:∀(l:Z xw)(p:gL)(x:xw),qn p (l++[x])=(H4 (qn p l) x.2.2).1
 |[],p,x=>rfl
 |y::l,p,x=>by rw[jm,qn,qn,SM l]
theorem V5 a b:(bM (a++b)).length=(bM a).length+(bM b).length:=by grind[bM]
theorem V6 l n:(bM (l.take n)).length+(bM (l.drop n)).length=(bM l).length:=by rw[<-V5,cH]
def lC (t:eT)(n:Int):eT×dw:=
 bif Ql t&&dF n 0 (t.2.2.1.length:Int) then((t.1,qn t.2.1 (t.2.2.1.take n.toNat),t.2.2.1.drop n.toNat,t.2.2.2),(t.2.2.1.take n.toNat).map (·.1)) else(t,[])
theorem akW {l}(h:(bM l).length<=10^9:=by omega):∀x∈l,x.2.2.length<=10^9:=by intro x a;induction l with|nil=>cases a|cons y l b=>grind[bM]
theorem aco t n(e:t.2.2.1.length<=10^9)(hs:t.2.1.2.2.2.length+(bM t.2.2.1).length<=10^9):qo t n=I (lC t n):=by
 have f:=akW (l:=t.2.2.1);unfold qo lC;rw[PY t ⟨J,e,f⟩,aa,aie t e hs];simp only[aa,cP];cases Ql t;rfl;cases hn:dF n 0 (t.2.2.1.length:Int);rfl;have h:=aR.1 hn;obtain⟨n,rfl⟩:=ar h.1;have j:n<=t.2.2.1.length:=J;simp only[ak,ab,aa,bR,ae,au];rw[FJ J J,aa,au];have c:(t.2.2.1.take n).length=n:=by rw[bp];omega
 rw[c];refine bJ (λi=>(((t.2.2.1.take i).map (·.1),(i:Int),t.1,qn t.2.1 (t.2.2.1.take i),t.2.2):dw×Int×eT)) n J (λi k q=>?_) (λk=>?_);have b:i<(t.2.2.1.take n).length:=J;have a:i<t.2.2.1.length:=J;have g:(t.2.2.1.take n)[i]=t.2.2.1[i]:=List.getElem_take ..;have m:=N7 (t.2.2.1.take i) t.2.1;have o:=V6 t.2.2.1 (i+1);have p:(bM (t.2.2.1.take (i+1))).length=(bM (t.2.2.1.take i)).length+t.2.2.1[i].2.2.length:=by rw[aM a,V5];simp[bM]
 simp only[mX];rw[iG,ae,aP b,g,aa,W3 _ _ J,aa,aU (by simp only[bt,bp,aO];omega),aj J J,aM a,SM,df];rfl;simp only[mX];rw[ga,ab,zV (l:=t.2.2.1) n j rfl,aa,QS _ (by rw[bA];omega) (λx d=>f x (List.mem_of_mem_drop d)),aa]
theorem ac4 t n(b:t.2.2.1.length<=10^9)(hs:t.2.1.2.2.2.length+(bM t.2.2.1).length<=10^9):qH t n=I (lC t n):=by
 have d:=akW (l:=t.2.2.1);unfold qH lC;rw[Iz t ⟨J,b,d⟩,aa,ajz t b hs];simp only[aa,cz];cases Ql t;rfl;cases hn:dF n 0 (t.2.2.1.length:Int);rfl;have h:=aR.1 hn;obtain⟨n,rfl⟩:=ar h.1;have c:n<=t.2.2.1.length:=J;simp only[ak,ab,aa,bR,ae,au];refine bJ (λi=>(((t.2.2.1.take i).map (·.1),(i:Int),t.1,qn t.2.1 (t.2.2.1.take i),t.2.2):dw×Int×eT)) n J (λi e k=>?_) (λe=>?_);have a:i<t.2.2.1.length:=J;have f:=N7 (t.2.2.1.take i) t.2.1;have g:=V6 t.2.2.1 (i+1);have j:(bM (t.2.2.1.take (i+1))).length=(bM (t.2.2.1.take i)).length+t.2.2.1[i].2.2.length:=by rw[aM a,V5];simp[bM]
 simp only[nh];rw[iG,ae,aP a,aa,aU (by simp only[bt,bp,aO];omega),aa,X7 _ _ J,aa,aj J J,aM a,SM,df];rfl;simp only[nh];rw[ga,ab,zV (l:=t.2.2.1) n c rfl,aa]
theorem ZM (n:Int):∀l:Z xw,l.all (lT n)=O->(l.length:Int)<=eI l
 |[],_=>by simp[eI]
 |x::l,h=>by simp only[cC,af]at h;have:=ZM n l h.2;grind[lT,aR,eI]
theorem LY (h:Ql t=O):t.2.2.1.length<=16:=by unfold Ql at h;simp only[af,bO]at h;have a:=ZM _ _ h.2.2.2.1;have b:=(pF h.1).2.2.1;omega
theorem K2 n(z:cJ k J9 t)(hs:t.2.1.2.2.2.length+(bM t.2.2.1).length<=k): cJ k J9 (lC t n).1/\(lC t n).1.2.1.2.2.2.length+(bM (lC t n).1.2.2.1).length<=k/\(lC t n).2.length<=16:=by unfold lC;cases h:Ql t&&dF n 0 (t.2.2.1.length:Int)with|false=>exact⟨z,hs,cg _⟩|true=>simp only[af]at h;have a:=LY h.1;have c:=N7 (t.2.2.1.take n.toNat) t.2.1;have d:=V6 t.2.2.1 n.toNat;have e:t.2.2.1.length<=k:=z.2.2.1.1;refine⟨⟨z.1,⟨B,B,B,?_,λ_ _=>trivial⟩,⟨?_,λx b=>z.2.2.1.2 x (List.mem_of_mem_drop b)⟩,z.2.2.2⟩,?_,?_⟩;show(qn t.2.1 (t.2.2.1.take n.toNat)).2.2.2.length<=k;omega;show(t.2.2.1.drop n.toNat).length<=k;rw[bA];omega;show(qn t.2.1 (t.2.2.1.take n.toNat)).2.2.2.length+(bM (t.2.2.1.drop n.toNat)).length<=k;omega;show((t.2.2.1.take n.toNat).map (·.1)).length<=16;rw[bt,bp];omega
theorem Ks {n t}{l q:Z t.D}(z:cJ n (.sl t) l)(a:∀y∈q,cJ n t y)(c:q.length<=k):cJ (n+k) (.sl t) (l++q):=by refine⟨?_,λy b=>?_⟩;show(l++q).length<=n+k;have:=z.1;rw[aq];omega;rcases aB.1 b with h|h;exact(z.2 y h).mono;exact(a y h).mono
def cS (h:Host):Host:=bif eJ h then
    (h.1,h.2.1,(lC ((mh h.2.1 h.1 0 h.2.2.1.1).1,h.2.2.1.2) (if(h.2.2.1.2.2.1.length:Int)<V ((mh h.2.1 h.1 0 h.2.2.1.1).2.2.1+(mh h.2.1 h.1 0 h.2.2.1.1).2.2.2) then(h.2.2.1.2.2.1.length:Int) else V ((mh h.2.1 h.1 0 h.2.2.1.1).2.2.1+(mh h.2.1 h.1 0 h.2.2.1.1).2.2.2))).1,
      h.2.2.2.1,h.2.2.2.2.1,h.2.2.2.2.2.1,h.2.2.2.2.2.2.1,h.2.2.2.2.2.2.2.1,h.2.2.2.2.2.2.2.2.1,h.2.2.2.2.2.2.2.2.2.1,h.2.2.2.2.2.2.2.2.2.2.1,h.2.2.2.2.2.2.2.2.2.2.2.1++(mh h.2.1 h.1 0 h.2.2.1.1).2.1,
      h.2.2.2.2.2.2.2.2.2.2.2.2.1++(lC ((mh h.2.1 h.1 0 h.2.2.1.1).1,h.2.2.1.2) (if(h.2.2.1.2.2.1.length:Int)<V ((mh h.2.1 h.1 0 h.2.2.1.1).2.2.1+(mh h.2.1 h.1 0 h.2.2.1.1).2.2.2) then(h.2.2.1.2.2.1.length:Int) else V ((mh h.2.1 h.1 0 h.2.2.1.1).2.2.1+(mh h.2.1 h.1 0 h.2.2.1.1).2.2.2))).2,h.2.2.2.2.2.2.2.2.2.2.2.2.2) else h
theorem Q3 h(k:Co 900000000 h):qu h=I (cS h):=by have z:cJ 1000000000 fC h:=k.z.mono;have e:=k.sz;have i:h.1.length<=900000000:=k.z.1.1;have g:h.2.1.length<=900000000:=k.z.2.1.1;have j:h.2.2.1.2.2.1.length<=900000000:=k.z.2.2.1.2.2.1.1;have c:h.2.2.2.2.2.2.2.2.2.2.2.1.length<=900000000:=k.z.2.2.2.2.2.2.2.2.2.2.2.1.1;have b:h.2.2.2.2.2.2.2.2.2.2.2.2.1.length<=900000000:=k.z.2.2.2.2.2.2.2.2.2.2.2.2.1.1;have a:=HO h.2.1 h.1 0 17 [] 0 0 h.2.2.1.1 (λx d=>by cases d);unfold qu cS;rw[mu h z,aa,CF h e,aa];cases eJ h;rfl;simp only[ak,ab,ae,amB h.2.1 h.1 0 _ (J:h.2.1.length<=10^9) (J:h.1.length<=10^9),aa];rw[show lQ h.2.1 h.1 0 17 [] 0 0 h.2.2.1.1=mh h.2.1 h.1 0 h.2.2.1.1 from rfl]at a;generalize mh h.2.1 h.1 0 h.2.2.1.1=x at a⊢;simp only[fF]at a;have f:=K2 (k:=900000000) (t:=(x.1,h.2.2.1.2)) (if(h.2.2.1.2.2.1.length:Int)<V (x.2.2.1+x.2.2.2) then(h.2.2.1.2.2.1.length:Int) else V (x.2.2.1+x.2.2.2)) ⟨⟨B,B,B,B⟩,k.z.2.2.1.2⟩ k.t;rw[aU J,aco (x.1,h.2.2.1.2) _ gA (bf k.t J),aa,aU J]
theorem R3 h(k:Co 900000000 h):qM h=I (cS h):=by have z:cJ 1000000000 fC h:=k.z.mono;have e:=k.sz;have i:h.1.length<=900000000:=k.z.1.1;have g:h.2.1.length<=900000000:=k.z.2.1.1;have j:h.2.2.1.2.2.1.length<=900000000:=k.z.2.2.1.2.2.1.1;have c:h.2.2.2.2.2.2.2.2.2.2.2.1.length<=900000000:=k.z.2.2.2.2.2.2.2.2.2.2.2.1.1;have b:h.2.2.2.2.2.2.2.2.2.2.2.2.1.length<=900000000:=k.z.2.2.2.2.2.2.2.2.2.2.2.2.1.1;have a:=HO h.2.1 h.1 0 17 [] 0 0 h.2.2.1.1 (λx d=>by cases d);unfold qM cS;rw[mF h z,aa,vI h e,aa];cases eJ h;rfl;simp only[ak,ab,ae,an4 h.2.1 h.1 0 _ (J:h.2.1.length<=10^9) (J:h.1.length<=10^9),aa];rw[show lQ h.2.1 h.1 0 17 [] 0 0 h.2.2.1.1=mh h.2.1 h.1 0 h.2.2.1.1 from rfl]at a;generalize mh h.2.1 h.1 0 h.2.2.1.1=x at a⊢;simp only[fF]at a;have f:=K2 (k:=900000000) (t:=(x.1,h.2.2.1.2)) (if(h.2.2.1.2.2.1.length:Int)<V (x.2.2.1+x.2.2.2) then(h.2.2.1.2.2.1.length:Int) else V (x.2.2.1+x.2.2.2)) ⟨⟨B,B,B,B⟩,k.z.2.2.1.2⟩ k.t;rw[aU J,ac4 (x.1,h.2.2.1.2) _ gA (bf k.t J),aa,aU J]
theorem Hz {n}(hn:400<=n)(k:Co n h):Co (n+5440) (cS h):=by have c:Co (n+5440) h:=k.mono;have a:=HO h.2.1 h.1 0 17 [] 0 0 h.2.2.1.1 (λx d=>by cases d);unfold cS;cases eJ h;exact c;rw[show lQ h.2.1 h.1 0 17 [] 0 0 h.2.2.1.1=mh h.2.1 h.1 0 h.2.2.1.1 from rfl]at a;generalize mh h.2.1 h.1 0 h.2.2.1.1=x at a⊢;simp only[fF]at a;generalize (if(h.2.2.1.2.2.1.length:Int)<V (x.2.2.1+x.2.2.2) then(h.2.2.1.2.2.1.length:Int) else V (x.2.2.1+x.2.2.2))=q;have b:=K2 (k:=n) (t:=(x.1,h.2.2.1.2)) q ⟨⟨B,B,B,B⟩,k.z.2.2.1.2⟩ k.t;have z:=c.z;refine⟨⟨z.1,z.2.1,b.1.mono,z.2.2.2.1,z.2.2.2.2.1,z.2.2.2.2.2.1,z.2.2.2.2.2.2.1,z.2.2.2.2.2.2.2.1,z.2.2.2.2.2.2.2.2.1,z.2.2.2.2.2.2.2.2.2.1,B,?_,?_,z.2.2.2.2.2.2.2.2.2.2.2.2.2⟩,bf b.2.1 J⟩;exact Ks (t:=.str) (n:=n) (k:=5440) k.z.2.2.2.2.2.2.2.2.2.2.2.1 (λy e=>by show y.length<=_;grind) J;exact(Ks (t:=.int .i64) (n:=n) (k:=16) k.z.2.2.2.2.2.2.2.2.2.2.2.2.1 (λ_ _=>trivial) b.2.2).mono
def vm (l:Z cE)(d:Int)(p:gL)(z:Nat):dw->Bytes->cL->Z ic->aS (Z ic×cL)
 |[],_,m,a=>I (a,m)
 |b::q,s,m,a=>bif (ko l m d (mU p b) (s.take z) G).2 then vm l d p z q (s.drop z) (ko l m d (mU p b) (s.take z) G).1 (a++[(mU p b,((s.take z).length:Int))]) else none
theorem Kf (l:Z cE)(d:Int)(p:gL)(z:Nat):∀(q:dw)(s:Bytes)(m:cL)(a:Z ic){x},vm l d p z q s m a=I x->
 x.2.length=m.length/\x.1.length=a.length+q.length/\∀y∈x.1,y∈a\/((∃b∈q,y.1=mU p b)/\0<=y.2/\y.2<=(z:Int))
 |[],s,m,a,x,h=>by cases h;exact⟨rfl,rfl,λy e=>Or.inl e⟩
 |b::q,s,m,a,x,h=>by rw[vm]at h;cases i:(ko l m d (mU p b) (s.take z) G).2 with|false=>rw[i]at h;cases h|true=>rw[i]at h;obtain⟨f,n,o⟩:=Kf l d p z q _ _ _ h;rw[pe]at f;rw[aq,aO]at n;refine⟨f,by rw[bj];omega,λy e=>?_⟩;rcases o y e with g|⟨⟨j,c,g⟩,k⟩;rcases aB.1 g with g|g;exact Or.inl g;rw[aY.1 g];refine Or.inr ⟨⟨b,List.mem_cons_self ..,rfl⟩,?_,?_⟩;show(0:Int)<=((s.take z).length:Int);omega;show((s.take z).length:Int)<=(z:Int);rw[bp];omega;exact Or.inr ⟨⟨j,cy _ c,g⟩,k⟩
theorem Vn p i: -1<=mU p i/\mU p i<=139136:=by unfold mU;cases a: !eD p|| !dF i 0 (p.2.2.1-1)with|true=>grind|false=>simp only[dj,eH]at a;have h:=Jm a.1;have b:=aR.1 a.2;have c:0<=i*p.2.1:=Int.mul_nonneg b.1 J;have d:i*p.2.1<=16*512:=Int.mul_le_mul J J J J;simp only[ab];omega
theorem aoS {p}(c:eD p=O){b}(f:b∈p.2.2.2):0<=mU p b:=by obtain⟨i,a,rfl⟩:=fP f;have d:=c;simp only[eD,af]at d;have:=aL.1 d.2.2.2 i (bK.2 a);simp only[H3,af,cU a]at this;have g:=this.1;have h:=Jm c;have e:=aR.1 g;have j:0<=p.2.2.2[i]*p.2.1:=Int.mul_nonneg e.1 J;grind[mU]
theorem agI (s:Bytes)(z:Nat):sub s 0 (if(s.length:Int)<(z:Int) then(s.length:Int) else(z:Int))=I (s.take z):=by grind[FJ,cd]
theorem adZ (s:Bytes)z:sub s ((s.take z).length:Int) (s.length:Int)=I (s.drop z):=by grind[KR,List.drop_eq_nil_of_le]
def aow:aS (Z ic×cL)->aS (Bool×cL×Z ic×Bool)->Prop
 |some x,r=>r=I (O,x.2,x.1,O)
 |none,r=>∃c m,r=I (c,m,[],G)
theorem O0 (l:Z cE)(d:Int)(p:gL)(z:Nat)(B:cL)(t:p.2.2.2.length<=10^9)(o:l.length<=10^9):∀(e c:dw)(s:Bytes)(m:cL)(a:Z ic)(f:Nat),e.length<f->(c++e).length<=1000000->a.length+e.length<=1000000->m.length<=10^9->
 aow (vm l d p z e s m a) (aQ (nJ (λ_ g _ h=>I (O,h,g,O)) (λ_ i j _ _ _ k=>I (O,k,i,j)) l d (z:Int) ([]:Z ic) G (c++e) ((c++e).length:Int) p B) f (s,a,(c.length:Int),m))
 |e,c,s,m,a,0,hf,_,_,_=>J
 |[],c,s,m,a,f+1,_,_,_,_=>by rw[aQ];simp only[nJ];rw[aw aD,ab];rfl
 |b::q,c,s,m,a,f+1,hf,hn,u,r=>by simp only[bj,aq]at hf hn u;have w:c.length<(c++b::q).length:=aD;have v:(c++b::q)[c.length]=b:=aD;have y:=Vn p b;rw[aQ];simp only[nJ];rw[ax (by simp;omega),aP w,v];simp only[ae,aa,agI,adZ,QR p b t,JM l m d (mU p b) (s.take z) o r];rw[vm];cases A:(ko l m d (mU p b) (s.take z) G).2 with|false=>exact⟨_,_,rfl⟩|true=>simp only[ak,ab,ae];rw[aj (n:=(c.length:Int)+1) J J,aU gA];have x:=O0 l d p z B t o q (c++[b]) (s.drop z) (ko l m d (mU p b) (s.take z) G).1 (a++[(mU p b,((s.take z).length:Int))]) f J (by simp;omega) (by simp;omega) (by rw[pe];exact r);grind
theorem amg l m d p q s z(e:p.2.2.2.length<=10^9)(a:l.length<=10^9)(c:m.length<=10^9)(i:q.length<=1000)(f:0<q.length): aow (vm l d p z q s m []) (sS l m d p q s (z:Int)):=by have g:=dB;cases q with|nil=>cases f|cons b q=>simp only[bj]at i;have k:=Vn p b;have h:idx (b::q) 0=I b:=rfl;unfold sS;rw[ax aD,ae,h];simp only[aa,agI,adZ,QR p b e,JM l m d (mU p b) (s.take z) a c];rw[vm];cases j:(ko l m d (mU p b) (s.take z) G).2 with|false=>exact⟨_,_,rfl⟩|true=>simp only[ak,ab,ae];rw[aU aD,show V (0+1)=1 from rfl];exact O0 l d p z _ e a q [b] (s.drop z) (ko l m d (mU p b) (s.take z) G).1 [(mU p b,((s.take z).length:Int))] fuel J (by simp;omega) (by simp;omega) (by rw[pe];exact c)
theorem Pa (K:Z ic->Int->cL->aS (cL×eT×Bool))(l:Z cE)(d c N:Int)(z:Nat)(t:Bytes)(M:cL)(A w:eT)(v:cL)(y:gL)(L:A.2.1.2.2.2.length<=10^9)(E:l.length<=10^9)(Q:M.length<=10^9)(C:ag4 A)(T:t.length<=1000)(U:z<=1000):∀(h e:dw)(m:cL)(a:Z ic)(f:Nat),h.length<f->(e++h).length<=1000->a.length+h.length<=1000000->m.length<=10^9->(∀i<(e++h).length,i*z<=t.length)->N=((e++h).length:Int)->
 aQ (nM K (λr _ _ s u _=>I (s,u,r)) l d c (z:Int) G t N (e++h) M A v w y) f (a,(e.length:Int),m)=
  (match vm l d A.2.1 z h (t.drop (e.length*z)) m a with|some x=>K x.1 N x.2|none=>I (M,A,G))
 |h,e,m,a,0,hf,_,_,_,_,_=>J
 |[],e,m,a,f+1,_,_,_,_,_,o=>by rw[aQ];simp only[nM];rw[aw (by rw[o];simp),ab,o,bm];rfl
 |b::q,e,m,a,f+1,hf,hn,R,H,j,o=>by
  simp only[bj]at hf R;have D:e.length<(e++b::q).length:=aD;have S:(e++b::q)[e.length]=b:=aD;have X:=Vn A.2.1 b;have P:=j e.length D;have B:(e.length+1)*z=e.length*z+z:=Nat.succ_mul ..;have hs:sub t (V ((e.length:Int)*(z:Int))) (if V (V ((e.length:Int)+1)*(z:Int))<(t.length:Int) then V (V ((e.length:Int)+1)*(z:Int)) else(t.length:Int))=I ((t.drop (e.length*z)).take z):=by rw[aj (n:=(e.length:Int)+1) J J,(aD:(e.length:Int)*(z:Int)=((e.length*z:Nat):Int)),show((e.length:Int)+1)*(z:Int)=((e.length*z+z:Nat):Int) by rw[<-B];simp];generalize e.length*z=g at P⊢;rw[aj (n:=(g:Int)) J J,aj (n:=((g+z:Nat):Int)) J J];by_cases F:((g+z:Nat):Int)<(t.length:Int);rw[aI F];unfold sub;rw[zip];simp only[au,bI];rw[List.drop_take,Nat.add_sub_cancel_left];rw[aK F];unfold sub;rw[zip];simp only[au,bI];rw[cd (bq _),cd (by rw[bA];omega)]
  rw[aQ];simp only[nM];rw[iG,ae,hs,aP D,S];simp only[aa,X4 A.2.1 b L,Pc l m d (mU A.2.1 b) _ E H (J:mU A.2.1 b<=9223372036854775807)];rw[vm];cases Y:(ko l m d (mU A.2.1 b) ((t.drop (e.length*z)).take z) G).2 with|false=>simp only[bS,ae,ab,kG M,Iz A C,aa]|true=>simp only[ak,ab,ae];rw[aj (n:=(e.length:Int)+1) J J,aU (by simp only[aO];omega)];have k:=Pa K l d c N z t M A w v y L E Q C T U q (e++[b]) (ko l m d (mU A.2.1 b) ((t.drop (e.length*z)).take z) G).1 (a++[(mU A.2.1 b,(((t.drop (e.length*z)).take z).length:Int))]) f J (by simpa using hn) (by simp;omega) (by rw[pe];exact H) (by simpa using j) (by simpa using o);have el:((e++[b]).length:Int)=(e.length:Int)+1:=aD;have p:(e++[b]).length=e.length+1:=aD;rw[aH,List.singleton_append,el,p,B,<-fM]at k;exact k
theorem Wg {c}(o:0<ps.length)(i:ps.length<=16)(b:∀x∈ps,0<=x.1/\x.1<=200000/\0<=x.2/\x.2<=4096)(e:dF z 1 128=O)(k:dF c 0 65535=O):(iu ps z c).length=ps.length+1:=by
 have n:=aR.1 e;have l:=aR.1 k;have f:oa ps=true:=by unfold oa;rw[af,aW,bO];refine⟨List.any_eq_false.2 λx m=>?_,J⟩;have:=b x m;unfold F3;rw[ga,cq,aW,Bool.eq_false_iff];intro h;exact h (aR.2 J)
 have g:([((2:Int),(0:Int),(0:Int),(0:Int),z,c)]++kV ps c ps.length).all ot=true:=by rw[List.all_append,af];constructor;simp only[cC,List.all_nil,gB,ot,af,aR];omega;rw[NX];refine aL.2 λj a=>?_;have a:=bK.1 a;have:=b _ (az a);simp only[dsc,cU a,ot,af,aR];refine⟨J,?_,J,J,J,J⟩;by_cases d:j+1=ps.length;rw[aI d];omega;rw[aK d];omega
 unfold iu;rw[f,e,g,show((ps.length:Int)==0)=G from by rw[cc];omega];simp only[ak,bL,ab,ae,aq,aO,HD];omega
theorem aeT (K:cL->Int->aS R)l d q a b t1 t2 t3 t4 g j k(h:a.length<=1000): aQ (jn K l d q b a (a.length:Int) t1 g t2 j t3 t4 k) fuel (([]:cL),0)=K (a.map iM) (a.length:Int):=by
 have f:=dB;refine bJ (λi=>((a.take i).map iM,(i:Int))) a.length J (λi m c=>?_) (λm=>?_);have e:((a.take i).map iM).length<=1000:=by simp;omega
 rw[aM c,df];simp only[jn];rw[iG,ae,aP c,aa,acr,aa,aU (by simp only[aO];omega),aj J J];rfl;simp only[jn];rw[ga,ab,bB]
theorem agi (K:cL->Int->aS R)l d n q a t1 t2 p f g j(h:a.length<=1000): aQ (nN K l d n q a f t1 g t2 p j) fuel (([]:cL),0)=K (a.map iM) (a.length:Int):=by
 have c:=dB;refine bJ (λi=>((a.take i).map iM,(i:Int))) a.length J (λi k b=>?_) (λk=>?_);have e:((a.take i).map iM).length<=1000:=by simp;omega
 rw[aM b,df];simp only[nN];rw[iG,ae,aP b,aa,ac6,aa,aU (by simp only[aO];omega),aj J J];rfl;simp only[nN];rw[ga,ab,bB]
def pR p z:=((iV p).1.length+z-1)/z
def RG (l:Z cE)(m:cL)(d:Int)(t:eT)(c:Int)(n:Nat)(x:Z ic×cL):cL×eT×Bool:=
 bif (rR l x.2 d t.1 ((iu x.1 c t.2.2.2).map iM)).2.2 then
  ((rR l x.2 d t.1 ((iu x.1 c t.2.2.2).map iM)).1,((rR l x.2 d t.1 ((iu x.1 c t.2.2.2).map iM)).2.1,(jZ t.2.1 (n:Int)).1,t.2.2.1++[(t.2.2.2,(n:Int)+1,(jZ t.2.1 (n:Int)).2.1)],tmod (t.2.2.2+1) 65536),O)
 else(m,t,G)
def Me (t:eT)(n:Nat):=(jZ t.2.1 (n:Int)).2.2&&(!decide ((n:Int)>16)&&(!decide ((n:Int)+1>rp t.1)&& !decide (eI t.2.2.1+(n:Int)+1>t.1.2.1)))
def oe (l:Z cE)(m:cL)(d:Int)(t:eT)(p:bQ)(c z:Int):cL×eT×Bool:=
 bif Ql t&&(di p&&(dF z 1 t.2.1.2.1&&dF c 1 128)) then
  bif Me t (pR p z.toNat) then
   match vm l d t.2.1 z.toNat (jZ t.2.1 (pR p z.toNat:Int)).2.1 (iV p).1 m []with
   |some x=>RG l m d t c (pR p z.toNat) x
   |none=>(m,t,G)
  else(m,t,G)
 else(m,t,G)
theorem LX (h:di p=O):0<(iV p).1.length/\(iV p).1.length<=378:=by grind[pV,Ua,iV,Jr]
theorem aoW (len z:Nat)(h:len<=1000:=by omega)(b:z<=1000:=by omega)(a:0<z:=by omega):V (Int.tdiv (V (V ((len:Int)+(z:Int))-1)) (z:Int))=(((len+z-1)/z:Nat):Int):=by have hd:(len+z-1)/z<=len+z-1:=Nat.div_le_self ..;grind[aj]
theorem Yp {p}{n:Nat}(h:(jZ p (n:Int)).2.2=O):eD p=O/\n<=p.2.2.2.length/\(jZ p (n:Int)).2.1=p.2.2.2.take n:=by grind[jZ,aR]
theorem Z3 {c}{z n:Nat}{s x}(f:Ql t=O)(B:z<=512)(q:dF c 1 128=O)(A:0<n)(j:n<=16)(r:(jZ t.2.1 (n:Int)).2.2=O)(h:vm l d t.2.1 z (jZ t.2.1 (n:Int)).2.1 s m []=I x):x.2.length=m.length/\(iu x.1 c t.2.2.2).length=n+1:=by obtain⟨u,hn,p⟩:=Yp r;rw[p]at h;obtain⟨i,k,o⟩:=Kf l d t.2.1 z _ _ _ _ h;simp only[fF,bp,cR]at k;have e:x.1.length=n:=J;refine⟨i,?_⟩;rw[Wg J J (λy v=>?_) q (by simp only[Ql,af]at f;exact f.2.2.1),e];rcases o y v with g|⟨⟨b,a,g⟩,w⟩;cases g;have q1:=aoS u (List.mem_of_mem_take a);have q2:=Vn t.2.1 b;rw[g];omega
theorem anV l m d t p c z(w:l.length<=10^9)(y:m.length<=10^9)(k:ag4 t)(B:t.2.2.1.length<=10^9)(D:t.2.1.2.2.2.length+(bM t.2.2.1).length<=10^9):Bo l m d t p c z=I (oe l m d t p c z):=by
 have K:=dB;unfold Bo oe;rw[abo,aa,ajz t B D,aa,cz,cz];have A:(iV p).2=di p:=by grind[iV]
 rw[A];simp only[kG m,Iz t k,aa];cases f:Ql t;rfl;cases N:di p;rfl;cases R:dF z 1 t.2.1.2.1;rfl;cases E:dF c 1 128;rfl;have V:=LX N;have S:=aR.1 R;have b:=f;simp only[Ql,af]at b;have P:=Jm b.2.1;have C:=LY f;have Q:=pF b.1;have M:=aR.1 b.2.2.1;obtain⟨z,rfl⟩:=ar (by omega:0<=z);have q:(z:Int)≠0:=J;have s:∀x∈t.2.2.1,0<=x.2.1/\x.2.1<=16:=λx o=>by grind[lT,aR]
 have F:=FO _ s;have U:pR p z<=1000:=by have:pR p z<=(iV p).1.length+z-1:=Nat.div_le_self ..;omega
 have e:0<pR p z:=Nat.div_pos J J;have a:=aoW (iV p).1.length z;rw[show((iV p).1.length+z-1)/z=pR p z from rfl]at a;have H: -1<=rp t.1:=by have:=aej t.1;omega
 simp only[ak,ab,aa,bR,ae,au,aK q,a,an1 _ _ (J:t.2.1.2.2.2.length<=10^9),Ov,anW t J s,Me];rw[aj (n:=(pR p z:Int)+1) J J,aj (n:=eI t.2.2.1+(pR p z:Int)) J J,aj (n:=eI t.2.2.1+(pR p z:Int)+1) J J];cases v:(jZ t.2.1 (pR p z:Int)).2.2;rfl;by_cases r:(pR p z:Int)>16;rw[ax r];rfl;rw[aw r];simp only[ak,bS,ab,bg];cases decide ((pR p z:Int)+1>rp t.1);case true=>rfl
 simp only[ak,bS,ab,bg,aa];cases decide (eI t.2.2.1+(pR p z:Int)+1>t.1.2.1);case true=>rfl
 simp only[ak,bS,ab,ae,aa];obtain⟨_,L,h⟩:=Yp v;have j:(jZ t.2.1 (pR p z:Int)).2.1.length=pR p z:=by rw[h,bp];omega
 have g:∀i<pR p z,i*z<=(iV p).1.length:=λi u=>by have:=(Nat.le_div_iff_mul_le (by omega:0<z)).1 (show i+1<=((iV p).1.length+z-1)/z from u);grind
 refine(Pa _ l d c _ z (iV p).1 m t _ _ _ J w y k J J (jZ t.2.1 (pR p z:Int)).2.1 [] m [] fuel J (by rw[bF];omega) (by rw[fF];omega) y (λi u=>g i gA) (by rw[bF,j])).trans ?_;simp only[fF,Nat.zero_mul,ik];cases o:vm l d t.2.1 z (jZ t.2.1 (pR p z:Int)).2.1 (iV p).1 m []with|none=>rfl|some x=>obtain⟨X,Y⟩:=Z3 f J E e J v o;obtain⟨_,T,_⟩:=Kf l d t.2.1 z _ _ _ _ o;simp only[fF]at T;simp only[RQ x.1 c t.2.2.2 J,aa,RG];rw[agi _ _ _ _ _ _ _ _ _ _ _ _ J];simp only[aju l x.2 d t.1 _ w J (show((iu x.1 c t.2.2.2).map iM).length<=10^9 by rw[bt];omega),aa,kG m (J:m.length<=1073741824),Iz t k];cases (rR l x.2 d t.1 ((iu x.1 c t.2.2.2).map iM)).2.2 with|false=>rfl|true=>rw[show(((iu x.1 c t.2.2.2).length:Int)==0)=G from by rw[cc];omega];grind[aa,aU,aj]
theorem amq l m d t p c z(L:l.length<=10^9)(M:m.length<=10^9)(S:ag4 t)(A:t.2.2.1.length<=10^9)(C:t.2.1.2.2.2.length+(bM t.2.2.1).length<=10^9):Ba l m d t p c z=I (oe l m d t p c z):=by
 have F:=dB;unfold Ba oe;rw[jk m,aa,PY t S,aa,aie t A C,aa,pX,cP,cP];simp only[aa];cases q:Ql t;rfl;cases P:di p;rfl;cases T:dF z 1 t.2.1.2.1;rfl;cases D:dF c 1 128;rfl;have Y:=LX P;have U:=aR.1 T;have k:=q;simp only[Ql,af]at k;have Q:=Jm k.2.1;have B:=LY q;have R:=pF k.1;have N:=aR.1 k.2.2.1;obtain⟨z,rfl⟩:=ar (by omega:0<=z);have u:¬(z:Int)=0:=J;have v:∀x∈t.2.2.1,0<=x.2.1/\x.2.1<=16:=λx j=>by grind[lT,aR]
 have E:=FO _ v;have X:pR p z<=1000:=by have:pR p z<=(iV p).1.length+z-1:=Nat.div_le_self ..;omega
 have o:0<pR p z:=Nat.div_pos J J;have i:=aoW (iV p).1.length z;rw[show((iV p).1.length+z-1)/z=pR p z from rfl]at i;simp only[ak,ab,aa,bR,ae,au,aau,aK u,i,amy _ _ (J:t.2.1.2.2.2.length<=10^9),aam,ams t J v,Me];rw[aj (n:=(pR p z:Int)+1) J J,aj (n:=eI t.2.2.1+(pR p z:Int)) J J,aj (n:=eI t.2.2.1+(pR p z:Int)+1) J J];by_cases y:(pR p z:Int)>16;simp_all;rw[aw y];simp only[bS,ab,bg];cases decide ((pR p z:Int)+1>rp t.1)with|true=>simp_all|false=> ?_
 simp only[bS,ab,bg,aa];cases decide (eI t.2.2.1+(pR p z:Int)+1>t.1.2.1)with|true=>grind|false=> ?_
 simp only[bS,ab,gB,aa];cases w:(jZ t.2.1 (pR p z:Int)).2.2;rfl;simp only[ak,ab,ae,jk m (J:m.length<=1073741824),aa];obtain⟨_,K,s⟩:=Yp w;have H:(jZ t.2.1 (pR p z:Int)).2.1.length=pR p z:=by rw[s,bp];omega
 have h:=amg l m d t.2.1 (jZ t.2.1 (pR p z:Int)).2.1 (iV p).1 z J L M J J;cases j:vm l d t.2.1 z (jZ t.2.1 (pR p z:Int)).2.1 (iV p).1 m []with
 |none=>rw[j]at h;obtain⟨a,b,e⟩:=h;obtain⟨f,g,_⟩:=Lf [] c t.2.2.2 aD;simp_all
 |some x=>
  rw[j]at h;have h:sS _ _ _ _ _ _ _=_:=h;obtain⟨x1,x2⟩:=Z3 q J D o J w j;obtain⟨_,V,_⟩:=Kf l d t.2.1 z _ _ _ _ j;simp only[fF]at V;obtain⟨f,g,Z⟩:=Lf x.1 c t.2.2.2;have r:f=true:=by grind
  subst r;simp only[h,g,aa,ae,ak,ab,aK (J:¬(iu x.1 c t.2.2.2).length=0),RG];grind[aeT,ah9,aa,aU,aj]
def adi (g:Nat->Host->Host):Nat->Host->Host
 |0,h=>h
 |k+1,h=>g k (adi g k h)
structure IZ (a b:Host):Prop where
 maps:b.2.1=a.2.1
 tx:b.2.2.1=a.2.2.1
 rx:b.2.2.2.1.length=a.2.2.2.1.length
 pl:b.2.2.2.2.1.length=a.2.2.2.2.1.length
 vec:b.2.2.2.2.2.1=a.2.2.2.2.2.1
 pol:b.2.2.2.2.2.2.1=a.2.2.2.2.2.2.1
 ret:b.2.2.2.2.2.2.2.2.2.2.2.2.2.1=a.2.2.2.2.2.2.2.2.2.2.2.2.2.1
theorem IZ.refl a:IZ a a:=⟨rfl,rfl,rfl,rfl,rfl,rfl,rfl⟩
theorem IZ.trans {a b c}(h:IZ a b)(k:IZ b c):IZ a c:=⟨k.1.trans h.1,k.2.trans h.2,k.3.trans h.3,k.4.trans h.4,k.5.trans h.5,k.6.trans h.6,k.7.trans h.7⟩
theorem Ur h i c:IZ h (uI h i c).2:=by unfold uI;rcases a:h.2.2.2.1[i]? with _|rx;exact IZ.refl h;rcases b:h.2.2.2.2.1[i]? with _|d;exact IZ.refl h;exact⟨rfl,rfl,aC ..,aC ..,rfl,rfl,rfl⟩
def na h k:=adi (λi s=>(uI s i 1000).2) k h
theorem Iq {n:Nat}(hn:128<=n)(z:cJ n fC h):∀k,IZ h (na h k)/\cJ (n+322000*k) fC (na h k)
 |0=>⟨IZ.refl h,z⟩
 |k+1=>by have i:=Iq hn z k;exact⟨i.1.trans (Ur ..),(aiX J k 1000 i.2).mono⟩
def akS (h:Host)(l:dw):Host:=(h.1,h.2.1,h.2.2.1,h.2.2.2.1,h.2.2.2.2.1,h.2.2.2.2.2.1,h.2.2.2.2.2.2.1,h.2.2.2.2.2.2.2.1,h.2.2.2.2.2.2.2.2.1,h.2.2.2.2.2.2.2.2.2.1,h.2.2.2.2.2.2.2.2.2.2.1,h.2.2.2.2.2.2.2.2.2.2.2.1,h.2.2.2.2.2.2.2.2.2.2.2.2.1,h.2.2.2.2.2.2.2.2.2.2.2.2.2.1++l,h.2.2.2.2.2.2.2.2.2.2.2.2.2.2)
def Sh (h:Host):Host:=(h.1,h.2.1,(D0.1,D0.2.1,D0.2.2.1,h.2.2.1.2.2.2),h.2.2.2)
def Im (h:Host)(i:Nat)(a:Int):Host:=
 ((ow h.2.1 h.1 i).1,h.2.1,h.2.2.1,h.2.2.2.1.set i ((ow h.2.1 h.1 i).2.1,(Js i).2.1,(Js i).2.2.1,(Js i).2.2.2.1,(Js i).2.2.2.2.1,a),h.2.2.2.2.1.set i (ow h.2.1 h.1 i).2.2.1,h.2.2.2.2.2)
theorem asg {i x}(a:h.2.2.2.1[i]?=I x):KA h i=Im h i x.2.2.2.2.2:=by unfold KA Im;rw[a];rfl
theorem anc h{i}x(a:i<h.2.2.2.1.length):KA (h.1,h.2.1,h.2.2.1,h.2.2.2.1.set i x,h.2.2.2.2) i=Im h i x.2.2.2.2.2:=by unfold KA Im;simp only[bn a,List.set_set];rfl
def HU (x:dq):=bif x.2.2.2.2.1 then V (x.2.2.2.2.2+x.2.2.2.1.2.2) else x.2.2.2.2.2
def pT (i:Nat)(h:Host):Host:=
 match h.2.2.2.1[i]?,h.2.2.2.2.2.1[i]? with
 |some x,I v=>((Im h i (HU x)).1,h.2.1,h.2.2.1,(Im h i (HU x)).2.2.2.1,(Im h i (HU x)).2.2.2.2.1,h.2.2.2.2.2.1.set i (v.1,v.2.1,0,0,G,G),h.2.2.2.2.2.2.1.set i G,h.2.2.2.2.2.2.2)
 |_,_=>h
structure asT (k:Nat) (a b:Host):Prop where
 mem:b.1.length=a.1.length
 maps:b.2.1=a.2.1
 rx:b.2.2.2.1.length=a.2.2.2.1.length
 pl:b.2.2.2.2.1.length=a.2.2.2.2.1.length
 vec:b.2.2.2.2.2.1.length=a.2.2.2.2.2.1.length
 ZA:∀j,k<=j->b.2.2.2.2.2.1[j]?=a.2.2.2.2.2.1[j]?
 pol:b.2.2.2.2.2.2.1.length=a.2.2.2.2.2.2.1.length
theorem aaK l m i:(ow l m i).1.length=m.length:=by grind[ow,akg,pe]
theorem Uw i h:asT (i+1) h (pT i h):=by unfold pT;rcases b:h.2.2.2.1[i]? with _|x;exact⟨rfl,rfl,rfl,rfl,rfl,λ_ _=>rfl,rfl⟩;rcases c:h.2.2.2.2.2.1[i]? with _|v;exact⟨rfl,rfl,rfl,rfl,rfl,λ_ _=>rfl,rfl⟩;have a:=aaK h.2.1 h.1 i;exact⟨a,rfl,aC ..,aC ..,aC ..,λj d=>aJ J,aC ..⟩
def fW h k:=adi pT k h
theorem rb (h:Host):∀k,asT k h (fW h k)
 |0=>⟨rfl,rfl,rfl,rfl,rfl,λ_ _=>rfl,rfl⟩
 |k+1=>by have a:=rb h k;have b:=Uw k (fW h k);exact⟨b.mem.trans a.mem,b.maps.trans a.maps,b.rx.trans a.rx,b.pl.trans a.pl,b.vec.trans a.vec,λj c=>(b.ZA j c).trans (a.ZA j J),b.pol.trans a.pol⟩
theorem anb {n}(hn:1000<=n)i d(z:cJ n fC h):cJ n fC (Im h i d):=by unfold Im ow;have a:=uG (iL i+128) 384 4;have hf:=PH h.2.1 (ko h.2.1 h.1 0 (iL i) (xu 128) G).1 0 (iL i,4,0,0) (iO (iL i+128) 384 4).1;refine⟨ZY J (Nn J z.1 ..) ..,z.2.1,z.2.2.1,sW z.2.2.2.1 ?_,sW z.2.2.2.2.1 ?_,z.2.2.2.2.2⟩;refine⟨⟨B,B,B,B⟩,⟨B,B,B⟩,⟨B,B,B⟩,⟨⟨B,B,B,B,B,B,B,B,B,B,B,B,B,B,B,?_⟩,B,B⟩,B,B⟩;exact cg _;exact⟨B,B,B,J,λ_ _=>trivial⟩
theorem ai8 {n}(hn:1000<=n)i(z:cJ n fC h):cJ n fC (pT i h):=by unfold pT;rcases b:h.2.2.2.1[i]? with _|x;exact z;rcases c:h.2.2.2.2.2.1[i]? with _|v;exact z;have a:=anb hn i (HU x) z;exact⟨a.1,z.2.1,z.2.2.1,a.2.2.2.1,a.2.2.2.2.1,sW z.2.2.2.2.2.1 ⟨B,B,B,B,B,B⟩,sW z.2.2.2.2.2.2.1 trivial,z.2.2.2.2.2.2.2⟩
theorem Hd {n:Nat}(hn:1000<=n)(z:cJ n fC h):∀k,cJ n fC (fW h k)
 |0=>z
 |k+1=>ai8 hn k (Hd hn z k)
def Tq (W:Z xw)(i:Nat)(s:Host):Host:=match W[i]? with|some x=>akS s [x.1]|none=>s
def gE (h:Host):Host:=na h h.2.2.2.1.length
def returned h k:=adi (Tq h.2.2.1.2.2.1) k (gE h)
structure asU (a b:Host):Prop where
 e:b=(a.1,a.2.1,a.2.2.1,a.2.2.2.1,a.2.2.2.2.1,a.2.2.2.2.2.1,a.2.2.2.2.2.2.1,a.2.2.2.2.2.2.2.1,a.2.2.2.2.2.2.2.2.1,a.2.2.2.2.2.2.2.2.2.1,a.2.2.2.2.2.2.2.2.2.2.1,a.2.2.2.2.2.2.2.2.2.2.2.1,a.2.2.2.2.2.2.2.2.2.2.2.2.1,b.2.2.2.2.2.2.2.2.2.2.2.2.2.1,a.2.2.2.2.2.2.2.2.2.2.2.2.2.2)
theorem Ci {n:Nat}(z:cJ n fC (gE h)):∀k,asU (gE h) (returned h k)/\(returned h k).2.2.2.2.2.2.2.2.2.2.2.2.2.1.length<=n+k
 |0=>⟨⟨rfl⟩,by have:=z.2.2.2.2.2.2.2.2.2.2.2.2.2.1.1;exact bf this J⟩
 |k+1=>by have i:=Ci z k;have e:returned h (k+1)=Tq h.2.2.1.2.2.1 k (returned h k):=rfl;rw[e];unfold Tq;cases h.2.2.1.2.2.1[k]? with|none=>exact⟨i.1,bf i.2 J⟩|some x=>refine⟨⟨?_⟩,?_⟩;have e:=i.1.e;rw[e];rfl;show(_++[_]).length<=_;rw[aq,aO];omega
theorem acV {n}(z:cJ n fC (gE h))k:cJ (n+k) fC (returned h k):=by have i:=Ci z k;have a:cJ (n+k) fC (gE h):=z.mono;rw[i.1.e];exact⟨a.1,a.2.1,a.2.2.1,a.2.2.2.1,a.2.2.2.2.1,a.2.2.2.2.2.1,a.2.2.2.2.2.2.1,a.2.2.2.2.2.2.2.1,a.2.2.2.2.2.2.2.2.1,a.2.2.2.2.2.2.2.2.2.1,a.2.2.2.2.2.2.2.2.2.2.1,a.2.2.2.2.2.2.2.2.2.2.2.1,a.2.2.2.2.2.2.2.2.2.2.2.2.1,⟨i.2,λ_ _=>trivial⟩,a.2.2.2.2.2.2.2.2.2.2.2.2.2.2⟩
theorem agK {n}(hn:1000<=n)(z:cJ n fC h):cJ n fC (Sh h):=by have b:=uG 256 128 8;exact⟨z.1,z.2.1,⟨⟨B,B,B,B⟩,⟨B,B,B,by show List.length (iO 256 128 8).1.2.2.2<=n;omega,λ_ _=>trivial⟩,⟨cg _,λx a=>by cases a⟩,B⟩,z.2.2.2⟩
def gM h:=Sh (returned h h.2.2.1.2.2.1.length)
def kI h:=bif eJ h then fW (gM h) h.2.2.2.1.length else h
theorem PV (a:eJ h=O):ru h=true:=by grind[eJ]
theorem MH {n}(hn:1000<=n)(z:cJ n fC h)(b:h.2.2.2.1.length<=2):cJ (n+644000+h.2.2.1.2.2.1.length) fC (gM h):=by have a:=Iq J z h.2.2.2.1.length;exact agK J (acV (a.2.mono) _)
theorem auS l X q P(o:cL×rn×gL×Int)(k:dq×gL->cL×rn×gL×Int->aS R)(h:mx l X 0 q.1 P=I o):(U (mx l X 0 (q,P).1.1 (q,P).2) λa=>k (q,P) a)=k (q,P) o:=by simp_all
theorem aan l m(i:Nat)(g:i<=8)(h:l.length<=10^9)(j:m.length<=10^9)(k:dq×gL->cL×rn×gL×Int->aS R): (U (xN (i:Int)) λc=>U (ue 0 128) λd=>U (mN l m 0 c d) λe=>U (Es (i:Int)) λa=>U (mx l e.1 0 a.1.1 a.2) λf=>k a f)=k (Js i,(iO (iL i+128) 384 4).1) (ow l m i):=by have o:iL i=1280+(i)*1792:=rfl;have b:iL i<=9223372036854775807:=J;have n:ue 0 128=I (xu 128):=aku 128;have hf:=aeU l (ko l m 0 (iL i) (xu 128) G).1 0 (iL i,4,0,0) (iO (iL i+128) 384 4).1 h (by rw[pe];exact j) (bf (uG (iL i+128) 384 4) J);rw[aeN i g,aa,n,aa,JM l m 0 (iL i) (xu 128) h j b,aa,amo i g,aa];exact auS l _ (Js i) _ (ow l m i) k hf
theorem YZ (K:Int->Host->aS Host)(a B:Host)N(j:N<=2)(d:a.2.2.2.1.length=N)(e:a.2.2.2.2.1.length=N)(f:a.2.2.2.2.2.1.length=N)(g:a.2.2.2.2.2.2.1.length=N)(z:cJ 900000000 fC a): aQ (oT K (N:Int) B) fuel (0,a)=K (N:Int) (fW a N):=by
 refine bJ (λi=>((i:Int),fW a i)) N J (λi h b=>?_) (λh=>?_);have kr:=rb a i;have c:=Hd J z i;have z1:(fW a i).1.length<=10^9:=bf c.1.1 J;have z2:(fW a i).2.1.length<=10^9:=bf c.2.1.1 J;have i1:i<(fW a i).2.2.2.1.length:=by rw[kr.rx,d];exact b
 have i2:i<(fW a i).2.2.2.2.1.length:=by rw[kr.pl,e];exact b
 have i3:i<(fW a i).2.2.2.2.2.1.length:=by rw[kr.vec,f];exact b
 have i4:i<(fW a i).2.2.2.2.2.2.1.length:=by rw[kr.pol,g];exact b
 rw[show fW a (i+1)=pT i (fW a i) from rfl];generalize fW a i=s at z1 z2 i1 i2 i3 i4⊢;unfold pT HU Im;simp only[ah i1,ah i3];simp only[oT];rw[iG,ae];simp only[aP i1,aa];rw[aan s.2.1 s.1 i J z2 z1,aan s.2.1 s.1 i J z2 z1];simp only[aP i2,aP i3,aP i4,aa];rw[aj J J,au];cases s.2.2.2.1[i].2.2.2.2.1<;>rfl;simp only[oT];rw[ga,ab]
theorem QF {n}(b:IZ h (gE h))(c:cJ n fC (gE h)):(gM h).2.2.2.1.length=h.2.2.2.1.length/\(gM h).2.2.2.2.1.length=h.2.2.2.2.1.length/\(gM h).2.2.2.2.2.1=h.2.2.2.2.2.1/\(gM h).2.2.2.2.2.2.1=h.2.2.2.2.2.2.1:=by have a:=(Ci c h.2.2.1.2.2.1.length).1.e;refine⟨?_,?_,?_,?_⟩;show(returned h h.2.2.1.2.2.1.length).2.2.2.1.length=_;rw[a];exact b.rx;show(returned h h.2.2.1.2.2.1.length).2.2.2.2.1.length=_;rw[a];exact b.pl;show(returned h h.2.2.1.2.2.1.length).2.2.2.2.2.1=_;rw[a];exact b.vec;show(returned h h.2.2.1.2.2.1.length).2.2.2.2.2.2.1=_;rw[a];exact b.pol
theorem O1 h(k:KX h)(z:cJ 100000000 fC h):xG h=I (kI h):=by
 unfold xG kI;rw[mu h (z.mono),aa,CF h k,aa];cases m:eJ h;rfl;have b:=mA (PV m);have p:=z.2.2.1.2.2.1.1;have d:=Iq J z;refine bJ (λi=>((i:Int),na h i)) h.2.2.2.1.length J (λi f c=>?_) (λf=>?_);simp only[wM];rw[iG,ae,acw (na h i) i 1000 (by rw[(d i).1.rx];exact c) (by rw[(d i).1.pl];omega) ((d i).2.mono),aa,aj J J];rfl;simp only[wM];rw[ga,ab];have e:=d h.2.2.2.1.length;have n:=Ci e.2;have g:(na h h.2.2.2.1.length).2.2.1.2.2.1=h.2.2.1.2.2.1:=by rw[e.1.tx]
 rw[g];refine bJ (λi=>((i:Int),returned h i)) h.2.2.1.2.2.1.length J (λi f c=>?_) (λf=>?_);have o:=(n i).2;simp only[uu];rw[iG,ae,aP c,aa,aU (by rw[aO];omega),aj J J];rw[show returned h (i+1)=Tq h.2.2.1.2.2.1 i (returned h i) from rfl,Tq,ah c];rfl;simp only[uu];rw[ga,ab];simp only[amC,aa];have l:=MH J z b.1;have a:=QF e.1 e.2;have j:((List.length (returned h h.2.2.1.2.2.1.length).2.2.2.1))=(h.2.2.2.1.length):=congrArg Nat.cast a.1;rw[j];exact YZ _ (gM h) _ h.2.2.2.1.length b.1 a.1 (a.2.1.trans b.2.1) (by rw[a.2.2.1];exact b.2.2.1) (by rw[a.2.2.2];exact b.2.2.2) (l.mono)
theorem Zn (K:Int->Host->aS Host)(h a B:Host)N(t:N<=2)(e:a.2.2.2.1.length=N)(o:a.2.2.2.2.1.length=N)(f:a.2.2.2.2.2.1=h.2.2.2.2.2.1)(g:h.2.2.2.2.2.1.length=N)(p:a.2.2.2.2.2.2.1.length=N)(z:cJ 900000000 fC a): aQ (po K h B) fuel (0,a)=K (N:Int) (fW a N):=by
 refine bJ (λi=>((i:Int),fW a i)) N J (λi r b=>?_) (λr=>?_);have kr:=rb a i;have m:=Hd J z i;have z1:(fW a i).1.length<=10^9:=bf m.1.1 J;have z2:(fW a i).2.1.length<=10^9:=bf m.2.1.1 J;have i1:i<(fW a i).2.2.2.1.length:=by rw[kr.rx,e];exact b
 have q:(fW a i).2.2.2.1.length=N:=by rw[kr.rx,e]
 have i2:i<(fW a i).2.2.2.2.1.length:=by rw[kr.pl,o];exact b
 have i3:i<(fW a i).2.2.2.2.2.1.length:=by rw[kr.vec,f,g];exact b
 have i4:i<(fW a i).2.2.2.2.2.2.1.length:=by rw[kr.pol,p];exact b
 have i5:i<h.2.2.2.2.2.1.length:=by rw[g];exact b
 have j:(fW a i).2.2.2.2.2.1[i]=h.2.2.2.2.2.1[i]:=by have:=kr.ZA i (bq _);rw[ah i3,f,ah i5]at this;exact bu this
 rw[show fW a (i+1)=pT i (fW a i) from rfl];generalize fW a i=s at z1 z2 q i1 i2 i3 i4 j⊢;have c:=ah i1;unfold pT;rw[c,ah i3];simp only[po];rw[iG,ae];simp only[aP i1,aa];have k:=RX s i J i1 i2 z2 z1;rw[asg c]at k;have l:=λx:dq=>RX (s.1,s.2.1,s.2.2.1,s.2.2.2.1.set i x,s.2.2.2.2) i J (by rw[aC];exact i1) i2 z2 z1;simp only[anc s _ i1]at l;rw[au,aj (n:=(i)+1) J J,k,l,aa,aa];simp only[aP i5,aa,j];have j3:∀d,i<(Im s i d).2.2.2.2.2.1.length:=λd=>i3;have j4:∀d,i<(Im s i d).2.2.2.2.2.2.1.length:=λd=>i4;simp only[aP (j3 _),aP (j4 _),aa];unfold HU;cases s.2.2.2.1[i].2.2.2.2.1<;>rfl;have u:=(rb a N).rx;simp only[po];rw[ga,ab]
theorem Pb h(k:KX h)(z:cJ 100000000 fC h):yf h=I (kI h):=by
 unfold yf kI;rw[mF h (z.mono),aa,vI h k,aa];cases w:eJ h;rfl;have a:=mA (PV w);have y:=z.2.2.1.2.2.1.1;have b:=Iq J z;refine bJ (λi=>((i:Int),na h i)) h.2.2.2.1.length J (λi p f=>?_) (λp=>?_);have l:i<(na h i).2.2.2.1.length:=by rw[(b i).1.rx];exact f
 have d:i<(na h i).2.2.2.2.1.length:=by rw[(b i).1.pl];omega
 have c:cJ 500000000 fC (na h i):=(b i).2.mono;have o:=c.2.1.1;have n:=c.1.1;have q:=(b i).1.maps;rw[show na h (i+1)=(uI (na h i) i 1000).2 from rfl];generalize na h i=s at l d c n o q⊢;have m:=(c.2.2.2.2.1.2 _ (az d)).2.2.2.1;simp only[xh];rw[iG,ae,<-q];simp only[aP l,aP d,aa,agr s.2.1 s.1 0 _ _ _ 1000 (J:s.2.1.length<=10^9) (J:s.1.length<=10^9) m c.2.2.2.2.2.2.2.2.2.1,au,uI,ah l,ah d];rw[aj J J];rfl;simp only[xh];rw[ga,ab];have j:=b h.2.2.2.1.length;have r:=Ci j.2;refine bJ (λi=>((i:Int),returned h i)) h.2.2.1.2.2.1.length J (λi p f=>?_) (λp=>?_);have x:=(r i).2;simp only[uS];rw[iG,ae,aP f,aa,aU (by rw[aO];omega),aj J J];rw[show returned h (i+1)=Tq h.2.2.1.2.2.1 i (returned h i) from rfl,Tq,ah f];rfl;simp only[uS];rw[ga,ab];simp only[TE,aa];have v:=MH J z a.1;have g:=QF j.1 j.2;have u:gM h=((returned h h.2.2.1.2.2.1.length).1,(returned h h.2.2.1.2.2.1.length).2.1,(D0.1,D0.2.1,D0.2.2.1,h.2.2.1.2.2.2),(returned h h.2.2.1.2.2.1.length).2.2.2):=by
  have t:(returned h h.2.2.1.2.2.1.length).2.2.1=h.2.2.1:=by rw[(r h.2.2.1.2.2.1.length).1.e];exact j.1.tx
  unfold gM Sh;rw[t]
 rw[<-u];exact Zn _ h (gM h) _ h.2.2.2.1.length a.1 g.1 (g.2.1.trans a.2.1) g.2.2.1 a.2.2.1 (by rw[g.2.2.2];exact a.2.2.2) (v.mono)
def evS (k:Nat)(h:Host):Host:=
 match h.2.2.2.2.2.1[k]? with
 |some v=>(h.1,h.2.1,h.2.2.1,h.2.2.2.1,h.2.2.2.2.1,h.2.2.2.2.2.1.set k (evV v),h.2.2.2.2.2.2)
 |none=>h
def TV (k:Nat):Nat->Host->Host
 |0,h=>h
 |i+1,h=>evS k (TV k i h)
theorem apa k h:oM (k+1) h (evS k h):=by unfold evS;cases h.2.2.2.2.2.1[k]? with|none=>exact oM.refl _ _|some v=>exact⟨rfl,rfl,rfl,rfl,λ_ _=>rfl,rfl,aC ..,λj a=>aJ J,rfl,rfl,rfl⟩
theorem MJ (k:Nat)(h:Host):∀i,oM (k+1) h (TV k i h)
 |0=>oM.refl _ _
 |i+1=>(MJ k h i).trans (apa k _)
theorem arH {n}k(z:cJ n fC h):cJ n fC (evS k h):=by unfold evS;cases h.2.2.2.2.2.1[k]? with|none=>exact z|some v=>exact⟨z.1,z.2.1,z.2.2.1,z.2.2.2.1,z.2.2.2.2.1,VI z.2.2.2.2.2.1,z.2.2.2.2.2.2⟩
theorem ake {n:Nat}(k:Nat)(z:cJ n fC h):∀i,cJ n fC (TV k i h)
 |0=>z
 |i+1=>arH k (ake k z i)
theorem ahX h(k:Nat)b e(f:k<h.2.2.2.2.2.1.length)(j:iE h.2.2.2.1[k].2.1=O)(r:0<=b/\b<=31):oW h (k:Int) b=I ((),TV k ((h.2.2.2.1[k].2.1.2.2-b)%(2*h.2.2.2.1[k].2.1.2.1)).toNat h):=by
 have g:=dB;have q:=ph j;unfold oW;rw[aP e,aa];generalize h.2.2.2.1[k]=x at q⊢;rw[aj (n:=x.2.1.2.2-b) J J,aj (n:=2*x.2.1.2.1) J J,S9 _ _,aa];have a:0<=(x.2.1.2.2-b)%(2*x.2.1.2.1)/\(x.2.1.2.2-b)%(2*x.2.1.2.1)<32:=by have o:=Int.emod_nonneg (x.2.1.2.2-b) (J:2*x.2.1.2.1≠0);have p:=jr (x.2.1.2.2-b) (J:0<2*x.2.1.2.1);omega
 generalize (x.2.1.2.2-b)%(2*x.2.1.2.1)=c at a⊢;obtain⟨c,rfl⟩:=ar a.1;rw[au];have d:((c:Int),h)=(((c:Int)-((0:Nat):Int)),TV k 0 h):=by simp[TV]
 rw[d];refine bJ (λi=>((c:Int)-(i:Int),TV k i h)) c J (λi m t=>?_) (λm=>?_);have l:=MJ k h i;have i1:k<(TV k i h).2.2.2.2.2.1.length:=by rw[l.vec];exact f
 rw[show TV k (i+1) h=evS k (TV k i h) from rfl];generalize TV k i h=s at i1⊢;simp only[wU,evS];rw[iG,ae,ah i1];simp only[aP i1,aa,amb,au];rw[aj J J,(J:(c:Int)-(i:Int)-1=(c:Int)-((i+1:Nat):Int))];simp only[wU];rw[ga,ab]
theorem aji h(k:Nat)b m(o:k<h.2.2.2.2.2.1.length)(t:iE h.2.2.2.1[k].2.1=O)(w:0<=b/\b<=31):px h (k:Int) b=I ((),TV k ((h.2.2.2.1[k].2.1.2.2-b)%(2*h.2.2.2.1[k].2.1.2.1)).toNat h):=by
 have p:=dB;have q:=ph t;unfold px;rw[aP m,aa,aa];generalize h.2.2.2.1[k]=x at q⊢;have f:V (BitVec.toNat (ie (x.2.1.2.2-b)&&&ie (2*x.2.1.2.1-1)))=(x.2.1.2.2-b)%(2*x.2.1.2.1):=by
  have a:∀j:Nat,j<63->2*x.2.1.2.1=2^j->V (BitVec.toNat (ie (x.2.1.2.2-b)&&&ie (2*x.2.1.2.1-1)))=(x.2.1.2.2-b)%(2*x.2.1.2.1):=by intro j r e;have:=Ka (x.2.1.2.2-b) j r;rw[<-e]at this;rw[this];have g:=Int.emod_nonneg (x.2.1.2.2-b) (J:2*x.2.1.2.1≠0);have l:=jr (x.2.1.2.2-b) (J:0<2*x.2.1.2.1);exact aj J J
  rcases q.2.2.1 with e|e|e|e;exact a 2 J (by rw[e];rfl);exact a 3 J (by rw[e];rfl);exact a 4 J (by rw[e];rfl);exact a 5 J (by rw[e];rfl)
 rw[aj (n:=x.2.1.2.2-b) J J,aj (n:=2*x.2.1.2.1) J J,aj (n:=2*x.2.1.2.1-1) J J,f];have d:0<=(x.2.1.2.2-b)%(2*x.2.1.2.1)/\(x.2.1.2.2-b)%(2*x.2.1.2.1)<32:=by have g:=Int.emod_nonneg (x.2.1.2.2-b) (J:2*x.2.1.2.1≠0);have l:=jr (x.2.1.2.2-b) (J:0<2*x.2.1.2.1);omega
 generalize (x.2.1.2.2-b)%(2*x.2.1.2.1)=c at d⊢;obtain⟨c,rfl⟩:=ar d.1;rw[au];refine bJ (λi=>((i:Int),TV k i h)) c J (λi v y=>?_) (λv=>?_);have u:=MJ k h i;have i1:k<(TV k i h).2.2.2.2.2.1.length:=by rw[u.vec];exact o
 rw[show TV k (i+1) h=evS k (TV k i h) from rfl];generalize TV k i h=s at i1⊢;simp only[xq,evS];rw[iG,ae,ah i1];simp only[aP i1,aa,anL,au];rw[aj J J];rfl;simp only[xq];rw[ga,ab]
def Jq (h:Host)(k:Nat)(f:cL×dq):Host:=(f.1,h.2.1,h.2.2.1,h.2.2.2.1.set k f.2,h.2.2.2.2)
def tY h k b f:=TV k ((f.2.2.1.2.2-b)%(2*f.2.2.1.2.1)).toNat (Jq h k f)
def fu (k:Nat)(h:Host):Host:=
 match h.2.2.2.1[k]? with
 |some x=>tY h k x.2.1.2.2 (iw h.2.1 h.1 0 x h.2.2.2.2.2.2.2.2.1.2.2.1)
 |none=>h
theorem JB {b}(hf:f.1.length=h.1.length):oM (k+1) h (tY h k b f):=by
 have a:oM (k+1) h (Jq h k f):=⟨hf,rfl,rfl,aC ..,λj c=>aJ J,rfl,rfl,λ_ _=>rfl,rfl,rfl,rfl⟩
 exact a.trans (MJ k (Jq h k f) _)
theorem YD {n b}(z:cJ n fC h)(c:cJ n (.sl .str) f.1)(d:cJ n qe f.2):cJ n fC (tY h k b f):=by
 have a:cJ n fC (Jq h k f):=⟨c,z.2.1,z.2.2.1,sW z.2.2.2.1 d,z.2.2.2.2⟩
 exact ake k a _
theorem WD {q k}:(iw l m d q k).1.length=m.length:=by
 have hs:(iP l m d q k (bU l m d q.1).1).1.length=m.length:=by
  unfold iP;cases !(dV (bU l m d q.1).1).2||(((dV (bU l m d q.1).1).1.1 !=3)||decide ((dV (bU l m d q.1).1).1.2.2.1<((dE q.2.2.2.1.1).1.length:Int)));case true=>rfl
  cases (ko l m d (dV (bU l m d q.1).1).1.2.2.2.1 (dE q.2.2.2.1.1).1 O).2;rfl;have a:=pe l m d (dV (bU l m d q.1).1).1.2.2.2.1 (dE q.2.2.2.1.1).1 O;simp only[ab,ak];unfold vF;cases !iE q.2.1|| !Aa ((dV (bU l m d q.1).1).1.2.2.2.2.2,((dE q.2.2.2.1.1).1.length:Int),q.2.2.2.1.2.1,q.2.2.2.1.2.2,Ca k (xD (fI q.2.2.2.1.1)));case true=>exact a
  cases (ko l (ko l m d (dV (bU l m d q.1).1).1.2.2.2.1 (dE q.2.2.2.1.1).1 O).1 d (pQ q.2.1) (UZ ((dV (bU l m d q.1).1).1.2.2.2.2.2,((dE q.2.2.2.1.1).1.length:Int),q.2.2.2.1.2.1,q.2.2.2.1.2.2,Ca k (xD (fI q.2.2.2.1.1))) (Io q.2.1)) O).2 with|false=>exact a|true=>exact(pe ..).trans a
 unfold iw;grind
theorem ou k h:oM (k+1) h (fu k h):=by grind[fu,oM.refl,JB,WD]
theorem PM k(h:Host)n(c:1000<=n)(z:cJ n fC h):cJ (n+0) fC (fu k h):=by unfold fu;cases b:h.2.2.2.1[k]? with|none=>exact z|some x=>have a:=N4 (J:128<=n) (l:=h.2.1) (d:=0) (k:=h.2.2.2.2.2.2.2.2.1.2.2.1) z.1 (z.2.2.2.1.2 _ (aF b));exact YD z a.1 a.2.2.1
def jR h:=bif eJ h then eV fu h.2.2.2.1.length h else h
theorem N3 {n}(hn:1000<=n)(k:Co n h):Co n (jR h):=by unfold jR;cases eJ h with|false=>exact k|true=>refine⟨(IJ hn PM k.z _).mono,?_⟩;simp only[ae];rw[(mf ou h _).tx];exact k.t
theorem H9 (a:eJ h=O):∀i (b:i<h.2.2.2.1.length),KI h.2.2.2.1[i]=true:=by grind[eJ,aa0]
theorem UU {b}(c:k<h.2.2.2.1.length)(d:k<h.2.2.2.2.2.1.length)(j:iE f.2.2.1=O)(i:0<=b/\b<=31:=by omega): oW (f.1,h.2.1,h.2.2.1,h.2.2.2.1.set k f.2,h.2.2.2.2) (k:Int) b=I ((),tY h k b f):=by
 have g:k<(Jq h k f).2.2.2.1.length:=by show k<(h.2.2.2.1.set k f.2).length;rw[aC];exact c
 have e:(Jq h k f).2.2.2.1[k]=f.2:=List.getElem_set_self _;have a:=ahX (Jq h k f) k b g d (by rw[e];exact j) i;rw[e]at a;exact a
theorem UW {b}(a:k<h.2.2.2.1.length)(d:k<h.2.2.2.2.2.1.length)(j:iE f.2.2.1=O)(i:0<=b/\b<=31:=by omega): px (f.1,h.2.1,h.2.2.1,h.2.2.2.1.set k f.2,h.2.2.2.2) (k:Int) b=I ((),tY h k b f):=by
 have g:k<(Jq h k f).2.2.2.1.length:=by show k<(h.2.2.2.1.set k f.2).length;rw[aC];exact a
 have e:(Jq h k f).2.2.2.1[k]=f.2:=List.getElem_set_self _;have c:=aji (Jq h k f) k b g d (by rw[e];exact j) i;rw[e]at c;exact c
theorem W2 h(k:Co 900000000 h):xF h=I (jR h):=by
 have p:=dB;unfold xF jR;rw[mu h (k.z.mono),aa,CF h (k.sz),aa];cases j:eJ h;rfl;have u:=mA (by simp only[eJ,af]at j;exact j.2.2.2.2.1:ru h=O);have r:=H9 j;simp only[ak,ab,ae];refine bJ (λi=>((i:Int),eV fu i h)) h.2.2.2.1.length J (λi t e=>?_) (λt=>?_);have m:=mf ou h i;have c:cJ 900000000 fC (eV fu i h):=(IJ J PM k.z i).mono;have i1:i<(eV fu i h).2.2.2.1.length:=by rw[m.rx];exact e
 have i2:i<(eV fu i h).2.2.2.2.2.1.length:=by rw[m.vec];omega
 have g:(eV fu i h).2.2.2.1[i]=h.2.2.2.1[i]:=by have:=m.rxs i (bq _);rw[ah i1,ah e]at this;exact bu this
 rw[show eV fu (i+1) h=fu i (eV fu i h) from rfl];generalize eV fu i h=s at c i1 i2 g⊢;have z1:s.1.length<=900000000:=c.1.1;have z2:s.2.1.length<=900000000:=c.2.1.1;have a:=r i e;rw[<-g]at a;have q:=ph (F6 a).1;have o:=N4 (J:128<=900000000) (l:=s.2.1) (d:=0) (k:=s.2.2.2.2.2.2.2.2.1.2.2.1) c.1 (c.2.2.2.1.2 _ (az i1));have n:=UU (h:=s) (k:=i) (b:=s.2.2.2.1[i].2.1.2.2) (f:=iw s.2.1 s.1 0 s.2.2.2.1[i] s.2.2.2.2.2.2.2.2.1.2.2.1) i1 i2 (o.2.2.2 a).1;simp only[wL,fu];rw[iG,ae,ah i1];simp only[aP i1,aP e,aa,SS s.2.1 s.1 0 _ _ (J:s.2.1.length<=10^9) (J:s.1.length<=10^9),au,<-g,n];rw[aj J J];rfl;simp only[wL];rw[ga,ab]
theorem X6 h(k:Co 900000000 h):ye h=I (jR h):=by
 have t:=dB;unfold ye jR;rw[mF h (k.z.mono),aa];have A:h.2.2.2.1.length<=900000000:=k.z.2.2.2.1.1;cases c:eJ h with
 |false=>
  obtain⟨g,u⟩:∃g,fuel=g+1:=⟨fuel-1,J⟩
  rw[u,aQ,qL,vI h (k.sz),c];cases decide ((0:Int)<(h.2.2.2.1.length:Int))<;>rfl
 |true=>
  have y:=mA (by simp only[eJ,af]at c;exact c.2.2.2.2.1:ru h=O);have w:=H9 c;simp only[ae];refine bJ (λi=>((i:Int),eV fu i h)) h.2.2.2.1.length J (λi x m=>?_) (λx=>?_);have e:=mf ou h i;have j:cJ 900000000 fC (eV fu i h):=(IJ J PM k.z i).mono;have i1:i<(eV fu i h).2.2.2.1.length:=by rw[e.rx];exact m
  have i2:i<(eV fu i h).2.2.2.2.2.1.length:=by rw[e.vec];omega
  have n:(eV fu i h).2.2.2.1[i]=h.2.2.2.1[i]:=by have:=e.rxs i (bq _);rw[ah i1,ah m]at this;exact bu this
  have o:=e.maps;have p:=e.Mo;rw[show eV fu (i+1) h=fu i (eV fu i h) from rfl];generalize eV fu i h=s at j i1 i2 n o p⊢;have z1:s.1.length<=900000000:=j.1.1;have z2:s.2.1.length<=900000000:=j.2.1.1;have a:=w i m;rw[<-n]at a;have v:=ph (F6 a).1;have r:=N4 (J:128<=900000000) (l:=s.2.1) (d:=0) (k:=s.2.2.2.2.2.2.2.2.1.2.2.1) j.1 (j.2.2.2.1.2 _ (az i1));have q:=UW (h:=s) (k:=i) (b:=s.2.2.2.1[i].2.1.2.2) (f:=iw s.2.1 s.1 0 s.2.2.2.1[i] s.2.2.2.2.2.2.2.2.1.2.2.1) i1 i2 (r.2.2.2 a).1;simp only[qL,fu,vI h (k.sz),c];rw[iG,ae,ah i1];simp only[aP i1,aP m,aa,ae,<-o,<-p,<-n,TA s.2.1 s.1 0 _ _ (J:s.2.1.length<=10^9) (J:s.1.length<=10^9),au,q];rw[aj J J];rfl;simp only[qL];rw[ga,ab,aa,ab]
def Rq (a b:bQ):=(a.1==b.1)&&((a.2.1==b.2.1)&&((a.2.2.1==b.2.2.1)&&((a.2.2.2.1==b.2.2.2.1)&&((a.2.2.2.2.2.1==b.2.2.2.2.2.1)&&((a.2.2.2.2.2.2.1==b.2.2.2.2.2.2.1)&&((a.2.2.2.2.2.2.2.1==b.2.2.2.2.2.2.2.1)&&((a.2.2.2.2.2.2.2.2.1==b.2.2.2.2.2.2.2.2.1)&&((a.2.2.2.2.2.2.2.2.2.1==b.2.2.2.2.2.2.2.2.2.1)&&((a.2.2.2.2.2.2.2.2.2.2.1==b.2.2.2.2.2.2.2.2.2.2.1)&&((a.2.2.2.2.2.2.2.2.2.2.2.2.1==b.2.2.2.2.2.2.2.2.2.2.2.2.1)&&((a.2.2.2.2.2.2.2.2.2.2.2.2.2.2.1==b.2.2.2.2.2.2.2.2.2.2.2.2.2.2.1))))))))))))
theorem aqW a b:FC a b=I (Rq a b):=by simp_all[FC,Rq]
theorem apN a b:Fa a b=I (Rq a b):=by simp_all[Fa,Rq]
def asr (s:HP)(p:bQ):=(p.2.2.2.2.2.2.2.2.2.2.2.1==tmod (V (s.1.2.2.2.2.2.2.2.2.2.2.2.1+(s.1.2.2.2.2.2.2.2.2.2.2.2.2.2.2.2.length:Int))) 4294967296)&&(p.2.2.2.2.1==tmod (V (s.1.2.2.2.2.1+s.2.2)) 65536)
def UB (s:HP)(p:bQ):=decide (1<=s.2.1)&&(dF s.2.2 1 320&&(ay ((s.1.2.2.2.2.2.2.2.2.2.2.2.2.2.2.2.length:Int)=s.2.1*s.2.2)&&(dF (p.2.2.2.2.2.2.2.2.2.2.2.2.2.2.2.length:Int) 1 s.2.1&&decide ((s.1.2.2.2.2.2.2.2.2.2.2.2.2.2.2.2.length:Int)+(p.2.2.2.2.2.2.2.2.2.2.2.2.2.2.2.length:Int)<=320))))
def aez (s:HP)p:=di s.1&&(eU p&&(Rq s.1 p&&((p.2.2.2.2.2.2.2.2.1==6)&&((s.1.2.2.2.2.2.2.2.2.2.2.2.2.2.1==16)&&JJ p.2.2.2.2.2.2.2.2.2.2.2.2.2.1))))
def JG s p:=aez s p&&(UB s p&&asr s p)
theorem Lt (h:eU p=O)(a:(p.2.2.2.2.2.2.2.2.1==6)=O):dF p.2.2.2.2.2.2.2.2.2.2.2.2.2.1 0 31=true:=by grind[eU,di,On,CB]
theorem Lu (h:eU p=O):p.2.2.2.2.2.2.2.2.2.2.2.2.2.2.2.length<=128:=by grind[eU]
theorem ak0 s p:Dv s p=I (JG s p):=by
 unfold Dv JG aez;rw[tp,aa,BR,aa,aqW,aa];cases u:di s.1;rfl;cases l:eU p;rfl;cases Rq s.1 p;rfl;cases d:p.2.2.2.2.2.2.2.2.1==6 with|false=>simp only[bne,d];rfl|true=>?_
 cases a:s.1.2.2.2.2.2.2.2.2.2.2.2.2.2.1==16 with|false=>simp only[bne,d,a];rfl|true=>?_
 have t:=Lt l d;have i:=ES u;have h:=Lu l;simp only[bne,d,a,ak,ab,aa,PJ _ t,bg];cases JJ p.2.2.2.2.2.2.2.2.2.2.2.2.2.1;rfl;simp only[ak,ab,cz,aa,bg,cD];have b:(bif !dF s.2.1 1 320 then I O else bif !dF s.2.2 1 320 then I O else bif !((s.1.2.2.2.2.2.2.2.2.2.2.2.2.2.2.2.length:Int)==V (s.2.1*s.2.2)) then I O else bif !dF (p.2.2.2.2.2.2.2.2.2.2.2.2.2.2.2.length:Int) 1 s.2.1 then I O else I (ay (V ((s.1.2.2.2.2.2.2.2.2.2.2.2.2.2.2.2.length:Int)+(p.2.2.2.2.2.2.2.2.2.2.2.2.2.2.2.length:Int))>320)))=I (!UB s p):=by
  unfold UB;generalize s.1.2.2.2.2.2.2.2.2.2.2.2.2.2.2.2.length=n at i⊢;generalize p.2.2.2.2.2.2.2.2.2.2.2.2.2.2.2.length=m at h⊢;rw[aj (n:=(n:Int)+(m:Int)) J J];cases o:dF s.2.2 1 320 with
  |false=>cases dF s.2.1 1 320<;>cases decide (1<=s.2.1)<;>rfl
  |true=>
   have f:=aR.1 o;by_cases e:1<=s.2.1;rw[ax e];by_cases j:s.2.1<=320;have q:s.2.1*s.2.2<=320*320:=Int.mul_le_mul j f.2 J J;have r:0<=s.2.1*s.2.2:=Int.mul_nonneg J J;rw[aR.2 ⟨e,j⟩,aj (n:=s.2.1*s.2.2) J J];by_cases c:(n:Int)=s.2.1*s.2.2;rw[show((n:Int)==s.2.1*s.2.2)=O from by rw[bw];exact c,ax c];cases dF (m:Int) 1 s.2.1 with|false=>rfl|true=>by_cases k:(n:Int)+(m:Int)<=320;rw[ax k,aw (J:¬(n:Int)+(m:Int)>320)];rfl;rw[aw k,ax (J:(n:Int)+(m:Int)>320)];rfl
   rw[show((n:Int)==s.2.1*s.2.2)=G from by rw[cc];exact c,aw c];rfl;have q:321*1<=s.2.1*s.2.2:=Int.mul_le_mul J J J J;rw[show dF s.2.1 1 320=G from by rw[Bool.eq_false_iff];intro g;have:=aR.1 g;omega,aw (J:¬(n:Int)=s.2.1*s.2.2)];rfl;rw[aw e,show dF s.2.1 1 320=G from by rw[Bool.eq_false_iff];intro g;have:=aR.1 g;omega];rfl
 simp only[bne,cD]at b⊢;rw[bu b];cases UB s p;rfl;rw[nQ,nQ];simp only[ak,ab,cD,aa,cF,bg];rfl
theorem akr s p:CI s p=I (JG s p):=by
 unfold CI JG aez;rw[pX,aa,Eo,aa,apN,aa];cases x:di s.1;rfl;cases k:eU p;rfl;cases Rq s.1 p;rfl;cases d:p.2.2.2.2.2.2.2.2.1==6 with|false=>simp only[bne,d];rfl|true=>?_
 cases a:s.1.2.2.2.2.2.2.2.2.2.2.2.2.2.1==16 with|false=>simp only[bne,d,a];rfl|true=>?_
 have u:=Lt k d;have i:=ES x;have h:=Lu k;simp only[bne,d,a,ak,ab,aa,Wx _ u,bg];cases JJ p.2.2.2.2.2.2.2.2.2.2.2.2.2.1;rfl;simp only[ak,ab,cP,aa,bg];rw[aK (J:¬(4294967296:Nat)=0),aK (J:¬(65536:Nat)=0)];simp only[cD,cF];rw[show((p.2.2.2.2.2.2.2.2.2.2.2.1==tmod (V (s.1.2.2.2.2.2.2.2.2.2.2.2.1+(s.1.2.2.2.2.2.2.2.2.2.2.2.2.2.2.2.length:Int))) 4294967296)&&(p.2.2.2.2.1==tmod (V (s.1.2.2.2.2.1+s.2.2)) 65536))=asr s p from rfl];unfold UB;generalize asr s p=q;generalize s.1.2.2.2.2.2.2.2.2.2.2.2.2.2.2.2.length=n at i⊢;generalize p.2.2.2.2.2.2.2.2.2.2.2.2.2.2.2.length=m at h⊢;rw[aj (n:=(n:Int)+(m:Int)) J J];by_cases j:s.2.1<1;rw[ax j,aw (J:¬1<=s.2.1)];rfl;rw[aw j,ax (J:1<=s.2.1)];cases r:dF s.2.2 1 320;rfl;have t:=aR.1 r;simp only[ak,ab,aa,bg];rw[nQ,nQ];have l:tmod (n:Int) s.2.2=(n:Int)%s.2.2:=fD J;have o:Int.tdiv (n:Int) s.2.2=(n:Int)/s.2.2:=Int.tdiv_eq_ediv_of_nonneg J;have g:=Int.emod_add_mul_ediv (n:Int) s.2.2;have v:0<=(n:Int)/s.2.2:=Int.ediv_nonneg J J;have w:(n:Int)/s.2.2<=(n:Int):=Int.ediv_le_self _ J;rw[l,o,aj (n:=(n:Int)/s.2.2) J J];by_cases b:(n:Int)=s.2.1*s.2.2;have e:(n:Int)%s.2.2=0:=by rw[b];exact Int.mul_emod_left ..
 have c:(n:Int)/s.2.2=s.2.1:=by rw[b];exact Int.mul_ediv_cancel _ J
 rw[e,c,ax b];simp only[iI,ak,ab,aa,bg];cases dF (m:Int) 1 s.2.1;rfl;cases decide ((n:Int)+(m:Int)<=320)<;>rfl;rw[aw b];cases e:(n:Int)%s.2.2==0 with
 |false=>rfl
 |true=>
  have f:(n:Int)%s.2.2=0:=by simpa using e
  have c:((n:Int)/s.2.2==s.2.1)=false:=by rw[cc];intro c;rw[f,c]at g;exact b (by rw[Int.mul_comm];omega)
  simp only[ak,ab,c,bS,aa,ae];rfl
def wZ (s:HP)(p:bQ):HP:=bif JG s p then((s.1.1,s.1.2.1,s.1.2.2.1,s.1.2.2.2.1,s.1.2.2.2.2.1,s.1.2.2.2.2.2.1,s.1.2.2.2.2.2.2.1,s.1.2.2.2.2.2.2.2.1,s.1.2.2.2.2.2.2.2.2.1,s.1.2.2.2.2.2.2.2.2.2.1,s.1.2.2.2.2.2.2.2.2.2.2.1,s.1.2.2.2.2.2.2.2.2.2.2.2.1,s.1.2.2.2.2.2.2.2.2.2.2.2.2.1,p.2.2.2.2.2.2.2.2.2.2.2.2.2.1,s.1.2.2.2.2.2.2.2.2.2.2.2.2.2.2.1,s.1.2.2.2.2.2.2.2.2.2.2.2.2.2.2.2++p.2.2.2.2.2.2.2.2.2.2.2.2.2.2.2),s.2.1,V (s.2.2+1)) else s
theorem Vo (h:JG s p=O):s.1.2.2.2.2.2.2.2.2.2.2.2.2.2.2.2.length+p.2.2.2.2.2.2.2.2.2.2.2.2.2.2.2.length<=320:=by grind[JG,UB]
theorem aqT s p:OA s p=I (wZ s p):=by unfold OA wZ;rw[ak0,aa];cases h:JG s p;rfl;have:=Vo h;grind[aU]
theorem apK s p:Oe s p=I (wZ s p):=by unfold Oe wZ;rw[akr,aa];cases h:JG s p;rfl;have:=Vo h;grind[aU]
def mi (p:bQ):HP:=(p,(p.2.2.2.2.2.2.2.2.2.2.2.2.2.2.2.length:Int),1)
theorem aib p:M6 p=I (mi p):=rfl
theorem ajw p:Nz p=I (mi p):=rfl
def OW (q:dq)(s:HP):dq:=(q.1,q.2.1,q.2.2.1,s,O,q.2.2.2.2.2)
def jD l m d q k p c:=
 bif !KI q||(!eU p||((k.length:Int) !=16)) then(m,q) else
 bif c&&(q.2.2.2.2.1&&JG q.2.2.2.1 p) then(m,q.1,q.2.1,q.2.2.1,wZ q.2.2.2.1 p,q.2.2.2.2) else
 bif c then((iw l m d q k).1,OW (iw l m d q k).2 (mi p)) else iw l (iw l m d q k).1 d (OW (iw l m d q k).2 (mi p)) k
theorem ahY l m d q k p c(a:l.length<=10^9)(b:m.length<=10^9):uz l m d q k p c=I (jD l m d q k p c):=by
 unfold uz jD OW;simp only[acy,Eo,aa,jk m (J:m.length<=1073741824),akr,apK,SS l m d q k a b,aib,SS l (iw l m d q k).1 d _ k a (show(iw l m d q k).1.length<=10^9 by rw[WD];exact b)];cases KI q;rfl;cases eU p;rfl;cases (k.length:Int) !=16;case true=>rfl
 cases c;rfl;cases q.2.2.2.2.1;rfl;cases JG q.2.2.2.1 p<;>rfl
theorem ajj l m d q k p c(a:l.length<=10^9)(b:m.length<=10^9):uY l m d q k p c=I (jD l m d q k p c):=by
 unfold uY jD OW;simp only[adf,BR,aa,kG m (J:m.length<=1073741824),ak0,aqT,TA l m d q k a b,ajw,TA l (iw l m d q k).1 d _ k a (show(iw l m d q k).1.length<=10^9 by rw[WD];exact b)];cases KI q;rfl;cases eU p;rfl;cases (k.length:Int) !=16;case true=>rfl
 cases c;rfl;cases q.2.2.2.2.1;rfl;cases JG q.2.2.2.1 p<;>rfl
theorem al5 {n q}(h:s.1.2.2.2.2.2.2.2.2.2.2.2.2.2.2.2.length<=n):cJ n qe (OW q s):=⟨⟨B,B,B,B⟩,⟨B,B,B⟩,⟨B,B,B⟩,⟨⟨B,B,B,B,B,B,B,B,B,B,B,B,B,B,B,h⟩,B,B⟩,B,B⟩
theorem Ps {n}(hn:1000<=n){q:dq}{k c}(z:cJ n (.sl .str) m)(g:cJ n qe q)(e:iE q.2.1=O): cJ n (.sl .str) (jD l m d q k p c).1/\(jD l m d q k p c).1.length=m.length/\cJ n qe (jD l m d q k p c).2/\iE (jD l m d q k p c).2.2.1=true:=by
 unfold jD;cases b: !KI q||(!eU p||((k.length:Int) !=16));case true=>grind
 simp only[dj,eH]at b;have f:=Lu b.2.1;cases a:c&&(q.2.2.2.2.1&&JG q.2.2.2.1 p)with|true=>simp only[af]at a;have:=Vo a.2.2;refine⟨z,rfl,⟨⟨B,B,B,B⟩,⟨B,B,B⟩,⟨B,B,B⟩,⟨?_,B,B⟩,B,B⟩,e⟩;refine⟨B,B,B,B,B,B,B,B,B,B,B,B,B,B,B,?_⟩;unfold wZ;rw[a.2.2];show List.length (q.2.2.2.1.1.2.2.2.2.2.2.2.2.2.2.2.2.2.2.2++p.2.2.2.2.2.2.2.2.2.2.2.2.2.2.2)<=n;rw[aq];omega|false=>grind[N4,OW,iw,mi,al5]
theorem afX {r}(h:KF r=O):0<=r.2.2.2.2.2.2.2.2:=by
 by_cases d:0<=r.2.2.2.2.2.2.2.2;exact d;exfalso;have e:∀b:Int,dF r.2.2.2.2.2.2.2.2 0 b=false:=λb=>by rw[Bool.eq_false_iff];intro f;have:=aR.1 f;omega
 have a:(r.2.2.2.2.2.2.2.2==0)=false:=by rw[cc];omega
 revert h;unfold KF;have z:∀c:Bool,(bif c then G else G)=false:=by intro c;cases c<;>rfl
 simp only[qP,cz,aa,cD,e,a,gj,z,ab];intro h;cases h
theorem OD {s q}:ji s q p= -1\/∃n:Nat,ji s q p=(n:Int)/\(n:Int)<q:=by
 unfold ji;cases h: !fK s q|| !di p;case true=>exact .inl rfl
 simp only[dj,eH]at h;have hs:=h.1;simp only[fK,af]at hs;simp only[ab];cases hd:decide (MM s.1 p>=0)with
 |true=>obtain⟨n,d,a⟩:=Wv s.1 p (cw hd);simp only[ae,d,au,cU a];cases s.1[n].2.2.2.2.2.2.2.1==1 with|true=>exact .inl rfl|false=>have b:=aL.1 hs.1.2 _ (az a);have c:=hs.1.1.1.1;simp only[Gl,af]at c;have e:=afX (aL.1 c.1 _ (az a));simp only[aW,cp]at b;exact .inr ⟨s.1[n].2.2.2.2.2.2.2.2.toNat,gA,J⟩
 |false=>
  simp only[ab];cases g:decide (findF s.2.1 (fI p)>=0)with
  |true=>obtain⟨n,d,a⟩:=Wu s.2.1 (fI p) (cw g);simp only[ae,d,au,cU a];have b:=aL.1 hs.2 _ (az a);have c:=hs.1.1.1.2;simp only[BX,af,bw]at c;have e:=aL.1 c.2 n (bK.2 J);unfold tn abd at e;rw[EG a]at e;simp only[af,aR]at e;simp only[aW,cp]at b;exact .inr ⟨s.2.1[n].2.2.toNat,J,J⟩
  |false=>
   simp only[ab];unfold OB;cases f: !BG s.2.2 q||decide (JI s.2.2 (fI p)<0);case true=>exact .inl rfl
   simp only[dj,eH,cp]at f;obtain⟨n,d,a⟩:=SC s.2.2 (fI p) f.2;have b:=f.1;simp only[BG,af]at b;have c:=aR.1 (aL.1 b.2 _ (az a));simp only[ab,d,au,cU a];exact .inr ⟨s.2.2.2[n].toNat,J,J⟩
def qV (h:Host)(a b c d:Int):Host:=(h.1,h.2.1,h.2.2.1,h.2.2.2.1,h.2.2.2.2.1,h.2.2.2.2.2.1,h.2.2.2.2.2.2.1,h.2.2.2.2.2.2.2.1,h.2.2.2.2.2.2.2.2.1,h.2.2.2.2.2.2.2.2.2.1,h.2.2.2.2.2.2.2.2.2.2.1,h.2.2.2.2.2.2.2.2.2.2.2.1,h.2.2.2.2.2.2.2.2.2.2.2.2.1,h.2.2.2.2.2.2.2.2.2.2.2.2.2.1,V (h.2.2.2.2.2.2.2.2.2.2.2.2.2.2.1+1),a,b,c,d)
def gn h x:=
 bif !eJ h then h else
 bif (cM x).2 !=0 then qV h (V (h.2.2.2.2.2.2.2.2.2.2.2.2.2.2.2.1+1)) h.2.2.2.2.2.2.2.2.2.2.2.2.2.2.2.2.1 h.2.2.2.2.2.2.2.2.2.2.2.2.2.2.2.2.2.1 h.2.2.2.2.2.2.2.2.2.2.2.2.2.2.2.2.2.2 else
 bif !kJ h.2.2.2.2.2.2.2.1 (cM x).1 then qV h h.2.2.2.2.2.2.2.2.2.2.2.2.2.2.2.1 (V (h.2.2.2.2.2.2.2.2.2.2.2.2.2.2.2.2.1+1)) h.2.2.2.2.2.2.2.2.2.2.2.2.2.2.2.2.2.1 h.2.2.2.2.2.2.2.2.2.2.2.2.2.2.2.2.2.2 else
 bif ji h.2.2.2.2.2.2.2.2.1 (h.2.2.2.1.length:Int) (cM x).1== -1 then qV h h.2.2.2.2.2.2.2.2.2.2.2.2.2.2.2.1 h.2.2.2.2.2.2.2.2.2.2.2.2.2.2.2.2.1 (V (h.2.2.2.2.2.2.2.2.2.2.2.2.2.2.2.2.2.1+1)) h.2.2.2.2.2.2.2.2.2.2.2.2.2.2.2.2.2.2 else
 match h.2.2.2.1[(ji h.2.2.2.2.2.2.2.2.1 (h.2.2.2.1.length:Int) (cM x).1).toNat]? with
 |some q=>tY (qV h h.2.2.2.2.2.2.2.2.2.2.2.2.2.2.2.1 h.2.2.2.2.2.2.2.2.2.2.2.2.2.2.2.2.1 h.2.2.2.2.2.2.2.2.2.2.2.2.2.2.2.2.2.1 (V (h.2.2.2.2.2.2.2.2.2.2.2.2.2.2.2.2.2.2+1))) (ji h.2.2.2.2.2.2.2.2.1 (h.2.2.2.1.length:Int) (cM x).1).toNat q.2.1.2.2 (jD h.2.1 h.1 0 q h.2.2.2.2.2.2.2.2.1.2.2.1 (cM x).1 h.2.2.2.2.2.2.2.2.2.2.1)
 |none=>h
theorem QZ h x(k:Co 900000000 h)(t:x.length<=10^9):sN h x=I (gn h x):=by
 have z:=k.z;have z1:h.1.length<=900000000:=z.1.1;have z2:h.2.1.length<=900000000:=z.2.1.1;have B:h.2.2.2.2.2.2.2.1.2.2.length<=900000000:=z.2.2.2.2.2.2.2.1.2.2.1;have w:h.2.2.2.2.2.2.2.2.1.1.length<=900000000:=z.2.2.2.2.2.2.2.2.1.1.1;have y:h.2.2.2.2.2.2.2.2.1.2.1.length<=900000000:=z.2.2.2.2.2.2.2.2.1.2.1.1;have A:h.2.2.2.2.2.2.2.2.1.2.2.2.length<=900000000:=z.2.2.2.2.2.2.2.2.1.2.2.2.1;unfold sN gn;rw[mu h (z.mono),aa,CF h (k.sz),aa];cases j:eJ h;rfl;have u:=mA (by grind[eJ]:ru h=O);have o:=H9 j;simp only[ak,ab,SW x t,aa,aeJ h.2.2.2.2.2.2.2.1 _ (J:h.2.2.2.2.2.2.2.1.2.2.length<=10^9),amv h.2.2.2.2.2.2.2.2.1 _ _ (J:h.2.2.2.2.2.2.2.2.1.1.length<=10^9) (J:h.2.2.2.2.2.2.2.2.1.2.1.length<=10^9) (J:h.2.2.2.2.2.2.2.2.1.2.2.2.length<=10^9)];generalize cM x=f;cases f.2 !=0;case true=>rfl
 cases kJ h.2.2.2.2.2.2.2.1 f.1;rfl;simp only[ak,ab];have a:=OD (s:=h.2.2.2.2.2.2.2.2.1) (q:=(h.2.2.2.1.length:Int)) (p:=f.1);generalize ji h.2.2.2.2.2.2.2.2.1 (h.2.2.2.1.length:Int) f.1=r at a⊢;rcases a with rfl|⟨n,rfl,v⟩;rfl;have i1:n<h.2.2.2.1.length:=J;have i2:n<h.2.2.2.2.2.1.length:=J;have e:=(F6 (o n i1)).1;have m:=ph e;have i:=Ps (J:1000<=900000000) (l:=h.2.1) (d:=0) (k:=h.2.2.2.2.2.2.2.2.1.2.2.1) (p:=f.1) (c:=h.2.2.2.2.2.2.2.2.2.2.1) z.1 (z.2.2.2.1.2 _ (az i1)) e;have g:=UU (h:=qV h h.2.2.2.2.2.2.2.2.2.2.2.2.2.2.2.1 h.2.2.2.2.2.2.2.2.2.2.2.2.2.2.2.2.1 h.2.2.2.2.2.2.2.2.2.2.2.2.2.2.2.2.2.1 (V (h.2.2.2.2.2.2.2.2.2.2.2.2.2.2.2.2.2.2+1))) (k:=n) (b:=h.2.2.2.1[n].2.1.2.2) (f:=jD h.2.1 h.1 0 h.2.2.2.1[n] h.2.2.2.2.2.2.2.2.1.2.2.1 f.1 h.2.2.2.2.2.2.2.2.2.2.1) i1 i2 i.2.2.2;rw[show((n:Int)== -1)=G from by rw[cc];omega,au,ah i1];simp only[ab,aP i1,aa,ahY h.2.1 h.1 0 _ _ _ _ (J:h.2.1.length<=10^9) (J:h.1.length<=10^9)];rw[show(oW ((jD h.2.1 h.1 0 h.2.2.2.1[n] h.2.2.2.2.2.2.2.2.1.2.2.1 f.1 h.2.2.2.2.2.2.2.2.2.2.1).1,h.2.1,h.2.2.1,h.2.2.2.1.set n (jD h.2.1 h.1 0 h.2.2.2.1[n] h.2.2.2.2.2.2.2.2.1.2.2.1 f.1 h.2.2.2.2.2.2.2.2.2.2.1).2,h.2.2.2.2.1,h.2.2.2.2.2.1,h.2.2.2.2.2.2.1,h.2.2.2.2.2.2.2.1,h.2.2.2.2.2.2.2.2.1,h.2.2.2.2.2.2.2.2.2.1,h.2.2.2.2.2.2.2.2.2.2.1,h.2.2.2.2.2.2.2.2.2.2.2.1,h.2.2.2.2.2.2.2.2.2.2.2.2.1,h.2.2.2.2.2.2.2.2.2.2.2.2.2.1,V (h.2.2.2.2.2.2.2.2.2.2.2.2.2.2.1+1),h.2.2.2.2.2.2.2.2.2.2.2.2.2.2.2.1,h.2.2.2.2.2.2.2.2.2.2.2.2.2.2.2.2.1,h.2.2.2.2.2.2.2.2.2.2.2.2.2.2.2.2.2.1,V (h.2.2.2.2.2.2.2.2.2.2.2.2.2.2.2.2.2.2+1)) (n:Int) h.2.2.2.1[n].2.1.2.2)=_ from g,aa]
theorem R0 h x(k:Co 900000000 h)(t:x.length<=10^9):tF h x=I (gn h x):=by
 have z:=k.z;have z1:h.1.length<=900000000:=z.1.1;have z2:h.2.1.length<=900000000:=z.2.1.1;have B:h.2.2.2.2.2.2.2.1.2.2.length<=900000000:=z.2.2.2.2.2.2.2.1.2.2.1;have w:h.2.2.2.2.2.2.2.2.1.1.length<=900000000:=z.2.2.2.2.2.2.2.2.1.1.1;have y:h.2.2.2.2.2.2.2.2.1.2.1.length<=900000000:=z.2.2.2.2.2.2.2.2.1.2.1.1;have A:h.2.2.2.2.2.2.2.2.1.2.2.2.length<=900000000:=z.2.2.2.2.2.2.2.2.1.2.2.2.1;unfold tF gn;rw[mF h (z.mono),aa,vI h (k.sz),aa];cases j:eJ h;rfl;have u:=mA (by grind[eJ]:ru h=O);have o:=H9 j;simp only[ak,ab,EI x t,aa,UC h.2.2.2.2.2.2.2.1 _ (J:h.2.2.2.2.2.2.2.1.2.2.length<=10^9),abm h.2.2.2.2.2.2.2.2.1 _ _ (J:h.2.2.2.2.2.2.2.2.1.1.length<=10^9) (J:h.2.2.2.2.2.2.2.2.1.2.1.length<=10^9) (J:h.2.2.2.2.2.2.2.2.1.2.2.2.length<=10^9)];generalize cM x=f;cases f.2 !=0;case true=>rfl
 cases kJ h.2.2.2.2.2.2.2.1 f.1;rfl;simp only[ak,ab];have a:=OD (s:=h.2.2.2.2.2.2.2.2.1) (q:=(h.2.2.2.1.length:Int)) (p:=f.1);generalize ji h.2.2.2.2.2.2.2.2.1 (h.2.2.2.1.length:Int) f.1=r at a⊢;rcases a with rfl|⟨n,rfl,v⟩;rfl;have i1:n<h.2.2.2.1.length:=J;have i2:n<h.2.2.2.2.2.1.length:=J;have e:=(F6 (o n i1)).1;have m:=ph e;have i:=Ps (J:1000<=900000000) (l:=h.2.1) (d:=0) (k:=h.2.2.2.2.2.2.2.2.1.2.2.1) (p:=f.1) (c:=h.2.2.2.2.2.2.2.2.2.2.1) z.1 (z.2.2.2.1.2 _ (az i1)) e;have g:=UW (h:=qV h h.2.2.2.2.2.2.2.2.2.2.2.2.2.2.2.1 h.2.2.2.2.2.2.2.2.2.2.2.2.2.2.2.2.1 h.2.2.2.2.2.2.2.2.2.2.2.2.2.2.2.2.2.1 (V (h.2.2.2.2.2.2.2.2.2.2.2.2.2.2.2.2.2.2+1))) (k:=n) (b:=h.2.2.2.1[n].2.1.2.2) (f:=jD h.2.1 h.1 0 h.2.2.2.1[n] h.2.2.2.2.2.2.2.2.1.2.2.1 f.1 h.2.2.2.2.2.2.2.2.2.2.1) i1 i2 i.2.2.2;rw[show((n:Int)== -1)=G from by rw[cc];omega,aw (J:¬(n:Int)<0),au,ah i1];simp only[ab,aP i1,aa,ajj h.2.1 h.1 0 _ _ _ _ (J:h.2.1.length<=10^9) (J:h.1.length<=10^9)];rw[show(px ((jD h.2.1 h.1 0 h.2.2.2.1[n] h.2.2.2.2.2.2.2.2.1.2.2.1 f.1 h.2.2.2.2.2.2.2.2.2.2.1).1,h.2.1,h.2.2.1,h.2.2.2.1.set n (jD h.2.1 h.1 0 h.2.2.2.1[n] h.2.2.2.2.2.2.2.2.1.2.2.1 f.1 h.2.2.2.2.2.2.2.2.2.2.1).2,h.2.2.2.2.1,h.2.2.2.2.2.1,h.2.2.2.2.2.2.1,h.2.2.2.2.2.2.2.1,h.2.2.2.2.2.2.2.2.1,h.2.2.2.2.2.2.2.2.2.1,h.2.2.2.2.2.2.2.2.2.2.1,h.2.2.2.2.2.2.2.2.2.2.2.1,h.2.2.2.2.2.2.2.2.2.2.2.2.1,h.2.2.2.2.2.2.2.2.2.2.2.2.2.1,V (h.2.2.2.2.2.2.2.2.2.2.2.2.2.2.1+1),h.2.2.2.2.2.2.2.2.2.2.2.2.2.2.2.1,h.2.2.2.2.2.2.2.2.2.2.2.2.2.2.2.2.1,h.2.2.2.2.2.2.2.2.2.2.2.2.2.2.2.2.2.1,V (h.2.2.2.2.2.2.2.2.2.2.2.2.2.2.2.2.2.2+1)) (n:Int) h.2.2.2.1[n].2.1.2.2)=_ from g,aa]
theorem No {n}(hn:1000<=n)x(k:Co n h):Co n (gn h x)/\(gn h x).2.2.1=h.2.2.1/\(gn h x).2.2.2.2.1.length=h.2.2.2.2.1.length:=by
 have z:=k.z;have g:∀a b c d,Co n (qV h a b c d):=λa b c d=>⟨⟨z.1,z.2.1,z.2.2.1,z.2.2.2.1,z.2.2.2.2.1,z.2.2.2.2.2.1,z.2.2.2.2.2.2.1,z.2.2.2.2.2.2.2.1,z.2.2.2.2.2.2.2.2.1,z.2.2.2.2.2.2.2.2.2.1,z.2.2.2.2.2.2.2.2.2.2.1,z.2.2.2.2.2.2.2.2.2.2.2.1,z.2.2.2.2.2.2.2.2.2.2.2.2.1,z.2.2.2.2.2.2.2.2.2.2.2.2.2.1,B,B,B,B,B⟩,k.t⟩
 unfold gn;cases u:eJ h;exact⟨k,rfl,rfl⟩;have w:=H9 u;generalize cM x=f;cases f.2 !=0;case true=>exact⟨g ..,rfl,rfl⟩
 cases kJ h.2.2.2.2.2.2.2.1 f.1;exact⟨g ..,rfl,rfl⟩;simp only[ak,ab];generalize ji h.2.2.2.2.2.2.2.2.1 (h.2.2.2.1.length:Int) f.1=r;cases r== -1;case true=>exact⟨g ..,rfl,rfl⟩
 simp only[ab];rcases s:h.2.2.2.1[r.toNat]? with _|q;exact⟨k,rfl,rfl⟩;obtain⟨v,j⟩:=aA.1 s;have e:=(F6 (w _ v)).1;rw[j]at e;have i:=Ps hn (l:=h.2.1) (d:=0) (k:=h.2.2.2.2.2.2.2.2.1.2.2.1) (p:=f.1) (c:=h.2.2.2.2.2.2.2.2.2.2.1) z.1 (z.2.2.2.1.2 _ (aF s)) e;have o:=g h.2.2.2.2.2.2.2.2.2.2.2.2.2.2.2.1 h.2.2.2.2.2.2.2.2.2.2.2.2.2.2.2.2.1 h.2.2.2.2.2.2.2.2.2.2.2.2.2.2.2.2.2.1 (V (h.2.2.2.2.2.2.2.2.2.2.2.2.2.2.2.2.2.2+1));have m:=JB (h:=qV h h.2.2.2.2.2.2.2.2.2.2.2.2.2.2.2.1 h.2.2.2.2.2.2.2.2.2.2.2.2.2.2.2.2.1 h.2.2.2.2.2.2.2.2.2.2.2.2.2.2.2.2.2.1 (V (h.2.2.2.2.2.2.2.2.2.2.2.2.2.2.2.2.2.2+1))) (k:=r.toNat) (b:=q.2.1.2.2) (f:=jD h.2.1 h.1 0 q h.2.2.2.2.2.2.2.2.1.2.2.1 f.1 h.2.2.2.2.2.2.2.2.2.2.1) i.2.1;exact⟨⟨YD o.z i.1 i.2.2.1,by rw[m.tx];exact k.t⟩,m.tx,m.pl⟩
theorem akL l m d rx a b c:(iU l m d rx a b c).1.length=m.length:=by grind[iU,akg]
def uK (b:Int)(k:Nat)(s:Int×Host):Int×Host:=
 match s.2.2.2.2.2.2.1[k]?,s.2.2.2.2.2.2.2.1[k]?,s.2.2.2.2.1[k]?,s.2.2.2.2.2.1[k]? with
 |some v,I p,I x,I a=>
  bif p||(rA v).2 then
   (V (s.1+(iU s.2.2.1 s.2.1 0 x a s.2.2.2.2.2.2.2.2.2.2.1 b).2.2.2.2),
    (iU s.2.2.1 s.2.1 0 x a s.2.2.2.2.2.2.2.2.2.2.1 b).1,s.2.2.1,s.2.2.2.1,s.2.2.2.2.1.set k (iU s.2.2.1 s.2.1 0 x a s.2.2.2.2.2.2.2.2.2.2.1 b).2.1,s.2.2.2.2.2.1.set k (iU s.2.2.1 s.2.1 0 x a s.2.2.2.2.2.2.2.2.2.2.1 b).2.2.1,
    s.2.2.2.2.2.2.1.set k (bif decide ((iU s.2.2.1 s.2.1 0 x a s.2.2.2.2.2.2.2.2.2.2.1 b).2.2.2.2<b) then D4 (rA v).1 else(rA v).1),
    s.2.2.2.2.2.2.2.1.set k (!decide ((iU s.2.2.1 s.2.1 0 x a s.2.2.2.2.2.2.2.2.2.2.1 b).2.2.2.2<b)),s.2.2.2.2.2.2.2.2.1,s.2.2.2.2.2.2.2.2.2.1,(iU s.2.2.1 s.2.1 0 x a s.2.2.2.2.2.2.2.2.2.2.1 b).2.2.2.1,s.2.2.2.2.2.2.2.2.2.2.2)
  else(s.1,s.2.1,s.2.2.1,s.2.2.2.1,s.2.2.2.2.1,s.2.2.2.2.2.1,s.2.2.2.2.2.2.1.set k (rA v).1,s.2.2.2.2.2.2.2.1.set k G,s.2.2.2.2.2.2.2.2)
 |_,_,_,_=>s
theorem Jt b k s:oM (k+1) s.2 (uK b k s).2:=by unfold uK;rcases s.2.2.2.2.2.2.1[k]? with _|v;exact oM.refl _ _;rcases s.2.2.2.2.2.2.2.1[k]? with _|p;exact oM.refl _ _;rcases s.2.2.2.2.1[k]? with _|x;exact oM.refl _ _;rcases s.2.2.2.2.2.1[k]? with _|c;exact oM.refl _ _;simp only;cases p||(rA v).2 with|true=>exact⟨akL ..,rfl,rfl,aC ..,λj a=>aJ J,aC ..,aC ..,λj a=>aJ J,aC ..,rfl,rfl⟩|false=>exact⟨rfl,rfl,rfl,rfl,λ_ _=>rfl,rfl,aC ..,λj a=>aJ J,aC ..,rfl,rfl⟩
theorem aje b k s{n}(hn:1000<=n)(z:cJ n fC s.2):cJ (n+322000) fC (uK b k s).2:=by have a:cJ (n+322000) fC s.2:=z.mono;unfold uK;rcases s.2.2.2.2.2.2.1[k]? with _|v;exact a;rcases s.2.2.2.2.2.2.2.1[k]? with _|p;exact a;rcases e:s.2.2.2.2.1[k]? with _|x;exact a;rcases f:s.2.2.2.2.2.1[k]? with _|g;exact a;simp only;cases p||(rA v).2 with|true=>have c:=aaR J (l:=s.2.2.1) (d:=0) b z.1 (z.2.2.2.1.2 _ (aF e)) (z.2.2.2.2.1.2 _ (aF f)) z.2.2.2.2.2.2.2.2.2.1;exact⟨c.1.mono,a.2.1,a.2.2.1,sW a.2.2.2.1 (c.2.1.mono),sW a.2.2.2.2.1 c.2.2.1,VI a.2.2.2.2.2.1,sW a.2.2.2.2.2.2.1 trivial,a.2.2.2.2.2.2.2.1,a.2.2.2.2.2.2.2.2.1,c.2.2.2.1,a.2.2.2.2.2.2.2.2.2.2⟩|false=>exact⟨a.1,a.2.1,a.2.2.1,a.2.2.2.1,a.2.2.2.2.1,VI a.2.2.2.2.2.1,sW a.2.2.2.2.2.2.1 trivial,a.2.2.2.2.2.2.2⟩
def ir (b:Int):Nat->Host->Int×Host
 |0,h=>(0,h)
 |k+1,h=>uK b k (ir b k h)
theorem yW (b:Int)(h:Host):∀k,oM k h (ir b k h).2
 |0=>oM.refl 0 h
 |k+1=>((yW b h k).up J).trans (Jt b k _)
theorem LF (b:Int){n:Nat}(hn:1000<=n)(z:cJ n fC h):∀k,cJ (n+322000*k) fC (ir b k h).2
 |0=>z
 |k+1=>(aje b k _ J (LF b hn z k)).mono
def gq h b:=bif eJ h&&dF b 1 1000 then((ir b h.2.2.2.1.length h).2,(ir b h.2.2.2.1.length h).1) else(h,0)
theorem UA {n}(hn:1000<=n)b(k:Co n h):Co (n+644000) (gq h b).1:=by unfold gq;cases a:eJ h&&dF b 1 1000 with|false=>exact k.mono|true=>simp only[af]at a;have c:=mA (by grind[eJ]:ru h=O);refine⟨(LF b hn k.z _).mono,?_⟩;simp only[ae];rw[(yW b h _).tx];exact bf k.t J
theorem Uf h b(k:Co 400000000 h):sO h b=I (gq h b):=by
 have t:=dB;unfold sO gq;rw[mu h (k.z.mono),aa,CF h (k.sz),aa,cP];cases g:eJ h;rfl;cases v:dF b 1 1000;rfl;have A:=mA (by simp only[eJ,af]at g;exact g.2.2.2.2.1:ru h=O);simp only[ak,ab,aa,bR,ae];refine bJ (λi=>((ir b i h).1,(i:Int),(ir b i h).2)) h.2.2.2.1.length J (λi y u=>?_) (λy=>?_);have d:=yW b h i;have c:cJ 500000000 fC (ir b i h).2:=(LF b J k.z i).mono;have i1:i<(ir b i h).2.2.2.2.1.length:=by rw[d.rx];exact u
 have i2:i<(ir b i h).2.2.2.2.2.1.length:=by rw[d.pl];omega
 have i3:i<(ir b i h).2.2.2.2.2.2.1.length:=by rw[d.vec];omega
 have i4:i<(ir b i h).2.2.2.2.2.2.2.1.length:=by rw[d.pol];omega
 rw[show ir b (i+1) h=uK b i (ir b i h) from rfl];generalize ir b i h=s at c i1 i2 i3 i4⊢;have r:∀(V:Z Vector)(P:Z Bool),ov (s.2.1,s.2.2.1,s.2.2.2.1,s.2.2.2.2.1,s.2.2.2.2.2.1,V,P,s.2.2.2.2.2.2.2.2) (i:Int) b=I ((iU s.2.2.1 s.2.1 0 s.2.2.2.2.1[i] s.2.2.2.2.2.1[i] s.2.2.2.2.2.2.2.2.2.2.1 b).2.2.2.2,(iU s.2.2.1 s.2.1 0 s.2.2.2.2.1[i] s.2.2.2.2.2.1[i] s.2.2.2.2.2.2.2.2.2.2.1 b).1,s.2.2.1,s.2.2.2.1,s.2.2.2.2.1.set i (iU s.2.2.1 s.2.1 0 s.2.2.2.2.1[i] s.2.2.2.2.2.1[i] s.2.2.2.2.2.2.2.2.2.2.1 b).2.1,s.2.2.2.2.2.1.set i (iU s.2.2.1 s.2.1 0 s.2.2.2.2.1[i] s.2.2.2.2.2.1[i] s.2.2.2.2.2.2.2.2.2.2.1 b).2.2.1,V,P,s.2.2.2.2.2.2.2.2.1,s.2.2.2.2.2.2.2.2.2.1,(iU s.2.2.1 s.2.1 0 s.2.2.2.2.1[i] s.2.2.2.2.2.1[i] s.2.2.2.2.2.2.2.2.2.2.1 b).2.2.2.1,s.2.2.2.2.2.2.2.2.2.2.2):=by intro V P;have e:s.2.2.2.2.2.1[i].2.2.2.length<=500000000:=(c.2.2.2.2.1.2 _ (az i2)).2.2.2.1;have B:s.2.1.length<=500000000:=c.1.1;have j:s.2.2.1.length<=500000000:=c.2.1.1;unfold ov;simp only[aP i1,aP i2,aa,aeY s.2.2.1 s.2.1 0 _ _ _ b (J:s.2.2.1.length<=10^9) (J:s.2.1.length<=10^9) e c.2.2.2.2.2.2.2.2.2.1,au]
 have x:∀V:Vector,s.2.2.2.2.2.2.1.set i V=s.2.2.2.2.2.2.1.set i V:=λ_=>rfl;unfold uK;rw[ah i1,ah i2,ah i3,ah i4];simp only[rL];rw[iG,ae];simp only[aP i3,aP i4,aa,amz,au,r];generalize rA s.2.2.2.2.2.2.1[i]=w;generalize iU s.2.2.1 s.2.1 0 s.2.2.2.2.1[i] s.2.2.2.2.2.1[i] s.2.2.2.2.2.2.2.2.2.2.1 b=l;have i5:∀V:Vector,i<(s.2.2.2.2.2.2.1.set i V).length:=λV=>by rw[aC];exact i3
 have i6:∀q:Bool,i<(s.2.2.2.2.2.2.2.1.set i q).length:=λq=>by rw[aC];exact i4
 have f:∀V:Vector,idx (s.2.2.2.2.2.2.1.set i V) (i:Int)=I V:=λV=>by rw[aP (i5 V),List.getElem_set_self]
 have m:∀q:Bool,idx (s.2.2.2.2.2.2.2.1.set i q) (i:Int)=I q:=λq=>by rw[aP (i6 q),List.getElem_set_self]
 rw[aj (n:=(i:Int)+1) J J];have a:s.2.2.2.2.2.2.2.1.set i (s.2.2.2.2.2.2.2.1[i])=s.2.2.2.2.2.2.2.1:=List.set_getElem_self ..;generalize j:s.2.2.2.2.2.2.2.1[i]=p at a⊢;cases C:w.2 with
 |true=>simp only[kv,ae,m,f,aa,ak,ab,Xa,List.set_set];cases decide (l.2.2.2.2<b)<;>rfl
 |false=>
  simp only[Bool.or_false,ab];cases p with
  |false=>rw[a];rfl
  |true=>
   have o:idx s.2.2.2.2.2.2.2.1 (i:Int)=I true:=by rw[aP i4,j]
   simp only[ae,ak,ab,f,o,aa,Xa,List.set_set];cases decide (l.2.2.2.2<b)with|true=>rfl|false=>simp only[ab,bS,a];rfl
 simp only[rL];rw[ga,ab]
theorem UI h b(k:Co 400000000 h):tG h b=I (gq h b):=by
 have o:=dB;unfold tG gq;rw[mF h (k.z.mono),aa,vI h (k.sz),aa,cz];cases j:eJ h;rfl;cases t:dF b 1 1000;rfl;have v:=mA (by simp only[eJ,af]at j;exact j.2.2.2.2.1:ru h=O);simp only[ak,ab,aa,bR,ae];refine bJ (λi=>((ir b i h).1,(i:Int),(ir b i h).2)) h.2.2.2.1.length J (λi u r=>?_) (λu=>?_);have a:=yW b h i;have c:cJ 500000000 fC (ir b i h).2:=(LF b J k.z i).mono;have i1:i<(ir b i h).2.2.2.2.1.length:=by rw[a.rx];exact r
 have i2:i<(ir b i h).2.2.2.2.2.1.length:=by rw[a.pl];omega
 have i3:i<(ir b i h).2.2.2.2.2.2.1.length:=by rw[a.vec];omega
 have i4:i<(ir b i h).2.2.2.2.2.2.2.1.length:=by rw[a.pol];omega
 have g:=a.maps;rw[show ir b (i+1) h=uK b i (ir b i h) from rfl];generalize ir b i h=s at c i1 i2 i3 i4 g⊢;have d:s.2.2.2.2.2.1[i].2.2.2.length<=500000000:=(c.2.2.2.2.1.2 _ (az i2)).2.2.2.1;have x:s.2.1.length<=500000000:=c.1.1;have y:s.2.2.1.length<=500000000:=c.2.1.1;have m:=agr s.2.2.1 s.2.1 0 s.2.2.2.2.1[i] s.2.2.2.2.2.1[i] s.2.2.2.2.2.2.2.2.2.2.1 b (J:s.2.2.1.length<=10^9) (J:s.2.1.length<=10^9) d c.2.2.2.2.2.2.2.2.2.1;unfold uK;rw[ah i1,ah i2,ah i3,ah i4];simp only[rZ];rw[iG,ae,<-g];simp only[aP i1,aP i2,aP i3,aP i4,aa,an2,au,m];generalize rA s.2.2.2.2.2.2.1[i]=w;generalize iU s.2.2.1 s.2.1 0 s.2.2.2.2.1[i] s.2.2.2.2.2.1[i] s.2.2.2.2.2.2.2.2.2.2.1 b=l;have i5:∀V:Vector,i<(s.2.2.2.2.2.2.1.set i V).length:=λV=>by rw[aC];exact i3
 have i6:∀q:Bool,i<(s.2.2.2.2.2.2.2.1.set i q).length:=λq=>by rw[aC];exact i4
 have e:∀V:Vector,idx (s.2.2.2.2.2.2.1.set i V) (i:Int)=I V:=λV=>by rw[aP (i5 V),List.getElem_set_self]
 have f:∀q:Bool,idx (s.2.2.2.2.2.2.2.1.set i q) (i:Int)=I q:=λq=>by rw[aP (i6 q),List.getElem_set_self]
 rw[aj (n:=(i:Int)+1) J J];generalize s.2.2.2.2.2.2.2.1[i]=p;cases p with|true=>simp only[lI,ae,f,e,aa,ak,ab,Yg,List.set_set];cases decide (l.2.2.2.2<b)<;>rfl|false=>simp only[cq,ab,f,e,aa,Yg,List.set_set];cases w.2 with|false=>rfl|true=>simp only[ak,ab,ae];cases decide (l.2.2.2.2<b)<;>rfl
 simp only[rZ];rw[aw (by have:=(yW b h h.2.2.2.1.length).rx;omega),ab]
def BJ (b:Int):Nat->Host->Host
 |0,h=>h
 |k+1,h=>(gq (kX (BJ b k h)) b).1
theorem NI {n}(hn:1000<=n)(k:Co n h):Co n (kX h):=by have:=aq6 hn k.z;exact⟨this.1,by rw[this.2];exact k.t⟩
theorem NY (b:Int){n:Nat}(hn:1000<=n)(z:Co n h):∀k,Co (n+644000*k) (BJ b k h)
 |0=>z
 |k+1=>(UA J b (NI J (NY b hn z k))).mono
def txt (_:Int):Bytes:=[]
def Gy:(t:CT)->t.D->Nat
 | .int _,_=>1
 | .bool,_=>1
 | .str,_=>1
 | .sl e,c=>(c.map (Gy e)).sum
 | .pair a b,x=>Gy a x.1+Gy b x.2
def mkL (f:α->Int->α)(c:α->Nat):Z α->Int->Z α
 |[],_=>[]
 |x::a,k=>f x k::mkL f c a (k+c x)
def mk:(t:CT)->t.D->Int->t.D
 | .int _,_,k=>k
 | .bool,_,k=>tmod k 3==0
 | .str,_,k=>txt k
 | .sl e,c,k=>mkL (mk e) (Gy e) c k
 | .pair a b,x,k=>(mk a x.1 k,mk b x.2 (k+Gy a x.1))
def wt:CT->Nat
 | .sl e=>wt e
 | .pair a b=>wt a+wt b
 |_=>1
structure So (h:Host):Prop where
 pl:h.2.2.2.2.1.length<=2
 w:h.2.2.1.2.2.1.length<=16
theorem apd (b:eJ h=O):So h:=by have c:=mA (by grind[eJ]:ru h=O);have a:=LY (t:=h.2.2.1) (by grind[eJ]);exact⟨J,a⟩
theorem QG {a b}(f:So a)(h:oM k a b):So b:=⟨by rw[h.pl];exact f.pl,by rw[h.tx];exact f.w⟩
theorem ad4 (f:So h):So (kX h):=by grind[kX,QG,mf,yn]
theorem alQ (f:So h):So (jR h):=by grind[jR,QG,mf,ou]
theorem alR b(f:So h):So (gq h b).1:=by grind[gq,QG,yW]
theorem QH (f:So h):So (cS h):=by unfold cS;cases eJ h with|false=>exact f|true=>refine⟨f.pl,?_⟩;simp only[ae];generalize (if(h.2.2.1.2.2.1.length:Int)<V ((mh h.2.1 h.1 0 h.2.2.1.1).2.2.1+(mh h.2.1 h.1 0 h.2.2.1.1).2.2.2) then(h.2.2.1.2.2.1.length:Int) else V ((mh h.2.1 h.1 0 h.2.2.1.1).2.2.1+(mh h.2.1 h.1 0 h.2.2.1.1).2.2.2))=q;unfold lC;cases Ql ((mh h.2.1 h.1 0 h.2.2.1.1).1,h.2.2.1.2)&&dF q 0 (h.2.2.1.2.2.1.length:Int)with|false=>exact f.w|true=>show(h.2.2.1.2.2.1.drop q.toNat).length<=16;rw[bA];have:=f.w;omega
def aoJ (a:Act):=
 U (U (I (dF a.1 0 6)) λb=>cond (!b) (I O) (I (ay ((a.2.2.2.2.1.length:Int)>600)))) λq2=>
 cond q2 (I G) (
 U (cond (a.1 !=0) (cond (!((a.2.1.1==0)&&((a.2.1.2.1==0)&&((a.2.1.2.2.1==0)&&((a.2.1.2.2.2.1==0)&&((a.2.1.2.2.2.2.1==0)&&((a.2.1.2.2.2.2.2.1==0)&&((a.2.1.2.2.2.2.2.2.1==0)&&((a.2.1.2.2.2.2.2.2.2.1==0)&&((a.2.1.2.2.2.2.2.2.2.2.1==0)&&((a.2.1.2.2.2.2.2.2.2.2.2.1==0)&&((a.2.1.2.2.2.2.2.2.2.2.2.2.1==0)&&((a.2.1.2.2.2.2.2.2.2.2.2.2.2.1==0)&&((a.2.1.2.2.2.2.2.2.2.2.2.2.2.2.1==0)&&((a.2.1.2.2.2.2.2.2.2.2.2.2.2.2.2.1==0)&&((a.2.1.2.2.2.2.2.2.2.2.2.2.2.2.2.2.1==0)&&((a.2.1.2.2.2.2.2.2.2.2.2.2.2.2.2.2.2==([]:Bytes))&&O))))))))))))))))) (I O) (cond (a.2.2.1 !=0) (I O) (I (a.2.2.2.1 !=0)))) (I G)) λq3=>
 cond q3 (I G) (
 U (cond (a.1==2) (cond (a.1==5) (I O) (I (a.2.2.2.2.2==0))) (cond (a.2.2.2.2.1==([]:Bytes)) (cond (a.1==5) (I O) (I (a.2.2.2.2.2==0))) (I G))) λq4=>I q4))
theorem alq a:∃b,aoJ a=I b:=by simp_all[aoJ,cD]
def IW a:=(aoJ a).getD G
theorem ajY a:aoJ a=I (IW a):=by obtain⟨b,c⟩:=alq a;simp[IW,c]
theorem ac3 a:BS a=I (IW a):=by rw[<-ajY];unfold BS;rw[cz];rfl
theorem ako a:Ic a=I (IW a):=by rw[<-ajY];unfold Ic;rw[cP];rfl
def aAN:Act:=(0,pk0,0,0,([]:Bytes),0)
theorem Co.tx {n}(k:Co n h)(hn:n<=10^9):ag4 h.2.2.1:=
 have z:cJ 1000000000 fC h:=k.z.mono hn
 ⟨z.2.2.1.2.1.2.2.2.1,z.2.2.1.2.2.1.1,λx a=>(z.2.2.1.2.2.1.2 x a).2.2.1⟩
def pP (h:Host)(p:bQ)(c z:Int):Host×Bool:=
 bif eJ h then(((oe h.2.1 h.1 0 h.2.2.1 p c z).1,h.2.1,(oe h.2.1 h.1 0 h.2.2.1 p c z).2.1,h.2.2.2),(oe h.2.1 h.1 0 h.2.2.1 p c z).2.2) else(h,G)
theorem amp h p c z(k:Co 900000000 h):E6 h p c z=I (pP h p c z):=by have a:cJ 1000000000 fC h:=k.z.mono;unfold E6 pP;rw[mu h a,aa,CF h (k.sz),aa];cases eJ h;rfl;simp only[ak,ab,ae,amq _ _ _ _ _ _ _ a.2.1.1 a.1.1 (k.tx J) a.2.2.1.2.2.1.1 (bf k.t J),aa]
theorem anU h p c z(k:Co 900000000 h):Fw h p c z=I (pP h p c z):=by have a:cJ 1000000000 fC h:=k.z.mono;unfold Fw pP;rw[mF h a,aa,vI h (k.sz),aa];cases eJ h;rfl;simp only[ak,ab,ae,anV _ _ _ _ _ _ _ a.2.1.1 a.1.1 (k.tx J) a.2.2.1.2.2.1.1 (bf k.t J),aa]
theorem Z2 {n:Nat}(hn:128<=n)(l:Z cE)(d:Int)(p:gL)(z:Nat):∀(q:dw)(s:Bytes)(m:cL)(a:Z ic){x},cJ n (.sl .str) m->vm l d p z q s m a=I x->cJ n (.sl .str) x.2
 |[],s,m,a,x,c,h=>by cases h;exact c
 |b::q,s,m,a,x,c,h=>by rw[vm]at h;cases e:(ko l m d (mU p b) (s.take z) G).2 with|false=>grind|true=>rw[e]at h;exact Z2 hn l d p z q _ _ _ (Nn hn c ..) h
theorem Uu {n:Nat}(hn:128<=n)(l:Z cE)(d:Int):∀(q:cL)(m:cL)(r:rn){x},cJ n (.sl .str) m->xa l d q m r=I x->cJ n (.sl .str) x.1
 |[],m,r,x,a,h=>by cases h;exact a
 |s::q,m,r,x,a,h=>by rw[xa]at h;cases b:(dL l m d r s).2.2 with|false=>grind|true=>rw[b]at h;exact Uu hn l d q _ _ (Ry hn a ..) h
theorem afI {n}(hn:128<=n){q}(a:cJ n (.sl .str) m):cJ n (.sl .str) (rR l m d r q).1:=by unfold rR;cases b:xa l d q m r with|none=>exact a|some x=>exact Uu hn l d q m r a b
theorem aof p n:(jZ p n).1.2.2.2.length+(jZ p n).2.1.length=p.2.2.2.length:=by grind[jZ]
theorem alB a x:(bM (a++[x])).length=(bM a).length+x.2.2.length:=by simp[bM]
theorem af4:∀l:Z xw,(∀x∈l,1<=x.2.1)->(l.length:Int)<=eI l
 |[],_=>by simp[eI]
 |y::l,h=>by have b:=af4 l (λx a=>h x (cy _ a));grind[eI]
structure asW (n:Nat) (m:List Bytes) (t:eT) (r:List Bytes×eT×Bool):Prop where
 mem:cJ n (.sl .str) r.1
 tx:cJ (n+1) J9 r.2.1
 sum:r.2.1.2.1.2.2.2.length+(bM r.2.1.2.2.1).length<=n
 w:r.2.1.2.2.1.length<=16\/r.2.1.2.2.1=t.2.2.1
theorem aba {n}(hn:128<=n){c}d(j:cJ n (.sl .str) m)(o:cJ n J9 t)(hs:t.2.1.2.2.2.length+(bM t.2.2.1).length<=n):asW n m t (oe l m d t p c z):=by
 have b:asW n m t (m,t,G):=⟨j,o.mono,hs,Or.inr rfl⟩
 unfold oe;cases h:Ql t&&(di p&&(dF z 1 t.2.1.2.1&&dF c 1 128));exact b;simp only[af]at h;simp only[ae];generalize pR p z.toNat=k;cases i:Me t k;exact b;simp only[ae];rcases f:vm l d t.2.1 z.toNat (jZ t.2.1 (k:Int)).2.1 (iV p).1 m []with _|x;exact b;simp only;unfold RG;have a:=afI (n:=n) hn (l:=l) (d:=d) (q:=(iu x.1 c t.2.2.2).map iM) (r:=t.1) (Z2 hn l d t.2.1 z.toNat _ _ _ _ j f);generalize rR l x.2 d t.1 ((iu x.1 c t.2.2.2).map iM)=w at a⊢;cases w.2.2;exact b;have A:=aof t.2.1 (k:Int);have g:=alB t.2.2.1 (t.2.2.2,(k:Int)+1,(jZ t.2.1 (k:Int)).2.1);have g:(bM (t.2.2.1++[(t.2.2.2,(k:Int)+1,(jZ t.2.1 (k:Int)).2.1)])).length=(bM t.2.2.1).length+(jZ t.2.1 (k:Int)).2.1.length:=g;refine⟨a,⟨⟨B,B,B,B⟩,⟨B,B,B,?_,λ_ _=>trivial⟩,?_,B⟩,?_,Or.inl ?_⟩;show(jZ t.2.1 (k:Int)).1.2.2.2.length<=n+1;omega;exact Ks (t:=VO) (k:=1) o.2.2.1 (λy u=>by rw[aY.1 u];exact⟨B,B,by show(jZ t.2.1 (k:Int)).2.1.length<=n;omega,λ_ _=>trivial⟩) aD;show(jZ t.2.1 (k:Int)).1.2.2.2.length+(bM (t.2.2.1++[(t.2.2.2,(k:Int)+1,(jZ t.2.1 (k:Int)).2.1)])).length<=n;omega;show(t.2.2.1++[_]).length<=16;have e:=h.1;simp only[Ql,af]at e;have s:=pF e.1;have v:=af4 t.2.2.1 (λx f=>by have:=aL.1 e.2.2.2.1 x f;simp only[lT,af,aR]at this;omega);unfold Me at i;simp only[af,aW,cp]at i;rw[aq,aO];omega
theorem aqK {n}(hn:1000<=n)p c z(k:Co n h):Co (n+1) (pP h p c z).1:=by unfold pP;cases eJ h;exact k.mono;have a:=k.z;have s:=aba J (l:=h.2.1) (p:=p) (c:=c) (z:=z) 0 a.1 a.2.2.1 k.t;have z1:cJ (n+1) fC h:=a.mono;exact⟨⟨s.mem.mono,z1.2.1,s.tx,z1.2.2.2⟩,bf s.sum J⟩
theorem apf {n}(hn:1000<=n)p c z(k:Co n h)(f:So h):So (pP h p c z).1:=by unfold pP;cases eJ h;exact f;have s:=aba J (l:=h.2.1) (p:=p) (c:=c) (z:=z) 0 k.z.1 k.z.2.2.1 k.t;refine⟨f.pl,?_⟩;rcases s.w with w|w;exact w;show(oe h.2.1 h.1 0 h.2.2.1 p c z).2.1.2.2.1.length<=16;rw[w];exact f.w
theorem ad3 {n}(hn:1000<=n)x(k:Co n h)(f:So h):So (gn h x):=by have:=No hn x k;exact⟨by rw[this.2.2];exact f.pl,by rw[this.2.1];exact f.w⟩
theorem Uv (h:Host):∀k,(fW h k).2.2.1=h.2.2.1
 |0=>rfl
 |k+1=>by show(pT k (fW h k)).2.2.1=_;rw[<-Uv h k];grind[pT]
theorem Tp {n}(hn:1000<=n)(k:Co n h)(f:So h):Co (n+645000) (kI h)/\So (kI h):=by
 unfold kI;cases d:eJ h;exact⟨k.mono,f⟩;have i:=mA (PV d);have e:=MH hn k.z i.1;have m:=f.w;have b:=Iq (n:=n) J k.z h.2.2.2.1.length;have j:=(Ci (n:=n+322000*h.2.2.2.1.length) (h:=h) b.2 h.2.2.1.2.2.1.length).1.e;have l:=uG 256 128 8;simp only[ae];have c:=Uv (gM h) h.2.2.2.1.length;have g:=(rb (gM h) h.2.2.2.1.length).pl;have a:(gM h).2.2.2.2.1.length=h.2.2.2.2.1.length:=by show(returned h h.2.2.1.2.2.1.length).2.2.2.2.1.length=_;rw[j];exact b.1.pl
 refine⟨⟨(Hd J e _).mono,?_⟩,?_,?_⟩;rw[c];show(iO 256 128 8).1.2.2.2.length+0<=_;omega;rw[g,a];exact f.pl;rw[c];show 0<=16;omega
def FP (f:zZ):Z Stream->Int->Int
 |[],_=> -1
 |s::r,i=>if s.1=f then i else FP f r (i+1)
theorem aij {T}(a:Z Stream)f(h:a.length<=1073741824)(m:∀i (l:i<a.length) b,T b (i:Int)=cond (ay (a[i].1=f)) (I (i:Int)) (b ((i+1:Nat):Int)))(g:∀b,T b (a.length:Int)=I (-1)): aQ T fuel 0=I (FP f a 0):=by
 have j:=dB;have c:∀n i,i<=a.length->a.length-i<n->aQ T n (i:Int)=I (FP f (a.drop i) i):=by intro n;induction n with|zero=>intro i _ h;omega|succ n o=>intro i l p;rw[aQ];rcases ca i a.length with d|k;rw[m i d,bZ d,FP];by_cases e:a[i].1=f;simp[e];simp only[e,decide_false,ab,cY];exact o (i+1) J J;have:i=a.length:=J;subst this;rw[g,gW];rfl
 exact c fuel 0 J J
theorem SU a f(h:a.length<=1073741824):kK a f=I (FP f a 0):=by unfold kK;refine aij a f h (λi b c=>?_) (λc=>?_);simp only[nI];rw[iG,aP b,aj J J];simp only[ae,aa,Vv];rfl;simp only[nI];rw[ga];rfl
theorem Ww (f:zZ):∀(a:Z Stream)(i:Int),(FP f a i= -1/\∀s∈a,s.1≠f)\/∃n:Nat,n<a.length/\FP f a i=i+n/\∃s∈a,s.1=f
 |[],_=> .inl ⟨rfl,aD⟩
 |s::r,i=>by unfold FP;by_cases h:s.1=f;rw[aI h];exact .inr ⟨0,aD,aD,s,aD,h⟩;rw[aK h];rcases Ww f r (i+1)with⟨d,b⟩|⟨n,d,b,j,e,g⟩;exact .inl ⟨d,by intro t c;rcases bW.1 c with rfl|c;exact h;exact b t c⟩;exact .inr ⟨n+1,by simp;omega,by rw[b];push_cast;omega,j,by simp[e],g⟩
theorem Z7 f a:(FP f a 0= -1/\∀s∈a,s.1≠f)\/∃x,0<=FP f a 0/\idx a (FP f a 0)=I x:=by rcases Ww f a 0 with h|⟨n,c,b,_⟩;exact .inl h;refine .inr ⟨a[n],by rw[b];omega,?_⟩;rw[b,Int.zero_add];exact aP c
theorem aoc (p q:Stream):((p.1.1==q.1.1)&&((p.1.2.1==q.1.2.1)&&((p.1.2.2.1==q.1.2.2.1)&&((p.1.2.2.2.1==q.1.2.2.2.1)&&((p.1.2.2.2.2==q.1.2.2.2.2)&&((p.2.1==q.2.1)&&((p.2.2.1==q.2.2.1)&&((p.2.2.2==q.2.2.2)&&O))))))))=decide (p=q):=by grind
def HR (a b:Z Stream)(f:zZ):Bool:=
 match idx a (FP f a 0),idx b (FP f b 0)with
 |some x,I y=>decide (x=y)
 |_,_=>G
theorem RD a b f(e:a.length<=1073741824)(g:b.length<=1073741824):xO a b f=I (HR a b f):=by unfold xO HR;rw[SU a f e,SU b f g];simp only[aa,aoc];rcases Z7 f a with⟨c,_⟩|⟨x,c,d⟩;rw[c];rfl;rw[ax (show FP f a 0>=0 from c),d];rcases Z7 f b with⟨k1,_⟩|⟨y,k1,k2⟩;rw[k1];rfl;rw[ax (show FP f b 0>=0 from k1),k2];simp
theorem adB {T b}p(a:Z Stream)(h:a.length<=1073741824)(hs:∀i (j:i<a.length) c,T c (i:Int)=cond (!(p a[i])) (I G) (c ((i+1:Nat):Int)))(hf:∀c,T c (a.length:Int)=b): aQ T fuel 0=cond (a.all p) b (I G):=by
 have f:=dB;have d:∀n i,i<=a.length->a.length-i<n->aQ T n (i:Int)=cond ((a.drop i).all p) b (I G):=by
  intro n;induction n with
  |zero=>intro i _ h;omega
  |succ n k=>
   intro i j l;rw[aQ];rcases ca i a.length with e|g;rw[hs i e,bZ e,cC];cases m:p a[i]with|false=>rfl|true=>exact k (i+1) J J
   have:i=a.length:=J;subst this;rw[hf,gW];rfl
 exact d fuel 0 J J
theorem apR a b(d:a.length<=1073741824)(e:b.length<=1073741824):E9 a b=I (a.all (λs=>HR a b s.1)&&b.all (λs=>HR a b s.1)):=by
 unfold E9;rw[adB (λs=>HR a b s.1) a d (λi f c=>?hs) (λc=>?hf)]
 case hs=>
  grind[yF,aP,aj,aa,RD]
 case hf=>
  simp only[yF]
  rw[ga]
  simp only[ab]
  rfl
 rw[adB (λs=>HR a b s.1) b e (λi f c=>?hs) (λc=>?hf)]
 case hs=>
  grind[yG,aP,aj,aa,RD]
 case hf=>
  simp only[yG]
  rw[ga]
  simp only[ab]
  rfl
 grind
def fN (h:Host):=h.2.2.2.1.foldl (λn q=>V (n+q.2.2.2.2.2)) 0
theorem Ve h(c:h.2.2.2.1.length<=10^9):zn h=I (fN h):=by unfold zn fN;refine fold_iter h.2.2.2.1 (λ(s:Int) i=>(s,(i:Int))) (λn q=>V (n+q.2.2.2.2.2)) (λs=>I s) J (λi a s b=>?_) (λs b=>?_) 0;simp only[rY];rw[iG,aP a,aj (n:=(i:Int)+1) J J];rfl;simp only[rY];rw[ga];rfl
def B5 (c:dv):=c.1.foldl (λn h=>V (n+fN h)) 0
theorem Mi c(e:c.1.length<=10^9)(b:∀h∈c.1,h.2.2.2.1.length<=10^9):za c=I (B5 c):=by unfold za B5;refine fold_iter c.1 (λ(s:Int) i=>(s,(i:Int))) (λn h=>V (n+fN h)) (λs=>I s) J (λi a s d=>?_) (λs d=>?_) 0;simp only[rU];rw[iG,aP a,aj (n:=(i:Int)+1) J J];simp only[ae,aa,Ve _ (b _ (az a))];rfl;simp only[rU];rw[ga];rfl
theorem U1 c(b:c.1.length<=10^9)(a:∀h∈c.1,h.2.2.2.1.length<=10^9):Ep c=I (B5 c):=Mi c b a
def auR (b:Bool):Int:=bif b then 1 else 0
def Mx h a:=
 bif !eJ h|| !IW a then(h, -1) else
 bif a.1==0 then((pP h a.2.1 a.2.2.1 a.2.2.2.1).1,auR (pP h a.2.1 a.2.2.1 a.2.2.2.1).2) else
 bif a.1==1 then(cS h,0) else
 bif a.1==2 then(gn h a.2.2.2.2.1,0) else
 bif a.1==3 then(jR h,0) else
 bif a.1==4 then(kX h,0) else
 bif a.1==5 then gq h a.2.2.2.2.2 else(kI h,0)
theorem ame h a(k:Co 90000000 h)(b:a.2.2.2.2.1.length<=10^9):Lk h a=I (Mx h a):=by
 have z:cJ 1000000000 fC h:=k.z.mono;unfold Lk Mx;rw[CF h (k.sz),aa,ako,aa];cases eJ h;simp only[bS,ae,lI,aa,mu h z];cases IW a;simp only[ak,bS,ae,ab,kv,aa,mu h z];simp only[ak,ab,bL,aa,amp h _ _ _ (k.mono),Q3 h (k.mono),QZ h _ (k.mono) b,W2 h (k.mono),W9 h (k.sz) z,Uf h _ (k.mono),O1 h (k.sz) (k.z.mono)];cases a.1==0;case true=>(simp only[ae];cases (pP h a.2.1 a.2.2.1 a.2.2.2.1).2<;>rfl)
 cases a.1==1;all_goals grind
theorem anN h a(k:Co 90000000 h)(b:a.2.2.2.2.1.length<=10^9):LN h a=I (Mx h a):=by
 have z:cJ 1000000000 fC h:=k.z.mono;unfold LN Mx;rw[vI h (k.sz),aa,ac3,aa];cases eJ h;simp only[bS,ae,lI,aa,mF h z];cases IW a;simp only[ak,bS,ae,ab,kv,aa,mF h z];simp only[ak,ab,bL,aa,anU h _ _ _ (k.mono),R3 h (k.mono),R0 h _ (k.mono) b,X6 h (k.mono),Yf h (k.sz) z,UI h _ (k.mono),Pb h (k.sz) (k.z.mono)];cases a.1==0;case true=>(simp only[ae];cases (pP h a.2.1 a.2.2.1 a.2.2.2.1).2<;>rfl)
 cases a.1==1;all_goals grind
theorem ars {n}(hn:1000<=n)a(k:Co n h)(f:eJ h=O\/So h):Co (n+645000) (Mx h a).1/\(eJ h=O\/So h->So (Mx h a).1\/(Mx h a).1=h):=by
 have f:So h:=f.elim apd id;unfold Mx;cases !eJ h|| !IW a;case true=>exact⟨k.mono,λ_=>Or.inr rfl⟩
 simp only[ab];cases a.1==0;case true=>exact⟨(aqK hn _ _ _ k).mono,λ_=>Or.inl (apf hn _ _ _ k f)⟩
 cases a.1==1;case true=>exact⟨(Hz J k).mono,λ_=>Or.inl (QH f)⟩
 cases a.1==2;case true=>exact⟨(No hn _ k).1.mono,λ_=>Or.inl (ad3 hn _ k f)⟩
 cases a.1==3;case true=>exact⟨(N3 hn k).mono,λ_=>Or.inl (alQ f)⟩
 cases a.1==4;case true=>exact⟨(NI hn k).mono,λ_=>Or.inl (ad4 f)⟩
 cases a.1==5 with|true=>exact⟨(UA hn _ k).mono,λ_=>Or.inl (alR _ f)⟩|false=>grind[Tp]
theorem aoK {n}(hn:1000<=n)a(k:Co n h)(f:So h):Co (n+645000) (Mx h a).1/\So (Mx h a).1:=by grind[ars]
theorem aiF (h:dC m=O)a s:dC (oo m a s).1=true:=by grind[oo,jj,tf,HB]
theorem afk:∀(q:Z (Int×Int)){m:cL}(s:Bytes),dC m=O->dC (Mm q m s)=O
 |[],_,_,h=>h
 |p::q,m,s,h=>by rw[Mm];exact afk q _ (aiF h _ _)
theorem Nf (h:dC m=O)l d a s w:dC (ko l m d a s w).1=true:=by unfold ko;cases (pO l m d a (s.length:Int) w).2 with|false=>exact h|true=>exact afk _ _ h
theorem Ui (h:dC m=O)l d r s:dC (dL l m d r s).1=true:=by grind[dL,Nf]
theorem Np {b n x y}(a:0<=b/\b<=130944)(hn:n=2\/n=4\/n=8\/n=16)(d:0<=x/\x<=2*n-1)(e:0<=y/\y<=2*n-1)(c:(y-x)%(2*n)<=n):eQ (b,n,x,y)=true:=by grind[jN,eQ,cQ,aR]
theorem Oj (h:eQ r=O):cQ r=(r.2.2.2-r.2.2.1)%(2*r.2.1)/\0<=cQ r/\cQ r<=r.2.1:=by grind[cQ,jN,eQ]
theorem TJ {x n:Int}(hn:0<n:=by omega)(a:0<=x/\x<=n-1:=by omega):tmod (x+1) n=if x+1=n then 0 else x+1:=by rw[fD J];split;simp_all;simp(disch:=omega)[Int.emod_eq_of_lt]
theorem anB (h:eQ r=O)(a:cQ r<r.2.1):eQ (r.1,r.2.1,r.2.2.1,tmod (r.2.2.2+1) (2*r.2.1))=O/\cQ (r.1,r.2.1,r.2.2.1,tmod (r.2.2.2+1) (2*r.2.1))=cQ r+1:=by
 have k:=pF h;have u:=Oj h;have e:=TJ (x:=r.2.2.2) (n:=2*r.2.1);have b:(tmod (r.2.2.2+1) (2*r.2.1)-r.2.2.1)%(2*r.2.1)=cQ r+1:=by grind
 grind[Np,cQ,jN]
theorem aqA (h:eQ r=O)(a:cQ r≠0):eQ (r.1,r.2.1,tmod (r.2.2.1+1) (2*r.2.1),r.2.2.2)=O/\cQ (r.1,r.2.1,tmod (r.2.2.1+1) (2*r.2.1),r.2.2.2)=cQ r-1:=by
 have k:=pF h;have u:=Oj h;have e:=TJ (x:=r.2.2.1) (n:=2*r.2.1);have b:(r.2.2.2-tmod (r.2.2.1+1) (2*r.2.1))%(2*r.2.1)=cQ r-1:=by grind
 grind[Np,cQ]
theorem al0 (h:eQ r=O):rp r=r.2.1-cQ r:=by have k:=pF h;grind[Oj,rp,aj]
theorem afU (h:eQ r=O)l m d s:eQ (dL l m d r s).2.1=O/\(dL l m d r s).2.1.2.1=r.2.1:=by unfold dL;cases a:(rp r==0)||((s.length:Int) !=16);all_goals grind[al0,Oj,anB]
theorem aaZ (h:eQ r=O)l m d:eQ (bU l m d r).2.1=O/\(bU l m d r).2.1.2.1=r.2.1:=by grind[bU,aqA]
theorem apl {n l}:(List.range l.length).all (H3 n l)=O↔(∀x∈l,0<=x/\x<=n-1)/\l.Nodup:=by
 rw[aL];constructor;intro h;have k:∀i (a:i<l.length),(0<=l[i]/\l[i]<=n-1)/\l[i]∉l.take i:=by intro i a;have:=h i (bK.2 a);unfold H3 at this;rw[cU a,af,aR]at this;exact⟨this.1,by simpa using this.2⟩
 refine⟨λx m=>?_,?_⟩;obtain⟨i,a,rfl⟩:=fP m;exact(k i a).1;rw[List.Nodup,List.pairwise_iff_getElem];intro i j a d f b;refine(k j d).2 ?_;rw[<-b];exact List.mem_take_iff_getElem.2 ⟨i,J,rfl⟩;rintro⟨e,c⟩ i a;have a:=bK.1 a;unfold H3;rw[cU a,af,aR];refine⟨e _ (az a),?_⟩;have:l[i]∉l.take i:=by intro g;obtain⟨j,d,b⟩:=List.mem_take_iff_getElem.1 g;rw[List.Nodup,List.pairwise_iff_getElem]at c;exact c j i J a J b
 simpa using this
theorem Rt {p}:eD p=O↔(0<=p.1/\p.1<=130944)/\(1<=p.2.1/\p.2.1<=512)/\(0<=p.2.2.1/\p.2.2.1<=16)/\(∀x∈p.2.2.2,0<=x/\x<=p.2.2.1-1)/\p.2.2.2.Nodup:=by grind[eD,aR,apl]
theorem Nl {p}(h:eD p=O){l}(a:l.Sublist p.2.2.2):eD (p.1,p.2.1,p.2.2.1,l)=true:=by grind[Rt]
theorem ant {p}(h:eD p=O)l:eD (H4 p l).1=true:=by grind[H4,Ki]
theorem RH {n s}:lT n s=O↔(1<=s.2.1/\s.2.1<=n)/\0<=s.1/\s.1<=65535:=by grind[lT,aR]
structure Mw (t:eT):Prop where
 ring:eQ t.1=O
 next:0<=t.2.2.2/\t.2.2.2<=65535
 sent:∀x∈t.2.2.1,(1<=x.2.1/\x.2.1<=t.1.2.1)/\0<=x.1/\x.1<=65535
 pool:eD (kU t.2.1 (bM t.2.2.1))=O
 Gy:eI t.2.2.1<=t.1.2.1
theorem Mw.free (h:Mw t):eD t.2.1=true:=Nl h.pool (List.sublist_append_left _ _)
theorem aq8:Ql t=O↔Mw t:=by constructor;intro h;unfold Ql at h;simp only[af,aR,aL,RH,bO]at h;obtain⟨b,f,c,d,a,e⟩:=h;unfold Ki at a;simp only[af]at a;exact⟨b,c,d,a.2,e⟩;·intro h;unfold Ql Ki;simp only[af,aR,aL,RH,bO];exact⟨h.ring,h.free,h.next,h.sent,⟨h.free,h.pool⟩,h.Gy⟩
theorem TP a b:bM (a++b)=bM a++bM b:=by simp[bM]
theorem ZL a b:eI (a++b)=eI a+eI b:=by simp[eI]
theorem aad:∀(l:Z xw)(p:gL),eD (kU p (bM l))=O->qn p l=kU p (bM l)
 |[],p,_=>by simp[qn,bM,kU]
 |x::l,p,h=>by
  have e:bM (x::l)=x.2.2++bM l:=by simp[bM]
  rw[e]at h;have b:eD (kU p x.2.2)=true:=Nl (p:=kU p (x.2.2++bM l)) h (by show(p.2.2.2++x.2.2).Sublist (p.2.2.2++(x.2.2++bM l));grind);have d:eD p=true:=Nl (p:=kU p x.2.2) b (List.sublist_append_left _ _);have c:(H4 p x.2.2).1=kU p x.2.2:=by grind[H4,Ki]
  have a:kU (kU p x.2.2) (bM l)=kU p (x.2.2++bM l):=by simp[kU]
  rw[qn,c,aad l _ (by rw[a];exact h),a,e]
theorem asK (h:Mw t)(b:eQ r=O)(a:r.2.1=t.1.2.1):Mw (r,t.2):=
 ⟨b,h.next,λx c=>by show(1<=x.2.1/\x.2.1<=r.2.1)/\_;rw[a];exact h.sent x c,h.pool,by show eI t.2.2.1<=r.2.1;rw[a];exact h.Gy⟩
theorem agL (h:Mw t)n:Mw (lC t n).1:=by
 unfold lC;cases d:Ql t&&dF n 0 (t.2.2.1.length:Int);exact h;simp only[af,aR]at d;have c:t.2.2.1.take n.toNat++t.2.2.1.drop n.toNat=t.2.2.1:=cH _ _;have b:bM t.2.2.1=bM (t.2.2.1.take n.toNat)++bM (t.2.2.1.drop n.toNat):=by rw[<-TP,c]
 have f:eD (kU t.2.1 (bM (t.2.2.1.take n.toNat)))=true:=Nl (p:=kU t.2.1 (bM t.2.2.1)) h.pool (by show(t.2.1.2.2.2++_).Sublist (t.2.1.2.2.2++_);rw[b];exact(List.sublist_append_left _ _).append_left _);have e:=aad _ _ f;refine⟨h.ring,h.next,λx a=>h.sent x (List.mem_of_mem_drop a),?_,?_⟩;show eD (kU (qn t.2.1 (t.2.2.1.take n.toNat)) (bM (t.2.2.1.drop n.toNat)))=O;rw[e,show kU (kU t.2.1 (bM (t.2.2.1.take n.toNat))) (bM (t.2.2.1.drop n.toNat))=kU t.2.1 (bM t.2.2.1) by rw[b];simp[kU]];exact h.pool;show eI (t.2.2.1.drop n.toNat)<=t.1.2.1;have g:eI t.2.2.1=eI (t.2.2.1.take n.toNat)+eI (t.2.2.1.drop n.toNat):=by rw[<-ZL,c]
 have i:0<=eI (t.2.2.1.take n.toNat):=GM t.1.2.1 _ (by rw[aL];exact λx a=>RH.2 (h.sent x (List.mem_of_mem_take a)));have:=h.Gy;omega
theorem V9 (l:Z cE)(m:cL)(d:Int):∀(n:Nat)(a:Z KW)(r:rn),eQ r=O->eQ (qU l m d n a r).2.1=O/\(qU l m d n a r).2.1.2.1=r.2.1
 |0,a,r,h=>⟨h,rfl⟩
 |n+1,a,r,h=>by have k:=pF h;have b:=aaZ h l m d;rw[qU];cases !(bU l m d r).2.2|| !(dV (bU l m d r).1).2 with|true=>grind[Np]|false=>cases GN (dV (bU l m d r).1).1 with|true=>exact b|false=>have:=V9 l m d n (a++[(dV (bU l m d r).1).1]) _ b.1;grind
theorem ahq (h:eQ r=O)l m d:eQ (fy l m d r).2.1=O/\(fy l m d r).2.1.2.1=r.2.1:=by unfold fy;cases !eQ r||(cQ r==0)with|true=>exact⟨h,rfl⟩|false=>exact V9 l m d _ _ _ h
theorem afx (h:eQ r=O)l m d:eQ (iD l m d r).1=O/\(iD l m d r).1.2.1=r.2.1:=by grind[ahq,iD]
theorem NK (l:Z cE)(m:cL)(d:Int):∀(n:Nat)(c:cL)(b a:Nat)(r:rn),eQ r=O->eQ (lQ l m d n c b a r).1=O/\(lQ l m d n c b a r).1.2.1=r.2.1
 |0,c,b,a,r,h=>⟨h,rfl⟩
 |n+1,c,b,a,r,h=>by
  have k:=afx h l m d;rw[lQ];cases (iD l m d r).2.2==0;case true=>exact⟨h,rfl⟩
  cases (iD l m d r).2.2==1 with|true=>have:=NK l m d n (c++(iD l m d r).2.1) (b+1) a _ k.1;grind|false=>have:=NK l m d n (c++(iD l m d r).2.1) b (a+1) _ k.1;grind
theorem Rx (l:Z cE)(d:Int):∀(q:cL)(m:cL)(r:rn){x},xa l d q m r=I x->(eQ r=O->eQ x.2=O/\x.2.2.1=r.2.1)/\(dC m=O->dC x.1=O)
 |[],m,r,x,h=>by cases h;grind
 |s::q,m,r,x,h=>by rw[xa]at h;cases a:(dL l m d r s).2.2 with|false=>grind|true=>rw[a]at h;have k:=Rx l d q _ _ h;grind[Ui,afU]
theorem aaG (l:Z cE)(d:Int)(p:gL)(z:Nat):∀(q:dw)(s:Bytes)(m:cL)(a:Z ic){x},vm l d p z q s m a=I x->dC m=O->dC x.2=O
 |[],s,m,a,x,h,c=>by cases h;exact c
 |b::q,s,m,a,x,h,c=>by rw[vm]at h;cases e:(ko l m d (mU p b) (s.take z) G).2 with|false=>grind|true=>rw[e]at h;exact aaG l d p z q _ _ _ h (Nf c ..)
theorem anu {p}(h:eD p=O){l}(a:l.Perm p.2.2.2):eD (p.1,p.2.1,p.2.2.1,l)=true:=by grind[Rt]
theorem anI (h:Mw t)(i:dC m=O)l d c{n}(e:Me t n=O)x(f:dC x.2=O):dC (RG l m d t c n x).1=O/\Mw (RG l m d t c n x).2.1:=by
 unfold RG rR;cases j:xa l d ((iu x.1 c t.2.2.2).map iM) x.2 t.1 with
 |none=>exact⟨i,h⟩
 |some y=>
  have k:=Rx l d _ _ _ j;have kr:=k.1 h.ring;refine⟨k.2 f,?_⟩;unfold Me at e;simp only[af,aW,cp]at e;have o:jZ t.2.1 (n:Int)=((t.2.1.1,t.2.1.2.1,t.2.1.2.2.1,t.2.1.2.2.2.drop n),t.2.1.2.2.2.take n,O):=by have b:=e.1;unfold jZ at b⊢;cases g:eD t.2.1&&dF (n:Int) 0 (t.2.1.2.2.2.length:Int)with|false=>rw[g]at b;cases b|true=>simp only[ae,au]
  have q:0<=eI t.2.2.1:=GM t.1.2.1 _ (by rw[aL];exact λx f=>RH.2 (h.sent x f));show Mw (y.2,(jZ t.2.1 (n:Int)).1,t.2.2.1++[(t.2.2.2,(n:Int)+1,(jZ t.2.1 (n:Int)).2.1)],tmod (t.2.2.2+1) 65536);rw[o];have r:=h.next
  refine⟨kr.1,?_,?_,?_,?_⟩;have:=TJ (x:=t.2.2.2) (n:=65536);show 0<=tmod (t.2.2.2+1) 65536/\tmod (t.2.2.2+1) 65536<=65535;rw[this];split<;>omega;intro s a;show(1<=s.2.1/\s.2.1<=y.2.2.1)/\0<=s.1/\s.1<=65535;rw[kr.2];rcases aB.1 a with a|a;exact h.sent s a;rw[aY.1 a];show(1<=(n:Int)+1/\(n:Int)+1<=t.1.2.1)/\0<=t.2.2.2/\t.2.2.2<=65535;omega;refine anu (p:=kU t.2.1 (bM t.2.2.1)) h.pool ?_;show(t.2.1.2.2.2.drop n++bM (t.2.2.1++[_])).Perm (t.2.1.2.2.2++bM t.2.2.1);rw[TP,show bM [(t.2.2.2,(n:Int)+1,t.2.1.2.2.2.take n)]=t.2.1.2.2.2.take n by simp[bM]];refine(List.perm_append_comm_assoc _ _ _).trans ?_;refine(List.perm_append_comm).trans ?_;exact((List.perm_append_comm.trans (by rw[cH])).append_right _);show eI (t.2.2.1++[_])<=y.2.2.1;rw[ZL,kr.2,show eI [(t.2.2.2,(n:Int)+1,t.2.1.2.2.2.take n)]=(n:Int)+1 by simp[eI]];omega
theorem anH (h:Mw t)(a:dC m=O)l d p c z:dC (oe l m d t p c z).1=O/\Mw (oe l m d t p c z).2.1:=by unfold oe;cases Ql t&&(di p&&(dF z 1 t.2.1.2.1&&dF c 1 128));exact⟨a,h⟩;cases b:Me t (pR p z.toNat);exact⟨a,h⟩;simp only[ae];cases e:vm l d t.2.1 z.toNat (jZ t.2.1 (pR p z.toNat:Int)).2.1 (iV p).1 m []with|none=>exact⟨a,h⟩|some x=>exact anI h a l d c b x (aaG l d _ _ _ _ _ _ e a)
theorem af1 {b s k f w}(c:0<=a/\a<=65535)(d:0<=b/\b<=65535)(e:0<=s/\s<=4294967295)(g:0<=k/\k<=4294967295)(h:0<=f/\f<=31)(i:0<=w/\w<=65535)(j:x.length<=320):vH (6,a,b,s,k,f,w,x)=true:=by grind[vH,aR]
theorem aqG {b}(c:0<=a/\a<=65535)(d:0<=b/\b<=65535)(e:x.length<=320):vH (17,a,b,0,0,0,0,x)=true:=by grind[vH,aR]
theorem anF (h:vH g=O)(a:x.length<=320):vH (g.1,g.2.1,g.2.2.1,g.2.2.2.1,g.2.2.2.2.1,g.2.2.2.2.2.1,g.2.2.2.2.2.2.1,x)=true:=by grind[vH]
theorem apu {b v t i l s}(c:0<=a/\a<=281474976710655)(e:0<=b/\b<=281474976710655)(f: -1<=v/\v<=4095)(h:0<=t/\t<=255)(j:0<=i/\i<=65535)(k:0<=l/\l<=255)(m:0<=s/\s<=4294967295)(n:0<=d/\d<=4294967295)(o:vH g=O):vn (a,b,v,t,i,l,s,d,g)=true:=by grind[vn,aR]
theorem afy p:eU p=O↔vn p=O/\p.2.2.2.2.2.2.2.2.2.2.2.2.2.2.2.length<=128:=by grind[eU,di]
theorem akU (h:vH g=O)(a:g.1=6):(0<=g.2.1/\g.2.1<=65535)/\(0<=g.2.2.1/\g.2.2.1<=65535)/\(0<=g.2.2.2.1/\g.2.2.2.1<=4294967295)/\(0<=g.2.2.2.2.1/\g.2.2.2.2.1<=4294967295)/\(0<=g.2.2.2.2.2.1/\g.2.2.2.2.2.1<=31)/\(0<=g.2.2.2.2.2.2.1/\g.2.2.2.2.2.2.1<=65535)/\g.2.2.2.2.2.2.2.length<=320:=by simp_all[Iv,vH,aR]
theorem XX (h:vH g=O)(a:g.1=6){s f}(c:0<=s/\s<=4294967295)(b:0<=f/\f<=31)(d:x.length<=320):vH (g.1,g.2.1,g.2.2.1,s,g.2.2.2.2.1,f,g.2.2.2.2.2.2.1,x)=true:=by grind[akU,af1]
theorem Kk (h:vn p=O){i}(b:0<=i/\i<=65535)(a:vH g=O):vn (p.1,p.2.1,p.2.2.1,p.2.2.2.1,i,p.2.2.2.2.2.1,p.2.2.2.2.2.2.1,p.2.2.2.2.2.2.2.1,g)=true:=by grind[vn,aR]
theorem WR (h:vn p=O):0<=p.2.2.2.2.1/\p.2.2.2.2.1<=65535:=by grind[vn,aR]
theorem ase {i}(h:0<=i/\i<=65535):0<=tmod (V (i+1)) 65536/\tmod (V (i+1)) 65536<=65535:=by grind[aj]
theorem aqg {s}{n:Nat}(h:0<=s/\s<=4294967295)(hn:n<=320):0<=tmod (V (s+(n:Int))) 4294967296/\tmod (V (s+(n:Int))) 4294967296<=4294967295:=by grind[aj]
theorem Vt v:PG v=O↔1<=v.2.2.1/\(v.1<=v.2.2.1\/v.2.1<=v.2.2.2.1):=by unfold PG;by_cases a:v.2.2.1>=1;rw[ax a,ae];by_cases b:v.2.2.1>=v.1;simp;omega;rw[aw b,ab,bO];omega;rw[aw a];simp;omega
theorem at4 v:fO v=(dF v.1 1 64&&(dF v.2.1 0 64&&(dF v.2.2.1 0 1000000&&(dF v.2.2.2.1 0 1000000&&((ay (v.2.2.1>0)||(v.2.2.2.1==0))&&(v.2.2.2.2.2==(PG v&& !v.2.2.2.2.1))))))):=by have h:=yb v;unfold kt at h;simp only[cz,ak2,aa]at h;generalize fO v=w at h⊢;revert h;cases dF v.1 1 64;(intro h;cases h;rfl);cases dF v.2.1 0 64;(intro h;cases h;rfl);cases dF v.2.2.1 0 1000000;(intro h;cases h;rfl);cases dF v.2.2.2.1 0 1000000;(intro h;cases h;rfl);cases decide (v.2.2.1>0)<;>cases (v.2.2.2.1==0)<;>cases PG v<;>(simp_all)
theorem FN v:fO v=O↔(1<=v.1/\v.1<=64)/\(0<=v.2.1/\v.2.1<=64)/\(0<=v.2.2.1/\v.2.2.1<=1000000)/\(0<=v.2.2.2.1/\v.2.2.2.1<=1000000)/\(v.2.2.1>0\/v.2.2.2.1=0)/\v.2.2.2.2.2=(PG v&& !v.2.2.2.2.1):=by grind[at4,aR]
theorem Qz {v}(a:1<=v.1/\v.1<=64)(b:0<=v.2.1/\v.2.1<=64)(c:0<=v.2.2.1/\v.2.2.1<=1000000)(d:0<=v.2.2.2.1/\v.2.2.2.1<=1000000)(e:v.2.2.1>0\/v.2.2.2.1=0)(f:v.2.2.2.2.2=O->PG v=O/\v.2.2.2.2.1=G):fO (wz v)=true:=by grind[wz,PG,FN]
theorem XN {v}(h:fO v=O)(a:v.2.2.2.2.2=O):PG v=O/\v.2.2.2.2.1=false:=by grind[FN]
theorem ajP {n}(h:0<=n/\n<=1000000):n<=upM n/\0<upM n/\upM n<=1000000:=by grind[upM,aj]
theorem ard {v}(h:fO v=O):fO (evV v)=true:=by have k:=(FN v).1 h;have u:=ajP k.2.2.1;grind[evV,Qz,Vt]
theorem Yy {v}(h:fO v=O):fO (DY v)=true:=by have k:=(FN v).1 h;have u:=ajP k.2.2.2.1;unfold DY;rw[h,ae];by_cases a:v.2.2.1>0;rw[ax a,ae];refine Qz k.1 k.2.1 k.2.2.1 ⟨by show 0<=upM v.2.2.2.1;omega,u.2.2⟩ (Or.inl a) λb=>?_;have d:=XN h b;have d1:=(Vt v).1 d.1;exact⟨(Vt _).2 ⟨d1.1,by show v.1<=v.2.2.1\/v.2.1<=upM v.2.2.2.1;omega⟩,d.2⟩;rw[aw a,ab];exact Qz k.1 k.2.1 k.2.2.1 k.2.2.2.1 k.2.2.2.2.1 λb=>XN h b
theorem agN {v}(h:fO v=O):fO (rA v).1=true:=by grind[FN,rA]
theorem ajQ {v}(h:fO v=O):fO (D4 v)=true:=by grind[FN,D4,Qz]
theorem aok {v}(h:fO v=O):fO (v.1,v.2.1,0,0,G,G)=true:=by grind[FN,PG]
structure D5 (n:Int) (r:dq):Prop where
 ring:eQ r.1=O
 dev:iE r.2.1=O
 ZS:iE r.2.2.1=O
 base:r.2.1.1=r.2.2.1.1
 size:r.2.1.2.1=r.2.2.1.2.1
 drop:0<=r.2.2.2.2.2/\r.2.2.2.2.2<=n
 held:r.2.2.2.2.1=O->di r.2.2.2.1.1=O/\(0<=r.2.2.2.1.2.1/\r.2.2.2.1.2.1<=320)/\1<=r.2.2.2.1.2.2/\r.2.2.2.1.2.2<=320
 free:r.2.2.2.2.1=G->r.2.2.2.1=aoe
theorem Ns r:KI r=O↔D5 1000000000000 r:=by constructor;intro h;unfold KI at h;simp only[af,bw,aR]at h;obtain⟨⟨c,d,e,f,g,i⟩,a⟩:=h;refine⟨c,d,e,f,g,i,λb=>?_,λb=>?_⟩;rw[b,ae]at a;simp only[af,aR]at a;exact⟨a.1,a.2.1,a.2.2⟩;rw[b,ab]at a;exact(aq1 _).1 a;intro h;unfold KI;simp only[af,bw,aR];refine⟨⟨h.ring,h.dev,h.ZS,h.base,h.size,h.drop⟩,?_⟩;cases b:r.2.2.2.2.1 with|true=>have:=h.held b;simp only[ae,af,aR];exact⟨this.1,this.2.1,this.2.2⟩|false=>exact(aq1 _).2 (h.free b)
theorem D5.mono {n m r}(h:D5 n r)(hn:n<=m:=by omega):D5 m r:=⟨h.ring,h.dev,h.ZS,h.base,h.size,⟨h.drop.1,by have:=h.drop.2;omega⟩,h.held,h.free⟩
theorem D5.rx {n r}(h:D5 n r)(hn:n<=1000000000000):KI r=true:=(Ns r).2 (h.mono hn)
theorem amU (h:dC m=O)l d q x:dC (vF l m d q x).1=true:=by grind[vF,Nf]
theorem amV (h:dC m=O)l d q k s:dC (iP l m d q k s).1=true:=by unfold iP;cases !(dV s).2||(((dV s).1.1 !=3)||decide ((dV s).1.2.2.1<((dE q.2.2.2.1.1).1.length)));all_goals grind[amU,Nf]
theorem asE {q k s}(a:dC m=O)(b:iE q.2.1=O):iE (iP l m d q k s).2.1=O/\(iP l m d q k s).2.1.1=q.2.1.1/\(iP l m d q k s).2.1.2.1=q.2.1.2.1:=(abv (n:=128) J (aaN J (tf.1 a)) b).2.2
theorem H2 {n}(hn:n<=900000000000){q}(h:D5 n q)(a:dC m=O)l d k:dC (iw l m d q k).1=O/\D5 (n+320) (iw l m d q k).2:=by
 unfold iw;cases b: !KI q||(!q.2.2.2.2.1||((k.length:Int) !=16));case true=>exact⟨a,h.mono⟩
 simp only[dj,eH]at b;have e:=h.held b.2.1;have hd:=h.drop;have c:=aaZ h.ring l m d;have hs:=asE (l:=l) (d:=d) (k:=k) (s:=(bU l m d q.1).1) a h.dev;cases (bU l m d q.1).2.2&&(iP l m d q k (bU l m d q.1).1).2.2 with|true=>exact⟨amV a ..,c.1,hs.1,h.ZS,hs.2.1.trans h.base,hs.2.2.trans h.size,⟨hd.1,gA⟩,λhf=>(by cases hf),λ_=>rfl⟩|false=>refine⟨a,c.1,h.dev,h.ZS,h.base,h.size,?_,λhf=>(by cases hf),λ_=>rfl⟩;grind[aj]
theorem akz (h:JG s p=O):di (wZ s p).1=O/\(0<=(wZ s p).2.1/\(wZ s p).2.1<=320)/\1<=(wZ s p).2.2/\(wZ s p).2.2<=320:=by
 have w:=Vo h;unfold wZ;rw[h,ae];simp only[JG,aez,UB,af,bO,aR,bw]at h;obtain⟨⟨i,r,g,k,l,o⟩,⟨v,m,x,t,u⟩,_⟩:=h;have n:s.2.2+1<=320:=by
  have:s.2.2<=s.2.1*s.2.2:=by have:=Int.mul_le_mul_of_nonneg_right v (J:0<=s.2.2);omega
  omega
 have j:s.2.1<=320:=by
  have:s.2.1<=s.2.1*s.2.2:=by have:=Int.mul_le_mul_of_nonneg_left m.1 (J:0<=s.2.1);omega
  omega
 refine⟨?_,⟨by show 0<=s.2.1;omega,j⟩,?_⟩;have d:vn s.1=true:=by unfold di at i;simp only[af]at i;exact i.1
 have f:s.1.2.2.2.2.2.2.2.2.1=6:=by
  have e:s.1.2.2.2.2.2.2.2.2.1=p.2.2.2.2.2.2.2.2.1:=by have b:=g;unfold Rq at b;simp only[af,bw]at b;exact b.2.2.2.2.2.2.2.1
  rw[e];exact k
 have a:=CB d;have c:=Lt r (by rw[k];rfl);have q:=XX a f (akU a f).2.2.1 (aR.1 c) (by rw[aq];omega);unfold di;rw[af];refine⟨Kk d (WR d) q,?_⟩;rw[f,o];simp;show 1<=V (s.2.2+1)/\V (s.2.2+1)<=320;rw[aj J J];omega
theorem ack {n q}(h:D5 n q)(hs:di s.1=O)(a:0<=s.2.1/\s.2.1<=320)(b:1<=s.2.2/\s.2.2<=320):D5 n (OW q s):=⟨h.ring,h.dev,h.ZS,h.base,h.size,h.drop,λ_=>⟨hs,a,b⟩,λhf=>(by cases hf)⟩
theorem Oo (h:eU p=O):di (mi p).1=O/\(0<=(mi p).2.1/\(mi p).2.1<=320)/\1<=(mi p).2.2/\(mi p).2.2<=320:=by
 have b:=Lu h;have a:di p=true:=by grind[eU]
 refine⟨a,?_,by show(1)<=1/\(1)<=320;omega⟩;show 0<=(p.2.2.2.2.2.2.2.2.2.2.2.2.2.2.2.length:Int)/\(p.2.2.2.2.2.2.2.2.2.2.2.2.2.2.2.length:Int)<=320;omega
theorem adI {n}(hn:n<=800000000000){q}(h:D5 n q)(a:dC m=O)l d k p c:dC (jD l m d q k p c).1=O/\D5 (n+640) (jD l m d q k p c).2:=by
 unfold jD;cases b: !KI q||(!eU p||((k.length:Int) !=16));case true=>exact⟨a,h.mono⟩
 simp only[dj,eH]at b;have hs:=Oo b.2.1;have hf:=H2 J h a l d k;have hf2:=ack hf.2 hs.1 hs.2.1 hs.2.2;cases e:c&&(q.2.2.2.2.1&&JG q.2.2.2.1 p)with|true=>simp only[af]at e;have j:=akz e.2.2;exact⟨a,h.ring,h.dev,h.ZS,h.base,h.size,⟨h.drop.1,by show q.2.2.2.2.2<=n+640;have:=h.drop.2;omega⟩,λ_=>j,λhf=>gA⟩|false=>cases c with|true=>exact⟨hf.1,hf2.mono⟩|false=>have:=H2 J hf2 hf.1 l d k;grind
theorem atQ {q}(h:iE q=O):iE (mm l m d q).2.1=O/\(mm l m d q).2.1.1=q.1/\(mm l m d q).2.1.2.1=q.2.1:=by unfold mm;cases Og l m d q with|false=>grind|true=>grind[ph,aqf,iE,aR,HK]
theorem aiY {n s}(h:D5 n s.2.1)(a:eD s.2.2=O)l m d:D5 n (xU l m d s).2.1/\eD (xU l m d s).2.2=true:=by have k:=atQ (l:=l) (m:=m) (d:=d) h.ZS;exact⟨⟨h.ring,h.dev,k.1,h.base.trans k.2.1.symm,h.size.trans k.2.2.symm,h.drop,h.held,h.free⟩,ant a _⟩
theorem XG (l:Z cE)(m:cL)(d:Int){n:Int}:∀(k:Nat)(s:Z Stream×dq×gL),D5 n s.2.1->eD s.2.2=O->D5 n (jq l m d k s).2.2.1/\eD (jq l m d k s).2.2.2=O
 |0,s,h,a=>⟨h,a⟩
 |k+1,s,h,a=>by rw[jq];cases (mm l m d s.2.1.2.2.1).2.2 with|false=>exact⟨h,a⟩|true=>have e:=aiY h a l m d;exact XG l m d k _ e.1 e.2
theorem Ws (l:Z cE)(d:Int)(p:gL):∀(q:dw)(m:cL)(r:rn),dC m=O->eQ r=O->dC (nG l d p q m r).2.1=O/\eQ (nG l d p q m r).2.2=O
 |[],m,r,a,c=>⟨a,c⟩
 |b::q,m,r,a,c=>by rw[nG];cases (dL l m d r (iB p b)).2.2 with|false=>exact⟨a,c⟩|true=>exact Ws l d p q _ _ (Ui a ..) (afU c ..).1
theorem Z5 (a:dC m=O)(b:eQ r=O){p}(c:eD p=O)l d:dC (sB l m d r p).1=O/\eQ (sB l m d r p).2.1=O/\eD (sB l m d r p).2.2.1=true:=by unfold sB;have k:=Ws l d p p.2.2.2 m r a b;grind[Nl]
theorem aaS {n rx}(h:D5 n rx)(e:dC m=O){a}(g:eD a=O)l d b c:dC (iU l m d rx a b c).1=O/\D5 n (iU l m d rx a b c).2.1/\eD (iU l m d rx a b c).2.2.1=true:=by
 unfold iU;cases !KI rx||(!eD a|| !dF c 0 1000);case true=>grind
 have k:=XG l m d c.toNat (b,rx,a) h g;have f:=Z5 e k.1.ring k.2 l d;exact⟨f.1,⟨f.2.1,k.1.dev,k.1.ZS,k.1.base,k.1.size,k.1.drop,k.1.held,k.1.free⟩,f.2.2⟩
structure Good (n:Int) (h:Host):Prop where
 mem:dC h.1=O
 maps:gU h.2.1=O
 tx:Mw h.2.2.1
 oB:gu h.2.2.2.2.2.2.2.1=O
 lens:ru h=O
 Mo:fK h.2.2.2.2.2.2.2.2.1 (h.2.2.2.1.length:Int)=O
 rx:∀r∈h.2.2.2.1,D5 n r
 pool:∀p∈h.2.2.2.2.1,eD p=O
 vec:∀v∈h.2.2.2.2.2.1,fO v=O
 Gy:∀x∈jH h,0<=x/\x<=n
theorem Good.mono {n m}(g:Good n h)(hn:n<=m:=by omega):Good m h:=⟨g.mem,g.maps,g.tx,g.oB,g.lens,g.Mo,λr b=>(g.rx r b).mono hn,g.pool,g.vec,λx a=>⟨(g.Gy x a).1,by have:=(g.Gy x a).2;omega⟩⟩
theorem apx h:eJ h=O↔Good 1000000000000 h:=by unfold eJ aa0;simp only[af,aL,aR,aq8,Ns];constructor;rintro⟨b,c,d,e,f,i,⟨j,k,l⟩,a⟩;exact⟨b,c,d,e,f,i,j,k,l,a⟩;intro g;exact⟨g.mem,g.maps,g.tx,g.oB,g.lens,g.Mo,⟨g.rx,g.pool,g.vec⟩,g.Gy⟩
theorem Good.ok {n}(g:Good n h)(hn:n<=1000000000000):eJ h=true:=(apx h).2 (g.mono hn)
theorem yq {P:α->Prop}{l:Z α}{i v}(h:∀x∈l,P x)(a:P v):∀x∈l.set i v,P x:=by grind
theorem arP {n}(g:Good n h)k:Good n (evS k h):=by unfold evS;cases a:h.2.2.2.2.2.1[k]? with|none=>exact g|some v=>exact⟨g.mem,g.maps,g.tx,g.oB,by have:=g.lens;grind[ru],g.Mo,g.rx,g.pool,yq g.vec (ard (g.vec v (aF a))),g.Gy⟩
theorem aes {n:Int}(g:Good n h)(k:Nat):∀i,Good n (TV k i h)
 |0=>g
 |i+1=>arP (aes g k i) k
theorem T9 {n}(g:Good n h)k b(a:dC f.1=O)(c:D5 n f.2):Good n (tY h k b f):=by refine aes (h:=Jq h k f) ⟨a,g.maps,g.tx,g.oB,?_,?_,yq g.rx c,g.pool,g.vec,g.Gy⟩ _ _;have:=g.lens;unfold ru Jq at*;simp only[aC];exact this;show fK _ ((h.2.2.2.1.set k f.2).length)=O;rw[aC];exact g.Mo
theorem Ja {n}(hn:n<=800000000000)(g:Good n h)k:Good (n+320) (fu k h):=by unfold fu;cases a:h.2.2.2.1[k]? with|none=>exact g.mono|some x=>have f:=H2 J (g.rx x (aF a)) g.mem h.2.1 0 h.2.2.2.2.2.2.2.2.1.2.2.1;exact T9 (g.mono) k _ f.1 f.2
theorem H5 {n}(hn:n<=700000000000)(g:Good n h):Good (n+640) (jR h):=by
 unfold jR;have b:=mA g.lens;cases eJ h with
 |false=>exact g.mono
 |true=>
  have a:∀k:Nat,k<=2->Good (n+320*(k)) (eV fu k h):=by intro k;induction k with|zero=>intro _;exact g.mono|succ k c=>intro d;exact(Ja J (c J) k).mono
  exact(a _ b.1).mono
theorem Kj {n}(g:Good n h):Good n (kX h):=by
 unfold kX;cases eJ h with
 |false=>exact g
 |true=>
  have b:∀k,Good n (eV kQ k h):=by intro k;induction k with|zero=>exact g|succ k a=>show Good n (kQ k (eV kQ k h));generalize eV kQ k h=s at a⊢;unfold kQ;cases c:s.2.2.2.2.2.1[k]? with|none=>exact a|some v=>exact⟨a.mem,a.maps,a.tx,a.oB,by have:=a.lens;grind[ru],a.Mo,a.rx,a.pool,yq a.vec (Yy (a.vec v (aF c))),a.Gy⟩
  exact b _
theorem al4 {n}(g:Good n h)p c z:Good n (pP h p c z).1:=by unfold pP;cases eJ h with|false=>exact g|true=>have k:=anH g.tx g.mem h.2.1 0 p c z;exact⟨k.1,g.maps,k.2,g.oB,g.lens,g.Mo,g.rx,g.pool,g.vec,g.Gy⟩
theorem JK {n}(g:Good n h):Good n (cS h):=by unfold cS;cases eJ h with|false=>exact g|true=>have r:=NK h.2.1 h.1 0 17 [] 0 0 h.2.2.1.1 g.tx.ring;exact⟨g.mem,g.maps,agL (asK g.tx r.1 r.2) _,g.oB,g.lens,g.Mo,g.rx,g.pool,g.vec,g.Gy⟩
theorem ME {x n}(h:0<=x/\x<=n)(hn:n<=800000000000:=by omega):0<=V (x+1)/\V (x+1)<=n+1:=by grind[aj]
theorem La {n}(hn:n<=800000000000)(g:Good n h){b c}(f:0<=a/\a<=n+1)(i:0<=b/\b<=n+1)(j:0<=c/\c<=n+1)(hd:0<=d/\d<=n+1):Good (n+1) (qV h a b c d):=by have k:=g.mono (J:n<=n+1);refine⟨k.mem,k.maps,k.tx,k.oB,k.lens,k.Mo,k.rx,k.pool,k.vec,λx l=>?_⟩;have e:=ME (g.Gy _ (List.mem_cons_self ..)) hn;grind[jH,qV]
theorem QN {n}(hn:n<=700000000000)(g:Good n h)x:Good (n+641) (gn h x):=by
 have c1:=g.Gy h.2.2.2.2.2.2.2.2.2.2.2.2.2.2.2.1 (by simp[jH]);have b:=g.Gy h.2.2.2.2.2.2.2.2.2.2.2.2.2.2.2.2.1 (by simp[jH]);have c:=g.Gy h.2.2.2.2.2.2.2.2.2.2.2.2.2.2.2.2.2.1 (by simp[jH]);have c4:=g.Gy h.2.2.2.2.2.2.2.2.2.2.2.2.2.2.2.2.2.2 (by simp[jH]);have u:∀{y:Int},0<=y/\y<=n->0<=y/\y<=n+1:=λe=>⟨e.1,J⟩
 unfold gn;cases eJ h;exact g.mono;cases (cM x).2 !=0;case true=>exact(La J g (ME c1) (u b) (u c) (u c4)).mono
 cases !kJ h.2.2.2.2.2.2.2.1 (cM x).1;case true=>exact(La J g (u c1) (ME b) (u c) (u c4)).mono
 cases ji h.2.2.2.2.2.2.2.2.1 (h.2.2.2.1.length) (cM x).1== -1;case true=>exact(La J g (u c1) (u b) (ME c) (u c4)).mono
 cases d:h.2.2.2.1[(ji h.2.2.2.2.2.2.2.2.1 (h.2.2.2.1.length) (cM x).1).toNat]? with|none=>exact g.mono|some q=>have a:=adI J (g.rx q (aF d)) g.mem h.2.1 0 h.2.2.2.2.2.2.2.2.1.2.2.1 (cM x).1 h.2.2.2.2.2.2.2.2.2.2.1;exact T9 ((La J g (u c1) (u b) (u c) (ME c4)).mono) _ _ a.1 (a.2.mono)
theorem aev {n}(g:Good n h)i c:Good n (uI h i c).2:=by unfold uI;rcases a:h.2.2.2.1[i]? with _|rx;exact g;rcases b:h.2.2.2.2.1[i]? with _|d;exact g;have k:=aaS (g.rx rx (aF a)) g.mem (g.pool d (aF b)) h.2.1 0 h.2.2.2.2.2.2.2.2.2.1 c;refine⟨k.1,g.maps,g.tx,g.oB,?_,?_,yq g.rx k.2.1,yq g.pool k.2.2,g.vec,g.Gy⟩;have:=g.lens;unfold ru at*;simp only[aC];exact this;rw[aC];exact g.Mo
theorem Jb {n}b k{s}(g:Good n s.2):Good n (uK b k s).2:=by unfold uK;rcases d:s.2.2.2.2.2.2.1[k]? with _|v;exact g;rcases i:s.2.2.2.2.2.2.2.1[k]? with _|p;exact g;rcases f:s.2.2.2.2.1[k]? with _|x;exact g;rcases h:s.2.2.2.2.2.1[k]? with _|c;exact g;have a:=agN (g.vec v (aF d));simp only;cases p||(rA v).2 with|false=>refine⟨g.mem,g.maps,g.tx,g.oB,?_,g.Mo,g.rx,g.pool,yq g.vec a,g.Gy⟩;have:=g.lens;unfold ru at*;simp only[ab,aC];exact this|true=>have e:=aaS (g.rx x (aF f)) g.mem (g.pool c (aF h)) s.2.2.1 0 s.2.2.2.2.2.2.2.2.2.2.1 b;refine⟨e.1,g.maps,g.tx,g.oB,?_,?_,yq g.rx e.2.1,yq g.pool e.2.2,yq g.vec ?_,g.Gy⟩;have:=g.lens;unfold ru at*;simp only[ae,aC];exact this;show fK _ ((s.2.2.2.2.1.set k _).length)=O;rw[aC];exact g.Mo;cases decide ((iU s.2.2.1 s.2.1 0 x c s.2.2.2.2.2.2.2.2.2.2.1 b).2.2.2.2<b)with|true=>exact ajQ a|false=>exact a
theorem WM {n:Int}(b:Int)(g:Good n h):∀k,Good n (ir b k h).2
 |0=>g
 |k+1=>Jb b k (WM b g k)
theorem QO {n}(g:Good n h)b:Good n (gq h b).1:=by grind[gq,WM]
theorem Lb {n:Int}(g:Good n h):∀k,Good n (na h k)
 |0=>g
 |k+1=>aev (Lb g k) k 1000
theorem al3 {n}(g:Good n h)l:Good n (akS h l):=⟨g.mem,g.maps,g.tx,g.oB,g.lens,g.Mo,g.rx,g.pool,g.vec,g.Gy⟩
theorem OT {n:Int}(g:Good n h):∀k,Good n (returned h k)
 |0=>Lb g _
 |k+1=>by show Good n (Tq h.2.2.1.2.2.1 k (returned h k));have:=OT g k;grind[Tq,al3]
theorem Ru {b n}(c:0<=a/\a<=130944:=by omega)(d:1<=b/\b<=512:=by omega)(hn:0<=n/\n<=16:=by omega):iO a b n=((a,b,n,upto n.toNat),O)/\eD (a,b,n,upto n.toNat)=true:=by have f:eD (a,b,n,[])=true:=Rt.2 ⟨c,d,hn,aD,List.nodup_nil⟩;refine⟨by unfold iO;rw[f];rfl,Rt.2 ⟨c,d,hn,?_,?_⟩⟩;intro x e;simp only[upto,cX,bK]at e;obtain⟨i,j,rfl⟩:=e;simp only[Int.ofNat_eq_natCast];omega;unfold upto;rw[List.Nodup,List.pairwise_map];exact List.nodup_range.imp λh g=>h (Int.ofNat.inj g)
theorem aq9 c(a:0<=c/\c<=65535):Mw (D0.1,D0.2.1,D0.2.2.1,c):=by refine⟨Np J J J J J,a,λx b=>(by cases b),?_,by show(0)<=16;omega⟩;rfl
theorem ach {n}(g:Good n h):Good n (gM h):=by have k:=OT g h.2.2.1.2.2.1.length;exact⟨k.mem,k.maps,aq9 _ k.tx.next,k.oB,k.lens,k.Mo,k.rx,k.pool,k.vec,k.Gy⟩
theorem aj2 {i}(h:i<=8):0<=iL i/\iL i<=16000:=by unfold iL;omega
theorem aaL (e:dC m=O)l{i}(c:i<=8):dC (ow l m i).1=O/\eQ (ow l m i).2.1=O/\eD (ow l m i).2.2.1=true:=by have d:=aj2 c;have p:=Ru (a:=iL i+128) (b:=384) (n:=4);grind[ow,Z5,Nf,Np]
theorem afZ {i}(b:i<=8)(c:eQ r=O){n}(hd:0<=d/\d<=n):D5 n (r,(iL i+64,4,0),(iL i+64,4,0),((0,0,0,0,0,0,0,0,0,0,0,0,0,0,0,([]:Bytes)),0,0),G,d):=by
 have e:=aj2 b;have a:iE (iL i+64,4,0)=true:=by have hs:lG 4=true:=jN.2 J;unfold iE;rw[af,af];exact⟨aR.2 J,hs,by rfl⟩
 exact⟨c,a,a,rfl,rfl,hd,λhf=>(by cases hf),λ_=>rfl⟩
theorem aew {n}(hn:n<=800000000000)(g:Good n h){i}(b:i<=8):Good (n+320) (pT i h):=by
 have a:=g.mono (J:n<=n+320);unfold pT;rcases e:h.2.2.2.1[i]? with _|x;exact a;rcases f:h.2.2.2.2.2.1[i]? with _|v;exact a;have o:=aaL g.mem h.2.1 b;have c:=g.rx x (aF e);have hd:0<=HU x/\HU x<=n+320:=by have d:=c.drop;unfold HU;cases j:x.2.2.2.2.1 with|false=>simp only[ab];omega|true=>have:=c.held j;rw[ae,aj J J];omega
 refine⟨o.1,a.maps,a.tx,a.oB,?_,?_,yq a.rx (afZ b o.2.1 hd),yq a.pool o.2.2,yq a.vec (aok (g.vec v (aF f))),a.Gy⟩;have:=g.lens;unfold ru Im at*;simp only[aC];exact this;unfold Im;simp only[aC];exact g.Mo
theorem OS {n:Int}(hn:n<=700000000000)(g:Good n h):∀k:Nat,k<=8->Good (n+320*(k:Int)) (fW h k)
 |0,_=>g.mono
 |k+1,a=>(aew J (OS hn g k J) J).mono
theorem PU {n}(hn:n<=700000000000)(g:Good n h):Good (n+640) (kI h):=by have a:=mA g.lens;unfold kI;cases eJ h with|false=>exact g.mono|true=>exact(OS hn (ach g) _ J).mono
theorem apq {n}(hn:n<=700000000000)(g:Good n h)a:Good (n+641) (Mx h a).1:=by
 unfold Mx;cases !eJ h|| !IW a;case true=>exact g.mono
 cases a.1==0;case true=>exact(al4 g _ _ _).mono
 cases a.1==1;case true=>exact(JK g).mono
 cases a.1==2;case true=>exact QN hn g _
 cases a.1==3;case true=>exact(H5 hn g).mono
 cases a.1==4;case true=>exact(Kj g).mono
 cases a.1==5 with|true=>exact(QO g _).mono|false=>exact(PU hn g).mono
def adw c:=∃a last,c=a++[last]/\(∀e∈a,(dV e).2=O/\GN (dV e).1=G)/\(dV last).2=O/\GN (dV last).1=O
structure TxS (m:List Bytes) (t:eT) (hd:Nat) (L:List (List Bytes)):Prop where
 ring:t.1=fZ 0 16 hd L.flatten.length
 row:uc m 0 16 hd L.flatten
 Gy:L.length=t.2.2.1.length
 ch:∀c∈L,adw c
 pool:t.2.1.1=256/\t.2.1.2.1=128/\t.2.1.2.2.1=8
theorem TxS.frame (s:TxS m t hd L)(h:∀i,i<256->mB m' i=mB m i):TxS m' t hd L:=⟨s.ring,s.row.frame (Or.inr rfl) λi _ a=>h i J,s.Gy,s.ch,s.pool⟩
theorem Pz (j:fR m):∀(c:cL)(last:Bytes)(a:cL)(hd n:Nat)(d:Z KW),uc m 0 16 hd (c++last::a)->c.length+1<=n->(∀e∈c,(dV e).2=O/\GN (dV e).1=G)->(dV last).2=O->GN (dV last).1=O->
 (qU (bV 38) m 0 n d (fZ 0 16 hd (c.length+1+a.length))).2=(fZ 0 16 (hd+(c.length+1)) a.length,O)/\uc m 0 16 (hd+(c.length+1)) a
 |[],last,a,hd,0,d,r,f,_,h,i=>by simp at f
 |[],last,a,hd,n+1,d,r,f,_,h,i=>by have t:=HM j (b:=0) (S:=16) (Or.inr rfl) J r;rw[show([]:cL).length+1+a.length=a.length+1 by simp;omega,qU,t.1,h,i];exact⟨rfl,t.2⟩
 |e::c,last,a,hd,0,d,r,f,_,h,i=>by simp at f
 |e::c,last,a,hd,n+1,d,r,f,k,h,i=>by
  have t:=HM j (b:=0) (S:=16) (Or.inr rfl) J (show uc m 0 16 hd (e::(c++last::a)) from r);have l:(c++last::a).length=c.length+1+a.length:=by simp;omega
  rw[l]at t;have g:=k e aD;simp only[bj]at f;rw[show(e::c).length+1+a.length=c.length+1+a.length+1 by simp;omega,qU,t.1,g.1,g.2];simp only[ak,bL,ab];have p:=Pz j c last a (hd+1) n (d++[(dV e).1]) t.2 J (λy o=>k y (by simp[o])) h i;grind
theorem Uj (k:fR m){c}(i:adw c)(r:uc m 0 16 hd (c++L.flatten)):((iD (bV 38) m 0 (fZ 0 16 hd (c++L.flatten).length)).1=fZ 0 16 (hd+c.length) L.flatten.length/\uc m 0 16 (hd+c.length) L.flatten)/\((iD (bV 38) m 0 (fZ 0 16 hd (c++L.flatten).length)).2.2=1\/(iD (bV 38) m 0 (fZ 0 16 hd (c++L.flatten).length)).2.2=2):=by
 obtain⟨a,last,rfl,f,g,h⟩:=i;have j:(a++[last]++L.flatten).length=a.length+1+L.flatten.length:=by simp;omega
 have el:(a++[last]).length=a.length+1:=aD;have e:a++[last]++L.flatten=a++last::L.flatten:=aD;have d:=r.len;rw[j]at d⊢;rw[e]at r;have v:=ti (b:=0) (S:=16) (hd:=hd) (Or.inr rfl) J d;have l:=Pz k a last L.flatten hd (a.length+1+L.flatten.length) [] r J f g h;have n:(fy (bV 38) m 0 (fZ 0 16 hd (a.length+1+L.flatten.length))).2=(fZ 0 16 (hd+(a.length+1)) L.flatten.length,O):=by unfold fy;grind
 rw[el];grind[iD]
theorem Qi (p:fR m):∀(L:Z cL)(hd n:Nat)(j:cL)(i g:Nat),(∀c∈L,adw c)->uc m 0 16 hd L.flatten->L.length<n->
 ∃(f:Nat)(d:cL)(a b:Nat),lQ (bV 38) m 0 n j i g (fZ 0 16 hd L.flatten.length)=(fZ 0 16 f 0,d,(a:Int),(b:Int))/\a+b=i+g+L.length
 |[],hd,0,j,i,g,_,_,h=>by simp at h
 |[],hd,n+1,j,i,g,_,_,_=>by
  have v:=ti (b:=0) (S:=16) (hd:=hd) (n:=0) (Or.inr rfl) J J;have e:(iD (bV 38) m 0 (fZ 0 16 hd 0)).2.2=0:=by unfold iD;rw[v.1,v.2];rfl
  refine⟨hd,j,i,g,?_,aD⟩;show lQ (bV 38) m 0 (n+1) j i g (fZ 0 16 hd 0)=_;rw[lQ,e];rfl
 |c::L,hd,0,j,i,g,_,_,h=>by simp at h
 |c::L,hd,n+1,j,i,g,o,r,h=>by have t:(c::L).flatten=c++L.flatten:=List.flatten_cons;rw[t]at r⊢;simp only[bj]at h;have k:=Uj p (o c aD) r;rw[lQ,k.1.1];rcases k.2 with e|e;obtain⟨f,d,a,b,l,s⟩:=Qi p L (hd+c.length) n (j++(iD (bV 38) m 0 (fZ 0 16 hd (c++L.flatten).length)).2.1) (i+1) g (λy q=>o y (by simp[q])) k.1.2 J;rw[e];exact⟨f,d,a,b,l,by simp only[bj];omega⟩;obtain⟨f,d,a,b,l,s⟩:=Qi p L (hd+c.length) n (j++(iD (bV 38) m 0 (fZ 0 16 hd (c++L.flatten).length)).2.1) i (g+1) (λy q=>o y (by simp[q])) k.1.2 J;rw[e];exact⟨f,d,a,b,l,by simp only[bj];omega⟩
theorem acb:∀(L:Z cL),(∀c∈L,adw c)->L.length<=L.flatten.length
 |[],_=>bq _
 |c::L,h=>by have:=acb L λy a=>h y (by simp[a]);obtain⟨b,last,e,_⟩:=h c aD;grind
theorem T8:∀(l:Z xw)(p:gL),(qn p l).1=p.1/\(qn p l).2.1=p.2.1/\(qn p l).2.2.1=p.2.2.1
 |[],p=>⟨rfl,rfl,rfl⟩
 |x::l,p=>by
  have i:=T8 l (H4 p x.2.2).1;have g:(H4 p x.2.2).1.1=p.1/\(H4 p x.2.2).1.2.1=p.2.1/\(H4 p x.2.2).1.2.2.1=p.2.2.1:=by unfold H4;cases Ki p x.2.2<;>exact⟨rfl,rfl,rfl⟩
  exact⟨i.1.trans g.1,i.2.1.trans g.2.1,i.2.2.trans g.2.2⟩
theorem agJ {n}(g:Good n h)(hn:n<=1000000000000)(d:h.2.1=bV 38)(m:fR h.1)(s:TxS h.1 h.2.2.1 hd L):∃c,(cS h).2.2.1=(fZ 0 16 c 0,qn h.2.2.1.2.1 h.2.2.1.2.2.1,[],h.2.2.1.2.2.2):=by
 have r:=s.row.len;have l:=acb L s.ch;obtain⟨c,k,a,b,f,p⟩:=Qi m L hd 17 [] 0 0 s.ch s.row J;have e:mh h.2.1 h.1 0 h.2.2.1.1=(fZ 0 16 c 0,k,(a:Int),(b:Int)):=by rw[d,s.ring];exact f
 have q:=s.Gy;have v:=ti (b:=0) (S:=16) (hd:=c) (n:=0) (Or.inr rfl) J J;have i:(if(h.2.2.1.2.2.1.length:Int)<V ((a:Int)+(b:Int)) then(h.2.2.1.2.2.1.length:Int) else V ((a:Int)+(b:Int)))=(h.2.2.1.2.2.1.length:Int):=by rw[aj J J];split<;>omega
 have tx:=g.tx;have t2:Mw (fZ 0 16 c 0,h.2.2.1.2):=by refine⟨v.1,tx.next,λx o=>?_,tx.pool,?_⟩;have:=tx.sent x o;rw[s.ring]at this;exact this;have:=tx.Gy;rw[s.ring]at this;exact this
 have j:lC (fZ 0 16 c 0,h.2.2.1.2) (h.2.2.1.2.2.1.length:Int)=((fZ 0 16 c 0,qn h.2.2.1.2.1 h.2.2.1.2.2.1,[],h.2.2.1.2.2.2),h.2.2.1.2.2.1.map (·.1)):=by unfold lC;rw[aq8.2 t2,aR.2 ⟨J,gH _⟩];simp only[bR,ae,au,bB,gW]
 refine⟨c,?_⟩;unfold cS;rw[g.ok hn,e];simp only[ae,i,j]
theorem Pj {n}(g:Good n h)(hn:n<=1000000000000)(b:h.2.1=bV 38)(i:fR h.1)(s:TxS h.1 h.2.2.1 hd L):(cS h).2.2.1.2.2.1=[]/\∃a,TxS h.1 (cS h).2.2.1 a []:=by obtain⟨a,d⟩:=agJ g hn b i s;have gs:=T8 h.2.2.1.2.2.1 h.2.2.1.2.1;rw[d];exact⟨rfl,a,rfl,⟨aD,λj f=>by simp at f⟩,rfl,(λc e=>by cases e),gs.1.trans s.pool.1,gs.2.1.trans s.pool.2.1,gs.2.2.trans s.pool.2.2⟩
theorem aj9 {p}(e:p.1=256/\p.2.1=128/\p.2.2.1=8)(c:eD p=O){b}(h:b∈p.2.2.2):∃a:Nat,mU p b=(a:Int)/\256<=a/\a+128<=1280:=by
 have d:0<=b/\b<=7:=by unfold eD at c;simp only[af,aL,bK]at c;grind[fP,H3,aR]
 refine⟨(256+b*128).toNat,?_,J,J⟩;grind[mU,aR]
theorem PI {p:gL}(f:p.1=256/\p.2.1=128/\p.2.2.1=8)(c:eD p=O){z:Nat}(k:z<=128):∀(q:dw)(s:Bytes)(m:cL)(a:Z ic){x},(∀b∈q,b∈p.2.2.2)->fR m->vm (bV 38) 0 p z q s m a=I x->fR x.2/\∀i,i<4864->(i<256\/1280<=i)->mB x.2 i=mB m i
 |[],s,m,a,x,_,d,h=>by cases h;grind
 |b::q,s,m,a,x,g,d,h=>by
  obtain⟨A,e,l,n⟩:=aj9 f c (g b aD);have o:(s.take z).length<=128:=by rw[bp];omega
  have pf:=Ir d (a:=A) (s:=s.take z) (w:=false) J J aD;rw[vm,e,pf.1]at h;have r:=PI f c k q _ _ _ (λy j=>g y (by simp[j])) pf.2.1 h;grind
theorem Nm:∀(q:cL)(m:cL)(hd:Nat)(E:cL),fR m->uc m 0 16 hd E->(∀s∈q,s.length=16)->E.length+q.length<=16->∃m',xa (bV 38) 0 q m (fZ 0 16 hd E.length)=I (m',fZ 0 16 hd (E++q).length)/\fR m'/\uc m' 0 16 hd (E++q)/\∀i,i<4864->256<=i->mB m' i=mB m i
 |[],m,hd,E,a,r,_,_=>⟨m,by rw[bm];rfl,a,by rw[bm];exact r,λ_ _ _=>rfl⟩
 |s::q,m,hd,E,a,r,hs,c=>by simp only[bj]at c;have p:=afM a (b:=0) (S:=16) (hd:=hd) (Or.inr rfl) J r J (hs s aD);have e:E.length+1=(E++[s]).length:=aD;obtain⟨m',f,g,h,j⟩:=Nm q _ hd (E++[s]) p.2.1 p.2.2.1 (λy d=>hs y (by simp[d])) (by simp;omega);grind[xa]
theorem Wf {c}(h:(iu ps z c).length=ps.length+1):iu ps z c=[(2,0,0,0,z,c)]++kV ps c ps.length/\([(2,0,0,0,z,c)]++kV ps c ps.length).all ot=true:=by unfold iu at h⊢;grind
theorem ab3 f l a s c(b:f=0\/f=1):GN (1,f,l,a,s,c)=(f==1):=by rcases b with rfl|rfl;unfold GN;simp only[iI,ae];decide;unfold GN;simp only[iI,ae];decide
theorem SA (ps:Z ic)(c:Int):∀i,i<ps.length->∀d∈kV ps c i,GN d=G
 |0,_,d,hd=>by cases hd
 |i+1,a,d,hd=>by rw[kV]at hd;rcases aB.1 hd with g|g;exact SA ps c i J d g;rw[aY.1 g];unfold dsc;rw[nQ,ab3 _ _ _ _ _ (Or.inl rfl)];rfl
theorem PC {c}(h:(iu ps z c).length=ps.length+1)(l:0<ps.length):adw ((iu ps z c).map iM)/\∀s∈(iu ps z c).map iM,s.length=16:=by
 obtain⟨e,a⟩:=Wf h;rw[e];rw[aL]at a;obtain⟨k,i⟩:∃k,ps.length=k+1:=⟨ps.length-1,J⟩
 have j:kV ps c ps.length=kV ps c k++[dsc ps.length c k (ps.getD k (0,0))]:=by rw[show kV ps c ps.length=kV ps c (k+1) from by rw[i]];rfl
 rw[j]at a⊢;refine⟨⟨([(2,0,0,0,z,c)]++kV ps c k).map iM,iM (dsc ps.length c k (ps.getD k (0,0))),?_,λs f=>?_,?_,?_⟩,λs f=>?_⟩;rw[<-aH,df];rfl;obtain⟨d,hd,rfl⟩:=cX.1 f;have b:d∈[(2,0,0,0,z,c)]++(kV ps c k++[dsc ps.length c k (ps.getD k (0,0))]):=by rw[<-aH];exact bh _ hd
 rw[(pU (a d b)).2];refine⟨rfl,?_⟩;rcases aB.1 hd with g|g;rw[aY.1 g];rfl;exact SA ps c k J d g;rw[(pU (a _ (by rw[<-aH];exact bC _ (aY.2 rfl)))).2];rw[(pU (a _ (by rw[<-aH];exact bC _ (aY.2 rfl)))).2];show GN (1,(if k+1=ps.length then 1 else 0),_,_,0,c)=O;rw[aI i.symm,ab3 _ _ _ _ _ (Or.inr rfl)];rfl;obtain⟨d,hd,rfl⟩:=cX.1 f;exact(pU (a d hd)).1
theorem abb (Q:fR m)(s:TxS m t hd L)(R:Mw t)p c z:fR (oe (bV 38) m 0 t p c z).1/\(∃l,TxS (oe (bV 38) m 0 t p c z).1 (oe (bV 38) m 0 t p c z).2.1 hd l)/\∀i,i<4864->1280<=i->mB (oe (bV 38) m 0 t p c z).1 i=mB m i:=by
 have F:fR m/\(∃l,TxS m t hd l)/\∀i,i<4864->1280<=i->mB m i=mB m i:=⟨Q,⟨L,s⟩,λ_ _ _=>rfl⟩
 have u:=R.free;unfold oe;cases j:Ql t&&(di p&&(dF z 1 t.2.1.2.1&&dF c 1 128));exact F;simp only[af,aR]at j;simp only[ae];have tl:=LX j.2.1;have hz:z.toNat<=128:=by have:=j.2.2.1.2;rw[s.pool.2.1]at this;omega
 have B:0<pR p z.toNat:=by unfold pR;refine Nat.div_pos ?_ J;omega
 generalize hk:pR p z.toNat=k at B;cases h:Me t k;exact F;simp only[ae];rcases D:vm (bV 38) 0 t.2.1 z.toNat (jZ t.2.1 (k:Int)).2.1 (iV p).1 m []with _|x;exact F;simp only;unfold Me at h;simp only[af,aW,cp]at h;have d:dF (k:Int) 0 (t.2.1.2.2.2.length:Int)=true:=by have:=h.1;unfold jZ at this;cases C:eD t.2.1&&dF (k:Int) 0 (t.2.1.2.2.2.length:Int)with|true=>rw[af]at C;exact C.2|false=>rw[C]at this;cases this
 have M:jZ t.2.1 (k:Int)=((t.2.1.1,t.2.1.2.1,t.2.1.2.2.1,t.2.1.2.2.2.drop k),t.2.1.2.2.2.take k,O):=by unfold jZ;rw[u,d];rfl
 rw[M]at D;have d:=aR.1 d;have f:(t.2.1.2.2.2.take k).length=k:=by rw[bp];omega
 have q:=PI s.pool u hz _ _ _ _ (λb a=>List.mem_of_mem_take a) Q D;have fo:=Kf (bV 38) 0 t.2.1 z.toNat _ _ _ _ D;have xl:x.1.length=k:=by rw[fo.2.1,f];simp
 have Z:k<=16:=J;have H:=Wg (ps:=x.1) (z:=c) (c:=t.2.2.2) J J (λy E=>by rcases fo.2.2 y E with g|⟨⟨b,a,e⟩,N,r⟩;cases g;·obtain⟨A,T,a1,a2⟩:=aj9 s.pool u (List.mem_of_mem_take a);rw[e,T];omega) (aR.2 j.2.2.2) (aR.2 R.next);have K:=PC H J;have r2:=s.row.frame (m':=x.2) (Or.inr rfl) λi _ h2=>q.2 i J J;have w:=h.2.2.1;have v:=ti (b:=0) (S:=16) (hd:=hd) (Or.inr rfl) J s.row.len;have o:rp t.1=((16-L.flatten.length:Nat):Int):=by have:=s.row.len;unfold rp;rw[s.ring,v.1,v.2,ae];show V ((16:Int)-(L.flatten.length:Int))=_;rw[aj J J];omega
 rw[o]at w;obtain⟨m',X,N,r,Y⟩:=Nm ((iu x.1 c t.2.2.2).map iM) x.2 hd L.flatten q.1 r2 K.2 (by rw[bt,H];omega);have U:rR (bV 38) x.2 0 t.1 ((iu x.1 c t.2.2.2).map iM)=(m',fZ 0 16 hd (L.flatten++(iu x.1 c t.2.2.2).map iM).length,O):=by unfold rR;rw[s.ring,X];rfl
 unfold RG;rw[U,M];simp only[ae];have n:L.flatten++(iu x.1 c t.2.2.2).map iM=(L++[(iu x.1 c t.2.2.2).map iM]).flatten:=by rw[eX];simp
 rw[n]at r⊢;refine⟨N,⟨L++[(iu x.1 c t.2.2.2).map iM],rfl,r,?_,λy E=>?_,s.pool⟩,λi P ho=>(Y i P J).trans (q.2 i P J)⟩;show(L++[_]).length=(t.2.2.1++[_]).length;rw[aq,aq,s.Gy];rfl;rcases aB.1 E with g|g;exact s.ch y g;rw[aY.1 g];exact K.1
abbrev PZ:=bQ×Int
def Uy (m:cL)(ps:Z ic):Bytes:=ps.flatMap λx=>xZ m x.1.toNat x.2.toNat
def Vk (bs:dw)(x:ic):=∃b∈bs,(0<=b/\b<=7)/\x.1=256+b*128/\0<=x.2/\x.2<=128
theorem Nr {bs:dw}:∀(ps:Z ic),(∀x∈ps,Vk bs x)->(∀b∈bs,0<=b/\b<=7->∀i:Nat,256+b*128<=(i:Int)->(i:Int)<384+b*128->mB m' i=mB m i)->Uy m' ps=Uy m ps
 |[],_,_=>rfl
 |x::ps,a,h=>by obtain⟨b,c,d,f,g,k⟩:=a x List.mem_cons_self;have i:=Nr ps (λy e=>a y (cy _ e)) h;unfold Uy at i⊢;rw[List.flatMap_cons,List.flatMap_cons,i,BQ λj l=>h b c d _ J J]
def ChC m bs(w:PZ)c:=∃(ps:Z ic)(k:Int),di w.1=O/\(iu ps w.2 k).length=ps.length+1/\0<ps.length/\c=(iu ps w.2 k).map iM/\(∀x∈ps,Vk bs x)/\Uy m ps=(iV w.1).1
theorem ChC.frame {bs w c}(h:ChC m bs w c)(f:∀b∈bs,0<=b/\b<=7->∀i:Nat,256+b*128<=(i:Int)->(i:Int)<384+b*128->mB m' i=mB m i):ChC m' bs w c:=by obtain⟨ps,k,d,e,g,j,a,l⟩:=h;exact⟨ps,k,d,e,g,j,a,(Nr ps a f).trans l⟩
abbrev Dsc:=KW
theorem ahw {c}(h:(iu ps z c).length=ps.length+1)(j:0<ps.length):∃(b:Z Dsc)(last:Dsc),iu ps z c=b++[last]/\(∀e∈b,ot e=O/\GN e=G)/\ot last=O/\GN last=true:=by
 obtain⟨e,a⟩:=Wf h;rw[aL]at a;obtain⟨k,f⟩:∃k,ps.length=k+1:=⟨ps.length-1,J⟩
 have i:kV ps c ps.length=kV ps c k++[dsc ps.length c k (ps.getD k (0,0))]:=by rw[show kV ps c ps.length=kV ps c (k+1) from by rw[f]];rfl
 rw[i,<-aH]at e a;refine⟨_,_,e,λd hd=>⟨a d (bh _ hd),?_⟩,a _ (bC _ (aY.2 rfl)),?_⟩;rcases aB.1 hd with g|g;rw[aY.1 g];rfl;exact SA ps c k J d g;show GN (1,(if k+1=ps.length then 1 else 0),_,_,0,c)=O;rw[aI f.symm,ab3 _ _ _ _ _ (Or.inr rfl)];rfl
theorem V8 (j:fR m):∀(c:Z Dsc)(last:Dsc)(a:cL)(hd n:Nat)(d:Z Dsc),uc m 0 16 hd (c.map iM++iM last::a)->c.length+1<=n->(∀e∈c,ot e=O/\GN e=G)->ot last=O->GN last=O->
 (qU (bV 38) m 0 n d (fZ 0 16 hd (c.length+1+a.length))).1=d++(c++[last])
 |[],last,a,hd,0,d,r,f,_,h,i=>by simp at f
 |[],last,a,hd,n+1,d,r,f,_,h,i=>by have t:=HM j (b:=0) (S:=16) (Or.inr rfl) J (show uc m 0 16 hd (iM last::a) from r);rw[show([]:Z Dsc).length+1+a.length=a.length+1 by simp;omega,qU,t.1,(pU h).2,i];rfl
 |e::c,last,a,hd,0,d,r,f,_,h,i=>by simp at f
 |e::c,last,a,hd,n+1,d,r,f,k,h,i=>by
  have t:=HM j (b:=0) (S:=16) (Or.inr rfl) J (show uc m 0 16 hd (iM e::(c.map iM++iM last::a)) from r);have l:(c.map iM++iM last::a).length=c.length+1+a.length:=by simp;omega
  rw[l]at t;have g:=k e List.mem_cons_self;simp only[bj]at f;rw[show(e::c).length+1+a.length=c.length+1+a.length+1 by simp;omega,qU,t.1,(pU g.1).2,g.2];simp only[ak,bL,ab];rw[V8 j c last a (hd+1) n (d++[e]) t.2 J (λy o=>k y (cy _ o)) h i];simp[aH]
theorem QC (ps:Z ic)(c:Int):∀i,i<=ps.length->(kV ps c i).map (λx=>(x.2.2.2.1,x.2.2.1))=ps.take i
 |0,_=>by rw[List.take_zero];rfl
 |i+1,a=>by rw[kV,df,QC ps c i J,aM J,cU J];rfl
theorem af0 (l:Z Dsc):Gn l l=true:=by grind[Gn,KJ]
theorem afC {c}(h:(iu ps z c).length=ps.length+1)(f:0<ps.length):lF (iu ps z c)=(ps,z,c,O):=by
 obtain⟨e,_⟩:=Wf h;have b:iW (iu ps z c)=ps:=by unfold iW;rw[e];show(kV ps c ps.length).map _=ps;rw[QC ps c _ (bq _),bB]
 obtain⟨y,r,d⟩:∃y r,kV ps c ps.length=y::r:=by cases g:kV ps c ps.length with|nil=>grind|cons y r=>grind
 have a:iu ps z c=(2,0,0,0,z,c)::y::r:=by rw[e,d];rfl
 have s:=af0 (iu ps z c);rw[a]at b s⊢;show(bif Gn (iu (iW ((2,0,0,0,z,c)::y::r)) z c) ((2,0,0,0,z,c)::y::r) then(iW ((2,0,0,0,z,c)::y::r),z,c,O) else([],0,0,G))=_;rw[b,a,s];rfl
theorem T7 (e:fR m){bs:dw}:∀(ps:Z ic)(c:Bytes),(∀x∈ps,Vk bs x)->GQ (bV 38) m 0 ps c=(c++Uy m ps,O)
 |[],c,_=>by
  show(c,O)=(c++[],O)
  rw[bm]
 |x::ps,c,h=>by obtain⟨b,k,l,i,f,j⟩:=h x List.mem_cons_self;have d:=MG e (a:=x.1.toNat) (r:=x.2.toNat);rw[Int.toNat_of_nonneg J,Int.toNat_of_nonneg f]at d;rw[GQ,d];simp only[ae];rw[T7 e ps _ λy g=>h y (cy _ g)];grind[Uy]
theorem anp {c}(h:(iu ps z c).length=ps.length+1):oa ps=true:=by grind[iu]
theorem aiP (h:fR m){bs w c}(p:ChC m bs w c)(r:uc m 0 16 hd (c++L.flatten)):iD (bV 38) m 0 (fZ 0 16 hd (c++L.flatten).length)=(fZ 0 16 (hd+c.length) L.flatten.length,GI w.1 w.2,1):=by
 obtain⟨ps,k,j,d,l,y,s,i⟩:=p;obtain⟨a,last,z,i1,i2,i3⟩:=ahw d l;have f:c=a.map iM++[iM last]:=gA;have el:c.length=a.length+1:=by rw[f];simp
 have q:(c++L.flatten).length=a.length+1+L.flatten.length:=by rw[aq,el]
 have o:c++L.flatten=a.map iM++iM last::L.flatten:=by rw[f];simp
 have g:=r.len;rw[q]at g⊢;rw[o]at r;have v:=ti (b:=0) (S:=16) (hd:=hd) (Or.inr rfl) J g;have x:=V8 h a last L.flatten hd (a.length+1+L.flatten.length) [] r J i1 i2 i3;have n:=Pz h (a.map iM) (iM last) L.flatten hd (a.length+1+L.flatten.length) [] r (by rw[bt];omega) (λe A=>by grind[pU]) (by rw[(pU i2).2]) (by grind[pU]);rw[bt]at n;have u:fy (bV 38) m 0 (fZ 0 16 hd (a.length+1+L.flatten.length))=(iu ps w.2 k,fZ 0 16 (hd+(a.length+1)) L.flatten.length,O):=by unfold fy;grind
 have gt:AP (bV 38) m 0 ps=((iV w.1).1,O):=by unfold AP;rw[anp d,ae,T7 h ps [] s,i];rfl
 have ii:=El j;have t:=PW j;unfold iD;rw[v.1,v.2,show(((a.length+1+L.flatten.length:Nat):Int)==0)=G from by rw[cc];omega,u];simp only[afC d l,gt,alS j,ii,t,ak,bL,ab,show((0:Int) !=0)=G from rfl];rw[el]
def Al (m:cL):Z xw->Z PZ->Z cL->Prop
 |[],[],[]=>True
 |s::S,w::W,c::L=>ChC m s.2.2 w c/\Al m S W L
 |_,_,_=>False
theorem Al.frame:∀{S:Z xw}{W:Z PZ}{L:Z cL},Al m S W L->(∀b∈bM S,0<=b/\b<=7->∀i:Nat,256+b*128<=(i:Int)->(i:Int)<384+b*128->mB m' i=mB m i)->Al m' S W L
 |[],[],[],_,_=>trivial
 |s::S,w::W,c::L,h,f=>by unfold bM at f;rw[List.flatMap_cons]at f;exact⟨h.1.frame λb a=>f b (bh _ a),Al.frame h.2 λb a=>f b (bC _ a)⟩
 |[],[],_::_,h,_=>h.elim
 |[],_::_,_,h,_=>h.elim
 |_::_,[],_,h,_=>h.elim
 |_::_,_::_,[],h,_=>h.elim
theorem Al.snoc {s:xw}{w:PZ}{c:cL}(a:ChC m s.2.2 w c):∀{S:Z xw}{W:Z PZ}{L:Z cL},Al m S W L->Al m (S++[s]) (W++[w]) (L++[c])
 |[],[],[],_=>⟨a,B⟩
 |s::S,w::W,c::L,h=>⟨h.1,Al.snoc a h.2⟩
 |[],[],_::_,h=>h.elim
 |[],_::_,_,h=>h.elim
 |_::_,[],_,h=>h.elim
 |_::_,_::_,[],h=>h.elim
theorem abA (f:fR m):∀(S:Z xw)(W:Z PZ)(L:Z cL)(hd n:Nat)(a:cL)(d b:Nat),Al m S W L->uc m 0 16 hd L.flatten->L.length<n->
 (lQ (bV 38) m 0 n a d b (fZ 0 16 hd L.flatten.length)).2.1=a++W.flatMap λw=>GI w.1 w.2
 |[],[],[],hd,0,a,d,b,_,_,h=>by simp at h
 |[],[],[],hd,n+1,a,d,b,_,_,_=>by grind[ti,iD,lQ]
 |s::S,w::W,c::L,hd,0,a,d,b,_,_,h=>by simp at h
 |s::S,w::W,c::L,hd,n+1,a,d,b,e,r,h=>by have i:(c::L).flatten=c++L.flatten:=List.flatten_cons;rw[i]at r⊢;simp only[bj]at h;obtain⟨ps,k,u,g,q,p,t,j⟩:=e.1;have o:=aiP f e.1 r;have l:=Uj f (c:=c) (by grind[PC]) r;rw[lQ,o];simp only[show((1:Int)==0)=G from rfl,iI,ab,ae];rw[abA f S W L (hd+c.length) n (a++GI w.1 w.2) (d+1) b e.2 l.1.2 J,List.flatMap_cons,aH]
 |[],[],_::_,_,_,_,_,_,h,_,_=>h.elim
 |[],_::_,_,_,_,_,_,_,h,_,_=>h.elim
 |_::_,[],_,_,_,_,_,_,h,_,_=>h.elim
 |_::_,_::_,[],_,_,_,_,_,h,_,_=>h.elim
theorem abR {p}(d:p.1=256/\p.2.1=128/\p.2.2.1=8)(a:eD p=O){b}(h:b∈p.2.2.2):(0<=b/\b<=7)/\mU p b=256+b*128:=by
 have c:0<=b/\b<=7:=by unfold eD at a;simp only[af,aL,bK]at a;grind[fP,H3,aR]
 grind[mU,aR]
theorem ai1 {p}(h:eD p=O):p.2.2.2.Nodup:=by
 unfold eD at h;simp only[af,aL,bK]at h;refine List.pairwise_iff_getElem.2 λi j f a c e=>?_;have:=h.2.2.2 j a;unfold H3 at this;rw[cU a]at this;simp only[af,aW]at this;have b:=this.2;rw[<-Bool.not_eq_true,List.contains_iff_mem]at b;have k:p.2.2.2[i]∈p.2.2.2.take j:=by
  have g:i<(p.2.2.2.take j).length:=by rw[bp];omega
  have d:(p.2.2.2.take j)[i]=p.2.2.2[i]:=List.getElem_take;grind
 grind
theorem Z1 {p:gL}(o:p.1=256/\p.2.1=128/\p.2.2.1=8)(k:eD p=O){z:Nat}(S:z<=128):∀(q:dw)(s:Bytes)(m:cL)(a:Z ic){x},(∀b∈q,b∈p.2.2.2)->q.Nodup->fR m->s.length<=z*q.length->vm (bV 38) 0 p z q s m a=I x->∃ps,x.1=a++ps/\(∀y∈ps,Vk q y)/\Uy x.2 ps=s/\∀i:Nat,i<4864->(∀b∈q,(i:Int)<256+b*128\/384+b*128<=(i:Int))->mB x.2 i=mB m i
 |[],s,m,a,x,_,_,C,t,h=>by cases h;have:s=[]:=cB (by simpa using t);exact⟨[],aD,λy f=>(by cases f),by rw[this];rfl,λ_ _ _=>rfl⟩
 |b::q,s,m,a,x,r,P,C,t,h=>by
  obtain⟨R,K⟩:=abR o k (r b List.mem_cons_self);obtain⟨A,v⟩:=ar (J:0<=256+b*128);have X:(s.take z).length<=128:=by rw[bp];omega
  have pf:=Ir C (a:=A) (s:=s.take z) (w:=false) J J aD;rw[vm,K,v,pf.1]at h;obtain⟨l,n⟩:=eo.1 P;rw[bj,Nat.mul_add,oO]at t;obtain⟨ps,E,F,H,u⟩:=Z1 o k S q (s.drop z) _ _ (λy f=>r y (cy _ f)) n pf.2.1 (by rw[bA];omega) h;refine⟨((A:Int),((s.take z).length:Int))::ps,by rw[E];simp[aH],λy f=>?_,?_,λi B D=>?_⟩;rcases bW.1 f with g|g;subst g;exact⟨b,List.mem_cons_self,R,v.symm,by show(0:Int)<=((s.take z).length:Int);omega,by show((s.take z).length:Int)<=128;omega⟩;obtain⟨d,M,N⟩:=F y g;exact⟨d,cy _ M,N⟩;have L:xZ x.2 A (s.take z).length=s.take z:=RA λj V=>by rw[u _ J λd c=>?_,pf.2.2 _ J,zip,Nat.add_sub_cancel_left];have Q:d≠b:=λe=>l (e▸c);have U:=(abR o k (r d (cy _ c))).1;omega
  show xZ x.2 ((A:Int)).toNat (((s.take z).length:Int)).toNat++Uy x.2 ps=s;rw[H,au,au,L,cH];have T:=D b List.mem_cons_self;rw[u i B λd c=>D d (cy _ c),pf.2.2 i B,nQ]
theorem aoX {z}(a:0<z)(h:pR p z=k):(iV p).1.length<=z*k:=by have b:=Nat.div_add_mod ((iV p).1.length+z-1) z;have c:=Nat.mod_lt ((iV p).1.length+z-1) a;grind[pR]
theorem aqL (Y:fR m)(s:TxS m t hd L)(H:Mw t){W}(P:Al m t.2.2.1 W L)p c z:∃f,TxS (oe (bV 38) m 0 t p c z).1 (oe (bV 38) m 0 t p c z).2.1 hd f/\Al (oe (bV 38) m 0 t p c z).1 (oe (bV 38) m 0 t p c z).2.1.2.2.1 (W++bif (oe (bV 38) m 0 t p c z).2.2 then [(p,c)] else []) f:=by
 have M:∃f,TxS m t hd f/\Al m t.2.2.1 (W++bif G then [(p,c)] else []) f:=⟨L,s,by rw[ab,bm];exact P⟩
 have o:=H.free;unfold oe;cases h:Ql t&&(di p&&(dF z 1 t.2.1.2.1&&dF c 1 128));exact M;simp only[af,aR]at h;simp only[ae];have tl:=LX h.2.1;have Z:z.toNat<=128:=by have:=h.2.2.1.2;rw[s.pool.2.1]at this;omega
 have F:0<pR p z.toNat:=by unfold pR;refine Nat.div_pos ?_ J;omega
 generalize hk:pR p z.toNat=k at F;have D:=aoX J hk;cases q:Me t k;exact M;simp only[ae];rcases r:vm (bV 38) 0 t.2.1 z.toNat (jZ t.2.1 (k:Int)).2.1 (iV p).1 m []with _|x;exact M;simp only;unfold Me at q;simp only[af,aW,cp]at q;have e:dF (k:Int) 0 (t.2.1.2.2.2.length:Int)=true:=by have:=q.1;unfold jZ at this;cases j:eD t.2.1&&dF (k:Int) 0 (t.2.1.2.2.2.length:Int)with|true=>rw[af]at j;exact j.2|false=>rw[j]at this;cases this
 have R:jZ t.2.1 (k:Int)=((t.2.1.1,t.2.1.2.1,t.2.1.2.2.1,t.2.1.2.2.2.drop k),t.2.1.2.2.2.take k,O):=by unfold jZ;rw[o,e];rfl
 rw[R]at r;have e:=aR.1 e;have d:(t.2.1.2.2.2.take k).length=k:=by rw[bp];omega
 have nd:(t.2.1.2.2.2++bM t.2.2.1).Nodup:=ai1 H.pool;have n:=aX.1 nd;obtain⟨ps,p1,N,p3,p4⟩:=Z1 s.pool o Z _ _ _ _ (λb a=>List.mem_of_mem_take a) (n.1.sublist (List.take_sublist _ _)) Y (by rw[d];exact D) r;rw[bF]at p1;subst p1;have T:=PI s.pool o Z _ _ _ _ (λb a=>List.mem_of_mem_take a) Y r;have fo:=Kf (bV 38) 0 t.2.1 z.toNat _ _ _ _ r;have xl:x.1.length=k:=by rw[fo.2.1,d];simp
 have h16:k<=16:=J;have u:=Wg (ps:=x.1) (z:=c) (c:=t.2.2.2) J J (λy K=>by obtain⟨b,_,U,g2,B,C⟩:=N y K;omega) (aR.2 h.2.2.2) (aR.2 H.next);have Q:=PC u J;have r2:=s.row.frame (m':=x.2) (Or.inr rfl) λi _ X=>T.2 i J J;have E:=q.2.2.1;have v:=ti (b:=0) (S:=16) (hd:=hd) (Or.inr rfl) J s.row.len;have A:rp t.1=((16-L.flatten.length:Nat):Int):=by have:=s.row.len;unfold rp;rw[s.ring,v.1,v.2,ae];show V ((16:Int)-(L.flatten.length:Int))=_;rw[aj J J];omega
 rw[A]at E;obtain⟨m',U,g2,B,C⟩:=Nm ((iu x.1 c t.2.2.2).map iM) x.2 hd L.flatten T.1 r2 Q.2 (by rw[bt,u];omega);have ep:rR (bV 38) x.2 0 t.1 ((iu x.1 c t.2.2.2).map iM)=(m',fZ 0 16 hd (L.flatten++(iu x.1 c t.2.2.2).map iM).length,O):=by unfold rR;rw[s.ring,U];rfl
 unfold RG;rw[ep,R];simp only[ae];have w:L.flatten++(iu x.1 c t.2.2.2).map iM=(L++[(iu x.1 c t.2.2.2).map iM]).flatten:=by rw[eX];simp
 rw[w]at B⊢;refine⟨L++[(iu x.1 c t.2.2.2).map iM],⟨rfl,B,?_,λy K=>?_,s.pool⟩,Al.snoc ⟨x.1,t.2.2.2,h.2.1,u,J,rfl,N,?_⟩ (P.frame λb a hr i h1 X=>?_)⟩;show(L++[_]).length=(t.2.2.1++[_]).length;rw[aq,aq,s.Gy];rfl;rcases aB.1 K with g|g;exact s.ch y g;rw[aY.1 g];exact Q.1;refine(Nr x.1 N λb _ hr i h1 X=>C i J J).trans p3;refine(C i J J).trans (p4 i J λb' j=>?_);have l:=List.mem_of_mem_take j;have hne:=n.2.2 b' l b a;have h3:=(abR s.pool o l).1;omega
def Ends o(P:α->Prop):=∃x,o=I x/\P x
theorem Ends.pure {x}{P:α->Prop}(h:P x):Ends (I x) P:=⟨x,rfl,h⟩
theorem Ends.bind {o P}{k:α->aS R}{Q}(h:Ends o P)(a:∀x,P x->Ends (k x) Q):Ends (U o k) Q:=by obtain⟨x,rfl,b⟩:=h;exact a x b
theorem Ends.mono {o}{P Q:α->Prop}(h:Ends o P)(b:∀x,P x->Q x):Ends o Q:=by obtain⟨x,c,a⟩:=h;exact⟨x,c,b x a⟩
theorem Ends.cond {c a b}{P:α->Prop}(d:c=O->Ends a P)(e:c=G->Ends b P):Ends (cond c a b) P:=by grind
theorem Ends.ifn {p}[Decidable p]{a}{P:α->Prop}(h:¬p)(b:Ends a P):Ends (if p then none else a) P:=by rw[aK h];exact b
theorem Ends.room {n k}{P:α->Prop}(h:n<=1073741824)(a:Ends k P):Ends (room n k) P:=by rw[aU h];exact a
theorem Ends.of {o x}{P:α->Prop}(h:o=I x)(a:P x):Ends o P:=⟨x,h,a⟩
theorem Ends.iter {b T}{Q:R->Prop}(I:b->Prop)(m:b->Nat)(c:∀x a,I x->(∀y,I y->m y<m x->Ends (a y) Q)->Ends (T a x) Q): ∀n x,I x->m x<n->Ends (aQ T n x) Q:=by intro n;induction n with|zero=>intro x _ h;omega|succ n d=>grind[aQ]
theorem Ends.FZ {b T}{Q:R->Prop}(I:b->Prop)(m:b->Nat){x}(d:I x)(e:m x<=1000000000000)(c:∀x a,I x->(∀y,I y->m y<m x->Ends (a y) Q)->Ends (T a x) Q):Ends (aQ T fuel x) Q:=Ends.iter I m c fuel x d (by have:=dB;omega)
theorem Ends.idx {a i}{k:α->aS R}{Q}(b:0<=i)(c:i<(a.length:Int))(d:∀(h:i.toNat<a.length),Ends (k a[i.toNat]) Q):Ends (U (idx a i) k) Q:=by grind[aP,aa]
abbrev ZD:=dw×Int×Int
variable {c:ZD}
def Cu (c:ZD):=0<=c.2.1/\c.2.1<=(c.1.length:Int)/\c.1.length<=1048576
theorem aoM x y n(a:(ie y).toNat=n)(hn:n<9223372036854775808):0<=V (BitVec.toNat (ie x&&&ie y))/\V (BitVec.toNat (ie x&&&ie y))<=n:=by grind[Nat.and_le_right,aj]
theorem atO {a}(d:a.length<=1048576):Ends (Jz a) Cu:=by unfold Jz;refine Ends.FZ (λx=>0<=x.2/\x.2<=4000) (λx=>(4000-x.2).toNat) ⟨J,J⟩ aD λx i g e=>?_;unfold ID;refine Ends.bind (P:=λb=>b=O->x.2<(a.length:Int)/\x.2<4000) (Ends.cond (λh=>Ends.pure λc=>⟨cw h,cw c⟩) λh=>Ends.pure λc=>by cases c) λq f=>?_;refine Ends.cond (λh=>?_) (λh=>Ends.pure ⟨gH _,aD,d⟩);grind[Ends.idx,aj]
theorem NW (h:Cu c):Ends (oh c) λr=>(0<=r.1/\r.1<=255)/\Cu r.2:=by
 unfold oh;refine Ends.ifn eR (Ends.ifn eR (Ends.cond (λa=>?_) λa=>?_))
 ·have a:=cw a;refine Ends.idx h.1 a λ_=>Ends.pure ⟨aoM _ 255 255 rfl eR,?_⟩;refine⟨?_,?_,h.2.2⟩;all_goals simp only[aj (n:=c.2.1+1) (by have:=h.1;omega) (by have:=h.2.2;omega)]
  have:=h.1;omega;omega
 exact Ends.pure ⟨aoM _ 255 255 rfl eR,h.1,h.2.1,h.2.2⟩
theorem jy (h:Cu c){n}(i:0<n:=by omega):Ends (dH c n) λr=>(0<=r.1/\r.1<n)/\Cu r.2:=by unfold dH;rw[ga];simp only[ab];refine Ends.cond (λl=>?_) λl=>?_;refine(NW h).bind λr j=>Ends.ifn J (Ends.pure ⟨⟨Int.tmod_nonneg _ j.1.1,Int.tmod_lt_of_pos _ i⟩,j.2⟩);refine(NW h).bind λa d=>(NW d.2).bind λb e=>(NW e.2).bind λk f=>(NW f.2).bind λs g=>Ends.ifn J (Ends.pure ⟨⟨Int.tmod_nonneg _ ?_,Int.tmod_lt_of_pos _ i⟩,g.2⟩);have m:=d.1;have o:=e.1;have p:=f.1;have q:=g.1;rw[aj (n:=a.1*16777216) J J,aj (n:=b.1*65536) J J,aj (n:=k.1*256) J J];rw[aj (n:=a.1*16777216+b.1*65536) J J];rw[aj (n:=a.1*16777216+b.1*65536+k.1*256) J J];rw[aj J J];omega
theorem aoN (h:Cu c)n:Ends (dH c n) λr=>(0<=r.1/\(r.1<n\/r.1=0))/\Cu r.2:=by
 rcases Int.lt_or_le 0 n with a|a;exact(jy h a).mono λr b=>⟨⟨b.1.1,Or.inl b.1.2⟩,b.2⟩
 unfold dH;rw[ax a];exact Ends.pure ⟨⟨gH _,Or.inr rfl⟩,h⟩
theorem yV (h:Cu c)n:Ends (iJ c n) λr=>Cu r.2:=by unfold iJ;exact(aoN h n).bind λr a=>Ends.pure a.2
theorem mD (h:Cu c){l}{P:Int->Prop}(e:0<l.length)(d:∀x∈l,P x):Ends (dJ c l) λr=>P r.1/\Cu r.2:=by unfold dJ;exact(jy h).bind λr a=>Ends.idx a.1.1 a.1.2 λb=>Ends.pure ⟨d _ (az b),a.2⟩
theorem OG (h:Cu c)n:Ends (om c n) λr=>(r.1.length<=5000/\(0<=n->n<=5000->(r.1.length:Int)=n)/\(n<=0->r.1=[]))/\Cu r.2:=by
 have d:∀v:Int,v<=5000->∀Q:(Bytes×ZD)->Prop,(∀x c,((x.length:Int)=v\/(v<=0/\x=[]))->Cu c->Q (aZ x,c))->Ends (aQ (vR (λy _ z=>I (aZ y,z)) v) fuel (([]:dw),0,c)) Q:=by
  intro v o Q k;refine Ends.FZ (λx=>(x.1.length:Int)=x.2.1/\(x.2.1<=v\/x.2.1=0)/\Cu x.2.2) (λx=>(v-x.2.1).toNat) ⟨rfl,Or.inr rfl,h⟩ (by simp;omega) λx p a l=>?_;unfold vR;refine Ends.cond (λb=>?_) λb=>Ends.pure (k _ _ ?_ a.2.2)
  ·have b:=cw b;refine(NW a.2.2).bind λr m=>Ends.room (by simp;omega) (l _ ⟨?_,?_,m.2⟩ ?_);all_goals simp only[aj (n:=x.2.1+1) J J]
   simp;omega;omega;omega
  have b:=eS b;rcases a.2.1 with j|j;exact Or.inl J;rcases Int.lt_or_le 0 v with g|g;omega;exact Or.inr ⟨g,cB J⟩
 have e:∀x:dw,(aZ x).length=x.length:=λx=>by simp[aZ]
 unfold om;refine Ends.cond (λb=>?_) λb=>?_;have b:=cw b;refine d 5000 J _ λx c a f=>⟨⟨by rw[e];rcases a with a|a<;>omega,λ_ _=>J,λ_=>J⟩,f⟩
 have b:=eS b;refine d n J _ λx c a f=>⟨⟨?_,λi _=>?_,λi=>?_⟩,f⟩
 rw[e];rcases a with a|a;omega;rw[a.2];simp;rw[e];rcases a with a|a;omega;rw[a.2];simp;omega;rcases a with a|a;have:x=[]:=cB J;rw[this];rfl;rw[a.2];rfl
theorem apw (h:Cu c):Ends (Hn c) λr=>(167772161<=r.1/\r.1<=167772163)/\Cu r.2:=by unfold Hn;refine(jy h eR).bind λr a=>Ends.pure ⟨?_,a.2⟩;grind[aj]
theorem alU (h:Cu c):Ends (FF c) λr=>(0<=r.1/\r.1<=31)/\Cu r.2:=by unfold FF;exact(mD (P:=λx=>0<=x/\x<=31) h eR eR).bind λr a=>Ends.pure a
theorem at1 (h:Cu c){m}(v:0<=m)(w:m<=320):Ends (Br c m) λr=>(vH r.1=O/\(r.1.2.2.2.2.2.2.2.length:Int)<=m)/\Cu r.2:=by
 unfold Br;refine(jy h eR).bind λp a=>(jy a.2 eR).bind λy b=>?_;refine(mD (P:=λx=>0<=x/\x<=4294967295) b.2 aD ?_).bind λz d=>?_;have:=b.1;intro x o;simp only[bW,List.not_mem_nil,or_false]at o;omega;refine(mD (P:=λx=>0<=x/\x<=4294967295) d.2 eR eR).bind λA e=>(alU e.2).bind λB f=>?_;refine(mD (P:=λx=>0<=x/\x<=65535) f.2 eR eR).bind λC g=>?_;rw[aj (n:=m+1) J J];refine(jy g.2).bind λq i=>(OG i.2 q.1).bind λs j=>(yV j.2 4).bind λD k=>?_;have t:=a.1;have l:=i.1;have u:=j.1.2.1 l.1 J;rw[aj (n:=1000+p.1) J J];refine Ends.cond (λ_=>Ends.pure ⟨⟨aqG J J J,?_⟩,k⟩) λ_=>Ends.pure ⟨⟨af1 J J d.1 e.1 f.1 g.1 J,?_⟩,k⟩;all_goals show(s.1.length:Int)<=m
 all_goals omega
theorem ank (h:Cu c){m}(H:0<=m)(K:m<=320):Ends (tR c m) λr=>(di r.1=O/\(r.1.2.2.2.2.2.2.2.2.2.2.2.2.2.2.2.length:Int)<=m/\(r.1.2.2.2.2.2.2.2.2.1=6\/r.1.2.2.2.2.2.2.2.2.1=17))/\Cu r.2:=by
 unfold tR;refine(mD (P:=λx=>0<=x/\x<=281474976710655) h eR eR).bind λv k=>?_;refine(mD (P:=λx=>0<=x/\x<=281474976710655) k.2 eR eR).bind λw l=>?_;refine(mD (P:=λx=> -1<=x/\x<=4095) l.2 eR eR).bind λy o=>?_;refine(mD (P:=λx=>0<=x/\x<=255) o.2 eR eR).bind λz p=>?_;refine(mD (P:=λx=>0<=x/\x<=65535) p.2 eR eR).bind λA q=>?_;refine(mD (P:=λx=>0<=x/\x<=255) q.2 eR eR).bind λB s=>?_;refine(apw s.2).bind λC t=>?_;refine(at1 t.2 (m:=if 128<m then 128 else m) (by split<;>omega) (by split<;>omega)).bind λi b=>?_;have L:∀g:jQ,vH g=O->vn (v.1,w.1,y.1,z.1,A.1,B.1,C.1,167772161,g)=true:=λg F=>apu k.1 l.1 o.1 p.1 q.1 s.1 (by have:=t.1;omega) J F;have M:∀g:jQ,vH g=O->g.1=6\/g.1=17:=by grind[vH]
 have N:(i.1.2.2.2.2.2.2.2.length:Int)<=128/\(i.1.2.2.2.2.2.2.2.length:Int)<=m:=by omega
 have short:∀j:ZD,Cu j->Ends (I ((v.1,w.1,y.1,z.1,A.1,B.1,C.1,(167772161:Int),i.1),j)) λr:bQ×ZD=>(di r.1=O/\(r.1.2.2.2.2.2.2.2.2.2.2.2.2.2.2.2.length:Int)<=m/\(r.1.2.2.2.2.2.2.2.2.1=6\/r.1.2.2.2.2.2.2.2.2.1=17))/\Cu r.2:=by grind[Ends.pure,di]
 refine Ends.cond (λk1=>Ends.cond (λk2=>Ends.cond (λk3=>?_) λ_=>short _ b.2) λ_=>short _ b.2) λ_=>short _ b.2;have k3:=cw k3;refine(yV b.2 2).bind λR u=>Ends.cond (λ_=>?_) λ_=>short _ u;rw[aj (n:=m-128) J J,aj (n:=m-128+1) J J];refine(jy u).bind λe a=>?_;have D:=a.1;rw[aj (n:=128+e.1) J J];refine(OG a.2 _).bind λf d=>?_;have E:=d.1.2.1 J J;have Q:=anF b.1.1 (x:=f.1) J;grind[Ends.pure,di,PJ,On]
def Plain p:=vn p=O/\p.2.2.2.2.2.2.2.2.2.2.2.2.2.2.2.length<=40
theorem Plain.ok (h:Plain p):eU p=true:=(afy p).2 ⟨h.1,by have:=h.2;omega⟩
theorem Rr (h:Cu c):Ends (tR c 40) λr=>Plain r.1/\Cu r.2:=(ank h J J).mono λr a=>⟨⟨by grind[di],J⟩,a.2⟩
theorem ap1 {Q}{m:Z bQ->ZD->bQ->aS R}{l n}(q:l.length<=1000)(i:Cu c)(a:Plain p)(g:∀h o,Cu h->Plain o->Ends (m (l++[p]) h o) Q):Ends (tU m l z n c p) Q:=by
 unfold tU;have f:=ase (WR a.1);have e:=CB a.1;refine Ends.room (by simp;omega) (Ends.ifn eR (Ends.cond (λd=>?_) λ_=>g _ _ i ⟨Kk (p:=p) a.1 f e,a.2⟩));have d:p.2.2.2.2.2.2.2.2.1=6:=by simpa using d
 refine(yV i 8).bind λr j=>Ends.cond (λ_=>Ends.ifn eR (g _ _ j ⟨Kk (p:=p) a.1 f ?_,a.2⟩)) λ_=>g _ _ j ⟨Kk (p:=p) a.1 f e,a.2⟩;have k:=akU e d;have b:p.2.2.2.2.2.2.2.2.2.2.2.2.2.2.2.length<=320:=by have:=a.2;omega
 exact XX e d (aqg k.2.2.1 b) k.2.2.2.2.1 b
theorem ap0 {Q}{h:Z bQ->ZD->bQ->aS R}{l n}(o:l.length<=1000)(w:1<=z/\z<=40)(f:Cu c)(a:Plain p)(m:∀q d e,Plain q->Cu d->Plain e->Ends (h (l++[q]) d e) Q):Ends (tS h l z n c p) Q:=by
 unfold tS;refine Ends.cond (λb=>?_) λ_=>ap1 o f a λd e j k=>m _ _ _ a j k;have b:p.2.2.2.2.2.2.2.2.1=6:=by simpa using b
 refine(mD (P:=λx=>0<=x/\x<=31) f eR eR).bind λs i=>(OG i.2 z).bind λt r=>?_;have u:=r.1.2.1 J J;have g:=CB a.1;have v:Plain (p.1,p.2.1,p.2.2.1,p.2.2.2.1,p.2.2.2.2.1,p.2.2.2.2.2.1,p.2.2.2.2.2.2.1,p.2.2.2.2.2.2.2.1,p.2.2.2.2.2.2.2.2.1,p.2.2.2.2.2.2.2.2.2.1,p.2.2.2.2.2.2.2.2.2.2.1,p.2.2.2.2.2.2.2.2.2.2.2.1,p.2.2.2.2.2.2.2.2.2.2.2.2.1,s.1,p.2.2.2.2.2.2.2.2.2.2.2.2.2.2.1,t.1):=⟨Kk a.1 (WR a.1) (XX g b (akU g b).2.2.1 i.1 J),gA⟩
 grind[ap1]
theorem as3 {Q}{f:Z bQ->Int->ZD->bQ->aS R}{l n}(o:l.length<=1000)(e:1<=z/\z<=40)(k:Cu c)(r:Plain p)(m:∀q d a b,Plain q->(1<=d/\d<=40)->Cu a->Plain b->Ends (f (l++[q]) d a b) Q):Ends (vT f l z n c p) Q:=by unfold vT;refine(yV k 6).bind λt g=>Ends.cond (λ_=>?_) λ_=>ap0 o e g r λq a b h i j=>m _ _ _ _ h e i j;refine(jy g eR).bind λu s=>?_;grind[aj,ap0]
theorem auL {Q}{o:Z bQ->Int->Int->ZD->bQ->aS R}{l n}(k:l.length<=1000)(m:1<=z/\z<=40)(v:0<n/\n<=1000)(t:Cu c)(u:Plain p)(j:∀q a b d,Plain q->(1<=a/\a<=40)->Cu b->Plain d->Ends (o (l++[q]) a (n-1) b d) Q):Ends (Bs o l z n c p) Q:=by unfold Bs;have e:V (n-1)=n-1:=aj J J;refine(yV t 5).bind λw r=>Ends.cond (λ_=>?_) λ_=>?_;refine(Rr r).bind λx s=>as3 k m s.2 s.1 λq a b d f g h i=>?_;unfold vS;rw[e];exact j _ _ _ _ f g h i;refine as3 k m r u λq a b d f g h i=>?_;unfold vS;rw[e];exact j _ _ _ _ f g h i
theorem ar9 (h:Cu c){m}(l:0<m)(e:m<=100):Ends (Ho c m) λr=>((∀p∈r.1,Plain p)/\0<r.1.length/\(r.1.length:Int)<=m)/\Cu r.2:=by unfold Ho;refine(Rr h).bind λC f=>(jy f.2 eR).bind λj g=>(jy g.2 l).bind λd i=>?_;have v:=g.1;have w:=i.1;rw[aj (n:=j.1*8) J J,aj (n:=8+j.1*8) J J,aj (n:=1+d.1) J J];refine Ends.FZ (λx=>(∀p∈x.1,Plain p)/\(1<=x.2.1/\x.2.1<=40)/\0<=x.2.2.1/\(x.1.length:Int)+x.2.2.1=1+d.1/\Cu x.2.2.2.1/\Plain x.2.2.2.2) (λx=>x.2.2.1.toNat) ⟨aD,(by dsimp only;omega),(by dsimp only;omega),aD,i.2,f.1⟩ (by simp;omega) λx A a u=>?_;unfold Gq;refine Ends.cond (λk=>?_) λk=>?_;have k:=cw k;refine auL J a.2.1 J a.2.2.2.2.1 a.2.2.2.2.2 λq D z B e o s t=>u _ ⟨?_,o,?_,?_,s,t⟩ ?_;intro y b;rcases aB.1 b with b|b;exact a.1 y b;simp only[aY]at b;rw[b];exact e;show 0<=x.2.2.1-1;omega;show((x.1++[q]).length:Int)+(x.2.2.1-1)=1+d.1;have:=a.2.2.2.1;simp;omega;show(x.2.2.1-1).toNat<x.2.2.1.toNat;omega;have k:=eS k;have:=a.2.2.2.1;have:=a.2.2.1;exact Ends.pure ⟨⟨a.1,(by dsimp only;omega),(by dsimp only;omega)⟩,a.2.2.2.2.1⟩
theorem ash (h:Cu c){l}(o:l.length<=1000000):Ends (Hp c l) λr=>(r.1.length<=l.length/\∀s∈r.1,s.2.2.1=[])/\Cu r.2:=by unfold Hp;refine Ends.FZ (λx=>0<=x.2.1/\(x.1.length:Int)<=x.2.1/\x.2.1<=(l.length:Int)/\(∀s∈x.1,s.2.2.1=[])/\Cu x.2.2) (λx=>((l.length:Int)-x.2.1).toNat) ⟨aD,aD,aD,aD,h⟩ (by simp;omega) λx m a g=>?_;have e:x.2.1<(l.length:Int)->V (x.2.1+1)=x.2.1+1:=λ_=>aj J J;unfold Gr;refine Ends.cond (λk=>?_) λk=>Ends.pure ⟨⟨(by dsimp only;omega),a.2.2.2.1⟩,a.2.2.2.2⟩;have k:=cw k;rw[e k];have skip:∀d,Cu d->Ends (m (x.1,x.2.1+1,d)) _:=λd f=>g _ ⟨by show 0<=x.2.1+1;omega,by show(x.1.length:Int)<=x.2.1+1;omega,by show x.2.1+1<=_;omega,a.2.2.2.1,f⟩ (by show((l.length:Int)-(x.2.1+1)).toNat<_;omega);refine Ends.idx a.1 k λj=>?_;rw[RT,aa];refine Ends.cond (λ_=>?_) λ_=>skip _ a.2.2.2.2;rw[agx _ _ J,aa];refine Ends.cond (λ_=>?_) λ_=>skip _ a.2.2.2.2;refine(yV a.2.2.2.2 6).bind λp i=>Ends.cond (λ_=>?_) λ_=>skip _ i;refine Ends.idx a.1 k λj=>(mD (P:=λ_=>True) i eR aD).bind λq n=>Ends.room (by simp;omega) (g _ ⟨by show 0<=x.2.1+1;omega,?_,by show x.2.1+1<=_;omega,?_,n.2⟩ (by show((l.length:Int)-(x.2.1+1)).toNat<_;omega));show((x.1++[_]).length:Int)<=x.2.1+1;simp;omega;intro s b;rcases aB.1 b with b|b;exact a.2.2.2.1 s b;simp only[aY]at b;rw[b]
theorem atH (h:Cu c):Ends (JA c) λr=>r.1.length=16/\Cu r.2:=by unfold JA;exact(OG h 16).bind λr a=>Ends.pure ⟨J,a.2⟩
structure I1 (s:jx):Prop where
 r:s.1.length<=100
 t:s.2.1.length<=100
 k:s.2.2.1.length=16
 p:s.2.2.2.length<=100
theorem ad7 (h:Cu c):Ends (DS c) λr=>(r.1.1=2/\(r.1.2.2=[7]\/r.1.2.2=[]))/\Cu r.2:=by unfold DS;exact(yV h 4).bind λd b=>(yV b 2).bind λe a=>Ends.cond (λ_=>Ends.pure ⟨⟨rfl,Or.inl rfl⟩,a⟩) λ_=>Ends.pure ⟨⟨rfl,Or.inr rfl⟩,a⟩
theorem atK:gU (bV 38)=true:=by decide+kernel
def GA (f:Filter)(s:jx)(c:Bool):Z Vector->Host
 |[]=>WW f s c 38
 |v::a=>KA ((GA f s c a).1,(GA f s c a).2.1,(GA f s c a).2.2.1,(GA f s c a).2.2.2.1++[((0,0,0,0),(0,0,0),(0,0,0),((0,0,0,0,0,0,0,0,0,0,0,0,0,0,0,([]:Bytes)),0,0),G,0)],(GA f s c a).2.2.2.2.1++[(0,0,0,([]:dw))],(GA f s c a).2.2.2.2.2.1++[v],(GA f s c a).2.2.2.2.2.2.1++[G],(GA f s c a).2.2.2.2.2.2.2) a.length
def ZK (h:Host):=(h.1,h.2.1,h.2.2.1,h.2.2.2.1,h.2.2.2.2.1,h.2.2.2.2.2.1,h.2.2.2.2.2.2.1)
structure Made (f:Filter) (s:jx) (c:Bool) (k:Nat) (h:Host):Prop where
 mem:dC h.1=O
 ml:h.1.length=38
 maps:h.2.1=bV 38
 tx:h.2.2.1=D0
 rx:h.2.2.2.1.length=k
 rxs:∀r∈h.2.2.2.1,D5 0 r/\r.2.2.2.2.1=G
 pl:h.2.2.2.2.1.length=k
 pls:∀p∈h.2.2.2.2.1,eD p=O/\p.2.2.2.length<=1000
 vec:h.2.2.2.2.2.1.length=k
 ZA:∀v∈h.2.2.2.2.2.1,fO v=O
 pol:h.2.2.2.2.2.2.1.length=k
 rest:h.2.2.2.2.2.2.2=(f,s,([]:List Stream),c,([]:List Bytes),([]:List Int),([]:List Int),0,0,0,0,0)
 is:∃vs,vs.length=k/\h=GA f s c vs/\∀v∈vs,v.2.1<=3/\v.2.2.2.2.1=G
theorem af5 l(x y:α):(l++[x]).set l.length y=l++[y]:=aD
theorem asc {n}(h:n<=64):dC (IX n)=true:=tf.2 ⟨λx a=>by rw[(List.mem_replicate.1 a).2];exact Cn 128,by simp[IX];exact h⟩
theorem amQ {f s c}(m:Made f s c k h)(i:k<=8){v}(z:fO v=O)(u:v.2.1<=3/\v.2.2.2.2.1=G):Ends (vf (h.1,h.2.1,h.2.2.1,h.2.2.2.1++[((0,0,0,0),(0,0,0),(0,0,0),((0,0,0,0,0,0,0,0,0,0,0,0,0,0,0,([]:Bytes)),0,0),G,0)],h.2.2.2.2.1++[(0,0,0,([]:dw))],h.2.2.2.2.2.1++[v],h.2.2.2.2.2.2.1++[G],h.2.2.2.2.2.2.2) (k:Int)) λr=>Made f s c (k+1) r.2:=by
 refine Ends.of (RX _ k i (by simp[m.rx]) (by simp[m.pl]) (by show h.2.1.length<=_;rw[m.maps,Kw];omega) (by show h.1.length<=_;rw[m.ml];omega)) ?_;have o:=aaL m.mem h.2.1 i;have n:(h.2.2.2.1++[(((0,0,0,0),(0,0,0),(0,0,0),((0,0,0,0,0,0,0,0,0,0,0,0,0,0,0,([]:Bytes)),0,0),G,0):dq)])[k]?=I ((0,0,0,0),(0,0,0),(0,0,0),((0,0,0,0,0,0,0,0,0,0,0,0,0,0,0,([]:Bytes)),0,0),G,0):=by rw[<-m.rx];simp
 have q:∀y:dq,(h.2.2.2.1++[(((0,0,0,0),(0,0,0),(0,0,0),((0,0,0,0,0,0,0,0,0,0,0,0,0,0,0,([]:Bytes)),0,0),G,0):dq)]).set k y=h.2.2.2.1++[y]:=λy=>by rw[<-m.rx];exact af5 _ _ _
 have t:∀y:gL,(h.2.2.2.2.1++[(((0,0,0,([]:dw))):gL)]).set k y=h.2.2.2.2.1++[y]:=λy=>by rw[<-m.pl];exact af5 _ _ _
 obtain⟨l,j,B,A⟩:=m.is;have d:KA (h.1,h.2.1,h.2.2.1,h.2.2.2.1++[((0,0,0,0),(0,0,0),(0,0,0),((0,0,0,0,0,0,0,0,0,0,0,0,0,0,0,([]:Bytes)),0,0),G,0)],h.2.2.2.2.1++[(0,0,0,([]:dw))],h.2.2.2.2.2.1++[v],h.2.2.2.2.2.2.1++[G],h.2.2.2.2.2.2.2) k=GA f s c (v::l):=by rw[GA,<-B,j]
 unfold KA at d⊢;simp only[n,q,t]at d⊢;have x:(ow h.2.1 h.1 k).2.2.1.2.2.2.length<=1000:=by unfold ow;exact bf (PH ..) (uG _ _ _)
 refine⟨o.1,?_,m.maps,m.tx,by show(_++[_]).length=_;rw[aq,m.rx];rfl,?_,by show(_++[_]).length=_;rw[aq,m.pl];rfl,?_,by show(_++[_]).length=_;rw[aq,m.vec];rfl,?_,by show(_++[_]).length=_;rw[aq,m.pol];rfl,m.rest,⟨v::l,by simp[j],d,λw b=>?_⟩⟩;show(ow h.2.1 h.1 k).1.length=38;rw[aaK,m.ml];intro r g;rcases aB.1 g with g|g;exact m.rxs r g;rw[aY.1 g];exact⟨afZ i o.2.1 ⟨gH _,gH _⟩,rfl⟩;intro p a;rcases aB.1 a with a|a;exact m.pls p a;rw[aY.1 a];exact⟨o.2.2,x⟩;intro w b;rcases aB.1 b with b|b;exact m.ZA w b;rw[aY.1 b];exact z;rcases bW.1 b with e|e;rw[e];exact u;exact A w e
def TH (h:Host):=h.2.2.2.2.2.2.2.2.1
structure Mq (h:Host):Prop where
 apo:Good 0 h
 sz:Co 2000 h
 maps:∀m∈h.2.1,m.2.2.1<(h.1.length:Int)
 led:h.2.2.1.2.2.1=[]/\h.2.2.2.2.2.2.2.2.2.2.2.1=[]/\h.2.2.2.2.2.2.2.2.2.2.2.2.1=[]/\h.2.2.2.2.2.2.2.2.2.2.2.2.2.1=[]
 is:∃f s c vs,vs.length<=2/\ZK h=ZK (GA f s c vs)/\∀v∈vs,v.2.1<=3/\v.2.2.2.2.1=G
theorem aiC {f s c}(m:Made f s c k h)(T:1<=k/\k<=2)(A:gu f=O)(C:f.2.2.length<=1000)(F:fK s (k:Int)=O)(j:I1 s):Mq h:=by have R:=uG 256 128 8;obtain⟨Q,U,P,N⟩:=m.is;obtain⟨n,H,v,w,y,l,K,q,L,d,o,g,_⟩:=m;obtain⟨mem,maps,tx,rx,M,vec,u,z⟩:=h;simp only at n H v w y l K q L d o g;subst g v w;refine⟨⟨n,atK,aq9 0 J,A,?_,by show fK s (rx.length:Int)=O;rw[y];exact F,λr E=>(l r E).1,λp D=>(q p D).1,d,?_⟩,⟨?_,?_⟩,?_,⟨rfl,rfl,rfl,rfl⟩,⟨f,s,c,Q,J,congrArg ZK P,N⟩⟩;unfold ru;simp only[af,aR,bw];omega;intro x a;simp only[jH,bW,List.not_mem_nil,or_false,or_self]at a;omega;have b:=(tf.1 n).1;refine⟨⟨by show mem.length<=2000;omega,λx a=>by show x.length<=2000;rw[b x a];omega⟩,⟨by show(bV 38).length<=2000;rw[Kw];omega,λ_ _=>⟨B,B,B,B⟩⟩,?_,?_,?_,?_,?_,⟨B,B,by show f.2.2.length<=2000;omega,λ_ _=>trivial⟩,?_,⟨cg _,λx a=>by cases a⟩,B,⟨cg _,λx a=>by cases a⟩,⟨cg _,λx a=>by cases a⟩,⟨cg _,λx a=>by cases a⟩,B,B,B,B,B⟩;exact⟨⟨B,B,B,B⟩,⟨B,B,B,by show List.length (iO 256 128 8).1.2.2.2<=2000;omega,λ_ _=>trivial⟩,⟨cg _,λx a=>by cases a⟩,B⟩;refine⟨by show rx.length<=2000;omega,λx a=>?_⟩;have e:=(l x a).1.free (l x a).2;refine⟨⟨B,B,B,B⟩,⟨B,B,B⟩,⟨B,B,B⟩,?_,B,B⟩;rw[e];exact⟨⟨B,B,B,B,B,B,B,B,B,B,B,B,B,B,B,cg _⟩,B,B⟩;exact⟨by show M.length<=2000;omega,λx a=>⟨B,B,B,by have:=(q x a).2;show x.2.2.2.length<=2000;omega,λ_ _=>trivial⟩⟩;exact⟨by show vec.length<=2000;omega,λx a=>⟨B,B,B,B,B,B⟩⟩;exact⟨by show u.length<=2000;omega,λx a=>trivial⟩;exact⟨⟨by have:=j.r;show s.1.length<=2000;omega,λ_ _=>⟨B,B,B,B,B,B,B,B,B⟩⟩,⟨by have:=j.t;show s.2.1.length<=2000;omega,λ_ _=>⟨B,⟨B,B,B,B,B⟩,B⟩⟩,by have:=j.k;show s.2.2.1.length<=2000;omega,by have:=j.p;show s.2.2.2.length<=2000;omega,λ_ _=>trivial⟩;show List.length (iO 256 128 8).1.2.2.2+0<=2000;omega;intro m b;have b:m∈bV 38:=b;simp only[bV,cX,bK]at b;obtain⟨i,S,rfl⟩:=b;show 37-(i:Int)<(mem.length:Int);omega
theorem am9 {b}(h:(wB a b).2=O):fO (wB a b).1=true:=by grind[wB]
theorem aqe {b}(h:(wB a b).2=O)(c:b<=3):(wB a b).1.2.1<=3/\(wB a b).1.2.2.2.2.1=false:=by grind[wB]
theorem aiO q f s c a b(hf:f.2.2.length<=1000)(hs:I1 s)(B:b<=3):Ends (zA q f s c a b) λr=>(r.2=O->Mq r.1/\TH r.1=s)/\((1<=q/\q<=2)->gu f=O->fK s q=O->(wB a b).2=O->r.2=O):=by
 have z1:=hs.r;have z2:=hs.t;have z3:=hs.p;unfold zA;rw[Yb,aa,cz,aa];refine Ends.bind (P:=λx=>(x=G->(1<=q/\q<=2)/\gu f=O/\fK s q=O/\(wB a b).2=O)/\(x=O->(1<=q/\q<=2)->gu f=O->fK s q=O->(wB a b).2=O->False)) ?_ λx g=>Ends.cond (λE=>Ends.pure ⟨(λh=>by cases h),λo u v w=>(g.2 E o u v w).elim⟩) λh=>?_;refine Ends.cond (λk=>Ends.pure ⟨(λh=>by cases h),λ_ o _ _ _=>by rw[aR.2 o]at k;cases k⟩) λz=>?_;rw[re f J,aa];refine Ends.cond (λk=>Ends.pure ⟨(λh=>by cases h),λ_ _ u _ _=>by rw[u]at k;cases k⟩) λA=>?_;rw[Ds s q J J J,aa];refine Ends.cond (λk=>Ends.pure ⟨(λh=>by cases h),λ_ _ _ v _=>by rw[v]at k;cases k⟩) λj=>Ends.pure ⟨λL=>?_,λk _ _ _ w=>by rw[w]at k;cases k⟩;exact⟨aR.1 (by simpa using z),by simpa using A,by simpa using j,by simpa using L⟩;obtain⟨S,z,A,j⟩:=g.1 h;have N:tL 38=I (IX 38):=Ya 38;rw[N,aa,TE,aa,jJ f J,aa,AA s J J J,aa];have D:=am9 j;refine Ends.FZ (λx=>0<=x.1/\x.1<=38/\x.2=WW f s c x.1.toNat) (λx=>(38-x.1).toNat) ⟨aD,aD,rfl⟩ aD λx Q g hn=>?_;obtain⟨i,y⟩:=x;obtain⟨F,H,l⟩:=g;simp only at F H l;unfold vM;refine Ends.cond (λk=>?_) λk=>?_;have k:=cw k;have R:=Kw i.toNat;simp only at k;rw[cz,aa];simp only;rw[aj (n:=i+1) J J,aj (n:=37-i) J J];subst l;refine Ends.room (by show(bV i.toNat).length+1<=_;omega) (hn _ ⟨by show 0<=i+1;omega,by show i+1<=38;omega,?_⟩ (by show(38-(i+1)).toNat<(38-i).toNat;omega));have e:(i+1).toNat=i.toNat+1:=J;show(IX 38,bV i.toNat++_,_)=WW f s c (i+1).toNat;rw[e];unfold WW;rw[Xo,(J:((i.toNat:Nat):Int)=i)];have k:=eS k;simp only at k;have e:i.toNat=38:=J;rw[e]at l;have C:Made f s c 0 y:=by rw[l];exact⟨asc J,by show(IX 38).length=38;simp[IX],rfl,rfl,rfl,(λ_ d=>by cases d),rfl,(λ_ d=>by cases d),rfl,(λ_ d=>by cases d),rfl,rfl,⟨[],rfl,rfl,λ_ D=>by cases D⟩⟩
 simp only;refine Ends.FZ (λx=>0<=x.1/\x.1<=q/\Made f s c x.1.toNat x.2) (λx=>(q-x.1).toNat) ⟨aD,by show(0:Int)<=q;omega,C⟩ (by simp;omega) λx Q g hn=>?_;obtain⟨i,y⟩:=x;obtain⟨F,H,m⟩:=g;simp only at F H m;unfold tK;refine Ends.cond (λk=>?_) λk=>Ends.pure ⟨λ_=>?_,λ_ _ _ _=>rfl⟩;have k:=cw k;simp only at k;have T:=m.rx;have U:=m.pl;have V:=m.vec;have X:=m.pol;refine Ends.room (by simp;omega) (Ends.room (by simp;omega) (Ends.room (by simp;omega) (Ends.room (by simp;omega) ?_)));have K:=amQ m J D (aqe j B);rw[(J:((i.toNat:Nat):Int)=i)]at K;refine K.bind λr d=>?_;simp only;rw[aj (n:=i+1) J J];refine hn _ ⟨by show 0<=i+1;omega,by show i+1<=q;omega,?_⟩ (by show(q-(i+1)).toNat<(q-i).toNat;omega);show Made f s c (i+1).toNat r.2;rw[(J:(i+1).toNat=i.toNat+1)];exact d;have k:=eS k;simp only at k;have M:i=q:=J;subst M;exact⟨aiC m J z hf (by rw[(J:((i.toNat:Nat):Int)=i)];exact A) hs,congrArg (λx=>x.2.1) m.rest⟩
def atc (a:Act):=a.2.1.2.2.2.2.2.2.2.2.2.2.2.2.2.2.2.length<=1000/\a.2.2.2.2.1.length<=382/\0<=a.1/\a.1<=6
theorem Rh n x(a:0<=n:=by omega)(b:n<=1000000:=by omega):Ends (gO n x) λr=>(r.length:Int)=n:=by unfold gO;rw[aI ⟨a,gH _⟩];refine Ends.room J (Ends.FZ (λy=>(y.1.length:Int)=n/\0<=y.2/\y.2<=n) (λy=>(n-y.2).toNat) ⟨by simp;omega,aD,a⟩ (by simp;omega) λy d c hn=>?_);grind[nB,Ends.pure,aZ,aj,Ends.idx]
theorem afw:Fy=I (List.replicate 8 (0,(0,0,0,0,0),0)):=by rfl
theorem aiv {k}(a:k.length=16):fK (([]:Z IV),List.replicate 8 (0,(0,0,0,0,0),0),k,[0]) 1=true:=by
 have c:BX (List.replicate 8 (0,(0,0,0,0,0),0))=true:=by decide+kernel
 have b:BG (k,[0]) 1=true:=by unfold BG;simp only[a];decide+kernel
 grind[fK,Gl]
def Cm (h:Host)(s:Z Stream):Host:=(h.1,h.2.1,h.2.2.1,h.2.2.2.1,h.2.2.2.2.1,h.2.2.2.2.2.1,h.2.2.2.2.2.2.1,h.2.2.2.2.2.2.2.1,h.2.2.2.2.2.2.2.2.1,s,h.2.2.2.2.2.2.2.2.2.2)
theorem YV (f:Mq h){s:Z Stream}(a:s.length<=2000)(b:∀x∈s,x.2.2.1=[]):Mq (Cm h s):=by have g:=f.apo;have z:=f.sz.z;refine⟨⟨g.mem,g.maps,g.tx,g.oB,g.lens,g.Mo,g.rx,g.pool,g.vec,g.Gy⟩,⟨⟨z.1,z.2.1,z.2.2.1,z.2.2.2.1,z.2.2.2.2.1,z.2.2.2.2.2.1,z.2.2.2.2.2.2.1,z.2.2.2.2.2.2.2.1,z.2.2.2.2.2.2.2.2.1,⟨a,λx c=>?_⟩,z.2.2.2.2.2.2.2.2.2.2⟩,f.sz.t⟩,f.maps,f.led,f.is⟩;refine⟨⟨B,B,B,B,B⟩,B,?_,B⟩;show x.2.2.1.length<=2000;rw[b x c];simp
theorem asu {n}(g:Good n h)(hn:n<=1000000000000):KM h=(h.2.2.2.2.2.2.2.1,h.2.2.2.2.2.2.2.2.1,(h.2.2.2.1.length:Int),h.2.2.2.2.2.2.2.2.2.1,([]:cL))/\Mh (KM h)=true:=by
 have e:KM h=(h.2.2.2.2.2.2.2.1,h.2.2.2.2.2.2.2.2.1,(h.2.2.2.1.length:Int),h.2.2.2.2.2.2.2.2.2.1,([]:cL)):=by unfold KM;rw[g.ok hn];rfl
 refine⟨e,?_⟩;rw[e];unfold Mh;rw[af];exact⟨g.oB,g.Mo⟩
end
end Go.Pu
