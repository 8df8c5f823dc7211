import Derived.KernelRfl
import Derived.Test.YthmhicidfohmeaaGreatPuX1
namespace Go.Pu
open Go.Dn
set_option linter.unusedSimpArgs false
set_option linter.unusedVariables false
noncomputable section
/- Ports of a card: the program's and the reference's lists are one. -/
def hasB (l:List Int)(v:Int):Bool:=l.any (·==v)
theorem Mx {l:List Int}{v:Int}:hasB l v=true↔v∈l:=by simp only[hasB,List.any_eq_true,bj];constructor;rintro⟨x,hx,rfl⟩;exact hx;intro h;exact⟨v,h,rfl⟩
theorem K4 (l:List Int)(v:Int)(h:l.length≤1000000000):tt l v=some (hasB l v):=by
 unfold tt hasB;rw[Lv (hit:=some true) (fin:=some false) (λx:Int=>x==v) l (by omega) (λi hi nx=>?hs) (λnx=>?hf)]
 case hs=>
  simp only[rE]
  rw[ai (by omega),aU hi,wrap64 (by omega) (by omega)];rfl
 case hf=>
  simp only[rE]
  rw[ae (by omega)];rfl
 cases l.any (λx=>x==v)<;>rfl
theorem Ko (l:List Int)(v:Int)(h:l.length≤1000000000):pC l v=some (hasB l v):=K4 l v h
def ins (v:Int):List Int→List Int
 |[]=>[v]
 |x::l=>bif decide (v<x) then v::x::l else x::ins v l
theorem Rg (v:Int):∀l,(ins v l).length=l.length+1
 |[]=>rfl
 |x::l=>by rw[ins];cases decide (v<x)with|true=>rfl|false=>simp only[af,a7,Rg v l]
theorem Rn (v x:Int):∀l,x∈ins v l↔x=v∨x∈l
 |[]=>by simp[ins]
 |y::l=>by rw[ins];cases decide (v<y)with|true=>simp|false=>simp only[af,bM,Rn v x l];constructor<;>(rintro(h|h|h)<;>simp[h])
theorem U6 (v:Int):∀l:List Int,v∉l→l.take (l.findIdx (λx=> !decide (x<v)))++[v]++l.drop (l.findIdx (λx=> !decide (x<v)))=ins v l
 |[],_=>rfl
 |x::l,h=>by rw[ins,List.findIdx_cons];have hx:v≠x:=λe=>h (by simp[e]);have hl:v∉l:=λe=>h (by simp[e]);by_cases c:x<v;rw[ai c,ae (show¬v<x by omega)];have:=U6 v l hl;simpa using this;rw[ae c,ai (show v<x by omega)];rfl
def tz (l:List Int)(v:Int):List Int:=bif hasB l v then l else ins v l
theorem BM (l:List Int)(v:Int):(tz l v).length≤l.length+1:=by unfold tz;cases hasB l v with|true=>simp|false=>simp only[af,Rg];omega
theorem Vi {l:List Int}{v x:Int}(h:x∈l):x∈tz l v:=by unfold tz;cases hasB l v with|true=>exact h|false=>exact(Rn v x l).2 (.inr h)
theorem RX {l:List Int}{v:Int}(h:v∈l):tz l v=l:=by unfold tz;rw[Mx.2 h];rfl
theorem xo:∀(vs l:List Int),(vs.foldl tz l).length≤l.length+vs.length
 |[],l=>by simp
 |v::vs,l=>by have:=xo vs (tz l v);have:=BM l v;simp only[List.foldl_cons,a7];omega
theorem Di:∀(vs:List Int){l:List Int}{x:Int},x∈l→x∈vs.foldl tz l
 |[],_,_,h=>h
 |v::vs,l,x,h=>Di vs (l:=tz l v) (Vi h)
theorem Ur {α R:Type}(p:α→Bool)(k:Int→Option R)(l:List α):(match l.findIdx? p with|some i=>k (i:Int)|none=>k (l.length:Int))=k (l.findIdx p:Int):=by cases h:l.findIdx? p with|none=>rw[List.findIdx?_eq_none_iff_findIdx_eq]at h;rw[h]|some i=>rw[List.findIdx?_eq_some_iff_findIdx_eq]at h;rw[h.2]
theorem NT {α:Type}(l:List α)(j:Nat)(h:j≤l.length):sub l 0 (j:Int)=some (l.take j):=by unfold sub;rw[ay (by omega)];simp
theorem Wa {α:Type}(l:List α)(j:Nat)(h:j≤l.length):sub l (j:Int) (l.length:Int)=some (l.drop j):=by unfold sub;rw[ay (by omega)];simp
theorem I0 (a vs:List Int)(h:a.length+vs.length≤1000000000):oE a vs=some (vs.foldl tz a):=by
 unfold oE;rw[aK (by simp only[eo];omega)];rw[bc];have:=vD (T:=ks (λ(y10:List Int) (_:Int)=>some y10) vs) vs (λ(s:List Int) i=>(s,(i:Int))) (λi s=>s.length≤a.length+i) (λv s=> .ok (tz s v)) (λs=>some s) (by omega) (λi hi s nx hI=>?hs) (λi hi s s' hI hg=>?hn) (λs nx hI=>?hf) a (by simp)
 case hs=>
  simp only[ks]
  rw[ai (by omega),aU hi,wrap64 (n:=(i:Int)+1) (by omega) (by omega)]
  simp only[ah,ab,K4 s vs[i] (by omega)]
  unfold tz
  cases hh:hasB s vs[i]with
  |true=>rfl
  |false=>
   have hm:vs[i]∉s:=λe=>by rw[Mx.2 e]at hh;cases hh
   simp only[af]
   rw[wY (hit:=λy6=>aa (sub s 0 y6) λx7=>room (List.length ([]:List Int)+List.length x7) (room (List.length (([]:List Int)++x7)+List.length ([vs[i]])) (aa (sub s y6 (s.length:Int)) λx9=>room (List.length ((([]:List Int)++x7)++([vs[i]]))+List.length x9) (nx (((([]:List Int)++x7)++([vs[i]]))++x9,(i:Int)+1)))))
    (fin:=aa (sub s 0 (s.length:Int)) λx7=>room (List.length ([]:List Int)+List.length x7) (room (List.length (([]:List Int)++x7)+List.length ([vs[i]])) (aa (sub s (s.length:Int) (s.length:Int)) λx9=>room (List.length ((([]:List Int)++x7)++([vs[i]]))+List.length x9) (nx (((([]:List Int)++x7)++([vs[i]]))++x9,(i:Int)+1)))))
    (λx=> !decide (x<vs[i])) s (by omega) (λj hj nx'=>?hs2) (λnx'=>?hf2)]
   case hs2=>
    simp only[nM]
    rw[ai (by omega),aU hj,aU hi,wrap64 (n:=(j:Int)+1) (by omega) (by omega)]
    simp only[ah,ab]
    cases decide (s[j]<vs[i])<;>rfl
   case hf2=>
    simp only[nM]
    rw[ae (by omega)];rfl
   refine Eq.trans (Ur (λx=> !decide (x<vs[i])) (λy6=>aa (sub s 0 y6) λx7=>room (List.length ([]:List Int)+List.length x7) (room (List.length (([]:List Int)++x7)+List.length ([vs[i]])) (aa (sub s y6 (s.length:Int)) λx9=>room (List.length ((([]:List Int)++x7)++([vs[i]]))+List.length x9) (nx (((([]:List Int)++x7)++([vs[i]]))++x9,(i:Int)+1))))) s) ?_
   have hle:s.findIdx (λx=> !decide (x<vs[i]))≤s.length:=List.findIdx_le_length
   have e:=U6 vs[i] s hm
   generalize s.findIdx (λx=> !decide (x<vs[i]))=j at*
   rw[NT s j hle,Wa s j hle]
   simp only[ab,bc]
   rw[aK (by simp;omega),aK (by simp;omega),aK (by simp;omega),e];rfl
 case hn=>
  cases hg
  have:=BM s vs[i]
  omega
 case hf=>
  simp only[ks]
  rw[ae (by omega)];rfl
 rw[Cx]at this;exact this
theorem Q9 (l:List Int)(v:Int)(h:l.length≤1000000000):iu l v=some (ins v l):=by
 unfold iu
 have hgo:∀(l:List Int)(acc:List Int)(d:Bool),acc.length+l.length+(bif d then 0 else 1)≤1073741824→
  pA (λ(x:Int) (s:List Int×Bool) (k:List Int×Bool→Option (List Int))=>cond (cond (!s.2) (decide (v<x)) false) (room (List.length s.1+List.length ([v])) (room (List.length (s.1++([v]))+List.length ([x])) (k ((s.1++([v]))++([x]),true)))) (room (List.length s.1+List.length ([x])) (k (s.1++([x]),s.2))))
   (λs=>cond (!s.2) (room (List.length s.1+List.length ([v])) (some (s.1++([v])))) (some s.1)) l (acc,d)=some (acc++bif d then l else ins v l):=by
  intro l
  induction l with
  |nil=>
   intro acc d hl
   rw[pA]
   simp only[eo]at hl
   cases d with
   |true=>simp
   |false=>
    simp only[cA,ah,af]at hl⊢
    rw[aK (by simp;omega)];rfl
  |cons x l ih=>
   intro acc d hl
   simp only[a7]at hl
   rw[pA]
   cases d with
   |true=>
    simp only[al,af,ah]at hl⊢
    rw[aK (by simp;omega),ih _ _ (by simp;omega)]
    simp
   |false=>
    simp only[cA,ah,af]at hl⊢
    rw[ins]
    cases decide (v<x)with
    |true=>
     simp only[ah]
     rw[aK (by simp;omega),aK (by simp;omega)]
     rw[ih _ _ (by simp;omega)];simp
    |false=>
     simp only[af]
     rw[aK (by simp;omega),ih _ _ (by simp;omega)]
     simp
 have hfu:=cC;have key:=rO (T:=hG (λ(y3:List Int) (y4:Bool) (_:Int)=>cond (!y4) (room (List.length y3+List.length ([v])) (some (y3++([v])))) (some y3)) v l (l.length:Int)) l (λ(s:List Int×Bool) i=>(s.1,s.2,(i:Int))) (λ(x:Int) (s:List Int×Bool) (k:List Int×Bool→Option (List Int))=>cond (cond (!s.2) (decide (v<x)) false) (room (List.length s.1+List.length ([v])) (room (List.length (s.1++([v]))+List.length ([x])) (k ((s.1++([v]))++([x]),true)))) (room (List.length s.1+List.length ([x])) (k (s.1++([x]),s.2)))) (λs=>cond (!s.2) (room (List.length s.1+List.length ([v])) (some (s.1++([v])))) (some s.1)) (λi hi s nx=>by simp only[hG];rw[ai (by omega),aU hi,wrap64 (n:=(i:Int)+1) (by omega) (by omega)];simp only[ah,ab,ba];rfl) (λs nx=>by simp only[hG];rw[ae (by omega)];rfl) fuel 0 (([]:List Int),false) (by omega) (by omega);rw[cK,hgo l [] false (by simp;omega)]at key;exact key
def zK:Port:=(0,[],0,false)
def KL (p:Port):Bool:=m5 (p.1,false,p.2.1)&&hasB p.2.1 p.2.2.1
def GM (l:List Port)(i:Nat):Bool:=KL (l.getD i zK)&&(List.range i).all (λj=> !((j !=0)&&((l.getD j zK).1==(l.getD i zK).1)))
def nW (l:List Port):Bool:=cq (l.length:Int) 1 8&&(List.range l.length).all (GM l)
theorem PM (i:Nat)(q:Nat→Bool):(List.range (i-1)).all (λj=> !(q (j+1)))=(List.range i).all (λj=> !((j !=0)&&q j)):=by
 rw[cm,bd,bd];simp only[dN];constructor;intro h j hj;cases j with|zero=>rfl|succ j=>have:=h j (by omega);simpa using this
 intro h j hj;have:=h (j+1) (by omega);simpa using this
theorem IX (l:List Port)(h:l.length≤1000000000)(hv:∀p∈l,p.2.1.length≤1000000000):nG l=some (nW l):=by
 unfold nG nW;rw[eO (hit:=some false) (fin:=some true) (GM l) l.length (by omega) (λi nx hi=>?hs) (λnx=>?hf)]
 case hs=>
  have hvi:=hv _ (aW hi)
  simp only[oV]
  rw[ai (by omega),aU hi,wrap64 (by omega) (by omega)]
  simp only[ah,ab,BE (l[i].1,false,l[i].2.1) hvi,K4 _ _ hvi]
  have e1:(1:Int)=(((0:Nat)+1:Nat):Int):=rfl
  rw[e1,CZ (hit:=some false) (fin:=nx ((i:Int)+1)) (λj=>((j+1:Nat):Int)) (λj=> !((l.getD (j+1) zK).1==l[i].1)) (i-1) (by omega) (λj nx' hj hp=>?hs2) (λhp nx'=>?hf2)]
  case hs2=>
   have hjl:j+1<l.length:=by omega
   simp only[oW]
   rw[ai (by omega),aU hjl,aU hi,wrap64 (by omega) (by omega)]
   simp only[ah,ab,cD hjl,cY];rfl
  case hf2=>
   simp only[oW]
   rw[ae (by omega)];rfl
  rw[PM i (λj=>(l.getD j zK).1==l[i].1)]
  simp only[GM,KL,cD hi]
  cases m5 (l[i].1,false,l[i].2.1)<;>cases hasB l[i].2.1 l[i].2.2.1<;>cases (List.range i).all (λj=> !((j !=0)&&((l.getD j zK).1==l[i].1)))<;>rfl
 case hf=>
  simp only[oV]
  rw[ae (by omega)];rfl
 simp only[cc,ab];cases cq (l.length:Int) 1 8<;>cases (List.range l.length).all (GM l)<;>rfl
def C5 (p:Nat→Bool):List Nat→Int
 |[]=> -1
 |j::r=>bif p j then(j:Int) else C5 p r
theorem Mm (p:Nat→Bool):∀n s i,s≤i→i<s+n→p i=true→(C5 p (List.range' s n)==(i:Int))=(List.range' s (i-s)).all (λj=> !(p j))
 |0,s,i,h1,h2,_=>by omega
 |n+1,s,i,h1,h2,hp=>by
  rw[List.range'_succ,C5];rcases bB s i with hlt|hge;obtain⟨k,hk⟩:∃k,i-s=k+1:=⟨i-s-1,by omega⟩
  rw[hk,List.range'_succ,bD];cases hps:p s with
  |true=>
   simp only[ah,al,gi];have:¬(s:Int)=(i:Int):=by omega
   simpa using this
  |false=>simp only[af,cA,bn];rw[Mm p n (s+1) i (by omega) (by omega) hp,show i-(s+1)=k by omega]
  have:s=i:=by omega
  subst this;rw[hp,dV];simp
theorem GW {R:Type}(p:Nat→Bool)(hit:Nat→Option R)(fin:Option R)(k:Int→Option R)(h1:∀j:Nat,hit j=k (j:Int))(h2:fin=k (-1)):∀l:List Nat,GU (λ(j:Nat) (s:Unit)=>bif p j then .error (hit j) else .ok ()) (λ_=>fin) l ()=k (C5 p l)
 |[]=>h2
 |j::l=>by rw[GU,C5];cases p j with|true=>exact h1 j|false=>exact GW p hit fin k h1 h2 l
theorem U5 (l:List Port)(a:Int)(h:l.length≤1000000000):sA l a=some (C5 (λj=>(j !=0)&&((l.getD j zK).1==a)) (List.range' 0 l.length)):=by
 unfold sA;have:=vD (T:=jM (λ(_:Int)=>some (-1)) (λ(y4:Int) (_:Int)=>some y4) a 0 l (l.length:Int)) (List.range' 0 l.length) (λ(_:Unit) i=>(i:Int)) (λ_ _=>True) (λ(j:Nat) (s:Unit)=>bif (j !=0)&&((l.getD j zK).1==a) then .error (some (j:Int)) else .ok ()) (λ_=>some (-1)) (by simp;omega) (λi hi s nx _=>?hs) (λ_ _ _ _ _ _=>trivial) (λs nx _=>?hf) () trivial
 case hs=>
  have hil:i<l.length:=by simpa using hi
  have e:(List.range' 0 l.length)[i]=i:=by simp
  rw[e]
  simp only[jM]
  rw[ai (by omega),aU hil,wrap64 (by omega) (by omega)]
  simp only[ah,ab,cD hil,ba,cF]
  have e2:((i:Int) !=0)=(i !=0):=by rw[cm];simp
  rw[e2]
  cases (i !=0)&&(l[i].1==a)<;>rfl
 case hf=>
  simp only[jM]
  rw[ae (by simp)];rfl
 rw[GW (λj=>(j !=0)&&((l.getD j zK).1==a)) _ _ (λx=>some x) (λ_=>rfl) rfl]at this;exact this
theorem Ir (l:List Port)(h:l.length≤1000000000)(hv:∀p∈l,p.2.1.length≤1000000000):nd l=some (nW l):=by
 unfold nd nW;rw[eO (hit:=some false) (fin:=some true) (GM l) l.length (by omega) (λi nx hi=>?hs) (λnx=>?hf)]
 case hs=>
  have hvi:=hv _ (aW hi)
  simp only[oJ]
  rw[ai (by omega),aU hi,wrap64 (by omega) (by omega)]
  simp only[ah,ab,wG,Bt (l[i].1,false,l[i].2.1) hvi,Ko _ _ hvi,U5 l _ h,ba,bne]
  have e2:((i:Int)==0)=(i==0):=by rw[cm];simp
  rw[e2]
  simp only[GM,KL,cD hi]
  cases h0:i==0 with
  |true=>
   have:i=0:=by simpa using h0
   subst this
   cases m5 (l[0].1,false,l[0].2.1)<;>cases hasB l[0].2.1 l[0].2.2.1<;>rfl
  |false=>
   have hne:(i !=0)=true:=by simp only[bne,h0,cA]
   have fa:=Mm (λj=>(j !=0)&&((l.getD j zK).1==l[i].1)) l.length 0 i (by omega) (by omega) (by simp only[hne,cD hi,bn,ec])
   rw[Nat.sub_zero,←List.range_eq_range' (n:=i)]at fa
   simp only[bne]at fa⊢
   rw[fa]
   cases m5 (l[i].1,false,l[i].2.1)<;>cases hasB l[i].2.1 l[i].2.2.1<;>cases (List.range i).all (λj=> !((!(j==0))&&((l.getD j zK).1==l[i].1)))<;>rfl
 case hf=>
  simp only[oJ]
  rw[ae (by omega)];rfl
 simp only[cz,ab];cases cq (l.length:Int) 1 8<;>cases (List.range l.length).all (GM l)<;>rfl
def pK (m:bm):Bool:=m5 m.1&&(cq m.2.1 0 1000000000000&&cq m.2.2.2 0 1000000000000)
theorem VZ (m:bm)(h:m.1.2.2.length≤1000000000):ru m=some (pK m):=by simp only[ru,BE _ h,cc,ab,ba,cF,pK]
theorem UU (m:bm)(h:m.1.2.2.length≤1000000000):qb m=some (pK m):=by simp only[qb,Bt _ h,cz,ab,ba,cF,pK]
theorem w9 {m:bm}(h:pK m=true):m.1.2.2.length≤8:=by unfold pK m5 at h;simp only[aj,aP]at h;omega
def KM (m:bm):Port:=(m.1.1,m.1.2.2.foldl tz [0],0,true)
def Ba (s:List Int×List Port)(m:bm):List Int×List Port:=(m.1.2.2.foldl tz s.1,s.2++[KM m])
def wq (ms:List bm):List Port:=(0,(ms.foldl Ba ([0],[])).1,0,false)::(ms.foldl Ba ([0],[])).2
def jc (ms:List bm):List Port×Bool:=bif cq (ms.length:Int) 1 3&&(ms.all pK&&nW (wq ms)) then(wq ms,true) else([],false)
theorem GV {α σ R:Type}(p:α→Bool)(f:σ→α→σ)(r:Option R)(fin:σ→Option R):∀(l:List α)(s:σ),GU (λx s=>bif p x then .ok (f s x) else .error r) fin l s=bif l.all p then fin (l.foldl f s) else r
 |[],s=>rfl
 |x::l,s=>by rw[GU,bD,List.foldl_cons];cases p x with|false=>rfl|true=>simp only[ah,bn];exact GV p f r fin l (f s x)
def Lp (i:Nat)(s:List Int×List Port):Prop:=s.1.length≤1+9*i∧s.2.length=i∧∀p∈s.2,p.2.1.length≤9
theorem Lp.port {i:Nat}{s:List Int×List Port}(h:Lp i s){m:bm}(hm:pK m=true)(U:List Int)(hU:U.length≤s.1.length+9):Lp (i+1) (U,s.2++[KM m]):=by have hl:=w9 hm;have:=xo m.1.2.2 [0];refine⟨?_,?_,?_⟩;have:=h.1;simp only;omega;have:=h.2.1;simp;omega;intro p hp;rcases ar.1 hp with hp|hp;exact h.2.2 p hp;simp only[ed]at hp;subst hp;simp only[KM,eQ]at this⊢;omega
theorem zI {i:Nat}{s:List Int×List Port}(h:Lp i s)(hi:i≤3):((0,s.1,0,false)::s.2:List Port).length≤1000000000∧∀p∈((0,s.1,0,false)::s.2:List Port),p.2.1.length≤1000000000:=by have h1:=h.1;have h2:=h.2.1;refine⟨by simp only[a7];omega,λp hp=>?_⟩;rcases bM.1 hp with rfl|hp;simp only;omega;have:=h.2.2 p hp;omega
theorem NL (ms:List bm)(h:∀m∈ms,m.1.2.2.length≤1000000000):uv ms=some (jc ms):=by
 unfold uv jc;simp only[cc,ab];cases hn:cq (ms.length:Int) 1 3 with
 |false=>rfl
 |true=>
  have hn':=cv.1 hn;simp only[al,af,bn];have:=vD (T:=ll (λ(y12:List Port) (_:Int)=>aa (nG y12) λr14=>cond (!r14) (some (([]:List Port),false)) (some (y12,true))) (λ(y15:List Port) (y16:Bool) (_:List Port) (_:Int)=>some (y15,y16)) ms ([]:List Port) false) ms (λ(s:List Int×List Port) i=>((0,s.1,0,false)::s.2,(i:Int))) Lp (λm s=>bif pK m then .ok (Ba s m) else .error (some (([]:List Port),false))) (λs=>some (bif nW ((0,s.1,0,false)::s.2) then((0,s.1,0,false)::s.2,true) else([],false))) (by omega) (λi hi s nx hI=>?hs) (λi hi s s' hI hg=>?hn) (λs nx hI=>?hf) ([0],[]) ⟨by simp,rfl,by simp⟩
  case hs=>
   simp only[ll]
   have hm:=h _ (aW hi)
   rw[ai (by omega),aU hi,wrap64 (n:=(i:Int)+1) (by omega) (by omega)]
   simp only[ah,ab,VZ _ hm]
   cases hmb:pK ms[i]with
   |false=>rfl
   |true=>
    have hl:=w9 hmb
    have hU:=hI.1
    have hP:=hI.2.1
    have e0:idx ((0,s.1,0,false)::s.2:List Port) 0=some (0,s.1,0,false):=rfl
    simp only[al,af,ah,e0,ab]
    rw[I0 s.1 _ (by omega),I0 [0] _ (by simp;omega)]
    simp only[ab]
    rw[aK (by simp;omega)]
    rfl
  case hn=>
   cases hmb:pK ms[i]with
   |false=>rw[hmb]at hg;cases hg
   |true=>
    rw[hmb]at hg
    cases hg
    have:=xo ms[i].1.2.2 s.1
    have:=w9 hmb
    exact hI.port hmb _ (by omega)
  case hf=>
   simp only[ll]
   rw[ae (by omega)]
   have hb:=zI hI (by omega)
   simp only[af,IX _ hb.1 hb.2,ab]
   cases nW ((0,s.1,0,false)::s.2)<;>rfl
  rw[GV]at this;refine Eq.trans this ?_;unfold wq;cases ms.all pK<;>rfl
def I2 (s:List Int×List Port)(m:bm):List Int×List Port:=(([0]++m.1.2.2).foldl tz s.1,s.2++[KM m])
theorem V9 {s:List Int×List Port}{m:bm}(h:(0:Int)∈s.1):I2 s m=Ba s m:=by unfold I2 Ba;rw[List.foldl_append];simp only[List.foldl_cons,List.foldl_nil,RX h]
theorem G7:∀(ms:List bm)(s:List Int×List Port),(0:Int)∈s.1→ms.foldl I2 s=ms.foldl Ba s
 |[],_,_=>rfl
 |m::ms,s,h=>by rw[List.foldl_cons,List.foldl_cons,V9 h];exact G7 ms _ (Di _ h)
theorem NQ (ms:List bm)(h:ms≠[]):ms.foldl I2 ([],[])=ms.foldl Ba ([0],[]):=by cases ms with|nil=>exact absurd rfl h|cons m ms=>rw[List.foldl_cons,List.foldl_cons];have e:I2 ([],[]) m=Ba ([0],[]) m:=rfl;rw[e];exact G7 ms _ (Di _ (by simp))
theorem Sw {R:Type}(k0:List Int→List Int→Int→Option R)(k:List Int→List Int→Option R)(hk:∀a b i,k0 a b i=k a b)(v2:List Port)(v3:Bool)(v4:List Port)(v18:List bm)(v19 v20:Int)(b7:bm)(vs all:List Int)(h:all.length+vs.length≤1000000000): aJ (gW k0 v2 v3 v4 v18 v19 v20 vs (vs.length:Int) b7) fuel (all,([]:List Int),0)=k (vs.foldl tz all) (vs.foldl tz []):=by
 have:=vD (T:=gW k0 v2 v3 v4 v18 v19 v20 vs (vs.length:Int) b7) vs (λ(s:List Int×List Int) i=>(s.1,s.2,(i:Int))) (λi s=>s.1.length≤all.length+i∧s.2.length≤i) (λv s=> .ok (tz s.1 v,tz s.2 v)) (λs=>k s.1 s.2) (by omega) (λi hi s nx hI=>?hs) (λi hi s s' hI hg=>?hn) (λs nx hI=>?hf) (all,[]) ⟨by simp,by simp⟩
 case hs=>
  simp only[gW]
  rw[ai (by omega),aU hi,wrap64 (n:=(i:Int)+1) (by omega) (by omega)]
  simp only[ah,ab,Ko s.2 vs[i] (by omega),Ko s.1 vs[i] (by omega),Q9 s.2 vs[i] (by omega),Q9 s.1 vs[i] (by omega),tz]
  cases hasB s.2 vs[i]<;>cases hasB s.1 vs[i]<;>rfl
 case hn=>
  cases hg
  have:=BM s.1 vs[i]
  have:=BM s.2 vs[i]
  have h1:=hI.1
  have h2:=hI.2
  exact⟨by simp only;omega,by simp only;omega⟩
 case hf=>
  simp only[gW]
  rw[ae (by omega)]
  simp only[af,hk]
 rw[Cx]at this;refine Eq.trans this ?_;have e:∀(l:List Int)(s:List Int×List Int),l.foldl (λs v=>(tz s.1 v,tz s.2 v)) s=(l.foldl tz s.1,l.foldl tz s.2):=by intro l;induction l with|nil=>intro s;rfl|cons x l ih=>intro s;rw[List.foldl_cons,ih];rfl
 rw[e]
theorem MK (ms:List bm)(h:∀m∈ms,m.1.2.2.length≤1000000000):ua ms=some (jc ms):=by
 unfold ua jc;simp only[cz,ab];cases hn:cq (ms.length:Int) 1 3 with
 |false=>rfl
 |true=>
  have hn':=cv.1 hn;simp only[al,af,bn];have:=vD (T:=k8 (λ(y14:List Port) (y15:List Int) (_:Int)=>aa (idx y14 0) λx17=>aa (idx y14 0) λx18=>aa (nd (List.set y14 (Int.toNat 0) (x18.1,y15,x18.2.2))) λr19=>cond (!r19) (some (([]:List Port),false)) (some (List.set y14 (Int.toNat 0) (x18.1,y15,x18.2.2),true))) (λ(y20:List Port) (y21:Bool) (_:List Port) (_:List Int) (_:Int)=>some (y20,y21)) ([]:List Port) false ms (ms.length:Int)) ms (λ(s:List Int×List Port) i=>((0,[],0,false)::s.2,s.1,(i:Int))) Lp (λm s=>bif pK m then .ok (I2 s m) else .error (some (([]:List Port),false))) (λs=>some (bif nW ((0,s.1,0,false)::s.2) then((0,s.1,0,false)::s.2,true) else([],false))) (by omega) (λi hi s nx hI=>?hs) (λi hi s s' hI hg=>?hn) (λs nx hI=>?hf) ([],[]) ⟨by simp,rfl,by simp⟩
  case hs=>
   simp only[k8]
   have hm:=h _ (aW hi)
   rw[ai (by omega),aU hi,wrap64 (n:=(i:Int)+1) (by omega) (by omega)]
   simp only[ah,ab,UU _ hm]
   cases hmb:pK ms[i]with
   |false=>rfl
   |true=>
    have hl:=w9 hmb
    have hU:=hI.1
    have hP:=hI.2.1
    simp only[al,af,ah]
    rw[aK (by simp;omega)]
    refine(Sw _ (λa b=>room (List.length ((0,[],0,false)::s.2:List Port)+List.length ([(ms[i].1.1,b,0,true)]:List Port)) (nx (((0,[],0,false)::s.2)++([(ms[i].1.1,b,0,true)]),a,(i:Int)+1))) (λ_ _ _=>rfl) _ _ _ _ _ _ _ ([0]++ms[i].1.2.2) s.1 (by simp only[ak,eQ];omega)).trans ?_
    rw[aK (by simp;omega)]
    rfl
  case hn=>
   cases hmb:pK ms[i]with
   |false=>rw[hmb]at hg;cases hg
   |true=>
    rw[hmb]at hg
    cases hg
    have hu:=xo ([0]++ms[i].1.2.2) s.1
    have hl:=w9 hmb
    simp only[ak,eQ]at hu
    exact hI.port hmb _ (by omega)
  case hf=>
   simp only[k8]
   rw[ae (by omega)]
   have hb:=zI hI (by omega)
   have e0:idx ((0,[],0,false)::s.2:List Port) 0=some (0,[],0,false):=rfl
   have e1:List.set ((0,[],0,false)::s.2:List Port) (Int.toNat 0) (0,s.1,0,false)=(0,s.1,0,false)::s.2:=rfl
   simp only[af,e0,ab,e1,Ir _ hb.1 hb.2]
   cases nW ((0,s.1,0,false)::s.2)<;>rfl
  rw[GV,NQ ms (by rintro rfl;simp at hn')]at this;refine Eq.trans this ?_;unfold wq;cases ms.all pK<;>rfl
def nR (p:de):Int×Int×Int×Int×Int:=(p.2.2.2.2.2.2.2.2.1,p.2.2.2.2.2.2.1,p.2.2.2.2.2.2.2.1,p.2.2.2.2.2.2.2.2.2.1,p.2.2.2.2.2.2.2.2.2.2.1)
theorem MG (p:de):vU p=some (nR p):=rfl
theorem NH (p:de):wB p=some (nR p):=rfl
def Pg (d:Ip):Bool:=cq d.1 0 255&&(cq d.2.2.1 0 255&&(cq d.2.2.2.1 0 255&&(cq d.2.1 0 65535&&(cq d.2.2.2.2.1 0 4294967295&&(cq d.2.2.2.2.2.1 0 4294967295&&decide ((d.2.2.2.2.2.2.length:Int)≤380))))))
theorem NJ (d:Ip):Aw d=some (Pg d):=by simp only[Aw,cc,ab,ba,cF,Pg]
theorem UT (d:Ip):Dc d=some (Pg d):=NJ d
def Gt (d:Ip):Bytes:=((((((bs2 69 (fg d.1)++cZ (20+(d.2.2.2.2.2.2.length:Int)))++cZ d.2.1)++cZ 16384)++bs2 (fg d.2.2.1) (fg d.2.2.2.1))++cZ 0)++ez d.2.2.2.2.1)++ez d.2.2.2.2.2.1
theorem Gu (d:Ip):(Gt d).length≤20:=by have:=bu (20+(d.2.2.2.2.2.2.length:Int));have:=bu d.2.1;have:=bu 16384;have:=bu 0;have:=cy d.2.2.2.2.1;have:=cy d.2.2.2.2.2.1;simp only[Gt,ak,Jk];omega
def Gs (d:Ip):Bytes:=Cw (Gt d) 10 (cZ (OD (Gt d)))
theorem PZ (d:Ip):sT d=some (bif Pg d then(Gs d,true) else([],false)):=by
 unfold sT;rw[NJ,ab];cases hd:Pg d with|false=>rfl|true=>?_
 have hn:(d.2.2.2.2.2.2.length:Int)≤380:=by simp only[Pg,aj,aP]at hd;omega
 have:=bu (20+(d.2.2.2.2.2.2.length:Int));have:=bu d.2.1;have:=bu 16384;have:=bu 0;have:=cy d.2.2.2.2.1;have:=cy d.2.2.2.2.2.1;have hl:=Gu d;have e:∀x y,(bytesOf [x,y]).length=2:=λ_ _=>rfl;rw[wrap64 (n:=20+(d.2.2.2.2.2.2.length:Int)) (by omega) (by omega)];simp only[jf,jg,ab,al,af,ah];rw[aK (by simp only[ak,e];omega),aK (by simp only[ak,e];omega),aK (by simp only[ak,e];omega),aK (by simp only[ak,e];omega),aK (by simp only[ak,e];omega),aK (by simp only[ak,e];omega),aK (by simp only[ak,e];omega)];have hp:((((((bytesOf [69,fg d.1]++cZ (20+(d.2.2.2.2.2.2.length:Int)))++cZ d.2.1)++cZ 16384)++bytesOf [fg d.2.2.1,fg d.2.2.2.1])++cZ 0)++ez d.2.2.2.2.1)++ez d.2.2.2.2.2.1=Gt d:=rfl;rw[hp,KZ _ (by omega),ab,Ez _ _ _ (by omega)];rfl
theorem O6 (d:Ip):sm d=some (bif Pg d then(Gs d,true) else([],false)):=by
 unfold sm;rw[UT,ab];cases hd:Pg d with|false=>rfl|true=>?_
 have hn:(d.2.2.2.2.2.2.length:Int)≤380:=by simp only[Pg,aj,aP]at hd;omega
 have:=bu (20+(d.2.2.2.2.2.2.length:Int));have:=bu d.2.1;have:=bu 16384;have:=bu 0;have:=cy d.2.2.2.2.1;have:=cy d.2.2.2.2.2.1;have hl:=Gu d;have hw:=bu (OD (Gt d));have e:∀x y,(bytesOf [x,y]).length=2:=λ_ _=>rfl;rw[wrap64 (n:=20+(d.2.2.2.2.2.2.length:Int)) (by omega) (by omega)];simp only[mm,po,ab,al,af,ah];rw[aK (by simp only[ak,e];omega),aK (by simp only[ak,e];omega),aK (by simp only[ak,e];omega),aK (by simp only[ak,e];omega),aK (by simp only[ak,e];omega),aK (by simp only[ak,e];omega),aK (by simp only[ak,e];omega)];have hp:((((((bytesOf [69,fg d.1]++cZ (20+(d.2.2.2.2.2.2.length:Int)))++cZ d.2.1)++cZ 16384)++bytesOf [fg d.2.2.1,fg d.2.2.2.1])++cZ 0)++ez d.2.2.2.2.1)++ez d.2.2.2.2.2.1=Gt d:=rfl;rw[hp,Rb _ (by omega),ab,Kt _ _ _ (by omega) (by omega)];rfl
def Ok (d:Ip):Bytes×Bool:=bif Pg d then(Gs d++d.2.2.2.2.2.2,true) else([],false)
theorem De (d:Ip):(Gs d).length≤20:=by unfold Gs;rw[No];exact Gu d
theorem VX (d:Ip):rj d=some (Ok d):=by
 unfold rj Ok;rw[PZ,ab];cases hd:Pg d with|false=>rfl|true=>?_
 have hn:(d.2.2.2.2.2.2.length:Int)≤380:=by simp only[Pg,aj,aP]at hd;omega
 have:=De d;simp only[ah,al,af];rw[aK (by omega)]
theorem US (d:Ip):pZ d=some (Ok d):=by
 unfold pZ Ok;rw[O6,ab];cases hd:Pg d with|false=>rfl|true=>?_
 have hn:(d.2.2.2.2.2.2.length:Int)≤380:=by simp only[Pg,aj,aP]at hd;omega
 have:=De d;simp only[ah,al,af];rw[aK (by omega)]
def Oh (n:Nat):Bytes:=bytesOf (List.replicate n (0:Int))
theorem DJ (n:Nat):(Oh n).length=n:=by simp[Oh,bytesOf]
theorem VY (n:Nat)(h:n≤1000000000):uz (n:Int) 0=some (Oh n):=by unfold uz;rw[ay (by omega),aK (by rw[ax];omega),ax];refine cS (λi=>(List.replicate n (0:Int),(i:Int))) n (by omega) (λi nx hi=>?_) (λnx=>?_);simp only[pa];rw[ai (by omega),aU (by simpa using hi),wrap64 (by omega) (by omega)];simp only[ah,ab,ax,List.set_replicate_self];rfl;simp only[pa];rw[ae (by omega)];rfl
theorem YL (n:Nat)(h:n≤1000000000):vW 0 (n:Int)=some (Oh n):=by unfold vW;rw[ay (by omega),aK (by rw[ax];omega),ax];refine cS (λi=>(List.replicate n (0:Int),(i:Int))) n (by omega) (λi nx hi=>?_) (λnx=>?_);simp only[qo];rw[ai (by simp;omega),aU (by simpa using hi),wrap64 (by omega) (by omega)];simp only[ah,ab,ax,List.set_replicate_self];rfl;simp only[qo];rw[ae (by simp)];rfl
def pad (s:Bytes):Bytes:=if s.length<46 then s++Oh (46-s.length) else s
theorem Zc (s:Bytes):(pad s).length=max 46 s.length:=by unfold pad;split;simp only[ak,DJ];omega;omega
theorem Zn (s:Bytes)(h:s.length≤1000000000):ur s=some (pad s):=by unfold ur pad;by_cases hc:s.length<46;rw[ai (by omega),ay hc,wrap64 (by omega) (by omega),show(46:Int)-(s.length:Int)=((46-s.length:Nat):Int) by omega,VY _ (by omega)];simp only[ah,ab];rw[aK (by rw[DJ];omega)];rw[ae (by omega),aq hc];rfl
theorem YK (s:Bytes)(h:s.length≤1000000000):tY s=some (pad s):=by unfold tY pad;by_cases hc:s.length<46;rw[ae (by omega),ay hc,wrap64 (by omega) (by omega),show(46:Int)-(s.length:Int)=((46-s.length:Nat):Int) by omega,YL _ (by omega)];simp only[af,ab];rw[aK (by rw[DJ];omega)];rw[ai (by omega),aq hc];rfl
def wW (e:Hs):Bool:=cq e.1 0 281474976710655&&(cq e.2.1 0 281474976710655&&(cq e.2.2.1 (-1) 4095&&(cq e.2.2.2.1 1536 65535&&((e.2.2.2.1 !=33024)&&cq (e.2.2.2.2.length:Int) 46 400))))
theorem DD (e:Hs):rV e=some (wW e):=by simp only[rV,cc,ab,ba,cF,wW]
theorem Io (e:Hs):u4 e=some (wW e):=DD e
def ZQ (a:Int):Bytes:=(gB a).getD []
theorem Au (a:Int):gB a=some (ZQ a)∧(ZQ a).length≤6:=by
 have h:∃x,gB a=some x∧x.length≤6:=by unfold gB;rw[aq (by omega)];simp only[jf,jg,ab];have h1:=bu (Int.fdiv a (2^(min (Int.toNat 32) (IntKind.bits .i64))));have h2:=cy (ao (BitVec.toNat (BitVec.ofInt (IntKind.bits .i64) a&&&BitVec.ofInt (IntKind.bits .i64) 4294967295)));rw[aK (by omega)];exact⟨_,rfl,by simp only[ak];omega⟩
 obtain⟨x,hx,hl⟩:=h;unfold ZQ;rw[hx];exact⟨rfl,hl⟩
theorem YJ (a:Int):sy a=some (ZQ a):=(Au a).1
def Ul (e:Hs):Bytes:=(bif decide (e.2.2.1≥0) then(((ZQ e.1++ZQ e.2.1)++cZ 33024)++cZ e.2.2.1) else ZQ e.1++ZQ e.2.1)++cZ e.2.2.2.1++e.2.2.2.2
def Sh (e:Hs):Bytes×Bool:=bif wW e then(Ul e,true) else([],false)
theorem Zm (e:Hs):sN e=some (Sh e):=by
 unfold sN Sh;rw[DD,ab];cases he:wW e with|false=>rfl|true=>?_
 have hn:(e.2.2.2.2.length:Int)≤400:=by simp only[wW,aj,cv]at he;omega
 have:=(Au e.1).2;have:=(Au e.2.1).2;have:=bu 33024;have:=bu e.2.2.1;have:=bu e.2.2.2.1;simp only[(Au _).1,jf,ab,al,af,ah,Ul];rw[aK (by omega)];cases decide (e.2.2.1≥0)with|true=>simp only[ah];rw[aK (by simp only[ak];omega),aK (by simp only[ak];omega),aK (by simp only[ak];omega),aK (by simp only[ak];omega)]|false=>simp only[af];rw[aK (by simp only[ak];omega),aK (by simp only[ak];omega)]
theorem YI (e:Hs):sf e=some (Sh e):=by
 unfold sf Sh;rw[Io,ab];cases he:wW e with|false=>rfl|true=>?_
 have hn:(e.2.2.2.2.length:Int)≤400:=by simp only[wW,aj,cv]at he;omega
 have:=(Au e.1).2;have:=(Au e.2.1).2;have:=bu 33024;have:=bu e.2.2.1;have:=bu e.2.2.2.1;simp only[YJ,mm,ab,al,af,ah,Ul];rw[aK (by omega)];cases decide (e.2.2.1≥0)with|true=>simp only[ah];rw[aK (by omega),aK (by simp only[ak];omega),aK (by simp only[ak];omega),aK (by simp only[ak];omega)];simp only[aE]|false=>simp only[af];rw[aK (by simp only[ak];omega),aK (by simp only[ak];omega)]
def Zi (p:de):Bytes×Bool:=wN p.2.2.2.2.2.2.1 p.2.2.2.2.2.2.2.1 p.2.2.2.2.2.2.2.2
def ipP (p:de):Bytes×Bool:=Ok (p.2.2.2.1,p.2.2.2.2.1,p.2.2.2.2.2.1,p.2.2.2.2.2.2.2.2.1,p.2.2.2.2.2.2.1,p.2.2.2.2.2.2.2.1,(Zi p).1)
def aiQ (p:de):Bytes×Bool:=Sh (p.1,p.2.1,p.2.2.1,2048,pad (ipP p).1)
def fw (p:de):Bytes×Bool:=bif ir p then aiQ p else([],false)
theorem Ph (p:de):(ipP p).1.length≤360:=by have h1:=Zj p.2.2.2.2.2.2.1 p.2.2.2.2.2.2.2.1 p.2.2.2.2.2.2.2.2;unfold ipP Ok;cases Pg (p.2.2.2.1,p.2.2.2.2.1,p.2.2.2.2.2.1,p.2.2.2.2.2.2.2.2.1,p.2.2.2.2.2.2.1,p.2.2.2.2.2.2.2.1,(Zi p).1)with|false=>exact dv _|true=>have h2:=De (p.2.2.2.1,p.2.2.2.2.1,p.2.2.2.2.2.1,p.2.2.2.2.2.2.2.2.1,p.2.2.2.2.2.2.1,p.2.2.2.2.2.2.2.1,(Zi p).1);have h3:(Zi p).1.length≤340:=h1;simp only[ah,ak];omega
theorem Tq (p:de):oS p=some (fw p):=by have hl:=Ph p;unfold oS fw;simp only[Av,zP,VX,ab];rw[show(Ok (p.2.2.2.1,p.2.2.2.2.1,p.2.2.2.2.2.1,p.2.2.2.2.2.2.2.2.1,p.2.2.2.2.2.2.1,p.2.2.2.2.2.2.2.1,(wN p.2.2.2.2.2.2.1 p.2.2.2.2.2.2.2.1 p.2.2.2.2.2.2.2.2).1))=ipP p from rfl,Zn _ (by omega),ab,Zm];cases ir p<;>rfl
theorem Sv (p:de):oF p=some (fw p):=by have hl:=Ph p;unfold oF fw;simp only[Ai,zx,US,ab];rw[show(Ok (p.2.2.2.1,p.2.2.2.2.1,p.2.2.2.2.2.1,p.2.2.2.2.2.2.2.2.1,p.2.2.2.2.2.2.1,p.2.2.2.2.2.2.2.1,(wN p.2.2.2.2.2.2.1 p.2.2.2.2.2.2.2.1 p.2.2.2.2.2.2.2.2).1))=ipP p from rfl,YK _ (by omega),ab,YI];cases ir p<;>rfl
theorem So {p:de}(h:ir p=true):(fw p).2=true:=by
 have hl:=Ph p;have hh:zu p=true:=by simp only[ir,aj]at h;exact h.1
 have hp:=Zc (ipP p).1;unfold fw aiQ Sh;rw[h,ah];have:wW (p.1,p.2.1,p.2.2.1,2048,pad (ipP p).1)=true:=by simp only[zu,aj]at hh;simp only[wW,aj];refine⟨hh.1,hh.2.1,hh.2.2.1,by decide,by decide,cv.2 ?_⟩;omega
 rw[this];rfl
theorem P9 {p:de}(h:ir p=true):p.2.2.2.2.2.2.2.2.2.2.2.2.2.2.2.length≤320:=by
 have hh:zu p=true:=by simp only[ir,aj]at h;exact h.1
 exact Cz (Gi hh)
theorem B6 {s:Bytes}{a:Int}(h0:0≤a)(h:a+2≤(s.length:Int)):0≤cu s a∧cu s a≤65535:=by have h1:=db s a.toNat;have h2:=db s (a.toNat+1);unfold cu dA;rw[ai ⟨h0,h⟩];simp only[ah];omega
theorem B7 {s:Bytes}{a:Int}(h0:0≤a)(h:a+4≤(s.length:Int)):0≤dK s a∧dK s a≤4294967295:=by have h1:=db s a.toNat;have h2:=db s (a.toNat+1);have h3:=db s (a.toNat+2);have h4:=db s (a.toNat+3);unfold dK dA;rw[ai ⟨h0,h⟩];simp only[ah];omega
theorem Ve {x y:Int}(hx:0≤x∧x≤65535)(hy:0≤y∧y≤4294967295):ao (BitVec.toNat (BitVec.ofInt (IntKind.bits .i64) (ao (x*2^(min (Int.toNat 32) (IntKind.bits .i64))))|||BitVec.ofInt (IntKind.bits .i64) y))=x*4294967296+y:=by have e:(2:Int)^(min (Int.toNat 32) (IntKind.bits .i64))=4294967296:=rfl;obtain⟨x,rfl⟩:=aO hx.1;obtain⟨y,rfl⟩:=aO hy.1;rw[e,wrap64 (n:=(x:Int)*4294967296) (by omega) (by omega),show(x:Int)*4294967296=((2^32*x:Nat):Int) by omega,BA x 32 y (by omega) (by omega)];omega
theorem Rl {x y:Int}(hx:0≤x∧x≤65535)(hy:0≤y∧y≤4294967295):ao (ao (x*2^(min (Int.toNat 32) (IntKind.bits .i64)))+y)=x*4294967296+y:=by have e:(2:Int)^(min (Int.toNat 32) (IntKind.bits .i64))=4294967296:=rfl;rw[e,wrap64 (n:=x*4294967296) (by omega) (by omega),wrap64 (by omega) (by omega)]
theorem RG {α:Type}{l:List α}{n:Int}(h0:0≤n)(h1:n≤(l.length:Int)):sub l 0 n=some (l.take n.toNat):=by unfold sub;rw[ay (by omega)];simp
theorem sY {α:Type}{l:List α}(k:Nat)(h:k≤l.length){a:Int}(ha:a=(k:Int)):sub l a (l.length:Int)=some (l.drop k):=by unfold sub;rw[ay (by omega)];subst ha;simp
theorem RF {α:Type}{l:List α}(k:Nat){a n:Int}(ha:a=(k:Int))(h0:a≤n)(h1:n≤(l.length:Int)):sub l a n=some ((l.take n.toNat).drop k):=by unfold sub;rw[ay (by omega)];subst ha;simp
def Uk:Hs:=(0,0,0,0,([]:Bytes))
def Rk (s:Bytes)(a:Int):Int:=cu s a*4294967296+dK s (a+2)
def Mc (s:Bytes):Hs:=(Rk s 0,Rk s 6,cu s 14,cu s 16,s.drop 18)
def AM (s:Bytes):Hs:=(Rk s 0,Rk s 6, -1,cu s 12,s.drop 14)
def re (s:Bytes):Hs×Bool:=bif decide ((s.length:Int)<18) then(Uk,false) else
 bif cu s 12==33024 then(bif wW (Mc s) then(Mc s,true) else(Uk,false)) else bif wW (AM s) then(AM s,true) else(Uk,false)
theorem K6 (s:Bytes)(h:s.length≤1000000000):sU s=some (re s):=by unfold sU re;by_cases h8:(s.length:Int)<18;rw[ai h8];rfl;rw[ae h8];simp only[af,pO s _ h,rT s _ h,ab];rw[aq (by omega),aq (by omega),sY (l:=s) 14 (by omega) (show(14:Int)=((14:Nat):Int) from rfl),ab,sY (l:=s) 18 (by omega) (show(18:Int)=((18:Nat):Int) from rfl)];rw[Rl (B6 (s:=s) (a:=0) (by omega) (by omega)) (B7 (s:=s) (a:=2) (by omega) (by omega)),Rl (B6 (s:=s) (a:=6) (by omega) (by omega)) (B7 (s:=s) (a:=8) (by omega) (by omega))];simp only[ab,DD];rw[show((cu s 0*4294967296+dK s 2,cu s 6*4294967296+dK s 8,cu s 14,cu s 16,s.drop 18):Hs)=Mc s from rfl,show((cu s 0*4294967296+dK s 2,cu s 6*4294967296+dK s 8, -1,cu s 12,s.drop 14):Hs)=AM s from rfl];cases cu s 12==33024<;>cases wW (Mc s)<;>cases wW (AM s)<;>rfl
theorem Kr (s:Bytes)(h:s.length≤1000000000):sn s=some (re s):=by
 unfold sn re;by_cases h4:(s.length:Int)<14;rw[ai h4,ai (show(s.length:Int)<18 by omega)];rfl;rw[ae h4];simp only[af,wZ s _ h,uM s _ h,ab];rw[aq (by omega),aq (by omega),sY (l:=s) 14 (by omega) (show(14:Int)=((14:Nat):Int) from rfl),ab];rw[Ve (B6 (s:=s) (a:=0) (by omega) (by omega)) (B7 (s:=s) (a:=2) (by omega) (by omega)),Ve (B6 (s:=s) (a:=6) (by omega) (by omega)) (B7 (s:=s) (a:=8) (by omega) (by omega))];simp only[ab,Io];rw[show((cu s 0*4294967296+dK s 2,cu s 6*4294967296+dK s 8, -1,cu s 12,s.drop 14):Hs)=AM s from rfl];by_cases h8:(s.length:Int)<18;have hB:wW (AM s)=false:=by
  unfold wW AM;have:cq ((s.drop 14).length:Int) 46 400=false:=by rw[Bool.eq_false_iff,ne_eq,cv,aV];omega
  simp only[this,gh]
 rw[ai h8,ae (show¬(s.length:Int)≥18 by omega),hB];cases cu s 12==33024<;>rfl;rw[ae h8,ai (show(s.length:Int)≥18 by omega),sY (l:=s) 18 (by omega) (show(18:Int)=((18:Nat):Int) from rfl)];simp only[ab];rw[show((cu s 0*4294967296+dK s 2,cu s 6*4294967296+dK s 8,cu s 14,cu s 16,s.drop 18):Hs)=Mc s from rfl];cases cu s 12==33024<;>cases wW (Mc s)<;>cases wW (AM s)<;>rfl
def ip0:Ip:=(0,0,0,0,0,0,([]:Bytes))
def Cm (s:Bytes):Ip:=((bX s 1:Int),cu s 4,(bX s 8:Int),(bX s 9:Int),dK s 12,dK s 16,(s.take (cu s 2).toNat).drop 20)
def uj (s:Bytes):Ip×Bool:=bif decide ((s.length:Int)<20)||(decide (cu s 2<20)||decide (cu s 2>(s.length:Int))) then(ip0,false) else
 bif (Ok (Cm s)).2&&((Ok (Cm s)).1==s.take (cu s 2).toNat) then(Cm s,true) else(ip0,false)
theorem NK (s:Bytes)(h:s.length≤1000000000):uu s=some (uj s):=by
 unfold uu uj;simp only[pO s _ h,rT s _ h,ab];by_cases h1:(s.length:Int)<20;rw[ai h1];rfl;by_cases h2:cu s 2<20;rw[ae h1,ai h2];rfl;by_cases h3:cu s 2>(s.length:Int);rw[ae h1,ae h2,ai h3];rfl;rw[ae h1,ae h2,ae h3];have b1:=iy (s[1]'(by omega));have b8:=iy (s[8]'(by omega));have b9:=iy (s[9]'(by omega));have i1:idx s 1=some (s[1]'(by omega)):=aU (i:=1) (by omega);have i8:idx s 8=some (s[8]'(by omega)):=aU (i:=8) (by omega);have i9:idx s 9=some (s[9]'(by omega)):=aU (i:=9) (by omega);simp only[af,ab,bI,i1,i8,i9];rw[RF (l:=s) 20 (show(20:Int)=((20:Nat):Int) from rfl) (by omega) (by omega),RG (by omega) (by omega),fE (n:=(s[1]'(by omega)).toNat) (by omega),fE (n:=(s[8]'(by omega)).toNat) (by omega),fE (n:=(s[9]'(by omega)).toNat) (by omega)];have e:(((s[1]'(by omega)).toNat:Int),cu s 4,((s[8]'(by omega)).toNat:Int),((s[9]'(by omega)).toNat:Int),dK s 12,dK s 16,(s.take (cu s 2).toNat).drop 20)=Cm s:=by simp only[Cm,bX,cD (show 1<s.length by omega),cD (show 8<s.length by omega),cD (show 9<s.length by omega)]
 simp only[ab,e,VX];cases (Ok (Cm s)).2<;>cases (Ok (Cm s)).1==s.take (cu s 2).toNat<;>rfl
theorem MJ (s:Bytes)(h:s.length≤1000000000):tZ s=some (uj s):=by
 unfold tZ uj;simp only[wZ s _ h,uM s _ h,ab];by_cases h1:(s.length:Int)<20;rw[ai h1];rfl;by_cases h2:cu s 2<20;rw[ae h1,ai h2];rfl;by_cases h3:cu s 2>(s.length:Int);rw[ae h1,ae h2,ai h3];rfl;rw[ae h1,ae h2,ae h3];have b1:=iy (s[1]'(by omega));have b8:=iy (s[8]'(by omega));have b9:=iy (s[9]'(by omega));have i1:idx s 1=some (s[1]'(by omega)):=aU (i:=1) (by omega);have i8:idx s 8=some (s[8]'(by omega)):=aU (i:=8) (by omega);have i9:idx s 9=some (s[9]'(by omega)):=aU (i:=9) (by omega);simp only[af,ab,bI,i1,i8,i9];rw[RF (l:=s) 20 (show(20:Int)=((20:Nat):Int) from rfl) (by omega) (by omega),RG (by omega) (by omega),fE (n:=(s[1]'(by omega)).toNat) (by omega),fE (n:=(s[8]'(by omega)).toNat) (by omega),fE (n:=(s[9]'(by omega)).toNat) (by omega)];have e:(((s[1]'(by omega)).toNat:Int),cu s 4,((s[8]'(by omega)).toNat:Int),((s[9]'(by omega)).toNat:Int),dK s 12,dK s 16,(s.take (cu s 2).toNat).drop 20)=Cm s:=by simp only[Cm,bX,cD (show 1<s.length by omega),cD (show 8<s.length by omega),cD (show 9<s.length by omega)]
 simp only[ab,e,US];cases (Ok (Cm s)).2<;>cases (Ok (Cm s)).1==s.take (cu s 2).toNat<;>rfl
def afx:cI:=(0,0,0,0,0,0,0,([]:Bytes))
def GZ (k:Int)(s:Bytes):cI:=(k,cu s 0,cu s 2,dK s 4,dK s 8,(bX s 13:Int),cu s 14,s.drop 20)
def KX (k:Int)(s:Bytes):cI:=(k,cu s 0,cu s 2,0,0,0,0,s.drop 8)
def vy (a b k:Int)(s:Bytes):cI×Bool:=
 bif (k==6)&&decide ((s.length:Int)≥20) then(bif (wN a b (GZ k s)).2&&((wN a b (GZ k s)).1==s) then(GZ k s,true) else(afx,false)) else
 bif (k==17)&&decide ((s.length:Int)≥8) then(bif (wN a b (KX k s)).2&&((wN a b (KX k s)).1==s) then(KX k s,true) else(afx,false)) else(afx,false)
theorem K7 (a b k:Int)(s:Bytes)(h:s.length≤1000000000):ma a b k s=some (vy a b k s):=by
 unfold ma vy;simp only[pO s _ h,rT s _ h,ab];rw[show(aa (cond (k==6) (some (decide ((s.length:Int)≥20))) (some false)):(Bool→Option (cI×Bool))→Option (cI×Bool))=λK=>K ((k==6)&&decide ((s.length:Int)≥20)) from by funext K;cases k==6<;>rfl];rw[show(aa (cond (k==17) (some (decide ((s.length:Int)≥8))) (some false)):(Bool→Option (cI×Bool))→Option (cI×Bool))=λK=>K ((k==17)&&decide ((s.length:Int)≥8)) from by funext K;cases k==17<;>rfl];simp only;cases h1:(k==6)&&decide ((s.length:Int)≥20)with
 |true=>
  simp only[aj,aP]at h1;have bb:=iy (s[13]'(by omega));have i:idx s 13=some (s[13]'(by omega)):=aU (i:=13) (by omega);have e:(k,cu s 0,cu s 2,dK s 4,dK s 8,((s[13]'(by omega)).toNat:Int),cu s 14,s.drop 20)=GZ k s:=by simp only[GZ,bX,cD (show 13<s.length by omega)]
  simp only[ah,i,ab];rw[sY (l:=s) 20 (by omega) (show(20:Int)=((20:Nat):Int) from rfl),fE (n:=(s[13]'(by omega)).toNat) (by omega)];simp only[ab,e,zP];cases (wN a b (GZ k s)).2<;>cases (wN a b (GZ k s)).1==s<;>rfl
 |false=>simp only[af];cases h2:(k==17)&&decide ((s.length:Int)≥8)with|false=>rfl|true=>simp only[aj,aP]at h2;rw[sY (l:=s) 8 (by omega) (show(8:Int)=((8:Nat):Int) from rfl)];simp only[ah,ab,show((k,cu s 0,cu s 2,0,0,0,0,s.drop 8):cI)=KX k s from rfl,zP];cases (wN a b (KX k s)).2<;>cases (wN a b (KX k s)).1==s<;>rfl
theorem Ks (a b k:Int)(s:Bytes)(h:s.length≤1000000000):lU a b k s=some (vy a b k s):=by
 unfold lU vy;simp only[wZ s _ h,uM s _ h,ab];rw[show(aa (cond (k==6) (some (decide ((s.length:Int)≥20))) (some false)):(Bool→Option (cI×Bool))→Option (cI×Bool))=λK=>K ((k==6)&&decide ((s.length:Int)≥20)) from by funext K;cases k==6<;>rfl];rw[show(aa (cond (k==17) (some (decide ((s.length:Int)≥8))) (some false)):(Bool→Option (cI×Bool))→Option (cI×Bool))=λK=>K ((k==17)&&decide ((s.length:Int)≥8)) from by funext K;cases k==17<;>rfl];simp only;cases h1:(k==6)&&decide ((s.length:Int)≥20)with
 |true=>
  simp only[aj,aP]at h1;have bb:=iy (s[13]'(by omega));have i:idx s 13=some (s[13]'(by omega)):=aU (i:=13) (by omega);have e:(k,cu s 0,cu s 2,dK s 4,dK s 8,((s[13]'(by omega)).toNat:Int),cu s 14,s.drop 20)=GZ k s:=by simp only[GZ,bX,cD (show 13<s.length by omega)]
  simp only[ah,i,ab];rw[sY (l:=s) 20 (by omega) (show(20:Int)=((20:Nat):Int) from rfl),fE (n:=(s[13]'(by omega)).toNat) (by omega)];simp only[ab,e,zx];cases (wN a b (GZ k s)).2<;>cases (wN a b (GZ k s)).1==s<;>rfl
 |false=>simp only[af];cases h2:(k==17)&&decide ((s.length:Int)≥8)with|false=>rfl|true=>simp only[aj,aP]at h2;rw[sY (l:=s) 8 (by omega) (show(8:Int)=((8:Nat):Int) from rfl)];simp only[ah,ab,show((k,cu s 0,cu s 2,0,0,0,0,s.drop 8):cI)=KX k s from rfl,zx];cases (wN a b (KX k s)).2<;>cases (wN a b (KX k s)).1==s<;>rfl
def pk0:de:=(0,0,0,0,0,0,0,0,0,0,0,0,0,0,0,([]:Bytes))
def DZ (s:Bytes):de×Int:=
 let e:=re s
 bif !e.2||(e.1.2.2.2.1 !=2048) then(pk0,2) else
 let i:=uj e.1.2.2.2.2
 bif !i.2 then(pk0,3) else
 let g:=vy i.1.2.2.2.2.1 i.1.2.2.2.2.2.1 i.1.2.2.2.1 i.1.2.2.2.2.2.2
 bif !g.2 then(pk0,4) else
 bif !ir (e.1.1,e.1.2.1,e.1.2.2.1,i.1.1,i.1.2.1,i.1.2.2.1,i.1.2.2.2.2.1,i.1.2.2.2.2.2.1,g.1) then(pk0,5) else
 ((e.1.1,e.1.2.1,e.1.2.2.1,i.1.1,i.1.2.1,i.1.2.2.1,i.1.2.2.2.2.1,i.1.2.2.2.2.2.1,g.1),0)
theorem Cu (s:Bytes):(re s).1.2.2.2.2.length≤s.length:=by
 unfold re;cases decide ((s.length:Int)<18)with|true=>simp[Uk]|false=>?_
 cases cu s 12==33024<;>cases wW (Mc s)<;>cases wW (AM s)<;>simp[Uk,Mc,AM]
theorem DX (s:Bytes):(uj s).1.2.2.2.2.2.2.length≤s.length:=by
 unfold uj;cases decide ((s.length:Int)<20)||(decide (cu s 2<20)||decide (cu s 2>(s.length:Int)))with|true=>simp[ip0]|false=>?_
 cases (Ok (Cm s)).2&&((Ok (Cm s)).1==s.take (cu s 2).toNat)with|false=>simp[ip0]|true=>simp[Cm];omega
theorem Tr (s:Bytes)(h:s.length≤1000000000):rA s=some (DZ s):=by
 have h1:=Cu s;unfold rA DZ;rw[K6 s h,ab];generalize re s=e at h1⊢;have h2:=DX e.1.2.2.2.2;simp only;cases e.2 with|false=>rfl|true=>?_
 cases e.1.2.2.2.1 !=2048 with|true=>rfl|false=>?_
 simp only[al,af,ab,bI,NK _ (show e.1.2.2.2.2.length≤1000000000 by omega)];generalize uj e.1.2.2.2.2=i at h2⊢;cases i.2 with|false=>rfl|true=>?_
 simp only[al,af,ab,K7 _ _ _ _ (show i.1.2.2.2.2.2.2.length≤1000000000 by omega)];generalize vy i.1.2.2.2.2.1 i.1.2.2.2.2.2.1 i.1.2.2.2.1 i.1.2.2.2.2.2.2=g;cases g.2 with|false=>rfl|true=>?_
 simp only[al,af,ab,Av];cases ir (e.1.1,e.1.2.1,e.1.2.2.1,i.1.1,i.1.2.1,i.1.2.2.1,i.1.2.2.2.2.1,i.1.2.2.2.2.2.1,g.1)<;>rfl
theorem Sy (s:Bytes)(h:s.length≤1000000000):qg s=some (DZ s):=by
 have h1:=Cu s;unfold qg DZ;rw[Kr s h,ab];generalize re s=e at h1⊢;have h2:=DX e.1.2.2.2.2;simp only;cases e.2 with|false=>rfl|true=>?_
 cases e.1.2.2.2.1 !=2048 with|true=>rfl|false=>?_
 simp only[al,af,ab,bI,MJ _ (show e.1.2.2.2.2.length≤1000000000 by omega)];generalize uj e.1.2.2.2.2=i at h2⊢;cases i.2 with|false=>rfl|true=>?_
 simp only[al,af,ab,Ks _ _ _ _ (show i.1.2.2.2.2.2.2.length≤1000000000 by omega)];generalize vy i.1.2.2.2.2.1 i.1.2.2.2.2.2.1 i.1.2.2.2.1 i.1.2.2.2.2.2.2=g;cases g.2 with|false=>rfl|true=>?_
 simp only[al,af,ab,Ai];cases ir (e.1.1,e.1.2.1,e.1.2.2.1,i.1.1,i.1.2.1,i.1.2.2.1,i.1.2.2.2.2.1,i.1.2.2.2.2.2.1,g.1)<;>rfl
def Es {α:Type}(a b:α):Bool:= @decide (a=b) (Classical.propDecidable _)
theorem Ac {α:Type}{a b:α}:Es a b=true↔a=b:=by unfold Es;exact @decide_eq_true_iff _ (Classical.propDecidable _)
theorem Kf {α:Type}{a b:α}{x:Bool}(h:x=true↔a=b):x=Es a b:=by rw[cm,Ac];exact h
theorem anj {α:Type}[BEq α][LawfulBEq α](a b:α):(a==b)=Es a b:=Kf bj
theorem T8 {α β:Type}(a b:α)(c d:β):Es (a,c) (b,d)=(Es a b&&Es c d):=by rw[cm];simp only[aj,Ac,Prod.mk.injEq]
theorem Md {α β:Type}(a b:α×β):Es a b=(Es a.1 b.1&&Es a.2 b.2):=T8 a.1 b.1 a.2 b.2
theorem T9 {α:Type}{a b:α}(h:a=b):Es a b=true:=Ac.2 h
theorem Sa {α:Type}{a b:α}(h:¬a=b):Es a b=false:=by rw[Bool.eq_false_iff,ne_eq,Ac];exact h
theorem Uj {α R:Type}{T:(Int→Option R)→Int→Option R}{fin hit:Option R}(p:α→α→Bool)(hp:∀x y,p x y=true↔x=y)(a b:List α)(hl:a.length=b.length)(h:a.length≤1000000000)(hs:∀i (hi:i<a.length) nx,T nx (i:Int)=cond (!(p a[i] (b[i]'(hl▸hi)))) hit (nx ((i+1:Nat):Int)))(hf:∀nx,T nx (a.length:Int)=fin): aJ T fuel 0=cond (Es a b) fin hit:=by
 have hq:∀i,i<a.length→i<b.length:=λi hi=>hl▸hi;rw[eO (fin:=fin) (hit:=hit) (λi=>Es a[i]? b[i]?) a.length (by omega) ?hs hf]
 case hs=>
  intro i nx hi
  rw[hs i hi,List.getElem?_eq_getElem hi,List.getElem?_eq_getElem (hq i hi)]
  have:p a[i] (b[i]'(hq i hi))=Es (some a[i]) (some (b[i]'(hq i hi))):=Kf (by rw[hp,aS])
  rw[this]
 congr 1;apply Kf;rw[bd];constructor;intro k;apply List.ext_getElem?;intro i;by_cases hi:i<a.length;exact Ac.1 (k i (dN.2 hi));rw[List.getElem?_eq_none (by omega),List.getElem?_eq_none (by omega)];rintro rfl i _;exact T9 rfl
theorem Yz {α:Type}{T:(Int→Option Bool)→Int→Option Bool}(p:α→α→Bool)(hp:∀x y,p x y=true↔x=y)(a b:List α)(h:a.length≤1000000000)(hs:a.length=b.length→∀i (hi:i<a.length)(hi':i<b.length) nx,T nx (i:Int)=cond (!(p a[i] b[i])) (some false) (nx ((i+1:Nat):Int)))(hf:∀nx,T nx (a.length:Int)=some true): cond ((a.length:Int) !=(b.length:Int)) (some false) (aJ T fuel 0)=some (Es a b):=by by_cases hl:a.length=b.length;rw[Uj p hp a b hl h (λi hi nx=>hs hl i hi (hl▸hi) nx) hf];rw[show((a.length:Int) !=(b.length:Int))=false by simp[hl]];cases Es a b<;>rfl;rw[Sa (λe=>hl (by rw[e]))];rw[show((a.length:Int) !=(b.length:Int))=true by simp;omega];rfl
theorem UR (a b:List Int)(h:a.length≤1000000000):nw a b=some (Es a b):=by unfold nw;refine Yz (λx y=>x==y) (λx y=>bj) a b h (λhl i hi hi' nx=>?_) (λnx=>?_);simp only[jx];rw[ai (by omega),aU hi,aU hi',wrap64 (by omega) (by omega)];rfl;simp only[jx];rw[ae (by omega)];rfl
theorem Cb (a b:Filter)(h:a.2.2.length≤1000000000):oO a b=some (Es a b):=by simp only[oO,UR _ _ h,ab,ba,cF,Md a b,Md a.2 b.2,anj]
theorem tD (l:List Bytes)(h:l.length≤1000000000):fb l=some l:=by simp only[fb,dw h,bc]
theorem zv (f:Filter)(h:f.2.2.length≤1000000000):la f=some f:=by simp only[la,kv _ h,ab]
theorem zO (f:Filter)(h:f.2.2.length≤1000000000):rD f=some f:=by simp only[rD,dw h,bc]
theorem tC (l:List Stream)(h:l.length≤1000000000):gY l=some l:=by simp only[gY,dw h,bc]
theorem HD (t:List Slot)(h:t.length≤1000000000):ql t=some t:=by simp only[ql,dw h,bc]
theorem Gl (s:mh)(h:s.2.length≤1000000000):oN s=some s:=by simp only[oN,kv _ h,ab]
theorem HC (s:ek)(h1:s.1.length≤1000000000)(h2:s.2.1.length≤1000000000)(h3:s.2.2.2.length≤1000000000):lX s=some s:=by simp only[lX,dw h1,HD _ h2,Gl _ h3,ab,bc]
theorem HS (t:List Slot)(h:t.length≤1000000000):uB t=some t:=by simp only[uB,dw h,bc]
theorem HR (s:ek)(h1:s.1.length≤1000000000)(h2:s.2.1.length≤1000000000)(h3:s.2.2.2.length≤1000000000):uD s=some s:=by simp only[uD,dw h1,HS _ h2,dw h3,ab,bc]
theorem IS (l:List eS)(i:Nat)(hi:i<l.length):l.take i++[(l[i].1,l[i].2.1,l[i].2.2)]=l.take (i+1):=(bh hi).symm
theorem Km (l:List eS)(h:l.length≤1000000000)(hx:∀x∈l,x.2.2.length≤1000000000):sv l=some l:=by unfold sv;refine(cS (λi=>(l.take i,(i:Int))) l.length (by omega) (λi nx hi=>?_) (λnx=>?_));simp only[nn];rw[ai (by omega),aU hi,wrap64 (by omega) (by omega)];simp only[ah,ab,kv _ (hx _ (aW hi))];rw[aK (by simp;omega),IS l i hi];rfl;simp only[nn];rw[ae (by omega),cr];rfl
structure aaS (t:ee):Prop where
 p:t.2.1.2.2.2.length≤1000000000
 w:t.2.2.1.length≤1000000000
 x:∀x∈t.2.2.1,x.2.2.length≤1000000000
theorem O2 (t:ee)(z:aaS t):vV t=some t:=by simp only[vV,s4 _ z.p,Km _ z.w z.x,ab]
theorem PV (t:ee)(z:aaS t):uF t=some t:=by have h:=z.w;unfold uF;simp only[u7 _ z.p,ab];refine(cS (λi=>((i:Int),t.1,t.2.1,t.2.2.1.take i,t.2.2.2)) t.2.2.1.length (by omega) (λi nx hi=>?_) (λnx=>?_));simp only[pc];rw[ai (by omega),aU hi,wrap64 (by omega) (by omega)];simp only[ah,ab,dw (z.x _ (aW hi)),bc];rw[aK (by simp;omega),IS _ i hi];rfl;simp only[pc];rw[ae (by omega),cr];rfl
theorem ZP {h:Host}(z:bw 1000000000 bL h):aaS h.2.2.1:=⟨z.2.2.1.2.1.2.2.2.1,z.2.2.1.2.2.1.1,λx hx=>(z.2.2.1.2.2.1.2 x hx).2.2.1⟩
theorem tV (h:Host)(z:bw 1000000000 bL h):ja h=some h:=by have hp:h.2.2.2.2.1.length≤1000000000:=z.2.2.2.2.1.1;have hm:h.1.length≤1000000000:=z.1.1;unfold ja;simp only[gS _ (show h.1.length≤1073741824 by omega),qk,dw z.2.1.1,O2 _ (ZP z),dw z.2.2.2.1.1,ab,bc];refine(cS (λi=>((i:Int),h.1,h.2.1,h.2.2.1,h.2.2.2.1,h.2.2.2.2.1.take i,h.2.2.2.2.2)) h.2.2.2.2.1.length (by omega) (λi nx hi=>?_) (λnx=>?_));simp only[nk];rw[ai (by omega),aU hi,wrap64 (by omega) (by omega)];simp only[ah,ab,s4 _ (z.2.2.2.2.1.2 _ (aW hi)).2.2.2.1];rw[aK (by simp;omega),←bh hi];rfl;simp only[nk];rw[ae (by omega),cr];simp only[af,dw z.2.2.2.2.2.1.1,dw z.2.2.2.2.2.2.1.1,zv _ z.2.2.2.2.2.2.2.1.2.2.1,HC _ z.2.2.2.2.2.2.2.2.1.1.1 z.2.2.2.2.2.2.2.2.1.2.1.1 z.2.2.2.2.2.2.2.2.1.2.2.2.1,tC _ z.2.2.2.2.2.2.2.2.2.1.1,tD _ z.2.2.2.2.2.2.2.2.2.2.2.1.1,kv _ z.2.2.2.2.2.2.2.2.2.2.2.2.1.1,kv _ z.2.2.2.2.2.2.2.2.2.2.2.2.2.1.1,ab,bc]
theorem uk (h:Host)(z:bw 1000000000 bL h):kX h=some h:=by have hp:h.2.2.2.2.1.length≤1000000000:=z.2.2.2.2.1.1;have hm:h.1.length≤1000000000:=z.1.1;unfold kX;simp only[kM _ (show h.1.length≤1073741824 by omega),dw z.2.1.1,PV _ (ZP z),dw z.2.2.2.1.1,ab,bc];refine(cS (λi=>((i:Int),h.1,h.2.1,h.2.2.1,h.2.2.2.1,h.2.2.2.2.1.take i,h.2.2.2.2.2)) h.2.2.2.2.1.length (by omega) (λi nx hi=>?_) (λnx=>?_));simp only[pe];rw[ai (by omega),aU hi,wrap64 (by omega) (by omega)];simp only[ah,ab,u7 _ (z.2.2.2.2.1.2 _ (aW hi)).2.2.2.1];rw[aK (by simp;omega),←bh hi];rfl;simp only[pe];rw[ae (by omega),cr];simp only[af,dw z.2.2.2.2.2.1.1,dw z.2.2.2.2.2.2.1.1,zO _ z.2.2.2.2.2.2.2.1.2.2.1,HR _ z.2.2.2.2.2.2.2.2.1.1.1 z.2.2.2.2.2.2.2.2.1.2.1.1 z.2.2.2.2.2.2.2.2.1.2.2.2.1,dw z.2.2.2.2.2.2.2.2.2.1.1,dw z.2.2.2.2.2.2.2.2.2.2.2.1.1,dw z.2.2.2.2.2.2.2.2.2.2.2.2.1.1,dw z.2.2.2.2.2.2.2.2.2.2.2.2.2.1.1,ab,bc]
theorem Qv:∀l:List eS,(dQ l).length≤gC (.sl dc) l
 |[]=>by simp[dQ]
 |x::l=>by have:=Qv l;simp only[dQ,gC,List.flatMap_cons,ak,bW,List.sum_cons,a7]at this⊢;omega
def Ye (f:Int×Int×Int×Int×Int)(s:Stream):Bool:=decide (s.1=f)
def Em (l:List Stream)(f:Int×Int×Int×Int×Int):Int:=match l.findIdx? (Ye f)with|some i=>(i:Int)|none=> -1
theorem V7 (l:List Stream)(f:Int×Int×Int×Int×Int)(h:l.length≤1000000000):nI l f=some (Em l f):=by
 unfold nI Em;rw[wY (p:=Ye f) (hit:=λi=>some i) (fin:=some (-1)) l (by omega) (λi hi nx=>?hs) (λnx=>?hf)]
 case hs=>
  simp only[jC]
  rw[ai (by omega),aU hi,wrap64 (by omega) (by omega)]
  simp only[ah,ab,B5,Ye];rfl
 case hf=>
  simp only[jC]
  rw[ae (by omega)];rfl
 cases l.findIdx? (Ye f)<;>rfl
theorem U3 (l:List Stream)(f:Int×Int×Int×Int×Int)(h:l.length≤1000000000):nf l f=some (Em l f):=by
 unfold nf Em;rw[wY (p:=Ye f) (hit:=λi=>some i) (fin:=some (-1)) l (by omega) (λi hi nx=>?hs) (λnx=>?hf)]
 case hs=>
  simp only[jt]
  rw[ai (by omega),aU hi,wrap64 (by omega) (by omega)]
  simp only[ah,ab,B5,Ye];rfl
 case hf=>
  simp only[jt]
  rw[ae (by omega)];rfl
 cases l.findIdx? (Ye f)<;>rfl
def P6:Stream:=((0,0,0,0,0),0,([]:Bytes),false)
def body (p:de):Bytes:=p.2.2.2.2.2.2.2.2.2.2.2.2.2.2.2
def udp (p:de):Bytes:=cZ ((body p).length:Int)++body p
def tA (p:de)(b:Int):Bool:=ao (BitVec.toNat (BitVec.ofInt (IntKind.bits .i64) p.2.2.2.2.2.2.2.2.2.2.2.2.2.1&&&BitVec.ofInt (IntKind.bits .i64) b)) !=0
def mi (s:Stream)(p:de):Int:=(s.2.1-p.2.2.2.2.2.2.2.2.2.2.2.1)%4294967296
def Zy (s:Stream)(p:de):Stream:=(s.1,(s.2.1+((body p).length:Int)-mi s p)%4294967296,s.2.2.1++(body p).drop (mi s p).toNat,tA p 1)
def uU (l:List Stream)(p:de):List Stream:=
 bif !ir p then l else
 match l.findIdx? (Ye (nR p))with
 |none=>
  bif p.2.2.2.2.2.2.2.2.1==17 then l++[(nR p,0,udp p,false)] else
  bif tA p 2 then l++[(nR p,Int.tmod (ao (p.2.2.2.2.2.2.2.2.2.2.2.1+1)) 4294967296,([]:Bytes),false)] else l
 |some i=>
  bif p.2.2.2.2.2.2.2.2.1==17 then l.set i ((l.getD i P6).1,(l.getD i P6).2.1,(l.getD i P6).2.2.1++udp p,(l.getD i P6).2.2.2) else
  bif tA p 2 then l else
  bif (l.getD i P6).2.2.2||tA p 4 then l else
  bif decide (mi (l.getD i P6) p≤((body p).length:Int)) then l.set i (Zy (l.getD i P6) p) else l
theorem Ls (s:Stream)(p:de):0≤mi s p∧mi s p<4294967296:=by unfold mi;omega
theorem aeX (x:Int):ao (BitVec.toNat (BitVec.ofInt (IntKind.bits .i64) x&&&BitVec.ofInt (IntKind.bits .i64) 4294967295))=x%4294967296:=by have:=wR x 32 (by omega);rw[show((2:Int)^32-1)=4294967295 from rfl,show((2:Int)^32)=4294967296 from rfl]at this;rw[this,wrap64 (by omega) (by omega)]
theorem Yd (x:Int):ao x%4294967296=x%4294967296:=by have:=xp x 32 (by omega);rwa[show((2:Int)^32)=4294967296 from rfl]at this
theorem CA {α:Type}(l:List α)(x y:α):(l++[x]).set l.length y=l++[y]:=by rw[List.set_append_right _ _ (aM _),dV,List.set_cons_zero]
theorem Q8 {α:Type}{l:List α}{i:Nat}(h:i<l.length)(x:α):idx (l.set i x) (i:Int)=some x:=by rw[Et,List.getElem?_set_self h]
theorem tU {α:Type}(l:List α)(x:α):idx (l++[x]) (l.length:Int)=some x:=by rw[Et,List.getElem?_append_right (aM _),dV];rfl
theorem EN {p:de}(h:ir p=true):(body p).length≤320:=P9 h
theorem Kn (l:List Stream)(p:de)(h:bw 900000000 (.sl bg) l):tX l p=some (uU l p):=by
 have hl:l.length≤900000000:=h.1;unfold tX uU;simp only[tC l (by omega),Ai,ab,MG,U3 l _ (show l.length≤1000000000 by omega),mm];cases hs:ir p with|false=>rfl|true=>?_
 have hb:=EN hs;have hw:=bu ((body p).length:Int);simp only[al,af];rw[show p.2.2.2.2.2.2.2.2.2.2.2.2.2.2.2=body p from rfl];cases hf:l.findIdx? (Ye (nR p))with
 |none=>
  have e1:Em l (nR p)= -1:=by rw[Em,hf]
  simp only[e1,show decide ((-1:Int)<0)=true from rfl,ah];cases p.2.2.2.2.2.2.2.2.1==17 with|true=>simp only[ah];rw[aK (by simp;omega),tU,ab];simp only;rw[aK (by omega),aK (by simp only[ak,eo];omega),ab,ax];simp only[ab,tU,CA,bc];rfl|false=>simp only[af];rw[show(ao (BitVec.toNat (BitVec.ofInt (IntKind.bits .i64) p.2.2.2.2.2.2.2.2.2.2.2.2.2.1&&&BitVec.ofInt (IntKind.bits .i64) 2)) !=0)=tA p 2 from rfl];cases tA p 2 with|true=>simp only[ah];rw[aq (by omega),aK (by simp;omega)]|false=>rfl
 |some i=>
  obtain⟨hi,_⟩:=List.findIdx?_eq_some_iff_getElem.1 hf;have hd:(l[i].2.2.1).length≤900000000:=(h.2 _ (aW hi)).2.2.1;have e1:Em l (nR p)=(i:Int):=by rw[Em,hf]
  simp only[e1,ae (show¬(i:Int)<0 by omega),af,aU hi,ab,cD hi,ax];cases p.2.2.2.2.2.2.2.2.1==17 with
  |true=>simp only[ah];rw[aK (by omega),aK (by simp only[ak];omega)];rfl
  |false=>
   simp only[af];rw[show(ao (BitVec.toNat (BitVec.ofInt (IntKind.bits .i64) p.2.2.2.2.2.2.2.2.2.2.2.2.2.1&&&BitVec.ofInt (IntKind.bits .i64) 2)) !=0)=tA p 2 from rfl,show(ao (BitVec.toNat (BitVec.ofInt (IntKind.bits .i64) p.2.2.2.2.2.2.2.2.2.2.2.2.2.1&&&BitVec.ofInt (IntKind.bits .i64) 4)) !=0)=tA p 4 from rfl,show(ao (BitVec.toNat (BitVec.ofInt (IntKind.bits .i64) p.2.2.2.2.2.2.2.2.2.2.2.2.2.1&&&BitVec.ofInt (IntKind.bits .i64) 1)) !=0)=tA p 1 from rfl];cases tA p 2 with|true=>rfl|false=>?_
   simp only[af];rw[show(aa (cond l[i].2.2.2 (some true) (some (tA p 4))):(Bool→Option (List Stream))→Option (List Stream))=λK=>K (l[i].2.2.2||tA p 4) from by funext K;cases l[i].2.2.2<;>rfl];simp only;cases l[i].2.2.2||tA p 4 with|true=>rfl|false=>?_
   simp only[af,Dl _ 4294967296 (by omega) (by omega),ab,Yd];rw[show(l[i].2.1-p.2.2.2.2.2.2.2.2.2.2.2.1)%4294967296=mi l[i] p from rfl];have ha:=Ls l[i] p;by_cases hq:mi l[i] p≤((body p).length:Int);rw[ai hq,sY (l:=body p) (mi l[i] p).toNat (by omega) (by omega)];simp only[ah,ab];rw[aK (by rw[aV];omega)];simp only[Q8 hi,ab,dh];refine congrArg some (congrArg (l.set i) ?_);simp only[Zy];rw[show(ao (l[i].2.1+((body p).length:Int))-mi l[i] p)%4294967296=(l[i].2.1+((body p).length:Int)-mi l[i] p)%4294967296 from by rw[Int.sub_emod,Yd,←Int.sub_emod]];rw[ae hq];rfl
theorem K1 (l:List Stream)(p:de)(h:bw 900000000 (.sl bg) l):uo l p=some (uU l p):=by
 have hl:l.length≤900000000:=h.1;unfold uo uU;rw[dw (by omega)];simp only[bc,Av,ab,NH,V7 l _ (show l.length≤1000000000 by omega),jf];cases hs:ir p with|false=>rfl|true=>?_
 have hb:=EN hs;have hw:=bu ((body p).length:Int);simp only[al,af];rw[show p.2.2.2.2.2.2.2.2.2.2.2.2.2.2.2=body p from rfl];cases hf:l.findIdx? (Ye (nR p))with
 |none=>
  have e1:Em l (nR p)= -1:=by rw[Em,hf]
  simp only[e1,show decide ((-1:Int)<0)=true from rfl,ah];cases p.2.2.2.2.2.2.2.2.1==17 with|true=>simp only[ah];rw[aK (by simp;omega),tU,ab];simp only;rw[aK (by simp only[eo];omega),aK (by simp only[ak,eo];omega),ab,ax];simp only[ab,tU,CA,bc];rfl|false=>simp only[af];rw[show(ao (BitVec.toNat (BitVec.ofInt (IntKind.bits .i64) p.2.2.2.2.2.2.2.2.2.2.2.2.2.1&&&BitVec.ofInt (IntKind.bits .i64) 2)) !=0)=tA p 2 from rfl];cases tA p 2 with|true=>simp only[ah];rw[aq (by omega),aK (by simp;omega)]|false=>rfl
 |some i=>
  obtain⟨hi,_⟩:=List.findIdx?_eq_some_iff_getElem.1 hf;have hd:(l[i].2.2.1).length≤900000000:=(h.2 _ (aW hi)).2.2.1;have e1:Em l (nR p)=(i:Int):=by rw[Em,hf]
  simp only[e1,ae (show¬(i:Int)<0 by omega),af,aU hi,ab,cD hi,ax];cases p.2.2.2.2.2.2.2.2.1==17 with
  |true=>simp only[ah];rw[aK (by omega),aK (by simp only[ak];omega),aE];rfl
  |false=>
   simp only[af];rw[show(ao (BitVec.toNat (BitVec.ofInt (IntKind.bits .i64) p.2.2.2.2.2.2.2.2.2.2.2.2.2.1&&&BitVec.ofInt (IntKind.bits .i64) 2)) !=0)=tA p 2 from rfl,show(ao (BitVec.toNat (BitVec.ofInt (IntKind.bits .i64) p.2.2.2.2.2.2.2.2.2.2.2.2.2.1&&&BitVec.ofInt (IntKind.bits .i64) 4)) !=0)=tA p 4 from rfl,show(ao (BitVec.toNat (BitVec.ofInt (IntKind.bits .i64) p.2.2.2.2.2.2.2.2.2.2.2.2.2.1&&&BitVec.ofInt (IntKind.bits .i64) 1)) !=0)=tA p 1 from rfl];cases tA p 2 with|true=>rfl|false=>?_
   simp only[af];rw[show(aa (cond l[i].2.2.2 (some true) (some (tA p 4))):(Bool→Option (List Stream))→Option (List Stream))=λK=>K (l[i].2.2.2||tA p 4) from by funext K;cases l[i].2.2.2<;>rfl];simp only;cases l[i].2.2.2||tA p 4 with|true=>rfl|false=>?_
   simp only[af,aeX,ab,Yd];rw[show(l[i].2.1-p.2.2.2.2.2.2.2.2.2.2.2.1)%4294967296=mi l[i] p from rfl];have ha:=Ls l[i] p;by_cases hq:mi l[i] p≤((body p).length:Int);rw[ai hq,sY (l:=body p) (mi l[i] p).toNat (by omega) (by omega)];simp only[ah,ab];rw[aK (by rw[aV];omega)];simp only[Q8 hi,ab,dh,aq (show¬(4294967296:Nat)=0 by omega)];refine congrArg some (congrArg (l.set i) ?_);simp only[Zy];have e:Int.tmod (ao (ao (l[i].2.1%4294967296+((body p).length:Int))-mi l[i] p)) 4294967296=(l[i].2.1+((body p).length:Int)-mi l[i] p)%4294967296:=by rw[wrap64 (n:=l[i].2.1%4294967296+((body p).length:Int)) (by omega) (by omega),wrap64 (by omega) (by omega),dn (by omega)];omega
   rw[e];rw[ae hq];rfl
theorem Kb {l:List Stream}{p:de}{n:Nat}(h:bw n (.sl bg) l):bw (n+322) (.sl bg) (uU l p):=by
 have h':bw (n+322) (.sl bg) l:=h.mono (by omega);unfold uU;cases hs:ir p with|false=>exact h'|true=>?_
 have hb:=EN hs;have hw:=bu ((body p).length:Int);have hu:(udp p).length≤322:=by simp only[udp,ak];omega
 simp only[al,af];have app:∀x:Stream,x.2.2.1.length≤n+322→bw (n+322) (.sl bg) (l++[x]):=by intro x hx;refine⟨?_,λy hy=>?_⟩;have:l.length≤n:=h.1;simp only[ak,eQ];omega;rcases ar.1 hy with g|g;exact h'.2 y g;rw[ed.1 g];exact⟨⟨trivial,trivial,trivial,trivial,trivial⟩,trivial,hx,trivial⟩
 have put:∀(i:Nat)(x:Stream),x.2.2.1.length≤n+322→bw (n+322) (.sl bg) (l.set i x):=by intro i x hx;refine⟨?_,λy hy=>?_⟩;show(l.set i x).length≤_;rw[aL];exact h'.1;rcases List.mem_or_eq_of_mem_set hy with g|rfl;exact h'.2 y g;exact⟨⟨trivial,trivial,trivial,trivial,trivial⟩,trivial,hx,trivial⟩
 split;cases p.2.2.2.2.2.2.2.2.1==17 with|true=>exact app _ (show(udp p).length≤_ by omega)|false=>cases tA p 2 with|true=>exact app _ (dv _)|false=>exact h'
 rename_i i hf;obtain⟨hi,_⟩:=List.findIdx?_eq_some_iff_getElem.1 hf;have hd:(l[i].2.2.1).length≤n:=(h.2 _ (aW hi)).2.2.1;simp only[cD hi];cases p.2.2.2.2.2.2.2.2.1==17 with
 |true=>exact put _ _ (by simp only[ak];omega)
 |false=>
  cases tA p 2 with|true=>exact h'|false=>?_
  cases l[i].2.2.2||tA p 4 with|true=>exact h'|false=>?_
  cases decide (mi l[i] p≤((body p).length:Int))with|false=>exact h'|true=>exact put _ _ (by simp only[Zy,ak,aV];omega)
theorem Qu (p:bZ)(i:Int):uS p i= -1∨(0≤uS p i∧uS p i≤200000):=by
 unfold uS;cases hp:fC p with|false=>exact .inl rfl|true=>?_
 cases hi:cq i 0 (p.2.2.1-1)with|false=>exact .inl rfl|true=>?_
 have h:=Ev hp;have h2:=cv.1 hi;have h3:0≤i*p.2.1:=Int.mul_nonneg h2.1 (by omega);have h4:i*p.2.1≤16*512:=Int.mul_le_mul (by omega) (by omega) (by omega) (by omega);simp only[al,bI,af];exact .inr (by omega)
def Sn (l:List aA)(m:List Bytes)(d a n:Int):Bool:=(pV l m d a n).2&&((DZ (pV l m d a n).1).2==0)
theorem YE {l:List aA}{m:List Bytes}{d n:Int}:Sn l m d (-1) n=false:=by
 unfold Sn pV kh;cases ei l&&(eL m&&cq n 0 4096)with|false=>rfl|true=>?_
 simp only[ah];cases n==0 with|true=>simp only[ah,List.flatMap_nil];rfl|false=>rfl
def xd (l:List aA)(m:List Bytes)(d:Int)(s:List Stream×aZ×bZ):List Stream×aZ×bZ:=
 ((bif Sn l m d (uS s.2.2 (ox l m d s.2.1.2.2.1).1.1) (ox l m d s.2.1.2.2.1).1.2.1 then uU s.1 (DZ (pV l m d (uS s.2.2 (ox l m d s.2.1.2.2.1).1.1) (ox l m d s.2.1.2.2.1).1.2.1).1).1 else s.1),
   (s.2.1.1,s.2.1.2.1,(ox l m d s.2.1.2.2.1).2.1,s.2.1.2.2.2),(HA s.2.2 [(ox l m d s.2.1.2.2.1).1.1]).1)
def fI (l:List aA)(m:List Bytes)(d:Int):Nat→List Stream×aZ×bZ→Nat×(List Stream×aZ×bZ)
 |0,s=>(0,s)
 |k+1,s=>bif !(ox l m d s.2.1.2.2.1).2.2 then(0,s) else((fI l m d k (xd l m d s)).1+1,(fI l m d k (xd l m d s)).2)
structure za (n:Nat) (s:List Stream×aZ×bZ):Prop where
 st:bw n (.sl bg) s.1
 pl:s.2.2.2.2.2.length≤n
theorem Uy (p:bZ)(l:List Int):(HA p l).1.2.2.2.length≤p.2.2.2.length+l.length:=by unfold HA;cases zn p l with|false=>show p.2.2.2.length≤_;omega|true=>simp[KK]
theorem zJ {l:List aA}{m:List Bytes}{d:Int}{s:List Stream×aZ×bZ}{n:Nat}(h:za n s):za (n+322) (xd l m d s):=by
 refine⟨?_,?_⟩;unfold xd;cases Sn l m d (uS s.2.2 (ox l m d s.2.1.2.2.1).1.1) (ox l m d s.2.1.2.2.1).1.2.1 with|false=>exact h.st.mono (by omega)|true=>exact Kb h.st
 have:=Uy s.2.2 [(ox l m d s.2.1.2.2.1).1.1];have h2:=h.pl;show(HA s.2.2 [(ox l m d s.2.1.2.2.1).1.1]).1.2.2.2.length≤_;simp only[eQ]at this;omega
theorem Ce {R:Type}(K:List Stream→Int→aZ→bZ→Option R)(l:List aA)(m:List Bytes)(d:Int)(N:Nat)(hN:N≤1000)(B1:List Bytes)(B2:aZ)(B3:bZ)(hl:l.length≤1000000000)(hm:m.length≤1000000000):∀(k i:Nat)(s:List Stream×aZ×bZ)(f:Nat),i+k=N→k<f→za (500000000+322*i) s→
 aJ (iH K l d (N:Int) B1 B2 B3 m) f (s.1,(i:Int),s.2.1,s.2.2)=K (fI l m d k s).2.1 ((i+(fI l m d k s).1:Nat):Int) (fI l m d k s).2.2.1 (fI l m d k s).2.2.2
 |k,i,s,0,_,hf,_=>by omega
 |0,i,s,f+1,hi,hf,z=>by rw[aJ];simp only[iH];rw[ae (by omega),af];rfl
 |k+1,i,s,f+1,hi,hf,z=>by have hst:bw 900000000 (.sl bg) s.1:=z.st.mono (by omega);have hpl:s.2.2.2.2.2.length≤900000000:=aH z.pl (by omega);rw[aJ];simp only[iH];rw[ai (by omega)];simp only[ah,UX l m d _ hl hm,ab,fI];cases hnx:(ox l m d s.2.1.2.2.1).2.2 with|false=>rfl|true=>have key:=Ce K l m d N hN B1 B2 B3 hl hm k (i+1) (xd l m d s) f (by omega) (by omega) ((zJ z).st.mono (by omega)|>λa=>⟨a,aH (zJ z).pl (by omega)⟩);rw[show i+1+(fI l m d k (xd l m d s)).1=i+((fI l m d k (xd l m d s)).1+1) by omega]at key;simp only[al,af];rw[←key];unfold xd;generalize ox l m d s.2.1.2.2.1=c;have ha:=Qu s.2.2 c.1.1;have hd:=zh l m d (uS s.2.2 c.1.1) c.1.2.1;simp only[ME _ _ (show s.2.2.2.2.2.length≤1000000000 by omega),zw l m d _ c.1.2.1 hl hm (show uS s.2.2 c.1.1≤9223372036854775807 by omega),ab,Sy _ (aH hd (by omega)),Kn _ _ hst,MH s.2.2 [c.1.1] (show s.2.2.2.2.2.length+1≤1000000000 by omega)];rw[wrap64 (n:=(i:Int)+1) (by omega) (by omega),show((i+1:Nat):Int)=(i:Int)+1 by omega];unfold Sn;cases (pV l m d (uS s.2.2 c.1.1) c.1.2.1).2<;>cases (DZ (pV l m d (uS s.2.2 c.1.1) c.1.2.1).1).2==0<;>rfl
theorem CF {R:Type}(K:List Stream→Int→aZ→bZ→Option R)(l:List aA)(m:List Bytes)(d:Int)(N:Nat)(hN:N≤1000)(B1:List Bytes)(B2:aZ)(B3:bZ)(hl:l.length≤1000000000)(hm:m.length≤1000000000):∀(k i:Nat)(s:List Stream×aZ×bZ)(f:Nat),i+k=N→k<f→za (500000000+322*i) s→
 aJ (iU K l d (N:Int) m B1 B2 B3) f (s.1,(i:Int),s.2.1,s.2.2)=K (fI l m d k s).2.1 ((i+(fI l m d k s).1:Nat):Int) (fI l m d k s).2.2.1 (fI l m d k s).2.2.2
 |k,i,s,0,_,hf,_=>by omega
 |0,i,s,f+1,hi,hf,z=>by rw[aJ];simp only[iU];rw[ae (by omega),af];rfl
 |k+1,i,s,f+1,hi,hf,z=>by have hst:bw 900000000 (.sl bg) s.1:=z.st.mono (by omega);have hpl:s.2.2.2.2.2.length≤900000000:=aH z.pl (by omega);rw[aJ];simp only[iU];rw[ai (by omega)];simp only[ah,V1 l m d _ hl hm,ab,fI];cases hnx:(ox l m d s.2.1.2.2.1).2.2 with|false=>rfl|true=>have key:=CF K l m d N hN B1 B2 B3 hl hm k (i+1) (xd l m d s) f (by omega) (by omega) ((zJ z).st.mono (by omega)|>λa=>⟨a,aH (zJ z).pl (by omega)⟩);rw[show i+1+(fI l m d k (xd l m d s)).1=i+((fI l m d k (xd l m d s)).1+1) by omega]at key;simp only[al,af];rw[←key];unfold xd;generalize ox l m d s.2.1.2.2.1=c;have ha:=Qu s.2.2 c.1.1;have hd:=zh l m d (uS s.2.2 c.1.1) c.1.2.1;simp only[NF _ _ (show s.2.2.2.2.2.length≤1000000000 by omega),wy l m d _ c.1.2.1 hl hm (show uS s.2.2 c.1.1≤9223372036854775807 by omega),ab,Tr _ (aH hd (by omega)),K1 _ _ hst,NI s.2.2 [c.1.1] (show s.2.2.2.2.2.length+1≤1000000000 by omega)];rw[wrap64 (n:=(i:Int)+1) (by omega) (by omega),show((i+1:Nat):Int)=(i:Int)+1 by omega];rcases ha with ha|ha;rw[ha,YE];rfl;rw[ai (show uS s.2.2 c.1.1≥0 by omega)];unfold Sn;cases (pV l m d (uS s.2.2 c.1.1) c.1.2.1).2<;>cases (DZ (pV l m d (uS s.2.2 c.1.1) c.1.2.1).1).2==0<;>rfl
theorem Cv {l:List aA}{m:List Bytes}{d:Int}:∀(k:Nat){s:List Stream×aZ×bZ}{n:Nat},za n s→za (n+322*k) (fI l m d k s).2
 |0,s,n,h=>h
 |k+1,s,n,h=>by rw[fI];cases (ox l m d s.2.1.2.2.1).2.2 with|false=>exact⟨h.st.mono (by omega),aH h.pl (by omega)⟩|true=>have:=Cv (l:=l) (m:=m) (d:=d) k (zJ (l:=l) (m:=m) (d:=d) h);exact⟨this.st.mono (by omega),aH this.pl (by omega)⟩
def kg (l:List aA)(m:List Bytes)(d:Int)(rx:aZ)(pl:bZ)(st:List Stream)(n:Int):List Bytes×aZ×bZ×List Stream×Int:=
 bif !HP rx||(!fC pl|| !cq n 0 1000) then(m,rx,pl,st,0) else
 ((vP l m d (fI l m d n.toNat (st,rx,pl)).2.2.1.1 (fI l m d n.toNat (st,rx,pl)).2.2.2).1,
   ((vP l m d (fI l m d n.toNat (st,rx,pl)).2.2.1.1 (fI l m d n.toNat (st,rx,pl)).2.2.2).2.1,(fI l m d n.toNat (st,rx,pl)).2.2.1.2),
   (vP l m d (fI l m d n.toNat (st,rx,pl)).2.2.1.1 (fI l m d n.toNat (st,rx,pl)).2.2.2).2.2.1,(fI l m d n.toNat (st,rx,pl)).2.1,((fI l m d n.toNat (st,rx,pl)).1:Int))
theorem UY (l:List aA)(m:List Bytes)(d:Int)(rx:aZ)(pl:bZ)(st:List Stream)(n:Int)(hl:l.length≤1000000000)(hm:m.length≤1000000000)(hp:pl.2.2.2.length≤500000000)(hs:bw 500000000 (.sl bg) st):qd l m d rx pl st n=some (kg l m d rx pl st n):=by
 have hfu:=cC;have hsl:st.length≤500000000:=hs.1;unfold qd kg;simp only[gS m (show m.length≤1073741824 by omega),s4 pl (show pl.2.2.2.length≤1000000000 by omega),tC st (by omega),O9,u1 pl (show pl.2.2.2.length≤1000000000 by omega),cz,ab];cases HP rx with|false=>rfl|true=>?_
 cases fC pl with|false=>rfl|true=>?_
 cases hn:cq n 0 1000 with|false=>rfl|true=>?_
 have h:=cv.1 hn;obtain⟨n,rfl⟩:=aO h.1;simp only[al,af,ab,bI,ax];have z:za (500000000+322*0) (st,rx,pl):=⟨hs,hp⟩
 have hz:=Cv (l:=l) (m:=m) (d:=d) n z;refine(Ce _ l m d n (by omega) _ _ _ hl hm n 0 (st,rx,pl) fuel (by omega) (by omega) z).trans ?_;rw[bJ];simp only[UO l m d _ _ hl hm (show(fI l m d n (st,rx,pl)).2.2.2.2.2.2.length≤1000000000 from aH hz.pl (by omega)),ab]
theorem V3 (l:List aA)(m:List Bytes)(d:Int)(rx:aZ)(pl:bZ)(st:List Stream)(n:Int)(hl:l.length≤1000000000)(hm:m.length≤1000000000)(hp:pl.2.2.2.length≤500000000)(hs:bw 500000000 (.sl bg) st):mT l m d rx pl st n=some (kg l m d rx pl st n):=by
 have hfu:=cC;have hsl:st.length≤500000000:=hs.1;unfold mT kg;rw[dw (by omega)];simp only[bc,u7 pl (show pl.2.2.2.length≤1000000000 by omega),kM m (show m.length≤1073741824 by omega),P0,vF pl (show pl.2.2.2.length≤1000000000 by omega),cc,ab];cases HP rx with|false=>rfl|true=>?_
 cases fC pl with|false=>rfl|true=>?_
 cases hn:cq n 0 1000 with|false=>rfl|true=>?_
 have h:=cv.1 hn;obtain⟨n,rfl⟩:=aO h.1;simp only[al,af,ab,bI,ax];have z:za (500000000+322*0) (st,rx,pl):=⟨hs,hp⟩
 have hz:=Cv (l:=l) (m:=m) (d:=d) n z;refine(CF _ l m d n (by omega) _ _ _ hl hm n 0 (st,rx,pl) fuel (by omega) (by omega) z).trans ?_;rw[bJ];simp only[VT l m d _ _ hl hm (show(fI l m d n (st,rx,pl)).2.2.2.2.2.2.length≤1000000000 from aH hz.pl (by omega)),ab]
theorem w7 {n:Nat}{t:CT}{l:List t.D}{i:Nat}{x:t.D}(z:bw n (.sl t) l)(hx:bw n t x):bw n (.sl t) (l.set i x):=by refine⟨?_,λy hy=>?_⟩;show(l.set i x).length≤n;rw[aL];exact z.1;rcases List.mem_or_eq_of_mem_set hy with h|h;exact z.2 y h;rw[h];exact hx
theorem Td {n:Nat}(hn:128≤n){m:List Bytes}(h:yg m):bw n (.sl .str) m:=⟨aH h.2 (by omega),λx hx=>aH (dF (h.1 x hx)) hn⟩
theorem Og {n:Nat}(hn:128≤n){m:List Bytes}(z:bw n (.sl .str) m)(a:Int)(s:Bytes):bw n (.sl .str) (rH m a s).1:=by
 unfold rH;cases hw:dX m a (s.length:Int)with|false=>exact z|true=>?_
 simp only[dX,aj,aP]at hw;exact Td hn (yB s.length (Aq.1 hw.1) (by omega)).1
theorem Nq {n:Nat}(hn:128≤n):∀(q:List (Int×Int)){m:List Bytes}(s:Bytes),bw n (.sl .str) m→bw n (.sl .str) (KO q m s)
 |[],m,s,z=>z
 |p::q,m,s,z=>Nq hn q _ (Og hn z _ _)
theorem GO {n:Nat}(hn:128≤n){m:List Bytes}(z:bw n (.sl .str) m)(l:List aA)(d a:Int)(s:Bytes)(w:Bool):bw n (.sl .str) (mP l m d a s w).1:=by unfold mP;cases (kh l m d a (s.length:Int) w).2 with|false=>exact z|true=>exact Nq hn _ _ z
theorem KP {n:Nat}(hn:128≤n){m:List Bytes}(z:bw n (.sl .str) m)(l:List aA)(d:Int)(r:Int×Int×Int×Int)(s:Bytes):bw n (.sl .str) (da l m d r s).1:=by
 unfold da;cases (rK r==0)||((s.length:Int) !=16)with|true=>exact z|false=>?_
 cases (mP l m d (mR r r.2.2.2) s true).2 with|false=>exact z|true=>exact GO hn z ..
theorem Ig {n:Nat}(hn:128≤n)(l:List aA)(d:Int)(p:bZ):∀(q:List Int){m:List Bytes}(r:Int×Int×Int×Int),bw n (.sl .str) m→bw n (.sl .str) (kZ l d p q m r).2.1
 |[],m,r,z=>z
 |b::q,m,r,z=>by rw[kZ];cases (da l m d r (descOf p b)).2.2 with|false=>exact z|true=>exact Ig hn l d p q _ (KP hn z ..)
theorem Sl {n:Nat}(hn:128≤n){m:List Bytes}(z:bw n (.sl .str) m)(l:List aA)(d:Int)(r:Int×Int×Int×Int)(p:bZ):bw n (.sl .str) (vP l m d r p).1:=by unfold vP;cases !fW r|| !fC p with|true=>exact z|false=>exact Ig hn _ _ _ _ _ z
theorem YC (l:List aA)(m:List Bytes)(d:Int)(r:Int×Int×Int×Int)(p:bZ):(vP l m d r p).1.length=m.length:=by unfold vP;cases !fW r|| !fC p with|true=>rfl|false=>exact(C4 ..).1
theorem OS (l:List aA)(m:List Bytes)(d:Int)(r:Int×Int×Int×Int)(p:bZ):(vP l m d r p).2.2.1.2.2.2.length≤p.2.2.2.length:=by unfold vP;cases !fW r|| !fC p with|true=>exact aM _|false=>show(p.2.2.2.drop _).length≤_;rw[aV];omega
theorem Nk (l:List aA)(m:List Bytes)(d:Int):∀(k:Nat)(s:List Stream×aZ×bZ),(fI l m d k s).2.2.1.2.2.2=s.2.1.2.2.2∧(fI l m d k s).1≤k
 |0,s=>⟨rfl,aM _⟩
 |k+1,s=>by rw[fI];cases (ox l m d s.2.1.2.2.1).2.2 with|false=>exact⟨rfl,dv _⟩|true=>have:=Nk l m d k (xd l m d s);simp only[al,af];exact⟨this.1,by omega⟩
theorem Tg {n:Nat}(hn:128≤n){l:List aA}{m:List Bytes}{d:Int}{rx:aZ}{pl:bZ}{st:List Stream}(c:Int)(zm:bw n (.sl .str) m)(zr:bw n bk rx)(zp:bw n cE pl)(zs:bw n (.sl bg) st): bw n (.sl .str) (kg l m d rx pl st c).1∧bw n bk (kg l m d rx pl st c).2.1∧bw (n+322000) cE (kg l m d rx pl st c).2.2.1∧bw (n+322000) (.sl bg) (kg l m d rx pl st c).2.2.2.1∧0≤(kg l m d rx pl st c).2.2.2.2∧(kg l m d rx pl st c).2.2.2.2≤1000:=by
 unfold kg;cases hc: !HP rx||(!fC pl|| !cq c 0 1000)with
 |true=>exact⟨zm,zr,zp.mono (by omega),zs.mono (by omega),Int.le_refl _,by show(0:Int)≤1000;omega⟩
 |false=>
  have hi:cq c 0 1000=true:=by cases h:cq c 0 1000 with|true=>rfl|false=>rw[h]at hc;simp at hc
  have h:=cv.1 hi;have z:=Cv (l:=l) (m:=m) (d:=d) c.toNat (s:=(st,rx,pl)) (n:=n) ⟨zs,zp.2.2.2.1⟩;have hx:=Nk l m d c.toNat (st,rx,pl);refine⟨Sl hn zm ..,⟨?_,?_,?_,?_⟩,⟨trivial,trivial,trivial,?_,λ_ _=>trivial⟩,z.st.mono (by omega),by show(0:Int)≤((fI l m d c.toNat (st,rx,pl)).1:Int);omega,by show((fI l m d c.toNat (st,rx,pl)).1:Int)≤1000;omega⟩;exact⟨trivial,trivial,trivial,trivial⟩;exact⟨trivial,trivial,trivial⟩;exact⟨trivial,trivial,trivial⟩;have e:=congrArg (λq=>bw n bk (rx.1,rx.2.1,rx.2.2.1,q)) hx.1;exact(e.mpr zr).2.2.2;have:=OS l m d (fI l m d c.toNat (st,rx,pl)).2.2.1.1 (fI l m d c.toNat (st,rx,pl)).2.2.2;have h2:=z.pl;show(vP l m d (fI l m d c.toNat (st,rx,pl)).2.2.1.1 (fI l m d c.toNat (st,rx,pl)).2.2.2).2.2.1.2.2.2.length≤_;omega
def cl (l:List aA)(m:List Bytes)(d:Int)(r:Int×Int×Int×Int):Bytes×(Int×Int×Int×Int)×Bool:=
 bif !fW r||(lf r==0) then([],r,false) else
 bif !(pV l m d (mR r r.2.2.1) 16).2 then([],r,false) else
 ((pV l m d (mR r r.2.2.1) 16).1,(r.1,r.2.1,Int.tmod (r.2.2.1+1) (2*r.2.1),r.2.2.2),true)
theorem CI (l:List aA)(m:List Bytes)(d:Int)(r:Int×Int×Int×Int)(hl:l.length≤1000000000)(hm:m.length≤1000000000):oB l m d r=some (cl l m d r):=by
 have hA:=xj r r.2.2.1;unfold oB cl;simp only[vG,CJ,ab,DG,wy l m d _ 16 hl hm (show mR r r.2.2.1≤9223372036854775807 by omega)];cases hb:fW r with|false=>rfl|true=>?_
 have h:=wv hb;cases lf r==0 with|true=>rfl|false=>?_
 simp only[al,af,ab,bI];cases (pV l m d (mR r r.2.2.1) 16).2 with|false=>rfl|true=>?_
 simp only[al,af];rw[wrap64 (n:=2*r.2.1) (by omega) (by omega),aq (by omega),wrap64 (n:=r.2.2.1+1) (by omega) (by omega)]
theorem Kv (l:List aA)(m:List Bytes)(d:Int)(r:Int×Int×Int×Int)(hl:l.length≤1000000000)(hm:m.length≤1000000000):sq l m d r=some (cl l m d r):=by have hA:=xj r r.2.2.1;rw[←CI l m d r hl hm];unfold sq oB;simp only[vG,CJ,DG,w3,Gn,It,ab,zw l m d _ 16 hl hm (show mR r r.2.2.1≤9223372036854775807 by omega),wy l m d _ 16 hl hm (show mR r r.2.2.1≤9223372036854775807 by omega)]
theorem Bc (l:List aA)(m:List Bytes)(d:Int)(r:Int×Int×Int×Int):(cl l m d r).1.length≤100000000:=by
 unfold cl;cases !fW r||(lf r==0)with|true=>exact dv _|false=>?_
 cases (pV l m d (mR r r.2.2.1) 16).2 with|false=>exact dv _|true=>exact zh ..
def ZO:Int×Int×Int×Int×Int×Int:=(0,0,0,0,0,0)
def zf (s:Bytes):Int×Int×Int×Int×Int×Int:=((bX s 0:Int),(bX s 1:Int),cu s 2,dK s 4,cu s 8,cu s 10)
def dT (s:Bytes):(Int×Int×Int×Int×Int×Int)×Bool:=
 bif ((s.length:Int) !=16) then(ZO,false) else bif !(Ec (zf s)==s) then(ZO,false) else(zf s,true)
theorem NG (s:Bytes)(h:s.length≤1000000000):lg s=some (dT s):=by
 unfold lg dT;cases hn:(s.length:Int) !=16 with|true=>rfl|false=>?_
 have hl:s.length=16:=by
  have:((s.length:Int)==16)=true:=by simpa using hn
  have:=of_decide_eq_true this;omega
 have b0:=iy (s[0]'(by omega));have b1:=iy (s[1]'(by omega));have i0:idx s 0=some (s[0]'(by omega)):=aU (i:=0) (by omega);have i1:idx s 1=some (s[1]'(by omega)):=aU (i:=1) (by omega);have e:(((s[0]'(by omega)).toNat:Int),((s[1]'(by omega)).toNat:Int),cu s 2,dK s 4,cu s 8,cu s 10)=zf s:=by simp only[zf,bX,cD (show 0<s.length by omega),cD (show 1<s.length by omega)]
 simp only[af,i0,i1,ab,pO s _ h,rT s _ h];rw[fE (n:=(s[0]'(by omega)).toNat) (by omega),fE (n:=(s[1]'(by omega)).toNat) (by omega),e,K2,ab];cases Ec (zf s)==s<;>rfl
theorem UM (s:Bytes)(h:s.length≤1000000000):oG s=some (dT s):=by rw[←NG s h];unfold oG lg;simp only[pO s _ h,rT s _ h,wZ s _ h,uM s _ h,Rd,K2]
theorem F0 {s:Bytes}(h:(dT s).2=true):zg (dT s).1=true:=by
 unfold dT at h⊢;cases hn:(s.length:Int) !=16 with|true=>rw[hn]at h;cases h|false=>?_
 cases he:Ec (zf s)==s with|false=>rw[hn,he]at h;cases h|true=>?_
 simp only[af,al];cases hd:zg (zf s)with
 |true=>rfl
 |false=>
  have:Ec (zf s)=[]:=by unfold Ec;rw[hd];rfl
  rw[this]at he;cases s with|nil=>simp at hn|cons x y=>cases he
def R7 (v:Vector):Bool:=bif decide (v.2.2.1≥1) then(bif decide (v.2.2.1≥v.1) then true else decide (v.2.2.2.1≥v.2.1)) else false
theorem Rc (v:Vector):w6 v=some (R7 v):=by
 unfold w6 R7;cases decide (v.2.2.1≥1)with|false=>rfl|true=>?_
 cases decide (v.2.2.1≥v.1)<;>rfl
theorem Zl (v:Vector):pP v=some (R7 v):=Rc v
def ze (v:Vector):Vector:=bif R7 v&& !v.2.2.2.2.1 then(v.1,v.2.1,v.2.2.1,v.2.2.2.1,v.2.2.2.2.1,true) else v
theorem C9 (v:Vector):kK v=some (ze v):=by
 unfold kK ze;rw[Rc,ab];cases R7 v with|false=>rfl|true=>?_
 cases v.2.2.2.2.1<;>rfl
theorem DC (v:Vector):jh v=some (ze v):=by obtain⟨a,b,c,d,e,f⟩:=v;unfold jh ze;rw[Zl,ab];cases f<;>cases R7 (a,b,c,d,e,_)<;>cases e<;>rfl
def upM (n:Int):Int:=if 1000000<ao (n+1) then 1000000 else ao (n+1)
theorem RP (n:Int):(if ao (n+1)<1000000 then ao (n+1) else 1000000)=upM n:=by unfold upM;split<;>split<;>omega
def evV (v:Vector):Vector:=bif gQ v then ze (v.1,v.2.1,upM v.2.2.1,v.2.2.2) else v
theorem Sp (v:Vector):sc v=some (evV v):=by unfold sc evV;rw[u3,ab,C9,ab];cases gQ v<;>rfl
theorem Tn (v:Vector):sK v=some (evV v):=by unfold sK evV;rw[rU,ab,RP,DC,ab];cases gQ v<;>rfl
def NZ (v:Vector):Vector:=bif gQ v then(bif decide (v.2.2.1>0) then ze (v.1,v.2.1,v.2.2.1,upM v.2.2.2.1,v.2.2.2.2) else ze v) else v
theorem SE (v:Vector):oM v=some (NZ v):=by
 unfold oM NZ;simp only[u3,ab,C9];cases gQ v with|false=>rfl|true=>?_
 cases decide (v.2.2.1>0)<;>rfl
theorem Tv (v:Vector):o3 v=some (NZ v):=by
 unfold o3 NZ;simp only[rU,ab,RP,DC];cases gQ v with|false=>rfl|true=>?_
 cases decide (v.2.2.1>0)<;>rfl
def yX (v:Vector):Vector×Bool:=bif gQ v&&v.2.2.2.2.2 then((v.1,v.2.1,0,0,true,false),true) else(v,false)
theorem SC (v:Vector):kJ v=some (yX v):=by
 unfold kJ yX;rw[u3,ab];cases gQ v with|false=>rfl|true=>?_
 cases v.2.2.2.2.2<;>rfl
theorem Tu (v:Vector):kW v=some (yX v):=by
 unfold kW yX;rw[rU,ab];cases gQ v with|false=>rfl|true=>?_
 cases v.2.2.2.2.2<;>rfl
def CR (v:Vector):Vector:=bif gQ v then ze (v.1,v.2.1,v.2.2.1,v.2.2.2.1,false,v.2.2.2.2.2) else v
theorem Gm (v:Vector):s5 v=some (CR v):=by unfold s5 CR;rw[u3,ab,C9,ab];cases gQ v<;>rfl
theorem G4 (v:Vector):tq v=some (CR v):=by unfold tq CR;rw[rU,ab,DC,ab];cases gQ v<;>rfl
structure ik (k:Nat) (a b:Host):Prop where
 mem:b.1.length=a.1.length
 maps:b.2.1=a.2.1
 tx:b.2.2.1=a.2.2.1
 rx:b.2.2.2.1.length=a.2.2.2.1.length
 rxs:∀j,k≤j→b.2.2.2.1[j]?=a.2.2.2.1[j]?
 pl:b.2.2.2.2.1.length=a.2.2.2.2.1.length
 vec:b.2.2.2.2.2.1.length=a.2.2.2.2.2.1.length
 vecs:∀j,k≤j→b.2.2.2.2.2.1[j]?=a.2.2.2.2.2.1[j]?
 pol:b.2.2.2.2.2.2.1.length=a.2.2.2.2.2.2.1.length
 flt:b.2.2.2.2.2.2.2.1=a.2.2.2.2.2.2.2.1
 ste:b.2.2.2.2.2.2.2.2.1=a.2.2.2.2.2.2.2.2.1
theorem ik.refl (k:Nat)(a:Host):ik k a a:=⟨rfl,rfl,rfl,rfl,λ_ _=>rfl,rfl,rfl,λ_ _=>rfl,rfl,rfl,rfl⟩
theorem ik.trans {k:Nat}{a b c:Host}(h:ik k a b)(g:ik k b c):ik k a c:=⟨g.mem.trans h.mem,g.maps.trans h.maps,g.tx.trans h.tx,g.rx.trans h.rx,λj hj=>(g.rxs j hj).trans (h.rxs j hj),g.pl.trans h.pl,g.vec.trans h.vec,λj hj=>(g.vecs j hj).trans (h.vecs j hj),g.pol.trans h.pol,g.flt.trans h.flt,g.ste.trans h.ste⟩
theorem ik.up {k m:Nat}{a b:Host}(h:ik k a b)(hk:k≤m):ik m a b:=⟨h.mem,h.maps,h.tx,h.rx,λj hj=>h.rxs j (by omega),h.pl,h.vec,λj hj=>h.vecs j (by omega),h.pol,h.flt,h.ste⟩
def eY (g:Nat→Host→Host):Nat→Host→Host
 |0,h=>h
 |k+1,h=>g k (eY g k h)
theorem nN {g:Nat→Host→Host}(hg:∀k h,ik (k+1) h (g k h))(h:Host):∀k,ik k h (eY g k h)
 |0=>ik.refl 0 h
 |k+1=>((nN hg h k).up (by omega)).trans (hg k _)
theorem vI {g:Nat→Host→Host}{d n:Nat}(hn:1000≤n)(hg:∀k h m,1000≤m→bw m bL h→bw (m+d) bL (g k h)){h:Host}(z:bw n bL h):∀k,bw (n+d*k) bL (eY g k h)
 |0=>z
 |k+1=>(hg k _ _ (by omega) (vI hn hg z k)).mono (by rw[Nat.mul_add];omega)
def rG (i:Nat)(h:Host):Host:=
 match h.2.2.2.2.2.1[i]? with
 |some v=>(h.1,h.2.1,h.2.2.1,h.2.2.2.1,h.2.2.2.2.1,h.2.2.2.2.2.1.set i (NZ v),h.2.2.2.2.2.2)
 |none=>h
theorem yz (i:Nat)(h:Host):ik (i+1) h (rG i h):=by unfold rG;cases h.2.2.2.2.2.1[i]? with|none=>exact ik.refl _ _|some v=>exact⟨rfl,rfl,rfl,rfl,λ_ _=>rfl,rfl,aL ..,λj hj=>List.getElem?_set_ne (by omega),rfl,rfl,rfl⟩
theorem EG {n:Nat}{l:List Vector}{i:Nat}{v:Vector}(z:bw n (.sl bN) l):bw n (.sl bN) (l.set i v):=w7 z ⟨trivial,trivial,trivial,trivial,trivial,trivial⟩
theorem TD (i:Nat)(h:Host)(n:Nat)(hn:1000≤n)(z:bw n bL h):bw (n+0) bL (rG i h):=by unfold rG;cases h.2.2.2.2.2.1[i]? with|none=>exact z|some v=>exact⟨z.1,z.2.1,z.2.2.1,z.2.2.2.1,z.2.2.2.2.1,EG z.2.2.2.2.2.1,z.2.2.2.2.2.2⟩
def zX (h:Host):Host:=bif gn h then eY rG h.2.2.2.2.2.1.length h else h
theorem X7 {n:Nat}(hn:1000≤n){h:Host}(z:bw n bL h):bw n bL (zX h)∧(zX h).2.2.1=h.2.2.1:=by unfold zX;cases gn h with|false=>exact⟨z,rfl⟩|true=>exact⟨(vI hn TD z _).mono (by omega),(nN yz h _).tx⟩
theorem U4 (h:Host)(k:CX h)(z:bw 1000000000 bL h):sk h=some (zX h):=by
 have hfu:=cC;unfold sk zX;rw[tV h z,ab,Cc h k,ab];cases hb:gn h with|false=>rfl|true=>?_
 have hv:h.2.2.2.2.2.1.length≤1000000000:=z.2.2.2.2.2.1.1;simp only[al,af,ah];refine cS (λi=>((i:Int),eY rG i h)) h.2.2.2.2.2.1.length (by omega) (λi nx hi=>?_) (λnx=>?_);have kk:=nN yz h i;have i1:i<(eY rG i h).2.2.2.2.2.1.length:=by rw[kk.vec];exact hi
 rw[show eY rG (i+1) h=rG i (eY rG i h) from rfl];generalize eY rG i h=s at i1⊢;simp only[nb,rG];rw[ai (by omega),ah,List.getElem?_eq_getElem i1];simp only[aU i1,ab,SE,ax];rw[wrap64 (by omega) (by omega)];rfl;simp only[nb];rw[ae (by omega),af]
theorem V8 (h:Host)(k:CX h)(z:bw 1000000000 bL h):sS h=some (zX h):=by
 have hfu:=cC;unfold sS zX;rw[uk h z,ab];have hv:h.2.2.2.2.2.1.length≤1000000000:=z.2.2.2.2.2.1.1;cases hb:gn h with
 |false=>
  obtain⟨g,hg⟩:∃g,fuel=g+1:=⟨fuel-1,by omega⟩
  rw[hg,aJ,kn,xl h k,hb];cases decide ((0:Int)<(h.2.2.2.2.2.1.length:Int))<;>rfl
 |true=>
  simp only[ah];refine cS (λi=>((i:Int),eY rG i h)) h.2.2.2.2.2.1.length (by omega) (λi nx hi=>?_) (λnx=>?_);have kk:=nN yz h i;have i1:i<(eY rG i h).2.2.2.2.2.1.length:=by rw[kk.vec];exact hi
  have e1:=kk.vecs i (aM _);rw[List.getElem?_eq_getElem i1,List.getElem?_eq_getElem hi]at e1;have e2:=cp e1;rw[show eY rG (i+1) h=rG i (eY rG i h) from rfl];generalize eY rG i h=s at i1 e2⊢;simp only[kn,rG,xl h k,hb];rw[ai (by omega),ah,List.getElem?_eq_getElem i1];simp only[aU i1,aU hi,ab,Tv,ax,ah,e2];rw[wrap64 (by omega) (by omega)];rfl;simp only[kn];rw[ae (by omega),af,ab,af]
def uT (x:Int×Int×Int×Int×Int):Bool:=cq x.1 0 65535&&(cq x.2.1 0 65535&&(cq x.2.2.1 0 65535&&(cq x.2.2.2.1 0 65535&&cq x.2.2.2.2 0 4294967295)))
theorem Da (x:Int×Int×Int×Int×Int):iE x=some (uT x):=by simp only[iE,cz,ab,ba,cF,uT]
theorem To (x:Int×Int×Int×Int×Int):l7 x=some (uT x):=Da x
def Hx (x:Int×Int×Int×Int×Int)(p:Int):Bytes:=bif uT x&&cq p 0 1 then((((cZ x.1++cZ x.2.1)++cZ x.2.2.1)++cZ x.2.2.2.1)++ez x.2.2.2.2)++ez p else []
theorem MF (x:Int×Int×Int×Int×Int)(p:Int):ie x p=some (Hx x p):=by
 have h1:=bu x.1;have h2:=bu x.2.1;have h3:=bu x.2.2.1;have h4:=bu x.2.2.2.1;have h5:=cy x.2.2.2.2;have h6:=cy p;unfold ie Hx;simp only[Da,cz,ab,mm,po];cases uT x with|false=>rfl|true=>?_
 cases cq p 0 1 with|false=>rfl|true=>?_
 simp only[al,af,ab,dY,ah];rw[aK (by omega),aK (by simp only[ak];omega),aK (by simp only[ak];omega),aK (by simp only[ak];omega),aK (by simp only[ak];omega)]
theorem VS (x:Int×Int×Int×Int×Int)(p:Int):lO x p=some (Hx x p):=MF x p
def xe (l:List aA)(m:List Bytes)(d:Int)(q:Int×Int×Int)(x:Int×Int×Int×Int×Int):List Bytes×(Int×Int×Int)×Bool:=
 bif !fj q|| !uT x then(m,q,false) else
 bif !(mP l m d (gL q) (Hx x (rf q)) true).2 then(m,q,false) else
 ((mP l m d (gL q) (Hx x (rf q)) true).1,(q.1,q.2.1,Int.tmod (q.2.2+1) (2*q.2.1)),true)
theorem UZ (l:List aA)(m:List Bytes)(d:Int)(q:Int×Int×Int)(x:Int×Int×Int×Int×Int)(hl:l.length≤1000000000)(hm:m.length≤1000000000):kF l m d q x=some (xe l m d q x):=by
 unfold kF xe;simp only[Db,Da,ab,gS m (show m.length≤1073741824 by omega),Iq,MF];cases hq:fj q with|false=>rfl|true=>?_
 have h:=ld hq;have hs:=CB hq;cases uT x with|false=>rfl|true=>?_
 simp only[al,af,ab,bI,Iu q hq,xE l m d _ _ hl hm (show gL q≤9223372036854775807 by unfold gL;omega)];cases hp:(mP l m d (gL q) (Hx x (rf q)) true).2 with|false=>simp only[cA,ah,Dv hp]|true=>simp only[al,af];rw[wrap64 (n:=2*q.2.1) (by omega) (by omega),aq (by omega),wrap64 (n:=q.2.2+1) (by omega) (by omega)]
theorem V4 (l:List aA)(m:List Bytes)(d:Int)(q:Int×Int×Int)(x:Int×Int×Int×Int×Int)(hl:l.length≤1000000000)(hm:m.length≤1000000000):kR l m d q x=some (xe l m d q x):=by
 unfold kR xe;simp only[DF,To,ab,kM m (show m.length≤1073741824 by omega),VS];cases hq:fj q with|false=>rfl|true=>?_
 have h:=ld hq;have hs:=CB hq;cases uT x with|false=>rfl|true=>?_
 have e:ao (q.1+ao (16*Int.tmod q.2.2 q.2.1))=gL q:=by rw[wrap64 (n:=16*Int.tmod q.2.2 q.2.1) (by omega) (by omega),wrap64 (by omega) (by omega)];unfold gL;omega
 simp only[al,af,ab,bI,IW q hq,e,yo l m d _ _ hl hm (show gL q≤9223372036854775807 by unfold gL;omega)];rw[aq (by omega)];cases hp:(mP l m d (gL q) (Hx x (rf q)) true).2 with|false=>rfl|true=>simp only[al,af];rw[wrap64 (n:=2*q.2.1) (by omega) (by omega),aq (by omega),wrap64 (n:=q.2.2+1) (by omega) (by omega)]
theorem Th {n:Nat}(hn:128≤n){m:List Bytes}(z:bw n (.sl .str) m)(l:List aA)(d:Int)(q:Int×Int×Int)(x:Int×Int×Int×Int×Int):bw n (.sl .str) (xe l m d q x).1∧(xe l m d q x).1.length=m.length:=by
 unfold xe;cases !fj q|| !uT x with|true=>exact⟨z,rfl⟩|false=>?_
 cases (mP l m d (gL q) (Hx x (rf q)) true).2 with|false=>exact⟨z,rfl⟩|true=>exact⟨GO hn z ..,vA ..⟩
theorem Ze {l:List aA}{m:List Bytes}{d:Int}{q:Int×Int×Int}{x:Int×Int×Int×Int×Int}(h:fj q=true):fj (xe l m d q x).2.1=true∧(xe l m d q x).2.1.1=q.1∧(xe l m d q x).2.1.2.1=q.2.1:=by
 have hq:=ld h;unfold xe;cases !fj q|| !uT x with|true=>exact⟨h,rfl,rfl⟩|false=>?_
 cases (mP l m d (gL q) (Hx x (rf q)) true).2 with|false=>exact⟨h,rfl,rfl⟩|true=>refine⟨?_,rfl,rfl⟩;have e:=RO (a:=q.2.2+1) (b:=2*q.2.1) (by omega) (by omega);simp only[af,al,fj,aj,cv]at h⊢;refine⟨h.1,h.2.1,?_⟩;rw[As h.2.1];omega
def ji (l:List aA)(m:List Bytes)(d:Int)(q:aZ)(k:Bytes)(s:Bytes):List Bytes×(Int×Int×Int)×Bool:=
 bif !(dT s).2||(((dT s).1.1 !=3)||decide ((dT s).1.2.2.1<((fw q.2.2.2.1.1).1.length:Int))) then(m,q.2.1,false) else
 bif !(mP l m d (dT s).1.2.2.2.1 (fw q.2.2.2.1.1).1 true).2 then(m,q.2.1,false) else
 xe l (mP l m d (dT s).1.2.2.2.1 (fw q.2.2.2.1.1).1 true).1 d q.2.1 ((dT s).1.2.2.2.2.2,((fw q.2.2.2.1.1).1.length:Int),q.2.2.2.1.2.1,q.2.2.2.1.2.2,zt k (xC (nR q.2.2.2.1.1)))
theorem Ts (l:List aA)(m:List Bytes)(d:Int)(q:aZ)(k s:Bytes)(hl:l.length≤1000000000)(hm:m.length≤1000000000)(hs:s.length≤1000000000):sX l m d q s k=some (ji l m d q k s):=by
 unfold sX ji;have hok:=F0 (s:=s);simp only[NG s hs,Tq,ab,kM m (show m.length≤1073741824 by omega)];generalize dT s=x at hok⊢;cases hx:x.2 with|false=>rfl|true=>?_
 have hd:=hok hx;simp only[zg,aj,cv]at hd;cases x.1.1 !=3 with|true=>rfl|false=>?_
 cases decide (x.1.2.2.1<((fw q.2.2.2.1.1).1.length:Int))with|true=>rfl|false=>?_
 simp only[al,af,ab,bI,yo l m d _ _ hl hm (show x.1.2.2.2.1≤9223372036854775807 by omega)];cases (mP l m d x.1.2.2.2.1 (fw q.2.2.2.1.1).1 true).2 with|false=>rfl|true=>?_
 simp only[al,af,NH,ab,K5,V4 l _ d _ _ hl (show(mP l m d x.1.2.2.2.1 (fw q.2.2.2.1.1).1 true).1.length≤1000000000 by rw[vA];exact hm)]
theorem SA (l:List aA)(m:List Bytes)(d:Int)(q:aZ)(k s:Bytes)(hl:l.length≤1000000000)(hm:m.length≤1000000000)(hs:s.length≤1000000000)(hh:ir q.2.2.2.1.1=true):∃b,qq l m d q k s=some (b,ji l m d q k s)∧(b=false→ji l m d q k s=(m,q.2.1,false)):=by
 unfold qq ji;have hok:=F0 (s:=s);simp only[UM s hs,Sv,ab,So hh];generalize dT s=x at hok⊢;cases hx:x.2 with|false=>exact⟨false,rfl,λ_=>rfl⟩|true=>?_
 have hd:=hok hx;simp only[zg,aj,cv]at hd;cases x.1.1 !=3 with|true=>exact⟨false,rfl,λ_=>rfl⟩|false=>?_
 cases decide (x.1.2.2.1<((fw q.2.2.2.1.1).1.length:Int))with|true=>exact⟨false,rfl,λ_=>rfl⟩|false=>?_
 simp only[al,af,ab,bI,xE l m d _ _ hl hm (show x.1.2.2.2.1≤9223372036854775807 by omega)];cases (mP l m d x.1.2.2.2.1 (fw q.2.2.2.1.1).1 true).2 with|false=>exact⟨false,rfl,λ_=>rfl⟩|true=>?_
 simp only[al,af,MG,ab,Kq,UZ l _ d _ _ hl (show(mP l m d x.1.2.2.2.1 (fw q.2.2.2.1.1).1 true).1.length≤1000000000 by rw[vA];exact hm)];exact⟨true,rfl,λh=>by cases h⟩
theorem Tx {n:Nat}(hn:128≤n){l:List aA}{m:List Bytes}{d:Int}{q:aZ}{k s:Bytes}(z:bw n (.sl .str) m)(hq:fj q.2.1=true): bw n (.sl .str) (ji l m d q k s).1∧(ji l m d q k s).1.length=m.length∧fj (ji l m d q k s).2.1=true∧(ji l m d q k s).2.1.1=q.2.1.1∧(ji l m d q k s).2.1.2.1=q.2.1.2.1:=by
 unfold ji;cases !(dT s).2||(((dT s).1.1 !=3)||decide ((dT s).1.2.2.1<((fw q.2.2.2.1.1).1.length:Int)))with|true=>exact⟨z,rfl,hq,rfl,rfl⟩|false=>?_
 cases (mP l m d (dT s).1.2.2.2.1 (fw q.2.2.2.1.1).1 true).2 with|false=>exact⟨z,rfl,hq,rfl,rfl⟩|true=>?_
 have h1:=GO hn z l d (dT s).1.2.2.2.1 (fw q.2.2.2.1.1).1 true;have h2:=vA l m d (dT s).1.2.2.2.1 (fw q.2.2.2.1.1).1 true;generalize (mP l m d (dT s).1.2.2.2.1 (fw q.2.2.2.1.1).1 true).1=w at h1 h2;have h3:=Th hn h1 l d q.2.1 ((dT s).1.2.2.2.2.2,((fw q.2.2.2.1.1).1.length:Int),q.2.2.2.1.2.1,q.2.2.2.1.2.2,zt k (xC (nR q.2.2.2.1.1)));have h4:=Ze (l:=l) (m:=w) (d:=d) (x:=((dT s).1.2.2.2.2.2,((fw q.2.2.2.1.1).1.length:Int),q.2.2.2.1.2.1,q.2.2.2.1.2.2,zt k (xC (nR q.2.2.2.1.1)))) hq;exact⟨h3.1,h3.2.trans h2,h4⟩
def pk (l:List aA)(m:List Bytes)(d:Int)(q:aZ)(k:Bytes):List Bytes×aZ:=
 bif !HP q||(!q.2.2.2.2.1||((k.length:Int) !=16)) then(m,q) else
 bif (cl l m d q.1).2.2&&(ji l m d q k (cl l m d q.1).1).2.2 then
  ((ji l m d q k (cl l m d q.1).1).1,(cl l m d q.1).2.1,(ji l m d q k (cl l m d q.1).1).2.1,q.2.2.1,afz,false,q.2.2.2.2.2)
 else(m,(cl l m d q.1).2.1,q.2.1,q.2.2.1,afz,false,ao (q.2.2.2.2.2+q.2.2.2.1.2.2))
theorem NY {l:List aA}{m:List Bytes}{d:Int}{r:Int×Int×Int×Int}(h:(cl l m d r).2.2=false):(cl l m d r).2.1=r:=by
 unfold cl at h⊢;cases hc: !fW r||(lf r==0)with|true=>rfl|false=>?_
 cases hd:(pV l m d (mR r r.2.2.1) 16).2 with|false=>rfl|true=>rw[hc,hd]at h;cases h
theorem zM {q:aZ}(h:HP q=true):fj q.2.1=true∧(q.2.2.2.2.1=true→ir q.2.2.2.1.1=true):=by unfold HP at h;simp only[aj]at h;refine⟨h.1.2.1,λhh=>?_⟩;have h2:=h.2;rw[hh]at h2;simp only[ah,aj]at h2;exact h2.1
theorem Tp (l:List aA)(m:List Bytes)(d:Int)(q:aZ)(k:Bytes)(hl:l.length≤1000000000)(hm:m.length≤1000000000):rl l m d q k=some (pk l m d q k):=by
 have ht:=Bc l m d q.1;unfold rl pk;simp only[P0,ab,kM m (show m.length≤1073741824 by omega),CI l m d q.1 hl hm,Ts l m d q k _ hl hm (show(cl l m d q.1).1.length≤1000000000 by omega)];cases HP q with|false=>rfl|true=>?_
 cases q.2.2.2.2.1 with|false=>rfl|true=>?_
 cases (k.length:Int) !=16 with|true=>rfl|false=>?_
 simp only[al,af,ab,bI];cases (cl l m d q.1).2.2 with|false=>rfl|true=>?_
 cases (ji l m d q k (cl l m d q.1).1).2.2<;>rfl
theorem St (l:List aA)(m:List Bytes)(d:Int)(q:aZ)(k:Bytes)(hl:l.length≤1000000000)(hm:m.length≤1000000000):p5 l m d q k=some (pk l m d q k):=by
 have ht:=Bc l m d q.1;have hno:=NY (l:=l) (m:=m) (d:=d) (r:=q.1);unfold p5 pk;simp only[O9,ab,gS m (show m.length≤1073741824 by omega),Kv l m d q.1 hl hm];cases hr:HP q with|false=>rfl|true=>?_
 cases hh:q.2.2.2.2.1 with|false=>rfl|true=>?_
 cases (k.length:Int) !=16 with|true=>rfl|false=>?_
 obtain⟨b,hb,hb2⟩:=SA l m d q k (cl l m d q.1).1 hl hm (by omega) ((zM hr).2 hh);simp only[al,af,ab,bI,hb];generalize ji l m d q k (cl l m d q.1).1=s at hb hb2⊢;cases hk:(cl l m d q.1).2.2 with|false=>rw[hno hk];rfl|true=>?_
 cases b with|true=>cases hs:s.2.2<;>rfl|false=>rw[hb2 rfl];rfl
theorem C8 {n:Nat}(hn:128≤n){l:List aA}{m:List Bytes}{d:Int}{q:aZ}{k:Bytes}(z:bw n (.sl .str) m)(zq:bw n bk q): bw n (.sl .str) (pk l m d q k).1∧(pk l m d q k).1.length=m.length∧bw n bk (pk l m d q k).2∧(HP q=true→fj (pk l m d q k).2.2.1=true∧(pk l m d q k).2.2.1.2.1=q.2.1.2.1):=by
 unfold pk;cases hc: !HP q||(!q.2.2.2.2.1||((k.length:Int) !=16))with|true=>exact⟨z,rfl,zq,λh=>⟨(zM h).1,rfl⟩⟩|false=>?_
 simp only[Bool.or_eq_false_iff,Bool.not_eq_false']at hc;have hq:=(zM hc.1).1;have hs:=Tx hn (l:=l) (d:=d) (k:=k) (s:=(cl l m d q.1).1) z hq;have e0:bw n bk ((cl l m d q.1).2.1,(ji l m d q k (cl l m d q.1).1).2.1,q.2.2.1,afz,false,q.2.2.2.2.2):=⟨⟨trivial,trivial,trivial,trivial⟩,⟨trivial,trivial,trivial⟩,⟨trivial,trivial,trivial⟩,⟨⟨trivial,trivial,trivial,trivial,trivial,trivial,trivial,trivial,trivial,trivial,trivial,trivial,trivial,trivial,trivial,dv _⟩,trivial,trivial⟩,trivial,trivial⟩
 cases (cl l m d q.1).2.2&&(ji l m d q k (cl l m d q.1).1).2.2 with|true=>exact⟨hs.1,hs.2.1,e0,λ_=>⟨hs.2.2.1,hs.2.2.2.2⟩⟩|false=>exact⟨z,rfl,⟨⟨trivial,trivial,trivial,trivial⟩,⟨trivial,trivial,trivial⟩,⟨trivial,trivial,trivial⟩,⟨⟨trivial,trivial,trivial,trivial,trivial,trivial,trivial,trivial,trivial,trivial,trivial,trivial,trivial,trivial,trivial,dv _⟩,trivial,trivial⟩,trivial,trivial⟩,λ_=>⟨hq,rfl⟩⟩
theorem Ik {s:Bytes}{a:Nat}:cu s (a:Int)=bif decide (a+2≤s.length) then((bX s a*256+bX s (a+1):Nat):Int) else-1:=by unfold cu dA;rw[ax,show decide ((0:Int)≤a∧(a:Int)+2≤(s.length:Int))=decide (a+2≤s.length) from decide_eq_decide.2 (by omega)]
theorem Mu {s t:Bytes}{a:Nat}(hl:s.length=t.length)(h0:bX s a=bX t a)(h1:bX s (a+1)=bX t (a+1)):cu s (a:Int)=cu t (a:Int):=by rw[Ik,Ik,hl,h0,h1]
def tO (s:Bytes):Nat:=bif cu s 12==33024 then 18 else 14
def Gv (s:Bytes):Nat:=bX s (tO s+9)
def Zq (k:Nat):Nat:=bif (k:Int)==6 then 16 else 6
def P8 (s:Bytes):Nat:=tO s+10
def HX (s:Bytes):Nat:=tO s+20+Zq (Gv s)
theorem Zr (k:Nat):Zq k=16∧k=6∨Zq k=6∧k≠6:=by unfold Zq;by_cases h:k=6;subst h;exact .inl ⟨rfl,rfl⟩;exact .inr ⟨by rw[show((k:Int)==6)=false from by rw[beq_eq_false_iff_ne];omega];rfl,h⟩
theorem TU (s:Bytes):tO s=18∧(cu s 12==33024)=true∨tO s=14∧(cu s 12==33024)=false:=by unfold tO;cases cu s 12==33024 with|true=>exact .inl ⟨rfl,rfl⟩|false=>exact .inr ⟨rfl,rfl⟩
def H0 (s t:Bytes):Prop:=s.length=t.length∧∀i,i<P8 t∨(P8 t+2≤i∧i<HX t)∨HX t+2≤i→bX s i=bX t i
theorem Nj (t:Bytes):(tO t=14∨tO t=18)∧P8 t=tO t+10∧tO t+26≤HX t∧HX t≤tO t+36∧(HX t=tO t+36∧Gv t=6∨HX t=tO t+26∧Gv t≠6):=by have h1:=TU t;have h2:=Zr (Gv t);unfold P8 HX;omega
theorem H0.body {s t:Bytes}(h:H0 s t):tO s=tO t:=by have:=Nj t;unfold tO;have e:cu s ((12:Nat):Int)=cu t ((12:Nat):Int):=Mu h.1 (h.2 _ (by omega)) (h.2 _ (by omega));rw[show(12:Int)=((12:Nat):Int) from rfl,e]
theorem H0.kind {s t:Bytes}(h:H0 s t):Gv s=Gv t:=by have:=Nj t;unfold Gv;rw[h.body,h.2 _ (by omega)]
theorem H0.au9 {s t:Bytes}(h:H0 s t):P8 s=P8 t∧HX s=HX t:=by unfold P8 HX;rw[h.body,h.kind];exact⟨rfl,rfl⟩
structure DK (n:Nat) (h:Host):Prop where
 z:bw n bL h
 t:h.2.2.1.2.1.2.2.2.length+(dQ h.2.2.1.2.2.1).length≤n
theorem DK.mono {n m:Nat}{h:Host}(k:DK n h)(hn:n≤m):DK m h:=⟨k.z.mono hn,aH k.t hn⟩
theorem DK.sz {n:Nat}{h:Host}(k:DK n h)(hn:n≤1000000000):CX h:=by have z:bw 1000000000 bL h:=k.z.mono hn;exact⟨z.1.1,z.2.1.1,z.2.2.1.2.2.1.1,aH k.t hn,z.2.2.2.2.2.2.2.1.2.2.1,z.2.2.2.2.2.2.2.2.1.1.1,z.2.2.2.2.2.2.2.2.1.2.1.1,z.2.2.2.2.2.2.2.2.1.2.2.2.1,λp hp=>(z.2.2.2.2.1.2 p hp).2.2.2.1⟩
theorem DK.of {h:Host}(k:gC bL h≤1048576):DK 1048576 h:=by
 refine⟨Az k,?_⟩;have hb:=Qv h.2.2.1.2.2.1;have h1:gC fN h.2.2.1≤gC bL h:=by simp only[gC];omega
 have hp:h.2.2.1.2.1.2.2.2.length+gC (.sl dc) h.2.2.1.2.2.1≤gC fN h.2.2.1:=by simp only[gC];omega
 omega
theorem H9 (n:Int):∀l:List eS,l.all (iP n)=true→(l.length:Int)≤gm l
 |[],_=>by simp[gm]
 |x::l,h=>by simp only[bD,aj]at h;have:=H9 n l h.2;have hx:=h.1;unfold iP at hx;simp only[aj,cv]at hx;simp only[gm,bW,List.sum_cons,a7]at this⊢;omega
theorem Qj {t:ee}(h:ZE t=true):t.2.2.1.length≤16:=by unfold ZE at h;simp only[aj,aP]at h;have h1:=H9 _ _ h.2.2.2.1;have h2:=(wv h.1).2.2.1;have h3:=h.2.2.2.2.2;omega
def YA (k:Nat)(h:Host):Host:=
 match h.2.2.2.2.2.1[k]? with
 |some v=>(h.1,h.2.1,h.2.2.1,h.2.2.2.1,h.2.2.2.2.1,h.2.2.2.2.2.1.set k (evV v),h.2.2.2.2.2.2)
 |none=>h
def Lm (k:Nat):Nat→Host→Host
 |0,h=>h
 |i+1,h=>YA k (Lm k i h)
theorem Um (k:Nat)(h:Host):ik (k+1) h (YA k h):=by unfold YA;cases h.2.2.2.2.2.1[k]? with|none=>exact ik.refl _ _|some v=>exact⟨rfl,rfl,rfl,rfl,λ_ _=>rfl,rfl,aL ..,λj hj=>List.getElem?_set_ne (by omega),rfl,rfl,rfl⟩
theorem BW (k:Nat)(h:Host):∀i,ik (k+1) h (Lm k i h)
 |0=>ik.refl _ _
 |i+1=>(BW k h i).trans (Um k _)
theorem YB {n:Nat}(k:Nat){h:Host}(z:bw n bL h):bw n bL (YA k h):=by unfold YA;cases h.2.2.2.2.2.1[k]? with|none=>exact z|some v=>exact⟨z.1,z.2.1,z.2.2.1,z.2.2.2.1,z.2.2.2.2.1,EG z.2.2.2.2.2.1,z.2.2.2.2.2.2⟩
theorem Q4 {n:Nat}(k:Nat){h:Host}(z:bw n bL h):∀i,bw n bL (Lm k i h)
 |0=>z
 |i+1=>YB k (Q4 k z i)
theorem OZ (h:Host)(k:Nat)(b:Int)(h1:k<h.2.2.2.1.length)(h2:k<h.2.2.2.2.2.1.length)(hq:fj h.2.2.2.1[k].2.1=true)(hb:0≤b∧b≤31):mr h (k:Int) b=some ((),Lm k ((h.2.2.2.1[k].2.1.2.2-b)%(2*h.2.2.2.1[k].2.1.2.1)).toNat h):=by
 have hfu:=cC;have q:=ld hq;unfold mr;rw[aU h1,ab];generalize h.2.2.2.1[k]=x at q⊢;rw[wrap64 (n:=x.2.1.2.2-b) (by omega) (by omega),wrap64 (n:=2*x.2.1.2.1) (by omega) (by omega),Dl _ _ (by omega) (by omega),ab];have hm:0≤(x.2.1.2.2-b)%(2*x.2.1.2.1)∧(x.2.1.2.2-b)%(2*x.2.1.2.1)<32:=by have g1:=dj (x.2.1.2.2-b) (show 2*x.2.1.2.1≠0 by omega);have g2:=cX (x.2.1.2.2-b) (show 0<2*x.2.1.2.1 by omega);omega
 generalize (x.2.1.2.2-b)%(2*x.2.1.2.1)=c at hm⊢;obtain⟨c,rfl⟩:=aO hm.1;rw[ax];have e0:((c:Int),h)=(((c:Int)-((0:Nat):Int)),Lm k 0 h):=by simp[Lm]
 rw[e0];refine cS (λi=>((c:Int)-(i:Int),Lm k i h)) c (by omega) (λi nx hi=>?_) (λnx=>?_);have kk:=BW k h i;have i1:k<(Lm k i h).2.2.2.2.2.1.length:=by rw[kk.vec];exact h2
 rw[show Lm k (i+1) h=YA k (Lm k i h) from rfl];generalize Lm k i h=s at i1⊢;simp only[lV,YA];rw[ai (by omega),ah,List.getElem?_eq_getElem i1];simp only[aU i1,ab,Sp,ax];rw[wrap64 (by omega) (by omega),show(c:Int)-(i:Int)-1=(c:Int)-((i+1:Nat):Int) by omega];simp only[lV];rw[ae (by omega),af]
theorem PT (h:Host)(k:Nat)(b:Int)(h1:k<h.2.2.2.1.length)(h2:k<h.2.2.2.2.2.1.length)(hq:fj h.2.2.2.1[k].2.1=true)(hb:0≤b∧b≤31):mW h (k:Int) b=some ((),Lm k ((h.2.2.2.1[k].2.1.2.2-b)%(2*h.2.2.2.1[k].2.1.2.1)).toNat h):=by
 have hfu:=cC;have q:=ld hq;unfold mW;rw[aU h1,ab,ab];generalize h.2.2.2.1[k]=x at q⊢;have em:ao (BitVec.toNat (BitVec.ofInt (IntKind.bits .i64) (x.2.1.2.2-b)&&&BitVec.ofInt (IntKind.bits .i64) (2*x.2.1.2.1-1)))=(x.2.1.2.2-b)%(2*x.2.1.2.1):=by
  have key:∀j:Nat,j<63→2*x.2.1.2.1=2^j→ao (BitVec.toNat (BitVec.ofInt (IntKind.bits .i64) (x.2.1.2.2-b)&&&BitVec.ofInt (IntKind.bits .i64) (2*x.2.1.2.1-1)))=(x.2.1.2.2-b)%(2*x.2.1.2.1):=by intro j hj e;have:=wR (x.2.1.2.2-b) j hj;rw[←e]at this;rw[this];have g1:=dj (x.2.1.2.2-b) (show 2*x.2.1.2.1≠0 by omega);have g2:=cX (x.2.1.2.2-b) (show 0<2*x.2.1.2.1 by omega);exact wrap64 (by omega) (by omega)
  rcases q.2.2.1 with e|e|e|e;exact key 2 (by omega) (by rw[e];rfl);exact key 3 (by omega) (by rw[e];rfl);exact key 4 (by omega) (by rw[e];rfl);exact key 5 (by omega) (by rw[e];rfl)
 rw[wrap64 (n:=x.2.1.2.2-b) (by omega) (by omega),wrap64 (n:=2*x.2.1.2.1) (by omega) (by omega),wrap64 (n:=2*x.2.1.2.1-1) (by omega) (by omega),em];have hm:0≤(x.2.1.2.2-b)%(2*x.2.1.2.1)∧(x.2.1.2.2-b)%(2*x.2.1.2.1)<32:=by have g1:=dj (x.2.1.2.2-b) (show 2*x.2.1.2.1≠0 by omega);have g2:=cX (x.2.1.2.2-b) (show 0<2*x.2.1.2.1 by omega);omega
 generalize (x.2.1.2.2-b)%(2*x.2.1.2.1)=c at hm⊢;obtain⟨c,rfl⟩:=aO hm.1;rw[ax];refine cS (λi=>((i:Int),Lm k i h)) c (by omega) (λi nx hi=>?_) (λnx=>?_);have kk:=BW k h i;have i1:k<(Lm k i h).2.2.2.2.2.1.length:=by rw[kk.vec];exact h2
 rw[show Lm k (i+1) h=YA k (Lm k i h) from rfl];generalize Lm k i h=s at i1⊢;simp only[mc,YA];rw[ai (by omega),ah,List.getElem?_eq_getElem i1];simp only[aU i1,ab,Tn,ax];rw[wrap64 (by omega) (by omega)];rfl;simp only[mc];rw[ae (by omega),af]
def DY (h:Host)(k:Nat)(f:List Bytes×aZ):Host:=(f.1,h.2.1,h.2.2.1,h.2.2.2.1.set k f.2,h.2.2.2.2)
def Hq (h:Host)(k:Nat)(b:Int)(f:List Bytes×aZ):Host:=Lm k ((f.2.2.1.2.2-b)%(2*f.2.2.1.2.1)).toNat (DY h k f)
def gw (k:Nat)(h:Host):Host:=
 match h.2.2.2.1[k]? with
 |some x=>Hq h k x.2.1.2.2 (pk h.2.1 h.1 0 x h.2.2.2.2.2.2.2.2.1.2.2.1)
 |none=>h
theorem Oe {h:Host}{k:Nat}{b:Int}{f:List Bytes×aZ}(hf:f.1.length=h.1.length):ik (k+1) h (Hq h k b f):=by
 have a:ik (k+1) h (DY h k f):=⟨hf,rfl,rfl,aL ..,λj hj=>List.getElem?_set_ne (by omega),rfl,rfl,λ_ _=>rfl,rfl,rfl,rfl⟩
 exact a.trans (BW k (DY h k f) _)
theorem Ql {n:Nat}{h:Host}{k:Nat}{b:Int}{f:List Bytes×aZ}(z:bw n bL h)(h1:bw n (.sl .str) f.1)(h2:bw n bk f.2):bw n bL (Hq h k b f):=by
 have a:bw n bL (DY h k f):=⟨h1,z.2.1,z.2.2.1,w7 z.2.2.2.1 h2,z.2.2.2.2⟩
 exact Q4 k a _
theorem Us {l:List aA}{m:List Bytes}{d:Int}{q:aZ}{k:Bytes}:(pk l m d q k).1.length=m.length:=by
 have hs:(ji l m d q k (cl l m d q.1).1).1.length=m.length:=by
  unfold ji;cases !(dT (cl l m d q.1).1).2||(((dT (cl l m d q.1).1).1.1 !=3)||decide ((dT (cl l m d q.1).1).1.2.2.1<((fw q.2.2.2.1.1).1.length:Int)))with|true=>rfl|false=>?_
  cases (mP l m d (dT (cl l m d q.1).1).1.2.2.2.1 (fw q.2.2.2.1.1).1 true).2 with|false=>rfl|true=>?_
  have h2:=vA l m d (dT (cl l m d q.1).1).1.2.2.2.1 (fw q.2.2.2.1.1).1 true;simp only[af,al];unfold xe;cases !fj q.2.1|| !uT ((dT (cl l m d q.1).1).1.2.2.2.2.2,((fw q.2.2.2.1.1).1.length:Int),q.2.2.2.1.2.1,q.2.2.2.1.2.2,zt k (xC (nR q.2.2.2.1.1)))with|true=>exact h2|false=>?_
  cases (mP l (mP l m d (dT (cl l m d q.1).1).1.2.2.2.1 (fw q.2.2.2.1.1).1 true).1 d (gL q.2.1) (Hx ((dT (cl l m d q.1).1).1.2.2.2.2.2,((fw q.2.2.2.1.1).1.length:Int),q.2.2.2.1.2.1,q.2.2.2.1.2.2,zt k (xC (nR q.2.2.2.1.1))) (rf q.2.1)) true).2 with|false=>exact h2|true=>exact(vA ..).trans h2
 unfold pk;cases !HP q||(!q.2.2.2.2.1||((k.length:Int) !=16))with|true=>rfl|false=>?_
 cases (cl l m d q.1).2.2&&(ji l m d q k (cl l m d q.1).1).2.2 with|true=>exact hs|false=>rfl
theorem vR (k:Nat)(h:Host):ik (k+1) h (gw k h):=by unfold gw;cases h.2.2.2.1[k]? with|none=>exact ik.refl _ _|some x=>exact Oe Us
theorem Bp (k:Nat)(h:Host)(n:Nat)(hn:1000≤n)(z:bw n bL h):bw (n+0) bL (gw k h):=by unfold gw;cases hx:h.2.2.2.1[k]? with|none=>exact z|some x=>have hf:=C8 (show 128≤n by omega) (l:=h.2.1) (d:=0) (k:=h.2.2.2.2.2.2.2.2.1.2.2.1) z.1 (z.2.2.2.1.2 _ (List.mem_of_getElem? hx));exact Ql z hf.1 hf.2.2.1
def uY (h:Host):Host:=bif gn h then eY gw h.2.2.2.1.length h else h
theorem C7 {n:Nat}(hn:1000≤n){h:Host}(k:DK n h):DK n (uY h):=by unfold uY;cases gn h with|false=>exact k|true=>refine⟨(vI hn Bp k.z _).mono (by omega),?_⟩;simp only[ah];rw[(nN vR h _).tx];exact k.t
theorem Gj {h:Host}(hb:gn h=true):∀i (hi:i<h.2.2.2.1.length),HP h.2.2.2.1[i]=true:=by simp only[gn,Nu,aj]at hb;exact λi hi=>bd.1 hb.2.2.2.2.2.2.1.1 _ (aW hi)
theorem Ea {h:Host}{k:Nat}{b:Int}{f:List Bytes×aZ}(h1:k<h.2.2.2.1.length)(h2:k<h.2.2.2.2.2.1.length)(hq:fj f.2.2.1=true)(hb:0≤b∧b≤31): mr (f.1,h.2.1,h.2.2.1,h.2.2.2.1.set k f.2,h.2.2.2.2) (k:Int) b=some ((),Hq h k b f)∧mW (f.1,h.2.1,h.2.2.1,h.2.2.2.1.set k f.2,h.2.2.2.2) (k:Int) b=some ((),Hq h k b f):=by
 have h3:k<(DY h k f).2.2.2.1.length:=by show k<(h.2.2.2.1.set k f.2).length;rw[aL];exact h1
 have e:(DY h k f).2.2.2.1[k]=f.2:=List.getElem_set_self _;have a:=OZ (DY h k f) k b h3 h2 (by rw[e];exact hq) hb;have c:=PT (DY h k f) k b h3 h2 (by rw[e];exact hq) hb;rw[e]at a c;exact⟨a,c⟩
theorem O4 (h:Host)(k:DK 900000000 h):p8 h=some (uY h):=by
 have hfu:=cC;unfold p8 uY;rw[tV h (k.z.mono (by omega)),ab,Cc h (k.sz (by omega)),ab];cases hb:gn h with|false=>rfl|true=>?_
 have hl:=qY (by simp only[gn,aj]at hb;exact hb.2.2.2.2.1:tP h=true);have hr:=Gj hb;simp only[al,af,ah];refine cS (λi=>((i:Int),eY gw i h)) h.2.2.2.1.length (by omega) (λi nx hi=>?_) (λnx=>?_);have kk:=nN vR h i;have zz:bw 900000000 bL (eY gw i h):=(vI (by omega) Bp k.z i).mono (by omega);have i1:i<(eY gw i h).2.2.2.1.length:=by rw[kk.rx];exact hi
 have i2:i<(eY gw i h).2.2.2.2.2.1.length:=by rw[kk.vec];omega
 have e1:(eY gw i h).2.2.2.1[i]=h.2.2.2.1[i]:=by have:=kk.rxs i (aM _);rw[List.getElem?_eq_getElem i1,List.getElem?_eq_getElem hi]at this;exact cp this
 rw[show eY gw (i+1) h=gw i (eY gw i h) from rfl];generalize eY gw i h=s at zz i1 i2 e1⊢;have z1:s.1.length≤900000000:=zz.1.1;have z2:s.2.1.length≤900000000:=zz.2.1.1;have hrx:=hr i hi;rw[←e1]at hrx;have hqd:=ld (zM hrx).1;have hf:=C8 (show 128≤900000000 by omega) (l:=s.2.1) (d:=0) (k:=s.2.2.2.2.2.2.2.2.1.2.2.1) zz.1 (zz.2.2.2.1.2 _ (aW i1));have ev:=Ea (h:=s) (k:=i) (b:=s.2.2.2.1[i].2.1.2.2) (f:=pk s.2.1 s.1 0 s.2.2.2.1[i] s.2.2.2.2.2.2.2.2.1.2.2.1) i1 i2 (hf.2.2.2 hrx).1 (by omega);simp only[lS,gw];rw[ai (by omega),ah,List.getElem?_eq_getElem i1];simp only[aU i1,aU hi,ab,St s.2.1 s.1 0 _ _ (show s.2.1.length≤1000000000 by omega) (show s.1.length≤1000000000 by omega),ax,←e1,ev.1];rw[wrap64 (by omega) (by omega)];rfl;simp only[lS];rw[ae (by omega),af]
theorem PX (h:Host)(k:DK 900000000 h):rp h=some (uY h):=by
 have hfu:=cC;unfold rp uY;rw[uk h (k.z.mono (by omega)),ab];have hv:h.2.2.2.1.length≤900000000:=k.z.2.2.2.1.1;cases hb:gn h with
 |false=>
  obtain⟨g,hg⟩:∃g,fuel=g+1:=⟨fuel-1,by omega⟩
  rw[hg,aJ,iS,xl h (k.sz (by omega)),hb];cases decide ((0:Int)<(h.2.2.2.1.length:Int))<;>rfl
 |true=>
  have hl:=qY (by simp only[gn,aj]at hb;exact hb.2.2.2.2.1:tP h=true);have hr:=Gj hb;simp only[ah];refine cS (λi=>((i:Int),eY gw i h)) h.2.2.2.1.length (by omega) (λi nx hi=>?_) (λnx=>?_);have kk:=nN vR h i;have zz:bw 900000000 bL (eY gw i h):=(vI (by omega) Bp k.z i).mono (by omega);have i1:i<(eY gw i h).2.2.2.1.length:=by rw[kk.rx];exact hi
  have i2:i<(eY gw i h).2.2.2.2.2.1.length:=by rw[kk.vec];omega
  have e1:(eY gw i h).2.2.2.1[i]=h.2.2.2.1[i]:=by have:=kk.rxs i (aM _);rw[List.getElem?_eq_getElem i1,List.getElem?_eq_getElem hi]at this;exact cp this
  have em:=kk.maps;have es:=kk.ste;rw[show eY gw (i+1) h=gw i (eY gw i h) from rfl];generalize eY gw i h=s at zz i1 i2 e1 em es⊢;have z1:s.1.length≤900000000:=zz.1.1;have z2:s.2.1.length≤900000000:=zz.2.1.1;have hrx:=hr i hi;rw[←e1]at hrx;have hqd:=ld (zM hrx).1;have hf:=C8 (show 128≤900000000 by omega) (l:=s.2.1) (d:=0) (k:=s.2.2.2.2.2.2.2.2.1.2.2.1) zz.1 (zz.2.2.2.1.2 _ (aW i1));have ev:=Ea (h:=s) (k:=i) (b:=s.2.2.2.1[i].2.1.2.2) (f:=pk s.2.1 s.1 0 s.2.2.2.1[i] s.2.2.2.2.2.2.2.2.1.2.2.1) i1 i2 (hf.2.2.2 hrx).1 (by omega);simp only[iS,gw,xl h (k.sz (by omega)),hb];rw[ai (by omega),ah,List.getElem?_eq_getElem i1];simp only[aU i1,aU hi,ab,ah,←em,←es,←e1,Tp s.2.1 s.1 0 _ _ (show s.2.1.length≤1000000000 by omega) (show s.1.length≤1000000000 by omega),ax,ev.2];rw[wrap64 (by omega) (by omega)];rfl;simp only[iS];rw[ae (by omega),af,ab,af]
theorem Zd (l:List aA)(m:List Bytes)(d:Int)(rx:aZ)(pl:bZ)(st:List Stream)(c:Int):(kg l m d rx pl st c).1.length=m.length:=by unfold kg;cases !HP rx||(!fC pl|| !cq c 0 1000)with|true=>rfl|false=>exact YC ..
def yn (b:Int)(k:Nat)(s:Int×Host):Int×Host:=
 match s.2.2.2.2.2.2.1[k]?,s.2.2.2.2.2.2.2.1[k]?,s.2.2.2.2.1[k]?,s.2.2.2.2.2.1[k]? with
 |some v,some p,some x,some pl=>
  bif p||(yX v).2 then
   (ao (s.1+(kg s.2.2.1 s.2.1 0 x pl s.2.2.2.2.2.2.2.2.2.2.1 b).2.2.2.2),
    (kg s.2.2.1 s.2.1 0 x pl s.2.2.2.2.2.2.2.2.2.2.1 b).1,s.2.2.1,s.2.2.2.1,s.2.2.2.2.1.set k (kg s.2.2.1 s.2.1 0 x pl s.2.2.2.2.2.2.2.2.2.2.1 b).2.1,s.2.2.2.2.2.1.set k (kg s.2.2.1 s.2.1 0 x pl s.2.2.2.2.2.2.2.2.2.2.1 b).2.2.1,
    s.2.2.2.2.2.2.1.set k (bif decide ((kg s.2.2.1 s.2.1 0 x pl s.2.2.2.2.2.2.2.2.2.2.1 b).2.2.2.2<b) then CR (yX v).1 else(yX v).1),
    s.2.2.2.2.2.2.2.1.set k (!decide ((kg s.2.2.1 s.2.1 0 x pl s.2.2.2.2.2.2.2.2.2.2.1 b).2.2.2.2<b)),s.2.2.2.2.2.2.2.2.1,s.2.2.2.2.2.2.2.2.2.1,(kg s.2.2.1 s.2.1 0 x pl s.2.2.2.2.2.2.2.2.2.2.1 b).2.2.2.1,s.2.2.2.2.2.2.2.2.2.2.2)
  else(s.1,s.2.1,s.2.2.1,s.2.2.2.1,s.2.2.2.2.1,s.2.2.2.2.2.1,s.2.2.2.2.2.2.1.set k (yX v).1,s.2.2.2.2.2.2.2.1.set k false,s.2.2.2.2.2.2.2.2)
 |_,_,_,_=>s
theorem Ny (b:Int)(k:Nat)(s:Int×Host):ik (k+1) s.2 (yn b k s).2:=by
 unfold yn;cases s.2.2.2.2.2.2.1[k]? with|none=>exact ik.refl _ _|some v=>?_
 cases s.2.2.2.2.2.2.2.1[k]? with|none=>exact ik.refl _ _|some p=>?_
 cases s.2.2.2.2.1[k]? with|none=>exact ik.refl _ _|some x=>?_
 cases s.2.2.2.2.2.1[k]? with|none=>exact ik.refl _ _|some pl=>?_
 simp only;cases p||(yX v).2 with|true=>exact⟨Zd ..,rfl,rfl,aL ..,λj hj=>List.getElem?_set_ne (by omega),aL ..,aL ..,λj hj=>List.getElem?_set_ne (by omega),aL ..,rfl,rfl⟩|false=>exact⟨rfl,rfl,rfl,rfl,λ_ _=>rfl,rfl,aL ..,λj hj=>List.getElem?_set_ne (by omega),aL ..,rfl,rfl⟩
theorem PO (b:Int)(k:Nat)(s:Int×Host){n:Nat}(hn:1000≤n)(z:bw n bL s.2):bw (n+322000) bL (yn b k s).2:=by
 have z':bw (n+322000) bL s.2:=z.mono (by omega);unfold yn;cases s.2.2.2.2.2.2.1[k]? with|none=>exact z'|some v=>?_
 cases s.2.2.2.2.2.2.2.1[k]? with|none=>exact z'|some p=>?_
 cases h1:s.2.2.2.2.1[k]? with|none=>exact z'|some x=>?_
 cases h2:s.2.2.2.2.2.1[k]? with|none=>exact z'|some pl=>?_
 simp only;cases p||(yX v).2 with|true=>have hp:=Tg (by omega) (l:=s.2.2.1) (d:=0) b z.1 (z.2.2.2.1.2 _ (List.mem_of_getElem? h1)) (z.2.2.2.2.1.2 _ (List.mem_of_getElem? h2)) z.2.2.2.2.2.2.2.2.2.1;exact⟨hp.1.mono (by omega),z'.2.1,z'.2.2.1,w7 z'.2.2.2.1 (hp.2.1.mono (by omega)),w7 z'.2.2.2.2.1 hp.2.2.1,EG z'.2.2.2.2.2.1,w7 z'.2.2.2.2.2.2.1 trivial,z'.2.2.2.2.2.2.2.1,z'.2.2.2.2.2.2.2.2.1,hp.2.2.2.1,z'.2.2.2.2.2.2.2.2.2.2⟩|false=>exact⟨z'.1,z'.2.1,z'.2.2.1,z'.2.2.2.1,z'.2.2.2.2.1,EG z'.2.2.2.2.2.1,w7 z'.2.2.2.2.2.2.1 trivial,z'.2.2.2.2.2.2.2⟩
def gA (b:Int):Nat→Host→Int×Host
 |0,h=>(0,h)
 |k+1,h=>yn b k (gA b k h)
theorem uP (b:Int)(h:Host):∀k,ik k h (gA b k h).2
 |0=>ik.refl 0 h
 |k+1=>((uP b h k).up (by omega)).trans (Ny b k _)
theorem ym (b:Int){n:Nat}(hn:1000≤n){h:Host}(z:bw n bL h):∀k,bw (n+322000*k) bL (gA b k h).2
 |0=>z
 |k+1=>(PO b k _ (by omega) (ym b hn z k)).mono (by omega)
def ri (h:Host)(b:Int):Host×Int:=bif gn h&&cq b 1 1000 then((gA b h.2.2.2.1.length h).2,(gA b h.2.2.2.1.length h).1) else(h,0)
theorem Nz {n:Nat}(hn:1000≤n){h:Host}(b:Int)(k:DK n h):DK (n+644000) (ri h b).1:=by unfold ri;cases hb:gn h&&cq b 1 1000 with|false=>exact k.mono (by omega)|true=>simp only[aj]at hb;have hl:=qY (by have:=hb.1;simp only[gn,aj]at this;exact this.2.2.2.2.1:tP h=true);refine⟨(ym b hn k.z _).mono (by omega),?_⟩;simp only[ah];rw[(uP b h _).tx];exact aH k.t (by omega)
theorem MN (h:Host)(b:Int)(k:DK 400000000 h):na h b=some (ri h b):=by
 have hfu:=cC;unfold na ri;rw[tV h (k.z.mono (by omega)),ab,Cc h (k.sz (by omega)),ab,cz];cases hb:gn h with|false=>rfl|true=>?_
 cases hi0:cq b 1 1000 with|false=>rfl|true=>?_
 have hl:=qY (by simp only[gn,aj]at hb;exact hb.2.2.2.2.1:tP h=true);simp only[al,af,ab,dY,ah];refine cS (λi=>((gA b i h).1,(i:Int),(gA b i h).2)) h.2.2.2.1.length (by omega) (λi nx hi=>?_) (λnx=>?_);have kk:=uP b h i;have zz:bw 500000000 bL (gA b i h).2:=(ym b (by omega) k.z i).mono (by omega);have i1:i<(gA b i h).2.2.2.2.1.length:=by rw[kk.rx];exact hi
 have i2:i<(gA b i h).2.2.2.2.2.1.length:=by rw[kk.pl];omega
 have i3:i<(gA b i h).2.2.2.2.2.2.1.length:=by rw[kk.vec];omega
 have i4:i<(gA b i h).2.2.2.2.2.2.2.1.length:=by rw[kk.pol];omega
 rw[show gA b (i+1) h=yn b i (gA b i h) from rfl];generalize gA b i h=s at zz i1 i2 i3 i4⊢;have gp:∀(V:List Vector)(P:List Bool),oa (s.2.1,s.2.2.1,s.2.2.2.1,s.2.2.2.2.1,s.2.2.2.2.2.1,V,P,s.2.2.2.2.2.2.2.2) (i:Int) b=some ((kg s.2.2.1 s.2.1 0 s.2.2.2.2.1[i] s.2.2.2.2.2.1[i] s.2.2.2.2.2.2.2.2.2.2.1 b).2.2.2.2,(kg s.2.2.1 s.2.1 0 s.2.2.2.2.1[i] s.2.2.2.2.2.1[i] s.2.2.2.2.2.2.2.2.2.2.1 b).1,s.2.2.1,s.2.2.2.1,s.2.2.2.2.1.set i (kg s.2.2.1 s.2.1 0 s.2.2.2.2.1[i] s.2.2.2.2.2.1[i] s.2.2.2.2.2.2.2.2.2.2.1 b).2.1,s.2.2.2.2.2.1.set i (kg s.2.2.1 s.2.1 0 s.2.2.2.2.1[i] s.2.2.2.2.2.1[i] s.2.2.2.2.2.2.2.2.2.2.1 b).2.2.1,V,P,s.2.2.2.2.2.2.2.2.1,s.2.2.2.2.2.2.2.2.2.1,(kg s.2.2.1 s.2.1 0 s.2.2.2.2.1[i] s.2.2.2.2.2.1[i] s.2.2.2.2.2.2.2.2.2.2.1 b).2.2.2.1,s.2.2.2.2.2.2.2.2.2.2.2):=by intro V P;have hpl:s.2.2.2.2.2.1[i].2.2.2.length≤500000000:=(zz.2.2.2.2.1.2 _ (aW i2)).2.2.2.1;have hm:s.2.1.length≤500000000:=zz.1.1;have hp:s.2.2.1.length≤500000000:=zz.2.1.1;unfold oa;simp only[aU i1,aU i2,ab,UY s.2.2.1 s.2.1 0 _ _ _ b (show s.2.2.1.length≤1000000000 by omega) (show s.2.1.length≤1000000000 by omega) hpl zz.2.2.2.2.2.2.2.2.2.1,ax]
 have hset:∀V:Vector,s.2.2.2.2.2.2.1.set i V=s.2.2.2.2.2.2.1.set i V:=λ_=>rfl;unfold yn;rw[List.getElem?_eq_getElem i1,List.getElem?_eq_getElem i2,List.getElem?_eq_getElem i3,List.getElem?_eq_getElem i4];simp only[jq];rw[ai (by omega),ah];simp only[aU i3,aU i4,ab,SC,ax,gp];generalize yX s.2.2.2.2.2.2.1[i]=w;generalize kg s.2.2.1 s.2.1 0 s.2.2.2.2.1[i] s.2.2.2.2.2.1[i] s.2.2.2.2.2.2.2.2.2.2.1 b=pr;have i5:∀V:Vector,i<(s.2.2.2.2.2.2.1.set i V).length:=λV=>by rw[aL];exact i3
 have i6:∀q:Bool,i<(s.2.2.2.2.2.2.2.1.set i q).length:=λq=>by rw[aL];exact i4
 have e5:∀V:Vector,idx (s.2.2.2.2.2.2.1.set i V) (i:Int)=some V:=λV=>by rw[aU (i5 V),List.getElem_set_self]
 have e6:∀q:Bool,idx (s.2.2.2.2.2.2.2.1.set i q) (i:Int)=some q:=λq=>by rw[aU (i6 q),List.getElem_set_self]
 rw[wrap64 (n:=(i:Int)+1) (by omega) (by omega)];have hself:s.2.2.2.2.2.2.2.1.set i (s.2.2.2.2.2.2.2.1[i])=s.2.2.2.2.2.2.2.1:=List.set_getElem_self ..;generalize hp:s.2.2.2.2.2.2.2.1[i]=p at hself⊢;cases hw:w.2 with
 |true=>simp only[Bool.or_true,ah,e6,e5,ab,al,af,Gm,dh];cases decide (pr.2.2.2.2<b)<;>rfl
 |false=>
  simp only[Bool.or_false,af];cases p with
  |false=>rw[hself];rfl
  |true=>
   have e7:idx s.2.2.2.2.2.2.2.1 (i:Int)=some true:=by rw[aU i4,hp]
   simp only[ah,al,af,e5,e7,ab,Gm,dh];cases decide (pr.2.2.2.2<b)with|true=>rfl|false=>simp only[af,cA,hself];rfl
 simp only[jq];rw[ae (by omega),af]
theorem NN (h:Host)(b:Int)(k:DK 400000000 h):nD h b=some (ri h b):=by
 have hfu:=cC;unfold nD ri;rw[uk h (k.z.mono (by omega)),ab,xl h (k.sz (by omega)),ab,cc];cases hb:gn h with|false=>rfl|true=>?_
 cases hi0:cq b 1 1000 with|false=>rfl|true=>?_
 have hl:=qY (by simp only[gn,aj]at hb;exact hb.2.2.2.2.1:tP h=true);simp only[al,af,ab,dY,ah];refine cS (λi=>((gA b i h).1,(i:Int),(gA b i h).2)) h.2.2.2.1.length (by omega) (λi nx hi=>?_) (λnx=>?_);have kk:=uP b h i;have zz:bw 500000000 bL (gA b i h).2:=(ym b (by omega) k.z i).mono (by omega);have i1:i<(gA b i h).2.2.2.2.1.length:=by rw[kk.rx];exact hi
 have i2:i<(gA b i h).2.2.2.2.2.1.length:=by rw[kk.pl];omega
 have i3:i<(gA b i h).2.2.2.2.2.2.1.length:=by rw[kk.vec];omega
 have i4:i<(gA b i h).2.2.2.2.2.2.2.1.length:=by rw[kk.pol];omega
 have em:=kk.maps;rw[show gA b (i+1) h=yn b i (gA b i h) from rfl];generalize gA b i h=s at zz i1 i2 i3 i4 em⊢;have hpl:s.2.2.2.2.2.1[i].2.2.2.length≤500000000:=(zz.2.2.2.2.1.2 _ (aW i2)).2.2.2.1;have hm:s.2.1.length≤500000000:=zz.1.1;have hp:s.2.2.1.length≤500000000:=zz.2.1.1;have gp:=V3 s.2.2.1 s.2.1 0 s.2.2.2.2.1[i] s.2.2.2.2.2.1[i] s.2.2.2.2.2.2.2.2.2.2.1 b (show s.2.2.1.length≤1000000000 by omega) (show s.2.1.length≤1000000000 by omega) hpl zz.2.2.2.2.2.2.2.2.2.1;unfold yn;rw[List.getElem?_eq_getElem i1,List.getElem?_eq_getElem i2,List.getElem?_eq_getElem i3,List.getElem?_eq_getElem i4];simp only[jz];rw[ai (by omega),ah,←em];simp only[aU i1,aU i2,aU i3,aU i4,ab,Tu,ax,gp];generalize yX s.2.2.2.2.2.2.1[i]=w;generalize kg s.2.2.1 s.2.1 0 s.2.2.2.2.1[i] s.2.2.2.2.2.1[i] s.2.2.2.2.2.2.2.2.2.2.1 b=pr;have i5:∀V:Vector,i<(s.2.2.2.2.2.2.1.set i V).length:=λV=>by rw[aL];exact i3
 have i6:∀q:Bool,i<(s.2.2.2.2.2.2.2.1.set i q).length:=λq=>by rw[aL];exact i4
 have e5:∀V:Vector,idx (s.2.2.2.2.2.2.1.set i V) (i:Int)=some V:=λV=>by rw[aU (i5 V),List.getElem_set_self]
 have e6:∀q:Bool,idx (s.2.2.2.2.2.2.2.1.set i q) (i:Int)=some q:=λq=>by rw[aU (i6 q),List.getElem_set_self]
 rw[wrap64 (n:=(i:Int)+1) (by omega) (by omega)];generalize s.2.2.2.2.2.2.2.1[i]=p;cases p with|true=>simp only[Bool.true_or,ah,e6,e5,ab,al,af,G4,dh];cases decide (pr.2.2.2.2<b)<;>rfl|false=>simp only[cB,af,e6,e5,ab,G4,dh];cases w.2 with|false=>rfl|true=>simp only[al,af,ah];cases decide (pr.2.2.2.2<b)<;>rfl
 simp only[jz];rw[ae (by have:=(uP b h h.2.2.2.1.length).rx;omega),af]
def xx (b:Int):Nat→Host→Host
 |0,h=>h
 |k+1,h=>(ri (zX (xx b k h)) b).1
theorem He {n:Nat}(hn:1000≤n){h:Host}(k:DK n h):DK n (zX h):=by have:=X7 hn k.z;exact⟨this.1,by rw[this.2];exact k.t⟩
theorem Ab (b:Int){n:Nat}(hn:1000≤n){h:Host}(z:DK n h):∀k,DK (n+644000*k) (xx b k h)
 |0=>z
 |k+1=>(Nz (by omega) b (He (by omega) (Ab b hn z k))).mono (by omega)
theorem AQ {R:Type}(K:Int→Bytes→Option R):∀(n:Nat)(v:Int)(s:Bytes)(m:Nat),0≤v→v≤1000000000000000→v<10^n→s.length+n≤1000→n<m→∃s':Bytes,s'.length≤1000∧∃v',aJ (nt K) m (v,s)=K v' s'
 |0,v,s,m,h0,_,h1,hs,hm=>by
  have hv:v=0:=by simp at h1;omega
  subst hv;cases m with|zero=>omega|succ m=>exact⟨s,by omega,0,by rw[aJ];rfl⟩
 |n+1,v,s,m,h0,hb,h1,hs,hm=>by cases m with|zero=>omega|succ m=>rw[aJ];simp only[nt];by_cases hv:v>0;have hq:Int.tdiv v 10=v/10:=Int.tdiv_eq_ediv_of_nonneg h0;rw[ai hv];simp only[ah];rw[aq (by omega),aK (by simp[bytesOf];omega),aq (by omega),hq,wrap64 (n:=v/10) (by omega) (by omega)];exact AQ K n (v/10) _ m (by omega) (by omega) (by rw[Int.pow_succ]at h1;omega) (by simp[bytesOf];omega) (by omega);rw[ae hv];exact⟨s,by omega,v,rfl⟩
theorem HH (k:Int)(h1:1≤k)(h2:k≤1000000000000000):∃s,bz k=some s:=by have hfu:=cC;unfold bz;rw[ae (by omega)];simp only[af];obtain⟨s,hs,v,h⟩:=AQ (λ(_:Int) (y2:Bytes)=>room (List.length ([109]:Bytes)+List.length y2) (some (([109]:Bytes)++y2))) 16 k [] fuel (by omega) h2 (by omega) (by simp) (by omega);rw[h,aK (by simp;omega)];exact⟨_,rfl⟩
def ZF (k:Int):Bytes:=(bz k).getD []
theorem fJ (k:Int)(h1:1≤k)(h2:k≤1000000000000000):bz k=some (ZF k):=by obtain⟨s,hs⟩:=HH k h1 h2;rw[ZF,hs];rfl
def gk:(t:CT)→t.D→Nat
 | .int _,_=>1
 | .bool,_=>1
 | .str,_=>1
 | .sl e,xs=>(xs.map (gk e)).sum
 | .pair a b,x=>gk a x.1+gk b x.2
def mkL {α:Type}(f:α→Int→α)(c:α→Nat):List α→Int→List α
 |[],_=>[]
 |x::xs,k=>f x k::mkL f c xs (k+c x)
def mk:(t:CT)→t.D→Int→t.D
 | .int _,_,k=>k
 | .bool,_,k=>Int.tmod k 3==0
 | .str,_,k=>ZF k
 | .sl e,xs,k=>mkL (mk e) (gk e) xs k
 | .pair a b,x,k=>(mk a x.1 k,mk b x.2 (k+gk a x.1))
def g8:(t:CT)→t.D→Nat
 | .int _,_=>0
 | .bool,_=>0
 | .str,_=>0
 | .sl e,xs=>gk (.sl e) xs
 | .pair a b,x=>g8 a x.1+g8 b x.2
def Ln:(t:CT)→t.D→Int→t.D
 | .int _,x,_=>x
 | .bool,x,_=>x
 | .str,x,_=>x
 | .sl e,xs,k=>mk (.sl e) xs k
 | .pair a b,x,k=>(Ln a x.1 k,Ln b x.2 (k+g8 a x.1))
theorem Dj {k:IntKind}(x k':Int):mk (.int k) x k'=k':=rfl
theorem Ao (x:Bool)(k:Int):mk .bool x k=(Int.tmod k 3==0):=rfl
theorem Dk (x:Bytes)(k:Int):mk .str x k=ZF k:=rfl
theorem wo {a b:CT}(x:a.D×b.D)(k:Int):mk (.pair a b) x k=(mk a x.1 k,mk b x.2 (k+gk a x.1)):=rfl
theorem iz {k:IntKind}(x:Int):gk (.int k) x=1:=rfl
theorem fT (x:Bool):gk .bool x=1:=rfl
theorem iB (x:Bytes):gk .str x=1:=rfl
theorem fU {a b:CT}(x:a.D×b.D):gk (.pair a b) x=gk a x.1+gk b x.2:=rfl
theorem Ro {k:IntKind}(x k':Int):Ln (.int k) x k'=x:=rfl
theorem MY (x:Bool)(k:Int):Ln .bool x k=x:=rfl
theorem Rp (x:Bytes)(k:Int):Ln .str x k=x:=rfl
theorem MZ {a b:CT}(x:a.D×b.D)(k:Int):Ln (.pair a b) x k=(Ln a x.1 k,Ln b x.2 (k+g8 a x.1)):=rfl
theorem LF {k:IntKind}(x:Int):g8 (.int k) x=0:=rfl
theorem H6 (x:Bool):g8 .bool x=0:=rfl
theorem LG (x:Bytes):g8 .str x=0:=rfl
theorem H7 {a b:CT}(x:a.D×b.D):g8 (.pair a b) x=g8 a x.1+g8 b x.2:=rfl
theorem ne3:¬(3:Int)=0:=by omega
theorem xw {n:Int}(h:¬n<0):decide (n<0)=false:=ae h
theorem kD {α:Type}{l:List α}{i:Nat}(x:α)(h:i<l.length):idx (l.set i x) (i:Int)=some x:=by rw[Et,List.getElem?_set_self h]
theorem IB {e:CT}{T:((List e.D×Int×Int×List e.D)→Option (Int×List e.D))→(List e.D×Int×Int×List e.D)→Option (Int×List e.D)}
 (hs:∀(l:List e.D)(i:Nat)(hi:i<l.length)(k:Int) nx,1≤k→k+gk e l[i]≤1000000000000000→l.length≤1000000000000→bw 1000000000000 e l[i]→
  T nx (l,k,(i:Int),l)=nx (l.set i (mk e l[i] k),k+gk e l[i],(i:Int)+1,l.set i (mk e l[i] k)))
 (hf:∀(l:List e.D)(k:Int) nx,T nx (l,k,(l.length:Int),l)=some (k,l)):
 ∀(xs pre:List e.D)(k:Int)(n:Nat),1≤k→k+gk (.sl e) xs≤1000000000000000→pre.length+xs.length≤1000000000000→(∀x∈xs,bw 1000000000000 e x)→xs.length<n→
  aJ T n (pre++xs,k,(pre.length:Int),pre++xs)=some (k+gk (.sl e) xs,pre++mk (.sl e) xs k)
 |[],pre,k,n,_,_,_,_,hn=>by cases n with|zero=>omega|succ n=>rw[aJ,a9,hf];simp[gk,mk,mkL]
 |x::xs,pre,k,n,h1,h2,h3,h4,hn=>by
  cases n with
  |zero=>omega
  |succ n=>
   have hc:gk (.sl e) (x::xs)=gk e x+gk (.sl e) xs:=by simp[gk]
   have hi:pre.length<(pre++x::xs).length:=by simp
   have hx:(pre++x::xs)[pre.length]=x:=by simp
   simp only[a7]at h3 hn;rw[aJ,hs _ pre.length hi k _ h1 (by rw[hx];omega) (by simp;omega) (by rw[hx];exact h4 x (by simp)),hx];have hset:(pre++x::xs).set pre.length (mk e x k)=(pre++[mk e x k])++xs:=by rw[List.set_append_right _ _ (aM _),dV,List.set_cons_zero,aE];rfl
   have hl:((pre.length:Int)+1)=(((pre++[mk e x k]).length:Nat):Int):=by simp
   rw[hset,hl,IB hs hf xs _ _ n (by omega) (by omega) (by simp;omega) (λy hy=>h4 y (by simp[hy])) (by omega)];rw[hc];congr 1;refine Prod.ext (by simp only;omega) ?_;simp only[mk,mkL,aE,List.singleton_append]
theorem Im {e:CT}{T:List e.D→((Int×Int)→Option Int)→(Int×Int)→Option Int}
 (hs:∀(l:List e.D)(i:Nat)(hi:i<l.length)(x:e.D)(k:Int) nx,l[i]=mk e x k→1≤k→k+gk e x≤1000000000000000→l.length≤1000000000000→bw 1000000000000 e x→
  T l nx (k,(i:Int))=nx (k+gk e x,(i:Int)+1))
 (hf:∀(l:List e.D)(k:Int) nx,T l nx (k,(l.length:Int))=some k):
 ∀(xs pre:List e.D)(k:Int)(n:Nat),1≤k→k+gk (.sl e) xs≤1000000000000000→pre.length+xs.length≤1000000000000→(∀x∈xs,bw 1000000000000 e x)→xs.length<n→
  aJ (T (pre++mk (.sl e) xs k)) n (k,(pre.length:Int))=some (k+gk (.sl e) xs)
 |[],pre,k,n,_,_,_,_,hn=>by
  cases n with
  |zero=>omega
  |succ n=>
   have:pre++mk (.sl e) ([]:List e.D) k=pre:=by simp[mk,mkL]
   rw[aJ,this,hf];simp[gk]
 |x::xs,pre,k,n,h1,h2,h3,h4,hn=>by
  cases n with
  |zero=>omega
  |succ n=>
   have hc:gk (.sl e) (x::xs)=gk e x+gk (.sl e) xs:=by simp[gk]
   have hm:pre++mk (.sl e) (x::xs) k=(pre++[mk e x k])++mk (.sl e) xs (k+gk e x):=by simp[mk,mkL]
   have hlen:∀(ys:List e.D)(k:Int),(mk (.sl e) ys k).length=ys.length:=by intro ys;induction ys with|nil=>intro k;rfl|cons y ys ih=>intro k;have:=ih (k+gk e y);simp only[mk,mkL,a7]at this⊢;omega
   simp only[a7]at h3 hn;rw[aJ,hm,hs _ pre.length (by simp) x k _ (by simp) h1 (by omega) (by have:=hlen xs (k+gk e x);simp;omega) (h4 x (by simp))];have hl:((pre.length:Int)+1)=(((pre++[mk e x k]).length:Nat):Int):=by simp
   rw[hl,Im hs hf xs _ _ n (by omega) (by omega) (by simp;omega) (λy hy=>h4 y (by simp[hy])) (by omega),hc];congr 1;omega
def Jf (t:CT)(mark:t.D→Int→Option (Int×t.D)):Prop:=∀(a:t.D)(_:bw 1000000000000 t a)(k:Int)(_:1≤k)(_:k+gk t a≤1000000000000000),mark a k=some (k+gk t a,mk t a k)
def Je (t:CT)(held:t.D→Int→Option Int):Prop:=∀(a:t.D)(_:bw 1000000000000 t a)(k:Int)(_:1≤k)(_:k+gk t a≤1000000000000000),held (mk t a k) k=some (k+gk t a)
theorem Kz {e:CT}{T:((List e.D×Int×Int×List e.D)→Option (Int×List e.D))→(List e.D×Int×Int×List e.D)→Option (Int×List e.D)}(hs:∀(l:List e.D)(i:Nat)(hi:i<l.length)(k:Int) nx,1≤k→k+gk e l[i]≤1000000000000000→l.length≤1000000000000→bw 1000000000000 e l[i]→ T nx (l,k,(i:Int),l)=nx (l.set i (mk e l[i] k),k+gk e l[i],(i:Int)+1,l.set i (mk e l[i] k)))(hf:∀(l:List e.D)(k:Int) nx,T nx (l,k,(l.length:Int),l)=some (k,l)):Jf (.sl e) (λa k=>aJ T fuel (a,k,0,a)):=by have hfu:=cC;intro a h k h1 h2;have hl:a.length≤1000000000000:=h.1;exact IB hs hf a [] k fuel h1 h2 (by simp;omega) h.2 (by omega)
theorem Ky {e:CT}{H:List e.D→((Int×Int)→Option Int)→(Int×Int)→Option Int}(gs:∀(l:List e.D)(i:Nat)(hi:i<l.length)(x:e.D)(k:Int) nx,l[i]=mk e x k→1≤k→k+gk e x≤1000000000000000→l.length≤1000000000000→bw 1000000000000 e x→ H l nx (k,(i:Int))=nx (k+gk e x,(i:Int)+1))(gf:∀(l:List e.D)(k:Int) nx,H l nx (k,(l.length:Int))=some k):Je (.sl e) (λa k=>aJ (H a) fuel (k,0)):=by have hfu:=cC;intro a h k h1 h2;have hl:a.length≤1000000000000:=h.1;exact Im gs gf a [] k fuel h1 h2 (by simp;omega) h.2 (by omega)
def MtM (t:CT)(mark:t.D→Int→Option (Int×t.D)):Prop:=∀(a:t.D)(_:bw 1000000000000 t a)(k:Int)(_:1≤k)(_:k+g8 t a≤1000000000000000),mark a k=some (k+g8 t a,Ln t a k)
def MtH (t:CT)(held:t.D→Int→Option Int):Prop:=∀(a:t.D)(_:bw 1000000000000 t a)(k:Int)(_:1≤k)(_:k+g8 t a≤1000000000000000),held (Ln t a k) k=some (k+g8 t a)
theorem Jf.top {e:CT}{mark:List e.D→Int→Option (Int×List e.D)}(h:Jf (.sl e) mark):MtM (.sl e) mark:=h
theorem Je.top {e:CT}{held:List e.D→Int→Option Int}(h:Je (.sl e) held):MtH (.sl e) held:=h
def OkW:{t:CT}→On FM t→Prop
 |_,.sl (e:=e) m=>Jf (.sl e) m
 |_,.pair a b=>OkW a∧OkW b
 |_,_=>True
theorem KW {α R:Type}{f:Int→Option Bytes}(hf:∀k,1≤k→k≤1000000000000000→f k=some (ZF k)){l:List α}{i:Nat}(hi:i<l.length):∀{t:CT}(n:On FM t)(_:OkW n)(g:α→t.D)(s:α→t.D→α)(_:∀y v,g (s y v)=v)(_:∀y v w,s (s y v) w=s y w)(x:α)(k:Int)(K:List α→Int→Option R),1≤k→k+gk t (g x)≤1000000000000000→bw 1000000000000 t (g x)→
 xi f (i:Int) n g s (l.set i x) (l.set i x) k K=K (l.set i (s x (mk t (g x) k))) (k+gk t (g x))
 |_,.int _,_,g,s,_,_,x,k,K,h1,h2,_=>by simp only[iz]at h2⊢;rw[xi,kD x hi,ab,ab,ax,dh,wrap64 (by omega) (by omega)];rfl
 |_,.bool,_,g,s,_,_,x,k,K,h1,h2,_=>by simp only[fT]at h2⊢;rw[xi,kD x hi,ab,ab,ax,dh,wrap64 (by omega) (by omega)];rfl
 |_,.str,_,g,s,_,_,x,k,K,h1,h2,_=>by simp only[iB]at h2⊢;rw[xi,hf k h1 (by omega),ab,kD x hi,ab,ab,ax,dh,wrap64 (by omega) (by omega)];rfl
 |_,.sl m,hn,g,s,_,_,x,k,K,h1,h2,h3=>by rw[xi,kD x hi,ab,ab,hn (g x) h3 k h1 h2,ab,ax,dh]
 |_,.pair (a:=ca) (b:=cb) a b,hn,g,s,l1,l2,x,k,K,h1,h2,h3=>by rw[fU]at h2⊢;have e1:=KW (R:=R) hf hi a hn.1 (λy=>(g y).1) (λy v=>s y (v,(g y).2)) (λy v=>by simp only[l1]) (λy v w=>by simp only[l1,l2]) x k;rw[xi,e1 _ h1 (by show k+((gk ca (g x).1:Nat):Int)≤_;omega) h3.1];have e2:=KW (R:=R) hf hi b hn.2 (λy=>(g y).2) (λy v=>s y ((g y).1,v)) (λy v=>by simp only[l1]) (λy v w=>by simp only[l1,l2]) (s x (mk ca (g x).1 k,(g x).2)) (k+gk ca (g x).1) K (by omega) (by simp only[l1];omega) (by simp only[l1];exact h3.2);rw[e2];simp only[l1,l2,wo];congr 1;omega
theorem zF {e:CT}(n:On FM e){T:((List e.D×Int×Int×List e.D)→Option (Int×List e.D))→(List e.D×Int×Int×List e.D)→Option (Int×List e.D)}{f:Int→Option Bytes}(hf:∀k,1≤k→k≤1000000000000000→f k=some (ZF k))(hn:OkW n)(he:∀(l:List e.D)(k i:Int) nx,T nx (l,k,i,l)=cond (decide (i<(l.length:Int))) (xi f i n (λy=>y) (λ_ v=>v) l l k (λL k'=>nx (L,k',ao (i+1),L))) (some (k,l))):Jf (.sl e) (λa k=>aJ T fuel (a,k,0,a)):=by
 refine Kz (λl i hi k nx h1 h2 h3 hx=>?_) (λl k nx=>?_)
 ·have hl:l=l.set i l[i]:=(List.set_getElem_self hi).symm;rw[he,ai (by omega),ah];conv=>lhs;rw[hl]
  rw[KW hf hi n hn (λy=>y) (λ_ v=>v) (λ_ _=>rfl) (λ_ _ _=>rfl) l[i] k _ h1 h2 hx];rw[wrap64 (by omega) (by omega)]
 rw[he,ae (by omega)];rfl
def OkV:{t:CT}→On FH t→Prop
 |_,.sl (e:=e) m=>Je (.sl e) m
 |_,.pair a b=>OkV a∧OkV b
 |_,_=>True
theorem KV {α R:Type}{f:Int→Option Bytes}(hf:∀k,1≤k→k≤1000000000000000→f k=some (ZF k)){v:List α}{i:Nat}(hi:i<v.length)(bad:Int→Option R):∀{t:CT}(n:On FH t)(_:OkV n)(g:α→t.D)(K:Int→Option R)(x:t.D)(k:Int),1≤k→k+gk t x≤1000000000000000→bw 1000000000000 t x→g v[i]=mk t x k→
 xh f (i:Int) v bad n g K k=K (k+gk t x)
 |_,.int _,_,g,K,x,k,h1,h2,_,h4=>by simp only[iz]at h2⊢;have h5:g v[i]=k:=h4;rw[xh,aU hi,ab,h5,eu,af,wrap64 (by omega) (by omega)];rfl
 |_,.bool,_,g,K,x,k,h1,h2,_,h4=>by simp only[fT]at h2⊢;have h5:g v[i]=(Int.tmod k 3==0):=h4;rw[xh,aU hi,ab,h5,ec,al,af,wrap64 (by omega) (by omega)];rfl
 |_,.str,_,g,K,x,k,h1,h2,_,h4=>by simp only[iB]at h2⊢;have h5:g v[i]=ZF k:=h4;rw[xh,aU hi,ab,hf k h1 (by omega),ab,h5,ec,al,af,wrap64 (by omega) (by omega)];rfl
 |_,.sl m,hn,g,K,x,k,h1,h2,h3,h4=>by rw[xh,aU hi,ab,h4,hn x h3 k h1 h2,ab,ae (by omega),af]
 |_,.pair a b,hn,g,K,x,k,h1,h2,h3,h4=>by rw[fU]at h2⊢;rw[wo]at h4;rw[xh,KV hf hi bad a hn.1 _ _ x.1 k h1 (by omega) h3.1 (by simp only[h4]),KV hf hi bad b hn.2 _ _ x.2 _ (by omega) (by omega) h3.2 (by simp only[h4])];congr 1;omega
theorem zE {e:CT}(n:On FH e){H:List e.D→((Int×Int)→Option Int)→(Int×Int)→Option Int}{bad:List e.D→Int→Int→Option Int}{f:Int→Option Bytes}(hf:∀k,1≤k→k≤1000000000000000→f k=some (ZF k))(hn:OkV n)(he:∀(l:List e.D)(k i:Int) nx,H l nx (k,i)=cond (decide (i<(l.length:Int))) (xh f i l (bad l i) n (λy=>y) (λk'=>nx (k',ao (i+1))) k) (some k)):Je (.sl e) (λa k=>aJ (H a) fuel (k,0)):=by refine Ky (λl i hi x k nx hm h1 h2 h3 hx=>?_) (λl k nx=>?_);rw[he,ai (by omega),ah,KV hf hi _ n hn _ _ x k h1 h2 hx hm,wrap64 (by omega) (by omega)];rw[he,ae (by omega)];rfl
theorem Ep:∀{t:CT}{x:t.D},g8 t x≤gk t x
 | .int _,_=>by simp[g8]
 | .bool,_=>by simp[g8]
 | .str,_=>by simp[g8]
 | .sl _,_=>aM _
 | .pair a b,x=>by simp only[g8,gk];exact Nat.add_le_add Ep Ep
def wt:CT→Nat
 | .sl e=>wt e
 | .pair a b=>wt a+wt b
 |_=>1
theorem Jo:∀{t:CT}{x:t.D},gk t x≤wt t*(gC t x+1)
 | .int _,_=>by simp[gk,wt]
 | .bool,_=>by simp[gk,wt]
 | .str,_=>by simp[gk,wt]
 | .sl e,xs=>by
  have h:∀l:List e.D,(l.map (gk e)).sum≤wt e*((l.map (gC e)).sum+l.length):=by
   intro l;induction l with
   |nil=>simp
   |cons y l ih=>
    have:=Jo (t:=e) (x:=y);simp only[bW,List.sum_cons,a7];have e1:wt e*(gC e y+(l.map (gC e)).sum+(l.length+1))=wt e*(gC e y+1)+wt e*((l.map (gC e)).sum+l.length):=by rw[←Nat.mul_add];congr 1;omega
    omega
  have h1:=h xs;simp only[gk,wt,gC];refine aH h1 (Nat.mul_le_mul_left _ (by omega))
 | .pair a b,x=>by have h1:=Jo (t:=a) (x:=x.1);have h2:=Jo (t:=b) (x:=x.2);simp only[gk,wt,gC];rw[bE];exact Nat.add_le_add (aH h1 (Nat.mul_le_mul_left _ (by omega))) (aH h2 (Nat.mul_le_mul_left _ (by omega)))
def Ht (n:Nat):CT→Nat
 | .sl e=>n*Ht n e
 | .pair a b=>Ht n a+Ht n b
 |_=>1
theorem iA {n:Nat}:∀{t:CT}{x:t.D},bw n t x→gk t x≤Ht n t
 | .int _,_,_=>by simp[gk,Ht]
 | .bool,_,_=>by simp[gk,Ht]
 | .str,_,_=>by simp[gk,Ht]
 | .sl e,xs,h=>by
  have h1:∀l:List e.D,(∀x∈l,bw n e x)→(l.map (gk e)).sum≤l.length*Ht n e:=by intro l;induction l with|nil=>simp|cons y l ih=>intro hl;have:=iA (hl y (by simp));have:=ih (λx hx=>hl x (by simp[hx]));simp only[bW,List.sum_cons,a7,bE,dk];omega
  simp only[gk,Ht];exact aH (h1 xs h.2) (bp _ h.1)
 | .pair a b,x,h=>by simp only[gk,Ht];exact Nat.add_le_add (iA h.1) (iA h.2)
theorem Jn {n:Nat}{e:CT}:∀{xs:List e.D},(∀x∈xs,bw n e x)→gk (.sl e) xs≤xs.length*Ht n e
 |[],_=>by simp[gk]
 |y::l,h=>by have h1:=iA (h y (by simp));have h2:=Jn (xs:=l) (λx hx=>h x (by simp[hx]));simp only[gk,bW,List.sum_cons,a7,bE,dk]at h2⊢;omega
structure TK (h:Host):Prop where
 pl:h.2.2.2.2.1.length≤2
 w:h.2.2.1.2.2.1.length≤16
theorem abn {h:Host}(hb:gn h=true):TK h:=by have hl:=qY (by have:=hb;simp only[gn,aj]at this;exact this.2.2.2.2.1:tP h=true);have ht:=Qj (t:=h.2.2.1) (by simp only[gn,aj]at hb;exact hb.2.2.1);exact⟨by omega,ht⟩
theorem F8 {a b:Host}{k:Nat}(f:TK a)(h:ik k a b):TK b:=⟨by rw[h.pl];exact f.pl,by rw[h.tx];exact f.w⟩
theorem Uq {h:Host}(f:TK h):TK (zX h):=by unfold zX;cases gn h with|false=>exact f|true=>exact F8 f (nN yz h _)
theorem Sj {h:Host}(f:TK h):TK (uY h):=by unfold uY;cases gn h with|false=>exact f|true=>exact F8 f (nN vR h _)
theorem Sk {h:Host}(b:Int)(f:TK h):TK (ri h b).1:=by unfold ri;cases gn h&&cq b 1 1000 with|false=>exact f|true=>exact F8 f (uP b h _)
theorem Up {n:Nat}{h:Host}(z:bw n bL h)(f:TK h):gk bL h≤400*(n+1):=by
 have hw:h.2.2.1.2.2.1.length*Ht n dc≤16*Ht n dc:=bp _ f.w;have hp:h.2.2.2.2.1.length*Ht n cE≤2*Ht n cE:=bp _ f.pl;have s:gk bL h=gk (.sl .str) h.1+(gk (.sl aX) h.2.1+((4+(gk cE h.2.2.1.2.1+(gk (.sl dc) h.2.2.1.2.2.1+1)))+(gk (.sl bk) h.2.2.2.1+(gk (.sl cE) h.2.2.2.2.1+(gk (.sl bN) h.2.2.2.2.2.1+(gk (.sl .bool) h.2.2.2.2.2.2.1+(gk fu h.2.2.2.2.2.2.2.1+(gk eg h.2.2.2.2.2.2.2.2.1+(gk (.sl bg) h.2.2.2.2.2.2.2.2.2.1+(1+(gk (.sl .str) h.2.2.2.2.2.2.2.2.2.2.2.1+(gk (.sl (.int .i64)) h.2.2.2.2.2.2.2.2.2.2.2.2.1+(gk (.sl (.int .i64)) h.2.2.2.2.2.2.2.2.2.2.2.2.2.1+5))))))))))))):=by kernel_rfl
 have e1:gk (.sl .str) h.1≤n*1:=aH (iA z.1) (dF (by kernel_rfl));have e2:gk (.sl aX) h.2.1≤n*4:=aH (iA z.2.1) (dF (by kernel_rfl));have e3:=aH (Jn z.2.2.1.2.2.1.2) hw;have e4:gk (.sl bk) h.2.2.2.1≤n*30:=aH (iA z.2.2.2.1) (dF (by kernel_rfl));have e5:=aH (Jn z.2.2.2.2.1.2) hp;have e6:gk (.sl bN) h.2.2.2.2.2.1≤n*6:=aH (iA z.2.2.2.2.2.1) (dF (by kernel_rfl));have e7:gk (.sl .bool) h.2.2.2.2.2.2.1≤n*1:=aH (iA z.2.2.2.2.2.2.1) (dF (by kernel_rfl));have e8:gk fu h.2.2.2.2.2.2.2.1≤1+(1+n*1):=aH (iA z.2.2.2.2.2.2.2.1) (dF (by kernel_rfl));have e9:gk eg h.2.2.2.2.2.2.2.2.1≤Ht n eg:=iA z.2.2.2.2.2.2.2.2.1;have e10:gk (.sl bg) h.2.2.2.2.2.2.2.2.2.1≤n*8:=aH (iA z.2.2.2.2.2.2.2.2.2.1) (dF (by kernel_rfl));have e11:gk (.sl .str) h.2.2.2.2.2.2.2.2.2.2.2.1≤n*1:=aH (iA z.2.2.2.2.2.2.2.2.2.2.2.1) (dF (by kernel_rfl));have e12:gk (.sl (.int .i64)) h.2.2.2.2.2.2.2.2.2.2.2.2.1≤n*1:=aH (iA z.2.2.2.2.2.2.2.2.2.2.2.2.1) (dF (by kernel_rfl));have e13:gk (.sl (.int .i64)) h.2.2.2.2.2.2.2.2.2.2.2.2.2.1≤n*1:=aH (iA z.2.2.2.2.2.2.2.2.2.2.2.2.2.1) (dF (by kernel_rfl));have e14:gk cE h.2.2.1.2.1≤1+(1+(1+n*1)):=aH (iA z.2.2.1.2.1) (dF (by kernel_rfl));have q1:Ht n dc=1+(1+n*1):=by kernel_rfl
 have q2:Ht n cE=1+(1+(1+n*1)):=by kernel_rfl
 have q3:Ht n eg=n*9+(n*7+(1+n*1)):=by kernel_rfl
 rw[s];omega
def YD:aF:=(0,0,(0,0,0),false,0,0)
def Aa (b:Int×Int×Int):Bool:=cq b.1 0 10000&&(cq b.2.1 0 100000&&cq b.2.2 0 b.2.1)
def Gd (n:Int)(f:aF):Bool:=cq f.1 0 7&&(cq f.2.1 1 (ao (n-1))&&(Aa f.2.2.1&&(cq f.2.2.2.2.1 0 1000000000000&&cq f.2.2.2.2.2 0 1000000000000)))
def Uu (f g:aF):Bool:=(g.1==f.1)||(g.2.1==f.2.1)
def fnB (l:List aF)(n:Int)(i:Nat):Bool:=Gd n (l.getD i YD)&&(List.range i).all (λj=> !(Uu (l.getD i YD) (l.getD j YD)))
def iY (l:List aF)(ps:List Port):Bool:=nW ps&&(List.range l.length).all (fnB l (ps.length:Int))
theorem G2 (b:Int×Int×Int):sM b=some (Aa b):=by simp only[sM,cc,ab,ba,cF,Aa]
theorem O0 (b:Int×Int×Int):wE b=some (Aa b):=G2 b
theorem HT (l:List aF)(ps:List Port)(h:l.length≤1000000000)(h1:ps.length≤1000000000)(h2:∀p∈ps,p.2.1.length≤1000000000):nC l ps=some (iY l ps):=by
 unfold nC iY;rw[eO (hit:=some false) (fin:=some true) (fnB l (ps.length:Int)) l.length (by omega) (λi nx hi=>?hs) (λnx=>?hf)]
 case hs=>
  simp only[jy]
  rw[ai (by omega),aU hi,wrap64 (n:=(i:Int)+1) (by omega) (by omega)]
  simp only[ah,ab,cc,G2,ba,cT]
  rw[eO (hit:=some false) (fin:=nx ((i:Int)+1)) (λj=> !(Uu l[i] (l.getD j YD))) i (by omega) (λj nx' hj=>?hs2) (λnx'=>?hf2)]
  case hs2=>
   have hjl:j<l.length:=by omega
   simp only[iR]
   rw[ai (by omega),aU hjl,wrap64 (n:=(j:Int)+1) (by omega) (by omega)]
   simp only[ah,ab,ba,cT,cD hjl,cY];rfl
  case hf2=>
   simp only[iR]
   rw[ae (by omega)];rfl
  simp only[fnB,cD hi]
  rw[show(!cq l[i].1 0 7||(!cq l[i].2.1 1 (ao ((ps.length:Int)-1))||(!Aa l[i].2.2.1||(!cq l[i].2.2.2.2.1 0 1000000000000|| !cq l[i].2.2.2.2.2 0 1000000000000))))= !Gd (ps.length:Int) l[i] by unfold Gd;simp only[fF]]
  cases Gd (ps.length:Int) l[i]<;>cases (List.range i).all (λj=> !(Uu l[i] (l.getD j YD)))<;>rfl
 case hf=>
  simp only[jy]
  rw[ae (by omega)];rfl
 simp only[IX ps h1 h2,ab];cases nW ps<;>cases (List.range l.length).all (fnB l (ps.length:Int))<;>rfl
theorem HE (l:List aF)(ps:List Port)(h:l.length≤1000000000)(h1:ps.length≤1000000000)(h2:∀p∈ps,p.2.1.length≤1000000000):m9 l ps=some (iY l ps):=by
 unfold m9 iY;rw[eO (hit:=some false) (fin:=some true) (fnB l (ps.length:Int)) l.length (by omega) (λi nx hi=>?hs) (λnx=>?hf)]
 case hs=>
  simp only[jn]
  rw[ai (by omega),aU hi,wrap64 (n:=(i:Int)+1) (by omega) (by omega),NT l i (by omega)]
  simp only[ah,ab,cz,O0,ba,cT]
  have hti:(l.take i).length=i:=by simp;omega
  rw[hti,eO (hit:=some false) (fin:=nx ((i:Int)+1)) (λj=> !(Uu l[i] (l.getD j YD))) i (by omega) (λj nx' hj=>?hs2) (λnx'=>?hf2)]
  case hs2=>
   have hjl:j<l.length:=by omega
   have hjt:j<(l.take i).length:=by omega
   simp only[jo]
   rw[ai (by omega),aU hjt,wrap64 (n:=(j:Int)+1) (by omega) (by omega),List.getElem_take]
   simp only[ah,ab,ba,cT,cD hjl,cY];rfl
  case hf2=>
   simp only[jo]
   rw[ae (by omega)];rfl
  simp only[fnB,cD hi]
  rw[show(!cq l[i].1 0 7||(!cq l[i].2.1 1 (ao ((ps.length:Int)-1))||(!Aa l[i].2.2.1||(!cq l[i].2.2.2.2.1 0 1000000000000|| !cq l[i].2.2.2.2.2 0 1000000000000))))= !Gd (ps.length:Int) l[i] by unfold Gd;simp only[fF]]
  cases Gd (ps.length:Int) l[i]<;>cases (List.range i).all (λj=> !(Uu l[i] (l.getD j YD)))<;>rfl
 case hf=>
  simp only[jn]
  rw[ae (by omega)];rfl
 simp only[Ir ps h1 h2,ab];cases nW ps<;>cases (List.range l.length).all (fnB l (ps.length:Int))<;>rfl
def wK (l:List aF)(i:Nat):Bool:=((l.getD i YD).1==(i:Int))&&((l.getD i YD).2.1==(i:Int)+1)
theorem O7 (l:List aF)(h:l.length≤1000000000):qm l=some ((List.range l.length).all (wK l)):=by
 unfold qm;rw[eO (hit:=some false) (fin:=some true) (wK l) l.length (by omega) (λi nx hi=>?hs) (λnx=>?hf)]
 case hs=>
  simp only[lY]
  rw[ai (by omega),aU hi,wrap64 (n:=(i:Int)+1) (by omega) (by omega)]
  simp only[ah,ab,ba,cT,bne,wK,cD hi]
  cases l[i].1==(i:Int)<;>cases l[i].2.1==(i:Int)+1<;>rfl
 case hf=>
  simp only[lY]
  rw[ae (by omega)];rfl
 cases (List.range l.length).all (wK l)<;>rfl
theorem K3 (a b:Filter)(h:a.2.2.length≤1000000000):pt a b=some (Es a b):=Cb a b h
theorem Ge:∀(ms:List bm)(i:Nat)(s:List Int×List Port),Lp i s→ms.all pK=true→Lp (i+ms.length) (ms.foldl Ba s)
 |[],i,s,h,_=>h
 |m::ms,i,s,h,hm=>by rw[bD,aj]at hm;have hu:=xo m.1.2.2 s.1;have hl:=w9 hm.1;have:=Ge ms (i+1) (Ba s m) (h.port hm.1 _ (by omega)) hm.2;rw[List.foldl_cons,a7,show i+(ms.length+1)=i+1+ms.length by omega];exact this
theorem Nm {ms:List bm}(h:(jc ms).2=true):ms.length≤3:=by unfold jc at h;cases hq:cq (ms.length:Int) 1 3&&(ms.all pK&&nW (wq ms))with|false=>rw[hq]at h;cases h|true=>simp only[aj]at hq;have:=cv.1 hq.1;omega
theorem II (ms:List bm):(jc ms).1.length≤1000000000∧∀p∈(jc ms).1,p.2.1.length≤1000000000:=by unfold jc;cases hc:cq (ms.length:Int) 1 3&&(ms.all pK&&nW (wq ms))with|false=>exact⟨by simp,by simp⟩|true=>simp only[aj,cv]at hc;have:=Ge ms 0 ([0],[]) ⟨by simp,rfl,by simp⟩ hc.2.1;rw[bJ]at this;exact zI this (by omega)
def YG (v:Int)(b:Bytes):Bytes:=((ez v++ez (b.length:Int))++b)++ez (LH ((ez v++ez (b.length:Int))++b))
def iv (v:Int)(b:Bytes):Bytes×Bool:=bif cq v 0 1000000&&decide (b.length≤84) then(YG v b,true) else([],false)
theorem V0 (v:Int)(b:Bytes)(h:b.length≤1000000000):ry v b=some (iv v b):=by have l1:=cy v;have l2:=cy (b.length:Int);unfold ry iv;rw[wrap64 (by omega) (by omega)];simp only[cc,ab];cases cq v 0 1000000 with|false=>rfl|true=>by_cases hb:b.length≤84;have l3:=cy (LH ((ez v++ez (b.length:Int))++b));rw[ae (show¬((b.length:Int)+12>96) by omega),ai hb];simp only[al,af,ab,dY,ah,jg];rw[aK (by omega),aK (by simp only[ak];omega),Zk _ (by simp only[ak];omega)];simp only[ab,jg];rw[aK (by simp only[ak];omega)];rfl;rw[ai (show((b.length:Int)+12>96) by omega),ae hb];rfl
theorem UW (v:Int)(b:Bytes)(h:b.length≤1000000000):qc v b=some (iv v b):=by have l1:=cy v;have l2:=cy (b.length:Int);unfold qc iv;rw[wrap64 (by omega) (by omega)];simp only[cz,ab];cases cq v 0 1000000 with|false=>rfl|true=>by_cases hb:b.length≤84;have l3:=cy (LH ((ez v++ez (b.length:Int))++b));rw[ae (show¬(12+(b.length:Int)>96) by omega),ai hb];simp only[al,af,ab,dY,ah,po];rw[aK (by omega),aK (by simp only[ak];omega),YH _ (by simp only[ak];omega)];simp only[ab,po];rw[aK (by simp only[ak];omega)];rfl;rw[ai (show(12+(b.length:Int)>96) by omega),ae hb];rfl
def Yb (s:Bytes)(n:Nat):Int:=bif (iv (dK s 0) ((s.take (8+n)).drop 8)).2&&((iv (dK s 0) ((s.take (8+n)).drop 8)).1==s.take (12+n)) then dK s 0 else-1
def nQ (s:Bytes):Int:=if 0≤dK s 4∧dK s 4≤(s.length:Int)-12 then Yb s (dK s 4).toNat else-1
theorem Mv (s:Bytes)(a:Int): -1≤dK s a∧dK s a≤4294967295:=by unfold dK;cases dA s a 4 with|false=>simp only[af];omega|true=>have b0:=db s a.toNat;have b1:=db s (a.toNat+1);have b2:=db s (a.toNat+2);have b3:=db s (a.toNat+3);simp only[ah];omega
theorem TG {s:Bytes}{n:Nat}(h:¬n≤84)(hs:n+12≤s.length):Yb s n= -1:=by
 have:(iv (dK s 0) ((s.take (8+n)).drop 8)).2=false:=by unfold iv;rw[ae (by simp only[aV,bt];omega),gh];rfl
 unfold Yb;rw[this];rfl
theorem RB (s:Bytes)(h:s.length≤1000000000):iT s=some (nQ s):=by
 unfold iT nQ;have hg:=Mv s 4;simp only[rT s _ h,cc,ab];rw[wrap64 (n:=dK s 4+12) (by omega) (by omega),wrap64 (n:=8+dK s 4) (by omega) (by omega)];generalize dK s 4=n at hg;by_cases hc:0≤n∧n≤(s.length:Int)-12;rw[ay hc];obtain⟨m,rfl⟩:=aO hc.1;by_cases h84:m≤84;have e1:cq (m:Int) 0 84=true:=cv.2 (by omega);have e2:sub s 8 (8+(m:Int))=some ((s.take (8+m)).drop 8):=by unfold sub;rw[ay (by omega)];rfl
 have e3:sub s 0 ((m:Int)+12)=some (s.take (12+m)):=by unfold sub;rw[ay (by omega),show((m:Int)+12).toNat=12+m by omega];rfl
 rw[e1,ae (show¬((m:Int)+12>(s.length:Int)) by omega),e2,e3];simp only[al,af,ab,ax];rw[V0 _ _ (by simp only[aV,bt];omega)];unfold Yb;simp only[ab];cases (iv (dK s 0) ((s.take (8+m)).drop 8)).2<;>cases ((iv (dK s 0) ((s.take (8+m)).drop 8)).1==s.take (12+m))<;>rfl;have e1:cq (m:Int) 0 84=false:=by rw[Bool.eq_false_iff,ne_eq,cv];omega
 rw[e1,ax,TG h84 (by omega)];rfl;rw[aq hc];by_cases hb:cq n 0 84=true;have:=cv.1 hb;rw[hb,ai (show n+12>(s.length:Int) by omega)];rfl;have hb':cq n 0 84=false:=by simpa using hb
 rw[hb'];rfl
theorem Rf (s:Bytes)(h:s.length≤1000000000):iG s=some (nQ s):=by
 unfold iG nQ;have hg:=Mv s 4;simp only[uM s _ h,ab];rw[wrap64 (n:=12+dK s 4) (by omega) (by omega),wrap64 (n:=8+dK s 4) (by omega) (by omega),wrap64 (n:=(s.length:Int)-12) (by omega) (by omega)];generalize dK s 4=n at hg;by_cases hc:0≤n∧n≤(s.length:Int)-12;rw[ay hc];obtain⟨m,rfl⟩:=aO hc.1;have e2:sub s 8 (8+(m:Int))=some ((s.take (8+m)).drop 8):=by unfold sub;rw[ay (by omega)];rfl
 have e3:sub s 0 (12+(m:Int))=some (s.take (12+m)):=by unfold sub;rw[ay (by omega),show(12+(m:Int)).toNat=12+m by omega];rfl
 rw[ae (show¬((m:Int)<0) by omega),ae (show¬((m:Int)>(s.length:Int)-12) by omega),e2,e3];simp only[af,ab,ax];rw[UW _ _ (by simp only[aV,bt];omega)];unfold Yb;simp only[ab];cases (iv (dK s 0) ((s.take (8+m)).drop 8)).2<;>cases ((iv (dK s 0) ((s.take (8+m)).drop 8)).1==s.take (12+m))<;>rfl;rw[aq hc];by_cases h0:n<0;rw[ai h0];rfl;rw[ae h0,ai (show n>(s.length:Int)-12 by omega)];rfl
def zk (f:List Bytes):Bool:=((f.length:Int)==2)&&((((f.getD 0 []).length:Int)==96)&&(((f.getD 1 []).length:Int)==96))
theorem Ii {f:List Bytes}(h:zk f=true):f=[f.getD 0 [],f.getD 1 []]∧(f.getD 0 []).length=96∧(f.getD 1 []).length=96:=by simp only[zk,aj,bj]at h;match f,h with|[a,b],h=>have h1:(a.length:Int)=96:=h.2.1;have h2:(b.length:Int)=96:=h.2.2;exact⟨rfl,by show a.length=96;omega,by show b.length=96;omega⟩
theorem IU (f:List Bytes):uq f=some (zk f):=by
 unfold uq zk;match f with
 |[]=>rfl
 |[a]=>rfl
 |[a,b]=>have i0:idx [a,b] 0=some a:=rfl;have i1:idx [a,b] 1=some b:=rfl;rw[i0,i1];simp only[ab,ba,cF];rfl
 |a::b::c::r=>
  have:(((a::b::c::r).length:Int)==2)=false:=by simp only[a7,beq_eq_false_iff_ne];omega
  rw[this];rfl
theorem Ss (f:List Bytes):xH f=some (zk f):=IU f
def rM (f:List Bytes):Int:=bif zk f then(if nQ (f.getD 0 [])<0∧nQ (f.getD 1 [])<0 then-1 else if nQ (f.getD 1 [])>nQ (f.getD 0 []) then 1 else 0) else-1
theorem VO (f:List Bytes):sL f=some (rM f):=by unfold sL rM;rw[IU,ab];cases hf:zk f with|false=>rfl|true=>obtain⟨e,l0,l1⟩:=Ii hf;generalize f.getD 0 []=a at*;generalize f.getD 1 []=b at*;subst e;have i0:idx [a,b] 0=some a:=rfl;have i1:idx [a,b] 1=some b:=rfl;simp only[al,af,ah,i0,i1,ab,RB a (by omega),RB b (by omega)];by_cases p:nQ a<0<;>by_cases q:nQ b<0<;>by_cases r:nQ b>nQ a<;>simp[p,q,r]
theorem UJ (f:List Bytes):se f=some (rM f):=by
 unfold se rM;rw[Ss,ab];cases hf:zk f with
 |false=>rfl
 |true=>
  obtain⟨e,l0,l1⟩:=Ii hf;generalize f.getD 0 []=a at*;generalize f.getD 1 []=b at*;subst e;have i0:idx [a,b] 0=some a:=rfl;have i1:idx [a,b] 1=some b:=rfl;simp only[al,af,ah,i0,i1,ab,Rf a (by omega),Rf b (by omega)];by_cases r:nQ b>nQ a;have r':¬nQ a≥nQ b:=by omega
  by_cases p:nQ a<0<;>by_cases q:nQ b<0<;>simp[p,q,r,r'];have r':nQ a≥nQ b:=by omega
  by_cases p:nQ a<0<;>by_cases q:nQ b<0<;>simp[p,q,r,r']
def xv (c:Int×Int×Int×Int):Bool:=cq c.1 0 1125899906842624&&(cq c.2.1 0 1048575&&(cq c.2.2.1 0 67108864&&cq c.2.2.2 0 1099511627776))
theorem IT (c:Int×Int×Int×Int):um c=some (xv c):=by simp only[um,cc,ab,ba,cF,xv]
theorem Sr (c:Int×Int×Int×Int):xF c=some (xv c):=IT c
def xu (c:dP)(i:Nat):Bool:=(c.1[i]?.all gn)&&Es (c.1[i]?.map (·.2.2.2.2.2.2.2.1)) (c.2.2.1[i]?.map (·.1))
def Co (c:dP):Bool:=((c.1.length:Int)==(c.2.2.1.length:Int))&&((c.2.1.length:Int)==(c.2.2.1.length:Int))
def wT (c:dP):Bool:=(jc c.2.2.1).2&&(Co c&&(iY c.2.1 (jc c.2.2.1).1&&((!decide (rM c.2.2.2.1<0)&&xv c.2.2.2.2.1)&&((List.range c.1.length).all (xu c)&&(List.range c.1.length).all (wK c.2.1)))))
structure Ol (c:dP):Prop where
 h0:c.1.length≤1000000000
 f0:c.2.1.length≤1000000000
 m:∀m∈c.2.2.1,m.1.2.2.length≤1000000000
 h1:∀h∈c.1,CX h
theorem Al {c:dP}(h:Co c=true):c.1.length=c.2.2.1.length∧c.2.1.length=c.2.2.1.length:=by unfold Co at h;simp only[aj,bj]at h;omega
theorem Bi {c:dP}(i:Nat)(hi:i<c.1.length)(hj:i<c.2.2.1.length):xu c i=(gn c.1[i]&&Es c.1[i].2.2.2.2.2.2.2.1 c.2.2.1[i].1):=by unfold xu;rw[List.getElem?_eq_getElem hi,List.getElem?_eq_getElem hj];congr 1;apply Kf;rw[Ac];simp
theorem TS:∀(l:List Nat)(p q:Nat→Bool),l.all (λx=>p x&&q x)=(l.all p&&l.all q):=by intro l p q;induction l with|nil=>rfl|cons x l ih=>simp only[bD,ih];cases p x<;>cases q x<;>cases l.all p<;>rfl
theorem VQ (c:dP)(z:Ol c):wz c=some (wT c):=by
 have hp:=II c.2.2.1;unfold wz wT;simp only[NL _ z.m,HT _ _ z.f0 hp.1 hp.2,VO,IT,ab,ba,cT,bne];rw[show((!((c.1.length:Int)==(c.2.2.1.length:Int)))||((!((c.2.1.length:Int)==(c.2.2.1.length:Int)))||((!iY c.2.1 (jc c.2.2.1).1)||(decide (rM c.2.2.2.1<0)|| !xv c.2.2.2.2.1))))= !(Co c&&(iY c.2.1 (jc c.2.2.1).1&&(!decide (rM c.2.2.2.1<0)&&xv c.2.2.2.2.1))) by unfold Co;simp only[fF,Bool.or_assoc,cY]];cases (jc c.2.2.1).2 with|false=>rfl|true=>?_
 cases hl:Co c with|false=>rfl|true=>?_
 cases iY c.2.1 (jc c.2.2.1).1 with|false=>rfl|true=>?_
 cases (!decide (rM c.2.2.2.1<0)&&xv c.2.2.2.2.1)with|false=>rfl|true=>?_
 have hL:=Al hl;have h0:=z.h0;simp only[al,cB,Bool.and_true,af,bn];rw[eO (hit:=some false) (fin:=some true) (λi=>xu c i&&wK c.2.1 i) c.2.2.1.length (by omega) (λi nx hi=>?hs) (λnx=>?hf)]
 case hs=>
  have q1:i<c.1.length:=by omega
  have q2:i<c.2.1.length:=by omega
  have hm:=aW q1
  rw[Bi i q1 hi]
  simp only[rk]
  rw[ai (by omega),aU q1,aU hi,aU q2,wrap64 (n:=(i:Int)+1) (by omega) (by omega)]
  simp only[ah,ab,xl _ (z.h1 _ hm),K3 _ _ (z.h1 _ hm).f1,ba,cT,bne,wK,cD q2]
  cases gn c.1[i]<;>cases Es c.1[i].2.2.2.2.2.2.2.1 c.2.2.1[i].1<;>cases c.2.1[i].1==(i:Int)<;>cases c.2.1[i].2.1==(i:Int)+1<;>rfl
 case hf=>
  simp only[rk]
  rw[ae (by omega)];rfl
 rw[TS,←hL.1];cases (List.range c.1.length).all (xu c)<;>cases (List.range c.1.length).all (wK c.2.1)<;>rfl
theorem UL (c:dP)(z:Ol c):vS c=some (wT c):=by
 have hp:=II c.2.2.1;unfold vS wT;simp only[MK _ z.m,HE _ _ z.f0 hp.1 hp.2,O7 _ z.f0,UJ,Sr,ab,ba,cT,cF,bne];rw[show((!((c.1.length:Int)==(c.2.2.1.length:Int)))|| !((c.2.1.length:Int)==(c.2.2.1.length:Int)))= !(Co c) by unfold Co;simp only[fF]];cases (jc c.2.2.1).2 with|false=>rfl|true=>?_
 cases hl:Co c with|false=>rfl|true=>?_
 have hL:=Al hl;have h0:=z.h0;simp only[al,cB,af,bn];have hd:decide (rM c.2.2.2.1≥0)= !decide (rM c.2.2.2.1<0):=by by_cases h:rM c.2.2.2.1<0;rw[ai h,ae (by omega)];rfl;rw[ae h,ai (by omega)];rfl
 rw[hd,eO (hit:=some false) (fin:=some (iY c.2.1 (jc c.2.2.1).1&&((List.range c.2.1.length).all (wK c.2.1)&&(!decide (rM c.2.2.2.1<0)&&xv c.2.2.2.2.1)))) (xu c) c.1.length (by omega) (λi nx hi=>?hs) (λnx=>?hf)]
 case hs=>
  have q1:i<c.2.2.1.length:=by omega
  have hm:=aW hi
  rw[Bi i hi q1]
  simp only[p4]
  rw[ai (by omega),aU hi,aU q1,wrap64 (n:=(i:Int)+1) (by omega) (by omega)]
  simp only[ah,ab,Cc _ (z.h1 _ hm),Cb _ _ (z.h1 _ hm).f1,ba,cT]
  cases gn c.1[i]<;>cases Es c.1[i].2.2.2.2.2.2.2.1 c.2.2.1[i].1<;>rfl
 case hf=>
  simp only[p4]
  rw[ae (by omega)];rfl
 rw[hL.2,←hL.1];cases (List.range c.1.length).all (xu c)<;>cases (List.range c.1.length).all (wK c.2.1)<;>cases iY c.2.1 (jc c.2.2.1).1<;>cases (!decide (rM c.2.2.2.1<0)&&xv c.2.2.2.2.1)<;>rfl
theorem map_take {α β:Type}(f:α→β)(l:List α)(i:Nat)(hi:i<l.length):(l.take i).map f++[f l[i]]=(l.take (i+1)).map f:=by rw[bh hi,List.map_append];rfl
theorem Ed (m:bm)(h:m.1.2.2.length≤1000000000):nm m=some m:=by simp only[nm,zv _ h,ab]
theorem Ek (m:bm)(h:m.1.2.2.length≤1000000000):uG m=some m:=by simp only[uG,zO _ h,ab]
theorem HB (l:List bm)(h:l.length≤1000000000)(hx:∀m∈l,m.1.2.2.length≤1000000000):qj l=some l:=by unfold qj;refine(cS (λi=>(l.take i,(i:Int))) l.length (by omega) (λi nx hi=>?_) (λnx=>?_));simp only[lW];rw[ai (by omega),aU hi,wrap64 (by omega) (by omega)];simp only[ah,ab,Ed _ (hx _ (aW hi))];rw[aK (by simp;omega),←bh hi];rfl;simp only[lW];rw[ae (by omega),cr];rfl
theorem B9 (l:List aF)(h:l.length≤1000000000):kL l=some l:=by simp only[kL,dw h,bc]
theorem Kl (c:dP)(z:bw 1000000000 ef c):su c=some c:=by have h0:c.1.length≤1000000000:=z.1.1;unfold su;simp only[B9 _ z.2.1.1,HB _ z.2.2.1.1 (λm hm=>(z.2.2.1.2 m hm).1.2.2.1),u5,tD _ z.2.2.2.1.1,kv _ z.2.2.2.2.2.1.1,tD _ z.2.2.2.2.2.2.1,ab];refine(cS (λi=>((i:Int),c.1.take i,c.2)) c.1.length (by omega) (λi nx hi=>?_) (λnx=>?_));simp only[nj];rw[ai (by omega),aU hi,wrap64 (by omega) (by omega)];simp only[ah,ab,tV _ (z.1.2 _ (aW hi))];rw[aK (by simp;omega),←bh hi];rfl;simp only[nj];rw[ae (by omega),cr];rfl
theorem K0 (c:dP)(z:bw 1000000000 ef c):uH c=some c:=by have h0:c.1.length≤1000000000:=z.1.1;have h1:c.2.2.1.length≤1000000000:=z.2.2.1.1;unfold uH;simp only[dw z.2.1.1,dw z.2.2.2.1.1,dw z.2.2.2.2.2.1.1,dw z.2.2.2.2.2.2.1,bc];refine(cS (λi=>((i:Int),c.1.take i,c.2.1,([]:List bm),c.2.2.2)) c.1.length (by omega) (λi nx hi=>?_) (λnx=>?_));simp only[pg];rw[ai (by omega),aU hi,wrap64 (by omega) (by omega)];simp only[ah,ab,uk _ (z.1.2 _ (aW hi))];rw[aK (by simp;omega),←bh hi];rfl;simp only[pg];rw[ae (by omega),cr];refine(cS (λi=>((i:Int),c.1,c.2.1,c.2.2.1.take i,c.2.2.2)) c.2.2.1.length (by omega) (λi nx hi=>?_) (λnx=>?_));simp only[ph];rw[ai (by omega),aU hi,wrap64 (by omega) (by omega)];simp only[ah,ab,Ek _ (z.2.2.1.2 _ (aW hi)).1.2.2.1];rw[aK (by simp;omega),←bh hi];rfl;simp only[ph];rw[ae (by omega),cr];rfl
structure Qo (n:Nat) (c:dP):Prop where
 z:bw n ef c
 h:∀x∈c.1,DK n x
theorem Qo.mono {n m:Nat}{c:dP}(k:Qo n c)(hn:n≤m):Qo m c:=⟨k.z.mono hn,λx hx=>(k.h x hx).mono hn⟩
theorem Qo.sz {n:Nat}{c:dP}(k:Qo n c)(hn:n≤1000000000):Ol c:=by have z:bw 1000000000 ef c:=k.z.mono hn;exact⟨z.1.1,z.2.1.1,λm hm=>(z.2.2.1.2 m hm).1.2.2.1,λx hx=>(k.h x hx).sz hn⟩
theorem Qo.of {c:dP}(k:gC ef c≤1048576):Qo 1048576 c:=by
 refine⟨Az k,λh hh=>DK.of ?_⟩;have h1:=Bz (gC bL) c.1 h hh;have h2:(c.1.map (gC bL)).sum≤gC ef c:=by show _≤(c.1.length+(c.1.map (gC bL)).sum)+_;omega
 omega
theorem Bj {c:dP}(h:wT c=true):(jc c.2.2.1).1.length=c.1.length+1∧(jc c.2.2.1).1.length≤8∧c.1.length≤3:=by unfold wT at h;simp only[aj]at h;have hl:=(Al h.2.1).1;have h2:=h.1;have h3:=Nm h2;unfold jc at h2⊢;cases hc:cq (c.2.2.1.length:Int) 1 3&&(c.2.2.1.all pK&&nW (wq c.2.2.1))with|false=>rw[hc]at h2;cases h2|true=>simp only[aj]at hc;have:=(Ge c.2.2.1 0 ([0],[]) ⟨by simp,rfl,by simp⟩ hc.2.1).2.1;have h8:=hc.2.2;simp only[nW,aj,cv]at h8;simp only[ah];refine⟨?_,by omega,by omega⟩;simp only[wq,a7];rw[this,hl];omega
theorem LD {c:dP}(h:gC ef c≤1048576):g8 ef c≤600000000000000:=by
 have c0:gk ef c≤wt ef*(gC ef c+1):=Jo;have w0:wt ef≤1000:=by decide
 have c2:gk ef c≤1000*(gC ef c+1):=aH c0 (bp _ w0);have c1:g8 ef c≤gk ef c:=Ep;omega
theorem Ob {α:Type}(f:α→α)(l:List α)(i:Nat)(h:i<l.length):((l.take i).map f++l.drop i).set i (f l[i])=(l.take (i+1)).map f++l.drop (i+1):=by
 have e:((l.take i).map f).length=i:=by simp;omega
 rw[List.set_append_right _ _ (by omega),e,dV,bA h,List.set_cons_zero,bh h,List.map_append,aE];rfl
theorem Oa {α:Type}(f:α→α)(l:List α)(i:Nat)(h:i<l.length)(h2:i<((l.take i).map f++l.drop i).length):((l.take i).map f++l.drop i)[i]=l[i]:=by
 have e:((l.take i).map f).length=i:=by simp;omega
 rw[List.getElem_append_right (by omega)];simp only[e,dV,List.getElem_drop,ck]
theorem Ho {α:Type}(f:α→α)(l:List α)(i:Nat)(h:i≤l.length):((l.take i).map f++l.drop i).length=l.length:=by simp;omega
theorem O1 {R:Type}(K:Int→Host→Option R)(b:Int)(r:Nat)(hr:r≤200)(h:Host)(z:DK 200000000 h)(v8 v29 v30:Int)(b6 b7:dP): aJ (jH K b (r:Int) v8 v29 v30 b6 b7) fuel (0,h)=K (r:Int) (xx b r h):=by have hfu:=cC;refine cS (λi=>((i:Int),xx b i h)) r (by omega) (λi nx hi=>?_) (λnx=>?_);have zi:=Ab b (by omega) z i;have z2:=He (by omega) zi;simp only[jH];rw[ai (by omega),ah,U4 _ (zi.sz (by omega)) (zi.z.mono (by omega)),ab,MN _ b (z2.mono (by omega)),ab,wrap64 (by omega) (by omega)];rfl;simp only[jH];rw[ae (by omega),af]
theorem PU {R:Type}(K:Int→Host→Option R)(b:Int)(r:Nat)(hr:r≤200)(h:Host)(z:DK 200000000 h)(v8:Int)(b3 b6 b7:dP): aJ (ki K b (r:Int) v8 b3 b6 b7) fuel (0,h)=K (r:Int) (xx b r h):=by have hfu:=cC;refine cS (λi=>((i:Int),xx b i h)) r (by omega) (λi nx hi=>?_) (λnx=>?_);have zi:=Ab b (by omega) z i;have z2:=He (by omega) zi;simp only[ki];rw[ai (by omega),ah,V8 _ (zi.sz (by omega)) (zi.z.mono (by omega)),ab,NN _ b (z2.mono (by omega)),ab,wrap64 (by omega) (by omega)];rfl;simp only[ki];rw[ae (by omega),af]
def nY (b:Int)(r:Nat)(h:Host):Host:=xx b r (uY h)
def AK (c:dP)(b r:Int):dP:=bif wT c&&(cq b 1 1000&&cq r 0 200) then(c.1.map (nY b r.toNat),c.2) else c
theorem UK (c:dP)(b r:Int)(k:Qo 200000000 c):n4 c b r=some (AK c b r):=by
 have hfu:=cC;unfold n4 AK;rw[Kl c (k.z.mono (by omega)),ab,UL c (k.sz (by omega)),cz,cz];simp only[ab];cases hb:wT c with|false=>rfl|true=>?_
 cases hi0:cq b 1 1000 with|false=>rfl|true=>?_
 cases hi1:cq r 0 200 with|false=>rfl|true=>?_
 have hr:=cv.1 hi1;obtain⟨r,rfl⟩:=aO hr.1;have h3:=(Bj hb).2.2;simp only[al,af,ab,dY,ah,ax];refine cS (λi=>((i:Int),((c.1.take i).map (nY b r)++c.1.drop i,c.2))) c.1.length (by omega) (λi nx hi=>?_) (λnx=>?_);have hl:=Ho (nY b r) c.1 i (by omega);have hg:=Oa (nY b r) c.1 i hi;have hs:=Ob (nY b r) c.1 i hi;have hx:=k.h _ (aW hi);generalize (c.1.take i).map (nY b r)++c.1.drop i=W at hl hg hs⊢;have hW:i<W.length:=by omega
 simp only[m6];rw[ai (by omega),ah,aU hW,ab,hg,O4 _ (hx.mono (by omega)),ab,O1 _ b r (by omega) _ (C7 (by omega) hx)];simp only[ab,ax];rw[wrap64 (by omega) (by omega),show xx b r (uY c.1[i])=nY b r c.1[i] from rfl,hs];rfl;simp only[m6];rw[ae (by omega),af,cr,eI,a9]
theorem VP (c:dP)(b r:Int)(k:Qo 200000000 c):sO c b r=some (AK c b r):=by
 have hfu:=cC;unfold sO AK;rw[K0 c (k.z.mono (by omega)),ab,VQ c (k.sz (by omega)),cc,cc];simp only[ab];cases hb:wT c with|false=>rfl|true=>?_
 cases hi0:cq b 1 1000 with|false=>rfl|true=>?_
 cases hi1:cq r 0 200 with|false=>rfl|true=>?_
 have hr:=cv.1 hi1;obtain⟨r,rfl⟩:=aO hr.1;have h3:=(Bj hb).2.2;simp only[al,af,ab,dY,ah,ax];refine cS (λi=>((i:Int),((c.1.take i).map (nY b r)++c.1.drop i,c.2))) c.1.length (by omega) (λi nx hi=>?_) (λnx=>?_);have hl:=Ho (nY b r) c.1 i (by omega);have hg:=Oa (nY b r) c.1 i hi;have hs:=Ob (nY b r) c.1 i hi;have hx:=k.h _ (aW hi);generalize (c.1.take i).map (nY b r)++c.1.drop i=W at hl hg hs⊢;have hW:i<W.length:=by omega
 simp only[nz];rw[ai (by omega),ah,aU hi,ab,PX _ (hx.mono (by omega)),ab,PU _ b r (by omega) _ (C7 (by omega) hx),aU hW];simp only[ab,ax];rw[wrap64 (by omega) (by omega),show xx b r (uY c.1[i])=nY b r c.1[i] from rfl,hs];rfl;simp only[nz];rw[ae (by rw[Ho _ _ _ (aM _)];omega),af,cr,eI,a9]
theorem UG {c:dP}(h:wT c=true):∀x∈c.1,gn x=true:=by intro x hx;unfold wT at h;simp only[aj]at h;have hl:=(Al h.2.1).1;obtain⟨i,hi,rfl⟩:=List.getElem_of_mem hx;have:=bd.1 h.2.2.2.2.1 i (dN.2 hi);rw[Bi i hi (by omega),aj]at this;exact this.1
theorem TZ {n:Nat}(hn:1000≤n){h:Host}(b:Int)(r:Nat)(hr:r≤200)(z:DK n h):DK (n+128800000) (nY b r h):=(Ab b hn (C7 hn z) r).mono (by omega)
theorem R3 {h:Host}(b:Int)(r:Nat)(f:TK h):TK (nY b r h):=by unfold nY;induction r with|zero=>exact Sj f|succ k ih=>exact Sk b (Uq ih)
theorem LC {n:Nat}(hn:1000≤n){c:dP}(b r:Int)(z:Qo n c):Qo (n+128800000) (AK c b r)∧(AK c b r).1.length=c.1.length:=by
 unfold AK;cases hb:wT c&&(cq b 1 1000&&cq r 0 200)with|false=>exact⟨z.mono (by omega),rfl⟩|true=>?_
 simp only[aj]at hb;have hr:=cv.1 hb.2.2;have hh:∀x∈c.1.map (nY b r.toNat),DK (n+128800000) x:=by intro x hx;obtain⟨y,hy,rfl⟩:=List.mem_map.1 hx;exact TZ hn b r.toNat (by omega) (z.h y hy)
 have z':=z.mono (show n≤n+128800000 by omega);refine⟨⟨⟨⟨?_,λx hx=>(hh x hx).z⟩,z'.z.2⟩,hh⟩,cL ..⟩;show(c.1.map (nY b r.toNat)).length≤_;rw[cL];exact z'.z.1.1
theorem RJ {e:CT}{B:Nat}:∀(l:List e.D),(∀x∈l,gk e x≤B)→gk (.sl e) l≤l.length*B
 |[],_=>dv _
 |y::l,h=>by have h1:=RJ l (λx hx=>h x (dI _ hx));have h2:=h y (List.mem_cons_self ..);simp only[gk,bW,List.sum_cons,a7,bE]at h1⊢;omega
theorem R4 {c:dP}(b r:Int)(z:Qo 1048576 c)(hc:g8 ef c≤600000000000000):g8 ef (AK c b r)≤600000000000000:=by
 have zc:=(LC (by omega) b r z).1;unfold AK at zc⊢;cases hb:wT c&&(cq b 1 1000&&cq r 0 200)with|false=>exact hc|true=>?_
 rw[hb]at zc;simp only[aj]at hb;simp only[ah]at zc⊢;have ho:=UG hb.1;have h3:=(Bj hb.1).2.2;have e1:g8 ef (c.1.map (nY b r.toNat),c.2)≤gk (.sl bL) (c.1.map (nY b r.toNat))+gk (.pair (.sl aB) (.pair (.sl bq) (.pair (.sl .str) (.pair dS (.pair (.sl (.int .i64)) (.sl .str)))))) c.2:=Ep;have e2:=RJ (e:=bL) (B:=60000000000) (c.1.map (nY b r.toNat)) (λx hx=>by have hz:=(zc.h x hx).z;obtain⟨y,hy,rfl⟩:=List.mem_map.1 hx;exact aH (Up hz (R3 b r.toNat (abn (ho y hy)))) (by omega));have e3:gk (.pair (.sl aB) (.pair (.sl bq) (.pair (.sl .str) (.pair dS (.pair (.sl (.int .i64)) (.sl .str)))))) c.2≤Ht 1100000 (.pair (.sl aB) (.pair (.sl bq) (.pair (.sl .str) (.pair dS (.pair (.sl (.int .i64)) (.sl .str)))))):=iA (z.mono (show 1048576≤1100000 by omega)).z.2;have e4:Ht 1100000 (.pair (.sl aB) (.pair (.sl bq) (.pair (.sl .str) (.pair dS (.pair (.sl (.int .i64)) (.sl .str))))))≤99000000000000:=by decide
 rw[cL]at e2;have e5:c.1.length*60000000000≤3*60000000000:=bp _ h3;omega
end
end Go.Pu
section
namespace Go.Pu
open Go.Dn
set_option linter.unusedVariables false
set_option linter.unusedSimpArgs false
set_option maxRecDepth 100000
set_option maxHeartbeats 4000000
theorem ui:Jf (.sl (.int .i64)) cQ:=by
 refine Kz (e:=(.int .i64)) (T:=jR (λ_ y _ z=>some (y,z))) (λl i hi k nx h1 h2 h3 hx=>?_) (λl k nx=>?_)
 ·try simp only[fU,iz,fT,iB,bR,bS,←cx]at h2
  simp only[jR];rw[ai (by omega)];simp (disch:=omega) only[ah,aU hi,ab,kD,aL,dh,ax,wrap64,aq,ne3,fJ];try simp only[wo,Dj,Ao,Dk,fU,iz,fT,iB,bR,bS,←cx]
 simp only[jR];rw[ae (by omega)];rfl
theorem vx:Jf (.sl .str) fe:=by
 refine Kz (e:=.str) (T:=gJ (λ_ y _ z=>some (y,z))) (λl i hi k nx h1 h2 h3 hx=>?_) (λl k nx=>?_)
 ·try simp only[fU,iz,fT,iB,bR,bS,←cx]at h2
  simp only[gJ];rw[ai (by omega)];simp (disch:=omega) only[ah,aU hi,ab,kD,aL,dh,ax,wrap64,aq,ne3,fJ];try simp only[wo,Dj,Ao,Dk,fU,iz,fT,iB,bR,bS,←cx]
 simp only[gJ];rw[ae (by omega)];rfl
theorem M1:Jf (.sl aX) l5:=zF (e:=aX) (T:=mG (λ_ y _ z=>some (y,z))) (f:=bz) (.pair (.int _) (.pair (.int _) (.pair (.int _) .bool))) fJ ⟨trivial,⟨trivial,⟨trivial,trivial⟩⟩⟩ (λl k i nx=>by kernel_rfl)
theorem Vo:Jf (.sl dc) qP:=zF (e:=dc) (T:=qQ (λ_ y _ z=>some (y,z))) (f:=bz) (.pair (.int _) (.pair (.int _) (.sl (e:=(.int .i64)) cQ))) fJ ⟨trivial,⟨trivial,ui⟩⟩ (λl k i nx=>by kernel_rfl)
theorem M3:Jf (.sl bk) l6:=zF (e:=bk) (T:=mH (λ_ y _ z=>some (y,z))) (f:=bz) (.pair (.pair (.int _) (.pair (.int _) (.pair (.int _) (.int _)))) (.pair (.pair (.int _) (.pair (.int _) (.int _))) (.pair (.pair (.int _) (.pair (.int _) (.int _))) (.pair (.pair (.pair (.int _) (.pair (.int _) (.pair (.int _) (.pair (.int _) (.pair (.int _) (.pair (.int _) (.pair (.int _) (.pair (.int _) (.pair (.int _) (.pair (.int _) (.pair (.int _) (.pair (.int _) (.pair (.int _) (.pair (.int _) (.pair (.int _) .str))))))))))))))) (.pair (.int _) (.int _))) (.pair .bool (.int _)))))) fJ ⟨⟨trivial,⟨trivial,⟨trivial,trivial⟩⟩⟩,⟨⟨trivial,⟨trivial,trivial⟩⟩,⟨⟨trivial,⟨trivial,trivial⟩⟩,⟨⟨⟨trivial,⟨trivial,⟨trivial,⟨trivial,⟨trivial,⟨trivial,⟨trivial,⟨trivial,⟨trivial,⟨trivial,⟨trivial,⟨trivial,⟨trivial,⟨trivial,⟨trivial,trivial⟩⟩⟩⟩⟩⟩⟩⟩⟩⟩⟩⟩⟩⟩⟩,⟨trivial,trivial⟩⟩,⟨trivial,trivial⟩⟩⟩⟩⟩ (λl k i nx=>by kernel_rfl)
theorem Vm:Jf (.sl cE) qL:=zF (e:=cE) (T:=qM (λ_ y _ z=>some (y,z))) (f:=bz) (.pair (.int _) (.pair (.int _) (.pair (.int _) (.sl (e:=(.int .i64)) cQ)))) fJ ⟨trivial,⟨trivial,⟨trivial,ui⟩⟩⟩ (λl k i nx=>by kernel_rfl)
theorem Pw:Jf (.sl bN) nu:=zF (e:=bN) (T:=nV (λ_ y _ z=>some (y,z))) (f:=bz) (.pair (.int _) (.pair (.int _) (.pair (.int _) (.pair (.int _) (.pair .bool .bool))))) fJ ⟨trivial,⟨trivial,⟨trivial,⟨trivial,⟨trivial,trivial⟩⟩⟩⟩⟩ (λl k i nx=>by kernel_rfl)
theorem Vk:Jf (.sl .bool) qH:=by
 refine Kz (e:=.bool) (T:=iL (λ_ y _ z=>some (y,z))) (λl i hi k nx h1 h2 h3 hx=>?_) (λl k nx=>?_)
 ·try simp only[fU,iz,fT,iB,bR,bS,←cx]at h2
  simp only[iL];rw[ai (by omega)];simp (disch:=omega) only[ah,aU hi,ab,kD,aL,dh,ax,wrap64,aq,ne3,fJ];try simp only[wo,Dj,Ao,Dk,fU,iz,fT,iB,bR,bS,←cx]
 simp only[iL];rw[ae (by omega)];rfl
theorem Vn:Jf (.sl dH) qN:=zF (e:=dH) (T:=qO (λ_ y _ z=>some (y,z))) (f:=bz) (.pair (.int _) (.pair (.int _) (.pair (.int _) (.pair (.int _) (.pair (.int _) (.pair (.int _) (.pair (.int _) (.pair (.int _) (.int _))))))))) fJ ⟨trivial,⟨trivial,⟨trivial,⟨trivial,⟨trivial,⟨trivial,⟨trivial,⟨trivial,trivial⟩⟩⟩⟩⟩⟩⟩⟩ (λl k i nx=>by kernel_rfl)
theorem Vp:Jf (.sl cJ) qR:=zF (e:=cJ) (T:=qS (λ_ y _ z=>some (y,z))) (f:=bz) (.pair (.int _) (.pair (.pair (.int _) (.pair (.int _) (.pair (.int _) (.pair (.int _) (.int _))))) (.int _))) fJ ⟨trivial,⟨⟨trivial,⟨trivial,⟨trivial,⟨trivial,trivial⟩⟩⟩⟩,trivial⟩⟩ (λl k i nx=>by kernel_rfl)
theorem Pv:Jf (.sl bg) ns:=zF (e:=bg) (T:=nU (λ_ y _ z=>some (y,z))) (f:=bz) (.pair (.pair (.int _) (.pair (.int _) (.pair (.int _) (.pair (.int _) (.int _))))) (.pair (.int _) (.pair .str .bool))) fJ ⟨⟨trivial,⟨trivial,⟨trivial,⟨trivial,trivial⟩⟩⟩⟩,⟨trivial,⟨trivial,trivial⟩⟩⟩ (λl k i nx=>by kernel_rfl)
theorem Vl:Jf (.sl bL) vi:=zF (e:=bL) (T:=qJ (λ_ y _ z=>some (y,z))) (f:=bz) (.pair (.sl (e:=.str) fe) (.pair (.sl (e:=aX) l5) (.pair (.pair (.pair (.int _) (.pair (.int _) (.pair (.int _) (.int _)))) (.pair (.pair (.int _) (.pair (.int _) (.pair (.int _) (.sl (e:=(.int .i64)) cQ)))) (.pair (.sl (e:=dc) qP) (.int _)))) (.pair (.sl (e:=bk) l6) (.pair (.sl (e:=cE) qL) (.pair (.sl (e:=bN) nu) (.pair (.sl (e:=.bool) qH) (.pair (.pair (.int _) (.pair .bool (.sl (e:=(.int .i64)) cQ))) (.pair (.pair (.sl (e:=dH) qN) (.pair (.sl (e:=cJ) qR) (.pair .str (.sl (e:=(.int .i64)) cQ)))) (.pair (.sl (e:=bg) ns) (.pair .bool (.pair (.sl (e:=.str) fe) (.pair (.sl (e:=(.int .i64)) cQ) (.pair (.sl (e:=(.int .i64)) cQ) (.pair (.int _) (.pair (.int _) (.pair (.int _) (.pair (.int _) (.int _))))))))))))))))))) fJ ⟨vx,⟨M1,⟨⟨⟨trivial,⟨trivial,⟨trivial,trivial⟩⟩⟩,⟨⟨trivial,⟨trivial,⟨trivial,ui⟩⟩⟩,⟨Vo,trivial⟩⟩⟩,⟨M3,⟨Vm,⟨Pw,⟨Vk,⟨⟨trivial,⟨trivial,ui⟩⟩,⟨⟨Vn,⟨Vp,⟨trivial,ui⟩⟩⟩,⟨Pv,⟨trivial,⟨vx,⟨ui,⟨ui,⟨trivial,⟨trivial,⟨trivial,⟨trivial,trivial⟩⟩⟩⟩⟩⟩⟩⟩⟩⟩⟩⟩⟩⟩⟩⟩⟩⟩ (λl k i nx=>by kernel_rfl)
theorem AH:Jf (.sl aB) im:=zF (e:=aB) (T:=gy (λ_ y _ z=>some (y,z))) (f:=bz) (.pair (.int _) (.pair (.int _) (.pair (.pair (.int _) (.pair (.int _) (.int _))) (.pair .bool (.pair (.int _) (.int _)))))) fJ ⟨trivial,⟨trivial,⟨⟨trivial,⟨trivial,trivial⟩⟩,⟨trivial,⟨trivial,trivial⟩⟩⟩⟩⟩ (λl k i nx=>by kernel_rfl)
theorem M0:Jf (.sl bq) qK:=zF (e:=bq) (T:=mF (λ_ y _ z=>some (y,z))) (f:=bz) (.pair (.pair (.int _) (.pair .bool (.sl (e:=(.int .i64)) cQ))) (.pair (.int _) (.pair (.int _) (.int _)))) fJ ⟨⟨trivial,⟨trivial,ui⟩⟩,⟨trivial,⟨trivial,trivial⟩⟩⟩ (λl k i nx=>by kernel_rfl)
theorem Na:MtM (.sl .str) qI:=by intro a h k h1 h2;simp (disch:=omega) only[qI,ab,vx.top a h]
theorem Eo (a:dP):g8 ef a=g8 (.sl bL) a.1+(g8 (.sl aB) a.2.1+(g8 (.sl bq) a.2.2.1+(g8 (.sl .str) a.2.2.2.1+((0+(0+(0+0)))+(g8 (.sl (.int .i64)) a.2.2.2.2.2.1+(g8 (.sl .str) a.2.2.2.2.2.2)))))):=rfl
theorem Rm (a:dP)(k:Int):Ln ef a k=(Ln (.sl bL) a.1 (k),Ln (.sl aB) a.2.1 (k+((g8 (.sl bL) a.1:Nat):Int)),Ln (.sl bq) a.2.2.1 (k+((g8 (.sl bL) a.1:Nat):Int)+((g8 (.sl aB) a.2.1:Nat):Int)),Ln (.sl .str) a.2.2.2.1 (k+((g8 (.sl bL) a.1:Nat):Int)+((g8 (.sl aB) a.2.1:Nat):Int)+((g8 (.sl bq) a.2.2.1:Nat):Int)),a.2.2.2.2.1,Ln (.sl (.int .i64)) a.2.2.2.2.2.1 (k+((g8 (.sl bL) a.1:Nat):Int)+((g8 (.sl aB) a.2.1:Nat):Int)+((g8 (.sl bq) a.2.2.1:Nat):Int)+((g8 (.sl .str) a.2.2.2.1:Nat):Int)),Ln (.sl .str) a.2.2.2.2.2.2 (k+((g8 (.sl bL) a.1:Nat):Int)+((g8 (.sl aB) a.2.1:Nat):Int)+((g8 (.sl bq) a.2.2.1:Nat):Int)+((g8 (.sl .str) a.2.2.2.1:Nat):Int)+((g8 (.sl (.int .i64)) a.2.2.2.2.2.1:Nat):Int))):=by simp only[MZ,Ro,MY,Rp,H7,LF,H6,LG,bR,Int.natCast_zero,Int.add_zero,←cx]
theorem Rq:MtM ef oo:=by intro a h k h1 h2;rw[Eo]at h2;simp (disch:=omega) only[oo,ab,Vl.top _ h.1,AH.top _ h.2.1,M0.top _ h.2.2.1,Na _ h.2.2.2.1,vx.top _ h.2.2.2.1,ui.top _ h.2.2.2.2.2.1,Na _ h.2.2.2.2.2.2,vx.top _ h.2.2.2.2.2.2];rw[Rm,Eo];refine congrArg some (Prod.ext (by simp only;omega) ?_);first|rfl|simp only[MZ,Ro,MY,Rp,H7,LF,H6,LG,bR,Int.natCast_zero,Int.add_zero,←cx]
theorem tT:Je (.sl (.int .i64)) cP:=by
 refine Ky (e:=(.int .i64)) (H:=λv=>jQ (λy _=>some y) (λ_ y _=>some y) v 0) (λl i hi x k nx hm h1 h2 h3 hx=>?_) (λl k nx=>?_)
 ·try simp only[fU,iz,fT,iB,bR,bS,←cx]at h2
  try simp only[wo,Dj,Ao,Dk,fU,iz,fT,iB,bR,bS,←cx]at hm
  simp only[jQ];rw[ai (by omega)];simp (disch:=omega) only[ah,aU hi,hm,ab,eu,ec,al,af,wrap64,aq,ne3,xw,fJ];try simp only[fU,iz,fT,iB,bR,bS,←cx]
 simp only[jQ];rw[ae (by omega)];rfl
theorem uZ:Je (.sl .str) fc:=by
 refine Ky (e:=.str) (H:=λv=>gI (λy _=>some y) (λ_ y _=>some y) v 0) (λl i hi x k nx hm h1 h2 h3 hx=>?_) (λl k nx=>?_)
 ·try simp only[fU,iz,fT,iB,bR,bS,←cx]at h2
  try simp only[wo,Dj,Ao,Dk,fU,iz,fT,iB,bR,bS,←cx]at hm
  simp only[gI];rw[ai (by omega)];simp (disch:=omega) only[ah,aU hi,hm,ab,eu,ec,al,af,wrap64,aq,ne3,xw,fJ];try simp only[fU,iz,fT,iB,bR,bS,←cx]
 simp only[gI];rw[ae (by omega)];rfl
theorem Mz:Je (.sl aX) lZ:=zE (e:=aX) (H:=λv=>mD (λy _=>some y) (λ_ y _=>some y) v 0) (bad:=λ_ i k=>some (-1)) (f:=bz) (.pair (.int _) (.pair (.int _) (.pair (.int _) .bool))) fJ ⟨trivial,⟨trivial,⟨trivial,trivial⟩⟩⟩ (λl k i nx=>by kernel_rfl)
theorem UD:Je (.sl dc) qD:=zE (e:=dc) (H:=λv=>qE (λy _=>some y) (λ_ y _=>some y) v 0) (bad:=λ_ i k=>some (-1)) (f:=bz) (.pair (.int _) (.pair (.int _) (.sl (e:=(.int .i64)) cP))) fJ ⟨trivial,⟨trivial,tT⟩⟩ (λl k i nx=>by kernel_rfl)
theorem MA:Je (.sl bk) l4:=zE (e:=bk) (H:=λv=>mE (λy _=>some y) (λ_ y _=>some y) v 0) (bad:=λ_ i k=>some (-1)) (f:=bz) (.pair (.pair (.int _) (.pair (.int _) (.pair (.int _) (.int _)))) (.pair (.pair (.int _) (.pair (.int _) (.int _))) (.pair (.pair (.int _) (.pair (.int _) (.int _))) (.pair (.pair (.pair (.int _) (.pair (.int _) (.pair (.int _) (.pair (.int _) (.pair (.int _) (.pair (.int _) (.pair (.int _) (.pair (.int _) (.pair (.int _) (.pair (.int _) (.pair (.int _) (.pair (.int _) (.pair (.int _) (.pair (.int _) (.pair (.int _) .str))))))))))))))) (.pair (.int _) (.int _))) (.pair .bool (.int _)))))) fJ ⟨⟨trivial,⟨trivial,⟨trivial,trivial⟩⟩⟩,⟨⟨trivial,⟨trivial,trivial⟩⟩,⟨⟨trivial,⟨trivial,trivial⟩⟩,⟨⟨⟨trivial,⟨trivial,⟨trivial,⟨trivial,⟨trivial,⟨trivial,⟨trivial,⟨trivial,⟨trivial,⟨trivial,⟨trivial,⟨trivial,⟨trivial,⟨trivial,⟨trivial,trivial⟩⟩⟩⟩⟩⟩⟩⟩⟩⟩⟩⟩⟩⟩⟩,⟨trivial,trivial⟩⟩,⟨trivial,trivial⟩⟩⟩⟩⟩ (λl k i nx=>by kernel_rfl)
theorem UB:Je (.sl cE) qz:=zE (e:=cE) (H:=λv=>qA (λy _=>some y) (λ_ y _=>some y) v 0) (bad:=λ_ i k=>some (-1)) (f:=bz) (.pair (.int _) (.pair (.int _) (.pair (.int _) (.sl (e:=(.int .i64)) cP)))) fJ ⟨trivial,⟨trivial,⟨trivial,tT⟩⟩⟩ (λl k i nx=>by kernel_rfl)
theorem OX:Je (.sl bN) nr:=zE (e:=bN) (H:=λv=>nT (λy _=>some y) (λ_ y _=>some y) v 0) (bad:=λ_ i k=>some (-1)) (f:=bz) (.pair (.int _) (.pair (.int _) (.pair (.int _) (.pair (.int _) (.pair .bool .bool))))) fJ ⟨trivial,⟨trivial,⟨trivial,⟨trivial,⟨trivial,trivial⟩⟩⟩⟩⟩ (λl k i nx=>by kernel_rfl)
theorem Uz:Je (.sl .bool) qv:=by
 refine Ky (e:=.bool) (H:=λv=>iK (λy _=>some y) (λ_ y _=>some y) v 0) (λl i hi x k nx hm h1 h2 h3 hx=>?_) (λl k nx=>?_)
 ·try simp only[fU,iz,fT,iB,bR,bS,←cx]at h2
  try simp only[wo,Dj,Ao,Dk,fU,iz,fT,iB,bR,bS,←cx]at hm
  simp only[iK];rw[ai (by omega)];simp (disch:=omega) only[ah,aU hi,hm,ab,eu,ec,al,af,wrap64,aq,ne3,xw,fJ];try simp only[fU,iz,fT,iB,bR,bS,←cx]
 simp only[iK];rw[ae (by omega)];rfl
theorem UC:Je (.sl dH) qB:=zE (e:=dH) (H:=λv=>qC (λy _=>some y) (λ_ y _=>some y) v 0) (bad:=λ_ i k=>some (-1)) (f:=bz) (.pair (.int _) (.pair (.int _) (.pair (.int _) (.pair (.int _) (.pair (.int _) (.pair (.int _) (.pair (.int _) (.pair (.int _) (.int _))))))))) fJ ⟨trivial,⟨trivial,⟨trivial,⟨trivial,⟨trivial,⟨trivial,⟨trivial,⟨trivial,trivial⟩⟩⟩⟩⟩⟩⟩⟩ (λl k i nx=>by kernel_rfl)
theorem UE:Je (.sl cJ) qF:=zE (e:=cJ) (H:=λv=>qG (λy _=>some y) (λ_ y _=>some y) v 0) (bad:=λ_ i k=>some (-1)) (f:=bz) (.pair (.int _) (.pair (.pair (.int _) (.pair (.int _) (.pair (.int _) (.pair (.int _) (.int _))))) (.int _))) fJ ⟨trivial,⟨⟨trivial,⟨trivial,⟨trivial,⟨trivial,trivial⟩⟩⟩⟩,trivial⟩⟩ (λl k i nx=>by kernel_rfl)
theorem OW:Je (.sl bg) nq:=zE (e:=bg) (H:=λv=>nS (λy _=>some y) (λ_ y _=>some y) v 0) (bad:=λ_ i k=>some (-1)) (f:=bz) (.pair (.pair (.int _) (.pair (.int _) (.pair (.int _) (.pair (.int _) (.int _))))) (.pair (.int _) (.pair .str .bool))) fJ ⟨⟨trivial,⟨trivial,⟨trivial,⟨trivial,trivial⟩⟩⟩⟩,⟨trivial,⟨trivial,trivial⟩⟩⟩ (λl k i nx=>by kernel_rfl)
theorem UA:Je (.sl bL) vh:=zE (e:=bL) (H:=λv=>qx (λy _=>some y) (λ_ y _=>some y) v 0) (bad:=λ_ i k=>some (-1)) (f:=bz) (.pair (.sl (e:=.str) fc) (.pair (.sl (e:=aX) lZ) (.pair (.pair (.pair (.int _) (.pair (.int _) (.pair (.int _) (.int _)))) (.pair (.pair (.int _) (.pair (.int _) (.pair (.int _) (.sl (e:=(.int .i64)) cP)))) (.pair (.sl (e:=dc) qD) (.int _)))) (.pair (.sl (e:=bk) l4) (.pair (.sl (e:=cE) qz) (.pair (.sl (e:=bN) nr) (.pair (.sl (e:=.bool) qv) (.pair (.pair (.int _) (.pair .bool (.sl (e:=(.int .i64)) cP))) (.pair (.pair (.sl (e:=dH) qB) (.pair (.sl (e:=cJ) qF) (.pair .str (.sl (e:=(.int .i64)) cP)))) (.pair (.sl (e:=bg) nq) (.pair .bool (.pair (.sl (e:=.str) fc) (.pair (.sl (e:=(.int .i64)) cP) (.pair (.sl (e:=(.int .i64)) cP) (.pair (.int _) (.pair (.int _) (.pair (.int _) (.pair (.int _) (.int _))))))))))))))))))) fJ ⟨uZ,⟨Mz,⟨⟨⟨trivial,⟨trivial,⟨trivial,trivial⟩⟩⟩,⟨⟨trivial,⟨trivial,⟨trivial,tT⟩⟩⟩,⟨UD,trivial⟩⟩⟩,⟨MA,⟨UB,⟨OX,⟨Uz,⟨⟨trivial,⟨trivial,tT⟩⟩,⟨⟨UC,⟨UE,⟨trivial,tT⟩⟩⟩,⟨OW,⟨trivial,⟨uZ,⟨tT,⟨tT,⟨trivial,⟨trivial,⟨trivial,⟨trivial,trivial⟩⟩⟩⟩⟩⟩⟩⟩⟩⟩⟩⟩⟩⟩⟩⟩⟩⟩ (λl k i nx=>by kernel_rfl)
theorem AG:Je (.sl aB) il:=zE (e:=aB) (H:=λv=>gx (λy _=>some y) (λ_ y _=>some y) v 0) (bad:=λ_ i k=>some (-1)) (f:=bz) (.pair (.int _) (.pair (.int _) (.pair (.pair (.int _) (.pair (.int _) (.int _))) (.pair .bool (.pair (.int _) (.int _)))))) fJ ⟨trivial,⟨trivial,⟨⟨trivial,⟨trivial,trivial⟩⟩,⟨trivial,⟨trivial,trivial⟩⟩⟩⟩⟩ (λl k i nx=>by kernel_rfl)
theorem My:Je (.sl bq) qy:=zE (e:=bq) (H:=λv=>mC (λy _=>some y) (λ_ y _=>some y) v 0) (bad:=λ_ i k=>some (-1)) (f:=bz) (.pair (.pair (.int _) (.pair .bool (.sl (e:=(.int .i64)) cP))) (.pair (.int _) (.pair (.int _) (.int _)))) fJ ⟨⟨trivial,⟨trivial,tT⟩⟩,⟨trivial,⟨trivial,trivial⟩⟩⟩ (λl k i nx=>by kernel_rfl)
theorem MC:MtH (.sl .str) qw:=by intro a h k h1 h2;simp (disch:=omega) only[qw,ab,uZ.top a h,xw,af]
theorem YF:MtH ef lA:=by intro a h k h1 h2;rw[Eo]at h2;rw[Rm];simp (disch:=omega) only[lA,ab,UA.top _ h.1,AG.top _ h.2.1,My.top _ h.2.2.1,MC _ h.2.2.2.1,uZ.top _ h.2.2.2.1,tT.top _ h.2.2.2.2.2.1,MC _ h.2.2.2.2.2.2,uZ.top _ h.2.2.2.2.2.2,xw,af];rw[Eo];refine congrArg some (by omega)
end Go.Pu
end
namespace Go.Pu
open Go.Dn
set_option linter.unusedSimpArgs false
set_option linter.unusedVariables false
noncomputable section
theorem Hv (a:dP)(b i:Int)(ha:kA ef a)(hb:kA (.int .i64) b)(hi0:kA (.int .i64) i):mw a b i=some true:=by
 unfold mw;refine(Zu a ha).use (by omega) (by omega) λhl=>?_;have hA:bw 1048576 ef a:=Az (by omega);have hz:Qo 1048576 a:=Qo.of (by omega);have hs:=VP a b i (hz.mono (by omega));have hi:=UK a b i (hz.mono (by omega));have hR:=(LC (by omega) b i hz).1.z;have c1:=LD (c:=a) (by omega);have c2:=R4 b i hz c1;generalize AK a b i=r at hs hi hR c2;have m1:=Rq a (hA.mono (by omega)) 1 (by omega) (by omega);have m2:=Rq r (hR.mono (by omega)) 1 (by omega) (by omega);have m3:∀t,t=Ln ef r 1→lA t 1=some (1+(g8 ef r:Int)):=by rintro _ rfl;exact YF r (hR.mono (by omega)) 1 (by omega) (by omega)
 simp (disch:=omega) only[Zz a hA,ab,hs,hi,Q0 r (hR.mono (by omega)),Q0 a (hA.mono (by omega)),ec,eu,al,af,m1,m2,xw];rw[m3];simp (disch:=omega) only[ab,xw,af,eu];rfl
end
end Go.Pu
