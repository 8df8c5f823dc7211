import Derived.Test.YtnmppgnbjfdffaaGreatDnRun
import Derived.Deep.Slices
import Derived.ChangeArms
import Derived.MapPlaces
/- The arguments of a statement's input, as data. -/
namespace Go.Dn
open Go.RowKit Go.ChangeShapes Go.WideShapes
def ru (P:Program)(KO:TypeId->CT->Bool):ay Field->Nat->CT->Bool
 |[],_,_=>false
 |[f],off,e=>f.offset==off&&P.cellsOf f.type==e.size&&KO f.type e
 |f::f'::fs,off,.pair a b=>f.offset==off&&P.cellsOf f.type==a.size&&KO f.type a&&ru P KO (f'::fs) (off+a.size) b
 |_,_,_=>false
def Q5 (P:Program):Nat->TypeId->CT->Bool
 |0,_,_=>false
 |n+1,t,e=>
  match P.underlying t with
  |some (.int k)=>match e with| .int k'=>decide (k=k')|_=>false
  |some .bool=>match e with| .bool=>true|_=>false
  |some .string=>match e with| .str=>true|_=>false
  |some (.slice te)=>match e with| .sl e'=>P.cellsOf te==e'.size&&Q5 P n te e'|_=>false
  |some (.struct fs)=>P.cellsOf t==e.size&&ru P (Q5 P n) fs.toList 0 e
  |_=>false
def InR:(e:CT)->e.D->Prop
 | .int k,n=>k.min<=n/\n<=k.max
 | .bool,_=>True
 | .str,s=>s.length<=maxLen
 | .sl e,xs=>xs.length<=maxLen/\∀x∈xs,InR e x
 | .pair a b,x=>InR a x.1/\InR b x.2
def Old (w:World)(b _o:Nat):Prop:=b<w.heap.size
section
variable {H:Type} {enc:TypeId×Value->H} {P:Program} {w:World} {base:Nat} {held:Bool}
theorem UH {α β:Type}{f:α->aC β}:∀{l:ay α}{r:ay β},l.mapM f=some r->r.length=l.length/\∀(i:Nat)(y:β),r[i]?=some y->∃x,l[i]?=some x/\f x=some y
 |[],r,h=>by simp at h;subst h;simp
 |x::l,r,h=>by rw[List.mapM_cons]at h;obtain⟨y,hy,h⟩:=aW.1 h;obtain⟨ys,hys,h⟩:=aW.1 h;cases h;obtain⟨hl,hg⟩:=UH hys;refine⟨by simp[hl],λi z hz=>?_⟩;cases i with|zero=>simp at hz;subst hz;exact⟨x,rfl,hy⟩|succ i=>exact hg i z (by simpa using hz)
theorem O8 {a:Addr}{n:Nat}{cs:jz}(h:w.cells? base a n=some cs):cs.length=n/\∀j v,cs[j]?=some v->w.cell? (a.add j)=some v:=by
 unfold World.cells? at h;split at h;obtain⟨hl,hg⟩:=UH h;refine⟨by simpa using hl,λj v hv=>?_⟩;obtain⟨x,hx,hy⟩:=hg j v hv;have hj:j<n:=by have:=(aB.1 hv).1;simp at hl;omega
 rw[List.getElem?_range hj]at hx;cases hx;exact hy;cases h
theorem Wq {a:Addr}{v:Value}(h:w.cell? a=some v):a=⟨a.block,a.off,none⟩:=by
 unfold World.cell? at h;split at h;split at h;cases h;rename_i hs;cases a with|mk b o s=>cases s<;>simp at hs⊢
 cases h
theorem Jl:∀(n:Nat)(t:TypeId)(e:CT)(fuel:Nat)(cs:jz)(d:DataW H)(ps:ay MemPlace),Q5 P n t e=true->
 DataW.trod enc P w base (λ_=>true) held fuel t cs=some (d,ps)->∃x:e.D,jP w (Old w) e cs x/\InR e x
 |0,t,e,fuel,cs,d,ps,hc,h=>by cases hc
 |n+1,t,e,fuel,cs,d,ps,hc,h=>by
  unfold Q5 at hc;split at hc;rename_i k hu;split at hc;rename_i k';have Ou:=bw hc;subst Ou;obtain⟨m,rfl,_,hwf⟩:=DataW.trod_int hu h;simp only[Lit.wf,ab,aE]at hwf;exact⟨m,rfl,hwf⟩;cases hc;rename_i hu;split at hc;obtain⟨b,rfl,_⟩:=DataW.trod_bool hu h;exact⟨b,rfl,dq⟩;cases hc;rename_i hu;split at hc;obtain⟨s,rfl,_,hs⟩:=DataW.trod_string hu h;exact⟨s.data.toList,by simp[jP],by simpa[InR]using hs⟩;cases hc;rename_i te hu;split at hc;rename_i e';simp only[ab,bm]at hc;obtain⟨uL,hce⟩:=hc;rcases Go.Deep.open_slice hu h with⟨rfl,_⟩|⟨a,len,cap,m,n',D,Pl,rfl,_,hlc,hcm,hm,_,Ea⟩;exact⟨[],⟨_,rfl,.inl ⟨⟨_,rfl⟩,rfl⟩⟩,by simp[InR]⟩;simp only[cc]at hm;subst hm;have aaU:=e'.size_pos;have hx:∀i,i<len->∃x:e'.D,(∃qO,w.cells? base (a.add (i*P.cellsOf te)) (P.cellsOf te)=some qO/\jP w (Old w) e' qO x)/\InR e' x:=by intro i hi;obtain⟨qO,h1,h2⟩:=Ea i (by omega);obtain⟨x,hr,uN⟩:=Jl n te e' n' qO (D i) (Pl i) hce h2;exact⟨x,⟨qO,h1,hr⟩,uN⟩
  have:Inhabited e'.D:=⟨e'.zero⟩
  obtain⟨f,hf⟩:=Go.Deep.choose_lt hx;by_cases Hk:m=0;have hl:len=0:=by omega
  subst hl;subst Hk;exact⟨[],⟨_,rfl,.inl ⟨⟨_,rfl⟩,rfl⟩⟩,by simp[InR]⟩;have ael:a=⟨a.block,a.off,none⟩:=by
   obtain⟨qO,h1,_⟩:=Ea 0 (by omega);obtain⟨hl,hg⟩:=O8 h1;have h0:0<qO.length:=by rw[hl,uL];exact aaU
   have:=hg 0 _ (aw h0);simp only[Nat.zero_mul]at this;have h2:(a.add 0).add 0=a:=by simp[Addr.add]
   rw[h2]at this;exact Wq this
  refine⟨(List.range len).map f,⟨_,rfl,.inr ⟨a.block,a.off,m,by rw[<-ael];simp,by simpa using hlc,λi x hi=>?_⟩⟩,by simp;omega,λx AG=>?_⟩;have Oq:i<len:=by simpa using(aB.1 hi).1
  rw[List.getElem?_map,List.getElem?_range Oq]at hi;simp only[dJ,bu]at hi;subst hi;obtain⟨⟨qO,h1,hr⟩,_⟩:=hf i Oq;refine⟨qO,λj v hv=>?_,hr⟩;obtain⟨_,hg⟩:=O8 h1;have yd:=hg j v hv;rw[ael,nK,nK,uL]at yd;exact⟨World.block_lt_of_cell? w ⟨a.block,a.off+i*e'.size+j,none⟩ yd,yd⟩;obtain⟨i,hi,rfl⟩:=dp.1 AG;exact(hf i (by simpa using hi)).2;cases hc;rename_i fs hu;simp only[ab,bm]at hc;obtain⟨uL,Zv⟩:=hc;obtain⟨xs,n',_,_,hlen,hxl,GP⟩:=DataW.trod_struct hu h
  have key:∀(l:ay Field)(off k:Nat)(e':CT),(∀(i:Nat)(f:Field),l[i]?=some f->fs[k+i]?=some f)->ru P (Q5 P n) l off e'=true->off+e'.size<=cs.length->
   ∃x:e'.D,jP w (Old w) e' ((cs.drop off).take e'.size) x/\InR e' x:=by
   intro l
   induction l with
   |nil=>intro off k e' _ Zv;cases Zv
   |cons f l ih=>
    intro off k e' agK Zv iB
    have hf:=agK 0 f rfl
    have Xi:∀e1:CT,f.offset=off->P.cellsOf f.type=e1.size->Q5 P n f.type e1=true->∃x:e1.D,jP w (Old w) e1 ((cs.drop off).take e1.size) x/\InR e1 x:=by
     intro e1 h1 h2 h3;have ht:=GP _ f hf;have ir:k+0<xs.length:=by rw[hxl];exact(Array.getElem?_eq_some_iff.1 hf).1
     rw[aw ir,h1,h2]at ht;exact Jl n f.type e1 n' _ _ _ h3 ht
    cases l with
    |nil=>
     simp only[ru,ab,bm]at Zv
     exact Xi e' Zv.1.1 Zv.1.2 Zv.2
    |cons f' l=>
     cases e' with
     |pair a b=>
      simp only[ru,ab,bm]at Zv
      obtain⟨⟨⟨h1,h2⟩,h3⟩,h4⟩:=Zv
      simp only[CT.size]at iB
      obtain⟨x,hx,Ed⟩:=Xi a h1 h2 h3
      obtain⟨y,hy,hiy⟩:=ih (off+a.size) (k+1) b (λi f0 hi=>by have:=agK (i+1) f0 (by simpa using hi);rwa[show k+1+i=k+(i+1) by omega]) h4 (by omega)
      refine⟨(x,y),⟨_,_,?_,hx,hy⟩,Ed,hiy⟩
      rw[CT.size,List.take_add,eO]
     |int k=>simp[ru]at Zv
     |bool=>simp[ru]at Zv
     |str=>simp[ru]at Zv
     |sl e0=>simp[ru]at Zv
  obtain⟨x,hx,uN⟩:=key fs.toList 0 0 e (λi f hi=>by rw[cK,<-cG];exact hi) Zv (by rw[hlen,uL];omega);refine⟨x,?_,uN⟩;rw[eP,bU (by rw[hlen,uL];exact aV _)]at hx;exact hx;cases hc
end
end Go.Dn
