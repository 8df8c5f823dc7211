import Derived.Test.YtainmjjkipbciaaGreatDnRun
import Derived.Deep.Slices
import Derived.ChangeArms
import Derived.MapPlaces
/- The arguments of a statement's input, as data. -/
namespace Go.Dn
open Go.RowKit Go.ChangeShapes Go.WideShapes
def pR (P:Program)(MI:TypeId->CT->Bool):aw Field->Nat->CT->Bool
 |[],_,_=>false
 |[f],off,e=>f.offset==off&&P.cellsOf f.type==e.size&&MI f.type e
 |f::f'::fs,off,.pair a b=>f.offset==off&&P.cellsOf f.type==a.size&&MI f.type a&&pR P MI (f'::fs) (off+a.size) b
 |_,_,_=>false
def Oi (P:Program):Nat->TypeId->CT->Bool
 |0,_,_=>false
 |n+1,t,e=>
  match P.underlying t with
  |some (.int k)=>match e with| .int k'=>decide (k=k')|_=>false
  |some .bool=>match e with| .bool=>true|_=>false
  |some .string=>match e with| .str=>true|_=>false
  |some (.slice te)=>match e with| .sl e'=>P.cellsOf te==e'.size&&Oi P n te e'|_=>false
  |some (.struct fs)=>P.cellsOf t==e.size&&pR P (Oi P n) fs.toList 0 e
  |_=>false
def InR:(e:CT)->e.D->Prop
 | .int k,n=>k.min<=n/\n<=k.max
 | .bool,_=>True
 | .str,s=>s.length<=maxLen
 | .sl e,xs=>xs.length<=maxLen/\∀x∈xs,InR e x
 | .pair a b,x=>InR a x.1/\InR b x.2
def Old (w:World)(b _o:Nat):Prop:=b<w.heap.size
section
variable {H:Type} {enc:TypeId×Value->H} {P:Program} {w:World} {base:Nat} {held:Bool}
theorem SM {α β:Type}{f:α->ax β}:∀{l:aw α}{r:aw β},l.mapM f=some r->r.length=l.length/\∀(i:Nat)(y:β),r[i]?=some y->∃x,l[i]?=some x/\f x=some y
 |[],r,h=>by simp at h;subst h;simp
 |x::l,r,h=>by rw[List.mapM_cons]at h;obtain⟨y,hy,h⟩:=aM.1 h;obtain⟨ys,hys,h⟩:=aM.1 h;cases h;obtain⟨hl,hg⟩:=SM hys;refine⟨by simp[hl],λi z hz=>?_⟩;cases i with|zero=>simp at hz;subst hz;exact⟨x,rfl,hy⟩|succ i=>exact hg i z (by simpa using hz)
theorem MG {a:Addr}{n:Nat}{cs:ir}(h:w.cells? base a n=some cs):cs.length=n/\∀j v,cs[j]?=some v->w.cell? (a.add j)=some v:=by
 unfold World.cells? at h;split at h;obtain⟨hl,hg⟩:=SM h;refine⟨by simpa using hl,λj v hv=>?_⟩;obtain⟨x,hx,hy⟩:=hg j v hv;have hj:j<n:=by have:=(aG.1 hv).1;simp at hl;omega
 rw[List.getElem?_range hj]at hx;cases hx;exact hy;cases h
theorem Ur {a:Addr}{v:Value}(h:w.cell? a=some v):a=⟨a.block,a.off,none⟩:=by
 unfold World.cell? at h;split at h;split at h;cases h;rename_i hs;cases a with|mk b o s=>cases s<;>simp at hs⊢
 cases h
theorem G3:∀(n:Nat)(t:TypeId)(e:CT)(fuel:Nat)(cs:ir)(d:DataW H)(ps:aw MemPlace),Oi P n t e=true->
 DataW.trod enc P w base (λ_=>true) held fuel t cs=some (d,ps)->∃x:e.D,iS w (Old w) e cs x/\InR e x
 |0,t,e,fuel,cs,d,ps,hc,h=>by cases hc
 |n+1,t,e,fuel,cs,d,ps,hc,h=>by
  unfold Oi at hc;split at hc;rename_i k hu;split at hc;rename_i k';have Pq:=bk hc;subst Pq;obtain⟨m,rfl,_,hwf⟩:=DataW.trod_int hu h;simp only[Lit.wf,ae,aB]at hwf;exact⟨m,rfl,hwf⟩;cases hc;rename_i hu;split at hc;obtain⟨b,rfl,_⟩:=DataW.trod_bool hu h;exact⟨b,rfl,cx⟩;cases hc;rename_i hu;split at hc;obtain⟨s,rfl,_,hs⟩:=DataW.trod_string hu h;exact⟨s.data.toList,by simp[iS],by simpa[InR]using hs⟩;cases hc;rename_i te hu;split at hc;rename_i e';simp only[ae,aV]at hc;obtain⟨sV,hce⟩:=hc;rcases Go.Deep.open_slice hu h with⟨rfl,_⟩|⟨a,len,cap,m,n',D,Pl,rfl,_,hlc,hcm,hm,_,Cd⟩;exact⟨[],⟨_,rfl,.inl ⟨⟨_,rfl⟩,rfl⟩⟩,by simp[InR]⟩;simp only[bP]at hm;subst hm;have YC:=e'.size_pos;have hx:∀i,i<len->∃x:e'.D,(∃po,w.cells? base (a.add (i*P.cellsOf te)) (P.cellsOf te)=some po/\iS w (Old w) e' po x)/\InR e' x:=by intro i hi;obtain⟨po,h1,h2⟩:=Cd i (by omega);obtain⟨x,hr,sv⟩:=G3 n te e' n' po (D i) (Pl i) hce h2;exact⟨x,⟨po,h1,hr⟩,sv⟩
  have:Inhabited e'.D:=⟨e'.zero⟩
  obtain⟨f,hf⟩:=Go.Deep.choose_lt hx;by_cases Fc:m=0;have hl:len=0:=by omega
  subst hl;subst Fc;exact⟨[],⟨_,rfl,.inl ⟨⟨_,rfl⟩,rfl⟩⟩,by simp[InR]⟩;have abF:a=⟨a.block,a.off,none⟩:=by
   obtain⟨po,h1,_⟩:=Cd 0 (by omega);obtain⟨hl,hg⟩:=MG h1;have h0:0<po.length:=by rw[hl,sV];exact YC
   have:=hg 0 _ (al h0);simp only[Nat.zero_mul]at this;have h2:(a.add 0).add 0=a:=by simp[Addr.add]
   rw[h2]at this;exact Ur this
  refine⟨(List.range len).map f,⟨_,rfl,.inr ⟨a.block,a.off,m,by rw[<-abF];simp,by simpa using hlc,λi x hi=>?_⟩⟩,by simp;omega,λx zt=>?_⟩;have L6:i<len:=by simpa using(aG.1 hi).1
  rw[List.getElem?_map,List.getElem?_range L6]at hi;simp only[dc,ba]at hi;subst hi;obtain⟨⟨po,h1,hr⟩,_⟩:=hf i L6;refine⟨po,λj v hv=>?_,hr⟩;obtain⟨_,hg⟩:=MG h1;have wQ:=hg j v hv;rw[abF,mx,mx,sV]at wQ;exact⟨World.block_lt_of_cell? w ⟨a.block,a.off+i*e'.size+j,none⟩ wQ,wQ⟩;obtain⟨i,hi,rfl⟩:=List.mem_map.1 zt;exact(hf i (by simpa using hi)).2;cases hc;rename_i fs hu;simp only[ae,aV]at hc;obtain⟨sV,W8⟩:=hc;obtain⟨xs,n',_,_,hlen,hxl,EL⟩:=DataW.trod_struct hu h
  have key:∀(l:aw Field)(off k:Nat)(e':CT),(∀(i:Nat)(f:Field),l[i]?=some f->fs[k+i]?=some f)->pR P (Oi P n) l off e'=true->off+e'.size<=cs.length->
   ∃x:e'.D,iS w (Old w) e' ((cs.drop off).take e'.size) x/\InR e' x:=by
   intro l
   induction l with
   |nil=>intro off k e' _ W8;cases W8
   |cons f l ih=>
    intro off k e' aeQ W8 gx
    have hf:=aeQ 0 f rfl
    have UU:∀e1:CT,f.offset=off->P.cellsOf f.type=e1.size->Oi P n f.type e1=true->∃x:e1.D,iS w (Old w) e1 ((cs.drop off).take e1.size) x/\InR e1 x:=by
     intro e1 h1 h2 h3;have ht:=EL _ f hf;have gW:k+0<xs.length:=by rw[hxl];exact(Array.getElem?_eq_some_iff.1 hf).1
     rw[al gW,h1,h2]at ht;exact G3 n f.type e1 n' _ _ _ h3 ht
    cases l with
    |nil=>
     simp only[pR,ae,aV]at W8
     exact UU e' W8.1.1 W8.1.2 W8.2
    |cons f' l=>
     cases e' with
     |pair a b=>
      simp only[pR,ae,aV]at W8
      obtain⟨⟨⟨h1,h2⟩,h3⟩,h4⟩:=W8
      simp only[CT.size]at gx
      obtain⟨x,hx,Cf⟩:=UU a h1 h2 h3
      obtain⟨y,hy,hiy⟩:=ih (off+a.size) (k+1) b (λi f0 hi=>by have:=aeQ (i+1) f0 (by simpa using hi);rwa[show k+1+i=k+(i+1) by omega]) h4 (by omega)
      refine⟨(x,y),⟨_,_,?_,hx,hy⟩,Cf,hiy⟩
      rw[CT.size,List.take_add,eF]
     |int k=>simp[pR]at W8
     |bool=>simp[pR]at W8
     |str=>simp[pR]at W8
     |sl e0=>simp[pR]at W8
  obtain⟨x,hx,sv⟩:=key fs.toList 0 0 e (λi f hi=>by rw[cp,<-cl];exact hi) W8 (by rw[hlen,sV];omega);refine⟨x,?_,sv⟩;rw[eV,bN (by rw[hlen,sV];exact aU _)]at hx;exact hx;cases hc
end
end Go.Dn
