import Derived.Test.YtnmppgnbjfdffaaGreatDnRun
import Derived.Deep.Slices
import Derived.ChangeArms
import Derived.MapPlaces
/- The arguments of a statement's input, as data. -/
namespace Go.Dn
open Go.RowKit Go.ChangeShapes Go.WideShapes
def qd (P:Program)(MU:TypeId->CT->Bool):aw Field->Nat->CT->Bool
 |[],_,_=>false
 |[f],off,e=>f.offset==off&&P.cellsOf f.type==e.size&&MU f.type e
 |f::f'::fs,off,.pair a b=>f.offset==off&&P.cellsOf f.type==a.size&&MU f.type a&&qd P MU (f'::fs) (off+a.size) b
 |_,_,_=>false
def OC (P:Program):Nat->TypeId->CT->Bool
 |0,_,_=>false
 |n+1,t,e=>
  match P.underlying t with
  |some (.int k)=>match e with| .int k'=>decide (k=k')|_=>false
  |some .bool=>match e with| .bool=>true|_=>false
  |some .string=>match e with| .str=>true|_=>false
  |some (.slice te)=>match e with| .sl e'=>P.cellsOf te==e'.size&&OC P n te e'|_=>false
  |some (.struct fs)=>P.cellsOf t==e.size&&qd P (OC P n) fs.toList 0 e
  |_=>false
def InR:(e:CT)->e.D->Prop
 | .int k,n=>k.min<=n/\n<=k.max
 | .bool,_=>True
 | .str,s=>s.length<=maxLen
 | .sl e,xs=>xs.length<=maxLen/\∀x∈xs,InR e x
 | .pair a b,x=>InR a x.1/\InR b x.2
def Old (w:World)(b _o:Nat):Prop:=b<w.heap.size
section
variable {H:Type} {enc:TypeId×Value->H} {P:Program} {w:World} {base:Nat} {held:Bool}
theorem Sp {α β:Type}{f:α->ax β}:∀{l:aw α}{r:aw β},l.mapM f=some r->r.length=l.length/\∀(i:Nat)(y:β),r[i]?=some y->∃x,l[i]?=some x/\f x=some y
 |[],r,h=>by simp at h;subst h;simp
 |x::l,r,h=>by rw[List.mapM_cons]at h;obtain⟨y,hy,h⟩:=aL.1 h;obtain⟨ys,hys,h⟩:=aL.1 h;cases h;obtain⟨hl,hg⟩:=Sp hys;refine⟨by simp[hl],λi z hz=>?_⟩;cases i with|zero=>simp at hz;subst hz;exact⟨x,rfl,hy⟩|succ i=>exact hg i z (by simpa using hz)
theorem MS {a:Addr}{n:Nat}{cs:iq}(h:w.cells? base a n=some cs):cs.length=n/\∀j v,cs[j]?=some v->w.cell? (a.add j)=some v:=by
 unfold World.cells? at h;split at h;obtain⟨hl,hg⟩:=Sp h;refine⟨by simpa using hl,λj v hv=>?_⟩;obtain⟨x,hx,hy⟩:=hg j v hv;have hj:j<n:=by have:=(aF.1 hv).1;simp at hl;omega
 rw[List.getElem?_range hj]at hx;cases hx;exact hy;cases h
theorem T7 {a:Addr}{v:Value}(h:w.cell? a=some v):a=⟨a.block,a.off,none⟩:=by
 unfold World.cell? at h;split at h;split at h;cases h;rename_i hs;cases a with|mk b o s=>cases s<;>simp at hs⊢
 cases h
theorem HC:∀(n:Nat)(t:TypeId)(e:CT)(fuel:Nat)(cs:iq)(d:DataW H)(ps:aw MemPlace),OC P n t e=true->
 DataW.trod enc P w base (λ_=>true) held fuel t cs=some (d,ps)->∃x:e.D,iT w (Old w) e cs x/\InR e x
 |0,t,e,fuel,cs,d,ps,hc,h=>by cases hc
 |n+1,t,e,fuel,cs,d,ps,hc,h=>by
  unfold OC at hc;split at hc;rename_i k hu;split at hc;rename_i k';have Ph:=bl hc;subst Ph;obtain⟨m,rfl,_,hwf⟩:=DataW.trod_int hu h;simp only[Lit.wf,ae,aB]at hwf;exact⟨m,rfl,hwf⟩;cases hc;rename_i hu;split at hc;obtain⟨b,rfl,_⟩:=DataW.trod_bool hu h;exact⟨b,rfl,cv⟩;cases hc;rename_i hu;split at hc;obtain⟨s,rfl,_,hs⟩:=DataW.trod_string hu h;exact⟨s.data.toList,by simp[iT],by simpa[InR]using hs⟩;cases hc;rename_i te hu;split at hc;rename_i e';simp only[ae,aS]at hc;obtain⟨ti,hce⟩:=hc;rcases Go.Deep.open_slice hu h with⟨rfl,_⟩|⟨a,len,cap,m,n',D,Pl,rfl,_,hlc,hcm,hm,_,Cr⟩;exact⟨[],⟨_,rfl,.inl ⟨⟨_,rfl⟩,rfl⟩⟩,by simp[InR]⟩;simp only[bN]at hm;subst hm;have Yx:=e'.size_pos;have hx:∀i,i<len->∃x:e'.D,(∃pH,w.cells? base (a.add (i*P.cellsOf te)) (P.cellsOf te)=some pH/\iT w (Old w) e' pH x)/\InR e' x:=by intro i hi;obtain⟨pH,h1,h2⟩:=Cr i (by omega);obtain⟨x,hr,sJ⟩:=HC n te e' n' pH (D i) (Pl i) hce h2;exact⟨x,⟨pH,h1,hr⟩,sJ⟩
  have:Inhabited e'.D:=⟨e'.zero⟩
  obtain⟨f,hf⟩:=Go.Deep.choose_lt hx;by_cases FG:m=0;have hl:len=0:=by omega
  subst hl;subst FG;exact⟨[],⟨_,rfl,.inl ⟨⟨_,rfl⟩,rfl⟩⟩,by simp[InR]⟩;have aca:a=⟨a.block,a.off,none⟩:=by
   obtain⟨pH,h1,_⟩:=Cr 0 (by omega);obtain⟨hl,hg⟩:=MS h1;have h0:0<pH.length:=by rw[hl,ti];exact Yx
   have:=hg 0 _ (al h0);simp only[Nat.zero_mul]at this;have h2:(a.add 0).add 0=a:=by simp[Addr.add]
   rw[h2]at this;exact T7 this
  refine⟨(List.range len).map f,⟨_,rfl,.inr ⟨a.block,a.off,m,by rw[<-aca];simp,by simpa using hlc,λi x hi=>?_⟩⟩,by simp;omega,λx zQ=>?_⟩;have Ml:i<len:=by simpa using(aF.1 hi).1
  rw[List.getElem?_map,List.getElem?_range Ml]at hi;simp only[dc,aZ]at hi;subst hi;obtain⟨⟨pH,h1,hr⟩,_⟩:=hf i Ml;refine⟨pH,λj v hv=>?_,hr⟩;obtain⟨_,hg⟩:=MS h1;have xg:=hg j v hv;rw[aca,mF,mF,ti]at xg;exact⟨World.block_lt_of_cell? w ⟨a.block,a.off+i*e'.size+j,none⟩ xg,xg⟩;obtain⟨i,hi,rfl⟩:=List.mem_map.1 zQ;exact(hf i (by simpa using hi)).2;cases hc;rename_i fs hu;simp only[ae,aS]at hc;obtain⟨ti,W7⟩:=hc;obtain⟨xs,n',_,_,hlen,hxl,E9⟩:=DataW.trod_struct hu h
  have key:∀(l:aw Field)(off k:Nat)(e':CT),(∀(i:Nat)(f:Field),l[i]?=some f->fs[k+i]?=some f)->qd P (OC P n) l off e'=true->off+e'.size<=cs.length->
   ∃x:e'.D,iT w (Old w) e' ((cs.drop off).take e'.size) x/\InR e' x:=by
   intro l
   induction l with
   |nil=>intro off k e' _ W7;cases W7
   |cons f l ih=>
    intro off k e' aeD W7 gw
    have hf:=aeD 0 f rfl
    have UZ:∀e1:CT,f.offset=off->P.cellsOf f.type=e1.size->OC P n f.type e1=true->∃x:e1.D,iT w (Old w) e1 ((cs.drop off).take e1.size) x/\InR e1 x:=by
     intro e1 h1 h2 h3;have ht:=E9 _ f hf;have gQ:k+0<xs.length:=by rw[hxl];exact(Array.getElem?_eq_some_iff.1 hf).1
     rw[al gQ,h1,h2]at ht;exact HC n f.type e1 n' _ _ _ h3 ht
    cases l with
    |nil=>
     simp only[qd,ae,aS]at W7
     exact UZ e' W7.1.1 W7.1.2 W7.2
    |cons f' l=>
     cases e' with
     |pair a b=>
      simp only[qd,ae,aS]at W7
      obtain⟨⟨⟨h1,h2⟩,h3⟩,h4⟩:=W7
      simp only[CT.size]at gw
      obtain⟨x,hx,Ct⟩:=UZ a h1 h2 h3
      obtain⟨y,hy,hiy⟩:=ih (off+a.size) (k+1) b (λi f0 hi=>by have:=aeD (i+1) f0 (by simpa using hi);rwa[show k+1+i=k+(i+1) by omega]) h4 (by omega)
      refine⟨(x,y),⟨_,_,?_,hx,hy⟩,Ct,hiy⟩
      rw[CT.size,List.take_add,eH]
     |int k=>simp[qd]at W7
     |bool=>simp[qd]at W7
     |str=>simp[qd]at W7
     |sl e0=>simp[qd]at W7
  obtain⟨x,hx,sJ⟩:=key fs.toList 0 0 e (λi f hi=>by rw[ca,<-cj];exact hi) W7 (by rw[hlen,ti];omega);refine⟨x,?_,sJ⟩;rw[dP,bK (by rw[hlen,ti];exact aU _)]at hx;exact hx;cases hc
end
end Go.Dn
