import Derived.Test.YtfbhfnniblfpbaaGreatDnRun
import Derived.Deep.Slices
import Derived.ChangeArms
import Derived.MapPlaces
/- The arguments of a statement's input, as data. -/
namespace Go.Dn
open Go.RowKit Go.ChangeShapes Go.WideShapes
def ry (P:Program)(Sj:TypeId->CT->Bool):au Field->Nat->CT->Bool
 |[],_,_=>false
 |[f],off,e=>f.offset==off&&P.cellsOf f.type==e.size&&Sj f.type e
 |f::f'::fs,off,.pair a b=>f.offset==off&&P.cellsOf f.type==a.size&&Sj f.type a&&ry P Sj (f'::fs) (off+a.size) b
 |_,_,_=>false
def PY (P:Program):Nat->TypeId->CT->Bool
 |0,_,_=>false
 |n+1,t,e=>
  match P.underlying t with
  |some (.int k)=>match e with| .int k'=>decide (k=k')|_=>false
  |some .bool=>match e with| .bool=>true|_=>false
  |some .string=>match e with| .str=>true|_=>false
  |some (.slice te)=>match e with| .sl e'=>P.cellsOf te==e'.size&&PY P n te e'|_=>false
  |some (.struct fs)=>P.cellsOf t==e.size&&ry P (PY P n) fs.toList 0 e
  |_=>false
def InR:(e:CT)->e.D->Prop
 | .int k,n=>k.min<=n/\n<=k.max
 | .bool,_=>True
 | .str,s=>s.length<=maxLen
 | .sl e,xs=>xs.length<=maxLen/\∀x∈xs,InR e x
 | .pair a b,x=>InR a x.1/\InR b x.2
def Old (w:World)(b _o:Nat):Prop:=b<w.heap.size
section
variable {H:Type} {enc:TypeId×Value->H} {P:Program} {w:World} {base:Nat} {held:Bool}
theorem Vm {α β:Type}{f:α->aw β}:∀{l:au α}{r:au β},l.mapM f=some r->r.length=l.length/\∀(i:Nat)(y:β),r[i]?=some y->∃x,l[i]?=some x/\f x=some y
 |[],r,h=>by simp at h;subst h;simp
 |x::l,r,h=>by rw[List.mapM_cons]at h;obtain⟨y,hy,h⟩:=aK.1 h;obtain⟨ys,hys,h⟩:=aK.1 h;cases h;obtain⟨hl,hg⟩:=Vm hys;refine⟨by simp[hl],λi z hz=>?_⟩;cases i with|zero=>simp at hz;subst hz;exact⟨x,rfl,hy⟩|succ i=>exact hg i z (by simpa using hz)
theorem QB {a:Addr}{n:Nat}{cs:gP}(h:w.cells? base a n=some cs):cs.length=n/\∀j v,cs[j]?=some v->w.cell? (a.add j)=some v:=by
 unfold World.cells? at h;split at h;obtain⟨hl,hg⟩:=Vm h;refine⟨by simpa using hl,λj v hv=>?_⟩;obtain⟨x,hx,hy⟩:=hg j v hv;have hj:j<n:=by have:=(aD.1 hv).1;simp at hl;omega
 rw[List.getElem?_range hj]at hx;cases hx;exact hy;cases h
theorem Xa {a:Addr}{v:Value}(h:w.cell? a=some v):a=⟨a.block,a.off,none⟩:=by
 unfold World.cell? at h;split at h;split at h;cases h;rename_i hs;cases a with|mk b o s=>cases s<;>simp at hs⊢
 cases h
theorem Lb:∀(n:Nat)(t:TypeId)(e:CT)(fuel:Nat)(cs:gP)(d:DataW H)(ps:au MemPlace),PY P n t e=true->
 DataW.trod enc P w base (λ_=>true) held fuel t cs=some (d,ps)->∃x:e.D,iU w (Old w) e cs x/\InR e x
 |0,t,e,fuel,cs,d,ps,hc,h=>by cases hc
 |n+1,t,e,fuel,cs,d,ps,hc,h=>by
  unfold PY at hc;split at hc;rename_i k hu;split at hc;rename_i k';have SF:=gT hc;subst SF;obtain⟨m,rfl,_,hwf⟩:=DataW.trod_int hu h;simp only[Lit.wf,ah,bD]at hwf;exact⟨m,rfl,hwf⟩;cases hc;rename_i hu;split at hc;obtain⟨b,rfl,_⟩:=DataW.trod_bool hu h;exact⟨b,rfl,df⟩;cases hc;rename_i hu;split at hc;obtain⟨s,rfl,_,hs⟩:=DataW.trod_string hu h;exact⟨s.data.toList,by simp[iU],by simpa[InR]using hs⟩;cases hc;rename_i te hu;split at hc;rename_i e';simp only[ah,bC]at hc;obtain⟨sR,hce⟩:=hc;rcases Go.Deep.open_slice hu h with⟨rfl,_⟩|⟨a,len,cap,m,n',D,Pl,rfl,_,hlc,hcm,hm,_,Gd⟩;exact⟨[],⟨_,rfl,.inl ⟨⟨_,rfl⟩,rfl⟩⟩,by simp[InR]⟩;simp only[bN]at hm;subst hm;have aaN:=e'.size_pos;have hx:∀i,i<len->∃x:e'.D,(∃mK,w.cells? base (a.add (i*P.cellsOf te)) (P.cellsOf te)=some mK/\iU w (Old w) e' mK x)/\InR e' x:=by intro i hi;obtain⟨mK,h1,h2⟩:=Gd i (by omega);obtain⟨x,hr,tU⟩:=Lb n te e' n' mK (D i) (Pl i) hce h2;exact⟨x,⟨mK,h1,hr⟩,tU⟩
  have:Inhabited e'.D:=⟨e'.zero⟩
  obtain⟨f,hf⟩:=Go.Deep.choose_lt hx;by_cases HH:m=0;have hl:len=0:=by omega
  subst hl;subst HH;exact⟨[],⟨_,rfl,.inl ⟨⟨_,rfl⟩,rfl⟩⟩,by simp[InR]⟩;have adt:a=⟨a.block,a.off,none⟩:=by
   obtain⟨mK,h1,_⟩:=Gd 0 (by omega);obtain⟨hl,hg⟩:=QB h1;have h0:0<mK.length:=by rw[hl,sR];exact aaN
   have:=hg 0 _ (al h0);simp only[Nat.zero_mul]at this;have h2:(a.add 0).add 0=a:=by simp[Addr.add]
   rw[h2]at this;exact Xa this
  refine⟨(List.range len).map f,⟨_,rfl,.inr ⟨a.block,a.off,m,by rw[<-adt];simp,by simpa using hlc,λi x hi=>?_⟩⟩,by simp;omega,λx zY=>?_⟩;have N9:i<len:=by simpa using(aD.1 hi).1
  rw[List.getElem?_map,List.getElem?_range N9]at hi;simp only[cY,aZ]at hi;subst hi;obtain⟨⟨mK,h1,hr⟩,_⟩:=hf i N9;refine⟨mK,λj v hv=>?_,hr⟩;obtain⟨_,hg⟩:=QB h1;have Dg:=hg j v hv;rw[adt,nf,nf,sR]at Dg;exact⟨World.block_lt_of_cell? w ⟨a.block,a.off+i*e'.size+j,none⟩ Dg,Dg⟩;obtain⟨i,hi,rfl⟩:=List.mem_map.1 zY;exact(hf i (by simpa using hi)).2;cases hc;rename_i fs hu;simp only[ah,bC]at hc;obtain⟨sR,Zu⟩:=hc;obtain⟨xs,n',_,_,hlen,hxl,HI⟩:=DataW.trod_struct hu h
  have key:∀(l:au Field)(off k:Nat)(e':CT),(∀(i:Nat)(f:Field),l[i]?=some f->fs[k+i]?=some f)->ry P (PY P n) l off e'=true->off+e'.size<=cs.length->
   ∃x:e'.D,iU w (Old w) e' ((cs.drop off).take e'.size) x/\InR e' x:=by
   intro l
   induction l with
   |nil=>intro off k e' _ Zu;cases Zu
   |cons f l ih=>
    intro off k e' afs Zu gk
    have hf:=afs 0 f rfl
    have XC:∀e1:CT,f.offset=off->P.cellsOf f.type=e1.size->PY P n f.type e1=true->∃x:e1.D,iU w (Old w) e1 ((cs.drop off).take e1.size) x/\InR e1 x:=by
     intro e1 h1 h2 h3;have ht:=HI _ f hf;have gq:k+0<xs.length:=by rw[hxl];exact(Array.getElem?_eq_some_iff.1 hf).1
     rw[al gq,h1,h2]at ht;exact Lb n f.type e1 n' _ _ _ h3 ht
    cases l with
    |nil=>
     simp only[ry,ah,bC]at Zu
     exact XC e' Zu.1.1 Zu.1.2 Zu.2
    |cons f' l=>
     cases e' with
     |pair a b=>
      simp only[ry,ah,bC]at Zu
      obtain⟨⟨⟨h1,h2⟩,h3⟩,h4⟩:=Zu
      simp only[CT.size]at gk
      obtain⟨x,hx,D7⟩:=XC a h1 h2 h3
      obtain⟨y,hy,hiy⟩:=ih (off+a.size) (k+1) b (λi f0 hi=>by have:=afs (i+1) f0 (by simpa using hi);rwa[show k+1+i=k+(i+1) by omega]) h4 (by omega)
      refine⟨(x,y),⟨_,_,?_,hx,hy⟩,D7,hiy⟩
      rw[CT.size,List.take_add,dJ]
     |int k=>simp[ry]at Zu
     |bool=>simp[ry]at Zu
     |str=>simp[ry]at Zu
     |sl e0=>simp[ry]at Zu
  obtain⟨x,hx,tU⟩:=key fs.toList 0 0 e (λi f hi=>by rw[cc,<-bZ];exact hi) Zu (by rw[hlen,sR];omega);refine⟨x,?_,tU⟩;rw[ef,bB (by rw[hlen,sR];exact aX _)]at hx;exact hx;cases hc
end
end Go.Dn
