import Derived.Test.YtfbhfnniblfpbaaGreatDnRun
import Derived.Deep.Slices
import Derived.ChangeArms
import Derived.MapPlaces
/- The arguments of a statement's input, as data. -/
namespace Go.Dn
open Go.RowKit Go.ChangeShapes Go.WideShapes
def se (P:Program)(RZ:TypeId->CT->Bool):au Field->Nat->CT->Bool
 |[],_,_=>false
 |[f],off,e=>f.offset==off&&P.cellsOf f.type==e.size&&RZ f.type e
 |f::f'::fs,off,.pair a b=>f.offset==off&&P.cellsOf f.type==a.size&&RZ f.type a&&se P RZ (f'::fs) (off+a.size) b
 |_,_,_=>false
def R2 (P:Program):Nat->TypeId->CT->Bool
 |0,_,_=>false
 |n+1,t,e=>
  match P.underlying t with
  |some (.int k)=>match e with| .int k'=>decide (k=k')|_=>false
  |some .bool=>match e with| .bool=>true|_=>false
  |some .string=>match e with| .str=>true|_=>false
  |some (.slice te)=>match e with| .sl e'=>P.cellsOf te==e'.size&&R2 P n te e'|_=>false
  |some (.struct fs)=>P.cellsOf t==e.size&&se P (R2 P n) fs.toList 0 e
  |_=>false
def InR:(e:CT)->e.D->Prop
 | .int k,n=>k.min<=n/\n<=k.max
 | .bool,_=>True
 | .str,s=>s.length<=maxLen
 | .sl e,xs=>xs.length<=maxLen/\∀x∈xs,InR e x
 | .pair a b,x=>InR a x.1/\InR b x.2
def Old (w:World)(b _o:Nat):Prop:=b<w.heap.size
section
variable {H:Type} {enc:TypeId×Value->H} {P:Program} {w:World} {base:Nat} {held:Bool}
theorem Vb {α β:Type}{f:α->ax β}:∀{l:au α}{r:au β},l.mapM f=some r->r.length=l.length/\∀(i:Nat)(y:β),r[i]?=some y->∃x,l[i]?=some x/\f x=some y
 |[],r,h=>by simp at h;subst h;simp
 |x::l,r,h=>by rw[List.mapM_cons]at h;obtain⟨y,hy,h⟩:=aO.1 h;obtain⟨ys,hys,h⟩:=aO.1 h;cases h;obtain⟨hl,hg⟩:=Vb hys;refine⟨by simp[hl],λi z hz=>?_⟩;cases i with|zero=>simp at hz;subst hz;exact⟨x,rfl,hy⟩|succ i=>exact hg i z (by simpa using hz)
theorem Qb {a:Addr}{n:Nat}{cs:ie}(h:w.cells? base a n=some cs):cs.length=n/\∀j v,cs[j]?=some v->w.cell? (a.add j)=some v:=by
 unfold World.cells? at h;split at h;obtain⟨hl,hg⟩:=Vb h;refine⟨by simpa using hl,λj v hv=>?_⟩;obtain⟨x,hx,hy⟩:=hg j v hv;have hj:j<n:=by have:=(aE.1 hv).1;simp at hl;omega
 rw[List.getElem?_range hj]at hx;cases hx;exact hy;cases h
theorem W3 {a:Addr}{v:Value}(h:w.cell? a=some v):a=⟨a.block,a.off,none⟩:=by
 unfold World.cell? at h;split at h;split at h;cases h;rename_i hs;cases a with|mk b o s=>cases s<;>simp at hs⊢
 cases h
theorem KF:∀(n:Nat)(t:TypeId)(e:CT)(fuel:Nat)(cs:ie)(d:DataW H)(ps:au MemPlace),R2 P n t e=true->
 DataW.trod enc P w base (λ_=>true) held fuel t cs=some (d,ps)->∃x:e.D,jn w (Old w) e cs x/\InR e x
 |0,t,e,fuel,cs,d,ps,hc,h=>by cases hc
 |n+1,t,e,fuel,cs,d,ps,hc,h=>by
  unfold R2 at hc;split at hc;rename_i k hu;split at hc;rename_i k';have So:=bI hc;subst So;obtain⟨m,rfl,_,hwf⟩:=DataW.trod_int hu h;simp only[Lit.wf,ah,bp]at hwf;exact⟨m,rfl,hwf⟩;cases hc;rename_i hu;split at hc;obtain⟨b,rfl,_⟩:=DataW.trod_bool hu h;exact⟨b,rfl,cv⟩;cases hc;rename_i hu;split at hc;obtain⟨s,rfl,_,hs⟩:=DataW.trod_string hu h;exact⟨s.data.toList,by simp[jn],by simpa[InR]using hs⟩;cases hc;rename_i te hu;split at hc;rename_i e';simp only[ah,bw]at hc;obtain⟨uq,hce⟩:=hc;rcases Go.Deep.open_slice hu h with⟨rfl,_⟩|⟨a,len,cap,m,n',D,Pl,rfl,_,hlc,hcm,hm,_,Fo⟩;exact⟨[],⟨_,rfl,.inl ⟨⟨_,rfl⟩,rfl⟩⟩,by simp[InR]⟩;simp only[cp]at hm;subst hm;have aaG:=e'.size_pos;have hx:∀i,i<len->∃x:e'.D,(∃rf,w.cells? base (a.add (i*P.cellsOf te)) (P.cellsOf te)=some rf/\jn w (Old w) e' rf x)/\InR e' x:=by intro i hi;obtain⟨rf,h1,h2⟩:=Fo i (by omega);obtain⟨x,hr,vS⟩:=KF n te e' n' rf (D i) (Pl i) hce h2;exact⟨x,⟨rf,h1,hr⟩,vS⟩
  have:Inhabited e'.D:=⟨e'.zero⟩
  obtain⟨f,hf⟩:=Go.Deep.choose_lt hx;by_cases GS:m=0;have hl:len=0:=by omega
  subst hl;subst GS;exact⟨[],⟨_,rfl,.inl ⟨⟨_,rfl⟩,rfl⟩⟩,by simp[InR]⟩;have ads:a=⟨a.block,a.off,none⟩:=by
   obtain⟨rf,h1,_⟩:=Fo 0 (by omega);obtain⟨hl,hg⟩:=Qb h1;have h0:0<rf.length:=by rw[hl,uq];exact aaG
   have:=hg 0 _ (al h0);simp only[Nat.zero_mul]at this;have h2:(a.add 0).add 0=a:=by simp[Addr.add]
   rw[h2]at this;exact W3 this
  refine⟨(List.range len).map f,⟨_,rfl,.inr ⟨a.block,a.off,m,by rw[<-ads];simp,by simpa using hlc,λi x hi=>?_⟩⟩,by simp;omega,λx B7=>?_⟩;have Pw:i<len:=by simpa using(aE.1 hi).1
  rw[List.getElem?_map,List.getElem?_range Pw]at hi;simp only[dk,ba]at hi;subst hi;obtain⟨⟨rf,h1,hr⟩,_⟩:=hf i Pw;refine⟨rf,λj v hv=>?_,hr⟩;obtain⟨_,hg⟩:=Qb h1;have Bw:=hg j v hv;rw[ads,nu,nu,uq]at Bw;exact⟨World.block_lt_of_cell? w ⟨a.block,a.off+i*e'.size+j,none⟩ Bw,Bw⟩;obtain⟨i,hi,rfl⟩:=List.mem_map.1 B7;exact(hf i (by simpa using hi)).2;cases hc;rename_i fs hu;simp only[ah,bw]at hc;obtain⟨uq,Zl⟩:=hc;obtain⟨xs,n',_,_,hlen,hxl,H9⟩:=DataW.trod_struct hu h
  have key:∀(l:au Field)(off k:Nat)(e':CT),(∀(i:Nat)(f:Field),l[i]?=some f->fs[k+i]?=some f)->se P (R2 P n) l off e'=true->off+e'.size<=cs.length->
   ∃x:e'.D,jn w (Old w) e' ((cs.drop off).take e'.size) x/\InR e' x:=by
   intro l
   induction l with
   |nil=>intro off k e' _ Zl;cases Zl
   |cons f l ih=>
    intro off k e' afs Zl gy
    have hf:=afs 0 f rfl
    have Xr:∀e1:CT,f.offset=off->P.cellsOf f.type=e1.size->R2 P n f.type e1=true->∃x:e1.D,jn w (Old w) e1 ((cs.drop off).take e1.size) x/\InR e1 x:=by
     intro e1 h1 h2 h3;have ht:=H9 _ f hf;have gB:k+0<xs.length:=by rw[hxl];exact(Array.getElem?_eq_some_iff.1 hf).1
     rw[al gB,h1,h2]at ht;exact KF n f.type e1 n' _ _ _ h3 ht
    cases l with
    |nil=>
     simp only[se,ah,bw]at Zl
     exact Xr e' Zl.1.1 Zl.1.2 Zl.2
    |cons f' l=>
     cases e' with
     |pair a b=>
      simp only[se,ah,bw]at Zl
      obtain⟨⟨⟨h1,h2⟩,h3⟩,h4⟩:=Zl
      simp only[CT.size]at gy
      obtain⟨x,hx,Fq⟩:=Xr a h1 h2 h3
      obtain⟨y,hy,hiy⟩:=ih (off+a.size) (k+1) b (λi f0 hi=>by have:=afs (i+1) f0 (by simpa using hi);rwa[show k+1+i=k+(i+1) by omega]) h4 (by omega)
      refine⟨(x,y),⟨_,_,?_,hx,hy⟩,Fq,hiy⟩
      rw[CT.size,List.take_add,ec]
     |int k=>simp[se]at Zl
     |bool=>simp[se]at Zl
     |str=>simp[se]at Zl
     |sl e0=>simp[se]at Zl
  obtain⟨x,hx,vS⟩:=key fs.toList 0 0 e (λi f hi=>by rw[cl,<-cm];exact hi) Zl (by rw[hlen,uq];omega);refine⟨x,?_,vS⟩;rw[eG,bL (by rw[hlen,uq];exact aU _)]at hx;exact hx;cases hc
end
end Go.Dn
