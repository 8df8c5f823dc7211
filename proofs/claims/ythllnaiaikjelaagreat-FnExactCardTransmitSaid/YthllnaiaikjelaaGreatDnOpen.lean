import Derived.Test.YthllnaiaikjelaaGreatDnRun
import Derived.Deep.Slices
import Derived.ChangeArms
import Derived.MapPlaces
/- The arguments of a statement's input, as data. -/
namespace Go.Dn
open Go.RowKit Go.ChangeShapes Go.WideShapes
def qW (P:Program)(Sd:TypeId->CT->Bool):aq Field->Nat->CT->Bool
 |[],_,_=>false
 |[f],off,e=>f.offset==off&&P.cellsOf f.type==e.size&&Sd f.type e
 |f::f'::fs,off,.pair a b=>f.offset==off&&P.cellsOf f.type==a.size&&Sd f.type a&&qW P Sd (f'::fs) (off+a.size) b
 |_,_,_=>false
def PU (P:Program):Nat->TypeId->CT->Bool
 |0,_,_=>false
 |n+1,t,e=>
  match P.underlying t with
  |some (.int k)=>match e with| .int k'=>decide (k=k')|_=>false
  |some .bool=>match e with| .bool=>true|_=>false
  |some .string=>match e with| .str=>true|_=>false
  |some (.slice te)=>match e with| .sl e'=>P.cellsOf te==e'.size&&PU P n te e'|_=>false
  |some (.struct fs)=>P.cellsOf t==e.size&&qW P (PU P n) fs.toList 0 e
  |_=>false
def InR:(e:CT)->e.D->Prop
 | .int k,n=>k.min<=n/\n<=k.max
 | .bool,_=>True
 | .str,s=>s.length<=maxLen
 | .sl e,xs=>xs.length<=maxLen/\∀x∈xs,InR e x
 | .pair a b,x=>InR a x.1/\InR b x.2
def Old (w:World)(b _o:Nat):Prop:=b<w.heap.size
section
variable {H:Type} {enc:TypeId×Value->H} {P:Program} {w:World} {base:Nat} {held:Bool}
theorem Vh {α β:Type}{f:α->ar β}:∀{l:aq α}{r:aq β},l.mapM f=some r->r.length=l.length/\∀(i:Nat)(y:β),r[i]?=some y->∃x,l[i]?=some x/\f x=some y
 |[],r,h=>by simp at h;subst h;simp
 |x::l,r,h=>by rw[List.mapM_cons]at h;obtain⟨y,hy,h⟩:=aI.1 h;obtain⟨ys,hys,h⟩:=aI.1 h;cases h;obtain⟨hl,hg⟩:=Vh hys;refine⟨by simp[hl],λi z hz=>?_⟩;cases i with|zero=>simp at hz;subst hz;exact⟨x,rfl,hy⟩|succ i=>exact hg i z (by simpa using hz)
theorem Qx {a:Addr}{n:Nat}{cs:gO}(h:w.cells? base a n=some cs):cs.length=n/\∀j v,cs[j]?=some v->w.cell? (a.add j)=some v:=by
 unfold World.cells? at h;split at h;obtain⟨hl,hg⟩:=Vh h;refine⟨by simpa using hl,λj v hv=>?_⟩;obtain⟨x,hx,hy⟩:=hg j v hv;have hj:j<n:=by have:=(aD.1 hv).1;simp at hl;omega
 rw[List.getElem?_range hj]at hx;cases hx;exact hy;cases h
theorem W6 {a:Addr}{v:Value}(h:w.cell? a=some v):a=⟨a.block,a.off,none⟩:=by
 unfold World.cell? at h;split at h;split at h;cases h;rename_i hs;cases a with|mk b o s=>cases s<;>simp at hs⊢
 cases h
theorem Ls:∀(n:Nat)(t:TypeId)(e:CT)(fuel:Nat)(cs:gO)(d:DataW H)(ps:aq MemPlace),PU P n t e=true->
 DataW.trod enc P w base (λ_=>true) held fuel t cs=some (d,ps)->∃x:e.D,iQ w (Old w) e cs x/\InR e x
 |0,t,e,fuel,cs,d,ps,hc,h=>by cases hc
 |n+1,t,e,fuel,cs,d,ps,hc,h=>by
  unfold PU at hc;split at hc;rename_i k hu;split at hc;rename_i k';have Sz:=gR hc;subst Sz;obtain⟨m,rfl,_,hwf⟩:=DataW.trod_int hu h;simp only[Lit.wf,ah,bE]at hwf;exact⟨m,rfl,hwf⟩;cases hc;rename_i hu;split at hc;obtain⟨b,rfl,_⟩:=DataW.trod_bool hu h;exact⟨b,rfl,bX⟩;cases hc;rename_i hu;split at hc;obtain⟨s,rfl,_,hs⟩:=DataW.trod_string hu h;exact⟨s.data.toList,by simp[iQ],by simpa[InR]using hs⟩;cases hc;rename_i te hu;split at hc;rename_i e';simp only[ah,bk]at hc;obtain⟨sD,hce⟩:=hc;rcases Go.Deep.open_slice hu h with⟨rfl,_⟩|⟨a,len,cap,m,n',D,Pl,rfl,_,hlc,hcm,hm,_,Gi⟩;exact⟨[],⟨_,rfl,.inl ⟨⟨_,rfl⟩,rfl⟩⟩,by simp[InR]⟩;simp only[bF]at hm;subst hm;have aaI:=e'.size_pos;have hx:∀i,i<len->∃x:e'.D,(∃mr,w.cells? base (a.add (i*P.cellsOf te)) (P.cellsOf te)=some mr/\iQ w (Old w) e' mr x)/\InR e' x:=by intro i hi;obtain⟨mr,h1,h2⟩:=Gi i (by omega);obtain⟨x,hr,uQ⟩:=Ls n te e' n' mr (D i) (Pl i) hce h2;exact⟨x,⟨mr,h1,hr⟩,uQ⟩
  have:Inhabited e'.D:=⟨e'.zero⟩
  obtain⟨f,hf⟩:=Go.Deep.choose_lt hx;by_cases HN:m=0;have hl:len=0:=by omega
  subst hl;subst HN;exact⟨[],⟨_,rfl,.inl ⟨⟨_,rfl⟩,rfl⟩⟩,by simp[InR]⟩;have adq:a=⟨a.block,a.off,none⟩:=by
   obtain⟨mr,h1,_⟩:=Gi 0 (by omega);obtain⟨hl,hg⟩:=Qx h1;have h0:0<mr.length:=by rw[hl,sD];exact aaI
   have:=hg 0 _ (ax h0);simp only[Nat.zero_mul]at this;have h2:(a.add 0).add 0=a:=by simp[Addr.add]
   rw[h2]at this;exact W6 this
  refine⟨(List.range len).map f,⟨_,rfl,.inr ⟨a.block,a.off,m,by rw[<-adq];simp,by simpa using hlc,λi x hi=>?_⟩⟩,by simp;omega,λx zU=>?_⟩;have N6:i<len:=by simpa using(aD.1 hi).1
  rw[List.getElem?_map,List.getElem?_range N6]at hi;simp only[db,aZ]at hi;subst hi;obtain⟨⟨mr,h1,hr⟩,_⟩:=hf i N6;refine⟨mr,λj v hv=>?_,hr⟩;obtain⟨_,hg⟩:=Qx h1;have C9:=hg j v hv;rw[adq,mN,mN,sD]at C9;exact⟨World.block_lt_of_cell? w ⟨a.block,a.off+i*e'.size+j,none⟩ C9,C9⟩;obtain⟨i,hi,rfl⟩:=List.mem_map.1 zU;exact(hf i (by simpa using hi)).2;cases hc;rename_i fs hu;simp only[ah,bk]at hc;obtain⟨sD,Zp⟩:=hc;obtain⟨xs,n',_,_,hlen,hxl,HP⟩:=DataW.trod_struct hu h
  have key:∀(l:aq Field)(off k:Nat)(e':CT),(∀(i:Nat)(f:Field),l[i]?=some f->fs[k+i]?=some f)->qW P (PU P n) l off e'=true->off+e'.size<=cs.length->
   ∃x:e'.D,iQ w (Old w) e' ((cs.drop off).take e'.size) x/\InR e' x:=by
   intro l
   induction l with
   |nil=>intro off k e' _ Zp;cases Zp
   |cons f l ih=>
    intro off k e' afB Zp gv
    have hf:=afB 0 f rfl
    have XB:∀e1:CT,f.offset=off->P.cellsOf f.type=e1.size->PU P n f.type e1=true->∃x:e1.D,iQ w (Old w) e1 ((cs.drop off).take e1.size) x/\InR e1 x:=by
     intro e1 h1 h2 h3;have ht:=HP _ f hf;have gM:k+0<xs.length:=by rw[hxl];exact(Array.getElem?_eq_some_iff.1 hf).1
     rw[ax gM,h1,h2]at ht;exact Ls n f.type e1 n' _ _ _ h3 ht
    cases l with
    |nil=>
     simp only[qW,ah,bk]at Zp
     exact XB e' Zp.1.1 Zp.1.2 Zp.2
    |cons f' l=>
     cases e' with
     |pair a b=>
      simp only[qW,ah,bk]at Zp
      obtain⟨⟨⟨h1,h2⟩,h3⟩,h4⟩:=Zp
      simp only[CT.size]at gv
      obtain⟨x,hx,Ej⟩:=XB a h1 h2 h3
      obtain⟨y,hy,hiy⟩:=ih (off+a.size) (k+1) b (λi f0 hi=>by have:=afB (i+1) f0 (by simpa using hi);rwa[show k+1+i=k+(i+1) by omega]) h4 (by omega)
      refine⟨(x,y),⟨_,_,?_,hx,hy⟩,Ej,hiy⟩
      rw[CT.size,List.take_add,eo]
     |int k=>simp[qW]at Zp
     |bool=>simp[qW]at Zp
     |str=>simp[qW]at Zp
     |sl e0=>simp[qW]at Zp
  obtain⟨x,hx,uQ⟩:=key fs.toList 0 0 e (λi f hi=>by rw[cj,<-bK];exact hi) Zp (by rw[hlen,sD];omega);refine⟨x,?_,uQ⟩;rw[fj,bI (by rw[hlen,sD];exact bc _)]at hx;exact hx;cases hc
end
end Go.Dn
