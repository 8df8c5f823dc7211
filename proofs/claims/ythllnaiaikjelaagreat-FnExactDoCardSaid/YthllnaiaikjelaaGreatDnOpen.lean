import Derived.Test.YthllnaiaikjelaaGreatDnRun
import Derived.Deep.Slices
import Derived.ChangeArms
import Derived.MapPlaces
/- The arguments of a statement's input, as data. -/
namespace Go.Dn
open Go.RowKit Go.ChangeShapes Go.WideShapes
def vG (P:Program)(Zu:TypeId->CT->Bool):ar Field->Nat->CT->Bool
 |[],_,_=>false
 |[f],off,e=>f.offset==off&&P.cellsOf f.type==e.size&&Zu f.type e
 |f::f'::fs,off,.pair a b=>f.offset==off&&P.cellsOf f.type==a.size&&Zu f.type a&&vG P Zu (f'::fs) (off+a.size) b
 |_,_,_=>false
def WO (P:Program):Nat->TypeId->CT->Bool
 |0,_,_=>false
 |n+1,t,e=>
  match P.underlying t with
  |some (.int k)=>match e with| .int k'=>decide (k=k')|_=>false
  |some .bool=>match e with| .bool=>true|_=>false
  |some .string=>match e with| .str=>true|_=>false
  |some (.slice te)=>match e with| .sl e'=>P.cellsOf te==e'.size&&WO P n te e'|_=>false
  |some (.struct fs)=>P.cellsOf t==e.size&&vG P (WO P n) fs.toList 0 e
  |_=>false
def InR:(e:CT)->e.D->Prop
 | .int k,n=>k.min<=n/\n<=k.max
 | .bool,_=>True
 | .str,s=>s.length<=maxLen
 | .sl e,xs=>xs.length<=maxLen/\∀x∈xs,InR e x
 | .pair a b,x=>InR a x.1/\InR b x.2
def Old (w:World)(b _o:Nat):Prop:=b<w.heap.size
section
variable {H:Type} {enc:TypeId×Value->H} {P:Program} {w:World} {base:Nat} {held:Bool}
theorem acM {α β:Type}{f:α->au β}:∀{l:ar α}{r:ar β},l.mapM f=some r->r.length=l.length/\∀(i:Nat)(y:β),r[i]?=some y->∃x,l[i]?=some x/\f x=some y
 |[],r,h=>by simp at h;subst h;simp
 |x::l,r,h=>by rw[List.mapM_cons]at h;obtain⟨y,hy,h⟩:=aX.1 h;obtain⟨ys,hys,h⟩:=aX.1 h;cases h;obtain⟨hl,hg⟩:=acM hys;refine⟨by simp[hl],λi z hz=>?_⟩;cases i with|zero=>simp at hz;subst hz;exact⟨x,rfl,hy⟩|succ i=>exact hg i z (by simpa using hz)
theorem Xy {a:Addr}{n:Nat}{cs:iU}(h:w.cells? base a n=some cs):cs.length=n/\∀j v,cs[j]?=some v->w.cell? (a.add j)=some v:=by
 unfold World.cells? at h;split at h;obtain⟨hl,hg⟩:=acM h;refine⟨by simpa using hl,λj v hv=>?_⟩;obtain⟨x,hx,hy⟩:=hg j v hv;have hj:j<n:=by have:=(aJ.1 hv).1;simp at hl;omega
 rw[List.getElem?_range hj]at hx;cases hx;exact hy;cases h
theorem aeK {a:Addr}{v:Value}(h:w.cell? a=some v):a=⟨a.block,a.off,none⟩:=by
 unfold World.cell? at h;split at h;split at h;cases h;rename_i hs;cases a with|mk b o s=>cases s<;>simp at hs⊢
 cases h
theorem RP:∀(n:Nat)(t:TypeId)(e:CT)(fuel:Nat)(cs:iU)(d:DataW H)(ps:ar MemPlace),WO P n t e=true->
 DataW.trod enc P w base (λ_=>true) held fuel t cs=some (d,ps)->∃x:e.D,kg w (Old w) e cs x/\InR e x
 |0,t,e,fuel,cs,d,ps,hc,h=>by cases hc
 |n+1,t,e,fuel,cs,d,ps,hc,h=>by
  unfold WO at hc;split at hc;rename_i k hu;split at hc;rename_i k';have ZT:=iW hc;subst ZT;obtain⟨m,rfl,_,hwf⟩:=DataW.trod_int hu h;simp only[Lit.wf,ah,bI]at hwf;exact⟨m,rfl,hwf⟩;cases hc;rename_i hu;split at hc;obtain⟨b,rfl,_⟩:=DataW.trod_bool hu h;exact⟨b,rfl,bM⟩;cases hc;rename_i hu;split at hc;obtain⟨s,rfl,_,hs⟩:=DataW.trod_string hu h;exact⟨s.data.toList,by simp[kg],by simpa[InR]using hs⟩;cases hc;rename_i te hu;split at hc;rename_i e';simp only[ah,bn]at hc;obtain⟨xp,hce⟩:=hc;rcases Go.Deep.open_slice hu h with⟨rfl,_⟩|⟨a,len,cap,m,n',D,Pl,rfl,_,hlc,hcm,hm,_,LW⟩;exact⟨[],⟨_,rfl,.inl ⟨⟨_,rfl⟩,rfl⟩⟩,by simp[InR]⟩;simp only[cd]at hm;subst hm;have aiO:=e'.size_pos;have hx:∀i,i<len->∃x:e'.D,(∃oY,w.cells? base (a.add (i*P.cellsOf te)) (P.cellsOf te)=some oY/\kg w (Old w) e' oY x)/\InR e' x:=by intro i hi;obtain⟨oY,h1,h2⟩:=LW i (by omega);obtain⟨x,hr,vC⟩:=RP n te e' n' oY (D i) (Pl i) hce h2;exact⟨x,⟨oY,h1,hr⟩,vC⟩
  have:Inhabited e'.D:=⟨e'.zero⟩
  obtain⟨f,hf⟩:=Go.Deep.choose_lt hx;by_cases NA:m=0;have hl:len=0:=by omega
  subst hl;subst NA;exact⟨[],⟨_,rfl,.inl ⟨⟨_,rfl⟩,rfl⟩⟩,by simp[InR]⟩;have alV:a=⟨a.block,a.off,none⟩:=by
   obtain⟨oY,h1,_⟩:=LW 0 (by omega);obtain⟨hl,hg⟩:=Xy h1;have h0:0<oY.length:=by rw[hl,xp];exact aiO
   have:=hg 0 _ (al h0);simp only[Nat.zero_mul]at this;have h2:(a.add 0).add 0=a:=by simp[Addr.add]
   rw[h2]at this;exact aeK this
  refine⟨(List.range len).map f,⟨_,rfl,.inr ⟨a.block,a.off,m,by rw[<-alV];simp,by simpa using hlc,λi x hi=>?_⟩⟩,by simp;omega,λx E2=>?_⟩;have U6:i<len:=by simpa using(aJ.1 hi).1
  rw[List.getElem?_map,List.getElem?_range U6]at hi;simp only[dz,bf]at hi;subst hi;obtain⟨⟨oY,h1,hr⟩,_⟩:=hf i U6;refine⟨oY,λj v hv=>?_,hr⟩;obtain⟨_,hg⟩:=Xy h1;have IB:=hg j v hv;rw[alV,pJ,pJ,xp]at IB;exact⟨World.block_lt_of_cell? w ⟨a.block,a.off+i*e'.size+j,none⟩ IB,IB⟩;obtain⟨i,hi,rfl⟩:=List.mem_map.1 E2;exact(hf i (by simpa using hi)).2;cases hc;rename_i fs hu;simp only[ah,bn]at hc;obtain⟨xp,hcf⟩:=hc;obtain⟨xs,n',_,_,hlen,hxl,NC⟩:=DataW.trod_struct hu h
  have key:∀(l:ar Field)(off k:Nat)(e':CT),(∀(i:Nat)(f:Field),l[i]?=some f->fs[k+i]?=some f)->vG P (WO P n) l off e'=true->off+e'.size<=cs.length->
   ∃x:e'.D,kg w (Old w) e' ((cs.drop off).take e'.size) x/\InR e' x:=by
   intro l
   induction l with
   |nil=>intro off k e' _ hcf;cases hcf
   |cons f l ih=>
    intro off k e' aoq hcf iy
    have hf:=aoq 0 f rfl
    have afd:∀e1:CT,f.offset=off->P.cellsOf f.type=e1.size->WO P n f.type e1=true->∃x:e1.D,kg w (Old w) e1 ((cs.drop off).take e1.size) x/\InR e1 x:=by
     intro e1 h1 h2 h3;have ht:=NC _ f hf;have iG:k+0<xs.length:=by rw[hxl];exact(Array.getElem?_eq_some_iff.1 hf).1
     rw[al iG,h1,h2]at ht;exact RP n f.type e1 n' _ _ _ h3 ht
    cases l with
    |nil=>
     simp only[vG,ah,bn]at hcf
     exact afd e' hcf.1.1 hcf.1.2 hcf.2
    |cons f' l=>
     cases e' with
     |pair a b=>
      simp only[vG,ah,bn]at hcf
      obtain⟨⟨⟨h1,h2⟩,h3⟩,h4⟩:=hcf
      simp only[CT.size]at iy
      obtain⟨x,hx,JI⟩:=afd a h1 h2 h3
      obtain⟨y,hy,hiy⟩:=ih (off+a.size) (k+1) b (λi f0 hi=>by have:=aoq (i+1) f0 (by simpa using hi);rwa[show k+1+i=k+(i+1) by omega]) h4 (by omega)
      refine⟨(x,y),⟨_,_,?_,hx,hy⟩,JI,hiy⟩
      rw[CT.size,List.take_add,eL]
     |int k=>simp[vG]at hcf
     |bool=>simp[vG]at hcf
     |str=>simp[vG]at hcf
     |sl e0=>simp[vG]at hcf
  obtain⟨x,hx,vC⟩:=key fs.toList 0 0 e (λi f hi=>by rw[cr,<-cm];exact hi) hcf (by rw[hlen,xp];omega);refine⟨x,?_,vC⟩;rw[fI,bL (by rw[hlen,xp];exact ba _)]at hx;exact hx;cases hc
end
end Go.Dn
