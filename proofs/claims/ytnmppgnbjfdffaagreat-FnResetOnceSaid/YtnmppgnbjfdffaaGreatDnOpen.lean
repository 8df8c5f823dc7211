import Derived.Test.YtnmppgnbjfdffaaGreatDnRun
import Derived.Deep.Slices
import Derived.ChangeArms
import Derived.MapPlaces
/- The arguments of a statement's input, as data. -/
namespace Go.Dn
open Go.RowKit Go.ChangeShapes Go.WideShapes
def pz (P:Program)(L2:TypeId->CT->Bool):aw Field->Nat->CT->Bool
 |[],_,_=>false
 |[f],off,e=>f.offset==off&&P.cellsOf f.type==e.size&&L2 f.type e
 |f::f'::fs,off,.pair a b=>f.offset==off&&P.cellsOf f.type==a.size&&L2 f.type a&&pz P L2 (f'::fs) (off+a.size) b
 |_,_,_=>false
def NA (P:Program):Nat->TypeId->CT->Bool
 |0,_,_=>false
 |n+1,t,e=>
  match P.underlying t with
  |some (.int k)=>match e with| .int k'=>decide (k=k')|_=>false
  |some .bool=>match e with| .bool=>true|_=>false
  |some .string=>match e with| .str=>true|_=>false
  |some (.slice te)=>match e with| .sl e'=>P.cellsOf te==e'.size&&NA P n te e'|_=>false
  |some (.struct fs)=>P.cellsOf t==e.size&&pz P (NA P n) fs.toList 0 e
  |_=>false
def Zg:(e:CT)->e.D->Prop
 | .int k,n=>k.min<=n/\n<=k.max
 | .bool,_=>True
 | .str,s=>s.length<=maxLen
 | .sl e,xs=>xs.length<=maxLen/\∀x∈xs,Zg e x
 | .pair a b,x=>Zg a x.1/\Zg b x.2
def Old (w:World)(b _o:Nat):Prop:=b<w.heap.size
section
variable {H:Type} {enc:TypeId×Value->H} {P:Program} {w:World} {base:Nat} {held:Bool}
theorem Re {α β:Type}{f:α->ay β}:∀{l:aw α}{r:aw β},l.mapM f=some r->r.length=l.length/\∀(i:Nat)(y:β),r[i]?=some y->∃x,l[i]?=some x/\f x=some y
 |[],r,h=>by simp at h;subst h;simp
 |x::l,r,h=>by rw[List.mapM_cons]at h;obtain⟨y,hy,h⟩:=aM.1 h;obtain⟨ys,hys,h⟩:=aM.1 h;cases h;obtain⟨hl,hg⟩:=Re hys;refine⟨by simp[hl],λi z hz=>?_⟩;cases i with|zero=>simp at hz;subst hz;exact⟨x,rfl,hy⟩|succ i=>exact hg i z (by simpa using hz)
theorem L0 {a:Addr}{n:Nat}{cs:ir}(h:w.cells? base a n=some cs):cs.length=n/\∀j v,cs[j]?=some v->w.cell? (a.add j)=some v:=by
 unfold World.cells? at h;split at h;obtain⟨hl,hg⟩:=Re h;refine⟨by simpa using hl,λj v hv=>?_⟩;obtain⟨x,hx,hy⟩:=hg j v hv;have hj:j<n:=by have:=(aE.1 hv).1;simp at hl;omega
 rw[List.getElem?_range hj]at hx;cases hx;exact hy;cases h
theorem S0 {a:Addr}{v:Value}(h:w.cell? a=some v):a=⟨a.block,a.off,none⟩:=by
 unfold World.cell? at h;split at h;split at h;cases h;rename_i hs;cases a with|mk b o s=>cases s<;>simp at hs⊢
 cases h
theorem GM:∀(n:Nat)(t:TypeId)(e:CT)(fuel:Nat)(cs:ir)(d:DataW H)(ps:aw MemPlace),NA P n t e=true->
 DataW.trod enc P w base (λ_=>true) held fuel t cs=some (d,ps)->∃x:e.D,iR w (Old w) e cs x/\Zg e x
 |0,t,e,fuel,cs,d,ps,hc,h=>by cases hc
 |n+1,t,e,fuel,cs,d,ps,hc,h=>by
  unfold NA at hc;split at hc;rename_i k hu;split at hc;rename_i k';have Oe:=bh hc;subst Oe;obtain⟨m,rfl,_,hwf⟩:=DataW.trod_int hu h;simp only[Lit.wf,ae,aC]at hwf;exact⟨m,rfl,hwf⟩;cases hc;rename_i hu;split at hc;obtain⟨b,rfl,_⟩:=DataW.trod_bool hu h;exact⟨b,rfl,cr⟩;cases hc;rename_i hu;split at hc;obtain⟨s,rfl,_,hs⟩:=DataW.trod_string hu h;exact⟨s.data.toList,by simp[iR],by simpa[Zg]using hs⟩;cases hc;rename_i te hu;split at hc;rename_i e';simp only[ae,bc]at hc;obtain⟨sB,hce⟩:=hc;rcases Go.Deep.open_slice hu h with⟨rfl,_⟩|⟨a,len,cap,m,n',D,Pl,rfl,_,hlc,hcm,hm,_,BH⟩;exact⟨[],⟨_,rfl,.inl ⟨⟨_,rfl⟩,rfl⟩⟩,by simp[Zg]⟩;simp only[bM]at hm;subst hm;have Xc:=e'.size_pos;have hx:∀i,i<len->∃x:e'.D,(∃oS,w.cells? base (a.add (i*P.cellsOf te)) (P.cellsOf te)=some oS/\iR w (Old w) e' oS x)/\Zg e' x:=by intro i hi;obtain⟨oS,h1,h2⟩:=BH i (by omega);obtain⟨x,hr,rP⟩:=GM n te e' n' oS (D i) (Pl i) hce h2;exact⟨x,⟨oS,h1,hr⟩,rP⟩
  have:Inhabited e'.D:=⟨e'.zero⟩
  obtain⟨f,hf⟩:=Go.Deep.choose_lt hx;by_cases EV:m=0;have hl:len=0:=by omega
  subst hl;subst EV;exact⟨[],⟨_,rfl,.inl ⟨⟨_,rfl⟩,rfl⟩⟩,by simp[Zg]⟩;have aaK:a=⟨a.block,a.off,none⟩:=by
   obtain⟨oS,h1,_⟩:=BH 0 (by omega);obtain⟨hl,hg⟩:=L0 h1;have h0:0<oS.length:=by rw[hl,sB];exact Xc
   have:=hg 0 _ (al h0);simp only[Nat.zero_mul]at this;have h2:(a.add 0).add 0=a:=by simp[Addr.add]
   rw[h2]at this;exact S0 this
  refine⟨(List.range len).map f,⟨_,rfl,.inr ⟨a.block,a.off,m,by rw[<-aaK];simp,by simpa using hlc,λi x hi=>?_⟩⟩,by simp;omega,λx yT=>?_⟩;have Lo:i<len:=by simpa using(aE.1 hi).1
  rw[List.getElem?_map,List.getElem?_range Lo]at hi;simp only[da,aZ]at hi;subst hi;obtain⟨⟨oS,h1,hr⟩,_⟩:=hf i Lo;refine⟨oS,λj v hv=>?_,hr⟩;obtain⟨_,hg⟩:=L0 h1;have wx:=hg j v hv;rw[aaK,md,md,sB]at wx;exact⟨World.block_lt_of_cell? w ⟨a.block,a.off+i*e'.size+j,none⟩ wx,wx⟩;obtain⟨i,hi,rfl⟩:=List.mem_map.1 yT;exact(hf i (by simpa using hi)).2;cases hc;rename_i fs hu;simp only[ae,bc]at hc;obtain⟨sB,VP⟩:=hc;obtain⟨xs,n',_,_,hlen,hxl,En⟩:=DataW.trod_struct hu h
  have key:∀(l:aw Field)(off k:Nat)(e':CT),(∀(i:Nat)(f:Field),l[i]?=some f->fs[k+i]?=some f)->pz P (NA P n) l off e'=true->off+e'.size<=cs.length->
   ∃x:e'.D,iR w (Old w) e' ((cs.drop off).take e'.size) x/\Zg e' x:=by
   intro l
   induction l with
   |nil=>intro off k e' _ VP;cases VP
   |cons f l ih=>
    intro off k e' ac4 VP gu
    have hf:=ac4 0 f rfl
    have TM:∀e1:CT,f.offset=off->P.cellsOf f.type=e1.size->NA P n f.type e1=true->∃x:e1.D,iR w (Old w) e1 ((cs.drop off).take e1.size) x/\Zg e1 x:=by
     intro e1 h1 h2 h3;have ht:=En _ f hf;have hG:k+0<xs.length:=by rw[hxl];exact(Array.getElem?_eq_some_iff.1 hf).1
     rw[al hG,h1,h2]at ht;exact GM n f.type e1 n' _ _ _ h3 ht
    cases l with
    |nil=>
     simp only[pz,ae,bc]at VP
     exact TM e' VP.1.1 VP.1.2 VP.2
    |cons f' l=>
     cases e' with
     |pair a b=>
      simp only[pz,ae,bc]at VP
      obtain⟨⟨⟨h1,h2⟩,h3⟩,h4⟩:=VP
      simp only[CT.size]at gu
      obtain⟨x,hx,BJ⟩:=TM a h1 h2 h3
      obtain⟨y,hy,hiy⟩:=ih (off+a.size) (k+1) b (λi f0 hi=>by have:=ac4 (i+1) f0 (by simpa using hi);rwa[show k+1+i=k+(i+1) by omega]) h4 (by omega)
      refine⟨(x,y),⟨_,_,?_,hx,hy⟩,BJ,hiy⟩
      rw[CT.size,List.take_add,eC]
     |int k=>simp[pz]at VP
     |bool=>simp[pz]at VP
     |str=>simp[pz]at VP
     |sl e0=>simp[pz]at VP
  obtain⟨x,hx,rP⟩:=key fs.toList 0 0 e (λi f hi=>by rw[cl,<-cf];exact hi) VP (by rw[hlen,sB];omega);refine⟨x,?_,rP⟩;rw[eD,bL (by rw[hlen,sB];exact aS _)]at hx;exact hx;cases hc
end
end Go.Dn
