import Derived.Test.YtinkcmefgciifaaGreatDnRun
import Derived.Deep.Slices
import Derived.ChangeArms
import Derived.MapPlaces
/- The arguments of a statement's input, as data. -/
namespace Go.Dn
open Go.RowKit Go.ChangeShapes Go.WideShapes
def qD (P:Program)(Nb:TypeId->CT->Bool):ax Field->Nat->CT->Bool
 |[],_,_=>false
 |[f],off,e=>f.offset==off&&P.cellsOf f.type==e.size&&Nb f.type e
 |f::f'::fs,off,.pair a b=>f.offset==off&&P.cellsOf f.type==a.size&&Nb f.type a&&qD P Nb (f'::fs) (off+a.size) b
 |_,_,_=>false
def OU (P:Program):Nat->TypeId->CT->Bool
 |0,_,_=>false
 |n+1,t,e=>
  match P.underlying t with
  |some (.int k)=>match e with| .int k'=>decide (k=k')|_=>false
  |some .bool=>match e with| .bool=>true|_=>false
  |some .string=>match e with| .str=>true|_=>false
  |some (.slice te)=>match e with| .sl e'=>P.cellsOf te==e'.size&&OU P n te e'|_=>false
  |some (.struct fs)=>P.cellsOf t==e.size&&qD P (OU P n) fs.toList 0 e
  |_=>false
def InR:(e:CT)->e.D->Prop
 | .int k,n=>k.min<=n/\n<=k.max
 | .bool,_=>True
 | .str,s=>s.length<=maxLen
 | .sl e,xs=>xs.length<=maxLen/\∀x∈xs,InR e x
 | .pair a b,x=>InR a x.1/\InR b x.2
def Old (w:World)(b _o:Nat):Prop:=b<w.heap.size
section
variable {H:Type} {enc:TypeId×Value->H} {P:Program} {w:World} {base:Nat} {held:Bool}
theorem SF {α β:Type}{f:α->ay β}:∀{l:ax α}{r:ax β},l.mapM f=some r->r.length=l.length/\∀(i:Nat)(y:β),r[i]?=some y->∃x,l[i]?=some x/\f x=some y
 |[],r,h=>by simp at h;subst h;simp
 |x::l,r,h=>by rw[List.mapM_cons]at h;obtain⟨y,hy,h⟩:=aO.1 h;obtain⟨ys,hys,h⟩:=aO.1 h;cases h;obtain⟨hl,hg⟩:=SF hys;refine⟨by simp[hl],λi z hz=>?_⟩;cases i with|zero=>simp at hz;subst hz;exact⟨x,rfl,hy⟩|succ i=>exact hg i z (by simpa using hz)
theorem M8 {a:Addr}{n:Nat}{cs:iG}(h:w.cells? base a n=some cs):cs.length=n/\∀j v,cs[j]?=some v->w.cell? (a.add j)=some v:=by
 unfold World.cells? at h;split at h;obtain⟨hl,hg⟩:=SF h;refine⟨by simpa using hl,λj v hv=>?_⟩;obtain⟨x,hx,hy⟩:=hg j v hv;have hj:j<n:=by have:=(aG.1 hv).1;simp at hl;omega
 rw[List.getElem?_range hj]at hx;cases hx;exact hy;cases h
theorem Uv {a:Addr}{v:Value}(h:w.cell? a=some v):a=⟨a.block,a.off,none⟩:=by
 unfold World.cell? at h;split at h;split at h;cases h;rename_i hs;cases a with|mk b o s=>cases s<;>simp at hs⊢
 cases h
theorem HS:∀(n:Nat)(t:TypeId)(e:CT)(fuel:Nat)(cs:iG)(d:DataW H)(ps:ax MemPlace),OU P n t e=true->
 DataW.trod enc P w base (λ_=>true) held fuel t cs=some (d,ps)->∃x:e.D,jc w (Old w) e cs x/\InR e x
 |0,t,e,fuel,cs,d,ps,hc,h=>by cases hc
 |n+1,t,e,fuel,cs,d,ps,hc,h=>by
  unfold OU at hc;split at hc;rename_i k hu;split at hc;rename_i k';have PE:=bk hc;subst PE;obtain⟨m,rfl,_,hwf⟩:=DataW.trod_int hu h;simp only[Lit.wf,ae,aD]at hwf;exact⟨m,rfl,hwf⟩;cases hc;rename_i hu;split at hc;obtain⟨b,rfl,_⟩:=DataW.trod_bool hu h;exact⟨b,rfl,cq⟩;cases hc;rename_i hu;split at hc;obtain⟨s,rfl,_,hs⟩:=DataW.trod_string hu h;exact⟨s.data.toList,by simp[jc],by simpa[InR]using hs⟩;cases hc;rename_i te hu;split at hc;rename_i e';simp only[ae,aV]at hc;obtain⟨tH,hce⟩:=hc;rcases Go.Deep.open_slice hu h with⟨rfl,_⟩|⟨a,len,cap,m,n',D,Pl,rfl,_,hlc,hcm,hm,_,CC⟩;exact⟨[],⟨_,rfl,.inl ⟨⟨_,rfl⟩,rfl⟩⟩,by simp[InR]⟩;simp only[bQ]at hm;subst hm;have Zk:=e'.size_pos;have hx:∀i,i<len->∃x:e'.D,(∃qg,w.cells? base (a.add (i*P.cellsOf te)) (P.cellsOf te)=some qg/\jc w (Old w) e' qg x)/\InR e' x:=by intro i hi;obtain⟨qg,h1,h2⟩:=CC i (by omega);obtain⟨x,hr,ta⟩:=HS n te e' n' qg (D i) (Pl i) hce h2;exact⟨x,⟨qg,h1,hr⟩,ta⟩
  have:Inhabited e'.D:=⟨e'.zero⟩
  obtain⟨f,hf⟩:=Go.Deep.choose_lt hx;by_cases FU:m=0;have hl:len=0:=by omega
  subst hl;subst FU;exact⟨[],⟨_,rfl,.inl ⟨⟨_,rfl⟩,rfl⟩⟩,by simp[InR]⟩;have acT:a=⟨a.block,a.off,none⟩:=by
   obtain⟨qg,h1,_⟩:=CC 0 (by omega);obtain⟨hl,hg⟩:=M8 h1;have h0:0<qg.length:=by rw[hl,tH];exact Zk
   have:=hg 0 _ (aq h0);simp only[Nat.zero_mul]at this;have h2:(a.add 0).add 0=a:=by simp[Addr.add]
   rw[h2]at this;exact Uv this
  refine⟨(List.range len).map f,⟨_,rfl,.inr ⟨a.block,a.off,m,by rw[<-acT];simp,by simpa using hlc,λi x hi=>?_⟩⟩,by simp;omega,λx Ab=>?_⟩;have MA:i<len:=by simpa using(aG.1 hi).1
  rw[List.getElem?_map,List.getElem?_range MA]at hi;simp only[de,bc]at hi;subst hi;obtain⟨⟨qg,h1,hr⟩,_⟩:=hf i MA;refine⟨qg,λj v hv=>?_,hr⟩;obtain⟨_,hg⟩:=M8 h1;have xz:=hg j v hv;rw[acT,mV,mV,tH]at xz;exact⟨World.block_lt_of_cell? w ⟨a.block,a.off+i*e'.size+j,none⟩ xz,xz⟩;obtain⟨i,hi,rfl⟩:=List.mem_map.1 Ab;exact(hf i (by simpa using hi)).2;cases hc;rename_i fs hu;simp only[ae,aV]at hc;obtain⟨tH,XI⟩:=hc;obtain⟨xs,n',_,_,hlen,hxl,Fk⟩:=DataW.trod_struct hu h
  have key:∀(l:ax Field)(off k:Nat)(e':CT),(∀(i:Nat)(f:Field),l[i]?=some f->fs[k+i]?=some f)->qD P (OU P n) l off e'=true->off+e'.size<=cs.length->
   ∃x:e'.D,jc w (Old w) e' ((cs.drop off).take e'.size) x/\InR e' x:=by
   intro l
   induction l with
   |nil=>intro off k e' _ XI;cases XI
   |cons f l ih=>
    intro off k e' afo XI gF
    have hf:=afo 0 f rfl
    have Vv:∀e1:CT,f.offset=off->P.cellsOf f.type=e1.size->OU P n f.type e1=true->∃x:e1.D,jc w (Old w) e1 ((cs.drop off).take e1.size) x/\InR e1 x:=by
     intro e1 h1 h2 h3;have ht:=Fk _ f hf;have gY:k+0<xs.length:=by rw[hxl];exact(Array.getElem?_eq_some_iff.1 hf).1
     rw[aq gY,h1,h2]at ht;exact HS n f.type e1 n' _ _ _ h3 ht
    cases l with
    |nil=>
     simp only[qD,ae,aV]at XI
     exact Vv e' XI.1.1 XI.1.2 XI.2
    |cons f' l=>
     cases e' with
     |pair a b=>
      simp only[qD,ae,aV]at XI
      obtain⟨⟨⟨h1,h2⟩,h3⟩,h4⟩:=XI
      simp only[CT.size]at gF
      obtain⟨x,hx,CE⟩:=Vv a h1 h2 h3
      obtain⟨y,hy,hiy⟩:=ih (off+a.size) (k+1) b (λi f0 hi=>by have:=afo (i+1) f0 (by simpa using hi);rwa[show k+1+i=k+(i+1) by omega]) h4 (by omega)
      refine⟨(x,y),⟨_,_,?_,hx,hy⟩,CE,hiy⟩
      rw[CT.size,List.take_add,eK]
     |int k=>simp[qD]at XI
     |bool=>simp[qD]at XI
     |str=>simp[qD]at XI
     |sl e0=>simp[qD]at XI
  obtain⟨x,hx,ta⟩:=key fs.toList 0 0 e (λi f hi=>by rw[cr,<-cl];exact hi) XI (by rw[hlen,tH];omega);refine⟨x,?_,ta⟩;rw[eZ,bI (by rw[hlen,tH];exact aS _)]at hx;exact hx;cases hc
end
end Go.Dn
