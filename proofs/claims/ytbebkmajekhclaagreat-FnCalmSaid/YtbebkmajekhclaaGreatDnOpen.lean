import Derived.Test.YtbebkmajekhclaaGreatDnRun
import Derived.Deep.Slices
import Derived.ChangeArms
import Derived.MapPlaces
/- The arguments of a statement's input, as data. -/
namespace Go.Dn
open Go.RowKit Go.ChangeShapes Go.WideShapes
def tQ (P:Program)(TN:TypeId->CT->Bool):aw Field->Nat->CT->Bool
 |[],_,_=>false
 |[f],off,e=>f.offset==off&&P.cellsOf f.type==e.size&&TN f.type e
 |f::f'::fs,off,.pair a b=>f.offset==off&&P.cellsOf f.type==a.size&&TN f.type a&&tQ P TN (f'::fs) (off+a.size) b
 |_,_,_=>false
def V0 (P:Program):Nat->TypeId->CT->Bool
 |0,_,_=>false
 |n+1,t,e=>
  match P.underlying t with
  |some (.int k)=>match e with| .int k'=>decide (k=k')|_=>false
  |some .bool=>match e with| .bool=>true|_=>false
  |some .string=>match e with| .str=>true|_=>false
  |some (.slice te)=>match e with| .sl e'=>P.cellsOf te==e'.size&&V0 P n te e'|_=>false
  |some (.struct fs)=>P.cellsOf t==e.size&&tQ P (V0 P n) fs.toList 0 e
  |_=>false
def InR:(e:CT)->e.D->Prop
 | .int k,n=>k.min<=n/\n<=k.max
 | .bool,_=>True
 | .str,s=>s.length<=maxLen
 | .sl e,xs=>xs.length<=maxLen/\∀x∈xs,InR e x
 | .pair a b,x=>InR a x.1/\InR b x.2
def Old (w:World)(b _o:Nat):Prop:=b<w.heap.size
section
variable {H:Type} {enc:TypeId×Value->H} {P:Program} {w:World} {base:Nat} {held:Bool}
theorem aag {α β:Type}{f:α->aB β}:∀{l:aw α}{r:aw β},l.mapM f=some r->r.length=l.length/\∀(i:Nat)(y:β),r[i]?=some y->∃x,l[i]?=some x/\f x=some y
 |[],r,h=>by simp at h;subst h;simp
 |x::l,r,h=>by rw[List.mapM_cons]at h;obtain⟨y,hy,h⟩:=ba.1 h;obtain⟨ys,hys,h⟩:=ba.1 h;cases h;obtain⟨hl,hg⟩:=aag hys;refine⟨by simp[hl],λi z hz=>?_⟩;cases i with|zero=>simp at hz;subst hz;exact⟨x,rfl,hy⟩|succ i=>exact hg i z (by simpa using hz)
theorem TL {a:Addr}{n:Nat}{cs:jJ}(h:w.cells? base a n=some cs):cs.length=n/\∀j v,cs[j]?=some v->w.cell? (a.add j)=some v:=by
 unfold World.cells? at h;split at h;obtain⟨hl,hg⟩:=aag h;refine⟨by simpa using hl,λj v hv=>?_⟩;obtain⟨x,hx,hy⟩:=hg j v hv;have hj:j<n:=by have:=(ay.1 hv).1;simp at hl;omega
 rw[List.getElem?_range hj]at hx;cases hx;exact hy;cases h
theorem abZ {a:Addr}{v:Value}(h:w.cell? a=some v):a=⟨a.block,a.off,none⟩:=by
 unfold World.cell? at h;split at h;split at h;cases h;rename_i hs;cases a with|mk b o s=>cases s<;>simp at hs⊢
 cases h
theorem MR:∀(n:Nat)(t:TypeId)(e:CT)(fuel:Nat)(cs:jJ)(d:DataW H)(ps:aw MemPlace),V0 P n t e=true->
 DataW.trod enc P w base (λ_=>true) held fuel t cs=some (d,ps)->∃x:e.D,ky w (Old w) e cs x/\InR e x
 |0,t,e,fuel,cs,d,ps,hc,h=>by cases hc
 |n+1,t,e,fuel,cs,d,ps,hc,h=>by
  unfold V0 at hc;split at hc;rename_i k hu;split at hc;rename_i k';have S5:=bA hc;subst S5;obtain⟨m,rfl,_,hwf⟩:=DataW.trod_int hu h;simp only[Lit.wf,ae,aJ]at hwf;exact⟨m,rfl,hwf⟩;cases hc;rename_i hu;split at hc;obtain⟨b,rfl,_⟩:=DataW.trod_bool hu h;exact⟨b,rfl,cG⟩;cases hc;rename_i hu;split at hc;obtain⟨s,rfl,_,hs⟩:=DataW.trod_string hu h;exact⟨s.data.toList,by simp[ky],by simpa[InR]using hs⟩;cases hc;rename_i te hu;split at hc;rename_i e';simp only[ae,bn]at hc;obtain⟨wI,hce⟩:=hc;rcases Go.Deep.open_slice hu h with⟨rfl,_⟩|⟨a,len,cap,m,n',D,Pl,rfl,_,hlc,hcm,hm,_,GN⟩;exact⟨[],⟨_,rfl,.inl ⟨⟨_,rfl⟩,rfl⟩⟩,by simp[InR]⟩;simp only[cw]at hm;subst hm;have ag6:=e'.size_pos;have hx:∀i,i<len->∃x:e'.D,(∃sU,w.cells? base (a.add (i*P.cellsOf te)) (P.cellsOf te)=some sU/\ky w (Old w) e' sU x)/\InR e' x:=by intro i hi;obtain⟨sU,h1,h2⟩:=GN i (by omega);obtain⟨x,hr,uX⟩:=MR n te e' n' sU (D i) (Pl i) hce h2;exact⟨x,⟨sU,h1,hr⟩,uX⟩
  have:Inhabited e'.D:=⟨e'.zero⟩
  obtain⟨f,hf⟩:=Go.Deep.choose_lt hx;by_cases KA:m=0;have hl:len=0:=by omega
  subst hl;subst KA;exact⟨[],⟨_,rfl,.inl ⟨⟨_,rfl⟩,rfl⟩⟩,by simp[InR]⟩;have akN:a=⟨a.block,a.off,none⟩:=by
   obtain⟨sU,h1,_⟩:=GN 0 (by omega);obtain⟨hl,hg⟩:=TL h1;have h0:0<sU.length:=by rw[hl,wI];exact ag6
   have:=hg 0 _ (al h0);simp only[Nat.zero_mul]at this;have h2:(a.add 0).add 0=a:=by simp[Addr.add]
   rw[h2]at this;exact abZ this
  refine⟨(List.range len).map f,⟨_,rfl,.inr ⟨a.block,a.off,m,by rw[<-akN];simp,by simpa using hlc,λi x hi=>?_⟩⟩,by simp;omega,λx Dd=>?_⟩;have Pd:i<len:=by simpa using(ay.1 hi).1
  rw[List.getElem?_map,List.getElem?_range Pd]at hi;simp only[dP,bu]at hi;subst hi;obtain⟨⟨sU,h1,hr⟩,_⟩:=hf i Pd;refine⟨sU,λj v hv=>?_,hr⟩;obtain⟨_,hg⟩:=TL h1;have Cf:=hg j v hv;rw[akN,oR,oR,wI]at Cf;exact⟨World.block_lt_of_cell? w ⟨a.block,a.off+i*e'.size+j,none⟩ Cf,Cf⟩;obtain⟨i,hi,rfl⟩:=dB.1 Dd;exact(hf i (by simpa using hi)).2;cases hc;rename_i fs hu;simp only[ae,bn]at hc;obtain⟨wI,hcf⟩:=hc;obtain⟨xs,n',_,_,hlen,hxl,J1⟩:=DataW.trod_struct hu h
  have key:∀(l:aw Field)(off k:Nat)(e':CT),(∀(i:Nat)(f:Field),l[i]?=some f->fs[k+i]?=some f)->tQ P (V0 P n) l off e'=true->off+e'.size<=cs.length->
   ∃x:e'.D,ky w (Old w) e' ((cs.drop off).take e'.size) x/\InR e' x:=by
   intro l
   induction l with
   |nil=>intro off k e' _ hcf;cases hcf
   |cons f l ih=>
    intro off k e' anz hcf iO
    have hf:=anz 0 f rfl
    have ac4:∀e1:CT,f.offset=off->P.cellsOf f.type=e1.size->V0 P n f.type e1=true->∃x:e1.D,ky w (Old w) e1 ((cs.drop off).take e1.size) x/\InR e1 x:=by
     intro e1 h1 h2 h3;have ht:=J1 _ f hf;have hG:k+0<xs.length:=by rw[hxl];exact(Array.getElem?_eq_some_iff.1 hf).1
     rw[al hG,h1,h2]at ht;exact MR n f.type e1 n' _ _ _ h3 ht
    cases l with
    |nil=>
     simp only[tQ,ae,bn]at hcf
     exact ac4 e' hcf.1.1 hcf.1.2 hcf.2
    |cons f' l=>
     cases e' with
     |pair a b=>
      simp only[tQ,ae,bn]at hcf
      obtain⟨⟨⟨h1,h2⟩,h3⟩,h4⟩:=hcf
      simp only[CT.size]at iO
      obtain⟨x,hx,GP⟩:=ac4 a h1 h2 h3
      obtain⟨y,hy,hiy⟩:=ih (off+a.size) (k+1) b (λi f0 hi=>by have:=anz (i+1) f0 (by simpa using hi);rwa[show k+1+i=k+(i+1) by omega]) h4 (by omega)
      refine⟨(x,y),⟨_,_,?_,hx,hy⟩,GP,hiy⟩
      rw[CT.size,List.take_add,fP]
     |int k=>simp[tQ]at hcf
     |bool=>simp[tQ]at hcf
     |str=>simp[tQ]at hcf
     |sl e0=>simp[tQ]at hcf
  obtain⟨x,hx,uX⟩:=key fs.toList 0 0 e (λi f hi=>by rw[cE,<-cP];exact hi) hcf (by rw[hlen,wI];omega);refine⟨x,?_,uX⟩;rw[fQ,ca (by rw[hlen,wI];exact bc _)]at hx;exact hx;cases hc
end
end Go.Dn
