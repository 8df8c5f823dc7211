import Derived.Test.YtinkcmefgciifaaGreatDnRun
import Derived.Deep.Slices
import Derived.ChangeArms
import Derived.MapPlaces
/- The arguments of a statement's input, as data. -/
namespace Go.Dn
open Go.RowKit Go.ChangeShapes Go.WideShapes
def tj (P:Program)(MX:TypeId->CT->Bool):az Field->Nat->CT->Bool
 |[],_,_=>false
 |[f],off,e=>f.offset==off&&P.cellsOf f.type==e.size&&MX f.type e
 |f::f'::fs,off,.pair a b=>f.offset==off&&P.cellsOf f.type==a.size&&MX f.type a&&tj P MX (f'::fs) (off+a.size) b
 |_,_,_=>false
def TH (P:Program):Nat->TypeId->CT->Bool
 |0,_,_=>false
 |n+1,t,e=>
  match P.underlying t with
  |some (.int k)=>match e with| .int k'=>decide (k=k')|_=>false
  |some .bool=>match e with| .bool=>true|_=>false
  |some .string=>match e with| .str=>true|_=>false
  |some (.slice te)=>match e with| .sl e'=>P.cellsOf te==e'.size&&TH P n te e'|_=>false
  |some (.struct fs)=>P.cellsOf t==e.size&&tj P (TH P n) fs.toList 0 e
  |_=>false
def InR:(e:CT)->e.D->Prop
 | .int k,n=>k.min<=n/\n<=k.max
 | .bool,_=>True
 | .str,s=>s.length<=maxLen
 | .sl e,xs=>xs.length<=maxLen/\∀x∈xs,InR e x
 | .pair a b,x=>InR a x.1/\InR b x.2
def Old (w:World)(b _o:Nat):Prop:=b<w.heap.size
section
variable {H:Type} {enc:TypeId×Value->H} {P:Program} {w:World} {base:Nat} {held:Bool}
theorem Xi {α β:Type}{f:α->aC β}:∀{l:az α}{r:az β},l.mapM f=some r->r.length=l.length/\∀(i:Nat)(y:β),r[i]?=some y->∃x,l[i]?=some x/\f x=some y
 |[],r,h=>by simp at h;subst h;simp
 |x::l,r,h=>by rw[List.mapM_cons]at h;obtain⟨y,hy,h⟩:=aZ.1 h;obtain⟨ys,hys,h⟩:=aZ.1 h;cases h;obtain⟨hl,hg⟩:=Xi hys;refine⟨by simp[hl],λi z hz=>?_⟩;cases i with|zero=>simp at hz;subst hz;exact⟨x,rfl,hy⟩|succ i=>exact hg i z (by simpa using hz)
theorem RH {a:Addr}{n:Nat}{cs:jT}(h:w.cells? base a n=some cs):cs.length=n/\∀j v,cs[j]?=some v->w.cell? (a.add j)=some v:=by
 unfold World.cells? at h;split at h;obtain⟨hl,hg⟩:=Xi h;refine⟨by simpa using hl,λj v hv=>?_⟩;obtain⟨x,hx,hy⟩:=hg j v hv;have hj:j<n:=by have:=(aB.1 hv).1;simp at hl;omega
 rw[List.getElem?_range hj]at hx;cases hx;exact hy;cases h
theorem Zg {a:Addr}{v:Value}(h:w.cell? a=some v):a=⟨a.block,a.off,none⟩:=by
 unfold World.cell? at h;split at h;split at h;cases h;rename_i hs;cases a with|mk b o s=>cases s<;>simp at hs⊢
 cases h
theorem Lf:∀(n:Nat)(t:TypeId)(e:CT)(fuel:Nat)(cs:jT)(d:DataW H)(ps:az MemPlace),TH P n t e=true->
 DataW.trod enc P w base (λ_=>true) held fuel t cs=some (d,ps)->∃x:e.D,kA w (Old w) e cs x/\InR e x
 |0,t,e,fuel,cs,d,ps,hc,h=>by cases hc
 |n+1,t,e,fuel,cs,d,ps,hc,h=>by
  unfold TH at hc;split at hc;rename_i k hu;split at hc;rename_i k';have Q2:=bz hc;subst Q2;obtain⟨m,rfl,_,hwf⟩:=DataW.trod_int hu h;simp only[Lit.wf,ae,aG]at hwf;exact⟨m,rfl,hwf⟩;cases hc;rename_i hu;split at hc;obtain⟨b,rfl,_⟩:=DataW.trod_bool hu h;exact⟨b,rfl,cM⟩;cases hc;rename_i hu;split at hc;obtain⟨s,rfl,_,hs⟩:=DataW.trod_string hu h;exact⟨s.data.toList,by simp[kA],by simpa[InR]using hs⟩;cases hc;rename_i te hu;split at hc;rename_i e';simp only[ae,bn]at hc;obtain⟨wq,hce⟩:=hc;rcases Go.Deep.open_slice hu h with⟨rfl,_⟩|⟨a,len,cap,m,n',D,Pl,rfl,_,hlc,hcm,hm,_,FV⟩;exact⟨[],⟨_,rfl,.inl ⟨⟨_,rfl⟩,rfl⟩⟩,by simp[InR]⟩;simp only[cr]at hm;subst hm;have ady:=e'.size_pos;have hx:∀i,i<len->∃x:e'.D,(∃sF,w.cells? base (a.add (i*P.cellsOf te)) (P.cellsOf te)=some sF/\kA w (Old w) e' sF x)/\InR e' x:=by intro i hi;obtain⟨sF,h1,h2⟩:=FV i (by omega);obtain⟨x,hr,ux⟩:=Lf n te e' n' sF (D i) (Pl i) hce h2;exact⟨x,⟨sF,h1,hr⟩,ux⟩
  have:Inhabited e'.D:=⟨e'.zero⟩
  obtain⟨f,hf⟩:=Go.Deep.choose_lt hx;by_cases Jb:m=0;have hl:len=0:=by omega
  subst hl;subst Jb;exact⟨[],⟨_,rfl,.inl ⟨⟨_,rfl⟩,rfl⟩⟩,by simp[InR]⟩;have ag7:a=⟨a.block,a.off,none⟩:=by
   obtain⟨sF,h1,_⟩:=FV 0 (by omega);obtain⟨hl,hg⟩:=RH h1;have h0:0<sF.length:=by rw[hl,wq];exact ady
   have:=hg 0 _ (aq h0);simp only[Nat.zero_mul]at this;have h2:(a.add 0).add 0=a:=by simp[Addr.add]
   rw[h2]at this;exact Zg this
  refine⟨(List.range len).map f,⟨_,rfl,.inr ⟨a.block,a.off,m,by rw[<-ag7];simp,by simpa using hlc,λi x hi=>?_⟩⟩,by simp;omega,λx BE=>?_⟩;have Q0:i<len:=by simpa using(aB.1 hi).1
  rw[fA,List.getElem?_range Q0]at hi;simp only[dL,bw]at hi;subst hi;obtain⟨⟨sF,h1,hr⟩,_⟩:=hf i Q0;refine⟨sF,λj v hv=>?_,hr⟩;obtain⟨_,hg⟩:=RH h1;have zV:=hg j v hv;rw[ag7,oP,oP,wq]at zV;exact⟨World.block_lt_of_cell? w ⟨a.block,a.off+i*e'.size+j,none⟩ zV,zV⟩;obtain⟨i,hi,rfl⟩:=dx.1 BE;exact(hf i (by simpa using hi)).2;cases hc;rename_i fs hu;simp only[ae,bn]at hc;obtain⟨wq,hcf⟩:=hc;obtain⟨xs,n',_,_,hlen,hxl,ID⟩:=DataW.trod_struct hu h
  have key:∀(l:az Field)(off k:Nat)(e':CT),(∀(i:Nat)(f:Field),l[i]?=some f->fs[k+i]?=some f)->tj P (TH P n) l off e'=true->off+e'.size<=cs.length->
   ∃x:e'.D,kA w (Old w) e' ((cs.drop off).take e'.size) x/\InR e' x:=by
   intro l
   induction l with
   |nil=>intro off k e' _ hcf;cases hcf
   |cons f l ih=>
    intro off k e' ajx hcf iW
    have hf:=ajx 0 f rfl
    have Z7:∀e1:CT,f.offset=off->P.cellsOf f.type=e1.size->TH P n f.type e1=true->∃x:e1.D,kA w (Old w) e1 ((cs.drop off).take e1.size) x/\InR e1 x:=by
     intro e1 h1 h2 h3;have ht:=ID _ f hf;have iz:k+0<xs.length:=by rw[hxl];exact(Array.getElem?_eq_some_iff.1 hf).1
     rw[aq iz,h1,h2]at ht;exact Lf n f.type e1 n' _ _ _ h3 ht
    cases l with
    |nil=>
     simp only[tj,ae,bn]at hcf
     exact Z7 e' hcf.1.1 hcf.1.2 hcf.2
    |cons f' l=>
     cases e' with
     |pair a b=>
      simp only[tj,ae,bn]at hcf
      obtain⟨⟨⟨h1,h2⟩,h3⟩,h4⟩:=hcf
      simp only[CT.size]at iW
      obtain⟨x,hx,FX⟩:=Z7 a h1 h2 h3
      obtain⟨y,hy,hiy⟩:=ih (off+a.size) (k+1) b (λi f0 hi=>by have:=ajx (i+1) f0 (by simpa using hi);rwa[show k+1+i=k+(i+1) by omega]) h4 (by omega)
      refine⟨(x,y),⟨_,_,?_,hx,hy⟩,FX,hiy⟩
      rw[CT.size,List.take_add,eZ]
     |int k=>simp[tj]at hcf
     |bool=>simp[tj]at hcf
     |str=>simp[tj]at hcf
     |sl e0=>simp[tj]at hcf
  obtain⟨x,hx,ux⟩:=key fs.toList 0 0 e (λi f hi=>by rw[cP,<-cI];exact hi) hcf (by rw[hlen,wq];omega);refine⟨x,?_,ux⟩;rw[eI,bW (by rw[hlen,wq];exact aX _)]at hx;exact hx;cases hc
end
end Go.Dn
