import Derived.Test.YtgbaemfepmabgaaGreatDnRun
import Derived.Deep.Slices
import Derived.ChangeArms
import Derived.MapPlaces
/- The arguments of a statement's input, as data. -/
namespace Go.Dn
open Go.RowKit Go.ChangeShapes Go.WideShapes
def ra (P:Program)(N8:TypeId->CT->Bool):aw Field->Nat->CT->Bool
 |[],_,_=>false
 |[f],off,e=>f.offset==off&&P.cellsOf f.type==e.size&&N8 f.type e
 |f::f'::fs,off,.pair a b=>f.offset==off&&P.cellsOf f.type==a.size&&N8 f.type a&&ra P N8 (f'::fs) (off+a.size) b
 |_,_,_=>false
def P4 (P:Program):Nat->TypeId->CT->Bool
 |0,_,_=>false
 |n+1,t,e=>
  match P.underlying t with
  |some (.int k)=>match e with| .int k'=>decide (k=k')|_=>false
  |some .bool=>match e with| .bool=>true|_=>false
  |some .string=>match e with| .str=>true|_=>false
  |some (.slice te)=>match e with| .sl e'=>P.cellsOf te==e'.size&&P4 P n te e'|_=>false
  |some (.struct fs)=>P.cellsOf t==e.size&&ra P (P4 P n) fs.toList 0 e
  |_=>false
def InR:(e:CT)->e.D->Prop
 | .int k,n=>k.min<=n/\n<=k.max
 | .bool,_=>True
 | .str,s=>s.length<=maxLen
 | .sl e,xs=>xs.length<=maxLen/\∀x∈xs,InR e x
 | .pair a b,x=>InR a x.1/\InR b x.2
def Old (w:World)(b _o:Nat):Prop:=b<w.heap.size
section
variable {H:Type} {enc:TypeId×Value->H} {P:Program} {w:World} {base:Nat} {held:Bool}
theorem UJ {α β:Type}{f:α->az β}:∀{l:aw α}{r:aw β},l.mapM f=some r->r.length=l.length/\∀(i:Nat)(y:β),r[i]?=some y->∃x,l[i]?=some x/\f x=some y
 |[],r,h=>by simp at h;subst h;simp
 |x::l,r,h=>by rw[List.mapM_cons]at h;obtain⟨y,hy,h⟩:=aU.1 h;obtain⟨ys,hys,h⟩:=aU.1 h;cases h;obtain⟨hl,hg⟩:=UJ hys;refine⟨by simp[hl],λi z hz=>?_⟩;cases i with|zero=>simp at hz;subst hz;exact⟨x,rfl,hy⟩|succ i=>exact hg i z (by simpa using hz)
theorem N6 {a:Addr}{n:Nat}{cs:iS}(h:w.cells? base a n=some cs):cs.length=n/\∀j v,cs[j]?=some v->w.cell? (a.add j)=some v:=by
 unfold World.cells? at h;split at h;obtain⟨hl,hg⟩:=UJ h;refine⟨by simpa using hl,λj v hv=>?_⟩;obtain⟨x,hx,hy⟩:=hg j v hv;have hj:j<n:=by have:=(aC.1 hv).1;simp at hl;omega
 rw[List.getElem?_range hj]at hx;cases hx;exact hy;cases h
theorem Wq {a:Addr}{v:Value}(h:w.cell? a=some v):a=⟨a.block,a.off,none⟩:=by
 unfold World.cell? at h;split at h;split at h;cases h;rename_i hs;cases a with|mk b o s=>cases s<;>simp at hs⊢
 cases h
theorem It:∀(n:Nat)(t:TypeId)(e:CT)(fuel:Nat)(cs:iS)(d:DataW H)(ps:aw MemPlace),P4 P n t e=true->
 DataW.trod enc P w base (λ_=>true) held fuel t cs=some (d,ps)->∃x:e.D,jr w (Old w) e cs x/\InR e x
 |0,t,e,fuel,cs,d,ps,hc,h=>by cases hc
 |n+1,t,e,fuel,cs,d,ps,hc,h=>by
  unfold P4 at hc;split at hc;rename_i k hu;split at hc;rename_i k';have hkk:=bB hc;subst hkk;obtain⟨m,rfl,_,hwf⟩:=DataW.trod_int hu h;simp only[Lit.wf,ae,aH]at hwf;exact⟨m,rfl,hwf⟩;cases hc;rename_i hu;split at hc;obtain⟨b,rfl,_⟩:=DataW.trod_bool hu h;exact⟨b,rfl,cx⟩;cases hc;rename_i hu;split at hc;obtain⟨s,rfl,_,hs⟩:=DataW.trod_string hu h;exact⟨s.data.toList,by simp[jr],by simpa[InR]using hs⟩;cases hc;rename_i te hu;split at hc;rename_i e';simp only[ae,bm]at hc;obtain⟨hsz,hce⟩:=hc;rcases Go.Deep.open_slice hu h with⟨rfl,_⟩|⟨a,len,cap,m,n',D,Pl,rfl,_,hlc,hcm,hm,_,hel⟩;exact⟨[],⟨_,rfl,.inl ⟨⟨_,rfl⟩,rfl⟩⟩,by simp[InR]⟩;simp only[cg]at hm;subst hm;have hpos:=e'.size_pos;have hx:∀i,i<len->∃x:e'.D,(∃cs',w.cells? base (a.add (i*P.cellsOf te)) (P.cellsOf te)=some cs'/\jr w (Old w) e' cs' x)/\InR e' x:=by intro i hi;obtain⟨cs',h1,h2⟩:=hel i (by omega);obtain⟨x,hr,hin⟩:=It n te e' n' cs' (D i) (Pl i) hce h2;exact⟨x,⟨cs',h1,hr⟩,hin⟩
  have:Inhabited e'.D:=⟨e'.zero⟩
  obtain⟨f,hf⟩:=Go.Deep.choose_lt hx;by_cases hcap:m=0;have hl:len=0:=by omega
  subst hl;subst hcap;exact⟨[],⟨_,rfl,.inl ⟨⟨_,rfl⟩,rfl⟩⟩,by simp[InR]⟩;have hplain:a=⟨a.block,a.off,none⟩:=by
   obtain⟨cs',h1,_⟩:=hel 0 (by omega);obtain⟨hl,hg⟩:=N6 h1;have h0:0<cs'.length:=by rw[hl,hsz];exact hpos
   have:=hg 0 _ (al h0);simp only[Nat.zero_mul]at this;have h2:(a.add 0).add 0=a:=by simp[Addr.add]
   rw[h2]at this;exact Wq this
  refine⟨(List.range len).map f,⟨_,rfl,.inr ⟨a.block,a.off,m,by rw[<-hplain];simp,by simpa using hlc,λi x hi=>?_⟩⟩,by simp;omega,λx hx'=>?_⟩;have hil:i<len:=by simpa using(aC.1 hi).1
  rw[List.getElem?_map,List.getElem?_range hil]at hi;simp only[dB,br]at hi;subst hi;obtain⟨⟨cs',h1,hr⟩,_⟩:=hf i hil;refine⟨cs',λj v hv=>?_,hr⟩;obtain⟨_,hg⟩:=N6 h1;have hc':=hg j v hv;rw[hplain,nh,nh,hsz]at hc';exact⟨World.block_lt_of_cell? w ⟨a.block,a.off+i*e'.size+j,none⟩ hc',hc'⟩;obtain⟨i,hi,rfl⟩:=eF.1 hx';exact(hf i (by simpa using hi)).2;cases hc;rename_i fs hu;simp only[ae,bm]at hc;obtain⟨hsz,hcf⟩:=hc;obtain⟨xs,n',_,_,hlen,hxl,hfs⟩:=DataW.trod_struct hu h
  have key:∀(l:aw Field)(off k:Nat)(e':CT),(∀(i:Nat)(f:Field),l[i]?=some f->fs[k+i]?=some f)->ra P (P4 P n) l off e'=true->off+e'.size<=cs.length->
   ∃x:e'.D,jr w (Old w) e' ((cs.drop off).take e'.size) x/\InR e' x:=by
   intro l
   induction l with
   |nil=>intro off k e' _ hcf;cases hcf
   |cons f l ih=>
    intro off k e' hidx hcf hfit
    have hf:=hidx 0 f rfl
    have hone:∀e1:CT,f.offset=off->P.cellsOf f.type=e1.size->P4 P n f.type e1=true->∃x:e1.D,jr w (Old w) e1 ((cs.drop off).take e1.size) x/\InR e1 x:=by
     intro e1 h1 h2 h3;have ht:=hfs _ f hf;have hlt:k+0<xs.length:=by rw[hxl];exact(Array.getElem?_eq_some_iff.1 hf).1
     rw[al hlt,h1,h2]at ht;exact It n f.type e1 n' _ _ _ h3 ht
    cases l with
    |nil=>
     simp only[ra,ae,bm]at hcf
     exact hone e' hcf.1.1 hcf.1.2 hcf.2
    |cons f' l=>
     cases e' with
     |pair a b=>
      simp only[ra,ae,bm]at hcf
      obtain⟨⟨⟨h1,h2⟩,h3⟩,h4⟩:=hcf
      simp only[CT.size]at hfit
      obtain⟨x,hx,hix⟩:=hone a h1 h2 h3
      obtain⟨y,hy,hiy⟩:=ih (off+a.size) (k+1) b (λi f0 hi=>by have:=hidx (i+1) f0 (by simpa using hi);rwa[show k+1+i=k+(i+1) by omega]) h4 (by omega)
      refine⟨(x,y),⟨_,_,?_,hx,hy⟩,hix,hiy⟩
      rw[CT.size,List.take_add,fg]
     |int k=>simp[ra]at hcf
     |bool=>simp[ra]at hcf
     |str=>simp[ra]at hcf
     |sl e0=>simp[ra]at hcf
  obtain⟨x,hx,hin⟩:=key fs.toList 0 0 e (λi f hi=>by rw[cw,<-cB];exact hi) hcf (by rw[hlen,hsz];omega);refine⟨x,?_,hin⟩;rw[fi,cd (by rw[hlen,hsz];exact bh _)]at hx;exact hx;cases hc
end
end Go.Dn
