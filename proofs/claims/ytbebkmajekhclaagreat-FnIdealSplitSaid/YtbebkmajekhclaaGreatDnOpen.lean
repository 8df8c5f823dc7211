import Derived.Test.YtbebkmajekhclaaGreatDnRun
import Derived.Deep.Slices
import Derived.ChangeArms
import Derived.MapPlaces
/- The arguments of a statement's input, as data. -/
namespace Go.Dn
open Go.RowKit Go.ChangeShapes Go.WideShapes
def tw (P:Program)(TW:TypeId->CT->Bool):aw Field->Nat->CT->Bool
 |[],_,_=>false
 |[f],off,e=>f.offset==off&&P.cellsOf f.type==e.size&&TW f.type e
 |f::f'::fs,off,.pair a b=>f.offset==off&&P.cellsOf f.type==a.size&&TW f.type a&&tw P TW (f'::fs) (off+a.size) b
 |_,_,_=>false
def V1 (P:Program):Nat->TypeId->CT->Bool
 |0,_,_=>false
 |n+1,t,e=>
  match P.underlying t with
  |some (.int k)=>match e with| .int k'=>decide (k=k')|_=>false
  |some .bool=>match e with| .bool=>true|_=>false
  |some .string=>match e with| .str=>true|_=>false
  |some (.slice te)=>match e with| .sl e'=>P.cellsOf te==e'.size&&V1 P n te e'|_=>false
  |some (.struct fs)=>P.cellsOf t==e.size&&tw P (V1 P n) fs.toList 0 e
  |_=>false
def InR:(e:CT)->e.D->Prop
 | .int k,n=>k.min<=n/\n<=k.max
 | .bool,_=>True
 | .str,s=>s.length<=maxLen
 | .sl e,xs=>xs.length<=maxLen/\∀x∈xs,InR e x
 | .pair a b,x=>InR a x.1/\InR b x.2
def Old (w:World)(b _o:Nat):Prop:=b<w.heap.size
section
variable {H:Type} {enc:TypeId×Value->H} {P:Program} {w:World} {base:Nat} {held:Bool}
theorem aan {α β:Type}{f:α->az β}:∀{l:aw α}{r:aw β},l.mapM f=some r->r.length=l.length/\∀(i:Nat)(y:β),r[i]?=some y->∃x,l[i]?=some x/\f x=some y
 |[],r,h=>by simp at h;subst h;simp
 |x::l,r,h=>by rw[List.mapM_cons]at h;obtain⟨y,hy,h⟩:=aY.1 h;obtain⟨ys,hys,h⟩:=aY.1 h;cases h;obtain⟨hl,hg⟩:=aan hys;refine⟨by simp[hl],λi z hz=>?_⟩;cases i with|zero=>simp at hz;subst hz;exact⟨x,rfl,hy⟩|succ i=>exact hg i z (by simpa using hz)
theorem TU {a:Addr}{n:Nat}{cs:jf}(h:w.cells? base a n=some cs):cs.length=n/\∀j v,cs[j]?=some v->w.cell? (a.add j)=some v:=by
 unfold World.cells? at h;split at h;obtain⟨hl,hg⟩:=aan h;refine⟨by simpa using hl,λj v hv=>?_⟩;obtain⟨x,hx,hy⟩:=hg j v hv;have hj:j<n:=by have:=(aC.1 hv).1;simp at hl;omega
 rw[List.getElem?_range hj]at hx;cases hx;exact hy;cases h
theorem ab2 {a:Addr}{v:Value}(h:w.cell? a=some v):a=⟨a.block,a.off,none⟩:=by
 unfold World.cell? at h;split at h;split at h;cases h;rename_i hs;cases a with|mk b o s=>cases s<;>simp at hs⊢
 cases h
theorem Nb:∀(n:Nat)(t:TypeId)(e:CT)(fuel:Nat)(cs:jf)(d:DataW H)(ps:aw MemPlace),V1 P n t e=true->
 DataW.trod enc P w base (λ_=>true) held fuel t cs=some (d,ps)->∃x:e.D,jM w (Old w) e cs x/\InR e x
 |0,t,e,fuel,cs,d,ps,hc,h=>by cases hc
 |n+1,t,e,fuel,cs,d,ps,hc,h=>by
  unfold V1 at hc;split at hc;rename_i k hu;split at hc;rename_i k';have WM:=br hc;subst WM;obtain⟨m,rfl,_,hwf⟩:=DataW.trod_int hu h;simp only[Lit.wf,af,aG]at hwf;exact⟨m,rfl,hwf⟩;cases hc;rename_i hu;split at hc;obtain⟨b,rfl,_⟩:=DataW.trod_bool hu h;exact⟨b,rfl,cq⟩;cases hc;rename_i hu;split at hc;obtain⟨s,rfl,_,hs⟩:=DataW.trod_string hu h;exact⟨s.data.toList,by simp[jM],by simpa[InR]using hs⟩;cases hc;rename_i te hu;split at hc;rename_i e';simp only[af,ba]at hc;obtain⟨uU,hce⟩:=hc;rcases Go.Deep.open_slice hu h with⟨rfl,_⟩|⟨a,len,cap,m,n',D,Pl,rfl,_,hlc,hcm,hm,_,IH⟩;exact⟨[],⟨_,rfl,.inl ⟨⟨_,rfl⟩,rfl⟩⟩,by simp[InR]⟩;simp only[cz]at hm;subst hm;have ag8:=e'.size_pos;have hx:∀i,i<len->∃x:e'.D,(∃sB,w.cells? base (a.add (i*P.cellsOf te)) (P.cellsOf te)=some sB/\jM w (Old w) e' sB x)/\InR e' x:=by intro i hi;obtain⟨sB,h1,h2⟩:=IH i (by omega);obtain⟨x,hr,yK⟩:=Nb n te e' n' sB (D i) (Pl i) hce h2;exact⟨x,⟨sB,h1,hr⟩,yK⟩
  have:Inhabited e'.D:=⟨e'.zero⟩
  obtain⟨f,hf⟩:=Go.Deep.choose_lt hx;by_cases Jd:m=0;have hl:len=0:=by omega
  subst hl;subst Jd;exact⟨[],⟨_,rfl,.inl ⟨⟨_,rfl⟩,rfl⟩⟩,by simp[InR]⟩;have akX:a=⟨a.block,a.off,none⟩:=by
   obtain⟨sB,h1,_⟩:=IH 0 (by omega);obtain⟨hl,hg⟩:=TU h1;have h0:0<sB.length:=by rw[hl,uU];exact ag8
   have:=hg 0 _ (ak h0);simp only[Nat.zero_mul]at this;have h2:(a.add 0).add 0=a:=by simp[Addr.add]
   rw[h2]at this;exact ab2 this
  refine⟨(List.range len).map f,⟨_,rfl,.inr ⟨a.block,a.off,m,by rw[<-akX];simp,by simpa using hlc,λi x hi=>?_⟩⟩,by simp;omega,λx D6=>?_⟩;have Py:i<len:=by simpa using(aC.1 hi).1
  rw[List.getElem?_map,List.getElem?_range Py]at hi;simp only[dD,bq]at hi;subst hi;obtain⟨⟨sB,h1,hr⟩,_⟩:=hf i Py;refine⟨sB,λj v hv=>?_,hr⟩;obtain⟨_,hg⟩:=TU h1;have Cy:=hg j v hv;rw[akX,om,om,uU]at Cy;exact⟨World.block_lt_of_cell? w ⟨a.block,a.off+i*e'.size+j,none⟩ Cy,Cy⟩;obtain⟨i,hi,rfl⟩:=dH.1 D6;exact(hf i (by simpa using hi)).2;cases hc;rename_i fs hu;simp only[af,ba]at hc;obtain⟨uU,hcf⟩:=hc;obtain⟨xs,n',_,_,hlen,hxl,KN⟩:=DataW.trod_struct hu h
  have key:∀(l:aw Field)(off k:Nat)(e':CT),(∀(i:Nat)(f:Field),l[i]?=some f->fs[k+i]?=some f)->tw P (V1 P n) l off e'=true->off+e'.size<=cs.length->
   ∃x:e'.D,jM w (Old w) e' ((cs.drop off).take e'.size) x/\InR e' x:=by
   intro l
   induction l with
   |nil=>intro off k e' _ hcf;cases hcf
   |cons f l ih=>
    intro off k e' anI hcf ik
    have hf:=anI 0 f rfl
    have adk:∀e1:CT,f.offset=off->P.cellsOf f.type=e1.size->V1 P n f.type e1=true->∃x:e1.D,jM w (Old w) e1 ((cs.drop off).take e1.size) x/\InR e1 x:=by
     intro e1 h1 h2 h3;have ht:=KN _ f hf;have gr:k+0<xs.length:=by rw[hxl];exact(Array.getElem?_eq_some_iff.1 hf).1
     rw[ak gr,h1,h2]at ht;exact Nb n f.type e1 n' _ _ _ h3 ht
    cases l with
    |nil=>
     simp only[tw,af,ba]at hcf
     exact adk e' hcf.1.1 hcf.1.2 hcf.2
    |cons f' l=>
     cases e' with
     |pair a b=>
      simp only[tw,af,ba]at hcf
      obtain⟨⟨⟨h1,h2⟩,h3⟩,h4⟩:=hcf
      simp only[CT.size]at ik
      obtain⟨x,hx,HD⟩:=adk a h1 h2 h3
      obtain⟨y,hy,hiy⟩:=ih (off+a.size) (k+1) b (λi f0 hi=>by have:=anI (i+1) f0 (by simpa using hi);rwa[show k+1+i=k+(i+1) by omega]) h4 (by omega)
      refine⟨(x,y),⟨_,_,?_,hx,hy⟩,HD,hiy⟩
      rw[CT.size,List.take_add,fE]
     |int k=>simp[tw]at hcf
     |bool=>simp[tw]at hcf
     |str=>simp[tw]at hcf
     |sl e0=>simp[tw]at hcf
  obtain⟨x,hx,yK⟩:=key fs.toList 0 0 e (λi f hi=>by rw[cO,<-cV];exact hi) hcf (by rw[hlen,uU];omega);refine⟨x,?_,yK⟩;rw[eG,cx (by rw[hlen,uU];exact bt _)]at hx;exact hx;cases hc
end
end Go.Dn
