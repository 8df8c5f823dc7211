import Derived.Test.YthllnaiaikjelaaGreatDnRun
import Derived.Deep.Slices
import Derived.ChangeArms
import Derived.MapPlaces
/- The arguments of a statement's input, as data. -/
namespace Go.Dn
open Go.RowKit Go.ChangeShapes Go.WideShapes
def vK (P:Program)(ZP:TypeId->CT->Bool):ar Field->Nat->CT->Bool
 |[],_,_=>false
 |[f],off,e=>f.offset==off&&P.cellsOf f.type==e.size&&ZP f.type e
 |f::f'::fs,off,.pair a b=>f.offset==off&&P.cellsOf f.type==a.size&&ZP f.type a&&vK P ZP (f'::fs) (off+a.size) b
 |_,_,_=>false
def W8 (P:Program):Nat->TypeId->CT->Bool
 |0,_,_=>false
 |n+1,t,e=>
  match P.underlying t with
  |some (.int k)=>match e with| .int k'=>decide (k=k')|_=>false
  |some .bool=>match e with| .bool=>true|_=>false
  |some .string=>match e with| .str=>true|_=>false
  |some (.slice te)=>match e with| .sl e'=>P.cellsOf te==e'.size&&W8 P n te e'|_=>false
  |some (.struct fs)=>P.cellsOf t==e.size&&vK P (W8 P n) fs.toList 0 e
  |_=>false
def InR:(e:CT)->e.D->Prop
 | .int k,n=>k.min<=n/\n<=k.max
 | .bool,_=>True
 | .str,s=>s.length<=maxLen
 | .sl e,xs=>xs.length<=maxLen/\∀x∈xs,InR e x
 | .pair a b,x=>InR a x.1/\InR b x.2
def Old (w:World)(b _o:Nat):Prop:=b<w.heap.size
section
variable {H:Type} {enc:TypeId×Value->H} {P:Program} {w:World} {base:Nat} {held:Bool}
theorem ac6 {α β:Type}{f:α->au β}:∀{l:ar α}{r:ar β},l.mapM f=some r->r.length=l.length/\∀(i:Nat)(y:β),r[i]?=some y->∃x,l[i]?=some x/\f x=some y
 |[],r,h=>by simp at h;subst h;simp
 |x::l,r,h=>by rw[List.mapM_cons]at h;obtain⟨y,hy,h⟩:=aY.1 h;obtain⟨ys,hys,h⟩:=aY.1 h;cases h;obtain⟨hl,hg⟩:=ac6 hys;refine⟨by simp[hl],λi z hz=>?_⟩;cases i with|zero=>simp at hz;subst hz;exact⟨x,rfl,hy⟩|succ i=>exact hg i z (by simpa using hz)
theorem XR {a:Addr}{n:Nat}{cs:iW}(h:w.cells? base a n=some cs):cs.length=n/\∀j v,cs[j]?=some v->w.cell? (a.add j)=some v:=by
 unfold World.cells? at h;split at h;obtain⟨hl,hg⟩:=ac6 h;refine⟨by simpa using hl,λj v hv=>?_⟩;obtain⟨x,hx,hy⟩:=hg j v hv;have hj:j<n:=by have:=(aJ.1 hv).1;simp at hl;omega
 rw[List.getElem?_range hj]at hx;cases hx;exact hy;cases h
theorem ae8 {a:Addr}{v:Value}(h:w.cell? a=some v):a=⟨a.block,a.off,none⟩:=by
 unfold World.cell? at h;split at h;split at h;cases h;rename_i hs;cases a with|mk b o s=>cases s<;>simp at hs⊢
 cases h
theorem Sa:∀(n:Nat)(t:TypeId)(e:CT)(fuel:Nat)(cs:iW)(d:DataW H)(ps:ar MemPlace),W8 P n t e=true->
 DataW.trod enc P w base (λ_=>true) held fuel t cs=some (d,ps)->∃x:e.D,km w (Old w) e cs x/\InR e x
 |0,t,e,fuel,cs,d,ps,hc,h=>by cases hc
 |n+1,t,e,fuel,cs,d,ps,hc,h=>by
  unfold W8 at hc;split at hc;rename_i k hu;split at hc;rename_i k';have hkk:=iY hc;subst hkk;obtain⟨m,rfl,_,hwf⟩:=DataW.trod_int hu h;simp only[Lit.wf,ah,bK]at hwf;exact⟨m,rfl,hwf⟩;cases hc;rename_i hu;split at hc;obtain⟨b,rfl,_⟩:=DataW.trod_bool hu h;exact⟨b,rfl,bF⟩;cases hc;rename_i hu;split at hc;obtain⟨s,rfl,_,hs⟩:=DataW.trod_string hu h;exact⟨s.data.toList,by simp[km],by simpa[InR]using hs⟩;cases hc;rename_i te hu;split at hc;rename_i e';simp only[ah,bn]at hc;obtain⟨xx,hce⟩:=hc;rcases Go.Deep.open_slice hu h with⟨rfl,_⟩|⟨a,len,cap,m,n',D,Pl,rfl,_,hlc,hcm,hm,_,Mi⟩;exact⟨[],⟨_,rfl,.inl ⟨⟨_,rfl⟩,rfl⟩⟩,by simp[InR]⟩;simp only[cd]at hm;subst hm;have ajc:=e'.size_pos;have hx:∀i,i<len->∃x:e'.D,(∃pb,w.cells? base (a.add (i*P.cellsOf te)) (P.cellsOf te)=some pb/\km w (Old w) e' pb x)/\InR e' x:=by intro i hi;obtain⟨pb,h1,h2⟩:=Mi i (by omega);obtain⟨x,hr,vG⟩:=Sa n te e' n' pb (D i) (Pl i) hce h2;exact⟨x,⟨pb,h1,hr⟩,vG⟩
  have:Inhabited e'.D:=⟨e'.zero⟩
  obtain⟨f,hf⟩:=Go.Deep.choose_lt hx;by_cases NS:m=0;have hl:len=0:=by omega
  subst hl;subst NS;exact⟨[],⟨_,rfl,.inl ⟨⟨_,rfl⟩,rfl⟩⟩,by simp[InR]⟩;have amk:a=⟨a.block,a.off,none⟩:=by
   obtain⟨pb,h1,_⟩:=Mi 0 (by omega);obtain⟨hl,hg⟩:=XR h1;have h0:0<pb.length:=by rw[hl,xx];exact ajc
   have:=hg 0 _ (al h0);simp only[Nat.zero_mul]at this;have h2:(a.add 0).add 0=a:=by simp[Addr.add]
   rw[h2]at this;exact ae8 this
  refine⟨(List.range len).map f,⟨_,rfl,.inr ⟨a.block,a.off,m,by rw[<-amk];simp,by simpa using hlc,λi x hi=>?_⟩⟩,by simp;omega,λx Fe=>?_⟩;have Vq:i<len:=by simpa using(aJ.1 hi).1
  rw[List.getElem?_map,List.getElem?_range Vq]at hi;simp only[dB,bf]at hi;subst hi;obtain⟨⟨pb,h1,hr⟩,_⟩:=hf i Vq;refine⟨pb,λj v hv=>?_,hr⟩;obtain⟨_,hg⟩:=XR h1;have IX:=hg j v hv;rw[amk,pO,pO,xx]at IX;exact⟨World.block_lt_of_cell? w ⟨a.block,a.off+i*e'.size+j,none⟩ IX,IX⟩;obtain⟨i,hi,rfl⟩:=List.mem_map.1 Fe;exact(hf i (by simpa using hi)).2;cases hc;rename_i fs hu;simp only[ah,bn]at hc;obtain⟨xx,hcf⟩:=hc;obtain⟨xs,n',_,_,hlen,hxl,NU⟩:=DataW.trod_struct hu h
  have key:∀(l:ar Field)(off k:Nat)(e':CT),(∀(i:Nat)(f:Field),l[i]?=some f->fs[k+i]?=some f)->vK P (W8 P n) l off e'=true->off+e'.size<=cs.length->
   ∃x:e'.D,km w (Old w) e' ((cs.drop off).take e'.size) x/\InR e' x:=by
   intro l
   induction l with
   |nil=>intro off k e' _ hcf;cases hcf
   |cons f l ih=>
    intro off k e' aoO hcf iB
    have hf:=aoO 0 f rfl
    have afD:∀e1:CT,f.offset=off->P.cellsOf f.type=e1.size->W8 P n f.type e1=true->∃x:e1.D,km w (Old w) e1 ((cs.drop off).take e1.size) x/\InR e1 x:=by
     intro e1 h1 h2 h3;have ht:=NU _ f hf;have iJ:k+0<xs.length:=by rw[hxl];exact(Array.getElem?_eq_some_iff.1 hf).1
     rw[al iJ,h1,h2]at ht;exact Sa n f.type e1 n' _ _ _ h3 ht
    cases l with
    |nil=>
     simp only[vK,ah,bn]at hcf
     exact afD e' hcf.1.1 hcf.1.2 hcf.2
    |cons f' l=>
     cases e' with
     |pair a b=>
      simp only[vK,ah,bn]at hcf
      obtain⟨⟨⟨h1,h2⟩,h3⟩,h4⟩:=hcf
      simp only[CT.size]at iB
      obtain⟨x,hx,JY⟩:=afD a h1 h2 h3
      obtain⟨y,hy,hiy⟩:=ih (off+a.size) (k+1) b (λi f0 hi=>by have:=aoO (i+1) f0 (by simpa using hi);rwa[show k+1+i=k+(i+1) by omega]) h4 (by omega)
      refine⟨(x,y),⟨_,_,?_,hx,hy⟩,JY,hiy⟩
      rw[CT.size,List.take_add,eO]
     |int k=>simp[vK]at hcf
     |bool=>simp[vK]at hcf
     |str=>simp[vK]at hcf
     |sl e0=>simp[vK]at hcf
  obtain⟨x,hx,vG⟩:=key fs.toList 0 0 e (λi f hi=>by rw[cv,<-cp];exact hi) hcf (by rw[hlen,xx];omega);refine⟨x,?_,vG⟩;rw[fJ,bN (by rw[hlen,xx];exact ba _)]at hx;exact hx;cases hc
end
end Go.Dn
