import Derived.Test.YtfbhfnniblfpbaaGreatDnRun
import Derived.Deep.Slices
import Derived.ChangeArms
import Derived.MapPlaces
/- The arguments of a statement's input, as data. -/
namespace Go.Dn
open Go.RowKit Go.ChangeShapes Go.WideShapes
def rL (P:Program)(SH:TypeId->CT->Bool):ar Field->Nat->CT->Bool
 |[],_,_=>false
 |[f],off,e=>f.offset==off&&P.cellsOf f.type==e.size&&SH f.type e
 |f::f'::fs,off,.pair a b=>f.offset==off&&P.cellsOf f.type==a.size&&SH f.type a&&rL P SH (f'::fs) (off+a.size) b
 |_,_,_=>false
def Qi (P:Program):Nat->TypeId->CT->Bool
 |0,_,_=>false
 |n+1,t,e=>
  match P.underlying t with
  |some (.int k)=>match e with| .int k'=>decide (k=k')|_=>false
  |some .bool=>match e with| .bool=>true|_=>false
  |some .string=>match e with| .str=>true|_=>false
  |some (.slice te)=>match e with| .sl e'=>P.cellsOf te==e'.size&&Qi P n te e'|_=>false
  |some (.struct fs)=>P.cellsOf t==e.size&&rL P (Qi P n) fs.toList 0 e
  |_=>false
def InR:(e:CT)->e.D->Prop
 | .int k,n=>k.min<=n/\n<=k.max
 | .bool,_=>True
 | .str,s=>s.length<=maxLen
 | .sl e,xs=>xs.length<=maxLen/\∀x∈xs,InR e x
 | .pair a b,x=>InR a x.1/\InR b x.2
def Old (w:World)(b _o:Nat):Prop:=b<w.heap.size
section
variable {H:Type} {enc:TypeId×Value->H} {P:Program} {w:World} {base:Nat} {held:Bool}
theorem VO {α β:Type}{f:α->aw β}:∀{l:ar α}{r:ar β},l.mapM f=some r->r.length=l.length/\∀(i:Nat)(y:β),r[i]?=some y->∃x,l[i]?=some x/\f x=some y
 |[],r,h=>by simp at h;subst h;simp
 |x::l,r,h=>by rw[List.mapM_cons]at h;obtain⟨y,hy,h⟩:=aL.1 h;obtain⟨ys,hys,h⟩:=aL.1 h;cases h;obtain⟨hl,hg⟩:=VO hys;refine⟨by simp[hl],λi z hz=>?_⟩;cases i with|zero=>simp at hz;subst hz;exact⟨x,rfl,hy⟩|succ i=>exact hg i z (by simpa using hz)
theorem QW {a:Addr}{n:Nat}{cs:ic}(h:w.cells? base a n=some cs):cs.length=n/\∀j v,cs[j]?=some v->w.cell? (a.add j)=some v:=by
 unfold World.cells? at h;split at h;obtain⟨hl,hg⟩:=VO h;refine⟨by simpa using hl,λj v hv=>?_⟩;obtain⟨x,hx,hy⟩:=hg j v hv;have hj:j<n:=by have:=(aD.1 hv).1;simp at hl;omega
 rw[List.getElem?_range hj]at hx;cases hx;exact hy;cases h
theorem XC {a:Addr}{v:Value}(h:w.cell? a=some v):a=⟨a.block,a.off,none⟩:=by
 unfold World.cell? at h;split at h;split at h;cases h;rename_i hs;cases a with|mk b o s=>cases s<;>simp at hs⊢
 cases h
theorem LD:∀(n:Nat)(t:TypeId)(e:CT)(fuel:Nat)(cs:ic)(d:DataW H)(ps:ar MemPlace),Qi P n t e=true->
 DataW.trod enc P w base (λ_=>true) held fuel t cs=some (d,ps)->∃x:e.D,jd w (Old w) e cs x/\InR e x
 |0,t,e,fuel,cs,d,ps,hc,h=>by cases hc
 |n+1,t,e,fuel,cs,d,ps,hc,h=>by
  unfold Qi at hc;split at hc;rename_i k hu;split at hc;rename_i k';have S4:=ij hc;subst S4;obtain⟨m,rfl,_,hwf⟩:=DataW.trod_int hu h;simp only[Lit.wf,ah,bE]at hwf;exact⟨m,rfl,hwf⟩;cases hc;rename_i hu;split at hc;obtain⟨b,rfl,_⟩:=DataW.trod_bool hu h;exact⟨b,rfl,bV⟩;cases hc;rename_i hu;split at hc;obtain⟨s,rfl,_,hs⟩:=DataW.trod_string hu h;exact⟨s.data.toList,by simp[jd],by simpa[InR]using hs⟩;cases hc;rename_i te hu;split at hc;rename_i e';simp only[ah,bD]at hc;obtain⟨tu,hce⟩:=hc;rcases Go.Deep.open_slice hu h with⟨rfl,_⟩|⟨a,len,cap,m,n',D,Pl,rfl,_,hlc,hcm,hm,_,GS⟩;exact⟨[],⟨_,rfl,.inl ⟨⟨_,rfl⟩,rfl⟩⟩,by simp[InR]⟩;simp only[bL]at hm;subst hm;have abl:=e'.size_pos;have hx:∀i,i<len->∃x:e'.D,(∃na,w.cells? base (a.add (i*P.cellsOf te)) (P.cellsOf te)=some na/\jd w (Old w) e' na x)/\InR e' x:=by intro i hi;obtain⟨na,h1,h2⟩:=GS i (by omega);obtain⟨x,hr,uu⟩:=LD n te e' n' na (D i) (Pl i) hce h2;exact⟨x,⟨na,h1,hr⟩,uu⟩
  have:Inhabited e'.D:=⟨e'.zero⟩
  obtain⟨f,hf⟩:=Go.Deep.choose_lt hx;by_cases Ie:m=0;have hl:len=0:=by omega
  subst hl;subst Ie;exact⟨[],⟨_,rfl,.inl ⟨⟨_,rfl⟩,rfl⟩⟩,by simp[InR]⟩;have aef:a=⟨a.block,a.off,none⟩:=by
   obtain⟨na,h1,_⟩:=GS 0 (by omega);obtain⟨hl,hg⟩:=QW h1;have h0:0<na.length:=by rw[hl,tu];exact abl
   have:=hg 0 _ (al h0);simp only[Nat.zero_mul]at this;have h2:(a.add 0).add 0=a:=by simp[Addr.add]
   rw[h2]at this;exact XC this
  refine⟨(List.range len).map f,⟨_,rfl,.inr ⟨a.block,a.off,m,by rw[<-aef];simp,by simpa using hlc,λi x hi=>?_⟩⟩,by simp;omega,λx AJ=>?_⟩;have Ov:i<len:=by simpa using(aD.1 hi).1
  rw[List.getElem?_map,List.getElem?_range Ov]at hi;simp only[dg,aZ]at hi;subst hi;obtain⟨⟨na,h1,hr⟩,_⟩:=hf i Ov;refine⟨na,λj v hv=>?_,hr⟩;obtain⟨_,hg⟩:=QW h1;have DX:=hg j v hv;rw[aef,nv,nv,tu]at DX;exact⟨World.block_lt_of_cell? w ⟨a.block,a.off+i*e'.size+j,none⟩ DX,DX⟩;obtain⟨i,hi,rfl⟩:=List.mem_map.1 AJ;exact(hf i (by simpa using hi)).2;cases hc;rename_i fs hu;simp only[ah,bD]at hc;obtain⟨tu,Z6⟩:=hc;obtain⟨xs,n',_,_,hlen,hxl,Ig⟩:=DataW.trod_struct hu h
  have key:∀(l:ar Field)(off k:Nat)(e':CT),(∀(i:Nat)(f:Field),l[i]?=some f->fs[k+i]?=some f)->rL P (Qi P n) l off e'=true->off+e'.size<=cs.length->
   ∃x:e'.D,jd w (Old w) e' ((cs.drop off).take e'.size) x/\InR e' x:=by
   intro l
   induction l with
   |nil=>intro off k e' _ Z6;cases Z6
   |cons f l ih=>
    intro off k e' agl Z6 gF
    have hf:=agl 0 f rfl
    have X7:∀e1:CT,f.offset=off->P.cellsOf f.type=e1.size->Qi P n f.type e1=true->∃x:e1.D,jd w (Old w) e1 ((cs.drop off).take e1.size) x/\InR e1 x:=by
     intro e1 h1 h2 h3;have ht:=Ig _ f hf;have gV:k+0<xs.length:=by rw[hxl];exact(Array.getElem?_eq_some_iff.1 hf).1
     rw[al gV,h1,h2]at ht;exact LD n f.type e1 n' _ _ _ h3 ht
    cases l with
    |nil=>
     simp only[rL,ah,bD]at Z6
     exact X7 e' Z6.1.1 Z6.1.2 Z6.2
    |cons f' l=>
     cases e' with
     |pair a b=>
      simp only[rL,ah,bD]at Z6
      obtain⟨⟨⟨h1,h2⟩,h3⟩,h4⟩:=Z6
      simp only[CT.size]at gF
      obtain⟨x,hx,EP⟩:=X7 a h1 h2 h3
      obtain⟨y,hy,hiy⟩:=ih (off+a.size) (k+1) b (λi f0 hi=>by have:=agl (i+1) f0 (by simpa using hi);rwa[show k+1+i=k+(i+1) by omega]) h4 (by omega)
      refine⟨(x,y),⟨_,_,?_,hx,hy⟩,EP,hiy⟩
      rw[CT.size,List.take_add,dY]
     |int k=>simp[rL]at Z6
     |bool=>simp[rL]at Z6
     |str=>simp[rL]at Z6
     |sl e0=>simp[rL]at Z6
  obtain⟨x,hx,uu⟩:=key fs.toList 0 0 e (λi f hi=>by rw[cm,<-cg];exact hi) Z6 (by rw[hlen,tu];omega);refine⟨x,?_,uu⟩;rw[fa,bB (by rw[hlen,tu];exact aU _)]at hx;exact hx;cases hc
end
end Go.Dn
