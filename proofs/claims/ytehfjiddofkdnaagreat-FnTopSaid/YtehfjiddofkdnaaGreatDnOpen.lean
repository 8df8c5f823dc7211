import Derived.Test.YtehfjiddofkdnaaGreatDnRun
import Derived.Deep.Slices
import Derived.ChangeArms
import Derived.MapPlaces
/- The arguments of a statement's input, as data. -/
open Bool renaming false->G,true->O
open Option renaming some->I
namespace Go.Dn
open Go.RowKit Go.ChangeShapes Go.WideShapes
def yu (P:Program)(Sy:TypeId->CT->Bool):Z Field->Nat->CT->Bool
 |[],_,_=>G
 |[f],c,e=>f.offset==c&&P.cellsOf f.type==e.size&&Sy f.type e
 |f::d::g,c,.pair a b=>f.offset==c&&P.cellsOf f.type==a.size&&Sy f.type a&&yu P Sy (d::g) (c+a.size) b
 |_,_,_=>G
def abY (P:Program):Nat->TypeId->CT->Bool
 |0,_,_=>G
 |n+1,t,e=>
  match P.underlying t with
  |some (.int k)=>match e with| .int d=>decide (k=d)|_=>G
  |some .bool=>match e with| .bool=>O|_=>G
  |some .string=>match e with| .str=>O|_=>G
  |some (.slice b)=>match e with| .sl a=>P.cellsOf b==a.size&&abY P n b a|_=>G
  |some (.struct c)=>P.cellsOf t==e.size&&yu P (abY P n) c.toList 0 e
  |_=>G
def InR:(e:CT)->e.D->Prop
 | .int k,n=>k.min<=n/\n<=k.max
 | .bool,_=>True
 | .str,s=>s.length<=maxLen
 | .sl e,c=>c.length<=maxLen/\∀x∈c,InR e x
 | .pair a b,x=>InR a x.1/\InR b x.2
def Old (w:World)(b _o:Nat):=b<w.heap.size
section
variable {H:Type} {enc:TypeId×Value->H} {P:Program} {w:World} {base:Nat} {held:Bool}
theorem afi {α β:Type}{f:α->aS β}:∀{l:Z α}{r:Z β},l.mapM f=I r->r.length=l.length/\∀(i:Nat)(y:β),r[i]?=I y->∃x,l[i]?=I x/\f x=I y
 |[],r,h=>by simp at h;subst h;simp
 |x::l,r,h=>by rw[List.mapM_cons]at h;obtain⟨y,e,h⟩:=br.1 h;obtain⟨g,a,h⟩:=br.1 h;cases h;obtain⟨d,c⟩:=afi a;refine⟨by simp[d],λi z b=>?_⟩;cases i with|zero=>simp at b;subst b;exact⟨x,rfl,e⟩|succ i=>exact c i z (by simpa using b)
theorem ZH {a n b}(h:w.cells? base a n=I b):b.length=n/\∀j v,b[j]?=I v->w.cell? (a.add j)=I v:=by
 unfold World.cells? at h;split at h;obtain⟨c,f⟩:=afi h;refine⟨by simpa using c,λj v d=>?_⟩;obtain⟨x,e,i⟩:=f j v d;have g:j<n:=by have:=(aA.1 d).1;simp at c;omega
 rw[List.getElem?_range g]at e;cases e;exact i;cases h
theorem aho {a v}(h:w.cell? a=I v):a=⟨a.block,a.off,none⟩:=by
 unfold World.cell? at h;split at h;split at h;cases h;rename_i hs;cases a with|mk b o s=>cases s<;>simp at hs⊢
 cases h
theorem Th:∀(n:Nat)(t:TypeId)(e:CT)(fuel:Nat)(F:oz)(d:DataW H)(ps:Z MemPlace),abY P n t e=O->
 DataW.trod enc P w base (λ_=>O) held fuel t F=I (d,ps)->∃x:e.D,mq w (Old w) e F x/\InR e x
 |0,t,e,fuel,F,d,ps,p,h=>by cases p
 |n+1,t,e,fuel,F,d,ps,p,h=>by
  unfold abY at p;split at p;rename_i k A;split at p;rename_i k';have hkk:=cw p;subst hkk;obtain⟨m,rfl,_,V⟩:=DataW.trod_int A h;simp only[Lit.wf,af,bO]at V;exact⟨m,rfl,V⟩;cases p;rename_i A;split at p;obtain⟨b,rfl,_⟩:=DataW.trod_bool A h;exact⟨b,rfl,B⟩;cases p;rename_i A;split at p;obtain⟨s,rfl,_,hs⟩:=DataW.trod_string A h;exact⟨s.data.toList,by simp[mq],by simpa[InR]using hs⟩;cases p;rename_i te A;split at p;rename_i o;simp only[af,bw]at p;obtain⟨u,hce⟩:=p;rcases Go.Deep.open_slice A h with⟨rfl,_⟩|⟨a,len,cap,m,n',D,Pl,rfl,_,hlc,hcm,hm,_,Q⟩;exact⟨[],⟨_,rfl,.inl ⟨⟨_,rfl⟩,rfl⟩⟩,by simp[InR]⟩;simp only[dm]at hm;subst hm;have aBB:=o.size_pos;have N:∀i,i<len->∃x:o.D,(∃g,w.cells? base (a.add (i*P.cellsOf te)) (P.cellsOf te)=I g/\mq w (Old w) o g x)/\InR o x:=by intro i r;obtain⟨g,z,K⟩:=Q i J;obtain⟨x,hr,M⟩:=Th n te o n' g (D i) (Pl i) hce K;exact⟨x,⟨g,z,hr⟩,M⟩
  have:Inhabited o.D:=⟨o.zero⟩
  obtain⟨f,hf⟩:=Go.Deep.choose_lt N;by_cases Y:m=0;have hl:len=0:=J;subst hl;subst Y;exact⟨[],⟨_,rfl,.inl ⟨⟨_,rfl⟩,rfl⟩⟩,by simp[InR]⟩;have U:a=⟨a.block,a.off,none⟩:=by
   obtain⟨g,z,_⟩:=Q 0 J;obtain⟨hl,hg⟩:=ZH z;have h0:0<g.length:=by rw[hl,u];exact aBB
   have:=hg 0 _ (ah h0);simp only[Nat.zero_mul]at this;have K:(a.add 0).add 0=a:=by simp[Addr.add]
   rw[K]at this;exact aho this
  refine⟨(List.range len).map f,⟨_,rfl,.inr ⟨a.block,a.off,m,by rw[<-U];simp,by simpa using hlc,λi x r=>?_⟩⟩,by simp;omega,λx hx'=>?_⟩;have S:i<len:=by simpa using(aA.1 r).1
  rw[gz,List.getElem?_range S]at r;simp only[eP,bI]at r;subst r;obtain⟨⟨g,z,hr⟩,_⟩:=hf i S;refine⟨g,λj v hv=>?_,hr⟩;obtain⟨_,hg⟩:=ZH z;have L:=hg j v hv;rw[U,sv,sv,u]at L;exact⟨World.block_lt_of_cell? w ⟨a.block,a.off+i*o.size+j,none⟩ L,L⟩;obtain⟨i,r,rfl⟩:=cX.1 hx';exact(hf i (by simpa using r)).2;cases p;rename_i fs A;simp only[af,bw]at p;obtain⟨u,c⟩:=p;obtain⟨xs,n',_,_,E,hxl,hfs⟩:=DataW.trod_struct A h
  have key:∀(l:Z Field)(q k:Nat)(o:CT),(∀(i:Nat)(f:Field),l[i]?=I f->fs[k+i]?=I f)->yu P (abY P n) l q o=O->q+o.size<=F.length->
   ∃x:o.D,mq w (Old w) o ((F.drop q).take o.size) x/\InR o x:=by
   intro l
   induction l with
   |nil=>intro q k o _ c;cases c
   |cons f l ih=>
    intro q k o R c atw
    have hf:=R 0 f rfl
    have T:∀C:CT,f.offset=q->P.cellsOf f.type=C.size->abY P n f.type C=O->∃x:C.D,mq w (Old w) C ((F.drop q).take C.size) x/\InR C x:=by
     intro C z K X;have ht:=hfs _ f hf;have YI:k+0<xs.length:=by rw[hxl];exact(Array.getElem?_eq_some_iff.1 hf).1
     rw[ah YI,z,K]at ht;exact Th n f.type C n' _ _ _ X ht
    cases l with
    |nil=>
     simp only[yu,af,bw]at c
     exact T o c.1.1 c.1.2 c.2
    |cons f' l=>
     cases o with
     |pair a b=>
      simp only[yu,af,bw]at c
      obtain⟨⟨⟨z,K⟩,X⟩,h4⟩:=c
      simp only[CT.size]at atw
      obtain⟨x,N,hix⟩:=T a z K X
      obtain⟨y,hy,hiy⟩:=ih (q+a.size) (k+1) b (λi f0 r=>by have:=R (i+1) f0 (by simpa using r);rwa[(J:k+1+i=k+(i+1))]) h4 J
      refine⟨(x,y),⟨_,_,?_,N,hy⟩,hix,hiy⟩
      rw[CT.size,List.take_add,fM]
     |int k=>simp[yu]at c
     |bool=>simp[yu]at c
     |str=>simp[yu]at c
     |sl e0=>simp[yu]at c
  obtain⟨x,N,M⟩:=key fs.toList 0 0 e (λi f r=>by rw[cR,<-du];exact r) c (by rw[E,u];omega);refine⟨x,?_,M⟩;rw[ik,cd (by rw[E,u];exact bq _)]at N;exact N;cases p
end
end Go.Dn
