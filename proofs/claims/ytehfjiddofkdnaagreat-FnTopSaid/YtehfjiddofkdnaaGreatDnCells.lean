import Derived.Test.YtehfjiddofkdnaaGreatDnBox
/- Cells and typed elements; the types' table. -/
open Bool renaming false->G,true->O
open Option renaming none->W,some->I
namespace Go.Dn
open Go.RowKit
variable {P:Program} {c:RC} {t:TypeId}
theorem Cg:∀{e:CT}{f:oz}{x:e.D}{d:gw},gX c.hw c.w e f x d->cv c f (cellsOf e (.own W) x) d
 | .int k,_,_,_,h=>by obtain⟨rfl,rfl⟩:=h;exact⟨[],[],rfl,⟨rfl,rfl⟩,rfl⟩
 | .bool,_,_,_,h=>by obtain⟨rfl,rfl⟩:=h;exact⟨[],[],rfl,⟨rfl,rfl⟩,rfl⟩
 | .str,_,_,_,h=>by obtain⟨rfl,rfl⟩:=h;exact⟨[],[],rfl,⟨rfl,rfl⟩,rfl⟩
 | .sl e,_,_,d,h=>by obtain⟨v,rfl,_⟩:=id h;exact⟨d,[],aD,⟨h,aD⟩,rfl⟩
 | .pair a b,_,_,_,h=>by obtain⟨j,l,f1,f2,rfl,rfl,g,i⟩:=h;exact(Cg g).append (Cg i)
theorem Of:∀{e:CT}{d:oz}{x:e.D},mq c.w c.S e d x->cv c d (cellsOf e (.loc c.ep W) x) []
 | .int k,_,_,h=>by cases h;exact⟨[],[],rfl,⟨rfl,rfl⟩,rfl⟩
 | .bool,_,_,h=>by cases h;exact⟨[],[],rfl,⟨rfl,rfl⟩,rfl⟩
 | .str,_,_,h=>by cases h;exact⟨[],[],rfl,⟨rfl,rfl⟩,rfl⟩
 | .sl e,_,_,h=>by obtain⟨v,rfl,k⟩:=id h;refine⟨[],[],aD,⟨rfl,bq _,?_,λ_=>h,aD⟩,rfl⟩;rcases k with⟨⟨j,rfl⟩,rfl⟩|⟨b,o,f,rfl,_⟩;exact⟨_,_,_,rfl,rfl⟩;exact⟨_,_,_,rfl,rfl⟩
 | .pair a b,_,_,h=>by obtain⟨l,m,rfl,g,i⟩:=h;exact(Of g).append (Of i)
theorem NU {k:Bool}:∀{e:CT}{d:oz}{x:e.D},mq c.w (c.A k) e d x->cv c d (cellsOf e (.arg k) x) []
 | .int k,_,_,h=>by cases h;exact⟨[],[],rfl,⟨rfl,rfl⟩,rfl⟩
 | .bool,_,_,h=>by cases h;exact⟨[],[],rfl,⟨rfl,rfl⟩,rfl⟩
 | .str,_,_,h=>by cases h;exact⟨[],[],rfl,⟨rfl,rfl⟩,rfl⟩
 | .sl e,_,_,h=>by obtain⟨v,rfl,k⟩:=id h;exact⟨[],[],aD,⟨rfl,h⟩,rfl⟩
 | .pair a b,_,_,h=>by obtain⟨i,j,rfl,f,g⟩:=h;exact(NU f).append (NU g)
theorem oP:∀(e:CT)(c:BH)(x:e.D),(cellsOf e c x).length=e.size
 | .int _,_,_=>rfl
 | .bool,_,_=>rfl
 | .str,_,_=>rfl
 | .sl _,_,_=>rfl
 | .pair a b,c,x=>by simp[cellsOf,CT.size,oP a,oP b]
theorem xT:∀{e:CT}{vs:oz}{cs d:Z AC}{x:e.D}{fp:gw},cv c vs cs fp->mC e cs=I (x,d)-> ∃f1 f2,fp=f1++f2/\gX c.hw c.w e (vs.take e.size) x f1/\cv c (vs.drop e.size) d f2:=by
 intro e;induction e with
 |int k=>intro vs cs d x fp g f;cases cs with|nil=>simp[mC]at f|cons y m=>cases vs with|nil=>exact g.elim|cons v vs=>obtain⟨f1,f2,rfl,h,i⟩:=g;cases y<;>simp[mC]at f;obtain⟨rfl,rfl,rfl⟩:=f;obtain⟨rfl,rfl⟩:=h;exact⟨[],f2,rfl,by simp[gX,CT.size],by simpa[CT.size]using i⟩
 |bool=>intro vs cs d x fp g f;cases cs with|nil=>simp[mC]at f|cons y m=>cases vs with|nil=>exact g.elim|cons v vs=>obtain⟨f1,f2,rfl,h,i⟩:=g;cases y<;>simp[mC]at f;obtain⟨rfl,rfl⟩:=f;obtain⟨rfl,rfl⟩:=h;exact⟨[],f2,rfl,by simp[gX,CT.size],by simpa[CT.size]using i⟩
 |str=>intro vs cs d x fp g f;cases cs with|nil=>simp[mC]at f|cons y m=>cases vs with|nil=>exact g.elim|cons v vs=>obtain⟨f1,f2,rfl,h,i⟩:=g;cases y<;>simp[mC]at f;obtain⟨rfl,rfl⟩:=f;obtain⟨rfl,rfl⟩:=h;exact⟨[],f2,rfl,by simp[gX,CT.size],by simpa[CT.size]using i⟩
 |sl e q=>
  intro vs cs d x fp g f;cases cs with
  |nil=>simp[mC]at f
  |cons y m=>
   cases vs with
   |nil=>exact g.elim
   |cons v vs=>
    obtain⟨f1,f2,rfl,h,i⟩:=g;cases y with
    |sl o p z=>cases o<;>simp[mC]at f;obtain⟨⟨rfl,rfl⟩,rfl⟩:=f;exact⟨f1,f2,rfl,by simpa[CT.size]using h.1,by simpa[CT.size]using i⟩
    |mP=>simp[mC]at f;obtain⟨rfl,rfl⟩:=f;obtain⟨rfl,rfl⟩:=h;exact⟨[],f2,rfl,⟨.slice W 0 0,by simp[CT.size],.inl ⟨⟨W,rfl⟩,rfl,rfl⟩⟩,by simpa[CT.size]using i⟩
    |_=>simp[mC]at f
 |pair a b j l=>intro vs cs d x fp g f;simp only[mC,br]at f;obtain⟨⟨t,r⟩,h,⟨u,s⟩,i,n⟩:=f;simp at n;obtain⟨rfl,rfl⟩:=n;obtain⟨f1,f2,rfl,k1,k2⟩:=j g h;obtain⟨f3,f4,rfl,k3,k4⟩:=l k2 i;refine⟨f1++f3,f4,aD,⟨vs.take a.size,(vs.drop a.size).take b.size,f1,f3,?_,rfl,k1,k3⟩,?_⟩;simp only[CT.size];rw[List.take_add];simp only[CT.size];rw[<-fM];exact k4
def Gf:CT->oz
 | .int k=>[.int k 0]
 | .bool=>[.bool G]
 | .str=>[.string .empty]
 | .sl _=>[.slice W 0 0]
 | .pair a b=>Gf a++Gf b
theorem vZ:∀e:CT,(Gf e).length=e.size
 | .int _=>rfl
 | .bool=>rfl
 | .str=>rfl
 | .sl _=>rfl
 | .pair a b=>by simp[Gf,CT.size,vZ a,vZ b]
theorem NQ (c:Nat->Nat)(w:World):∀e:CT,gX c w e (Gf e) e.zero []
 | .int _=>⟨rfl,rfl⟩
 | .bool=>⟨rfl,rfl⟩
 | .str=>⟨rfl,rfl⟩
 | .sl _=>⟨_,rfl,.inl ⟨⟨_,rfl⟩,rfl,rfl⟩⟩
 | .pair a b=>⟨_,_,[],[],rfl,rfl,NQ c w a,NQ c w b⟩
def kS:CT->oz->aS oz
 | .int k,.int c n::r=>if k=c/\n=0 then I r else W
 | .bool,.bool b::r=>if b=G then I r else W
 | .str,.string s::r=>if s.data.toList=[] then I r else W
 | .sl _,.slice W 0 0::r=>I r
 | .pair a b,d=>(kS a d).bind (kS b)
 |_,_=>W
theorem ae8:∀{e:CT}{c r:oz},kS e c=I r->c=Gf e++r:=by
 intro e;induction e with
 |int k=>intro c r h;cases c with|nil=>simp[kS]at h|cons v c=>cases v<;>simp[kS]at h;obtain⟨⟨rfl,rfl⟩,rfl⟩:=h;rfl
 |bool=>intro c r h;cases c with|nil=>simp[kS]at h|cons v c=>cases v<;>simp[kS]at h;obtain⟨rfl,rfl⟩:=h;rfl
 |str=>
  intro c r h;cases c with
  |nil=>simp[kS]at h
  |cons v c=>
   cases v<;>simp[kS]at h;rename_i s;obtain⟨d,rfl⟩:=h;have:s=.empty:=by cases s;simp at d;subst d;rfl
   subst this;rfl
 |sl e _=>
  intro c r h;cases c with
  |nil=>simp[kS]at h
  |cons v c=>
   cases v with
   |slice a l k=>
    cases a with
    |none=>
     cases l with
     |zero=>cases k with|zero=>simp[kS]at h;subst h;rfl|succ k=>simp[kS]at h
     |succ l=>simp[kS]at h
    |some a=>simp[kS]at h
   |_=>simp[kS]at h
 |pair a b f g=>intro c r h;simp only[kS,br]at h;obtain⟨j,d,i⟩:=h;rw[f d,g i];simp[Gf]
structure VK (P:Program) (t:TypeId) (e:CT):Prop where
 info:∃i z,P.info? t=I i/\i.size=e.size/\i.bytes<=65536/\i.zero=I z/\z.cells.toList=Gf e
 small:e.size<=4096
structure aoE (P:Program) (t:TypeId) (sh:Shape):Prop where
 elem:VK P t sh.ct
 agg:sh.agg=O->∃fs,P.underlying t=I (.struct fs)/\∀(f fo n:Nat),sh.nt[f]?=I (fo,n)->∃fd:Field,fs[f]?=I fd/\fd.offset=fo/\0<n/\∃i,P.info? fd.type=I i/\i.size=n
 count:sh.agg=O->∀fs,P.underlying t=I (.struct fs)->(∀(f:Nat)(fd:Field),fs[f]?=I fd->∃i,P.info? fd.type=I i)
 int:∀k,sh.ct=.int k->sh.agg=G->P.underlying t=I (.int k)
 bool:sh.ct=.bool->sh.agg=G->P.underlying t=I .bool
 str:sh.ct=.str->sh.agg=G->P.underlying t=I .string
 sl:∀e,sh.ct=.sl e->sh.agg=G->∃te,P.underlying t=I (.slice te)/\VK P te e/\∀x n,sh.nt=[(x,n)]->x=te
 pair:∀a b,sh.ct=.pair a b->sh.agg=O
def akc (P:Program)(t:TypeId)(e:CT):Bool:=
 match P.info? t with
 |some i=>i.size==e.size&&decide (i.bytes<=65536)&&decide (e.size<=4096)&&(match i.zero with|some z=>(match kS e z.cells.toList with|some []=>O|_=>G)|none=>G)
 |none=>G
theorem Wk {e}(h:akc P t e=O):VK P t e:=by unfold akc at h;cases b:P.info? t with|none=>rw[b]at h;cases h|some i=>rw[b]at h;simp only[af,bw,bO]at h;obtain⟨⟨⟨f,g⟩,c⟩,a⟩:=h;cases d:i.zero with|none=>rw[d]at a;cases a|some z=>rw[d]at a;simp only at a;split at a;rename_i j;exact⟨⟨i,z,b,f,g,d,by simpa using ae8 j⟩,c⟩;cases a
def N0 (P:Program):Z (Nat×Nat)->Z Field->Bool
 |[],[]=>O
 |(fo,n)::r,f::a=>f.offset==fo&&decide (0<n)&&(match P.info? f.type with|some i=>i.size==n|none=>G)&&N0 P r a
 |_,_=>G
theorem QJ:∀{k:Z (Nat×Nat)}{c:Z Field},N0 P k c=O->
 (∀(f fo n:Nat),k[f]?=I (fo,n)->∃a:Field,c[f]?=I a/\a.offset=fo/\0<n/\∃i,P.info? a.type=I i/\i.size=n)/\∀(f:Nat)(a:Field),c[f]?=I a->∃i,P.info? a.type=I i
 |[],[],_=>aD
 |[],_::_,h=>by simp[N0]at h
 |_::_,[],h=>by simp[N0]at h
 |(fo,n)::r,a::c,h=>by
  simp only[N0,af,bw,bO]at h;obtain⟨⟨⟨l,m⟩,b⟩,o⟩:=h;have j:=QJ o;cases d:P.info? a.type with
  |none=>rw[d]at b;cases b
  |some i=>
   rw[d]at b;simp only[bw]at b;constructor;intro f g p hf;cases f with
   |zero=>simp at hf;obtain⟨rfl,rfl⟩:=hf;exact⟨a,rfl,l,m,i,d,b⟩
   |succ f=>simpa using j.1 f g p (by simpa using hf)
   intro f e hf;cases f with|zero=>simp at hf;subst hf;exact⟨i,d⟩|succ f=>exact j.2 f e (by simpa using hf)
def tyB P t(a:Shape):=
 akc P t a.ct&&
 match a.agg,a.ct,P.underlying t with
 |true,_,I (.struct c)=>N0 P a.nt c.toList
 |false,.int k,I (.int d)=>decide (k=d)
 |false,.bool,I .bool=>O
 |false,.str,I .string=>O
 |false,.sl e,I (.slice b)=>akc P b e&&(match a.nt with|[(x,_)]=>x==b|_=>O)
 |_,_,_=>G
theorem ara {p}(h:tyB P t p=O):aoE P t p:=by
 simp only[tyB,af]at h;obtain⟨w,c⟩:=h;obtain⟨s,ct,A⟩:=p;have j:=Wk w;cases s with
 |true=>cases g:P.underlying t with|none=>rw[g]at c;simp at c|some d=>rw[g]at c;cases d<;>simp at c;rename_i u;have q:=QJ c;refine⟨j,λ_=>⟨u,g,λf fo n o=>?_⟩,λ_ v i=>?_,aD,aD,aD,aD,aD⟩;obtain⟨m,l,y⟩:=q.1 f fo n o;exact⟨m,by simpa using l,y⟩;rw[g]at i;simp at i;subst i;exact λf m o=>q.2 f m (by simpa using o)
 |false=>
  cases ct with
  |int k=>cases g:P.underlying t with|none=>rw[g]at c;simp at c|some d=>rw[g]at c;cases d<;>simp at c;subst c;exact⟨j,aD,aD,by rintro k ⟨⟩ _;exact g,aD,aD,aD,aD⟩
  |bool=>cases g:P.underlying t with|none=>rw[g]at c;simp at c|some d=>rw[g]at c;cases d<;>simp at c;exact⟨j,aD,aD,aD,by simp[g],aD,aD,aD⟩
  |str=>cases g:P.underlying t with|none=>rw[g]at c;simp at c|some d=>rw[g]at c;cases d<;>simp at c;exact⟨j,aD,aD,aD,aD,by simp[g],aD,aD⟩
  |sl e=>cases g:P.underlying t with|none=>rw[g]at c;simp at c|some d=>rw[g]at c;cases d<;>simp at c;rename_i z;exact⟨j,aD,aD,aD,aD,aD,by rintro e ⟨⟩ _;exact⟨z,g,Wk c.1,λx n r=>by have l:=c.2;simp only at r;rw[r]at l;simpa using l⟩,aD⟩
  |pair a b=>cases g:P.underlying t with|none=>rw[g]at c;simp at c|some d=>rw[g]at c;simp at c
def mL P l:=∀t a,lV l t=I a->aoE P t a
theorem afc:∀{l:Z (Nat×Shape)},(l.all λx=>tyB P x.1 x.2)=O->mL P l
 |[],_,t,c,h=>by simp[lV]at h
 |(u,s)::r,b,t,c,h=>by simp only[cC,af]at b;simp only[lV]at h;cases a:u==t with|true=>rw[a]at h;simp at a h;subst a;subst h;exact ara b.1|false=>rw[a]at h;exact afc b.2 t c h
end Go.Dn
