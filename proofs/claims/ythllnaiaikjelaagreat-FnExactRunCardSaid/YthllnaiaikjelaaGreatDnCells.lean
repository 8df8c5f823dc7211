import Derived.Test.YthllnaiaikjelaaGreatDnBox
/- Cells and typed elements; the types' table. -/
namespace Go.Dn
open Go.RowKit
variable {P:Program} {c:RC} {t:TypeId}
theorem wE:∀{e:CT}{vs:iW}{x:e.D}{fp:ei},eU c.hw c.w e vs x fp->bE c vs (cellsOf e (.own none) x) fp
 | .int k,_,_,_,h=>by obtain⟨rfl,rfl⟩:=h;exact⟨[],[],rfl,⟨rfl,rfl⟩,rfl⟩
 | .bool,_,_,_,h=>by obtain⟨rfl,rfl⟩:=h;exact⟨[],[],rfl,⟨rfl,rfl⟩,rfl⟩
 | .str,_,_,_,h=>by obtain⟨rfl,rfl⟩:=h;exact⟨[],[],rfl,⟨rfl,rfl⟩,rfl⟩
 | .sl e,_,_,fp,h=>by obtain⟨v,rfl,_⟩:=id h;exact⟨fp,[],by simp,⟨h,by simp⟩,rfl⟩
 | .pair a b,_,_,_,h=>by obtain⟨v1,v2,f1,f2,rfl,rfl,h1,h2⟩:=h;exact(wE h1).append (wE h2)
theorem Nu:∀{e:CT}{vs:iW}{x:e.D},km c.w c.S e vs x->bE c vs (cellsOf e (.loc c.ep none) x) []
 | .int k,_,_,h=>by cases h;exact⟨[],[],rfl,⟨rfl,rfl⟩,rfl⟩
 | .bool,_,_,h=>by cases h;exact⟨[],[],rfl,⟨rfl,rfl⟩,rfl⟩
 | .str,_,_,h=>by cases h;exact⟨[],[],rfl,⟨rfl,rfl⟩,rfl⟩
 | .sl e,_,_,h=>by obtain⟨v,rfl,k⟩:=id h;refine⟨[],[],by simp,⟨rfl,ba _,?_,λ_=>h,by simp⟩,rfl⟩;rcases k with⟨⟨ad,rfl⟩,rfl⟩|⟨b,o,cap,rfl,_⟩;exact⟨_,_,_,rfl,rfl⟩;exact⟨_,_,_,rfl,rfl⟩
 | .pair a b,_,_,h=>by obtain⟨v1,v2,rfl,h1,h2⟩:=h;exact(Nu h1).append (Nu h2)
theorem M9 {k:Bool}:∀{e:CT}{vs:iW}{x:e.D},km c.w (c.A k) e vs x->bE c vs (cellsOf e (.arg k) x) []
 | .int k,_,_,h=>by cases h;exact⟨[],[],rfl,⟨rfl,rfl⟩,rfl⟩
 | .bool,_,_,h=>by cases h;exact⟨[],[],rfl,⟨rfl,rfl⟩,rfl⟩
 | .str,_,_,h=>by cases h;exact⟨[],[],rfl,⟨rfl,rfl⟩,rfl⟩
 | .sl e,_,_,h=>by obtain⟨v,rfl,k⟩:=id h;exact⟨[],[],by simp,⟨rfl,h⟩,rfl⟩
 | .pair a b,_,_,h=>by obtain⟨v1,v2,rfl,h1,h2⟩:=h;exact(M9 h1).append (M9 h2)
theorem mF:∀(e:CT)(fl:ux)(x:e.D),(cellsOf e fl x).length=e.size
 | .int _,_,_=>rfl
 | .bool,_,_=>rfl
 | .str,_,_=>rfl
 | .sl _,_,_=>rfl
 | .pair a b,fl,x=>by simp[cellsOf,CT.size,mF a,mF b]
theorem rh:∀{e:CT}{vs:iW}{cs rest:ar AC}{x:e.D}{fp:ei},bE c vs cs fp->jP e cs=some (x,rest)-> ∃f1 f2,fp=f1++f2/\eU c.hw c.w e (vs.take e.size) x f1/\bE c (vs.drop e.size) rest f2:=by
 intro e;induction e with
 |int k=>intro vs cs rest x fp hr ho;cases cs with|nil=>simp[jP]at ho|cons y ys=>cases vs with|nil=>exact hr.elim|cons v vs=>obtain⟨f1,f2,rfl,h1,h2⟩:=hr;cases y<;>simp[jP]at ho;obtain⟨rfl,rfl,rfl⟩:=ho;obtain⟨rfl,rfl⟩:=h1;exact⟨[],f2,rfl,by simp[eU,CT.size],by simpa[CT.size]using h2⟩
 |bool=>intro vs cs rest x fp hr ho;cases cs with|nil=>simp[jP]at ho|cons y ys=>cases vs with|nil=>exact hr.elim|cons v vs=>obtain⟨f1,f2,rfl,h1,h2⟩:=hr;cases y<;>simp[jP]at ho;obtain⟨rfl,rfl⟩:=ho;obtain⟨rfl,rfl⟩:=h1;exact⟨[],f2,rfl,by simp[eU,CT.size],by simpa[CT.size]using h2⟩
 |str=>intro vs cs rest x fp hr ho;cases cs with|nil=>simp[jP]at ho|cons y ys=>cases vs with|nil=>exact hr.elim|cons v vs=>obtain⟨f1,f2,rfl,h1,h2⟩:=hr;cases y<;>simp[jP]at ho;obtain⟨rfl,rfl⟩:=ho;obtain⟨rfl,rfl⟩:=h1;exact⟨[],f2,rfl,by simp[eU,CT.size],by simpa[CT.size]using h2⟩
 |sl e ih=>
  intro vs cs rest x fp hr ho;cases cs with
  |nil=>simp[jP]at ho
  |cons y ys=>
   cases vs with
   |nil=>exact hr.elim
   |cons v vs=>
    obtain⟨f1,f2,rfl,h1,h2⟩:=hr;cases y with
    |sl fl e' xs=>cases fl<;>simp[jP]at ho;obtain⟨⟨rfl,rfl⟩,rfl⟩:=ho;exact⟨f1,f2,rfl,by simpa[CT.size]using h1.1,by simpa[CT.size]using h2⟩
    |kS=>simp[jP]at ho;obtain⟨rfl,rfl⟩:=ho;obtain⟨rfl,rfl⟩:=h1;exact⟨[],f2,rfl,⟨.slice none 0 0,by simp[CT.size],.inl ⟨⟨none,rfl⟩,rfl,rfl⟩⟩,by simpa[CT.size]using h2⟩
    |_=>simp[jP]at ho
 |pair a b iha ihb=>intro vs cs rest x fp hr ho;simp only[jP,aY]at ho;obtain⟨⟨x1,r1⟩,h1,⟨x2,r2⟩,h2,h3⟩:=ho;simp at h3;obtain⟨rfl,rfl⟩:=h3;obtain⟨f1,f2,rfl,k1,k2⟩:=iha hr h1;obtain⟨f3,f4,rfl,k3,k4⟩:=ihb k2 h2;refine⟨f1++f3,f4,by simp,⟨vs.take a.size,(vs.drop a.size).take b.size,f1,f3,?_,rfl,k1,k3⟩,?_⟩;simp only[CT.size];rw[List.take_add];simp only[CT.size];rw[<-eO];exact k4
def EG:CT->iW
 | .int k=>[.int k 0]
 | .bool=>[.bool false]
 | .str=>[.string .empty]
 | .sl _=>[.slice none 0 0]
 | .pair a b=>EG a++EG b
theorem sO:∀e:CT,(EG e).length=e.size
 | .int _=>rfl
 | .bool=>rfl
 | .str=>rfl
 | .sl _=>rfl
 | .pair a b=>by simp[EG,CT.size,sO a,sO b]
theorem M6 (hw:Nat->Nat)(w:World):∀e:CT,eU hw w e (EG e) e.zero []
 | .int _=>⟨rfl,rfl⟩
 | .bool=>⟨rfl,rfl⟩
 | .str=>⟨rfl,rfl⟩
 | .sl _=>⟨_,rfl,.inl ⟨⟨_,rfl⟩,rfl,rfl⟩⟩
 | .pair a b=>⟨_,_,[],[],rfl,rfl,M6 hw w a,M6 hw w b⟩
def je:CT->iW->au iW
 | .int k,.int k' n::r=>if k=k'/\n=0 then some r else none
 | .bool,.bool b::r=>if b=false then some r else none
 | .str,.string s::r=>if s.data.toList=[] then some r else none
 | .sl _,.slice none 0 0::r=>some r
 | .pair a b,vs=>(je a vs).bind (je b)
 |_,_=>none
theorem acZ:∀{e:CT}{vs r:iW},je e vs=some r->vs=EG e++r:=by
 intro e;induction e with
 |int k=>intro vs r h;cases vs with|nil=>simp[je]at h|cons v vs=>cases v<;>simp[je]at h;obtain⟨⟨rfl,rfl⟩,rfl⟩:=h;rfl
 |bool=>intro vs r h;cases vs with|nil=>simp[je]at h|cons v vs=>cases v<;>simp[je]at h;obtain⟨rfl,rfl⟩:=h;rfl
 |str=>
  intro vs r h;cases vs with
  |nil=>simp[je]at h
  |cons v vs=>
   cases v<;>simp[je]at h;rename_i s;obtain⟨h1,rfl⟩:=h;have:s=.empty:=by cases s;simp at h1;subst h1;rfl
   subst this;rfl
 |sl e _=>
  intro vs r h;cases vs with
  |nil=>simp[je]at h
  |cons v vs=>
   cases v with
   |slice a l k=>
    cases a with
    |none=>
     cases l with
     |zero=>cases k with|zero=>simp[je]at h;subst h;rfl|succ k=>simp[je]at h
     |succ l=>simp[je]at h
    |some a=>simp[je]at h
   |_=>simp[je]at h
 |pair a b iha ihb=>intro vs r h;simp only[je,aY]at h;obtain⟨r1,h1,h2⟩:=h;rw[iha h1,ihb h2];simp[EG]
structure Uw (P:Program) (t:TypeId) (e:CT):Prop where
 info:∃i z,P.info? t=some i/\i.size=e.size/\i.bytes<=65536/\i.zero=some z/\z.cells.toList=EG e
 small:e.size<=4096
structure alf (P:Program) (t:TypeId) (sh:Shape):Prop where
 elem:Uw P t sh.ct
 agg:sh.agg=true->∃fs,P.underlying t=some (.struct fs)/\∀(f fo n:Nat),sh.lG[f]?=some (fo,n)->∃fd:Field,fs[f]?=some fd/\fd.offset=fo/\0<n/\∃i,P.info? fd.type=some i/\i.size=n
 count:sh.agg=true->∀fs,P.underlying t=some (.struct fs)->(∀(f:Nat)(fd:Field),fs[f]?=some fd->∃i,P.info? fd.type=some i)
 int:∀k,sh.ct=.int k->sh.agg=false->P.underlying t=some (.int k)
 bool:sh.ct=.bool->sh.agg=false->P.underlying t=some .bool
 str:sh.ct=.str->sh.agg=false->P.underlying t=some .string
 sl:∀e,sh.ct=.sl e->sh.agg=false->∃te,P.underlying t=some (.slice te)/\Uw P te e/\∀x n,sh.lG=[(x,n)]->x=te
 pair:∀a b,sh.ct=.pair a b->sh.agg=true
def ahC (P:Program)(t:TypeId)(e:CT):Bool:=
 match P.info? t with
 |some i=>i.size==e.size&&decide (i.bytes<=65536)&&decide (e.size<=4096)&&(match i.zero with|some z=>(match je e z.cells.toList with|some []=>true|_=>false)|none=>false)
 |none=>false
theorem UX {e:CT}(h:ahC P t e=true):Uw P t e:=by unfold ahC at h;cases hi:P.info? t with|none=>rw[hi]at h;cases h|some i=>rw[hi]at h;simp only[ah,bn,bK]at h;obtain⟨⟨⟨h1,h2⟩,hsm⟩,h3⟩:=h;cases hz:i.zero with|none=>rw[hz]at h3;cases h3|some z=>rw[hz]at h3;simp only at h3;split at h3;rename_i hr;exact⟨⟨i,z,hi,h1,h2,hz,by simpa using acZ hr⟩,hsm⟩;cases h3
def Nf (P:Program):ar (Nat×Nat)->ar Field->Bool
 |[],[]=>true
 |(fo,n)::r,f::fs=>f.offset==fo&&decide (0<n)&&(match P.info? f.type with|some i=>i.size==n|none=>false)&&Nf P r fs
 |_,_=>false
theorem PV:∀{lG:ar (Nat×Nat)}{fs:ar Field},Nf P lG fs=true->
 (∀(f fo n:Nat),lG[f]?=some (fo,n)->∃fd:Field,fs[f]?=some fd/\fd.offset=fo/\0<n/\∃i,P.info? fd.type=some i/\i.size=n)/\∀(f:Nat)(fd:Field),fs[f]?=some fd->∃i,P.info? fd.type=some i
 |[],[],_=>by simp
 |[],_::_,h=>by simp[Nf]at h
 |_::_,[],h=>by simp[Nf]at h
 |(fo,n)::r,fd::fs,h=>by
  simp only[Nf,ah,bn,bK]at h;obtain⟨⟨⟨h1,h2⟩,h3⟩,h4⟩:=h;have ih:=PV h4;cases hi:P.info? fd.type with
  |none=>rw[hi]at h3;cases h3
  |some i=>
   rw[hi]at h3;simp only[bn]at h3;constructor;intro f fo' n' hf;cases f with
   |zero=>simp at hf;obtain⟨rfl,rfl⟩:=hf;exact⟨fd,rfl,h1,h2,i,hi,h3⟩
   |succ f=>simpa using ih.1 f fo' n' (by simpa using hf)
   intro f fd' hf;cases f with|zero=>simp at hf;subst hf;exact⟨i,hi⟩|succ f=>exact ih.2 f fd' (by simpa using hf)
def tyB (P:Program)(t:TypeId)(sh:Shape):Bool:=
 ahC P t sh.ct&&
 match sh.agg,sh.ct,P.underlying t with
 |true,_,some (.struct fs)=>Nf P sh.lG fs.toList
 |false,.int k,some (.int k')=>decide (k=k')
 |false,.bool,some .bool=>true
 |false,.str,some .string=>true
 |false,.sl e,some (.slice te)=>ahC P te e&&(match sh.lG with|[(x,_)]=>x==te|_=>true)
 |_,_,_=>false
theorem aob {sh:Shape}(h:tyB P t sh=true):alf P t sh:=by
 simp only[tyB,ah]at h;obtain⟨h1,h2⟩:=h;obtain⟨ag,ct,lG⟩:=sh;have e1:=UX h1;cases ag with
 |true=>cases hu:P.underlying t with|none=>rw[hu]at h2;simp at h2|some d=>rw[hu]at h2;cases d<;>simp at h2;rename_i fs;have hf:=PV h2;refine⟨e1,λ_=>⟨fs,hu,λf fo n hh=>?_⟩,λ_ fs' NU=>?_,by simp,by simp,by simp,by simp,by simp⟩;obtain⟨fd,h3,h4⟩:=hf.1 f fo n hh;exact⟨fd,by simpa using h3,h4⟩;rw[hu]at NU;simp at NU;subst NU;exact λf fd hh=>hf.2 f fd (by simpa using hh)
 |false=>
  cases ct with
  |int k=>cases hu:P.underlying t with|none=>rw[hu]at h2;simp at h2|some d=>rw[hu]at h2;cases d<;>simp at h2;subst h2;exact⟨e1,by simp,by simp,by rintro k ⟨⟩ _;exact hu,by simp,by simp,by simp,by simp⟩
  |bool=>cases hu:P.underlying t with|none=>rw[hu]at h2;simp at h2|some d=>rw[hu]at h2;cases d<;>simp at h2;exact⟨e1,by simp,by simp,by simp,by simp[hu],by simp,by simp,by simp⟩
  |str=>cases hu:P.underlying t with|none=>rw[hu]at h2;simp at h2|some d=>rw[hu]at h2;cases d<;>simp at h2;exact⟨e1,by simp,by simp,by simp,by simp,by simp[hu],by simp,by simp⟩
  |sl e=>cases hu:P.underlying t with|none=>rw[hu]at h2;simp at h2|some d=>rw[hu]at h2;cases d<;>simp at h2;rename_i te;exact⟨e1,by simp,by simp,by simp,by simp,by simp,by rintro e ⟨⟩ _;exact⟨te,hu,UX h2.1,λx n ho=>by have h3:=h2.2;simp only at ho;rw[ho]at h3;simpa using h3⟩,by simp⟩
  |pair a b=>cases hu:P.underlying t with|none=>rw[hu]at h2;simp at h2|some d=>rw[hu]at h2;simp at h2
def kG (P:Program)(l:ar (Nat×Shape)):Prop:=∀t sh,jU l t=some sh->alf P t sh
theorem ac1:∀{l:ar (Nat×Shape)},(l.all λx=>tyB P x.1 x.2)=true->kG P l
 |[],_,t,sh,h=>by simp[jU]at h
 |(u,s)::r,hl,t,sh,h=>by simp only[bV,ah]at hl;simp only[jU]at h;cases hu:u==t with|true=>rw[hu]at h;simp at hu h;subst hu;subst h;exact aob hl.1|false=>rw[hu]at h;exact ac1 hl.2 t sh h
end Go.Dn
