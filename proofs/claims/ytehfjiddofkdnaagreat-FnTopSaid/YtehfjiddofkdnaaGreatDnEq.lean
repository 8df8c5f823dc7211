import Derived.Test.YtehfjiddofkdnaaGreatDnMem
/- '==' of structs, cell by cell. -/
open Bool renaming false->G,true->O
open Option renaming none->W,some->I
namespace Go.Dn
variable {P:Program} {c:RC} {t:TypeId} {Y:Z LK}
def US:Value->Value->aS Bool
 | .int k a,.int c b=>if k=c then I (a==b) else W
 | .bool a,.bool b=>I (a==b)
 | .string a,.string b=>I (a.toList==b.toList)
 |_,_=>W
def wF:oz->oz->aS Bool
 |[],[]=>I O
 |v::d,u::c=>(US v u).bind λa=>(wF d c).bind λb=>I (a&&b)
 |_,_=>W
def xr:Z LK->oz->Bool
 |[],[]=>O
 | .int::Y,.int _ _::r=>xr Y r
 | .bool::Y,.bool _::r=>xr Y r
 | .str::Y,.string _::r=>xr Y r
 |_,_=>G
def HZ (P:Program)(F:TypeId->aS (Z LK)):Z Field->Nat->aS (Z LK)
 |[],_=>I []
 |f::a,cur=>
  if f.name≠ "_" /\f.offset=cur then
   match F f.type,P.info? f.type with
   |some Y,I i=>if i.size=Y.length/\0<Y.length then(HZ P F a (cur+Y.length)).bind λr=>I (Y++r) else W
   |_,_=>W
  else W
def mj (P:Program):Nat->TypeId->aS (Z LK)
 |0,_=>W
 |d+1,t=>
  match P.underlying t with
  |some (.int _)=>I [.int]
  |some .bool=>I [.bool]
  |some .string=>I [.str]
  |some (.struct a)=>if P.stoodInHeld t then W else HZ P (mj P d) a.toList 0
  |_=>W
theorem Pm {k l:oz}:∀{a e:oz}{b:Bool},a.length=e.length->wF (a++k) (e++l)=I b->
 ∃g i,wF a e=I g/\wF k l=I i/\b=(g&&i)
 |[],[],b,_,h=>⟨O,b,rfl,h,aD⟩
 |v::p,u::o,b,f,h=>by simp only[jm,wF,br]at h;obtain⟨c,m,d,n,j⟩:=h;obtain⟨g,i,k1,k2,rfl⟩:=Pm (by simpa using f) n;simp at j;subst j;exact⟨c&&g,i,by simp[wF,m,k1],k2,by simp[Bool.and_assoc]⟩
 |[],_::_,_,f,_=>by simp at f
 |_::_,[],_,f,_=>by simp at f
theorem FM:∀{a e:oz}{b:Bool},wF a e=I b->a.length=e.length
 |[],[],_,_=>rfl
 |v::i,u::g,b,h=>by simp only[wF,br]at h;obtain⟨c,_,d,f,_⟩:=h;simp[FM f]
 |[],_::_,_,h=>by simp[wF]at h
 |_::_,[],_,h=>by simp[wF]at h
theorem HA:∀{Y:Z LK}{a:oz},xr Y a=O->a.length=Y.length
 |[],[],_=>rfl
 |l::Y,x::a,h=>by cases l<;>cases x<;>simp[xr]at h<;>simp[HA h]
 |[],_::_,h=>by simp[xr]at h
 |l::Y,[],h=>by cases l<;>simp[xr]at h
theorem Sj:∀{Y a:Z LK}{b:oz},xr (Y++a) b=O->xr Y (b.take Y.length)=O/\xr a (b.drop Y.length)=O
 |[],_,_,h=>by simpa[xr]using h
 |l::Y,a,[],h=>by cases l<;>simp[xr]at h
 |l::Y,a,x::b,h=>by cases l<;>cases x<;>simp[xr]at h;all_goals have:=Sj h;simpa[xr]using this
def Ik (P:Program)(t:TypeId)(a:oz):Value:=
 match P.underlying t with
 |some (.struct _)=> .agg a.toArray
 |_=>a.getD 0 undef
theorem aaO {d}(h:mj P d t=I Y){i}(n:P.info? t=I i)(p:i.size=Y.length)(b:oz)a(o:a+Y.length<=b.length)w: (part t b.toArray a).run P w=.ok (Ik P t ((b.drop a).take Y.length)) w:=by
 have leaf:Y.length=1->(∀e,P.underlying t≠I (.struct e))->(isAgg t).run P w=.ok G w->(part t b.toArray a).run P w=.ok (Ik P t ((b.drop a).take Y.length)) w:=by
  intro k c f;rw[k]at o⊢;have j:a<b.length:=J;have m:b.toArray[a]?=I b[a]:=by simp[ah j]
  have l:Ik P t ((b.drop a).take 1)=b[a]:=by
   have:(b.drop a).take 1=[b[a]]:=by rw[bZ j,List.take_succ_cons,List.take_zero]
   rw[this];unfold Ik;split;rename_i e g;exact absurd g (c e);rfl
  simp only[part,Sem.run_bind,f,Result.andThen_ok,bD,cY];rw[l,m];rfl
 cases d with
 |zero=>simp[mj]at h
 |succ d=>
  simp only[mj]at h;cases c:P.underlying t with
  |none=>rw[c]at h;simp at h
  |some x=>
   rw[c]at h;cases x<;>simp at h;exact leaf (by rw[<-h];rfl) (by simp[c]) (by simp[isAgg,underlying,c]);exact leaf (by rw[<-h];rfl) (by simp[c]) (by simp[isAgg,underlying,c]);exact leaf (by rw[<-h];rfl) (by simp[c]) (by simp[isAgg,underlying,c]);rename_i e;have f:(isAgg t).run P w=.ok O w:=by simp[isAgg,underlying,c]
   simp only[part,Sem.run_bind,f,Result.andThen_ok,dm,sizeOf,typeInfo,run_program,n,Sem.run_pure,p,Ik,c];congr 2;simp[List.extract_eq_take_drop]
theorem Wn:∀{d:Nat}{t:TypeId}{Y:Z LK},mj P d t=I Y->∀(D:Nat),d<=D->∀(e o:oz)(b:Bool)(w:World),xr Y e=O->wF e o=I b->
 (Op.equalIn D t (Ik P t e) (Ik P t o)).run P w=.ok b w
 |0,t,Y,h,_,_,_,_,_,_,_,_=>by simp[mj]at h
 |d+1,t,Y,h,0,hD,_,_,_,_,_,_=>J
 |d+1,t,Y,h,D+1,hD,e,o,b,w,M,L=>by
  have R:=FM L;have Q:=HA M;simp only[mj]at h
  have leaf:∀(x:TypeDesc)(l:LK),P.underlying t=I x->Y=[l]->(∀s,x≠ .struct s)->
   (∀u v c,xr [l] [u]=O->US u v=I c->(Op.equalIn (D+1) t u v).run P w=.ok c w)->(Op.equalIn (D+1) t (Ik P t e) (Ik P t o)).run P w=.ok b w:=by
   intro x l g N S MX
   subst N
   obtain⟨u,rfl⟩:=List.length_eq_one_iff.1 (by simpa using Q)
   obtain⟨v,rfl⟩:=List.length_eq_one_iff.1 (by simpa using R.symm)
   have hm:∀z,Ik P t [z]=z:=by intro z;unfold Ik;rw[g];split;rename_i s F;simp at F;exact absurd F (S s);rfl
   rw[hm,hm]
   refine MX u v b M ?_
   simp only[wF,br]at L
   obtain⟨c,q,d,y,A⟩:=L
   simp at y A;subst y
   simp at A;subst A
   exact q
  cases g:P.underlying t with
  |none=>rw[g]at h;simp at h
  |some x=>
   rw[g]at h;cases x with
   |int k=>simp at h;refine leaf _ .int g h.symm aD (λu v c p a=>?_);cases u<;>simp[xr]at p;cases v<;>simp[US]at a;obtain⟨rfl,rfl⟩:=a;exact run_equalIn_int w D t _ k _ _ g
   |bool=>simp at h;refine leaf _ .bool g h.symm aD (λu v c p a=>?_);cases u<;>simp[xr]at p;cases v<;>simp[US]at a;subst a;exact run_equalIn_bool' w D t _ _ g
   |string=>simp at h;refine leaf _ .str g h.symm aD (λu v c p a=>?_);cases u<;>simp[xr]at p;cases v<;>simp[US]at a;subst a;exact run_equalIn_string w D t _ _ g
   |struct s=>
    simp only at h;by_cases m:P.stoodInHeld t=O;rw[aI m]at h;cases h;rw[aK m]at h;have m:P.stoodInHeld t=false:=by simpa using m
    have E:P.fieldsOf t=s:=by simp[Program.fieldsOf,g]
    have H:∀zs,Ik P t zs=.agg zs.toArray:=λzs=>by simp[Ik,g]
    rw[H,H,run_equalIn_struct w D t _ _ (by rw[E];exact g) m,E]
    have main:∀(B:Z Field)(cur:Nat)(Y:Z LK),HZ P (mj P d) B cur=I Y->∀(b:Bool),cur<=e.length->xr Y (e.drop cur)=O->wF (e.drop cur) (o.drop cur)=I b->
     (Op.eqFields D e.toArray o.toArray B).run P w=.ok b w:=by
     intro B
     induction B with
     |nil=>
      intro cur Y j b C p a
      simp[HZ]at j
      subst j
      have q:=HA p
      have y:=FM a
      have e1:e.drop cur=[]:=cB (by simpa using q)
      have e2:o.drop cur=[]:=cB (by rw[<-y,e1];rfl)
      rw[e1,e2]at a
      simp[wF]at a
      subst a
      simp[Op.eqFields]
     |cons f B ih=>
      intro cur Y j b C p a
      simp only[HZ]at j
      split at j
      ·rename_i hc
       split at j
       ·rename_i n i q hi
        split at j
        ·rename_i K
         simp only[br]at j
         obtain⟨V,y,A⟩:=j
         simp at A;subst A
         have r:=Sj p
         have U:=HA p
         simp only[bA,aq]at U
         have T:=FM a
         simp only[bA]at T
         have ex:e.drop cur=(e.drop cur).take n.length++(e.drop cur).drop n.length:=(cH _ _).symm
         have ey:o.drop cur=(o.drop cur).take n.length++(o.drop cur).drop n.length:=(cH _ _).symm
         rw[ex,ey]at a
         obtain⟨X,b2,q1,q2,rfl⟩:=Pm (by simp;omega) a
         rw[fM]at q2 r
         have p1:=aaO q hi K.1 e cur J w
         have p2:=aaO q hi K.1 o cur J w
         have r1:=Wn q D J _ _ X w r.1 q1
         rw[fM]at q2
         have r2:=ih (cur+n.length) V y b2 J r.2 q2
         simp only[Op.eqFields,hc.1,ne_eq,not_false_eq_true,dm,hc.2,Sem.run_bind,p1,p2,Result.andThen_ok,r1]
         cases X
         ·simp
         ·simpa using r2
        ·cases j
       ·cases j
      ·cases j
    exact main s.toList 0 Y h b (cg _) (by simpa using M) (by simpa using L)
   |_=>simp at h
theorem toList_mk s:(ByteArray.mk s.toArray).toList=s:=by rw[ByteArray.toList_eq]
theorem VZ {o p b}(h:(o.bind λd=>I (p&&d))=I b):∃d,o=I d/\(p&&d)=b:=by cases o with|none=>simp at h|some d=>exact⟨d,rfl,by simpa using h⟩
theorem GO:∀{l n:Z AC}{s r:oz}{f1 f2:gw}{b:Bool},cv c s l f1->cv c r n f2->Cy l n=I b->wF s r=I b
 |[],[],[],[],_,_,_,_,_,h=>h
 |x::l,y::n,v::s,u::r,_,_,b,i,j,h=>by obtain⟨C,D,rfl,t,w⟩:=i;obtain⟨E,F,rfl,z,A⟩:=j;unfold Cy at h;split at h;rename_i a e;cases a;rename_i k p m H q o a e;cases a;cases e;split at h;rename_i B;subst B;obtain⟨d,g,f⟩:=VZ h;rw[t.1,z.1];simp only[wF,US,dm,gi,GO w A g,f];cases h;rename_i p m q o a e;cases a;cases e;obtain⟨d,g,f⟩:=VZ h;rw[t.1,z.1];simp only[wF,US,gi,GO w A g,f];rename_i p m q o a e;cases a;cases e;obtain⟨d,g,f⟩:=VZ h;rw[t.1,z.1];simp only[wF,US,gi,GO w A g,f,toList_mk];cases h
 |[],[],v::s,_,_,_,_,i,_,_=>i.elim
 |[],[],[],u::r,_,_,_,_,j,_=>j.elim
 |x::l,_,[],_,_,_,_,i,_,_=>i.elim
 |_,y::n,_,[],_,_,_,_,j,_=>j.elim
 |[],y::n,_,_,_,_,_,_,_,h=>by simp[Cy]at h
 |x::l,[],_,_,_,_,_,_,_,h=>by cases x<;>simp[Cy]at h
theorem N1:∀{Y:Z LK}{b:Z AC}{d:oz}{f1:gw},cv c d b f1->fits Y b=O->xr Y d=O
 |[],[],[],_,_,_=>rfl
 |l::Y,x::b,v::d,_,a,h=>by obtain⟨g,i,rfl,e,f⟩:=a;cases l<;>cases x<;>simp[fits]at h;rw[e.1];simpa[xr]using N1 f h;rw[e.1];simpa[xr]using N1 f h;rw[e.1];simpa[xr]using N1 f h
 |[],[],v::d,_,a,_=>a.elim
 |_,x::b,[],_,a,_=>a.elim
 |[],x::b,_,_,_,h=>by simp[fits]at h
 |l::Y,[],_,_,_,h=>by cases l<;>simp[fits]at h
def adx P l:=∀t Y,aaB l t=I Y->
 mj P 50 t=I Y/\(∃a,P.underlying t=I (.struct a))/\P.eqGuardType P.depth t=G
def eqB P t Y:=
 decide (mj P 50 t=I Y)&&(match P.underlying t with|some (.struct _)=>O|_=>G)&& !(P.eqGuardType P.depth t)
theorem aff:∀{l:Z (Nat×Z LK)},(l.all λx=>eqB P x.1 x.2)=O->adx P l
 |[],_,t,Y,h=>by simp[aaB]at h
 |(u,s)::r,d,t,Y,h=>by simp only[cC,af]at d;simp only[aaB]at h;cases b:u==t with|true=>rw[b]at h;simp at b h;subst b;subst h;have a:=d.1;simp only[eqB,af,bO,aW]at a;refine⟨a.1.1,?_,a.2⟩;have e:=a.1.2;split at e;rename_i f c;exact⟨f,c⟩;cases e|false=>rw[b]at h;exact aff d.2 t Y h
theorem ats {l}(m:adx P l)(n:aaB l t=I Y){e h d a f1 f2 b}(g:cv c d e f1)(p:cv c a h f2)(k:fits Y e=O)(j:Cy e h=I b)w: (Op.equal t (.agg d.toArray) (.agg a.toArray)).run P w=.ok b w:=by
 obtain⟨i,⟨q,o⟩,_⟩:=m t Y n;have:=Wn i Op.maxDepth eR d a b w (N1 g k) (GO g p j);have f:∀zs,Ik P t zs=.agg zs.toArray:=λzs=>by simp[Ik,o]
 rw[f,f]at this;exact this
end Go.Dn
