import Derived.Test.YtainmjjkipbciaaGreatDnMem
/- '==' of structs, cell by cell. -/
namespace Go.Dn
variable {P:Program} {t:TypeId} {ls:ax LK}
def Hr:Value->Value->aB Bool
 | .int k a,.int k' b=>if k=k' then some (a==b) else none
 | .bool a,.bool b=>some (a==b)
 | .string a,.string b=>some (a.toList==b.toList)
 |_,_=>none
def oX:iS->iS->aB Bool
 |[],[]=>some true
 |v::vs,u::us=>(Hr v u).bind λa=>(oX vs us).bind λb=>some (a&&b)
 |_,_=>none
def pG:ax LK->iS->Bool
 |[],[]=>true
 | .int::ls,.int _ _::r=>pG ls r
 | .bool::ls,.bool _::r=>pG ls r
 | .str::ls,.string _::r=>pG ls r
 |_,_=>false
def xR (P:Program)(F:TypeId->aB (ax LK)):ax Field->Nat->aB (ax LK)
 |[],_=>some []
 |f::fs,cur=>
  if f.name≠ "_" /\f.offset=cur then
   match F f.type,P.info? f.type with
   |some ls,some i=>if i.size=ls.length/\0<ls.length then(xR P F fs (cur+ls.length)).bind λr=>some (ls++r) else none
   |_,_=>none
  else none
def jx (P:Program):Nat->TypeId->aB (ax LK)
 |0,_=>none
 |d+1,t=>
  match P.underlying t with
  |some (.int _)=>some [.int]
  |some .bool=>some [.bool]
  |some .string=>some [.str]
  |some (.struct fs)=>if P.stoodInHeld t then none else xR P (jx P d) fs.toList 0
  |_=>none
theorem Dp {xs ys:iS}:∀{xs' ys':iS}{b:Bool},xs'.length=ys'.length->oX (xs'++xs) (ys'++ys)=some b->
 ∃b1 b2,oX xs' ys'=some b1/\oX xs ys=some b2/\b=(b1&&b2)
 |[],[],b,_,h=>⟨true,b,rfl,h,by simp⟩
 |v::vs,u::us,b,hl,h=>by simp only[List.cons_append,oX,aP]at h;obtain⟨c,h1,d,h2,h3⟩:=h;obtain⟨b1,b2,k1,k2,rfl⟩:=Dp (by simpa using hl) h2;simp at h3;subst h3;exact⟨c&&b1,b2,by simp[oX,h1,k1],k2,by simp[Bool.and_assoc]⟩
 |[],_::_,_,hl,_=>by simp at hl
 |_::_,[],_,hl,_=>by simp at hl
theorem vN:∀{xs ys:iS}{b:Bool},oX xs ys=some b->xs.length=ys.length
 |[],[],_,_=>rfl
 |v::vs,u::us,b,h=>by simp only[oX,aP]at h;obtain⟨c,_,d,h2,_⟩:=h;simp[vN h2]
 |[],_::_,_,h=>by simp[oX]at h
 |_::_,[],_,h=>by simp[oX]at h
theorem xB:∀{ls:ax LK}{xs:iS},pG ls xs=true->xs.length=ls.length
 |[],[],_=>rfl
 |l::ls,x::xs,h=>by cases l<;>cases x<;>simp[pG]at h<;>simp[xB h]
 |[],_::_,h=>by simp[pG]at h
 |l::ls,[],h=>by cases l<;>simp[pG]at h
theorem Fk:∀{ls ls':ax LK}{xs:iS},pG (ls++ls') xs=true->pG ls (xs.take ls.length)=true/\pG ls' (xs.drop ls.length)=true
 |[],_,_,h=>by simpa[pG]using h
 |l::ls,ls',[],h=>by cases l<;>simp[pG]at h
 |l::ls,ls',x::xs,h=>by cases l<;>cases x<;>simp[pG]at h;all_goals have:=Fk h;simpa[pG]using this
def ye (P:Program)(t:TypeId)(vs:iS):Value:=
 match P.underlying t with
 |some (.struct _)=> .agg vs.toArray
 |_=>vs.getD 0 undef
theorem Mo {d:Nat}(h:jx P d t=some ls){i:TypeInfo}(hi:P.info? t=some i)(hs:i.size=ls.length)(cs:iS)(off:Nat)(hl:off+ls.length<=cs.length)(w:World): (part t cs.toArray off).run P w=.ok (ye P t ((cs.drop off).take ls.length)) w:=by
 have leaf:ls.length=1->(∀fs,P.underlying t≠some (.struct fs))->(isAgg t).run P w=.ok false w->(part t cs.toArray off).run P w=.ok (ye P t ((cs.drop off).take ls.length)) w:=by
  intro h1 hu ha;rw[h1]at hl⊢;have hlt:off<cs.length:=by omega
  have hg:cs.toArray[off]?=some cs[off]:=by simp[al hlt]
  have he:ye P t ((cs.drop off).take 1)=cs[off]:=by
   have:(cs.drop off).take 1=[cs[off]]:=by rw[cg hlt,List.take_succ_cons,List.take_zero]
   rw[this];unfold ye;split;rename_i fs hfs;exact absurd hfs (hu fs);rfl
  simp only[part,Sem.run_bind,ha,Result.andThen_ok,ba,cl];rw[he,hg];rfl
 cases d with
 |zero=>simp[jx]at h
 |succ d=>
  simp only[jx]at h;cases hu:P.underlying t with
  |none=>rw[hu]at h;simp at h
  |some x=>
   rw[hu]at h;cases x<;>simp at h;exact leaf (by rw[<-h];rfl) (by simp[hu]) (by simp[isAgg,underlying,hu]);exact leaf (by rw[<-h];rfl) (by simp[hu]) (by simp[isAgg,underlying,hu]);exact leaf (by rw[<-h];rfl) (by simp[hu]) (by simp[isAgg,underlying,hu]);rename_i fs;have ha:(isAgg t).run P w=.ok true w:=by simp[isAgg,underlying,hu]
   simp only[part,Sem.run_bind,ha,Result.andThen_ok,bU,sizeOf,typeInfo,run_program,hi,Sem.run_pure,hs,ye,hu];congr 2;simp[List.extract_eq_take_drop]
theorem IX {P:Program}:∀{d:Nat}{t:TypeId}{ls:ax LK},jx P d t=some ls->∀(D:Nat),d<=D->∀(xs ys:iS)(b:Bool)(w:World),pG ls xs=true->oX xs ys=some b->
 (Op.equalIn D t (ye P t xs) (ye P t ys)).run P w=.ok b w
 |0,t,ls,h,_,_,_,_,_,_,_,_=>by simp[jx]at h
 |d+1,t,ls,h,0,hD,_,_,_,_,_,_=>by omega
 |d+1,t,ls,h,D+1,hD,xs,ys,b,w,hf,he=>by
  have hly:=vN he;have hlx:=xB hf;simp only[jx]at h
  have leaf:∀(x:TypeDesc)(l:LK),P.underlying t=some x->ls=[l]->(∀fs,x≠ .struct fs)->
   (∀u v c,pG [l] [u]=true->Hr u v=some c->(Op.equalIn (D+1) t u v).run P w=.ok c w)->(Op.equalIn (D+1) t (ye P t xs) (ye P t ys)).run P w=.ok b w:=by
   intro x l hu hls hns hrun
   subst hls
   obtain⟨u,rfl⟩:=List.length_eq_one_iff.1 (by simpa using hlx)
   obtain⟨v,rfl⟩:=List.length_eq_one_iff.1 (by simpa using hly.symm)
   have hm:∀z,ye P t [z]=z:=by intro z;unfold ye;rw[hu];split;rename_i fs hfs;simp at hfs;exact absurd hfs (hns fs);rfl
   rw[hm,hm]
   refine hrun u v b hf ?_
   simp only[oX,aP]at he
   obtain⟨c,h1,d,h2,h3⟩:=he
   simp at h2 h3;subst h2
   simp at h3;subst h3
   exact h1
  cases hu:P.underlying t with
  |none=>rw[hu]at h;simp at h
  |some x=>
   rw[hu]at h;cases x with
   |int k=>simp at h;refine leaf _ .int hu h.symm (by simp) (λu v c hv hq=>?_);cases u<;>simp[pG]at hv;cases v<;>simp[Hr]at hq;obtain⟨rfl,rfl⟩:=hq;exact run_equalIn_int w D t _ k _ _ hu
   |bool=>simp at h;refine leaf _ .bool hu h.symm (by simp) (λu v c hv hq=>?_);cases u<;>simp[pG]at hv;cases v<;>simp[Hr]at hq;subst hq;exact run_equalIn_bool' w D t _ _ hu
   |string=>simp at h;refine leaf _ .str hu h.symm (by simp) (λu v c hv hq=>?_);cases u<;>simp[pG]at hv;cases v<;>simp[Hr]at hq;subst hq;exact run_equalIn_string w D t _ _ hu
   |struct fs=>
    simp only at h;by_cases hst:P.stoodInHeld t=true;rw[aH hst]at h;cases h;rw[aI hst]at h;have hst:P.stoodInHeld t=false:=by simpa using hst
    have hfo:P.fieldsOf t=fs:=by simp[Program.fieldsOf,hu]
    have hmk:∀zs,ye P t zs=.agg zs.toArray:=λzs=>by simp[ye,hu]
    rw[hmk,hmk,run_equalIn_struct w D t _ _ (by rw[hfo];exact hu) hst,hfo]
    have main:∀(fl:ax Field)(cur:Nat)(ls:ax LK),xR P (jx P d) fl cur=some ls->∀(b:Bool),cur<=xs.length->pG ls (xs.drop cur)=true->oX (xs.drop cur) (ys.drop cur)=some b->
     (Op.eqFields D xs.toArray ys.toArray fl).run P w=.ok b w:=by
     intro fl
     induction fl with
     |nil=>
      intro cur ls hl b hcur hv hq
      simp[xR]at hl
      subst hl
      have h1:=xB hv
      have h2:=vN hq
      have e1:xs.drop cur=[]:=bS (by simpa using h1)
      have e2:ys.drop cur=[]:=bS (by rw[<-h2,e1];rfl)
      rw[e1,e2]at hq
      simp[oX]at hq
      subst hq
      simp[Op.eqFields]
     |cons f fl ih=>
      intro cur ls hl b hcur hv hq
      simp only[xR]at hl
      split at hl
      ·rename_i hc
       split at hl
       ·rename_i ls1 i h1 hi
        split at hl
        ·rename_i hsz
         simp only[aP]at hl
         obtain⟨ls2,h2,h3⟩:=hl
         simp at h3;subst h3
         have hv2:=Fk hv
         have hvl:=xB hv
         simp only[aO,ai]at hvl
         have hql:=vN hq
         simp only[aO]at hql
         have ex:xs.drop cur=(xs.drop cur).take ls1.length++(xs.drop cur).drop ls1.length:=(cy _ _).symm
         have ey:ys.drop cur=(ys.drop cur).take ls1.length++(ys.drop cur).drop ls1.length:=(cy _ _).symm
         rw[ex,ey]at hq
         obtain⟨b1,b2,q1,q2,rfl⟩:=Dp (by simp;omega) hq
         rw[fj]at q2 hv2
         have p1:=Mo h1 hi hsz.1 xs cur (by omega) w
         have p2:=Mo h1 hi hsz.1 ys cur (by omega) w
         have r1:=IX h1 D (by omega) _ _ b1 w hv2.1 q1
         rw[fj]at q2
         have r2:=ih (cur+ls1.length) ls2 h2 b2 (by omega) hv2.2 q2
         simp only[Op.eqFields,hc.1,ne_eq,not_false_eq_true,bU,hc.2,Sem.run_bind,p1,p2,Result.andThen_ok,r1]
         cases b1
         ·simp
         ·simpa using r2
        ·cases hl
       ·cases hl
      ·cases hl
    exact main fs.toList 0 ls h b (bX _) (by simpa using hf) (by simpa using he)
   |_=>simp at h
theorem toList_mk (s:ax UInt8):(ByteArray.mk s.toArray).toList=s:=by rw[ByteArray.toList_eq]
theorem Ia {o:aB Bool}{p b:Bool}(h:(o.bind λd=>some (p&&d))=some b):∃d,o=some d/\(p&&d)=b:=by cases o with|none=>simp at h|some d=>exact⟨d,rfl,by simpa using h⟩
theorem wT {c:RC}:∀{xs ys:ax AC}{vs us:iS}{f1 f2:fF}{b:Bool},bO c vs xs f1->bO c us ys f2->tn xs ys=some b->oX vs us=some b
 |[],[],[],[],_,_,_,_,_,h=>h
 |x::xs,y::ys,v::vs,u::us,_,_,b,r1,r2,h=>by obtain⟨g1,g2,rfl,a1,a2⟩:=r1;obtain⟨h1,h2,rfl,b1,b2⟩:=r2;unfold tn at h;split at h;rename_i e1 e2;cases e1;rename_i k p xs' k' q ys' e1 e2;cases e1;cases e2;split at h;rename_i hk;subst hk;obtain⟨d,hd,hb⟩:=Ia h;rw[a1.1,b1.1];simp only[oX,Hr,bU,eT,wT a2 b2 hd,hb];cases h;rename_i p xs' q ys' e1 e2;cases e1;cases e2;obtain⟨d,hd,hb⟩:=Ia h;rw[a1.1,b1.1];simp only[oX,Hr,eT,wT a2 b2 hd,hb];rename_i p xs' q ys' e1 e2;cases e1;cases e2;obtain⟨d,hd,hb⟩:=Ia h;rw[a1.1,b1.1];simp only[oX,Hr,eT,wT a2 b2 hd,hb,toList_mk];cases h
 |[],[],v::vs,_,_,_,_,r1,_,_=>r1.elim
 |[],[],[],u::us,_,_,_,_,r2,_=>r2.elim
 |x::xs,_,[],_,_,_,_,r1,_,_=>r1.elim
 |_,y::ys,_,[],_,_,_,_,r2,_=>r2.elim
 |[],y::ys,_,_,_,_,_,_,_,h=>by simp[tn]at h
 |x::xs,[],_,_,_,_,_,_,_,h=>by cases x<;>simp[tn]at h
theorem Cq {c:RC}:∀{ls:ax LK}{xs:ax AC}{vs:iS}{f1:fF},bO c vs xs f1->fits ls xs=true->pG ls vs=true
 |[],[],[],_,_,_=>rfl
 |l::ls,x::xs,v::vs,_,r1,h=>by obtain⟨g1,g2,rfl,a1,a2⟩:=r1;cases l<;>cases x<;>simp[fits]at h;rw[a1.1];simpa[pG]using Cq a2 h;rw[a1.1];simpa[pG]using Cq a2 h;rw[a1.1];simpa[pG]using Cq a2 h
 |[],[],v::vs,_,r1,_=>r1.elim
 |_,x::xs,[],_,r1,_=>r1.elim
 |[],x::xs,_,_,_,h=>by simp[fits]at h
 |l::ls,[],_,_,_,h=>by cases l<;>simp[fits]at h
def O2 (P:Program)(l:ax (Nat×ax LK)):Prop:=∀t ls,Ma l t=some ls->
 jx P 50 t=some ls/\(∃fs,P.underlying t=some (.struct fs))/\P.eqGuardType P.depth t=false
def eqB (P:Program)(t:TypeId)(ls:ax LK):Bool:=
 decide (jx P 50 t=some ls)&&(match P.underlying t with|some (.struct _)=>true|_=>false)&& !(P.eqGuardType P.depth t)
theorem QX {P:Program}:∀{l:ax (Nat×ax LK)},(l.all λx=>eqB P x.1 x.2)=true->O2 P l
 |[],_,t,ls,h=>by simp[Ma]at h
 |(u,s)::r,hl,t,ls,h=>by simp only[cr,ae]at hl;simp only[Ma]at h;cases hu:u==t with|true=>rw[hu]at h;simp at hu h;subst hu;subst h;have h1:=hl.1;simp only[eqB,ae,aD,aL]at h1;refine⟨h1.1.1,?_,h1.2⟩;have h2:=h1.1.2;split at h2;rename_i fs hfs;exact⟨fs,hfs⟩;cases h2|false=>rw[hu]at h;exact QX hl.2 t ls h
theorem aeH {l:ax (Nat×ax LK)}(hl:O2 P l)(ht:Ma l t=some ls){c:RC}{xs ys:ax AC}{vs us:iS}{f1 f2:fF}{b:Bool}(r1:bO c vs xs f1)(r2:bO c us ys f2)(hf:fits ls xs=true)(he:tn xs ys=some b)(w:World): (Op.equal t (.agg vs.toArray) (.agg us.toArray)).run P w=.ok b w:=by
 obtain⟨h1,⟨fs,hu⟩,_⟩:=hl t ls ht;have:=IX h1 Op.maxDepth (by decide) vs us b w (Cq r1 hf) (wT r1 r2 he);have hm:∀zs,ye P t zs=.agg zs.toArray:=λzs=>by simp[ye,hu]
 rw[hm,hm]at this;exact this
end Go.Dn
