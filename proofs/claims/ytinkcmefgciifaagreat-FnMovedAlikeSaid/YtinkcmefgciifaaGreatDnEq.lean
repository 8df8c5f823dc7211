import Derived.Test.YtinkcmefgciifaaGreatDnMem
/- '==' of structs, cell by cell. -/
namespace Go.Dn
variable {P:Program} {c:RC} {t:TypeId} {ls:ax LK}
def Jj:Value->Value->ay Bool
 | .int k a,.int k' b=>if k=k' then some (a==b) else none
 | .bool a,.bool b=>some (a==b)
 | .string a,.string b=>some (a.toList==b.toList)
 |_,_=>none
def pz:iG->iG->ay Bool
 |[],[]=>some true
 |v::vs,u::us=>(Jj v u).bind λa=>(pz vs us).bind λb=>some (a&&b)
 |_,_=>none
def qa:ax LK->iG->Bool
 |[],[]=>true
 | .int::ls,.int _ _::r=>qa ls r
 | .bool::ls,.bool _::r=>qa ls r
 | .str::ls,.string _::r=>qa ls r
 |_,_=>false
def yB (P:Program)(F:TypeId->ay (ax LK)):ax Field->Nat->ay (ax LK)
 |[],_=>some []
 |f::fs,cur=>
  if f.name≠ "_" /\f.offset=cur then
   match F f.type,P.info? f.type with
   |some ls,some i=>if i.size=ls.length/\0<ls.length then(yB P F fs (cur+ls.length)).bind λr=>some (ls++r) else none
   |_,_=>none
  else none
def jo (P:Program):Nat->TypeId->ay (ax LK)
 |0,_=>none
 |d+1,t=>
  match P.underlying t with
  |some (.int _)=>some [.int]
  |some .bool=>some [.bool]
  |some .string=>some [.str]
  |some (.struct fs)=>if P.stoodInHeld t then none else yB P (jo P d) fs.toList 0
  |_=>none
theorem EB {xs ys:iG}:∀{Mo ys':iG}{b:Bool},Mo.length=ys'.length->pz (Mo++xs) (ys'++ys)=some b->
 ∃b1 b2,pz Mo ys'=some b1/\pz xs ys=some b2/\b=(b1&&b2)
 |[],[],b,_,h=>⟨true,b,rfl,h,by simp⟩
 |v::vs,u::us,b,hl,h=>by simp only[List.cons_append,pz,aO]at h;obtain⟨c,h1,d,h2,h3⟩:=h;obtain⟨b1,b2,k1,k2,rfl⟩:=EB (by simpa using hl) h2;simp at h3;subst h3;exact⟨c&&b1,b2,by simp[pz,h1,k1],k2,by simp[Bool.and_assoc]⟩
 |[],_::_,_,hl,_=>by simp at hl
 |_::_,[],_,hl,_=>by simp at hl
theorem wz:∀{xs ys:iG}{b:Bool},pz xs ys=some b->xs.length=ys.length
 |[],[],_,_=>rfl
 |v::vs,u::us,b,h=>by simp only[pz,aO]at h;obtain⟨c,_,d,h2,_⟩:=h;simp[wz h2]
 |[],_::_,_,h=>by simp[pz]at h
 |_::_,[],_,h=>by simp[pz]at h
theorem yh:∀{ls:ax LK}{xs:iG},qa ls xs=true->xs.length=ls.length
 |[],[],_=>rfl
 |l::ls,x::xs,h=>by cases l<;>cases x<;>simp[qa]at h<;>simp[yh h]
 |[],_::_,h=>by simp[qa]at h
 |l::ls,[],h=>by cases l<;>simp[qa]at h
theorem Hb:∀{ls ls':ax LK}{xs:iG},qa (ls++ls') xs=true->qa ls (xs.take ls.length)=true/\qa ls' (xs.drop ls.length)=true
 |[],_,_,h=>by simpa[qa]using h
 |l::ls,ls',[],h=>by cases l<;>simp[qa]at h
 |l::ls,ls',x::xs,h=>by cases l<;>cases x<;>simp[qa]at h;all_goals have:=Hb h;simpa[qa]using this
def yO (P:Program)(t:TypeId)(vs:iG):Value:=
 match P.underlying t with
 |some (.struct _)=> .agg vs.toArray
 |_=>vs.getD 0 undef
theorem Oc {d:Nat}(h:jo P d t=some ls){i:TypeInfo}(hi:P.info? t=some i)(hs:i.size=ls.length)(cs:iG)(off:Nat)(hl:off+ls.length<=cs.length)(w:World): (part t cs.toArray off).run P w=.ok (yO P t ((cs.drop off).take ls.length)) w:=by
 have leaf:ls.length=1->(∀fs,P.underlying t≠some (.struct fs))->(isAgg t).run P w=.ok false w->(part t cs.toArray off).run P w=.ok (yO P t ((cs.drop off).take ls.length)) w:=by
  intro h1 hu ha;rw[h1]at hl⊢;have gY:off<cs.length:=by omega
  have hg:cs.toArray[off]?=some cs[off]:=by simp[aq gY]
  have he:yO P t ((cs.drop off).take 1)=cs[off]:=by
   have:(cs.drop off).take 1=[cs[off]]:=by rw[bO gY,List.take_succ_cons,List.take_zero]
   rw[this];unfold yO;split;rename_i fs Fk;exact absurd Fk (hu fs);rfl
  simp only[part,Sem.run_bind,ha,Result.andThen_ok,aY,bW];rw[he,hg];rfl
 cases d with
 |zero=>simp[jo]at h
 |succ d=>
  simp only[jo]at h;cases hu:P.underlying t with
  |none=>rw[hu]at h;simp at h
  |some x=>
   rw[hu]at h;cases x<;>simp at h;exact leaf (by rw[<-h];rfl) (by simp[hu]) (by simp[isAgg,underlying,hu]);exact leaf (by rw[<-h];rfl) (by simp[hu]) (by simp[isAgg,underlying,hu]);exact leaf (by rw[<-h];rfl) (by simp[hu]) (by simp[isAgg,underlying,hu]);rename_i fs;have ha:(isAgg t).run P w=.ok true w:=by simp[isAgg,underlying,hu]
   simp only[part,Sem.run_bind,ha,Result.andThen_ok,bQ,sizeOf,typeInfo,run_program,hi,Sem.run_pure,hs,yO,hu];congr 2;simp[List.extract_eq_take_drop]
theorem Ku:∀{d:Nat}{t:TypeId}{ls:ax LK},jo P d t=some ls->∀(D:Nat),d<=D->∀(xs ys:iG)(b:Bool)(w:World),qa ls xs=true->pz xs ys=some b->
 (Op.equalIn D t (yO P t xs) (yO P t ys)).run P w=.ok b w
 |0,t,ls,h,_,_,_,_,_,_,_,_=>by simp[jo]at h
 |d+1,t,ls,h,0,hD,_,_,_,_,_,_=>by omega
 |d+1,t,ls,h,D+1,hD,xs,ys,b,w,hf,he=>by
  have hly:=wz he;have hlx:=yh hf;simp only[jo]at h
  have leaf:∀(x:TypeDesc)(l:LK),P.underlying t=some x->ls=[l]->(∀fs,x≠ .struct fs)->
   (∀u v c,qa [l] [u]=true->Jj u v=some c->(Op.equalIn (D+1) t u v).run P w=.ok c w)->(Op.equalIn (D+1) t (yO P t xs) (yO P t ys)).run P w=.ok b w:=by
   intro x l hu hls hns ed
   subst hls
   obtain⟨u,rfl⟩:=List.length_eq_one_iff.1 (by simpa using hlx)
   obtain⟨v,rfl⟩:=List.length_eq_one_iff.1 (by simpa using hly.symm)
   have hm:∀z,yO P t [z]=z:=by intro z;unfold yO;rw[hu];split;rename_i fs Fk;simp at Fk;exact absurd Fk (hns fs);rfl
   rw[hm,hm]
   refine ed u v b hf ?_
   simp only[pz,aO]at he
   obtain⟨c,h1,d,h2,h3⟩:=he
   simp at h2 h3;subst h2
   simp at h3;subst h3
   exact h1
  cases hu:P.underlying t with
  |none=>rw[hu]at h;simp at h
  |some x=>
   rw[hu]at h;cases x with
   |int k=>simp at h;refine leaf _ .int hu h.symm (by simp) (λu v c hv hq=>?_);cases u<;>simp[qa]at hv;cases v<;>simp[Jj]at hq;obtain⟨rfl,rfl⟩:=hq;exact run_equalIn_int w D t _ k _ _ hu
   |bool=>simp at h;refine leaf _ .bool hu h.symm (by simp) (λu v c hv hq=>?_);cases u<;>simp[qa]at hv;cases v<;>simp[Jj]at hq;subst hq;exact run_equalIn_bool' w D t _ _ hu
   |string=>simp at h;refine leaf _ .str hu h.symm (by simp) (λu v c hv hq=>?_);cases u<;>simp[qa]at hv;cases v<;>simp[Jj]at hq;subst hq;exact run_equalIn_string w D t _ _ hu
   |struct fs=>
    simp only at h;by_cases mF:P.stoodInHeld t=true;rw[aH mF]at h;cases h;rw[aI mF]at h;have mF:P.stoodInHeld t=false:=by simpa using mF
    have hfo:P.fieldsOf t=fs:=by simp[Program.fieldsOf,hu]
    have hmk:∀zs,yO P t zs=.agg zs.toArray:=λzs=>by simp[yO,hu]
    rw[hmk,hmk,run_equalIn_struct w D t _ _ (by rw[hfo];exact hu) mF,hfo]
    have main:∀(fl:ax Field)(cur:Nat)(ls:ax LK),yB P (jo P d) fl cur=some ls->∀(b:Bool),cur<=xs.length->qa ls (xs.drop cur)=true->pz (xs.drop cur) (ys.drop cur)=some b->
     (Op.eqFields D xs.toArray ys.toArray fl).run P w=.ok b w:=by
     intro fl
     induction fl with
     |nil=>
      intro cur ls hl b hcur hv hq
      simp[yB]at hl
      subst hl
      have h1:=yh hv
      have h2:=wz hq
      have e1:xs.drop cur=[]:=bV (by simpa using h1)
      have e2:ys.drop cur=[]:=bV (by rw[<-h2,e1];rfl)
      rw[e1,e2]at hq
      simp[pz]at hq
      subst hq
      simp[Op.eqFields]
     |cons f fl ih=>
      intro cur ls hl b hcur hv hq
      simp only[yB]at hl
      split at hl
      ·rename_i hc
       split at hl
       ·rename_i ls1 i h1 hi
        split at hl
        ·rename_i tH
         simp only[aO]at hl
         obtain⟨ls2,h2,h3⟩:=hl
         simp at h3;subst h3
         have PK:=Hb hv
         have hvl:=yh hv
         simp only[aM,ai]at hvl
         have hql:=wz hq
         simp only[aM]at hql
         have ex:xs.drop cur=(xs.drop cur).take ls1.length++(xs.drop cur).drop ls1.length:=(cm _ _).symm
         have ey:ys.drop cur=(ys.drop cur).take ls1.length++(ys.drop cur).drop ls1.length:=(cm _ _).symm
         rw[ex,ey]at hq
         obtain⟨b1,b2,q1,q2,rfl⟩:=EB (by simp;omega) hq
         rw[eK]at q2 PK
         have p1:=Oc h1 hi tH.1 xs cur (by omega) w
         have p2:=Oc h1 hi tH.1 ys cur (by omega) w
         have r1:=Ku h1 D (by omega) _ _ b1 w PK.1 q1
         rw[eK]at q2
         have r2:=ih (cur+ls1.length) ls2 h2 b2 (by omega) PK.2 q2
         simp only[Op.eqFields,hc.1,ne_eq,not_false_eq_true,bQ,hc.2,Sem.run_bind,p1,p2,Result.andThen_ok,r1]
         cases b1
         ·simp
         ·simpa using r2
        ·cases hl
       ·cases hl
      ·cases hl
    exact main fs.toList 0 ls h b (bU _) (by simpa using hf) (by simpa using he)
   |_=>simp at h
theorem toList_mk (s:ax UInt8):(ByteArray.mk s.toArray).toList=s:=by rw[ByteArray.toList_eq]
theorem J6 {o:ay Bool}{p b:Bool}(h:(o.bind λd=>some (p&&d))=some b):∃d,o=some d/\(p&&d)=b:=by cases o with|none=>simp at h|some d=>exact⟨d,rfl,by simpa using h⟩
theorem xC:∀{xs ys:ax AC}{vs us:iG}{f1 f2:fy}{b:Bool},bD c vs xs f1->bD c us ys f2->tM xs ys=some b->pz vs us=some b
 |[],[],[],[],_,_,_,_,_,h=>h
 |x::xs,y::ys,v::vs,u::us,_,_,b,r1,r2,h=>by obtain⟨g1,g2,rfl,a1,a2⟩:=r1;obtain⟨h1,h2,rfl,b1,b2⟩:=r2;unfold tM at h;split at h;rename_i e1 e2;cases e1;rename_i k p Mo k' q ys' e1 e2;cases e1;cases e2;split at h;rename_i hk;subst hk;obtain⟨d,hd,hb⟩:=J6 h;rw[a1.1,b1.1];simp only[pz,Jj,bQ,eu,xC a2 b2 hd,hb];cases h;rename_i p Mo q ys' e1 e2;cases e1;cases e2;obtain⟨d,hd,hb⟩:=J6 h;rw[a1.1,b1.1];simp only[pz,Jj,eu,xC a2 b2 hd,hb];rename_i p Mo q ys' e1 e2;cases e1;cases e2;obtain⟨d,hd,hb⟩:=J6 h;rw[a1.1,b1.1];simp only[pz,Jj,eu,xC a2 b2 hd,hb,toList_mk];cases h
 |[],[],v::vs,_,_,_,_,r1,_,_=>r1.elim
 |[],[],[],u::us,_,_,_,_,r2,_=>r2.elim
 |x::xs,_,[],_,_,_,_,r1,_,_=>r1.elim
 |_,y::ys,_,[],_,_,_,_,r2,_=>r2.elim
 |[],y::ys,_,_,_,_,_,_,_,h=>by simp[tM]at h
 |x::xs,[],_,_,_,_,_,_,_,h=>by cases x<;>simp[tM]at h
theorem Dv:∀{ls:ax LK}{xs:ax AC}{vs:iG}{f1:fy},bD c vs xs f1->fits ls xs=true->qa ls vs=true
 |[],[],[],_,_,_=>rfl
 |l::ls,x::xs,v::vs,_,r1,h=>by obtain⟨g1,g2,rfl,a1,a2⟩:=r1;cases l<;>cases x<;>simp[fits]at h;rw[a1.1];simpa[qa]using Dv a2 h;rw[a1.1];simpa[qa]using Dv a2 h;rw[a1.1];simpa[qa]using Dv a2 h
 |[],[],v::vs,_,r1,_=>r1.elim
 |_,x::xs,[],_,r1,_=>r1.elim
 |[],x::xs,_,_,_,h=>by simp[fits]at h
 |l::ls,[],_,_,_,h=>by cases l<;>simp[fits]at h
def QQ (P:Program)(l:ax (Nat×ax LK)):Prop:=∀t ls,NY l t=some ls->
 jo P 50 t=some ls/\(∃fs,P.underlying t=some (.struct fs))/\P.eqGuardType P.depth t=false
def eqB (P:Program)(t:TypeId)(ls:ax LK):Bool:=
 decide (jo P 50 t=some ls)&&(match P.underlying t with|some (.struct _)=>true|_=>false)&& !(P.eqGuardType P.depth t)
theorem SE:∀{l:ax (Nat×ax LK)},(l.all λx=>eqB P x.1 x.2)=true->QQ P l
 |[],_,t,ls,h=>by simp[NY]at h
 |(u,s)::r,hl,t,ls,h=>by simp only[cc,ae]at hl;simp only[NY]at h;cases hu:u==t with|true=>rw[hu]at h;simp at hu h;subst hu;subst h;have h1:=hl.1;simp only[eqB,ae,aD,aK]at h1;refine⟨h1.1.1,?_,h1.2⟩;have h2:=h1.1.2;split at h2;rename_i fs Fk;exact⟨fs,Fk⟩;cases h2|false=>rw[hu]at h;exact SE hl.2 t ls h
theorem ahq {l:ax (Nat×ax LK)}(hl:QQ P l)(ht:NY l t=some ls){xs ys:ax AC}{vs us:iG}{f1 f2:fy}{b:Bool}(r1:bD c vs xs f1)(r2:bD c us ys f2)(hf:fits ls xs=true)(he:tM xs ys=some b)(w:World): (Op.equal t (.agg vs.toArray) (.agg us.toArray)).run P w=.ok b w:=by
 obtain⟨h1,⟨fs,hu⟩,_⟩:=hl t ls ht;have:=Ku h1 Op.maxDepth (by decide) vs us b w (Dv r1 hf) (xC r1 r2 he);have hm:∀zs,yO P t zs=.agg zs.toArray:=λzs=>by simp[yO,hu]
 rw[hm,hm]at this;exact this
end Go.Dn
