import Derived.Test.YthllnaiaikjelaaGreatDnMem
/- '==' of structs, cell by cell. -/
namespace Go.Dn
variable {P:Program} {c:RC} {t:TypeId} {ls:ar LK}
def Td:Value->Value->au Bool
 | .int k a,.int k' b=>if k=k' then some (a==b) else none
 | .bool a,.bool b=>some (a==b)
 | .string a,.string b=>some (a.toList==b.toList)
 |_,_=>none
def tp:iU->iU->au Bool
 |[],[]=>some true
 |v::vs,u::us=>(Td v u).bind λa=>(tp vs us).bind λb=>some (a&&b)
 |_,_=>none
def uo:ar LK->iU->Bool
 |[],[]=>true
 | .int::ls,.int _ _::r=>uo ls r
 | .bool::ls,.bool _::r=>uo ls r
 | .str::ls,.string _::r=>uo ls r
 |_,_=>false
def Gs (P:Program)(F:TypeId->au (ar LK)):ar Field->Nat->au (ar LK)
 |[],_=>some []
 |f::fs,cur=>
  if f.name≠ "_" /\f.offset=cur then
   match F f.type,P.info? f.type with
   |some ls,some i=>if i.size=ls.length/\0<ls.length then(Gs P F fs (cur+ls.length)).bind λr=>some (ls++r) else none
   |_,_=>none
  else none
def gZ (P:Program):Nat->TypeId->au (ar LK)
 |0,_=>none
 |d+1,t=>
  match P.underlying t with
  |some (.int _)=>some [.int]
  |some .bool=>some [.bool]
  |some .string=>some [.str]
  |some (.struct fs)=>if P.stoodInHeld t then none else Gs P (gZ P d) fs.toList 0
  |_=>none
theorem Om {xs ys:iU}:∀{WI ys':iU}{b:Bool},WI.length=ys'.length->tp (WI++xs) (ys'++ys)=some b->
 ∃b1 b2,tp WI ys'=some b1/\tp xs ys=some b2/\b=(b1&&b2)
 |[],[],b,_,h=>⟨true,b,rfl,h,by simp⟩
 |v::vs,u::us,b,hl,h=>by simp only[List.cons_append,tp,aX]at h;obtain⟨c,h1,d,h2,h3⟩:=h;obtain⟨b1,b2,k1,k2,rfl⟩:=Om (by simpa using hl) h2;simp at h3;subst h3;exact⟨c&&b1,b2,by simp[tp,h1,k1],k2,by simp[Bool.and_assoc]⟩
 |[],_::_,_,hl,_=>by simp at hl
 |_::_,[],_,hl,_=>by simp at hl
theorem DW:∀{xs ys:iU}{b:Bool},tp xs ys=some b->xs.length=ys.length
 |[],[],_,_=>rfl
 |v::vs,u::us,b,h=>by simp only[tp,aX]at h;obtain⟨c,_,d,h2,_⟩:=h;simp[DW h2]
 |[],_::_,_,h=>by simp[tp]at h
 |_::_,[],_,h=>by simp[tp]at h
theorem F0:∀{ls:ar LK}{xs:iU},uo ls xs=true->xs.length=ls.length
 |[],[],_=>rfl
 |l::ls,x::xs,h=>by cases l<;>cases x<;>simp[uo]at h<;>simp[F0 h]
 |[],_::_,h=>by simp[uo]at h
 |l::ls,[],h=>by cases l<;>simp[uo]at h
theorem QZ:∀{ls ls':ar LK}{xs:iU},uo (ls++ls') xs=true->uo ls (xs.take ls.length)=true/\uo ls' (xs.drop ls.length)=true
 |[],_,_,h=>by simpa[uo]using h
 |l::ls,ls',[],h=>by cases l<;>simp[uo]at h
 |l::ls,ls',x::xs,h=>by cases l<;>cases x<;>simp[uo]at h;all_goals have:=QZ h;simpa[uo]using this
def Ha (P:Program)(t:TypeId)(vs:iU):Value:=
 match P.underlying t with
 |some (.struct _)=> .agg vs.toArray
 |_=>vs.getD 0 undef
theorem Yy {d:Nat}(h:gZ P d t=some ls){i:TypeInfo}(hi:P.info? t=some i)(hs:i.size=ls.length)(cs:iU)(off:Nat)(hl:off+ls.length<=cs.length)(w:World): (part t cs.toArray off).run P w=.ok (Ha P t ((cs.drop off).take ls.length)) w:=by
 have leaf:ls.length=1->(∀fs,P.underlying t≠some (.struct fs))->(isAgg t).run P w=.ok false w->(part t cs.toArray off).run P w=.ok (Ha P t ((cs.drop off).take ls.length)) w:=by
  intro h1 hu ha;rw[h1]at hl⊢;have iG:off<cs.length:=by omega
  have hg:cs.toArray[off]?=some cs[off]:=by simp[al iG]
  have he:Ha P t ((cs.drop off).take 1)=cs[off]:=by
   have:(cs.drop off).take 1=[cs[off]]:=by rw[cf iG,List.take_succ_cons,List.take_zero]
   rw[this];unfold Ha;split;rename_i fs NC;exact absurd NC (hu fs);rfl
  simp only[part,Sem.run_bind,ha,Result.andThen_ok,bg,cD];rw[he,hg];rfl
 cases d with
 |zero=>simp[gZ]at h
 |succ d=>
  simp only[gZ]at h;cases hu:P.underlying t with
  |none=>rw[hu]at h;simp at h
  |some x=>
   rw[hu]at h;cases x<;>simp at h;exact leaf (by rw[<-h];rfl) (by simp[hu]) (by simp[isAgg,underlying,hu]);exact leaf (by rw[<-h];rfl) (by simp[hu]) (by simp[isAgg,underlying,hu]);exact leaf (by rw[<-h];rfl) (by simp[hu]) (by simp[isAgg,underlying,hu]);rename_i fs;have ha:(isAgg t).run P w=.ok true w:=by simp[isAgg,underlying,hu]
   simp only[part,Sem.run_bind,ha,Result.andThen_ok,cd,sizeOf,typeInfo,run_program,hi,Sem.run_pure,hs,Ha,hu];congr 2;simp[List.extract_eq_take_drop]
theorem UE:∀{d:Nat}{t:TypeId}{ls:ar LK},gZ P d t=some ls->∀(D:Nat),d<=D->∀(xs ys:iU)(b:Bool)(w:World),uo ls xs=true->tp xs ys=some b->
 (Op.equalIn D t (Ha P t xs) (Ha P t ys)).run P w=.ok b w
 |0,t,ls,h,_,_,_,_,_,_,_,_=>by simp[gZ]at h
 |d+1,t,ls,h,0,hD,_,_,_,_,_,_=>by omega
 |d+1,t,ls,h,D+1,hD,xs,ys,b,w,hf,he=>by
  have hly:=DW he;have hlx:=F0 hf;simp only[gZ]at h
  have leaf:∀(x:TypeDesc)(l:LK),P.underlying t=some x->ls=[l]->(∀fs,x≠ .struct fs)->
   (∀u v c,uo [l] [u]=true->Td u v=some c->(Op.equalIn (D+1) t u v).run P w=.ok c w)->(Op.equalIn (D+1) t (Ha P t xs) (Ha P t ys)).run P w=.ok b w:=by
   intro x l hu hls hns ej
   subst hls
   obtain⟨u,rfl⟩:=List.length_eq_one_iff.1 (by simpa using hlx)
   obtain⟨v,rfl⟩:=List.length_eq_one_iff.1 (by simpa using hly.symm)
   have hm:∀z,Ha P t [z]=z:=by intro z;unfold Ha;rw[hu];split;rename_i fs NC;simp at NC;exact absurd NC (hns fs);rfl
   rw[hm,hm]
   refine ej u v b hf ?_
   simp only[tp,aX]at he
   obtain⟨c,h1,d,h2,h3⟩:=he
   simp at h2 h3;subst h2
   simp at h3;subst h3
   exact h1
  cases hu:P.underlying t with
  |none=>rw[hu]at h;simp at h
  |some x=>
   rw[hu]at h;cases x with
   |int k=>simp at h;refine leaf _ .int hu h.symm (by simp) (λu v c hv hq=>?_);cases u<;>simp[uo]at hv;cases v<;>simp[Td]at hq;obtain⟨rfl,rfl⟩:=hq;exact run_equalIn_int w D t _ k _ _ hu
   |bool=>simp at h;refine leaf _ .bool hu h.symm (by simp) (λu v c hv hq=>?_);cases u<;>simp[uo]at hv;cases v<;>simp[Td]at hq;subst hq;exact run_equalIn_bool' w D t _ _ hu
   |string=>simp at h;refine leaf _ .str hu h.symm (by simp) (λu v c hv hq=>?_);cases u<;>simp[uo]at hv;cases v<;>simp[Td]at hq;subst hq;exact run_equalIn_string w D t _ _ hu
   |struct fs=>
    simp only at h;by_cases nh:P.stoodInHeld t=true;rw[aM nh]at h;cases h;rw[aK nh]at h;have nh:P.stoodInHeld t=false:=by simpa using nh
    have hfo:P.fieldsOf t=fs:=by simp[Program.fieldsOf,hu]
    have hmk:∀zs,Ha P t zs=.agg zs.toArray:=λzs=>by simp[Ha,hu]
    rw[hmk,hmk,run_equalIn_struct w D t _ _ (by rw[hfo];exact hu) nh,hfo]
    have main:∀(fl:ar Field)(cur:Nat)(ls:ar LK),Gs P (gZ P d) fl cur=some ls->∀(b:Bool),cur<=xs.length->uo ls (xs.drop cur)=true->tp (xs.drop cur) (ys.drop cur)=some b->
     (Op.eqFields D xs.toArray ys.toArray fl).run P w=.ok b w:=by
     intro fl
     induction fl with
     |nil=>
      intro cur ls hl b hcur hv hq
      simp[Gs]at hl
      subst hl
      have h1:=F0 hv
      have h2:=DW hq
      have e1:xs.drop cur=[]:=cP (by simpa using h1)
      have e2:ys.drop cur=[]:=cP (by rw[<-h2,e1];rfl)
      rw[e1,e2]at hq
      simp[tp]at hq
      subst hq
      simp[Op.eqFields]
     |cons f fl ih=>
      intro cur ls hl b hcur hv hq
      simp only[Gs]at hl
      split at hl
      ·rename_i hc
       split at hl
       ·rename_i ls1 i h1 hi
        split at hl
        ·rename_i xp
         simp only[aX]at hl
         obtain⟨ls2,h2,h3⟩:=hl
         simp at h3;subst h3
         have SA:=QZ hv
         have hvl:=F0 hv
         simp only[bl,ay]at hvl
         have hql:=DW hq
         simp only[bl]at hql
         have ex:xs.drop cur=(xs.drop cur).take ls1.length++(xs.drop cur).drop ls1.length:=(cK _ _).symm
         have ey:ys.drop cur=(ys.drop cur).take ls1.length++(ys.drop cur).drop ls1.length:=(cK _ _).symm
         rw[ex,ey]at hq
         obtain⟨b1,b2,q1,q2,rfl⟩:=Om (by simp;omega) hq
         rw[eL]at q2 SA
         have p1:=Yy h1 hi xp.1 xs cur (by omega) w
         have p2:=Yy h1 hi xp.1 ys cur (by omega) w
         have r1:=UE h1 D (by omega) _ _ b1 w SA.1 q1
         rw[eL]at q2
         have r2:=ih (cur+ls1.length) ls2 h2 b2 (by omega) SA.2 q2
         simp only[Op.eqFields,hc.1,ne_eq,not_false_eq_true,cd,hc.2,Sem.run_bind,p1,p2,Result.andThen_ok,r1]
         cases b1
         ·simp
         ·simpa using r2
        ·cases hl
       ·cases hl
      ·cases hl
    exact main fs.toList 0 ls h b (eT _) (by simpa using hf) (by simpa using he)
   |_=>simp at h
theorem toList_mk (s:ar UInt8):(ByteArray.mk s.toArray).toList=s:=by rw[ByteArray.toList_eq]
theorem Uk {o:au Bool}{p b:Bool}(h:(o.bind λd=>some (p&&d))=some b):∃d,o=some d/\(p&&d)=b:=by cases o with|none=>simp at h|some d=>exact⟨d,rfl,by simpa using h⟩
theorem Fa:∀{xs ys:ar AC}{vs us:iU}{f1 f2:ec}{b:Bool},bD c vs xs f1->bD c us ys f2->Ac xs ys=some b->tp vs us=some b
 |[],[],[],[],_,_,_,_,_,h=>h
 |x::xs,y::ys,v::vs,u::us,_,_,b,r1,r2,h=>by obtain⟨g1,g2,rfl,a1,a2⟩:=r1;obtain⟨h1,h2,rfl,b1,b2⟩:=r2;unfold Ac at h;split at h;rename_i e1 e2;cases e1;rename_i k p WI k' q ys' e1 e2;cases e1;cases e2;split at h;rename_i hk;subst hk;obtain⟨d,hd,hb⟩:=Uk h;rw[a1.1,b1.1];simp only[tp,Td,cd,eU,Fa a2 b2 hd,hb];cases h;rename_i p WI q ys' e1 e2;cases e1;cases e2;obtain⟨d,hd,hb⟩:=Uk h;rw[a1.1,b1.1];simp only[tp,Td,eU,Fa a2 b2 hd,hb];rename_i p WI q ys' e1 e2;cases e1;cases e2;obtain⟨d,hd,hb⟩:=Uk h;rw[a1.1,b1.1];simp only[tp,Td,eU,Fa a2 b2 hd,hb,toList_mk];cases h
 |[],[],v::vs,_,_,_,_,r1,_,_=>r1.elim
 |[],[],[],u::us,_,_,_,_,r2,_=>r2.elim
 |x::xs,_,[],_,_,_,_,r1,_,_=>r1.elim
 |_,y::ys,_,[],_,_,_,_,r2,_=>r2.elim
 |[],y::ys,_,_,_,_,_,_,_,h=>by simp[Ac]at h
 |x::xs,[],_,_,_,_,_,_,_,h=>by cases x<;>simp[Ac]at h
theorem MV:∀{ls:ar LK}{xs:ar AC}{vs:iU}{f1:ec},bD c vs xs f1->fits ls xs=true->uo ls vs=true
 |[],[],[],_,_,_=>rfl
 |l::ls,x::xs,v::vs,_,r1,h=>by obtain⟨g1,g2,rfl,a1,a2⟩:=r1;cases l<;>cases x<;>simp[fits]at h;rw[a1.1];simpa[uo]using MV a2 h;rw[a1.1];simpa[uo]using MV a2 h;rw[a1.1];simpa[uo]using MV a2 h
 |[],[],v::vs,_,r1,_=>r1.elim
 |_,x::xs,[],_,r1,_=>r1.elim
 |[],x::xs,_,_,_,h=>by simp[fits]at h
 |l::ls,[],_,_,_,h=>by cases l<;>simp[fits]at h
def aa5 (P:Program)(l:ar (Nat×ar LK)):Prop:=∀t ls,Yp l t=some ls->
 gZ P 50 t=some ls/\(∃fs,P.underlying t=some (.struct fs))/\P.eqGuardType P.depth t=false
def eqB (P:Program)(t:TypeId)(ls:ar LK):Bool:=
 decide (gZ P 50 t=some ls)&&(match P.underlying t with|some (.struct _)=>true|_=>false)&& !(P.eqGuardType P.depth t)
theorem acK:∀{l:ar (Nat×ar LK)},(l.all λx=>eqB P x.1 x.2)=true->aa5 P l
 |[],_,t,ls,h=>by simp[Yp]at h
 |(u,s)::r,hl,t,ls,h=>by simp only[bV,ah]at hl;simp only[Yp]at h;cases hu:u==t with|true=>rw[hu]at h;simp at hu h;subst hu;subst h;have h1:=hl.1;simp only[eqB,ah,bI,aU]at h1;refine⟨h1.1.1,?_,h1.2⟩;have h2:=h1.1.2;split at h2;rename_i fs NC;exact⟨fs,NC⟩;cases h2|false=>rw[hu]at h;exact acK hl.2 t ls h
theorem apR {l:ar (Nat×ar LK)}(hl:aa5 P l)(ht:Yp l t=some ls){xs ys:ar AC}{vs us:iU}{f1 f2:ec}{b:Bool}(r1:bD c vs xs f1)(r2:bD c us ys f2)(hf:fits ls xs=true)(he:Ac xs ys=some b)(w:World): (Op.equal t (.agg vs.toArray) (.agg us.toArray)).run P w=.ok b w:=by
 obtain⟨h1,⟨fs,hu⟩,_⟩:=hl t ls ht;have:=UE h1 Op.maxDepth (by decide) vs us b w (MV r1 hf) (Fa r1 r2 he);have hm:∀zs,Ha P t zs=.agg zs.toArray:=λzs=>by simp[Ha,hu]
 rw[hm,hm]at this;exact this
end Go.Dn
