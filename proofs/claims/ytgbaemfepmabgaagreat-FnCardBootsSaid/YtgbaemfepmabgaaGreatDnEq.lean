import Derived.Test.YtgbaemfepmabgaaGreatDnMem
/- '==' of structs, cell by cell. -/
namespace Go.Dn
variable {P:Program} {t:TypeId} {ls:aw LK}
def JU:Value->Value->az Bool
 | .int k a,.int k' b=>if k=k' then some (a==b) else none
 | .bool a,.bool b=>some (a==b)
 | .string a,.string b=>some (a.toList==b.toList)
 |_,_=>none
def pU:iS->iS->az Bool
 |[],[]=>some true
 |v::vs,u::us=>(JU v u).bind λa=>(pU vs us).bind λb=>some (a&&b)
 |_,_=>none
def qu:aw LK->iS->Bool
 |[],[]=>true
 | .int::ls,.int _ _::r=>qu ls r
 | .bool::ls,.bool _::r=>qu ls r
 | .str::ls,.string _::r=>qu ls r
 |_,_=>false
def zI (P:Program)(F:TypeId->az (aw LK)):aw Field->Nat->az (aw LK)
 |[],_=>some []
 |f::fs,cur=>
  if f.name≠ "_" /\f.offset=cur then
   match F f.type,P.info? f.type with
   |some ls,some i=>if i.size=ls.length/\0<ls.length then(zI P F fs (cur+ls.length)).bind λr=>some (ls++r) else none
   |_,_=>none
  else none
def jE (P:Program):Nat->TypeId->az (aw LK)
 |0,_=>none
 |d+1,t=>
  match P.underlying t with
  |some (.int _)=>some [.int]
  |some .bool=>some [.bool]
  |some .string=>some [.str]
  |some (.struct fs)=>if P.stoodInHeld t then none else zI P (jE P d) fs.toList 0
  |_=>none
theorem Fh {xs ys:iS}:∀{xs' ys':iS}{b:Bool},xs'.length=ys'.length->pU (xs'++xs) (ys'++ys)=some b->
 ∃b1 b2,pU xs' ys'=some b1/\pU xs ys=some b2/\b=(b1&&b2)
 |[],[],b,_,h=>⟨true,b,rfl,h,by simp⟩
 |v::vs,u::us,b,hl,h=>by simp only[List.cons_append,pU,aU]at h;obtain⟨c,h1,d,h2,h3⟩:=h;obtain⟨b1,b2,k1,k2,rfl⟩:=Fh (by simpa using hl) h2;simp at h3;subst h3;exact⟨c&&b1,b2,by simp[pU,h1,k1],k2,by simp[Bool.and_assoc]⟩
 |[],_::_,_,hl,_=>by simp at hl
 |_::_,[],_,hl,_=>by simp at hl
theorem xy:∀{xs ys:iS}{b:Bool},pU xs ys=some b->xs.length=ys.length
 |[],[],_,_=>rfl
 |v::vs,u::us,b,h=>by simp only[pU,aU]at h;obtain⟨c,_,d,h2,_⟩:=h;simp[xy h2]
 |[],_::_,_,h=>by simp[pU]at h
 |_::_,[],_,h=>by simp[pU]at h
theorem zb:∀{ls:aw LK}{xs:iS},qu ls xs=true->xs.length=ls.length
 |[],[],_=>rfl
 |l::ls,x::xs,h=>by cases l<;>cases x<;>simp[qu]at h<;>simp[zb h]
 |[],_::_,h=>by simp[qu]at h
 |l::ls,[],h=>by cases l<;>simp[qu]at h
theorem HD:∀{ls ls':aw LK}{xs:iS},qu (ls++ls') xs=true->qu ls (xs.take ls.length)=true/\qu ls' (xs.drop ls.length)=true
 |[],_,_,h=>by simpa[qu]using h
 |l::ls,ls',[],h=>by cases l<;>simp[qu]at h
 |l::ls,ls',x::xs,h=>by cases l<;>cases x<;>simp[qu]at h;all_goals have:=HD h;simpa[qu]using this
def zV (P:Program)(t:TypeId)(vs:iS):Value:=
 match P.underlying t with
 |some (.struct _)=> .agg vs.toArray
 |_=>vs.getD 0 undef
theorem O7 {d:Nat}(h:jE P d t=some ls){i:TypeInfo}(hi:P.info? t=some i)(hs:i.size=ls.length)(cs:iS)(off:Nat)(hl:off+ls.length<=cs.length)(w:World): (part t cs.toArray off).run P w=.ok (zV P t ((cs.drop off).take ls.length)) w:=by
 have leaf:ls.length=1->(∀fs,P.underlying t≠some (.struct fs))->(isAgg t).run P w=.ok false w->(part t cs.toArray off).run P w=.ok (zV P t ((cs.drop off).take ls.length)) w:=by
  intro h1 hu ha;rw[h1]at hl⊢;have hlt:off<cs.length:=by omega
  have hg:cs.toArray[off]?=some cs[off]:=by simp[al hlt]
  have he:zV P t ((cs.drop off).take 1)=cs[off]:=by
   have:(cs.drop off).take 1=[cs[off]]:=by rw[ca hlt,List.take_succ_cons,List.take_zero]
   rw[this];unfold zV;split;rename_i fs hfs;exact absurd hfs (hu fs);rfl
  simp only[part,Sem.run_bind,ha,Result.andThen_ok,bj,cu];rw[he,hg];rfl
 cases d with
 |zero=>simp[jE]at h
 |succ d=>
  simp only[jE]at h;cases hu:P.underlying t with
  |none=>rw[hu]at h;simp at h
  |some x=>
   rw[hu]at h;cases x<;>simp at h;exact leaf (by rw[<-h];rfl) (by simp[hu]) (by simp[isAgg,underlying,hu]);exact leaf (by rw[<-h];rfl) (by simp[hu]) (by simp[isAgg,underlying,hu]);exact leaf (by rw[<-h];rfl) (by simp[hu]) (by simp[isAgg,underlying,hu]);rename_i fs;have ha:(isAgg t).run P w=.ok true w:=by simp[isAgg,underlying,hu]
   simp only[part,Sem.run_bind,ha,Result.andThen_ok,cg,sizeOf,typeInfo,run_program,hi,Sem.run_pure,hs,zV,hu];congr 2;simp[List.extract_eq_take_drop]
theorem Lt {P:Program}:∀{d:Nat}{t:TypeId}{ls:aw LK},jE P d t=some ls->∀(D:Nat),d<=D->∀(xs ys:iS)(b:Bool)(w:World),qu ls xs=true->pU xs ys=some b->
 (Op.equalIn D t (zV P t xs) (zV P t ys)).run P w=.ok b w
 |0,t,ls,h,_,_,_,_,_,_,_,_=>by simp[jE]at h
 |d+1,t,ls,h,0,hD,_,_,_,_,_,_=>by omega
 |d+1,t,ls,h,D+1,hD,xs,ys,b,w,hf,he=>by
  have hly:=xy he;have hlx:=zb hf;simp only[jE]at h
  have leaf:∀(x:TypeDesc)(l:LK),P.underlying t=some x->ls=[l]->(∀fs,x≠ .struct fs)->
   (∀u v c,qu [l] [u]=true->JU u v=some c->(Op.equalIn (D+1) t u v).run P w=.ok c w)->(Op.equalIn (D+1) t (zV P t xs) (zV P t ys)).run P w=.ok b w:=by
   intro x l hu hls hns hrun
   subst hls
   obtain⟨u,rfl⟩:=List.length_eq_one_iff.1 (by simpa using hlx)
   obtain⟨v,rfl⟩:=List.length_eq_one_iff.1 (by simpa using hly.symm)
   have hm:∀z,zV P t [z]=z:=by intro z;unfold zV;rw[hu];split;rename_i fs hfs;simp at hfs;exact absurd hfs (hns fs);rfl
   rw[hm,hm]
   refine hrun u v b hf ?_
   simp only[pU,aU]at he
   obtain⟨c,h1,d,h2,h3⟩:=he
   simp at h2 h3;subst h2
   simp at h3;subst h3
   exact h1
  cases hu:P.underlying t with
  |none=>rw[hu]at h;simp at h
  |some x=>
   rw[hu]at h;cases x with
   |int k=>simp at h;refine leaf _ .int hu h.symm (by simp) (λu v c hv hq=>?_);cases u<;>simp[qu]at hv;cases v<;>simp[JU]at hq;obtain⟨rfl,rfl⟩:=hq;exact run_equalIn_int w D t _ k _ _ hu
   |bool=>simp at h;refine leaf _ .bool hu h.symm (by simp) (λu v c hv hq=>?_);cases u<;>simp[qu]at hv;cases v<;>simp[JU]at hq;subst hq;exact run_equalIn_bool' w D t _ _ hu
   |string=>simp at h;refine leaf _ .str hu h.symm (by simp) (λu v c hv hq=>?_);cases u<;>simp[qu]at hv;cases v<;>simp[JU]at hq;subst hq;exact run_equalIn_string w D t _ _ hu
   |struct fs=>
    simp only at h;by_cases hst:P.stoodInHeld t=true;rw[aE hst]at h;cases h;rw[aD hst]at h;have hst:P.stoodInHeld t=false:=by simpa using hst
    have hfo:P.fieldsOf t=fs:=by simp[Program.fieldsOf,hu]
    have hmk:∀zs,zV P t zs=.agg zs.toArray:=λzs=>by simp[zV,hu]
    rw[hmk,hmk,run_equalIn_struct w D t _ _ (by rw[hfo];exact hu) hst,hfo]
    have main:∀(fl:aw Field)(cur:Nat)(ls:aw LK),zI P (jE P d) fl cur=some ls->∀(b:Bool),cur<=xs.length->qu ls (xs.drop cur)=true->pU (xs.drop cur) (ys.drop cur)=some b->
     (Op.eqFields D xs.toArray ys.toArray fl).run P w=.ok b w:=by
     intro fl
     induction fl with
     |nil=>
      intro cur ls hl b hcur hv hq
      simp[zI]at hl
      subst hl
      have h1:=zb hv
      have h2:=xy hq
      have e1:xs.drop cur=[]:=cp (by simpa using h1)
      have e2:ys.drop cur=[]:=cp (by rw[<-h2,e1];rfl)
      rw[e1,e2]at hq
      simp[pU]at hq
      subst hq
      simp[Op.eqFields]
     |cons f fl ih=>
      intro cur ls hl b hcur hv hq
      simp only[zI]at hl
      split at hl
      ·rename_i hc
       split at hl
       ·rename_i ls1 i h1 hi
        split at hl
        ·rename_i hsz
         simp only[aU]at hl
         obtain⟨ls2,h2,h3⟩:=hl
         simp at h3;subst h3
         have hv2:=HD hv
         have hvl:=zb hv
         simp only[aK,ai]at hvl
         have hql:=xy hq
         simp only[aK]at hql
         have ex:xs.drop cur=(xs.drop cur).take ls1.length++(xs.drop cur).drop ls1.length:=(cD _ _).symm
         have ey:ys.drop cur=(ys.drop cur).take ls1.length++(ys.drop cur).drop ls1.length:=(cD _ _).symm
         rw[ex,ey]at hq
         obtain⟨b1,b2,q1,q2,rfl⟩:=Fh (by simp;omega) hq
         rw[fg]at q2 hv2
         have p1:=O7 h1 hi hsz.1 xs cur (by omega) w
         have p2:=O7 h1 hi hsz.1 ys cur (by omega) w
         have r1:=Lt h1 D (by omega) _ _ b1 w hv2.1 q1
         rw[fg]at q2
         have r2:=ih (cur+ls1.length) ls2 h2 b2 (by omega) hv2.2 q2
         simp only[Op.eqFields,hc.1,ne_eq,not_false_eq_true,cg,hc.2,Sem.run_bind,p1,p2,Result.andThen_ok,r1]
         cases b1
         ·simp
         ·simpa using r2
        ·cases hl
       ·cases hl
      ·cases hl
    exact main fs.toList 0 ls h b (cf _) (by simpa using hf) (by simpa using he)
   |_=>simp at h
theorem toList_mk (s:aw UInt8):(ByteArray.mk s.toArray).toList=s:=by rw[ByteArray.toList_eq]
theorem KJ {o:az Bool}{p b:Bool}(h:(o.bind λd=>some (p&&d))=some b):∃d,o=some d/\(p&&d)=b:=by cases o with|none=>simp at h|some d=>exact⟨d,rfl,by simpa using h⟩
theorem yr {c:RC}:∀{xs ys:aw AC}{vs us:iS}{f1 f2:fu}{b:Bool},bR c vs xs f1->bR c us ys f2->uM xs ys=some b->pU vs us=some b
 |[],[],[],[],_,_,_,_,_,h=>h
 |x::xs,y::ys,v::vs,u::us,_,_,b,r1,r2,h=>by obtain⟨g1,g2,rfl,a1,a2⟩:=r1;obtain⟨h1,h2,rfl,b1,b2⟩:=r2;unfold uM at h;split at h;rename_i e1 e2;cases e1;rename_i k p xs' k' q ys' e1 e2;cases e1;cases e2;split at h;rename_i hk;subst hk;obtain⟨d,hd,hb⟩:=KJ h;rw[a1.1,b1.1];simp only[pU,JU,cg,eT,yr a2 b2 hd,hb];cases h;rename_i p xs' q ys' e1 e2;cases e1;cases e2;obtain⟨d,hd,hb⟩:=KJ h;rw[a1.1,b1.1];simp only[pU,JU,eT,yr a2 b2 hd,hb];rename_i p xs' q ys' e1 e2;cases e1;cases e2;obtain⟨d,hd,hb⟩:=KJ h;rw[a1.1,b1.1];simp only[pU,JU,eT,yr a2 b2 hd,hb,toList_mk];cases h
 |[],[],v::vs,_,_,_,_,r1,_,_=>r1.elim
 |[],[],[],u::us,_,_,_,_,r2,_=>r2.elim
 |x::xs,_,[],_,_,_,_,r1,_,_=>r1.elim
 |_,y::ys,_,[],_,_,_,_,r2,_=>r2.elim
 |[],y::ys,_,_,_,_,_,_,_,h=>by simp[uM]at h
 |x::xs,[],_,_,_,_,_,_,_,h=>by cases x<;>simp[uM]at h
theorem Ek {c:RC}:∀{ls:aw LK}{xs:aw AC}{vs:iS}{f1:fu},bR c vs xs f1->fits ls xs=true->qu ls vs=true
 |[],[],[],_,_,_=>rfl
 |l::ls,x::xs,v::vs,_,r1,h=>by obtain⟨g1,g2,rfl,a1,a2⟩:=r1;cases l<;>cases x<;>simp[fits]at h;rw[a1.1];simpa[qu]using Ek a2 h;rw[a1.1];simpa[qu]using Ek a2 h;rw[a1.1];simpa[qu]using Ek a2 h
 |[],[],v::vs,_,r1,_=>r1.elim
 |_,x::xs,[],_,r1,_=>r1.elim
 |[],x::xs,_,_,_,h=>by simp[fits]at h
 |l::ls,[],_,_,_,h=>by cases l<;>simp[fits]at h
def Se (P:Program)(l:aw (Nat×aw LK)):Prop:=∀t ls,OU l t=some ls->
 jE P 50 t=some ls/\(∃fs,P.underlying t=some (.struct fs))/\P.eqGuardType P.depth t=false
def eqB (P:Program)(t:TypeId)(ls:aw LK):Bool:=
 decide (jE P 50 t=some ls)&&(match P.underlying t with|some (.struct _)=>true|_=>false)&& !(P.eqGuardType P.depth t)
theorem UH {P:Program}:∀{l:aw (Nat×aw LK)},(l.all λx=>eqB P x.1 x.2)=true->Se P l
 |[],_,t,ls,h=>by simp[OU]at h
 |(u,s)::r,hl,t,ls,h=>by simp only[ch,ae]at hl;simp only[OU]at h;cases hu:u==t with|true=>rw[hu]at h;simp at hu h;subst hu;subst h;have h1:=hl.1;simp only[eqB,ae,aH,aJ]at h1;refine⟨h1.1.1,?_,h1.2⟩;have h2:=h1.1.2;split at h2;rename_i fs hfs;exact⟨fs,hfs⟩;cases h2|false=>rw[hu]at h;exact UH hl.2 t ls h
theorem ajK {l:aw (Nat×aw LK)}(hl:Se P l)(ht:OU l t=some ls){c:RC}{xs ys:aw AC}{vs us:iS}{f1 f2:fu}{b:Bool}(r1:bR c vs xs f1)(r2:bR c us ys f2)(hf:fits ls xs=true)(he:uM xs ys=some b)(w:World): (Op.equal t (.agg vs.toArray) (.agg us.toArray)).run P w=.ok b w:=by
 obtain⟨h1,⟨fs,hu⟩,_⟩:=hl t ls ht;have:=Lt h1 Op.maxDepth (by decide) vs us b w (Ek r1 hf) (yr r1 r2 he);have hm:∀zs,zV P t zs=.agg zs.toArray:=λzs=>by simp[zV,hu]
 rw[hm,hm]at this;exact this
end Go.Dn
