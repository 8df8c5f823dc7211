import Derived.Test.YtnmppgnbjfdffaaGreatDnMem
/- '==' of structs, cell by cell. -/
namespace Go.Dn
variable {P:Program} {c:RC} {t:TypeId} {ls:ay LK}
def KK:Value->Value->aC Bool
 | .int k a,.int k' b=>if k=k' then some (a==b) else none
 | .bool a,.bool b=>some (a==b)
 | .string a,.string b=>some (a.toList==b.toList)
 |_,_=>none
def qi:jz->jz->aC Bool
 |[],[]=>some true
 |v::vs,u::us=>(KK v u).bind λa=>(qi vs us).bind λb=>some (a&&b)
 |_,_=>none
def qI:ay LK->jz->Bool
 |[],[]=>true
 | .int::ls,.int _ _::r=>qI ls r
 | .bool::ls,.bool _::r=>qI ls r
 | .str::ls,.string _::r=>qI ls r
 |_,_=>false
def zU (P:Program)(F:TypeId->aC (ay LK)):ay Field->Nat->aC (ay LK)
 |[],_=>some []
 |f::fs,cur=>
  if f.name≠ "_" /\f.offset=cur then
   match F f.type,P.info? f.type with
   |some ls,some i=>if i.size=ls.length/\0<ls.length then(zU P F fs (cur+ls.length)).bind λr=>some (ls++r) else none
   |_,_=>none
  else none
def kc (P:Program):Nat->TypeId->aC (ay LK)
 |0,_=>none
 |d+1,t=>
  match P.underlying t with
  |some (.int _)=>some [.int]
  |some .bool=>some [.bool]
  |some .string=>some [.str]
  |some (.struct fs)=>if P.stoodInHeld t then none else zU P (kc P d) fs.toList 0
  |_=>none
theorem F6 {xs ys:jz}:∀{Oe ys':jz}{b:Bool},Oe.length=ys'.length->qi (Oe++xs) (ys'++ys)=some b->
 ∃b1 b2,qi Oe ys'=some b1/\qi xs ys=some b2/\b=(b1&&b2)
 |[],[],b,_,h=>⟨true,b,rfl,h,by simp⟩
 |v::vs,u::us,b,hl,h=>by simp only[gO,qi,aW]at h;obtain⟨c,h1,d,h2,h3⟩:=h;obtain⟨b1,b2,k1,k2,rfl⟩:=F6 (by simpa using hl) h2;simp at h3;subst h3;exact⟨c&&b1,b2,by simp[qi,h1,k1],k2,by simp[Bool.and_assoc]⟩
 |[],_::_,_,hl,_=>by simp at hl
 |_::_,[],_,hl,_=>by simp at hl
theorem xI:∀{xs ys:jz}{b:Bool},qi xs ys=some b->xs.length=ys.length
 |[],[],_,_=>rfl
 |v::vs,u::us,b,h=>by simp only[qi,aW]at h;obtain⟨c,_,d,h2,_⟩:=h;simp[xI h2]
 |[],_::_,_,h=>by simp[qi]at h
 |_::_,[],_,h=>by simp[qi]at h
theorem zC:∀{ls:ay LK}{xs:jz},qI ls xs=true->xs.length=ls.length
 |[],[],_=>rfl
 |l::ls,x::xs,h=>by cases l<;>cases x<;>simp[qI]at h<;>simp[zC h]
 |[],_::_,h=>by simp[qI]at h
 |l::ls,[],h=>by cases l<;>simp[qI]at h
theorem Iw:∀{ls ls':ay LK}{xs:jz},qI (ls++ls') xs=true->qI ls (xs.take ls.length)=true/\qI ls' (xs.drop ls.length)=true
 |[],_,_,h=>by simpa[qI]using h
 |l::ls,ls',[],h=>by cases l<;>simp[qI]at h
 |l::ls,ls',x::xs,h=>by cases l<;>cases x<;>simp[qI]at h;all_goals have:=Iw h;simpa[qI]using this
def Am (P:Program)(t:TypeId)(vs:jz):Value:=
 match P.underlying t with
 |some (.struct _)=> .agg vs.toArray
 |_=>vs.getD 0 undef
theorem Qf {d:Nat}(h:kc P d t=some ls){i:TypeInfo}(hi:P.info? t=some i)(hs:i.size=ls.length)(cs:jz)(off:Nat)(hl:off+ls.length<=cs.length)(w:World): (part t cs.toArray off).run P w=.ok (Am P t ((cs.drop off).take ls.length)) w:=by
 have leaf:ls.length=1->(∀fs,P.underlying t≠some (.struct fs))->(isAgg t).run P w=.ok false w->(part t cs.toArray off).run P w=.ok (Am P t ((cs.drop off).take ls.length)) w:=by
  intro h1 hu ha;rw[h1]at hl⊢;have ir:off<cs.length:=by omega
  have hg:cs.toArray[off]?=some cs[off]:=by simp[aw ir]
  have he:Am P t ((cs.drop off).take 1)=cs[off]:=by
   have:(cs.drop off).take 1=[cs[off]]:=by rw[ca ir,List.take_succ_cons,List.take_zero]
   rw[this];unfold Am;split;rename_i fs GP;exact absurd GP (hu fs);rfl
  simp only[part,Sem.run_bind,ha,Result.andThen_ok,bh,cn];rw[he,hg];rfl
 cases d with
 |zero=>simp[kc]at h
 |succ d=>
  simp only[kc]at h;cases hu:P.underlying t with
  |none=>rw[hu]at h;simp at h
  |some x=>
   rw[hu]at h;cases x<;>simp at h;exact leaf (by rw[<-h];rfl) (by simp[hu]) (by simp[isAgg,underlying,hu]);exact leaf (by rw[<-h];rfl) (by simp[hu]) (by simp[isAgg,underlying,hu]);exact leaf (by rw[<-h];rfl) (by simp[hu]) (by simp[isAgg,underlying,hu]);rename_i fs;have ha:(isAgg t).run P w=.ok true w:=by simp[isAgg,underlying,hu]
   simp only[part,Sem.run_bind,ha,Result.andThen_ok,cc,sizeOf,typeInfo,run_program,hi,Sem.run_pure,hs,Am,hu];congr 2;simp[List.extract_eq_take_drop]
theorem L5:∀{d:Nat}{t:TypeId}{ls:ay LK},kc P d t=some ls->∀(D:Nat),d<=D->∀(xs ys:jz)(b:Bool)(w:World),qI ls xs=true->qi xs ys=some b->
 (Op.equalIn D t (Am P t xs) (Am P t ys)).run P w=.ok b w
 |0,t,ls,h,_,_,_,_,_,_,_,_=>by simp[kc]at h
 |d+1,t,ls,h,0,hD,_,_,_,_,_,_=>by omega
 |d+1,t,ls,h,D+1,hD,xs,ys,b,w,hf,he=>by
  have hly:=xI he;have hlx:=zC hf;simp only[kc]at h
  have leaf:∀(x:TypeDesc)(l:LK),P.underlying t=some x->ls=[l]->(∀fs,x≠ .struct fs)->
   (∀u v c,qI [l] [u]=true->KK u v=some c->(Op.equalIn (D+1) t u v).run P w=.ok c w)->(Op.equalIn (D+1) t (Am P t xs) (Am P t ys)).run P w=.ok b w:=by
   intro x l hu hls hns fb
   subst hls
   obtain⟨u,rfl⟩:=List.length_eq_one_iff.1 (by simpa using hlx)
   obtain⟨v,rfl⟩:=List.length_eq_one_iff.1 (by simpa using hly.symm)
   have hm:∀z,Am P t [z]=z:=by intro z;unfold Am;rw[hu];split;rename_i fs GP;simp at GP;exact absurd GP (hns fs);rfl
   rw[hm,hm]
   refine fb u v b hf ?_
   simp only[qi,aW]at he
   obtain⟨c,h1,d,h2,h3⟩:=he
   simp at h2 h3;subst h2
   simp at h3;subst h3
   exact h1
  cases hu:P.underlying t with
  |none=>rw[hu]at h;simp at h
  |some x=>
   rw[hu]at h;cases x with
   |int k=>simp at h;refine leaf _ .int hu h.symm (by simp) (λu v c hv hq=>?_);cases u<;>simp[qI]at hv;cases v<;>simp[KK]at hq;obtain⟨rfl,rfl⟩:=hq;exact run_equalIn_int w D t _ k _ _ hu
   |bool=>simp at h;refine leaf _ .bool hu h.symm (by simp) (λu v c hv hq=>?_);cases u<;>simp[qI]at hv;cases v<;>simp[KK]at hq;subst hq;exact run_equalIn_bool' w D t _ _ hu
   |string=>simp at h;refine leaf _ .str hu h.symm (by simp) (λu v c hv hq=>?_);cases u<;>simp[qI]at hv;cases v<;>simp[KK]at hq;subst hq;exact run_equalIn_string w D t _ _ hu
   |struct fs=>
    simp only at h;by_cases nt:P.stoodInHeld t=true;rw[aF nt]at h;cases h;rw[aH nt]at h;have nt:P.stoodInHeld t=false:=by simpa using nt
    have hfo:P.fieldsOf t=fs:=by simp[Program.fieldsOf,hu]
    have hmk:∀zs,Am P t zs=.agg zs.toArray:=λzs=>by simp[Am,hu]
    rw[hmk,hmk,run_equalIn_struct w D t _ _ (by rw[hfo];exact hu) nt,hfo]
    have main:∀(fl:ay Field)(cur:Nat)(ls:ay LK),zU P (kc P d) fl cur=some ls->∀(b:Bool),cur<=xs.length->qI ls (xs.drop cur)=true->qi (xs.drop cur) (ys.drop cur)=some b->
     (Op.eqFields D xs.toArray ys.toArray fl).run P w=.ok b w:=by
     intro fl
     induction fl with
     |nil=>
      intro cur ls hl b hcur hv hq
      simp[zU]at hl
      subst hl
      have h1:=zC hv
      have h2:=xI hq
      have e1:xs.drop cur=[]:=bZ (by simpa using h1)
      have e2:ys.drop cur=[]:=bZ (by rw[<-h2,e1];rfl)
      rw[e1,e2]at hq
      simp[qi]at hq
      subst hq
      simp[Op.eqFields]
     |cons f fl ih=>
      intro cur ls hl b hcur hv hq
      simp only[zU]at hl
      split at hl
      ·rename_i hc
       split at hl
       ·rename_i ls1 i h1 hi
        split at hl
        ·rename_i uL
         simp only[aW]at hl
         obtain⟨ls2,h2,h3⟩:=hl
         simp at h3;subst h3
         have RQ:=Iw hv
         have V2:=zC hv
         simp only[aP,aj]at V2
         have hql:=xI hq
         simp only[aP]at hql
         have ex:xs.drop cur=(xs.drop cur).take ls1.length++(xs.drop cur).drop ls1.length:=(cz _ _).symm
         have ey:ys.drop cur=(ys.drop cur).take ls1.length++(ys.drop cur).drop ls1.length:=(cz _ _).symm
         rw[ex,ey]at hq
         obtain⟨b1,b2,q1,q2,rfl⟩:=F6 (by simp;omega) hq
         rw[eO]at q2 RQ
         have p1:=Qf h1 hi uL.1 xs cur (by omega) w
         have p2:=Qf h1 hi uL.1 ys cur (by omega) w
         have r1:=L5 h1 D (by omega) _ _ b1 w RQ.1 q1
         rw[eO]at q2
         have r2:=ih (cur+ls1.length) ls2 h2 b2 (by omega) RQ.2 q2
         simp only[Op.eqFields,hc.1,ne_eq,not_false_eq_true,cc,hc.2,Sem.run_bind,p1,p2,Result.andThen_ok,r1]
         cases b1
         ·simp
         ·simpa using r2
        ·cases hl
       ·cases hl
      ·cases hl
    exact main fs.toList 0 ls h b (cq _) (by simpa using hf) (by simpa using he)
   |_=>simp at h
theorem toList_mk (s:ay UInt8):(ByteArray.mk s.toArray).toList=s:=by rw[ByteArray.toList_eq]
theorem LG {o:aC Bool}{p b:Bool}(h:(o.bind λd=>some (p&&d))=some b):∃d,o=some d/\(p&&d)=b:=by cases o with|none=>simp at h|some d=>exact⟨d,rfl,by simpa using h⟩
theorem yJ:∀{xs ys:ay AC}{vs us:jz}{f1 f2:fR}{b:Bool},bR c vs xs f1->bR c us ys f2->uU xs ys=some b->qi vs us=some b
 |[],[],[],[],_,_,_,_,_,h=>h
 |x::xs,y::ys,v::vs,u::us,_,_,b,r1,r2,h=>by obtain⟨g1,g2,rfl,a1,a2⟩:=r1;obtain⟨h1,h2,rfl,b1,b2⟩:=r2;unfold uU at h;split at h;rename_i e1 e2;cases e1;rename_i k p Oe k' q ys' e1 e2;cases e1;cases e2;split at h;rename_i hk;subst hk;obtain⟨d,hd,hb⟩:=LG h;rw[a1.1,b1.1];simp only[qi,KK,cc,fg,yJ a2 b2 hd,hb];cases h;rename_i p Oe q ys' e1 e2;cases e1;cases e2;obtain⟨d,hd,hb⟩:=LG h;rw[a1.1,b1.1];simp only[qi,KK,fg,yJ a2 b2 hd,hb];rename_i p Oe q ys' e1 e2;cases e1;cases e2;obtain⟨d,hd,hb⟩:=LG h;rw[a1.1,b1.1];simp only[qi,KK,fg,yJ a2 b2 hd,hb,toList_mk];cases h
 |[],[],v::vs,_,_,_,_,r1,_,_=>r1.elim
 |[],[],[],u::us,_,_,_,_,r2,_=>r2.elim
 |x::xs,_,[],_,_,_,_,r1,_,_=>r1.elim
 |_,y::ys,_,[],_,_,_,_,r2,_=>r2.elim
 |[],y::ys,_,_,_,_,_,_,_,h=>by simp[uU]at h
 |x::xs,[],_,_,_,_,_,_,_,h=>by cases x<;>simp[uU]at h
theorem E6:∀{ls:ay LK}{xs:ay AC}{vs:jz}{f1:fR},bR c vs xs f1->fits ls xs=true->qI ls vs=true
 |[],[],[],_,_,_=>rfl
 |l::ls,x::xs,v::vs,_,r1,h=>by obtain⟨g1,g2,rfl,a1,a2⟩:=r1;cases l<;>cases x<;>simp[fits]at h;rw[a1.1];simpa[qI]using E6 a2 h;rw[a1.1];simpa[qI]using E6 a2 h;rw[a1.1];simpa[qI]using E6 a2 h
 |[],[],v::vs,_,r1,_=>r1.elim
 |_,x::xs,[],_,r1,_=>r1.elim
 |[],x::xs,_,_,_,h=>by simp[fits]at h
 |l::ls,[],_,_,_,h=>by cases l<;>simp[fits]at h
def SU (P:Program)(l:ay (Nat×ay LK)):Prop:=∀t ls,PZ l t=some ls->
 kc P 50 t=some ls/\(∃fs,P.underlying t=some (.struct fs))/\P.eqGuardType P.depth t=false
def eqB (P:Program)(t:TypeId)(ls:ay LK):Bool:=
 decide (kc P 50 t=some ls)&&(match P.underlying t with|some (.struct _)=>true|_=>false)&& !(P.eqGuardType P.depth t)
theorem UF:∀{l:ay (Nat×ay LK)},(l.all λx=>eqB P x.1 x.2)=true->SU P l
 |[],_,t,ls,h=>by simp[PZ]at h
 |(u,s)::r,hl,t,ls,h=>by simp only[cv,ab]at hl;simp only[PZ]at h;cases hu:u==t with|true=>rw[hu]at h;simp at hu h;subst hu;subst h;have h1:=hl.1;simp only[eqB,ab,aE,aN]at h1;refine⟨h1.1.1,?_,h1.2⟩;have h2:=h1.1.2;split at h2;rename_i fs GP;exact⟨fs,GP⟩;cases h2|false=>rw[hu]at h;exact UF hl.2 t ls h
theorem ai6 {l:ay (Nat×ay LK)}(hl:SU P l)(ht:PZ l t=some ls){xs ys:ay AC}{vs us:jz}{f1 f2:fR}{b:Bool}(r1:bR c vs xs f1)(r2:bR c us ys f2)(hf:fits ls xs=true)(he:uU xs ys=some b)(w:World): (Op.equal t (.agg vs.toArray) (.agg us.toArray)).run P w=.ok b w:=by
 obtain⟨h1,⟨fs,hu⟩,_⟩:=hl t ls ht;have:=L5 h1 Op.maxDepth (by decide) vs us b w (E6 r1 hf) (yJ r1 r2 he);have hm:∀zs,Am P t zs=.agg zs.toArray:=λzs=>by simp[Am,hu]
 rw[hm,hm]at this;exact this
end Go.Dn
