import Derived.Test.YtinkcmefgciifaaGreatDnMem
/- '==' of structs, cell by cell. -/
namespace Go.Dn
variable {P:Program} {c:RC} {t:TypeId} {ls:az LK}
def MR:Value->Value->aC Bool
 | .int k a,.int k' b=>if k=k' then some (a==b) else none
 | .bool a,.bool b=>some (a==b)
 | .string a,.string b=>some (a.toList==b.toList)
 |_,_=>none
def rJ:jT->jT->aC Bool
 |[],[]=>some true
 |v::vs,u::us=>(MR v u).bind λa=>(rJ vs us).bind λb=>some (a&&b)
 |_,_=>none
def sy:az LK->jT->Bool
 |[],[]=>true
 | .int::ls,.int _ _::r=>sy ls r
 | .bool::ls,.bool _::r=>sy ls r
 | .str::ls,.string _::r=>sy ls r
 |_,_=>false
def BQ (P:Program)(F:TypeId->aC (az LK)):az Field->Nat->aC (az LK)
 |[],_=>some []
 |f::fs,cur=>
  if f.name≠ "_" /\f.offset=cur then
   match F f.type,P.info? f.type with
   |some ls,some i=>if i.size=ls.length/\0<ls.length then(BQ P F fs (cur+ls.length)).bind λr=>some (ls++r) else none
   |_,_=>none
  else none
def kP (P:Program):Nat->TypeId->aC (az LK)
 |0,_=>none
 |d+1,t=>
  match P.underlying t with
  |some (.int _)=>some [.int]
  |some .bool=>some [.bool]
  |some .string=>some [.str]
  |some (.struct fs)=>if P.stoodInHeld t then none else BQ P (kP P d) fs.toList 0
  |_=>none
theorem HQ {xs ys:jT}:∀{QM ys':jT}{b:Bool},QM.length=ys'.length->rJ (QM++xs) (ys'++ys)=some b->
 ∃b1 b2,rJ QM ys'=some b1/\rJ xs ys=some b2/\b=(b1&&b2)
 |[],[],b,_,h=>⟨true,b,rfl,h,by simp⟩
 |v::vs,u::us,b,hl,h=>by simp only[ik,rJ,aZ]at h;obtain⟨c,h1,d,h2,h3⟩:=h;obtain⟨b1,b2,k1,k2,rfl⟩:=HQ (by simpa using hl) h2;simp at h3;subst h3;exact⟨c&&b1,b2,by simp[rJ,h1,k1],k2,by simp[Bool.and_assoc]⟩
 |[],_::_,_,hl,_=>by simp at hl
 |_::_,[],_,hl,_=>by simp at hl
theorem zv:∀{xs ys:jT}{b:Bool},rJ xs ys=some b->xs.length=ys.length
 |[],[],_,_=>rfl
 |v::vs,u::us,b,h=>by simp only[rJ,aZ]at h;obtain⟨c,_,d,h2,_⟩:=h;simp[zv h2]
 |[],_::_,_,h=>by simp[rJ]at h
 |_::_,[],_,h=>by simp[rJ]at h
theorem Bv:∀{ls:az LK}{xs:jT},sy ls xs=true->xs.length=ls.length
 |[],[],_=>rfl
 |l::ls,x::xs,h=>by cases l<;>cases x<;>simp[sy]at h<;>simp[Bv h]
 |[],_::_,h=>by simp[sy]at h
 |l::ls,[],h=>by cases l<;>simp[sy]at h
theorem Kn:∀{ls ls':az LK}{xs:jT},sy (ls++ls') xs=true->sy ls (xs.take ls.length)=true/\sy ls' (xs.drop ls.length)=true
 |[],_,_,h=>by simpa[sy]using h
 |l::ls,ls',[],h=>by cases l<;>simp[sy]at h
 |l::ls,ls',x::xs,h=>by cases l<;>cases x<;>simp[sy]at h;all_goals have:=Kn h;simpa[sy]using this
def B7 (P:Program)(t:TypeId)(vs:jT):Value:=
 match P.underlying t with
 |some (.struct _)=> .agg vs.toArray
 |_=>vs.getD 0 undef
theorem SK {d:Nat}(h:kP P d t=some ls){i:TypeInfo}(hi:P.info? t=some i)(hs:i.size=ls.length)(cs:jT)(off:Nat)(hl:off+ls.length<=cs.length)(w:World): (part t cs.toArray off).run P w=.ok (B7 P t ((cs.drop off).take ls.length)) w:=by
 have leaf:ls.length=1->(∀fs,P.underlying t≠some (.struct fs))->(isAgg t).run P w=.ok false w->(part t cs.toArray off).run P w=.ok (B7 P t ((cs.drop off).take ls.length)) w:=by
  intro h1 hu ha;rw[h1]at hl⊢;have iz:off<cs.length:=by omega
  have hg:cs.toArray[off]?=some cs[off]:=by simp[aq iz]
  have he:B7 P t ((cs.drop off).take 1)=cs[off]:=by
   have:(cs.drop off).take 1=[cs[off]]:=by rw[bV iz,List.take_succ_cons,List.take_zero]
   rw[this];unfold B7;split;rename_i fs ID;exact absurd ID (hu fs);rfl
  simp only[part,Sem.run_bind,ha,Result.andThen_ok,bj,cy];rw[he,hg];rfl
 cases d with
 |zero=>simp[kP]at h
 |succ d=>
  simp only[kP]at h;cases hu:P.underlying t with
  |none=>rw[hu]at h;simp at h
  |some x=>
   rw[hu]at h;cases x<;>simp at h;exact leaf (by rw[<-h];rfl) (by simp[hu]) (by simp[isAgg,underlying,hu]);exact leaf (by rw[<-h];rfl) (by simp[hu]) (by simp[isAgg,underlying,hu]);exact leaf (by rw[<-h];rfl) (by simp[hu]) (by simp[isAgg,underlying,hu]);rename_i fs;have ha:(isAgg t).run P w=.ok true w:=by simp[isAgg,underlying,hu]
   simp only[part,Sem.run_bind,ha,Result.andThen_ok,cr,sizeOf,typeInfo,run_program,hi,Sem.run_pure,hs,B7,hu];congr 2;simp[List.extract_eq_take_drop]
theorem On:∀{d:Nat}{t:TypeId}{ls:az LK},kP P d t=some ls->∀(D:Nat),d<=D->∀(xs ys:jT)(b:Bool)(w:World),sy ls xs=true->rJ xs ys=some b->
 (Op.equalIn D t (B7 P t xs) (B7 P t ys)).run P w=.ok b w
 |0,t,ls,h,_,_,_,_,_,_,_,_=>by simp[kP]at h
 |d+1,t,ls,h,0,hD,_,_,_,_,_,_=>by omega
 |d+1,t,ls,h,D+1,hD,xs,ys,b,w,hf,he=>by
  have hly:=zv he;have hlx:=Bv hf;simp only[kP]at h
  have leaf:∀(x:TypeDesc)(l:LK),P.underlying t=some x->ls=[l]->(∀fs,x≠ .struct fs)->
   (∀u v c,sy [l] [u]=true->MR u v=some c->(Op.equalIn (D+1) t u v).run P w=.ok c w)->(Op.equalIn (D+1) t (B7 P t xs) (B7 P t ys)).run P w=.ok b w:=by
   intro x l hu hls hns fG
   subst hls
   obtain⟨u,rfl⟩:=List.length_eq_one_iff.1 (by simpa using hlx)
   obtain⟨v,rfl⟩:=List.length_eq_one_iff.1 (by simpa using hly.symm)
   have hm:∀z,B7 P t [z]=z:=by intro z;unfold B7;rw[hu];split;rename_i fs ID;simp at ID;exact absurd ID (hns fs);rfl
   rw[hm,hm]
   refine fG u v b hf ?_
   simp only[rJ,aZ]at he
   obtain⟨c,h1,d,h2,h3⟩:=he
   simp at h2 h3;subst h2
   simp at h3;subst h3
   exact h1
  cases hu:P.underlying t with
  |none=>rw[hu]at h;simp at h
  |some x=>
   rw[hu]at h;cases x with
   |int k=>simp at h;refine leaf _ .int hu h.symm (by simp) (λu v c hv hq=>?_);cases u<;>simp[sy]at hv;cases v<;>simp[MR]at hq;obtain⟨rfl,rfl⟩:=hq;exact run_equalIn_int w D t _ k _ _ hu
   |bool=>simp at h;refine leaf _ .bool hu h.symm (by simp) (λu v c hv hq=>?_);cases u<;>simp[sy]at hv;cases v<;>simp[MR]at hq;subst hq;exact run_equalIn_bool' w D t _ _ hu
   |string=>simp at h;refine leaf _ .str hu h.symm (by simp) (λu v c hv hq=>?_);cases u<;>simp[sy]at hv;cases v<;>simp[MR]at hq;subst hq;exact run_equalIn_string w D t _ _ hu
   |struct fs=>
    simp only at h;by_cases oB:P.stoodInHeld t=true;rw[aJ oB]at h;cases h;rw[aI oB]at h;have oB:P.stoodInHeld t=false:=by simpa using oB
    have hfo:P.fieldsOf t=fs:=by simp[Program.fieldsOf,hu]
    have hmk:∀zs,B7 P t zs=.agg zs.toArray:=λzs=>by simp[B7,hu]
    rw[hmk,hmk,run_equalIn_struct w D t _ _ (by rw[hfo];exact hu) oB,hfo]
    have main:∀(fl:az Field)(cur:Nat)(ls:az LK),BQ P (kP P d) fl cur=some ls->∀(b:Bool),cur<=xs.length->sy ls (xs.drop cur)=true->rJ (xs.drop cur) (ys.drop cur)=some b->
     (Op.eqFields D xs.toArray ys.toArray fl).run P w=.ok b w:=by
     intro fl
     induction fl with
     |nil=>
      intro cur ls hl b hcur hv hq
      simp[BQ]at hl
      subst hl
      have h1:=Bv hv
      have h2:=zv hq
      have e1:xs.drop cur=[]:=cp (by simpa using h1)
      have e2:ys.drop cur=[]:=cp (by rw[<-h2,e1];rfl)
      rw[e1,e2]at hq
      simp[rJ]at hq
      subst hq
      simp[Op.eqFields]
     |cons f fl ih=>
      intro cur ls hl b hcur hv hq
      simp only[BQ]at hl
      split at hl
      ·rename_i hc
       split at hl
       ·rename_i ls1 i h1 hi
        split at hl
        ·rename_i wq
         simp only[aZ]at hl
         obtain⟨ls2,h2,h3⟩:=hl
         simp at h3;subst h3
         have Ur:=Kn hv
         have hvl:=Bv hv
         simp only[aP,aj]at hvl
         have hql:=zv hq
         simp only[aP]at hql
         have ex:xs.drop cur=(xs.drop cur).take ls1.length++(xs.drop cur).drop ls1.length:=(cC _ _).symm
         have ey:ys.drop cur=(ys.drop cur).take ls1.length++(ys.drop cur).drop ls1.length:=(cC _ _).symm
         rw[ex,ey]at hq
         obtain⟨b1,b2,q1,q2,rfl⟩:=HQ (by simp;omega) hq
         rw[eZ]at q2 Ur
         have p1:=SK h1 hi wq.1 xs cur (by omega) w
         have p2:=SK h1 hi wq.1 ys cur (by omega) w
         have r1:=On h1 D (by omega) _ _ b1 w Ur.1 q1
         rw[eZ]at q2
         have r2:=ih (cur+ls1.length) ls2 h2 b2 (by omega) Ur.2 q2
         simp only[Op.eqFields,hc.1,ne_eq,not_false_eq_true,cr,hc.2,Sem.run_bind,p1,p2,Result.andThen_ok,r1]
         cases b1
         ·simp
         ·simpa using r2
        ·cases hl
       ·cases hl
      ·cases hl
    exact main fs.toList 0 ls h b (bM _) (by simpa using hf) (by simpa using he)
   |_=>simp at h
theorem toList_mk (s:az UInt8):(ByteArray.mk s.toArray).toList=s:=by rw[ByteArray.toList_eq]
theorem NU {o:aC Bool}{p b:Bool}(h:(o.bind λd=>some (p&&d))=some b):∃d,o=some d/\(p&&d)=b:=by cases o with|none=>simp at h|some d=>exact⟨d,rfl,by simpa using h⟩
theorem AI:∀{xs ys:az AC}{vs us:jT}{f1 f2:gk}{b:Bool},bT c vs xs f1->bT c us ys f2->wB xs ys=some b->rJ vs us=some b
 |[],[],[],[],_,_,_,_,_,h=>h
 |x::xs,y::ys,v::vs,u::us,_,_,b,r1,r2,h=>by obtain⟨g1,g2,rfl,a1,a2⟩:=r1;obtain⟨h1,h2,rfl,b1,b2⟩:=r2;unfold wB at h;split at h;rename_i e1 e2;cases e1;rename_i k p QM k' q ys' e1 e2;cases e1;cases e2;split at h;rename_i hk;subst hk;obtain⟨d,hd,hb⟩:=NU h;rw[a1.1,b1.1];simp only[rJ,MR,cr,fM,AI a2 b2 hd,hb];cases h;rename_i p QM q ys' e1 e2;cases e1;cases e2;obtain⟨d,hd,hb⟩:=NU h;rw[a1.1,b1.1];simp only[rJ,MR,fM,AI a2 b2 hd,hb];rename_i p QM q ys' e1 e2;cases e1;cases e2;obtain⟨d,hd,hb⟩:=NU h;rw[a1.1,b1.1];simp only[rJ,MR,fM,AI a2 b2 hd,hb,toList_mk];cases h
 |[],[],v::vs,_,_,_,_,r1,_,_=>r1.elim
 |[],[],[],u::us,_,_,_,_,r2,_=>r2.elim
 |x::xs,_,[],_,_,_,_,r1,_,_=>r1.elim
 |_,y::ys,_,[],_,_,_,_,r2,_=>r2.elim
 |[],y::ys,_,_,_,_,_,_,_,h=>by simp[wB]at h
 |x::xs,[],_,_,_,_,_,_,_,h=>by cases x<;>simp[wB]at h
theorem GP:∀{ls:az LK}{xs:az AC}{vs:jT}{f1:gk},bT c vs xs f1->fits ls xs=true->sy ls vs=true
 |[],[],[],_,_,_=>rfl
 |l::ls,x::xs,v::vs,_,r1,h=>by obtain⟨g1,g2,rfl,a1,a2⟩:=r1;cases l<;>cases x<;>simp[fits]at h;rw[a1.1];simpa[sy]using GP a2 h;rw[a1.1];simpa[sy]using GP a2 h;rw[a1.1];simpa[sy]using GP a2 h
 |[],[],v::vs,_,r1,_=>r1.elim
 |_,x::xs,[],_,r1,_=>r1.elim
 |[],x::xs,_,_,_,h=>by simp[fits]at h
 |l::ls,[],_,_,_,h=>by cases l<;>simp[fits]at h
def Vw (P:Program)(l:az (Nat×az LK)):Prop:=∀t ls,St l t=some ls->
 kP P 50 t=some ls/\(∃fs,P.underlying t=some (.struct fs))/\P.eqGuardType P.depth t=false
def eqB (P:Program)(t:TypeId)(ls:az LK):Bool:=
 decide (kP P 50 t=some ls)&&(match P.underlying t with|some (.struct _)=>true|_=>false)&& !(P.eqGuardType P.depth t)
theorem Xg:∀{l:az (Nat×az LK)},(l.all λx=>eqB P x.1 x.2)=true->Vw P l
 |[],_,t,ls,h=>by simp[St]at h
 |(u,s)::r,hl,t,ls,h=>by simp only[cw,ae]at hl;simp only[St]at h;cases hu:u==t with|true=>rw[hu]at h;simp at hu h;subst hu;subst h;have h1:=hl.1;simp only[eqB,ae,aG,aN]at h1;refine⟨h1.1.1,?_,h1.2⟩;have h2:=h1.1.2;split at h2;rename_i fs ID;exact⟨fs,ID⟩;cases h2|false=>rw[hu]at h;exact Xg hl.2 t ls h
theorem alD {l:az (Nat×az LK)}(hl:Vw P l)(ht:St l t=some ls){xs ys:az AC}{vs us:jT}{f1 f2:gk}{b:Bool}(r1:bT c vs xs f1)(r2:bT c us ys f2)(hf:fits ls xs=true)(he:wB xs ys=some b)(w:World): (Op.equal t (.agg vs.toArray) (.agg us.toArray)).run P w=.ok b w:=by
 obtain⟨h1,⟨fs,hu⟩,_⟩:=hl t ls ht;have:=On h1 Op.maxDepth (by decide) vs us b w (GP r1 hf) (AI r1 r2 he);have hm:∀zs,B7 P t zs=.agg zs.toArray:=λzs=>by simp[B7,hu]
 rw[hm,hm]at this;exact this
end Go.Dn
