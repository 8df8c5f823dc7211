import Derived.Test.YtbebkmajekhclaaGreatDnMem
/- '==' of structs, cell by cell. -/
namespace Go.Dn
variable {P:Program} {c:RC} {t:TypeId} {ls:aw LK}
def M7:Value->Value->ay Bool
 | .int k a,.int k' b=>if k=k' then some (a==b) else none
 | .bool a,.bool b=>some (a==b)
 | .string a,.string b=>some (a.toList==b.toList)
 |_,_=>none
def qS:jd->jd->ay Bool
 |[],[]=>some true
 |v::vs,u::us=>(M7 v u).bind λa=>(qS vs us).bind λb=>some (a&&b)
 |_,_=>none
def rD:aw LK->jd->Bool
 |[],[]=>true
 | .int::ls,.int _ _::r=>rD ls r
 | .bool::ls,.bool _::r=>rD ls r
 | .str::ls,.string _::r=>rD ls r
 |_,_=>false
def BK (P:Program)(F:TypeId->ay (aw LK)):aw Field->Nat->ay (aw LK)
 |[],_=>some []
 |f::fs,cur=>
  if f.name≠ "_" /\f.offset=cur then
   match F f.type,P.info? f.type with
   |some ls,some i=>if i.size=ls.length/\0<ls.length then(BK P F fs (cur+ls.length)).bind λr=>some (ls++r) else none
   |_,_=>none
  else none
def jU (P:Program):Nat->TypeId->ay (aw LK)
 |0,_=>none
 |d+1,t=>
  match P.underlying t with
  |some (.int _)=>some [.int]
  |some .bool=>some [.bool]
  |some .string=>some [.str]
  |some (.struct fs)=>if P.stoodInHeld t then none else BK P (jU P d) fs.toList 0
  |_=>none
theorem H0 {xs ys:jd}:∀{QM ys':jd}{b:Bool},QM.length=ys'.length->qS (QM++xs) (ys'++ys)=some b->
 ∃b1 b2,qS QM ys'=some b1/\qS xs ys=some b2/\b=(b1&&b2)
 |[],[],b,_,h=>⟨true,b,rfl,h,by simp⟩
 |v::vs,u::us,b,hl,h=>by simp only[List.cons_append,qS,aS]at h;obtain⟨c,h1,d,h2,h3⟩:=h;obtain⟨b1,b2,k1,k2,rfl⟩:=H0 (by simpa using hl) h2;simp at h3;subst h3;exact⟨c&&b1,b2,by simp[qS,h1,k1],k2,by simp[Bool.and_assoc]⟩
 |[],_::_,_,hl,_=>by simp at hl
 |_::_,[],_,hl,_=>by simp at hl
theorem zj:∀{xs ys:jd}{b:Bool},qS xs ys=some b->xs.length=ys.length
 |[],[],_,_=>rfl
 |v::vs,u::us,b,h=>by simp only[qS,aS]at h;obtain⟨c,_,d,h2,_⟩:=h;simp[zj h2]
 |[],_::_,_,h=>by simp[qS]at h
 |_::_,[],_,h=>by simp[qS]at h
theorem Bl:∀{ls:aw LK}{xs:jd},rD ls xs=true->xs.length=ls.length
 |[],[],_=>rfl
 |l::ls,x::xs,h=>by cases l<;>cases x<;>simp[rD]at h<;>simp[Bl h]
 |[],_::_,h=>by simp[rD]at h
 |l::ls,[],h=>by cases l<;>simp[rD]at h
theorem KF:∀{ls ls':aw LK}{xs:jd},rD (ls++ls') xs=true->rD ls (xs.take ls.length)=true/\rD ls' (xs.drop ls.length)=true
 |[],_,_,h=>by simpa[rD]using h
 |l::ls,ls',[],h=>by cases l<;>simp[rD]at h
 |l::ls,ls',x::xs,h=>by cases l<;>cases x<;>simp[rD]at h;all_goals have:=KF h;simpa[rD]using this
def BZ (P:Program)(t:TypeId)(vs:jd):Value:=
 match P.underlying t with
 |some (.struct _)=> .agg vs.toArray
 |_=>vs.getD 0 undef
theorem SO {d:Nat}(h:jU P d t=some ls){i:TypeInfo}(hi:P.info? t=some i)(hs:i.size=ls.length)(cs:jd)(off:Nat)(hl:off+ls.length<=cs.length)(w:World): (part t cs.toArray off).run P w=.ok (BZ P t ((cs.drop off).take ls.length)) w:=by
 have leaf:ls.length=1->(∀fs,P.underlying t≠some (.struct fs))->(isAgg t).run P w=.ok false w->(part t cs.toArray off).run P w=.ok (BZ P t ((cs.drop off).take ls.length)) w:=by
  intro h1 hu ha;rw[h1]at hl⊢;have gF:off<cs.length:=by omega
  have hg:cs.toArray[off]?=some cs[off]:=by simp[ak gF]
  have he:BZ P t ((cs.drop off).take 1)=cs[off]:=by
   have:(cs.drop off).take 1=[cs[off]]:=by rw[ca gF,List.take_succ_cons,List.take_zero]
   rw[this];unfold BZ;split;rename_i fs IU;exact absurd IU (hu fs);rfl
  simp only[part,Sem.run_bind,ha,Result.andThen_ok,bm,cv];rw[he,hg];rfl
 cases d with
 |zero=>simp[jU]at h
 |succ d=>
  simp only[jU]at h;cases hu:P.underlying t with
  |none=>rw[hu]at h;simp at h
  |some x=>
   rw[hu]at h;cases x<;>simp at h;exact leaf (by rw[<-h];rfl) (by simp[hu]) (by simp[isAgg,underlying,hu]);exact leaf (by rw[<-h];rfl) (by simp[hu]) (by simp[isAgg,underlying,hu]);exact leaf (by rw[<-h];rfl) (by simp[hu]) (by simp[isAgg,underlying,hu]);rename_i fs;have ha:(isAgg t).run P w=.ok true w:=by simp[isAgg,underlying,hu]
   simp only[part,Sem.run_bind,ha,Result.andThen_ok,cg,sizeOf,typeInfo,run_program,hi,Sem.run_pure,hs,BZ,hu];congr 2;simp[List.extract_eq_take_drop]
theorem Oz:∀{d:Nat}{t:TypeId}{ls:aw LK},jU P d t=some ls->∀(D:Nat),d<=D->∀(xs ys:jd)(b:Bool)(w:World),rD ls xs=true->qS xs ys=some b->
 (Op.equalIn D t (BZ P t xs) (BZ P t ys)).run P w=.ok b w
 |0,t,ls,h,_,_,_,_,_,_,_,_=>by simp[jU]at h
 |d+1,t,ls,h,0,hD,_,_,_,_,_,_=>by omega
 |d+1,t,ls,h,D+1,hD,xs,ys,b,w,hf,he=>by
  have hly:=zj he;have hlx:=Bl hf;simp only[jU]at h
  have leaf:∀(x:TypeDesc)(l:LK),P.underlying t=some x->ls=[l]->(∀fs,x≠ .struct fs)->
   (∀u v c,rD [l] [u]=true->M7 u v=some c->(Op.equalIn (D+1) t u v).run P w=.ok c w)->(Op.equalIn (D+1) t (BZ P t xs) (BZ P t ys)).run P w=.ok b w:=by
   intro x l hu hls hns eU
   subst hls
   obtain⟨u,rfl⟩:=List.length_eq_one_iff.1 (by simpa using hlx)
   obtain⟨v,rfl⟩:=List.length_eq_one_iff.1 (by simpa using hly.symm)
   have hm:∀z,BZ P t [z]=z:=by intro z;unfold BZ;rw[hu];split;rename_i fs IU;simp at IU;exact absurd IU (hns fs);rfl
   rw[hm,hm]
   refine eU u v b hf ?_
   simp only[qS,aS]at he
   obtain⟨c,h1,d,h2,h3⟩:=he
   simp at h2 h3;subst h2
   simp at h3;subst h3
   exact h1
  cases hu:P.underlying t with
  |none=>rw[hu]at h;simp at h
  |some x=>
   rw[hu]at h;cases x with
   |int k=>simp at h;refine leaf _ .int hu h.symm (by simp) (λu v c hv hq=>?_);cases u<;>simp[rD]at hv;cases v<;>simp[M7]at hq;obtain⟨rfl,rfl⟩:=hq;exact run_equalIn_int w D t _ k _ _ hu
   |bool=>simp at h;refine leaf _ .bool hu h.symm (by simp) (λu v c hv hq=>?_);cases u<;>simp[rD]at hv;cases v<;>simp[M7]at hq;subst hq;exact run_equalIn_bool' w D t _ _ hu
   |string=>simp at h;refine leaf _ .str hu h.symm (by simp) (λu v c hv hq=>?_);cases u<;>simp[rD]at hv;cases v<;>simp[M7]at hq;subst hq;exact run_equalIn_string w D t _ _ hu
   |struct fs=>
    simp only at h;by_cases nA:P.stoodInHeld t=true;rw[aH nA]at h;cases h;rw[aG nA]at h;have nA:P.stoodInHeld t=false:=by simpa using nA
    have hfo:P.fieldsOf t=fs:=by simp[Program.fieldsOf,hu]
    have hmk:∀zs,BZ P t zs=.agg zs.toArray:=λzs=>by simp[BZ,hu]
    rw[hmk,hmk,run_equalIn_struct w D t _ _ (by rw[hfo];exact hu) nA,hfo]
    have main:∀(fl:aw Field)(cur:Nat)(ls:aw LK),BK P (jU P d) fl cur=some ls->∀(b:Bool),cur<=xs.length->rD ls (xs.drop cur)=true->qS (xs.drop cur) (ys.drop cur)=some b->
     (Op.eqFields D xs.toArray ys.toArray fl).run P w=.ok b w:=by
     intro fl
     induction fl with
     |nil=>
      intro cur ls hl b hcur hv hq
      simp[BK]at hl
      subst hl
      have h1:=Bl hv
      have h2:=zj hq
      have e1:xs.drop cur=[]:=cm (by simpa using h1)
      have e2:ys.drop cur=[]:=cm (by rw[<-h2,e1];rfl)
      rw[e1,e2]at hq
      simp[qS]at hq
      subst hq
      simp[Op.eqFields]
     |cons f fl ih=>
      intro cur ls hl b hcur hv hq
      simp only[BK]at hl
      split at hl
      ·rename_i hc
       split at hl
       ·rename_i ls1 i h1 hi
        split at hl
        ·rename_i vB
         simp only[aS]at hl
         obtain⟨ls2,h2,h3⟩:=hl
         simp at h3;subst h3
         have UE:=KF hv
         have hvl:=Bl hv
         simp only[aL,ai]at hvl
         have hql:=zj hq
         simp only[aL]at hql
         have ex:xs.drop cur=(xs.drop cur).take ls1.length++(xs.drop cur).drop ls1.length:=(cE _ _).symm
         have ey:ys.drop cur=(ys.drop cur).take ls1.length++(ys.drop cur).drop ls1.length:=(cE _ _).symm
         rw[ex,ey]at hq
         obtain⟨b1,b2,q1,q2,rfl⟩:=H0 (by simp;omega) hq
         rw[fw]at q2 UE
         have p1:=SO h1 hi vB.1 xs cur (by omega) w
         have p2:=SO h1 hi vB.1 ys cur (by omega) w
         have r1:=Oz h1 D (by omega) _ _ b1 w UE.1 q1
         rw[fw]at q2
         have r2:=ih (cur+ls1.length) ls2 h2 b2 (by omega) UE.2 q2
         simp only[Op.eqFields,hc.1,ne_eq,not_false_eq_true,cg,hc.2,Sem.run_bind,p1,p2,Result.andThen_ok,r1]
         cases b1
         ·simp
         ·simpa using r2
        ·cases hl
       ·cases hl
      ·cases hl
    exact main fs.toList 0 ls h b (cf _) (by simpa using hf) (by simpa using he)
   |_=>simp at h
theorem toList_mk (s:aw UInt8):(ByteArray.mk s.toArray).toList=s:=by rw[ByteArray.toList_eq]
theorem N5 {o:ay Bool}{p b:Bool}(h:(o.bind λd=>some (p&&d))=some b):∃d,o=some d/\(p&&d)=b:=by cases o with|none=>simp at h|some d=>exact⟨d,rfl,by simpa using h⟩
theorem Aw:∀{xs ys:aw AC}{vs us:jd}{f1 f2:fE}{b:Bool},bO c vs xs f1->bO c us ys f2->wh xs ys=some b->qS vs us=some b
 |[],[],[],[],_,_,_,_,_,h=>h
 |x::xs,y::ys,v::vs,u::us,_,_,b,r1,r2,h=>by obtain⟨g1,g2,rfl,a1,a2⟩:=r1;obtain⟨h1,h2,rfl,b1,b2⟩:=r2;unfold wh at h;split at h;rename_i e1 e2;cases e1;rename_i k p QM k' q ys' e1 e2;cases e1;cases e2;split at h;rename_i hk;subst hk;obtain⟨d,hd,hb⟩:=N5 h;rw[a1.1,b1.1];simp only[qS,M7,cg,eZ,Aw a2 b2 hd,hb];cases h;rename_i p QM q ys' e1 e2;cases e1;cases e2;obtain⟨d,hd,hb⟩:=N5 h;rw[a1.1,b1.1];simp only[qS,M7,eZ,Aw a2 b2 hd,hb];rename_i p QM q ys' e1 e2;cases e1;cases e2;obtain⟨d,hd,hb⟩:=N5 h;rw[a1.1,b1.1];simp only[qS,M7,eZ,Aw a2 b2 hd,hb,toList_mk];cases h
 |[],[],v::vs,_,_,_,_,r1,_,_=>r1.elim
 |[],[],[],u::us,_,_,_,_,r2,_=>r2.elim
 |x::xs,_,[],_,_,_,_,r1,_,_=>r1.elim
 |_,y::ys,_,[],_,_,_,_,r2,_=>r2.elim
 |[],y::ys,_,_,_,_,_,_,_,h=>by simp[wh]at h
 |x::xs,[],_,_,_,_,_,_,_,h=>by cases x<;>simp[wh]at h
theorem GP:∀{ls:aw LK}{xs:aw AC}{vs:jd}{f1:fE},bO c vs xs f1->fits ls xs=true->rD ls vs=true
 |[],[],[],_,_,_=>rfl
 |l::ls,x::xs,v::vs,_,r1,h=>by obtain⟨g1,g2,rfl,a1,a2⟩:=r1;cases l<;>cases x<;>simp[fits]at h;rw[a1.1];simpa[rD]using GP a2 h;rw[a1.1];simpa[rD]using GP a2 h;rw[a1.1];simpa[rD]using GP a2 h
 |[],[],v::vs,_,r1,_=>r1.elim
 |_,x::xs,[],_,r1,_=>r1.elim
 |[],x::xs,_,_,_,h=>by simp[fits]at h
 |l::ls,[],_,_,_,h=>by cases l<;>simp[fits]at h
def VQ (P:Program)(l:aw (Nat×aw LK)):Prop:=∀t ls,Sz l t=some ls->
 jU P 50 t=some ls/\(∃fs,P.underlying t=some (.struct fs))/\P.eqGuardType P.depth t=false
def eqB (P:Program)(t:TypeId)(ls:aw LK):Bool:=
 decide (jU P 50 t=some ls)&&(match P.underlying t with|some (.struct _)=>true|_=>false)&& !(P.eqGuardType P.depth t)
theorem X5:∀{l:aw (Nat×aw LK)},(l.all λx=>eqB P x.1 x.2)=true->VQ P l
 |[],_,t,ls,h=>by simp[Sz]at h
 |(u,s)::r,hl,t,ls,h=>by simp only[bX,ae]at hl;simp only[Sz]at h;cases hu:u==t with|true=>rw[hu]at h;simp at hu h;subst hu;subst h;have h1:=hl.1;simp only[eqB,ae,aF,aK]at h1;refine⟨h1.1.1,?_,h1.2⟩;have h2:=h1.1.2;split at h2;rename_i fs IU;exact⟨fs,IU⟩;cases h2|false=>rw[hu]at h;exact X5 hl.2 t ls h
theorem anP {l:aw (Nat×aw LK)}(hl:VQ P l)(ht:Sz l t=some ls){xs ys:aw AC}{vs us:jd}{f1 f2:fE}{b:Bool}(r1:bO c vs xs f1)(r2:bO c us ys f2)(hf:fits ls xs=true)(he:wh xs ys=some b)(w:World): (Op.equal t (.agg vs.toArray) (.agg us.toArray)).run P w=.ok b w:=by
 obtain⟨h1,⟨fs,hu⟩,_⟩:=hl t ls ht;have:=Oz h1 Op.maxDepth (by decide) vs us b w (GP r1 hf) (Aw r1 r2 he);have hm:∀zs,BZ P t zs=.agg zs.toArray:=λzs=>by simp[BZ,hu]
 rw[hm,hm]at this;exact this
end Go.Dn
