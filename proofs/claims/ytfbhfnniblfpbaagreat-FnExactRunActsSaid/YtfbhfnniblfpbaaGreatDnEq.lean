import Derived.Test.YtfbhfnniblfpbaaGreatDnMem
/- '==' of structs, cell by cell. -/
namespace Go.Dn
variable {P:Program} {c:RC} {t:TypeId} {ls:aq LK}
def M7:Value->Value->au Bool
 | .int k a,.int k' b=>if k=k' then some (a==b) else none
 | .bool a,.bool b=>some (a==b)
 | .string a,.string b=>some (a.toList==b.toList)
 |_,_=>none
def qf:ie->ie->au Bool
 |[],[]=>some true
 |v::vs,u::us=>(M7 v u).bind λa=>(qf vs us).bind λb=>some (a&&b)
 |_,_=>none
def qI:aq LK->ie->Bool
 |[],[]=>true
 | .int::ls,.int _ _::r=>qI ls r
 | .bool::ls,.bool _::r=>qI ls r
 | .str::ls,.string _::r=>qI ls r
 |_,_=>false
def B5 (P:Program)(F:TypeId->au (aq LK)):aq Field->Nat->au (aq LK)
 |[],_=>some []
 |f::fs,cur=>
  if f.name≠ "_" /\f.offset=cur then
   match F f.type,P.info? f.type with
   |some ls,some i=>if i.size=ls.length/\0<ls.length then(B5 P F fs (cur+ls.length)).bind λr=>some (ls++r) else none
   |_,_=>none
  else none
def gv (P:Program):Nat->TypeId->au (aq LK)
 |0,_=>none
 |d+1,t=>
  match P.underlying t with
  |some (.int _)=>some [.int]
  |some .bool=>some [.bool]
  |some .string=>some [.str]
  |some (.struct fs)=>if P.stoodInHeld t then none else B5 P (gv P d) fs.toList 0
  |_=>none
theorem Ja {xs ys:ie}:∀{Qw ys':ie}{b:Bool},Qw.length=ys'.length->qf (Qw++xs) (ys'++ys)=some b->
 ∃b1 b2,qf Qw ys'=some b1/\qf xs ys=some b2/\b=(b1&&b2)
 |[],[],b,_,h=>⟨true,b,rfl,h,by simp⟩
 |v::vs,u::us,b,hl,h=>by simp only[List.cons_append,qf,aL]at h;obtain⟨c,h1,d,h2,h3⟩:=h;obtain⟨b1,b2,k1,k2,rfl⟩:=Ja (by simpa using hl) h2;simp at h3;subst h3;exact⟨c&&b1,b2,by simp[qf,h1,k1],k2,by simp[Bool.and_assoc]⟩
 |[],_::_,_,hl,_=>by simp at hl
 |_::_,[],_,hl,_=>by simp at hl
theorem zL:∀{xs ys:ie}{b:Bool},qf xs ys=some b->xs.length=ys.length
 |[],[],_,_=>rfl
 |v::vs,u::us,b,h=>by simp only[qf,aL]at h;obtain⟨c,_,d,h2,_⟩:=h;simp[zL h2]
 |[],_::_,_,h=>by simp[qf]at h
 |_::_,[],_,h=>by simp[qf]at h
theorem BI:∀{ls:aq LK}{xs:ie},qI ls xs=true->xs.length=ls.length
 |[],[],_=>rfl
 |l::ls,x::xs,h=>by cases l<;>cases x<;>simp[qI]at h<;>simp[BI h]
 |[],_::_,h=>by simp[qI]at h
 |l::ls,[],h=>by cases l<;>simp[qI]at h
theorem Lh:∀{ls ls':aq LK}{xs:ie},qI (ls++ls') xs=true->qI ls (xs.take ls.length)=true/\qI ls' (xs.drop ls.length)=true
 |[],_,_,h=>by simpa[qI]using h
 |l::ls,ls',[],h=>by cases l<;>simp[qI]at h
 |l::ls,ls',x::xs,h=>by cases l<;>cases x<;>simp[qI]at h;all_goals have:=Lh h;simpa[qI]using this
def CL (P:Program)(t:TypeId)(vs:ie):Value:=
 match P.underlying t with
 |some (.struct _)=> .agg vs.toArray
 |_=>vs.getD 0 undef
theorem Se {d:Nat}(h:gv P d t=some ls){i:TypeInfo}(hi:P.info? t=some i)(hs:i.size=ls.length)(cs:ie)(off:Nat)(hl:off+ls.length<=cs.length)(w:World): (part t cs.toArray off).run P w=.ok (CL P t ((cs.drop off).take ls.length)) w:=by
 have leaf:ls.length=1->(∀fs,P.underlying t≠some (.struct fs))->(isAgg t).run P w=.ok false w->(part t cs.toArray off).run P w=.ok (CL P t ((cs.drop off).take ls.length)) w:=by
  intro h1 hu ha;rw[h1]at hl⊢;have gV:off<cs.length:=by omega
  have hg:cs.toArray[off]?=some cs[off]:=by simp[al gV]
  have he:CL P t ((cs.drop off).take 1)=cs[off]:=by
   have:(cs.drop off).take 1=[cs[off]]:=by rw[cl gV,List.take_succ_cons,List.take_zero]
   rw[this];unfold CL;split;rename_i fs IA;exact absurd IA (hu fs);rfl
  simp only[part,Sem.run_bind,ha,Result.andThen_ok,aY,cc];rw[he,hg];rfl
 cases d with
 |zero=>simp[gv]at h
 |succ d=>
  simp only[gv]at h;cases hu:P.underlying t with
  |none=>rw[hu]at h;simp at h
  |some x=>
   rw[hu]at h;cases x<;>simp at h;exact leaf (by rw[<-h];rfl) (by simp[hu]) (by simp[isAgg,underlying,hu]);exact leaf (by rw[<-h];rfl) (by simp[hu]) (by simp[isAgg,underlying,hu]);exact leaf (by rw[<-h];rfl) (by simp[hu]) (by simp[isAgg,underlying,hu]);rename_i fs;have ha:(isAgg t).run P w=.ok true w:=by simp[isAgg,underlying,hu]
   simp only[part,Sem.run_bind,ha,Result.andThen_ok,bL,sizeOf,typeInfo,run_program,hi,Sem.run_pure,hs,CL,hu];congr 2;simp[List.extract_eq_take_drop]
theorem Oo:∀{d:Nat}{t:TypeId}{ls:aq LK},gv P d t=some ls->∀(D:Nat),d<=D->∀(xs ys:ie)(b:Bool)(w:World),qI ls xs=true->qf xs ys=some b->
 (Op.equalIn D t (CL P t xs) (CL P t ys)).run P w=.ok b w
 |0,t,ls,h,_,_,_,_,_,_,_,_=>by simp[gv]at h
 |d+1,t,ls,h,0,hD,_,_,_,_,_,_=>by omega
 |d+1,t,ls,h,D+1,hD,xs,ys,b,w,hf,he=>by
  have hly:=zL he;have hlx:=BI hf;simp only[gv]at h
  have leaf:∀(x:TypeDesc)(l:LK),P.underlying t=some x->ls=[l]->(∀fs,x≠ .struct fs)->
   (∀u v c,qI [l] [u]=true->M7 u v=some c->(Op.equalIn (D+1) t u v).run P w=.ok c w)->(Op.equalIn (D+1) t (CL P t xs) (CL P t ys)).run P w=.ok b w:=by
   intro x l hu hls hns dJ
   subst hls
   obtain⟨u,rfl⟩:=List.length_eq_one_iff.1 (by simpa using hlx)
   obtain⟨v,rfl⟩:=List.length_eq_one_iff.1 (by simpa using hly.symm)
   have hm:∀z,CL P t [z]=z:=by intro z;unfold CL;rw[hu];split;rename_i fs IA;simp at IA;exact absurd IA (hns fs);rfl
   rw[hm,hm]
   refine dJ u v b hf ?_
   simp only[qf,aL]at he
   obtain⟨c,h1,d,h2,h3⟩:=he
   simp at h2 h3;subst h2
   simp at h3;subst h3
   exact h1
  cases hu:P.underlying t with
  |none=>rw[hu]at h;simp at h
  |some x=>
   rw[hu]at h;cases x with
   |int k=>simp at h;refine leaf _ .int hu h.symm (by simp) (λu v c hv hq=>?_);cases u<;>simp[qI]at hv;cases v<;>simp[M7]at hq;obtain⟨rfl,rfl⟩:=hq;exact run_equalIn_int w D t _ k _ _ hu
   |bool=>simp at h;refine leaf _ .bool hu h.symm (by simp) (λu v c hv hq=>?_);cases u<;>simp[qI]at hv;cases v<;>simp[M7]at hq;subst hq;exact run_equalIn_bool' w D t _ _ hu
   |string=>simp at h;refine leaf _ .str hu h.symm (by simp) (λu v c hv hq=>?_);cases u<;>simp[qI]at hv;cases v<;>simp[M7]at hq;subst hq;exact run_equalIn_string w D t _ _ hu
   |struct fs=>
    simp only at h;by_cases lH:P.stoodInHeld t=true;rw[aG lH]at h;cases h;rw[aF lH]at h;have lH:P.stoodInHeld t=false:=by simpa using lH
    have hfo:P.fieldsOf t=fs:=by simp[Program.fieldsOf,hu]
    have hmk:∀zs,CL P t zs=.agg zs.toArray:=λzs=>by simp[CL,hu]
    rw[hmk,hmk,run_equalIn_struct w D t _ _ (by rw[hfo];exact hu) lH,hfo]
    have main:∀(fl:aq Field)(cur:Nat)(ls:aq LK),B5 P (gv P d) fl cur=some ls->∀(b:Bool),cur<=xs.length->qI ls (xs.drop cur)=true->qf (xs.drop cur) (ys.drop cur)=some b->
     (Op.eqFields D xs.toArray ys.toArray fl).run P w=.ok b w:=by
     intro fl
     induction fl with
     |nil=>
      intro cur ls hl b hcur hv hq
      simp[B5]at hl
      subst hl
      have h1:=BI hv
      have h2:=zL hq
      have e1:xs.drop cur=[]:=cz (by simpa using h1)
      have e2:ys.drop cur=[]:=cz (by rw[<-h2,e1];rfl)
      rw[e1,e2]at hq
      simp[qf]at hq
      subst hq
      simp[Op.eqFields]
     |cons f fl ih=>
      intro cur ls hl b hcur hv hq
      simp only[B5]at hl
      split at hl
      ·rename_i hc
       split at hl
       ·rename_i ls1 i h1 hi
        split at hl
        ·rename_i tw
         simp only[aL]at hl
         obtain⟨ls2,h2,h3⟩:=hl
         simp at h3;subst h3
         have MB:=Lh hv
         have hvl:=BI hv
         simp only[bj,aw]at hvl
         have hql:=zL hq
         simp only[bj]at hql
         have ex:xs.drop cur=(xs.drop cur).take ls1.length++(xs.drop cur).drop ls1.length:=(cp _ _).symm
         have ey:ys.drop cur=(ys.drop cur).take ls1.length++(ys.drop cur).drop ls1.length:=(cp _ _).symm
         rw[ex,ey]at hq
         obtain⟨b1,b2,q1,q2,rfl⟩:=Ja (by simp;omega) hq
         rw[ec]at q2 MB
         have p1:=Se h1 hi tw.1 xs cur (by omega) w
         have p2:=Se h1 hi tw.1 ys cur (by omega) w
         have r1:=Oo h1 D (by omega) _ _ b1 w MB.1 q1
         rw[ec]at q2
         have r2:=ih (cur+ls1.length) ls2 h2 b2 (by omega) MB.2 q2
         simp only[Op.eqFields,hc.1,ne_eq,not_false_eq_true,bL,hc.2,Sem.run_bind,p1,p2,Result.andThen_ok,r1]
         cases b1
         ·simp
         ·simpa using r2
        ·cases hl
       ·cases hl
      ·cases hl
    exact main fs.toList 0 ls h b (dR _) (by simpa using hf) (by simpa using he)
   |_=>simp at h
theorem toList_mk (s:aq UInt8):(ByteArray.mk s.toArray).toList=s:=by rw[ByteArray.toList_eq]
theorem N4 {o:au Bool}{p b:Bool}(h:(o.bind λd=>some (p&&d))=some b):∃d,o=some d/\(p&&d)=b:=by cases o with|none=>simp at h|some d=>exact⟨d,rfl,by simpa using h⟩
theorem Ba:∀{xs ys:aq AC}{vs us:ie}{f1 f2:dX}{b:Bool},bn c vs xs f1->bn c us ys f2->vY xs ys=some b->qf vs us=some b
 |[],[],[],[],_,_,_,_,_,h=>h
 |x::xs,y::ys,v::vs,u::us,_,_,b,r1,r2,h=>by obtain⟨g1,g2,rfl,a1,a2⟩:=r1;obtain⟨h1,h2,rfl,b1,b2⟩:=r2;unfold vY at h;split at h;rename_i e1 e2;cases e1;rename_i k p Qw k' q ys' e1 e2;cases e1;cases e2;split at h;rename_i hk;subst hk;obtain⟨d,hd,hb⟩:=N4 h;rw[a1.1,b1.1];simp only[qf,M7,bL,eC,Ba a2 b2 hd,hb];cases h;rename_i p Qw q ys' e1 e2;cases e1;cases e2;obtain⟨d,hd,hb⟩:=N4 h;rw[a1.1,b1.1];simp only[qf,M7,eC,Ba a2 b2 hd,hb];rename_i p Qw q ys' e1 e2;cases e1;cases e2;obtain⟨d,hd,hb⟩:=N4 h;rw[a1.1,b1.1];simp only[qf,M7,eC,Ba a2 b2 hd,hb,toList_mk];cases h
 |[],[],v::vs,_,_,_,_,r1,_,_=>r1.elim
 |[],[],[],u::us,_,_,_,_,r2,_=>r2.elim
 |x::xs,_,[],_,_,_,_,r1,_,_=>r1.elim
 |_,y::ys,_,[],_,_,_,_,r2,_=>r2.elim
 |[],y::ys,_,_,_,_,_,_,_,h=>by simp[vY]at h
 |x::xs,[],_,_,_,_,_,_,_,h=>by cases x<;>simp[vY]at h
theorem HY:∀{ls:aq LK}{xs:aq AC}{vs:ie}{f1:dX},bn c vs xs f1->fits ls xs=true->qI ls vs=true
 |[],[],[],_,_,_=>rfl
 |l::ls,x::xs,v::vs,_,r1,h=>by obtain⟨g1,g2,rfl,a1,a2⟩:=r1;cases l<;>cases x<;>simp[fits]at h;rw[a1.1];simpa[qI]using HY a2 h;rw[a1.1];simpa[qI]using HY a2 h;rw[a1.1];simpa[qI]using HY a2 h
 |[],[],v::vs,_,r1,_=>r1.elim
 |_,x::xs,[],_,r1,_=>r1.elim
 |[],x::xs,_,_,_,h=>by simp[fits]at h
 |l::ls,[],_,_,_,h=>by cases l<;>simp[fits]at h
def UQ (P:Program)(l:aq (Nat×aq LK)):Prop:=∀t ls,R2 l t=some ls->
 gv P 50 t=some ls/\(∃fs,P.underlying t=some (.struct fs))/\P.eqGuardType P.depth t=false
def eqB (P:Program)(t:TypeId)(ls:aq LK):Bool:=
 decide (gv P 50 t=some ls)&&(match P.underlying t with|some (.struct _)=>true|_=>false)&& !(P.eqGuardType P.depth t)
theorem Wa:∀{l:aq (Nat×aq LK)},(l.all λx=>eqB P x.1 x.2)=true->UQ P l
 |[],_,t,ls,h=>by simp[R2]at h
 |(u,s)::r,hl,t,ls,h=>by simp only[bQ,ah]at hl;simp only[R2]at h;cases hu:u==t with|true=>rw[hu]at h;simp at hu h;subst hu;subst h;have h1:=hl.1;simp only[eqB,ah,bE,aP]at h1;refine⟨h1.1.1,?_,h1.2⟩;have h2:=h1.1.2;split at h2;rename_i fs IA;exact⟨fs,IA⟩;cases h2|false=>rw[hu]at h;exact Wa hl.2 t ls h
theorem ah7 {l:aq (Nat×aq LK)}(hl:UQ P l)(ht:R2 l t=some ls){xs ys:aq AC}{vs us:ie}{f1 f2:dX}{b:Bool}(r1:bn c vs xs f1)(r2:bn c us ys f2)(hf:fits ls xs=true)(he:vY xs ys=some b)(w:World): (Op.equal t (.agg vs.toArray) (.agg us.toArray)).run P w=.ok b w:=by
 obtain⟨h1,⟨fs,hu⟩,_⟩:=hl t ls ht;have:=Oo h1 Op.maxDepth (by decide) vs us b w (HY r1 hf) (Ba r1 r2 he);have hm:∀zs,CL P t zs=.agg zs.toArray:=λzs=>by simp[CL,hu]
 rw[hm,hm]at this;exact this
end Go.Dn
