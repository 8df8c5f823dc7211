import Derived.Test.YtfbhfnniblfpbaaGreatDnMem
/- '==' of structs, cell by cell. -/
namespace Go.Dn
variable {P:Program} {c:RC} {t:TypeId} {ls:au LK}
def LY:Value->Value->ax Bool
 | .int k a,.int k' b=>if k=k' then some (a==b) else none
 | .bool a,.bool b=>some (a==b)
 | .string a,.string b=>some (a.toList==b.toList)
 |_,_=>none
def qx:ie->ie->ax Bool
 |[],[]=>some true
 |v::vs,u::us=>(LY v u).bind λa=>(qx vs us).bind λb=>some (a&&b)
 |_,_=>none
def rb:au LK->ie->Bool
 |[],[]=>true
 | .int::ls,.int _ _::r=>rb ls r
 | .bool::ls,.bool _::r=>rb ls r
 | .str::ls,.string _::r=>rb ls r
 |_,_=>false
def Bv (P:Program)(F:TypeId->ax (au LK)):au Field->Nat->ax (au LK)
 |[],_=>some []
 |f::fs,cur=>
  if f.name≠ "_" /\f.offset=cur then
   match F f.type,P.info? f.type with
   |some ls,some i=>if i.size=ls.length/\0<ls.length then(Bv P F fs (cur+ls.length)).bind λr=>some (ls++r) else none
   |_,_=>none
  else none
def jl (P:Program):Nat->TypeId->ax (au LK)
 |0,_=>none
 |d+1,t=>
  match P.underlying t with
  |some (.int _)=>some [.int]
  |some .bool=>some [.bool]
  |some .string=>some [.str]
  |some (.struct fs)=>if P.stoodInHeld t then none else Bv P (jl P d) fs.toList 0
  |_=>none
theorem Ht {xs ys:ie}:∀{Pj ys':ie}{b:Bool},Pj.length=ys'.length->qx (Pj++xs) (ys'++ys)=some b->
 ∃b1 b2,qx Pj ys'=some b1/\qx xs ys=some b2/\b=(b1&&b2)
 |[],[],b,_,h=>⟨true,b,rfl,h,by simp⟩
 |v::vs,u::us,b,hl,h=>by simp only[List.cons_append,qx,aO]at h;obtain⟨c,h1,d,h2,h3⟩:=h;obtain⟨b1,b2,k1,k2,rfl⟩:=Ht (by simpa using hl) h2;simp at h3;subst h3;exact⟨c&&b1,b2,by simp[qx,h1,k1],k2,by simp[Bool.and_assoc]⟩
 |[],_::_,_,hl,_=>by simp at hl
 |_::_,[],_,hl,_=>by simp at hl
theorem yY:∀{xs ys:ie}{b:Bool},qx xs ys=some b->xs.length=ys.length
 |[],[],_,_=>rfl
 |v::vs,u::us,b,h=>by simp only[qx,aO]at h;obtain⟨c,_,d,h2,_⟩:=h;simp[yY h2]
 |[],_::_,_,h=>by simp[qx]at h
 |_::_,[],_,h=>by simp[qx]at h
theorem Bd:∀{ls:au LK}{xs:ie},rb ls xs=true->xs.length=ls.length
 |[],[],_=>rfl
 |l::ls,x::xs,h=>by cases l<;>cases x<;>simp[rb]at h<;>simp[Bd h]
 |[],_::_,h=>by simp[rb]at h
 |l::ls,[],h=>by cases l<;>simp[rb]at h
theorem J0:∀{ls ls':au LK}{xs:ie},rb (ls++ls') xs=true->rb ls (xs.take ls.length)=true/\rb ls' (xs.drop ls.length)=true
 |[],_,_,h=>by simpa[rb]using h
 |l::ls,ls',[],h=>by cases l<;>simp[rb]at h
 |l::ls,ls',x::xs,h=>by cases l<;>cases x<;>simp[rb]at h;all_goals have:=J0 h;simpa[rb]using this
def BK (P:Program)(t:TypeId)(vs:ie):Value:=
 match P.underlying t with
 |some (.struct _)=> .agg vs.toArray
 |_=>vs.getD 0 undef
theorem Q9 {d:Nat}(h:jl P d t=some ls){i:TypeInfo}(hi:P.info? t=some i)(hs:i.size=ls.length)(cs:ie)(off:Nat)(hl:off+ls.length<=cs.length)(w:World): (part t cs.toArray off).run P w=.ok (BK P t ((cs.drop off).take ls.length)) w:=by
 have leaf:ls.length=1->(∀fs,P.underlying t≠some (.struct fs))->(isAgg t).run P w=.ok false w->(part t cs.toArray off).run P w=.ok (BK P t ((cs.drop off).take ls.length)) w:=by
  intro h1 hu ha;rw[h1]at hl⊢;have gB:off<cs.length:=by omega
  have hg:cs.toArray[off]?=some cs[off]:=by simp[al gB]
  have he:BK P t ((cs.drop off).take 1)=cs[off]:=by
   have:(cs.drop off).take 1=[cs[off]]:=by rw[bN gB,List.take_succ_cons,List.take_zero]
   rw[this];unfold BK;split;rename_i fs H9;exact absurd H9 (hu fs);rfl
  simp only[part,Sem.run_bind,ha,Result.andThen_ok,aX,cc];rw[he,hg];rfl
 cases d with
 |zero=>simp[jl]at h
 |succ d=>
  simp only[jl]at h;cases hu:P.underlying t with
  |none=>rw[hu]at h;simp at h
  |some x=>
   rw[hu]at h;cases x<;>simp at h;exact leaf (by rw[<-h];rfl) (by simp[hu]) (by simp[isAgg,underlying,hu]);exact leaf (by rw[<-h];rfl) (by simp[hu]) (by simp[isAgg,underlying,hu]);exact leaf (by rw[<-h];rfl) (by simp[hu]) (by simp[isAgg,underlying,hu]);rename_i fs;have ha:(isAgg t).run P w=.ok true w:=by simp[isAgg,underlying,hu]
   simp only[part,Sem.run_bind,ha,Result.andThen_ok,cp,sizeOf,typeInfo,run_program,hi,Sem.run_pure,hs,BK,hu];congr 2;simp[List.extract_eq_take_drop]
theorem Nc:∀{d:Nat}{t:TypeId}{ls:au LK},jl P d t=some ls->∀(D:Nat),d<=D->∀(xs ys:ie)(b:Bool)(w:World),rb ls xs=true->qx xs ys=some b->
 (Op.equalIn D t (BK P t xs) (BK P t ys)).run P w=.ok b w
 |0,t,ls,h,_,_,_,_,_,_,_,_=>by simp[jl]at h
 |d+1,t,ls,h,0,hD,_,_,_,_,_,_=>by omega
 |d+1,t,ls,h,D+1,hD,xs,ys,b,w,hf,he=>by
  have hly:=yY he;have hlx:=Bd hf;simp only[jl]at h
  have leaf:∀(x:TypeDesc)(l:LK),P.underlying t=some x->ls=[l]->(∀fs,x≠ .struct fs)->
   (∀u v c,rb [l] [u]=true->LY u v=some c->(Op.equalIn (D+1) t u v).run P w=.ok c w)->(Op.equalIn (D+1) t (BK P t xs) (BK P t ys)).run P w=.ok b w:=by
   intro x l hu hls hns dX
   subst hls
   obtain⟨u,rfl⟩:=List.length_eq_one_iff.1 (by simpa using hlx)
   obtain⟨v,rfl⟩:=List.length_eq_one_iff.1 (by simpa using hly.symm)
   have hm:∀z,BK P t [z]=z:=by intro z;unfold BK;rw[hu];split;rename_i fs H9;simp at H9;exact absurd H9 (hns fs);rfl
   rw[hm,hm]
   refine dX u v b hf ?_
   simp only[qx,aO]at he
   obtain⟨c,h1,d,h2,h3⟩:=he
   simp at h2 h3;subst h2
   simp at h3;subst h3
   exact h1
  cases hu:P.underlying t with
  |none=>rw[hu]at h;simp at h
  |some x=>
   rw[hu]at h;cases x with
   |int k=>simp at h;refine leaf _ .int hu h.symm (by simp) (λu v c hv hq=>?_);cases u<;>simp[rb]at hv;cases v<;>simp[LY]at hq;obtain⟨rfl,rfl⟩:=hq;exact run_equalIn_int w D t _ k _ _ hu
   |bool=>simp at h;refine leaf _ .bool hu h.symm (by simp) (λu v c hv hq=>?_);cases u<;>simp[rb]at hv;cases v<;>simp[LY]at hq;subst hq;exact run_equalIn_bool' w D t _ _ hu
   |string=>simp at h;refine leaf _ .str hu h.symm (by simp) (λu v c hv hq=>?_);cases u<;>simp[rb]at hv;cases v<;>simp[LY]at hq;subst hq;exact run_equalIn_string w D t _ _ hu
   |struct fs=>
    simp only at h;by_cases lE:P.stoodInHeld t=true;rw[aF lE]at h;cases h;rw[aH lE]at h;have lE:P.stoodInHeld t=false:=by simpa using lE
    have hfo:P.fieldsOf t=fs:=by simp[Program.fieldsOf,hu]
    have hmk:∀zs,BK P t zs=.agg zs.toArray:=λzs=>by simp[BK,hu]
    rw[hmk,hmk,run_equalIn_struct w D t _ _ (by rw[hfo];exact hu) lE,hfo]
    have main:∀(fl:au Field)(cur:Nat)(ls:au LK),Bv P (jl P d) fl cur=some ls->∀(b:Bool),cur<=xs.length->rb ls (xs.drop cur)=true->qx (xs.drop cur) (ys.drop cur)=some b->
     (Op.eqFields D xs.toArray ys.toArray fl).run P w=.ok b w:=by
     intro fl
     induction fl with
     |nil=>
      intro cur ls hl b hcur hv hq
      simp[Bv]at hl
      subst hl
      have h1:=Bd hv
      have h2:=yY hq
      have e1:xs.drop cur=[]:=ca (by simpa using h1)
      have e2:ys.drop cur=[]:=ca (by rw[<-h2,e1];rfl)
      rw[e1,e2]at hq
      simp[qx]at hq
      subst hq
      simp[Op.eqFields]
     |cons f fl ih=>
      intro cur ls hl b hcur hv hq
      simp only[Bv]at hl
      split at hl
      ·rename_i hc
       split at hl
       ·rename_i ls1 i h1 hi
        split at hl
        ·rename_i uq
         simp only[aO]at hl
         obtain⟨ls2,h2,h3⟩:=hl
         simp at h3;subst h3
         have Sv:=J0 hv
         have hvl:=Bd hv
         simp only[bh,aq]at hvl
         have hql:=yY hq
         simp only[bh]at hql
         have ex:xs.drop cur=(xs.drop cur).take ls1.length++(xs.drop cur).drop ls1.length:=(bW _ _).symm
         have ey:ys.drop cur=(ys.drop cur).take ls1.length++(ys.drop cur).drop ls1.length:=(bW _ _).symm
         rw[ex,ey]at hq
         obtain⟨b1,b2,q1,q2,rfl⟩:=Ht (by simp;omega) hq
         rw[ec]at q2 Sv
         have p1:=Q9 h1 hi uq.1 xs cur (by omega) w
         have p2:=Q9 h1 hi uq.1 ys cur (by omega) w
         have r1:=Nc h1 D (by omega) _ _ b1 w Sv.1 q1
         rw[ec]at q2
         have r2:=ih (cur+ls1.length) ls2 h2 b2 (by omega) Sv.2 q2
         simp only[Op.eqFields,hc.1,ne_eq,not_false_eq_true,cp,hc.2,Sem.run_bind,p1,p2,Result.andThen_ok,r1]
         cases b1
         ·simp
         ·simpa using r2
        ·cases hl
       ·cases hl
      ·cases hl
    exact main fs.toList 0 ls h b (cd _) (by simpa using hf) (by simpa using he)
   |_=>simp at h
theorem toList_mk (s:au UInt8):(ByteArray.mk s.toArray).toList=s:=by rw[ByteArray.toList_eq]
theorem MQ {o:ax Bool}{p b:Bool}(h:(o.bind λd=>some (p&&d))=some b):∃d,o=some d/\(p&&d)=b:=by cases o with|none=>simp at h|some d=>exact⟨d,rfl,by simpa using h⟩
theorem Aq:∀{xs ys:au AC}{vs us:ie}{f1 f2:eo}{b:Bool},bE c vs xs f1->bE c us ys f2->vN xs ys=some b->qx vs us=some b
 |[],[],[],[],_,_,_,_,_,h=>h
 |x::xs,y::ys,v::vs,u::us,_,_,b,r1,r2,h=>by obtain⟨g1,g2,rfl,a1,a2⟩:=r1;obtain⟨h1,h2,rfl,b1,b2⟩:=r2;unfold vN at h;split at h;rename_i e1 e2;cases e1;rename_i k p Pj k' q ys' e1 e2;cases e1;cases e2;split at h;rename_i hk;subst hk;obtain⟨d,hd,hb⟩:=MQ h;rw[a1.1,b1.1];simp only[qx,LY,cp,eu,Aq a2 b2 hd,hb];cases h;rename_i p Pj q ys' e1 e2;cases e1;cases e2;obtain⟨d,hd,hb⟩:=MQ h;rw[a1.1,b1.1];simp only[qx,LY,eu,Aq a2 b2 hd,hb];rename_i p Pj q ys' e1 e2;cases e1;cases e2;obtain⟨d,hd,hb⟩:=MQ h;rw[a1.1,b1.1];simp only[qx,LY,eu,Aq a2 b2 hd,hb,toList_mk];cases h
 |[],[],v::vs,_,_,_,_,r1,_,_=>r1.elim
 |[],[],[],u::us,_,_,_,_,r2,_=>r2.elim
 |x::xs,_,[],_,_,_,_,r1,_,_=>r1.elim
 |_,y::ys,_,[],_,_,_,_,r2,_=>r2.elim
 |[],y::ys,_,_,_,_,_,_,_,h=>by simp[vN]at h
 |x::xs,[],_,_,_,_,_,_,_,h=>by cases x<;>simp[vN]at h
theorem Gk:∀{ls:au LK}{xs:au AC}{vs:ie}{f1:eo},bE c vs xs f1->fits ls xs=true->rb ls vs=true
 |[],[],[],_,_,_=>rfl
 |l::ls,x::xs,v::vs,_,r1,h=>by obtain⟨g1,g2,rfl,a1,a2⟩:=r1;cases l<;>cases x<;>simp[fits]at h;rw[a1.1];simpa[rb]using Gk a2 h;rw[a1.1];simpa[rb]using Gk a2 h;rw[a1.1];simpa[rb]using Gk a2 h
 |[],[],v::vs,_,r1,_=>r1.elim
 |_,x::xs,[],_,r1,_=>r1.elim
 |[],x::xs,_,_,_,h=>by simp[fits]at h
 |l::ls,[],_,_,_,h=>by cases l<;>simp[fits]at h
def TI (P:Program)(l:au (Nat×au LK)):Prop:=∀t ls,QY l t=some ls->
 jl P 50 t=some ls/\(∃fs,P.underlying t=some (.struct fs))/\P.eqGuardType P.depth t=false
def eqB (P:Program)(t:TypeId)(ls:au LK):Bool:=
 decide (jl P 50 t=some ls)&&(match P.underlying t with|some (.struct _)=>true|_=>false)&& !(P.eqGuardType P.depth t)
theorem Va:∀{l:au (Nat×au LK)},(l.all λx=>eqB P x.1 x.2)=true->TI P l
 |[],_,t,ls,h=>by simp[QY]at h
 |(u,s)::r,hl,t,ls,h=>by simp only[bR,ah]at hl;simp only[QY]at h;cases hu:u==t with|true=>rw[hu]at h;simp at hu h;subst hu;subst h;have h1:=hl.1;simp only[eqB,ah,bp,aN]at h1;refine⟨h1.1.1,?_,h1.2⟩;have h2:=h1.1.2;split at h2;rename_i fs H9;exact⟨fs,H9⟩;cases h2|false=>rw[hu]at h;exact Va hl.2 t ls h
theorem agZ {l:au (Nat×au LK)}(hl:TI P l)(ht:QY l t=some ls){xs ys:au AC}{vs us:ie}{f1 f2:eo}{b:Bool}(r1:bE c vs xs f1)(r2:bE c us ys f2)(hf:fits ls xs=true)(he:vN xs ys=some b)(w:World): (Op.equal t (.agg vs.toArray) (.agg us.toArray)).run P w=.ok b w:=by
 obtain⟨h1,⟨fs,hu⟩,_⟩:=hl t ls ht;have:=Nc h1 Op.maxDepth (by decide) vs us b w (Gk r1 hf) (Aq r1 r2 he);have hm:∀zs,BK P t zs=.agg zs.toArray:=λzs=>by simp[BK,hu]
 rw[hm,hm]at this;exact this
end Go.Dn
