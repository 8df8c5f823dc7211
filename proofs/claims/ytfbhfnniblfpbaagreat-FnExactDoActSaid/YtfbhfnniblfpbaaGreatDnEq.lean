import Derived.Test.YtfbhfnniblfpbaaGreatDnMem
/- '==' of structs, cell by cell. -/
namespace Go.Dn
variable {P:Program} {c:RC} {t:TypeId} {ls:ar LK}
def MM:Value->Value->aw Bool
 | .int k a,.int k' b=>if k=k' then some (a==b) else none
 | .bool a,.bool b=>some (a==b)
 | .string a,.string b=>some (a.toList==b.toList)
 |_,_=>none
def qd:ic->ic->aw Bool
 |[],[]=>some true
 |v::vs,u::us=>(MM v u).bind λa=>(qd vs us).bind λb=>some (a&&b)
 |_,_=>none
def qG:ar LK->ic->Bool
 |[],[]=>true
 | .int::ls,.int _ _::r=>qG ls r
 | .bool::ls,.bool _::r=>qG ls r
 | .str::ls,.string _::r=>qG ls r
 |_,_=>false
def BS (P:Program)(F:TypeId->aw (ar LK)):ar Field->Nat->aw (ar LK)
 |[],_=>some []
 |f::fs,cur=>
  if f.name≠ "_" /\f.offset=cur then
   match F f.type,P.info? f.type with
   |some ls,some i=>if i.size=ls.length/\0<ls.length then(BS P F fs (cur+ls.length)).bind λr=>some (ls++r) else none
   |_,_=>none
  else none
def gu (P:Program):Nat->TypeId->aw (ar LK)
 |0,_=>none
 |d+1,t=>
  match P.underlying t with
  |some (.int _)=>some [.int]
  |some .bool=>some [.bool]
  |some .string=>some [.str]
  |some (.struct fs)=>if P.stoodInHeld t then none else BS P (gu P d) fs.toList 0
  |_=>none
theorem IU {xs ys:ic}:∀{Qc ys':ic}{b:Bool},Qc.length=ys'.length->qd (Qc++xs) (ys'++ys)=some b->
 ∃b1 b2,qd Qc ys'=some b1/\qd xs ys=some b2/\b=(b1&&b2)
 |[],[],b,_,h=>⟨true,b,rfl,h,by simp⟩
 |v::vs,u::us,b,hl,h=>by simp only[List.cons_append,qd,aL]at h;obtain⟨c,h1,d,h2,h3⟩:=h;obtain⟨b1,b2,k1,k2,rfl⟩:=IU (by simpa using hl) h2;simp at h3;subst h3;exact⟨c&&b1,b2,by simp[qd,h1,k1],k2,by simp[Bool.and_assoc]⟩
 |[],_::_,_,hl,_=>by simp at hl
 |_::_,[],_,hl,_=>by simp at hl
theorem zC:∀{xs ys:ic}{b:Bool},qd xs ys=some b->xs.length=ys.length
 |[],[],_,_=>rfl
 |v::vs,u::us,b,h=>by simp only[qd,aL]at h;obtain⟨c,_,d,h2,_⟩:=h;simp[zC h2]
 |[],_::_,_,h=>by simp[qd]at h
 |_::_,[],_,h=>by simp[qd]at h
theorem Bz:∀{ls:ar LK}{xs:ic},qG ls xs=true->xs.length=ls.length
 |[],[],_=>rfl
 |l::ls,x::xs,h=>by cases l<;>cases x<;>simp[qG]at h<;>simp[Bz h]
 |[],_::_,h=>by simp[qG]at h
 |l::ls,[],h=>by cases l<;>simp[qG]at h
theorem KZ:∀{ls ls':ar LK}{xs:ic},qG (ls++ls') xs=true->qG ls (xs.take ls.length)=true/\qG ls' (xs.drop ls.length)=true
 |[],_,_,h=>by simpa[qG]using h
 |l::ls,ls',[],h=>by cases l<;>simp[qG]at h
 |l::ls,ls',x::xs,h=>by cases l<;>cases x<;>simp[qG]at h;all_goals have:=KZ h;simpa[qG]using this
def CA (P:Program)(t:TypeId)(vs:ic):Value:=
 match P.underlying t with
 |some (.struct _)=> .agg vs.toArray
 |_=>vs.getD 0 undef
theorem RT {d:Nat}(h:gu P d t=some ls){i:TypeInfo}(hi:P.info? t=some i)(hs:i.size=ls.length)(cs:ic)(off:Nat)(hl:off+ls.length<=cs.length)(w:World): (part t cs.toArray off).run P w=.ok (CA P t ((cs.drop off).take ls.length)) w:=by
 have leaf:ls.length=1->(∀fs,P.underlying t≠some (.struct fs))->(isAgg t).run P w=.ok false w->(part t cs.toArray off).run P w=.ok (CA P t ((cs.drop off).take ls.length)) w:=by
  intro h1 hu ha;rw[h1]at hl⊢;have gV:off<cs.length:=by omega
  have hg:cs.toArray[off]?=some cs[off]:=by simp[al gV]
  have he:CA P t ((cs.drop off).take 1)=cs[off]:=by
   have:(cs.drop off).take 1=[cs[off]]:=by rw[cl gV,List.take_succ_cons,List.take_zero]
   rw[this];unfold CA;split;rename_i fs Ig;exact absurd Ig (hu fs);rfl
  simp only[part,Sem.run_bind,ha,Result.andThen_ok,aY,cc];rw[he,hg];rfl
 cases d with
 |zero=>simp[gu]at h
 |succ d=>
  simp only[gu]at h;cases hu:P.underlying t with
  |none=>rw[hu]at h;simp at h
  |some x=>
   rw[hu]at h;cases x<;>simp at h;exact leaf (by rw[<-h];rfl) (by simp[hu]) (by simp[isAgg,underlying,hu]);exact leaf (by rw[<-h];rfl) (by simp[hu]) (by simp[isAgg,underlying,hu]);exact leaf (by rw[<-h];rfl) (by simp[hu]) (by simp[isAgg,underlying,hu]);rename_i fs;have ha:(isAgg t).run P w=.ok true w:=by simp[isAgg,underlying,hu]
   simp only[part,Sem.run_bind,ha,Result.andThen_ok,bL,sizeOf,typeInfo,run_program,hi,Sem.run_pure,hs,CA,hu];congr 2;simp[List.extract_eq_take_drop]
theorem N5:∀{d:Nat}{t:TypeId}{ls:ar LK},gu P d t=some ls->∀(D:Nat),d<=D->∀(xs ys:ic)(b:Bool)(w:World),qG ls xs=true->qd xs ys=some b->
 (Op.equalIn D t (CA P t xs) (CA P t ys)).run P w=.ok b w
 |0,t,ls,h,_,_,_,_,_,_,_,_=>by simp[gu]at h
 |d+1,t,ls,h,0,hD,_,_,_,_,_,_=>by omega
 |d+1,t,ls,h,D+1,hD,xs,ys,b,w,hf,he=>by
  have hly:=zC he;have hlx:=Bz hf;simp only[gu]at h
  have leaf:∀(x:TypeDesc)(l:LK),P.underlying t=some x->ls=[l]->(∀fs,x≠ .struct fs)->
   (∀u v c,qG [l] [u]=true->MM u v=some c->(Op.equalIn (D+1) t u v).run P w=.ok c w)->(Op.equalIn (D+1) t (CA P t xs) (CA P t ys)).run P w=.ok b w:=by
   intro x l hu hls hns dI
   subst hls
   obtain⟨u,rfl⟩:=List.length_eq_one_iff.1 (by simpa using hlx)
   obtain⟨v,rfl⟩:=List.length_eq_one_iff.1 (by simpa using hly.symm)
   have hm:∀z,CA P t [z]=z:=by intro z;unfold CA;rw[hu];split;rename_i fs Ig;simp at Ig;exact absurd Ig (hns fs);rfl
   rw[hm,hm]
   refine dI u v b hf ?_
   simp only[qd,aL]at he
   obtain⟨c,h1,d,h2,h3⟩:=he
   simp at h2 h3;subst h2
   simp at h3;subst h3
   exact h1
  cases hu:P.underlying t with
  |none=>rw[hu]at h;simp at h
  |some x=>
   rw[hu]at h;cases x with
   |int k=>simp at h;refine leaf _ .int hu h.symm (by simp) (λu v c hv hq=>?_);cases u<;>simp[qG]at hv;cases v<;>simp[MM]at hq;obtain⟨rfl,rfl⟩:=hq;exact run_equalIn_int w D t _ k _ _ hu
   |bool=>simp at h;refine leaf _ .bool hu h.symm (by simp) (λu v c hv hq=>?_);cases u<;>simp[qG]at hv;cases v<;>simp[MM]at hq;subst hq;exact run_equalIn_bool' w D t _ _ hu
   |string=>simp at h;refine leaf _ .str hu h.symm (by simp) (λu v c hv hq=>?_);cases u<;>simp[qG]at hv;cases v<;>simp[MM]at hq;subst hq;exact run_equalIn_string w D t _ _ hu
   |struct fs=>
    simp only at h;by_cases lE:P.stoodInHeld t=true;rw[aG lE]at h;cases h;rw[aF lE]at h;have lE:P.stoodInHeld t=false:=by simpa using lE
    have hfo:P.fieldsOf t=fs:=by simp[Program.fieldsOf,hu]
    have hmk:∀zs,CA P t zs=.agg zs.toArray:=λzs=>by simp[CA,hu]
    rw[hmk,hmk,run_equalIn_struct w D t _ _ (by rw[hfo];exact hu) lE,hfo]
    have main:∀(fl:ar Field)(cur:Nat)(ls:ar LK),BS P (gu P d) fl cur=some ls->∀(b:Bool),cur<=xs.length->qG ls (xs.drop cur)=true->qd (xs.drop cur) (ys.drop cur)=some b->
     (Op.eqFields D xs.toArray ys.toArray fl).run P w=.ok b w:=by
     intro fl
     induction fl with
     |nil=>
      intro cur ls hl b hcur hv hq
      simp[BS]at hl
      subst hl
      have h1:=Bz hv
      have h2:=zC hq
      have e1:xs.drop cur=[]:=cz (by simpa using h1)
      have e2:ys.drop cur=[]:=cz (by rw[<-h2,e1];rfl)
      rw[e1,e2]at hq
      simp[qd]at hq
      subst hq
      simp[Op.eqFields]
     |cons f fl ih=>
      intro cur ls hl b hcur hv hq
      simp only[BS]at hl
      split at hl
      ·rename_i hc
       split at hl
       ·rename_i ls1 i h1 hi
        split at hl
        ·rename_i tu
         simp only[aL]at hl
         obtain⟨ls2,h2,h3⟩:=hl
         simp at h3;subst h3
         have Mh:=KZ hv
         have hvl:=Bz hv
         simp only[bf,au]at hvl
         have hql:=zC hq
         simp only[bf]at hql
         have ex:xs.drop cur=(xs.drop cur).take ls1.length++(xs.drop cur).drop ls1.length:=(cp _ _).symm
         have ey:ys.drop cur=(ys.drop cur).take ls1.length++(ys.drop cur).drop ls1.length:=(cp _ _).symm
         rw[ex,ey]at hq
         obtain⟨b1,b2,q1,q2,rfl⟩:=IU (by simp;omega) hq
         rw[dY]at q2 Mh
         have p1:=RT h1 hi tu.1 xs cur (by omega) w
         have p2:=RT h1 hi tu.1 ys cur (by omega) w
         have r1:=N5 h1 D (by omega) _ _ b1 w Mh.1 q1
         rw[dY]at q2
         have r2:=ih (cur+ls1.length) ls2 h2 b2 (by omega) Mh.2 q2
         simp only[Op.eqFields,hc.1,ne_eq,not_false_eq_true,bL,hc.2,Sem.run_bind,p1,p2,Result.andThen_ok,r1]
         cases b1
         ·simp
         ·simpa using r2
        ·cases hl
       ·cases hl
      ·cases hl
    exact main fs.toList 0 ls h b (eH _) (by simpa using hf) (by simpa using he)
   |_=>simp at h
theorem toList_mk (s:ar UInt8):(ByteArray.mk s.toArray).toList=s:=by rw[ByteArray.toList_eq]
theorem NL {o:aw Bool}{p b:Bool}(h:(o.bind λd=>some (p&&d))=some b):∃d,o=some d/\(p&&d)=b:=by cases o with|none=>simp at h|some d=>exact⟨d,rfl,by simpa using h⟩
theorem AP:∀{xs ys:ar AC}{vs us:ic}{f1 f2:dV}{b:Bool},bn c vs xs f1->bn c us ys f2->vU xs ys=some b->qd vs us=some b
 |[],[],[],[],_,_,_,_,_,h=>h
 |x::xs,y::ys,v::vs,u::us,_,_,b,r1,r2,h=>by obtain⟨g1,g2,rfl,a1,a2⟩:=r1;obtain⟨h1,h2,rfl,b1,b2⟩:=r2;unfold vU at h;split at h;rename_i e1 e2;cases e1;rename_i k p Qc k' q ys' e1 e2;cases e1;cases e2;split at h;rename_i hk;subst hk;obtain⟨d,hd,hb⟩:=NL h;rw[a1.1,b1.1];simp only[qd,MM,bL,eu,AP a2 b2 hd,hb];cases h;rename_i p Qc q ys' e1 e2;cases e1;cases e2;obtain⟨d,hd,hb⟩:=NL h;rw[a1.1,b1.1];simp only[qd,MM,eu,AP a2 b2 hd,hb];rename_i p Qc q ys' e1 e2;cases e1;cases e2;obtain⟨d,hd,hb⟩:=NL h;rw[a1.1,b1.1];simp only[qd,MM,eu,AP a2 b2 hd,hb,toList_mk];cases h
 |[],[],v::vs,_,_,_,_,r1,_,_=>r1.elim
 |[],[],[],u::us,_,_,_,_,r2,_=>r2.elim
 |x::xs,_,[],_,_,_,_,r1,_,_=>r1.elim
 |_,y::ys,_,[],_,_,_,_,r2,_=>r2.elim
 |[],y::ys,_,_,_,_,_,_,_,h=>by simp[vU]at h
 |x::xs,[],_,_,_,_,_,_,_,h=>by cases x<;>simp[vU]at h
theorem HG:∀{ls:ar LK}{xs:ar AC}{vs:ic}{f1:dV},bn c vs xs f1->fits ls xs=true->qG ls vs=true
 |[],[],[],_,_,_=>rfl
 |l::ls,x::xs,v::vs,_,r1,h=>by obtain⟨g1,g2,rfl,a1,a2⟩:=r1;cases l<;>cases x<;>simp[fits]at h;rw[a1.1];simpa[qG]using HG a2 h;rw[a1.1];simpa[qG]using HG a2 h;rw[a1.1];simpa[qG]using HG a2 h
 |[],[],v::vs,_,r1,_=>r1.elim
 |_,x::xs,[],_,r1,_=>r1.elim
 |[],x::xs,_,_,_,h=>by simp[fits]at h
 |l::ls,[],_,_,_,h=>by cases l<;>simp[fits]at h
def Uv (P:Program)(l:ar (Nat×ar LK)):Prop:=∀t ls,RH l t=some ls->
 gu P 50 t=some ls/\(∃fs,P.underlying t=some (.struct fs))/\P.eqGuardType P.depth t=false
def eqB (P:Program)(t:TypeId)(ls:ar LK):Bool:=
 decide (gu P 50 t=some ls)&&(match P.underlying t with|some (.struct _)=>true|_=>false)&& !(P.eqGuardType P.depth t)
theorem VN:∀{l:ar (Nat×ar LK)},(l.all λx=>eqB P x.1 x.2)=true->Uv P l
 |[],_,t,ls,h=>by simp[RH]at h
 |(u,s)::r,hl,t,ls,h=>by simp only[bN,ah]at hl;simp only[RH]at h;cases hu:u==t with|true=>rw[hu]at h;simp at hu h;subst hu;subst h;have h1:=hl.1;simp only[eqB,ah,bE,aP]at h1;refine⟨h1.1.1,?_,h1.2⟩;have h2:=h1.1.2;split at h2;rename_i fs Ig;exact⟨fs,Ig⟩;cases h2|false=>rw[hu]at h;exact VN hl.2 t ls h
theorem ahM {l:ar (Nat×ar LK)}(hl:Uv P l)(ht:RH l t=some ls){xs ys:ar AC}{vs us:ic}{f1 f2:dV}{b:Bool}(r1:bn c vs xs f1)(r2:bn c us ys f2)(hf:fits ls xs=true)(he:vU xs ys=some b)(w:World): (Op.equal t (.agg vs.toArray) (.agg us.toArray)).run P w=.ok b w:=by
 obtain⟨h1,⟨fs,hu⟩,_⟩:=hl t ls ht;have:=N5 h1 Op.maxDepth (by decide) vs us b w (HG r1 hf) (AP r1 r2 he);have hm:∀zs,CA P t zs=.agg zs.toArray:=λzs=>by simp[CA,hu]
 rw[hm,hm]at this;exact this
end Go.Dn
