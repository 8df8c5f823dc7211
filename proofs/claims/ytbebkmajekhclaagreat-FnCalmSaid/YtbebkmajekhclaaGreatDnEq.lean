import Derived.Test.YtbebkmajekhclaaGreatDnMem
/- '==' of structs, cell by cell. -/
namespace Go.Dn
variable {P:Program} {c:RC} {t:TypeId} {ls:aw LK}
def OH:Value->Value->aB Bool
 | .int k a,.int k' b=>if k=k' then some (a==b) else none
 | .bool a,.bool b=>some (a==b)
 | .string a,.string b=>some (a.toList==b.toList)
 |_,_=>none
def rV:jJ->jJ->aB Bool
 |[],[]=>some true
 |v::vs,u::us=>(OH v u).bind λa=>(rV vs us).bind λb=>some (a&&b)
 |_,_=>none
def sJ:aw LK->jJ->Bool
 |[],[]=>true
 | .int::ls,.int _ _::r=>sJ ls r
 | .bool::ls,.bool _::r=>sJ ls r
 | .str::ls,.string _::r=>sJ ls r
 |_,_=>false
def Cx (P:Program)(F:TypeId->aB (aw LK)):aw Field->Nat->aB (aw LK)
 |[],_=>some []
 |f::fs,cur=>
  if f.name≠ "_" /\f.offset=cur then
   match F f.type,P.info? f.type with
   |some ls,some i=>if i.size=ls.length/\0<ls.length then(Cx P F fs (cur+ls.length)).bind λr=>some (ls++r) else none
   |_,_=>none
  else none
def kL (P:Program):Nat->TypeId->aB (aw LK)
 |0,_=>none
 |d+1,t=>
  match P.underlying t with
  |some (.int _)=>some [.int]
  |some .bool=>some [.bool]
  |some .string=>some [.str]
  |some (.struct fs)=>if P.stoodInHeld t then none else Cx P (kL P d) fs.toList 0
  |_=>none
theorem Je {xs ys:jJ}:∀{SM ys':jJ}{b:Bool},SM.length=ys'.length->rV (SM++xs) (ys'++ys)=some b->
 ∃b1 b2,rV SM ys'=some b1/\rV xs ys=some b2/\b=(b1&&b2)
 |[],[],b,_,h=>⟨true,b,rfl,h,by simp⟩
 |v::vs,u::us,b,hl,h=>by simp only[List.cons_append,rV,ba]at h;obtain⟨c,h1,d,h2,h3⟩:=h;obtain⟨b1,b2,k1,k2,rfl⟩:=Je (by simpa using hl) h2;simp at h3;subst h3;exact⟨c&&b1,b2,by simp[rV,h1,k1],k2,by simp[Bool.and_assoc]⟩
 |[],_::_,_,hl,_=>by simp at hl
 |_::_,[],_,hl,_=>by simp at hl
theorem Am:∀{xs ys:jJ}{b:Bool},rV xs ys=some b->xs.length=ys.length
 |[],[],_,_=>rfl
 |v::vs,u::us,b,h=>by simp only[rV,ba]at h;obtain⟨c,_,d,h2,_⟩:=h;simp[Am h2]
 |[],_::_,_,h=>by simp[rV]at h
 |_::_,[],_,h=>by simp[rV]at h
theorem B9:∀{ls:aw LK}{xs:jJ},sJ ls xs=true->xs.length=ls.length
 |[],[],_=>rfl
 |l::ls,x::xs,h=>by cases l<;>cases x<;>simp[sJ]at h<;>simp[B9 h]
 |[],_::_,h=>by simp[sJ]at h
 |l::ls,[],h=>by cases l<;>simp[sJ]at h
theorem LW:∀{ls ls':aw LK}{xs:jJ},sJ (ls++ls') xs=true->sJ ls (xs.take ls.length)=true/\sJ ls' (xs.drop ls.length)=true
 |[],_,_,h=>by simpa[sJ]using h
 |l::ls,ls',[],h=>by cases l<;>simp[sJ]at h
 |l::ls,ls',x::xs,h=>by cases l<;>cases x<;>simp[sJ]at h;all_goals have:=LW h;simpa[sJ]using this
def CO (P:Program)(t:TypeId)(vs:jJ):Value:=
 match P.underlying t with
 |some (.struct _)=> .agg vs.toArray
 |_=>vs.getD 0 undef
theorem UW {d:Nat}(h:kL P d t=some ls){i:TypeInfo}(hi:P.info? t=some i)(hs:i.size=ls.length)(cs:jJ)(off:Nat)(hl:off+ls.length<=cs.length)(w:World): (part t cs.toArray off).run P w=.ok (CO P t ((cs.drop off).take ls.length)) w:=by
 have leaf:ls.length=1->(∀fs,P.underlying t≠some (.struct fs))->(isAgg t).run P w=.ok false w->(part t cs.toArray off).run P w=.ok (CO P t ((cs.drop off).take ls.length)) w:=by
  intro h1 hu ha;rw[h1]at hl⊢;have hG:off<cs.length:=by omega
  have hg:cs.toArray[off]?=some cs[off]:=by simp[al hG]
  have he:CO P t ((cs.drop off).take 1)=cs[off]:=by
   have:(cs.drop off).take 1=[cs[off]]:=by rw[bW hG,List.take_succ_cons,List.take_zero]
   rw[this];unfold CO;split;rename_i fs J1;exact absurd J1 (hu fs);rfl
  simp only[part,Sem.run_bind,ha,Result.andThen_ok,bm,cC];rw[he,hg];rfl
 cases d with
 |zero=>simp[kL]at h
 |succ d=>
  simp only[kL]at h;cases hu:P.underlying t with
  |none=>rw[hu]at h;simp at h
  |some x=>
   rw[hu]at h;cases x<;>simp at h;exact leaf (by rw[<-h];rfl) (by simp[hu]) (by simp[isAgg,underlying,hu]);exact leaf (by rw[<-h];rfl) (by simp[hu]) (by simp[isAgg,underlying,hu]);exact leaf (by rw[<-h];rfl) (by simp[hu]) (by simp[isAgg,underlying,hu]);rename_i fs;have ha:(isAgg t).run P w=.ok true w:=by simp[isAgg,underlying,hu]
   simp only[part,Sem.run_bind,ha,Result.andThen_ok,cw,sizeOf,typeInfo,run_program,hi,Sem.run_pure,hs,CO,hu];congr 2;simp[List.extract_eq_take_drop]
theorem Qd:∀{d:Nat}{t:TypeId}{ls:aw LK},kL P d t=some ls->∀(D:Nat),d<=D->∀(xs ys:jJ)(b:Bool)(w:World),sJ ls xs=true->rV xs ys=some b->
 (Op.equalIn D t (CO P t xs) (CO P t ys)).run P w=.ok b w
 |0,t,ls,h,_,_,_,_,_,_,_,_=>by simp[kL]at h
 |d+1,t,ls,h,0,hD,_,_,_,_,_,_=>by omega
 |d+1,t,ls,h,D+1,hD,xs,ys,b,w,hf,he=>by
  have hly:=Am he;have hlx:=B9 hf;simp only[kL]at h
  have leaf:∀(x:TypeDesc)(l:LK),P.underlying t=some x->ls=[l]->(∀fs,x≠ .struct fs)->
   (∀u v c,sJ [l] [u]=true->OH u v=some c->(Op.equalIn (D+1) t u v).run P w=.ok c w)->(Op.equalIn (D+1) t (CO P t xs) (CO P t ys)).run P w=.ok b w:=by
   intro x l hu hls hns fD
   subst hls
   obtain⟨u,rfl⟩:=List.length_eq_one_iff.1 (by simpa using hlx)
   obtain⟨v,rfl⟩:=List.length_eq_one_iff.1 (by simpa using hly.symm)
   have hm:∀z,CO P t [z]=z:=by intro z;unfold CO;rw[hu];split;rename_i fs J1;simp at J1;exact absurd J1 (hns fs);rfl
   rw[hm,hm]
   refine fD u v b hf ?_
   simp only[rV,ba]at he
   obtain⟨c,h1,d,h2,h3⟩:=he
   simp at h2 h3;subst h2
   simp at h3;subst h3
   exact h1
  cases hu:P.underlying t with
  |none=>rw[hu]at h;simp at h
  |some x=>
   rw[hu]at h;cases x with
   |int k=>simp at h;refine leaf _ .int hu h.symm (by simp) (λu v c hv hq=>?_);cases u<;>simp[sJ]at hv;cases v<;>simp[OH]at hq;obtain⟨rfl,rfl⟩:=hq;exact run_equalIn_int w D t _ k _ _ hu
   |bool=>simp at h;refine leaf _ .bool hu h.symm (by simp) (λu v c hv hq=>?_);cases u<;>simp[sJ]at hv;cases v<;>simp[OH]at hq;subst hq;exact run_equalIn_bool' w D t _ _ hu
   |string=>simp at h;refine leaf _ .str hu h.symm (by simp) (λu v c hv hq=>?_);cases u<;>simp[sJ]at hv;cases v<;>simp[OH]at hq;subst hq;exact run_equalIn_string w D t _ _ hu
   |struct fs=>
    simp only at h;by_cases ow:P.stoodInHeld t=true;rw[aH ow]at h;cases h;rw[aG ow]at h;have ow:P.stoodInHeld t=false:=by simpa using ow
    have hfo:P.fieldsOf t=fs:=by simp[Program.fieldsOf,hu]
    have hmk:∀zs,CO P t zs=.agg zs.toArray:=λzs=>by simp[CO,hu]
    rw[hmk,hmk,run_equalIn_struct w D t _ _ (by rw[hfo];exact hu) ow,hfo]
    have main:∀(fl:aw Field)(cur:Nat)(ls:aw LK),Cx P (kL P d) fl cur=some ls->∀(b:Bool),cur<=xs.length->sJ ls (xs.drop cur)=true->rV (xs.drop cur) (ys.drop cur)=some b->
     (Op.eqFields D xs.toArray ys.toArray fl).run P w=.ok b w:=by
     intro fl
     induction fl with
     |nil=>
      intro cur ls hl b hcur hv hq
      simp[Cx]at hl
      subst hl
      have h1:=B9 hv
      have h2:=Am hq
      have e1:xs.drop cur=[]:=cr (by simpa using h1)
      have e2:ys.drop cur=[]:=cr (by rw[<-h2,e1];rfl)
      rw[e1,e2]at hq
      simp[rV]at hq
      subst hq
      simp[Op.eqFields]
     |cons f fl ih=>
      intro cur ls hl b hcur hv hq
      simp only[Cx]at hl
      split at hl
      ·rename_i hc
       split at hl
       ·rename_i ls1 i h1 hi
        split at hl
        ·rename_i wI
         simp only[ba]at hl
         obtain⟨ls2,h2,h3⟩:=hl
         simp at h3;subst h3
         have WR:=LW hv
         have hvl:=B9 hv
         simp only[aM,ai]at hvl
         have hql:=Am hq
         simp only[aM]at hql
         have ex:xs.drop cur=(xs.drop cur).take ls1.length++(xs.drop cur).drop ls1.length:=(cR _ _).symm
         have ey:ys.drop cur=(ys.drop cur).take ls1.length++(ys.drop cur).drop ls1.length:=(cR _ _).symm
         rw[ex,ey]at hq
         obtain⟨b1,b2,q1,q2,rfl⟩:=Je (by simp;omega) hq
         rw[fP]at q2 WR
         have p1:=UW h1 hi wI.1 xs cur (by omega) w
         have p2:=UW h1 hi wI.1 ys cur (by omega) w
         have r1:=Qd h1 D (by omega) _ _ b1 w WR.1 q1
         rw[fP]at q2
         have r2:=ih (cur+ls1.length) ls2 h2 b2 (by omega) WR.2 q2
         simp only[Op.eqFields,hc.1,ne_eq,not_false_eq_true,cw,hc.2,Sem.run_bind,p1,p2,Result.andThen_ok,r1]
         cases b1
         ·simp
         ·simpa using r2
        ·cases hl
       ·cases hl
      ·cases hl
    exact main fs.toList 0 ls h b (cd _) (by simpa using hf) (by simpa using he)
   |_=>simp at h
theorem toList_mk (s:aw UInt8):(ByteArray.mk s.toArray).toList=s:=by rw[ByteArray.toList_eq]
theorem PI {o:aB Bool}{p b:Bool}(h:(o.bind λd=>some (p&&d))=some b):∃d,o=some d/\(p&&d)=b:=by cases o with|none=>simp at h|some d=>exact⟨d,rfl,by simpa using h⟩
theorem Bs:∀{xs ys:aw AC}{vs us:jJ}{f1 f2:fM}{b:Bool},bV c vs xs f1->bV c us ys f2->xv xs ys=some b->rV vs us=some b
 |[],[],[],[],_,_,_,_,_,h=>h
 |x::xs,y::ys,v::vs,u::us,_,_,b,r1,r2,h=>by obtain⟨g1,g2,rfl,a1,a2⟩:=r1;obtain⟨h1,h2,rfl,b1,b2⟩:=r2;unfold xv at h;split at h;rename_i e1 e2;cases e1;rename_i k p SM k' q ys' e1 e2;cases e1;cases e2;split at h;rename_i hk;subst hk;obtain⟨d,hd,hb⟩:=PI h;rw[a1.1,b1.1];simp only[rV,OH,cw,fF,Bs a2 b2 hd,hb];cases h;rename_i p SM q ys' e1 e2;cases e1;cases e2;obtain⟨d,hd,hb⟩:=PI h;rw[a1.1,b1.1];simp only[rV,OH,fF,Bs a2 b2 hd,hb];rename_i p SM q ys' e1 e2;cases e1;cases e2;obtain⟨d,hd,hb⟩:=PI h;rw[a1.1,b1.1];simp only[rV,OH,fF,Bs a2 b2 hd,hb,toList_mk];cases h
 |[],[],v::vs,_,_,_,_,r1,_,_=>r1.elim
 |[],[],[],u::us,_,_,_,_,r2,_=>r2.elim
 |x::xs,_,[],_,_,_,_,r1,_,_=>r1.elim
 |_,y::ys,_,[],_,_,_,_,r2,_=>r2.elim
 |[],y::ys,_,_,_,_,_,_,_,h=>by simp[xv]at h
 |x::xs,[],_,_,_,_,_,_,_,h=>by cases x<;>simp[xv]at h
theorem HP:∀{ls:aw LK}{xs:aw AC}{vs:jJ}{f1:fM},bV c vs xs f1->fits ls xs=true->sJ ls vs=true
 |[],[],[],_,_,_=>rfl
 |l::ls,x::xs,v::vs,_,r1,h=>by obtain⟨g1,g2,rfl,a1,a2⟩:=r1;cases l<;>cases x<;>simp[fits]at h;rw[a1.1];simpa[sJ]using HP a2 h;rw[a1.1];simpa[sJ]using HP a2 h;rw[a1.1];simpa[sJ]using HP a2 h
 |[],[],v::vs,_,r1,_=>r1.elim
 |_,x::xs,[],_,r1,_=>r1.elim
 |[],x::xs,_,_,_,h=>by simp[fits]at h
 |l::ls,[],_,_,_,h=>by cases l<;>simp[fits]at h
def X0 (P:Program)(l:aw (Nat×aw LK)):Prop:=∀t ls,UJ l t=some ls->
 kL P 50 t=some ls/\(∃fs,P.underlying t=some (.struct fs))/\P.eqGuardType P.depth t=false
def eqB (P:Program)(t:TypeId)(ls:aw LK):Bool:=
 decide (kL P 50 t=some ls)&&(match P.underlying t with|some (.struct _)=>true|_=>false)&& !(P.eqGuardType P.depth t)
theorem aae:∀{l:aw (Nat×aw LK)},(l.all λx=>eqB P x.1 x.2)=true->X0 P l
 |[],_,t,ls,h=>by simp[UJ]at h
 |(u,s)::r,hl,t,ls,h=>by simp only[cz,ae]at hl;simp only[UJ]at h;cases hu:u==t with|true=>rw[hu]at h;simp at hu h;subst hu;subst h;have h1:=hl.1;simp only[eqB,ae,aJ,aO]at h1;refine⟨h1.1.1,?_,h1.2⟩;have h2:=h1.1.2;split at h2;rename_i fs J1;exact⟨fs,J1⟩;cases h2|false=>rw[hu]at h;exact aae hl.2 t ls h
theorem apY {l:aw (Nat×aw LK)}(hl:X0 P l)(ht:UJ l t=some ls){xs ys:aw AC}{vs us:jJ}{f1 f2:fM}{b:Bool}(r1:bV c vs xs f1)(r2:bV c us ys f2)(hf:fits ls xs=true)(he:xv xs ys=some b)(w:World): (Op.equal t (.agg vs.toArray) (.agg us.toArray)).run P w=.ok b w:=by
 obtain⟨h1,⟨fs,hu⟩,_⟩:=hl t ls ht;have:=Qd h1 Op.maxDepth (by decide) vs us b w (HP r1 hf) (Bs r1 r2 he);have hm:∀zs,CO P t zs=.agg zs.toArray:=λzs=>by simp[CO,hu]
 rw[hm,hm]at this;exact this
end Go.Dn
