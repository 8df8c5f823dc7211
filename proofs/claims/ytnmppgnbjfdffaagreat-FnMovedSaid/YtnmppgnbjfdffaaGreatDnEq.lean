import Derived.Test.YtnmppgnbjfdffaaGreatDnMem
/- '==' of structs, cell by cell. -/
namespace Go.Dn
variable {P:Program} {c:RC} {t:TypeId} {ls:aw LK}
def I2:Value->Value->ax Bool
 | .int k a,.int k' b=>if k=k' then some (a==b) else none
 | .bool a,.bool b=>some (a==b)
 | .string a,.string b=>some (a.toList==b.toList)
 |_,_=>none
def oS:iq->iq->ax Bool
 |[],[]=>some true
 |v::vs,u::us=>(I2 v u).bind λa=>(oS vs us).bind λb=>some (a&&b)
 |_,_=>none
def pB:aw LK->iq->Bool
 |[],[]=>true
 | .int::ls,.int _ _::r=>pB ls r
 | .bool::ls,.bool _::r=>pB ls r
 | .str::ls,.string _::r=>pB ls r
 |_,_=>false
def yn (P:Program)(F:TypeId->ax (aw LK)):aw Field->Nat->ax (aw LK)
 |[],_=>some []
 |f::fs,cur=>
  if f.name≠ "_" /\f.offset=cur then
   match F f.type,P.info? f.type with
   |some ls,some i=>if i.size=ls.length/\0<ls.length then(yn P F fs (cur+ls.length)).bind λr=>some (ls++r) else none
   |_,_=>none
  else none
def je (P:Program):Nat->TypeId->ax (aw LK)
 |0,_=>none
 |d+1,t=>
  match P.underlying t with
  |some (.int _)=>some [.int]
  |some .bool=>some [.bool]
  |some .string=>some [.str]
  |some (.struct fs)=>if P.stoodInHeld t then none else yn P (je P d) fs.toList 0
  |_=>none
theorem Eo {xs ys:iq}:∀{Ma ys':iq}{b:Bool},Ma.length=ys'.length->oS (Ma++xs) (ys'++ys)=some b->
 ∃b1 b2,oS Ma ys'=some b1/\oS xs ys=some b2/\b=(b1&&b2)
 |[],[],b,_,h=>⟨true,b,rfl,h,by simp⟩
 |v::vs,u::us,b,hl,h=>by simp only[List.cons_append,oS,aL]at h;obtain⟨c,h1,d,h2,h3⟩:=h;obtain⟨b1,b2,k1,k2,rfl⟩:=Eo (by simpa using hl) h2;simp at h3;subst h3;exact⟨c&&b1,b2,by simp[oS,h1,k1],k2,by simp[Bool.and_assoc]⟩
 |[],_::_,_,hl,_=>by simp at hl
 |_::_,[],_,hl,_=>by simp at hl
theorem wc:∀{xs ys:iq}{b:Bool},oS xs ys=some b->xs.length=ys.length
 |[],[],_,_=>rfl
 |v::vs,u::us,b,h=>by simp only[oS,aL]at h;obtain⟨c,_,d,h2,_⟩:=h;simp[wc h2]
 |[],_::_,_,h=>by simp[oS]at h
 |_::_,[],_,h=>by simp[oS]at h
theorem xR:∀{ls:aw LK}{xs:iq},pB ls xs=true->xs.length=ls.length
 |[],[],_=>rfl
 |l::ls,x::xs,h=>by cases l<;>cases x<;>simp[pB]at h<;>simp[xR h]
 |[],_::_,h=>by simp[pB]at h
 |l::ls,[],h=>by cases l<;>simp[pB]at h
theorem GP:∀{ls ls':aw LK}{xs:iq},pB (ls++ls') xs=true->pB ls (xs.take ls.length)=true/\pB ls' (xs.drop ls.length)=true
 |[],_,_,h=>by simpa[pB]using h
 |l::ls,ls',[],h=>by cases l<;>simp[pB]at h
 |l::ls,ls',x::xs,h=>by cases l<;>cases x<;>simp[pB]at h;all_goals have:=GP h;simpa[pB]using this
def yB (P:Program)(t:TypeId)(vs:iq):Value:=
 match P.underlying t with
 |some (.struct _)=> .agg vs.toArray
 |_=>vs.getD 0 undef
theorem NW {d:Nat}(h:je P d t=some ls){i:TypeInfo}(hi:P.info? t=some i)(hs:i.size=ls.length)(cs:iq)(off:Nat)(hl:off+ls.length<=cs.length)(w:World): (part t cs.toArray off).run P w=.ok (yB P t ((cs.drop off).take ls.length)) w:=by
 have leaf:ls.length=1->(∀fs,P.underlying t≠some (.struct fs))->(isAgg t).run P w=.ok false w->(part t cs.toArray off).run P w=.ok (yB P t ((cs.drop off).take ls.length)) w:=by
  intro h1 hu ha;rw[h1]at hl⊢;have gQ:off<cs.length:=by omega
  have hg:cs.toArray[off]?=some cs[off]:=by simp[al gQ]
  have he:yB P t ((cs.drop off).take 1)=cs[off]:=by
   have:(cs.drop off).take 1=[cs[off]]:=by rw[bJ gQ,List.take_succ_cons,List.take_zero]
   rw[this];unfold yB;split;rename_i fs E9;exact absurd E9 (hu fs);rfl
  simp only[part,Sem.run_bind,ha,Result.andThen_ok,aW,bU];rw[he,hg];rfl
 cases d with
 |zero=>simp[je]at h
 |succ d=>
  simp only[je]at h;cases hu:P.underlying t with
  |none=>rw[hu]at h;simp at h
  |some x=>
   rw[hu]at h;cases x<;>simp at h;exact leaf (by rw[<-h];rfl) (by simp[hu]) (by simp[isAgg,underlying,hu]);exact leaf (by rw[<-h];rfl) (by simp[hu]) (by simp[isAgg,underlying,hu]);exact leaf (by rw[<-h];rfl) (by simp[hu]) (by simp[isAgg,underlying,hu]);rename_i fs;have ha:(isAgg t).run P w=.ok true w:=by simp[isAgg,underlying,hu]
   simp only[part,Sem.run_bind,ha,Result.andThen_ok,bN,sizeOf,typeInfo,run_program,hi,Sem.run_pure,hs,yB,hu];congr 2;simp[List.extract_eq_take_drop]
theorem J7:∀{d:Nat}{t:TypeId}{ls:aw LK},je P d t=some ls->∀(D:Nat),d<=D->∀(xs ys:iq)(b:Bool)(w:World),pB ls xs=true->oS xs ys=some b->
 (Op.equalIn D t (yB P t xs) (yB P t ys)).run P w=.ok b w
 |0,t,ls,h,_,_,_,_,_,_,_,_=>by simp[je]at h
 |d+1,t,ls,h,0,hD,_,_,_,_,_,_=>by omega
 |d+1,t,ls,h,D+1,hD,xs,ys,b,w,hf,he=>by
  have hly:=wc he;have hlx:=xR hf;simp only[je]at h
  have leaf:∀(x:TypeDesc)(l:LK),P.underlying t=some x->ls=[l]->(∀fs,x≠ .struct fs)->
   (∀u v c,pB [l] [u]=true->I2 u v=some c->(Op.equalIn (D+1) t u v).run P w=.ok c w)->(Op.equalIn (D+1) t (yB P t xs) (yB P t ys)).run P w=.ok b w:=by
   intro x l hu hls hns ee
   subst hls
   obtain⟨u,rfl⟩:=List.length_eq_one_iff.1 (by simpa using hlx)
   obtain⟨v,rfl⟩:=List.length_eq_one_iff.1 (by simpa using hly.symm)
   have hm:∀z,yB P t [z]=z:=by intro z;unfold yB;rw[hu];split;rename_i fs E9;simp at E9;exact absurd E9 (hns fs);rfl
   rw[hm,hm]
   refine ee u v b hf ?_
   simp only[oS,aL]at he
   obtain⟨c,h1,d,h2,h3⟩:=he
   simp at h2 h3;subst h2
   simp at h3;subst h3
   exact h1
  cases hu:P.underlying t with
  |none=>rw[hu]at h;simp at h
  |some x=>
   rw[hu]at h;cases x with
   |int k=>simp at h;refine leaf _ .int hu h.symm (by simp) (λu v c hv hq=>?_);cases u<;>simp[pB]at hv;cases v<;>simp[I2]at hq;obtain⟨rfl,rfl⟩:=hq;exact run_equalIn_int w D t _ k _ _ hu
   |bool=>simp at h;refine leaf _ .bool hu h.symm (by simp) (λu v c hv hq=>?_);cases u<;>simp[pB]at hv;cases v<;>simp[I2]at hq;subst hq;exact run_equalIn_bool' w D t _ _ hu
   |string=>simp at h;refine leaf _ .str hu h.symm (by simp) (λu v c hv hq=>?_);cases u<;>simp[pB]at hv;cases v<;>simp[I2]at hq;subst hq;exact run_equalIn_string w D t _ _ hu
   |struct fs=>
    simp only at h;by_cases mi:P.stoodInHeld t=true;rw[aE mi]at h;cases h;rw[aH mi]at h;have mi:P.stoodInHeld t=false:=by simpa using mi
    have hfo:P.fieldsOf t=fs:=by simp[Program.fieldsOf,hu]
    have hmk:∀zs,yB P t zs=.agg zs.toArray:=λzs=>by simp[yB,hu]
    rw[hmk,hmk,run_equalIn_struct w D t _ _ (by rw[hfo];exact hu) mi,hfo]
    have main:∀(fl:aw Field)(cur:Nat)(ls:aw LK),yn P (je P d) fl cur=some ls->∀(b:Bool),cur<=xs.length->pB ls (xs.drop cur)=true->oS (xs.drop cur) (ys.drop cur)=some b->
     (Op.eqFields D xs.toArray ys.toArray fl).run P w=.ok b w:=by
     intro fl
     induction fl with
     |nil=>
      intro cur ls hl b hcur hv hq
      simp[yn]at hl
      subst hl
      have h1:=xR hv
      have h2:=wc hq
      have e1:xs.drop cur=[]:=bS (by simpa using h1)
      have e2:ys.drop cur=[]:=bS (by rw[<-h2,e1];rfl)
      rw[e1,e2]at hq
      simp[oS]at hq
      subst hq
      simp[Op.eqFields]
     |cons f fl ih=>
      intro cur ls hl b hcur hv hq
      simp only[yn]at hl
      split at hl
      ·rename_i hc
       split at hl
       ·rename_i ls1 i h1 hi
        split at hl
        ·rename_i ti
         simp only[aL]at hl
         obtain⟨ls2,h2,h3⟩:=hl
         simp at h3;subst h3
         have Pp:=GP hv
         have hvl:=xR hv
         simp only[aM,ai]at hvl
         have hql:=wc hq
         simp only[aM]at hql
         have ex:xs.drop cur=(xs.drop cur).take ls1.length++(xs.drop cur).drop ls1.length:=(cl _ _).symm
         have ey:ys.drop cur=(ys.drop cur).take ls1.length++(ys.drop cur).drop ls1.length:=(cl _ _).symm
         rw[ex,ey]at hq
         obtain⟨b1,b2,q1,q2,rfl⟩:=Eo (by simp;omega) hq
         rw[eH]at q2 Pp
         have p1:=NW h1 hi ti.1 xs cur (by omega) w
         have p2:=NW h1 hi ti.1 ys cur (by omega) w
         have r1:=J7 h1 D (by omega) _ _ b1 w Pp.1 q1
         rw[eH]at q2
         have r2:=ih (cur+ls1.length) ls2 h2 b2 (by omega) Pp.2 q2
         simp only[Op.eqFields,hc.1,ne_eq,not_false_eq_true,bN,hc.2,Sem.run_bind,p1,p2,Result.andThen_ok,r1]
         cases b1
         ·simp
         ·simpa using r2
        ·cases hl
       ·cases hl
      ·cases hl
    exact main fs.toList 0 ls h b (bW _) (by simpa using hf) (by simpa using he)
   |_=>simp at h
theorem toList_mk (s:aw UInt8):(ByteArray.mk s.toArray).toList=s:=by rw[ByteArray.toList_eq]
theorem JM {o:ax Bool}{p b:Bool}(h:(o.bind λd=>some (p&&d))=some b):∃d,o=some d/\(p&&d)=b:=by cases o with|none=>simp at h|some d=>exact⟨d,rfl,by simpa using h⟩
theorem xl:∀{xs ys:aw AC}{vs us:iq}{f1 f2:fw}{b:Bool},bB c vs xs f1->bB c us ys f2->tr xs ys=some b->oS vs us=some b
 |[],[],[],[],_,_,_,_,_,h=>h
 |x::xs,y::ys,v::vs,u::us,_,_,b,r1,r2,h=>by obtain⟨g1,g2,rfl,a1,a2⟩:=r1;obtain⟨h1,h2,rfl,b1,b2⟩:=r2;unfold tr at h;split at h;rename_i e1 e2;cases e1;rename_i k p Ma k' q ys' e1 e2;cases e1;cases e2;split at h;rename_i hk;subst hk;obtain⟨d,hd,hb⟩:=JM h;rw[a1.1,b1.1];simp only[oS,I2,bN,eo,xl a2 b2 hd,hb];cases h;rename_i p Ma q ys' e1 e2;cases e1;cases e2;obtain⟨d,hd,hb⟩:=JM h;rw[a1.1,b1.1];simp only[oS,I2,eo,xl a2 b2 hd,hb];rename_i p Ma q ys' e1 e2;cases e1;cases e2;obtain⟨d,hd,hb⟩:=JM h;rw[a1.1,b1.1];simp only[oS,I2,eo,xl a2 b2 hd,hb,toList_mk];cases h
 |[],[],v::vs,_,_,_,_,r1,_,_=>r1.elim
 |[],[],[],u::us,_,_,_,_,r2,_=>r2.elim
 |x::xs,_,[],_,_,_,_,r1,_,_=>r1.elim
 |_,y::ys,_,[],_,_,_,_,r2,_=>r2.elim
 |[],y::ys,_,_,_,_,_,_,_,h=>by simp[tr]at h
 |x::xs,[],_,_,_,_,_,_,_,h=>by cases x<;>simp[tr]at h
theorem Dj:∀{ls:aw LK}{xs:aw AC}{vs:iq}{f1:fw},bB c vs xs f1->fits ls xs=true->pB ls vs=true
 |[],[],[],_,_,_=>rfl
 |l::ls,x::xs,v::vs,_,r1,h=>by obtain⟨g1,g2,rfl,a1,a2⟩:=r1;cases l<;>cases x<;>simp[fits]at h;rw[a1.1];simpa[pB]using Dj a2 h;rw[a1.1];simpa[pB]using Dj a2 h;rw[a1.1];simpa[pB]using Dj a2 h
 |[],[],v::vs,_,r1,_=>r1.elim
 |_,x::xs,[],_,r1,_=>r1.elim
 |[],x::xs,_,_,_,h=>by simp[fits]at h
 |l::ls,[],_,_,_,h=>by cases l<;>simp[fits]at h
def QC (P:Program)(l:aw (Nat×aw LK)):Prop:=∀t ls,NF l t=some ls->
 je P 50 t=some ls/\(∃fs,P.underlying t=some (.struct fs))/\P.eqGuardType P.depth t=false
def eqB (P:Program)(t:TypeId)(ls:aw LK):Bool:=
 decide (je P 50 t=some ls)&&(match P.underlying t with|some (.struct _)=>true|_=>false)&& !(P.eqGuardType P.depth t)
theorem So:∀{l:aw (Nat×aw LK)},(l.all λx=>eqB P x.1 x.2)=true->QC P l
 |[],_,t,ls,h=>by simp[NF]at h
 |(u,s)::r,hl,t,ls,h=>by simp only[cb,ae]at hl;simp only[NF]at h;cases hu:u==t with|true=>rw[hu]at h;simp at hu h;subst hu;subst h;have h1:=hl.1;simp only[eqB,ae,aB,aK]at h1;refine⟨h1.1.1,?_,h1.2⟩;have h2:=h1.1.2;split at h2;rename_i fs E9;exact⟨fs,E9⟩;cases h2|false=>rw[hu]at h;exact So hl.2 t ls h
theorem agM {l:aw (Nat×aw LK)}(hl:QC P l)(ht:NF l t=some ls){xs ys:aw AC}{vs us:iq}{f1 f2:fw}{b:Bool}(r1:bB c vs xs f1)(r2:bB c us ys f2)(hf:fits ls xs=true)(he:tr xs ys=some b)(w:World): (Op.equal t (.agg vs.toArray) (.agg us.toArray)).run P w=.ok b w:=by
 obtain⟨h1,⟨fs,hu⟩,_⟩:=hl t ls ht;have:=J7 h1 Op.maxDepth (by decide) vs us b w (Dj r1 hf) (xl r1 r2 he);have hm:∀zs,yB P t zs=.agg zs.toArray:=λzs=>by simp[yB,hu]
 rw[hm,hm]at this;exact this
end Go.Dn
