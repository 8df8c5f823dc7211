import Derived.Test.YthllnaiaikjelaaGreatDnMem
/- '==' of structs, cell by cell. -/
namespace Go.Dn
variable {P:Program} {c:RC} {t:TypeId} {ls:aq LK}
def Mv:Value->Value->ar Bool
 | .int k a,.int k' b=>if k=k' then some (a==b) else none
 | .bool a,.bool b=>some (a==b)
 | .string a,.string b=>some (a.toList==b.toList)
 |_,_=>none
def ph:gO->gO->ar Bool
 |[],[]=>some true
 |v::vs,u::us=>(Mv v u).bind λa=>(ph vs us).bind λb=>some (a&&b)
 |_,_=>none
def pU:aq LK->gO->Bool
 |[],[]=>true
 | .int::ls,.int _ _::r=>pU ls r
 | .bool::ls,.bool _::r=>pU ls r
 | .str::ls,.string _::r=>pU ls r
 |_,_=>false
def Bl (P:Program)(F:TypeId->ar (aq LK)):aq Field->Nat->ar (aq LK)
 |[],_=>some []
 |f::fs,cur=>
  if f.name≠ "_" /\f.offset=cur then
   match F f.type,P.info? f.type with
   |some ls,some i=>if i.size=ls.length/\0<ls.length then(Bl P F fs (cur+ls.length)).bind λr=>some (ls++r) else none
   |_,_=>none
  else none
def fT (P:Program):Nat->TypeId->ar (aq LK)
 |0,_=>none
 |d+1,t=>
  match P.underlying t with
  |some (.int _)=>some [.int]
  |some .bool=>some [.bool]
  |some .string=>some [.str]
  |some (.struct fs)=>if P.stoodInHeld t then none else Bl P (fT P d) fs.toList 0
  |_=>none
theorem Iw {xs ys:gO}:∀{PM ys':gO}{b:Bool},PM.length=ys'.length->ph (PM++xs) (ys'++ys)=some b->
 ∃b1 b2,ph PM ys'=some b1/\ph xs ys=some b2/\b=(b1&&b2)
 |[],[],b,_,h=>⟨true,b,rfl,h,by simp⟩
 |v::vs,u::us,b,hl,h=>by simp only[List.cons_append,ph,aI]at h;obtain⟨c,h1,d,h2,h3⟩:=h;obtain⟨b1,b2,k1,k2,rfl⟩:=Iw (by simpa using hl) h2;simp at h3;subst h3;exact⟨c&&b1,b2,by simp[ph,h1,k1],k2,by simp[Bool.and_assoc]⟩
 |[],_::_,_,hl,_=>by simp at hl
 |_::_,[],_,hl,_=>by simp at hl
theorem yD:∀{xs ys:gO}{b:Bool},ph xs ys=some b->xs.length=ys.length
 |[],[],_,_=>rfl
 |v::vs,u::us,b,h=>by simp only[ph,aI]at h;obtain⟨c,_,d,h2,_⟩:=h;simp[yD h2]
 |[],_::_,_,h=>by simp[ph]at h
 |_::_,[],_,h=>by simp[ph]at h
theorem AR:∀{ls:aq LK}{xs:gO},pU ls xs=true->xs.length=ls.length
 |[],[],_=>rfl
 |l::ls,x::xs,h=>by cases l<;>cases x<;>simp[pU]at h<;>simp[AR h]
 |[],_::_,h=>by simp[pU]at h
 |l::ls,[],h=>by cases l<;>simp[pU]at h
theorem KN:∀{ls ls':aq LK}{xs:gO},pU (ls++ls') xs=true->pU ls (xs.take ls.length)=true/\pU ls' (xs.drop ls.length)=true
 |[],_,_,h=>by simpa[pU]using h
 |l::ls,ls',[],h=>by cases l<;>simp[pU]at h
 |l::ls,ls',x::xs,h=>by cases l<;>cases x<;>simp[pU]at h;all_goals have:=KN h;simpa[pU]using this
def BQ (P:Program)(t:TypeId)(vs:gO):Value:=
 match P.underlying t with
 |some (.struct _)=> .agg vs.toArray
 |_=>vs.getD 0 undef
theorem Ro {d:Nat}(h:fT P d t=some ls){i:TypeInfo}(hi:P.info? t=some i)(hs:i.size=ls.length)(cs:gO)(off:Nat)(hl:off+ls.length<=cs.length)(w:World): (part t cs.toArray off).run P w=.ok (BQ P t ((cs.drop off).take ls.length)) w:=by
 have leaf:ls.length=1->(∀fs,P.underlying t≠some (.struct fs))->(isAgg t).run P w=.ok false w->(part t cs.toArray off).run P w=.ok (BQ P t ((cs.drop off).take ls.length)) w:=by
  intro h1 hu ha;rw[h1]at hl⊢;have gM:off<cs.length:=by omega
  have hg:cs.toArray[off]?=some cs[off]:=by simp[ax gM]
  have he:BQ P t ((cs.drop off).take 1)=cs[off]:=by
   have:(cs.drop off).take 1=[cs[off]]:=by rw[cc gM,List.take_succ_cons,List.take_zero]
   rw[this];unfold BQ;split;rename_i fs HP;exact absurd HP (hu fs);rfl
  simp only[part,Sem.run_bind,ha,Result.andThen_ok,aW,bV];rw[he,hg];rfl
 cases d with
 |zero=>simp[fT]at h
 |succ d=>
  simp only[fT]at h;cases hu:P.underlying t with
  |none=>rw[hu]at h;simp at h
  |some x=>
   rw[hu]at h;cases x<;>simp at h;exact leaf (by rw[<-h];rfl) (by simp[hu]) (by simp[isAgg,underlying,hu]);exact leaf (by rw[<-h];rfl) (by simp[hu]) (by simp[isAgg,underlying,hu]);exact leaf (by rw[<-h];rfl) (by simp[hu]) (by simp[isAgg,underlying,hu]);rename_i fs;have ha:(isAgg t).run P w=.ok true w:=by simp[isAgg,underlying,hu]
   simp only[part,Sem.run_bind,ha,Result.andThen_ok,bF,sizeOf,typeInfo,run_program,hi,Sem.run_pure,hs,BQ,hu];congr 2;simp[List.extract_eq_take_drop]
theorem NL:∀{d:Nat}{t:TypeId}{ls:aq LK},fT P d t=some ls->∀(D:Nat),d<=D->∀(xs ys:gO)(b:Bool)(w:World),pU ls xs=true->ph xs ys=some b->
 (Op.equalIn D t (BQ P t xs) (BQ P t ys)).run P w=.ok b w
 |0,t,ls,h,_,_,_,_,_,_,_,_=>by simp[fT]at h
 |d+1,t,ls,h,0,hD,_,_,_,_,_,_=>by omega
 |d+1,t,ls,h,D+1,hD,xs,ys,b,w,hf,he=>by
  have hly:=yD he;have hlx:=AR hf;simp only[fT]at h
  have leaf:∀(x:TypeDesc)(l:LK),P.underlying t=some x->ls=[l]->(∀fs,x≠ .struct fs)->
   (∀u v c,pU [l] [u]=true->Mv u v=some c->(Op.equalIn (D+1) t u v).run P w=.ok c w)->(Op.equalIn (D+1) t (BQ P t xs) (BQ P t ys)).run P w=.ok b w:=by
   intro x l hu hls hns dD
   subst hls
   obtain⟨u,rfl⟩:=List.length_eq_one_iff.1 (by simpa using hlx)
   obtain⟨v,rfl⟩:=List.length_eq_one_iff.1 (by simpa using hly.symm)
   have hm:∀z,BQ P t [z]=z:=by intro z;unfold BQ;rw[hu];split;rename_i fs HP;simp at HP;exact absurd HP (hns fs);rfl
   rw[hm,hm]
   refine dD u v b hf ?_
   simp only[ph,aI]at he
   obtain⟨c,h1,d,h2,h3⟩:=he
   simp at h2 h3;subst h2
   simp at h3;subst h3
   exact h1
  cases hu:P.underlying t with
  |none=>rw[hu]at h;simp at h
  |some x=>
   rw[hu]at h;cases x with
   |int k=>simp at h;refine leaf _ .int hu h.symm (by simp) (λu v c hv hq=>?_);cases u<;>simp[pU]at hv;cases v<;>simp[Mv]at hq;obtain⟨rfl,rfl⟩:=hq;exact run_equalIn_int w D t _ k _ _ hu
   |bool=>simp at h;refine leaf _ .bool hu h.symm (by simp) (λu v c hv hq=>?_);cases u<;>simp[pU]at hv;cases v<;>simp[Mv]at hq;subst hq;exact run_equalIn_bool' w D t _ _ hu
   |string=>simp at h;refine leaf _ .str hu h.symm (by simp) (λu v c hv hq=>?_);cases u<;>simp[pU]at hv;cases v<;>simp[Mv]at hq;subst hq;exact run_equalIn_string w D t _ _ hu
   |struct fs=>
    simp only at h;by_cases lh:P.stoodInHeld t=true;rw[aH lh]at h;cases h;rw[aG lh]at h;have lh:P.stoodInHeld t=false:=by simpa using lh
    have hfo:P.fieldsOf t=fs:=by simp[Program.fieldsOf,hu]
    have hmk:∀zs,BQ P t zs=.agg zs.toArray:=λzs=>by simp[BQ,hu]
    rw[hmk,hmk,run_equalIn_struct w D t _ _ (by rw[hfo];exact hu) lh,hfo]
    have main:∀(fl:aq Field)(cur:Nat)(ls:aq LK),Bl P (fT P d) fl cur=some ls->∀(b:Bool),cur<=xs.length->pU ls (xs.drop cur)=true->ph (xs.drop cur) (ys.drop cur)=some b->
     (Op.eqFields D xs.toArray ys.toArray fl).run P w=.ok b w:=by
     intro fl
     induction fl with
     |nil=>
      intro cur ls hl b hcur hv hq
      simp[Bl]at hl
      subst hl
      have h1:=AR hv
      have h2:=yD hq
      have e1:xs.drop cur=[]:=cw (by simpa using h1)
      have e2:ys.drop cur=[]:=cw (by rw[<-h2,e1];rfl)
      rw[e1,e2]at hq
      simp[ph]at hq
      subst hq
      simp[Op.eqFields]
     |cons f fl ih=>
      intro cur ls hl b hcur hv hq
      simp only[Bl]at hl
      split at hl
      ·rename_i hc
       split at hl
       ·rename_i ls1 i h1 hi
        split at hl
        ·rename_i sD
         simp only[aI]at hl
         obtain⟨ls2,h2,h3⟩:=hl
         simp at h3;subst h3
         have L4:=KN hv
         have hvl:=AR hv
         simp only[bl,au]at hvl
         have hql:=yD hq
         simp only[bl]at hql
         have ex:xs.drop cur=(xs.drop cur).take ls1.length++(xs.drop cur).drop ls1.length:=(cg _ _).symm
         have ey:ys.drop cur=(ys.drop cur).take ls1.length++(ys.drop cur).drop ls1.length:=(cg _ _).symm
         rw[ex,ey]at hq
         obtain⟨b1,b2,q1,q2,rfl⟩:=Iw (by simp;omega) hq
         rw[eo]at q2 L4
         have p1:=Ro h1 hi sD.1 xs cur (by omega) w
         have p2:=Ro h1 hi sD.1 ys cur (by omega) w
         have r1:=NL h1 D (by omega) _ _ b1 w L4.1 q1
         rw[eo]at q2
         have r2:=ih (cur+ls1.length) ls2 h2 b2 (by omega) L4.2 q2
         simp only[Op.eqFields,hc.1,ne_eq,not_false_eq_true,bF,hc.2,Sem.run_bind,p1,p2,Result.andThen_ok,r1]
         cases b1
         ·simp
         ·simpa using r2
        ·cases hl
       ·cases hl
      ·cases hl
    exact main fs.toList 0 ls h b (fB _) (by simpa using hf) (by simpa using he)
   |_=>simp at h
theorem toList_mk (s:aq UInt8):(ByteArray.mk s.toArray).toList=s:=by rw[ByteArray.toList_eq]
theorem Np {o:ar Bool}{p b:Bool}(h:(o.bind λd=>some (p&&d))=some b):∃d,o=some d/\(p&&d)=b:=by cases o with|none=>simp at h|some d=>exact⟨d,rfl,by simpa using h⟩
theorem Aa:∀{xs ys:aq AC}{vs us:gO}{f1 f2:dy}{b:Bool},bn c vs xs f1->bn c us ys f2->uY xs ys=some b->ph vs us=some b
 |[],[],[],[],_,_,_,_,_,h=>h
 |x::xs,y::ys,v::vs,u::us,_,_,b,r1,r2,h=>by obtain⟨g1,g2,rfl,a1,a2⟩:=r1;obtain⟨h1,h2,rfl,b1,b2⟩:=r2;unfold uY at h;split at h;rename_i e1 e2;cases e1;rename_i k p PM k' q ys' e1 e2;cases e1;cases e2;split at h;rename_i hk;subst hk;obtain⟨d,hd,hb⟩:=Np h;rw[a1.1,b1.1];simp only[ph,Mv,bF,dZ,Aa a2 b2 hd,hb];cases h;rename_i p PM q ys' e1 e2;cases e1;cases e2;obtain⟨d,hd,hb⟩:=Np h;rw[a1.1,b1.1];simp only[ph,Mv,dZ,Aa a2 b2 hd,hb];rename_i p PM q ys' e1 e2;cases e1;cases e2;obtain⟨d,hd,hb⟩:=Np h;rw[a1.1,b1.1];simp only[ph,Mv,dZ,Aa a2 b2 hd,hb,toList_mk];cases h
 |[],[],v::vs,_,_,_,_,r1,_,_=>r1.elim
 |[],[],[],u::us,_,_,_,_,r2,_=>r2.elim
 |x::xs,_,[],_,_,_,_,r1,_,_=>r1.elim
 |_,y::ys,_,[],_,_,_,_,r2,_=>r2.elim
 |[],y::ys,_,_,_,_,_,_,_,h=>by simp[uY]at h
 |x::xs,[],_,_,_,_,_,_,_,h=>by cases x<;>simp[uY]at h
theorem Hd:∀{ls:aq LK}{xs:aq AC}{vs:gO}{f1:dy},bn c vs xs f1->fits ls xs=true->pU ls vs=true
 |[],[],[],_,_,_=>rfl
 |l::ls,x::xs,v::vs,_,r1,h=>by obtain⟨g1,g2,rfl,a1,a2⟩:=r1;cases l<;>cases x<;>simp[fits]at h;rw[a1.1];simpa[pU]using Hd a2 h;rw[a1.1];simpa[pU]using Hd a2 h;rw[a1.1];simpa[pU]using Hd a2 h
 |[],[],v::vs,_,r1,_=>r1.elim
 |_,x::xs,[],_,r1,_=>r1.elim
 |[],x::xs,_,_,_,h=>by simp[fits]at h
 |l::ls,[],_,_,_,h=>by cases l<;>simp[fits]at h
def TR (P:Program)(l:aq (Nat×aq LK)):Prop:=∀t ls,Re l t=some ls->
 fT P 50 t=some ls/\(∃fs,P.underlying t=some (.struct fs))/\P.eqGuardType P.depth t=false
def eqB (P:Program)(t:TypeId)(ls:aq LK):Bool:=
 decide (fT P 50 t=some ls)&&(match P.underlying t with|some (.struct _)=>true|_=>false)&& !(P.eqGuardType P.depth t)
theorem Vg:∀{l:aq (Nat×aq LK)},(l.all λx=>eqB P x.1 x.2)=true->TR P l
 |[],_,t,ls,h=>by simp[Re]at h
 |(u,s)::r,hl,t,ls,h=>by simp only[bC,ah]at hl;simp only[Re]at h;cases hu:u==t with|true=>rw[hu]at h;simp at hu h;subst hu;subst h;have h1:=hl.1;simp only[eqB,ah,bE,aQ]at h1;refine⟨h1.1.1,?_,h1.2⟩;have h2:=h1.1.2;split at h2;rename_i fs HP;exact⟨fs,HP⟩;cases h2|false=>rw[hu]at h;exact Vg hl.2 t ls h
theorem ag4 {l:aq (Nat×aq LK)}(hl:TR P l)(ht:Re l t=some ls){xs ys:aq AC}{vs us:gO}{f1 f2:dy}{b:Bool}(r1:bn c vs xs f1)(r2:bn c us ys f2)(hf:fits ls xs=true)(he:uY xs ys=some b)(w:World): (Op.equal t (.agg vs.toArray) (.agg us.toArray)).run P w=.ok b w:=by
 obtain⟨h1,⟨fs,hu⟩,_⟩:=hl t ls ht;have:=NL h1 Op.maxDepth (by decide) vs us b w (Hd r1 hf) (Aa r1 r2 he);have hm:∀zs,BQ P t zs=.agg zs.toArray:=λzs=>by simp[BQ,hu]
 rw[hm,hm]at this;exact this
end Go.Dn
