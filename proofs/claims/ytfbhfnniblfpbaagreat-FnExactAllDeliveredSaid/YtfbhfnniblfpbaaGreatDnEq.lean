import Derived.Test.YtfbhfnniblfpbaaGreatDnMem
/- '==' of structs, cell by cell. -/
namespace Go.Dn
variable {P:Program} {c:RC} {t:TypeId} {ls:au LK}
def Mu:Value->Value->aw Bool
 | .int k a,.int k' b=>if k=k' then some (a==b) else none
 | .bool a,.bool b=>some (a==b)
 | .string a,.string b=>some (a.toList==b.toList)
 |_,_=>none
def pM:gP->gP->aw Bool
 |[],[]=>some true
 |v::vs,u::us=>(Mu v u).bind λa=>(pM vs us).bind λb=>some (a&&b)
 |_,_=>none
def qp:au LK->gP->Bool
 |[],[]=>true
 | .int::ls,.int _ _::r=>qp ls r
 | .bool::ls,.bool _::r=>qp ls r
 | .str::ls,.string _::r=>qp ls r
 |_,_=>false
def Bg (P:Program)(F:TypeId->aw (au LK)):au Field->Nat->aw (au LK)
 |[],_=>some []
 |f::fs,cur=>
  if f.name≠ "_" /\f.offset=cur then
   match F f.type,P.info? f.type with
   |some ls,some i=>if i.size=ls.length/\0<ls.length then(Bg P F fs (cur+ls.length)).bind λr=>some (ls++r) else none
   |_,_=>none
  else none
def fS (P:Program):Nat->TypeId->aw (au LK)
 |0,_=>none
 |d+1,t=>
  match P.underlying t with
  |some (.int _)=>some [.int]
  |some .bool=>some [.bool]
  |some .string=>some [.str]
  |some (.struct fs)=>if P.stoodInHeld t then none else Bg P (fS P d) fs.toList 0
  |_=>none
theorem Ih {xs ys:gP}:∀{PR ys':gP}{b:Bool},PR.length=ys'.length->pM (PR++xs) (ys'++ys)=some b->
 ∃b1 b2,pM PR ys'=some b1/\pM xs ys=some b2/\b=(b1&&b2)
 |[],[],b,_,h=>⟨true,b,rfl,h,by simp⟩
 |v::vs,u::us,b,hl,h=>by simp only[List.cons_append,pM,aK]at h;obtain⟨c,h1,d,h2,h3⟩:=h;obtain⟨b1,b2,k1,k2,rfl⟩:=Ih (by simpa using hl) h2;simp at h3;subst h3;exact⟨c&&b1,b2,by simp[pM,h1,k1],k2,by simp[Bool.and_assoc]⟩
 |[],_::_,_,hl,_=>by simp at hl
 |_::_,[],_,hl,_=>by simp at hl
theorem yJ:∀{xs ys:gP}{b:Bool},pM xs ys=some b->xs.length=ys.length
 |[],[],_,_=>rfl
 |v::vs,u::us,b,h=>by simp only[pM,aK]at h;obtain⟨c,_,d,h2,_⟩:=h;simp[yJ h2]
 |[],_::_,_,h=>by simp[pM]at h
 |_::_,[],_,h=>by simp[pM]at h
theorem AO:∀{ls:au LK}{xs:gP},qp ls xs=true->xs.length=ls.length
 |[],[],_=>rfl
 |l::ls,x::xs,h=>by cases l<;>cases x<;>simp[qp]at h<;>simp[AO h]
 |[],_::_,h=>by simp[qp]at h
 |l::ls,[],h=>by cases l<;>simp[qp]at h
theorem Kz:∀{ls ls':au LK}{xs:gP},qp (ls++ls') xs=true->qp ls (xs.take ls.length)=true/\qp ls' (xs.drop ls.length)=true
 |[],_,_,h=>by simpa[qp]using h
 |l::ls,ls',[],h=>by cases l<;>simp[qp]at h
 |l::ls,ls',x::xs,h=>by cases l<;>cases x<;>simp[qp]at h;all_goals have:=Kz h;simpa[qp]using this
def BK (P:Program)(t:TypeId)(vs:gP):Value:=
 match P.underlying t with
 |some (.struct _)=> .agg vs.toArray
 |_=>vs.getD 0 undef
theorem Rv {d:Nat}(h:fS P d t=some ls){i:TypeInfo}(hi:P.info? t=some i)(hs:i.size=ls.length)(cs:gP)(off:Nat)(hl:off+ls.length<=cs.length)(w:World): (part t cs.toArray off).run P w=.ok (BK P t ((cs.drop off).take ls.length)) w:=by
 have leaf:ls.length=1->(∀fs,P.underlying t≠some (.struct fs))->(isAgg t).run P w=.ok false w->(part t cs.toArray off).run P w=.ok (BK P t ((cs.drop off).take ls.length)) w:=by
  intro h1 hu ha;rw[h1]at hl⊢;have gq:off<cs.length:=by omega
  have hg:cs.toArray[off]?=some cs[off]:=by simp[al gq]
  have he:BK P t ((cs.drop off).take 1)=cs[off]:=by
   have:(cs.drop off).take 1=[cs[off]]:=by rw[bQ gq,List.take_succ_cons,List.take_zero]
   rw[this];unfold BK;split;rename_i fs HI;exact absurd HI (hu fs);rfl
  simp only[part,Sem.run_bind,ha,Result.andThen_ok,aY,bV];rw[he,hg];rfl
 cases d with
 |zero=>simp[fS]at h
 |succ d=>
  simp only[fS]at h;cases hu:P.underlying t with
  |none=>rw[hu]at h;simp at h
  |some x=>
   rw[hu]at h;cases x<;>simp at h;exact leaf (by rw[<-h];rfl) (by simp[hu]) (by simp[isAgg,underlying,hu]);exact leaf (by rw[<-h];rfl) (by simp[hu]) (by simp[isAgg,underlying,hu]);exact leaf (by rw[<-h];rfl) (by simp[hu]) (by simp[isAgg,underlying,hu]);rename_i fs;have ha:(isAgg t).run P w=.ok true w:=by simp[isAgg,underlying,hu]
   simp only[part,Sem.run_bind,ha,Result.andThen_ok,bN,sizeOf,typeInfo,run_program,hi,Sem.run_pure,hs,BK,hu];congr 2;simp[List.extract_eq_take_drop]
theorem NL:∀{d:Nat}{t:TypeId}{ls:au LK},fS P d t=some ls->∀(D:Nat),d<=D->∀(xs ys:gP)(b:Bool)(w:World),qp ls xs=true->pM xs ys=some b->
 (Op.equalIn D t (BK P t xs) (BK P t ys)).run P w=.ok b w
 |0,t,ls,h,_,_,_,_,_,_,_,_=>by simp[fS]at h
 |d+1,t,ls,h,0,hD,_,_,_,_,_,_=>by omega
 |d+1,t,ls,h,D+1,hD,xs,ys,b,w,hf,he=>by
  have hly:=yJ he;have hlx:=AO hf;simp only[fS]at h
  have leaf:∀(x:TypeDesc)(l:LK),P.underlying t=some x->ls=[l]->(∀fs,x≠ .struct fs)->
   (∀u v c,qp [l] [u]=true->Mu u v=some c->(Op.equalIn (D+1) t u v).run P w=.ok c w)->(Op.equalIn (D+1) t (BK P t xs) (BK P t ys)).run P w=.ok b w:=by
   intro x l hu hls hns dA
   subst hls
   obtain⟨u,rfl⟩:=List.length_eq_one_iff.1 (by simpa using hlx)
   obtain⟨v,rfl⟩:=List.length_eq_one_iff.1 (by simpa using hly.symm)
   have hm:∀z,BK P t [z]=z:=by intro z;unfold BK;rw[hu];split;rename_i fs HI;simp at HI;exact absurd HI (hns fs);rfl
   rw[hm,hm]
   refine dA u v b hf ?_
   simp only[pM,aK]at he
   obtain⟨c,h1,d,h2,h3⟩:=he
   simp at h2 h3;subst h2
   simp at h3;subst h3
   exact h1
  cases hu:P.underlying t with
  |none=>rw[hu]at h;simp at h
  |some x=>
   rw[hu]at h;cases x with
   |int k=>simp at h;refine leaf _ .int hu h.symm (by simp) (λu v c hv hq=>?_);cases u<;>simp[qp]at hv;cases v<;>simp[Mu]at hq;obtain⟨rfl,rfl⟩:=hq;exact run_equalIn_int w D t _ k _ _ hu
   |bool=>simp at h;refine leaf _ .bool hu h.symm (by simp) (λu v c hv hq=>?_);cases u<;>simp[qp]at hv;cases v<;>simp[Mu]at hq;subst hq;exact run_equalIn_bool' w D t _ _ hu
   |string=>simp at h;refine leaf _ .str hu h.symm (by simp) (λu v c hv hq=>?_);cases u<;>simp[qp]at hv;cases v<;>simp[Mu]at hq;subst hq;exact run_equalIn_string w D t _ _ hu
   |struct fs=>
    simp only at h;by_cases lf:P.stoodInHeld t=true;rw[aF lf]at h;cases h;rw[aE lf]at h;have lf:P.stoodInHeld t=false:=by simpa using lf
    have hfo:P.fieldsOf t=fs:=by simp[Program.fieldsOf,hu]
    have hmk:∀zs,BK P t zs=.agg zs.toArray:=λzs=>by simp[BK,hu]
    rw[hmk,hmk,run_equalIn_struct w D t _ _ (by rw[hfo];exact hu) lf,hfo]
    have main:∀(fl:au Field)(cur:Nat)(ls:au LK),Bg P (fS P d) fl cur=some ls->∀(b:Bool),cur<=xs.length->qp ls (xs.drop cur)=true->pM (xs.drop cur) (ys.drop cur)=some b->
     (Op.eqFields D xs.toArray ys.toArray fl).run P w=.ok b w:=by
     intro fl
     induction fl with
     |nil=>
      intro cur ls hl b hcur hv hq
      simp[Bg]at hl
      subst hl
      have h1:=AO hv
      have h2:=yJ hq
      have e1:xs.drop cur=[]:=cr (by simpa using h1)
      have e2:ys.drop cur=[]:=cr (by rw[<-h2,e1];rfl)
      rw[e1,e2]at hq
      simp[pM]at hq
      subst hq
      simp[Op.eqFields]
     |cons f fl ih=>
      intro cur ls hl b hcur hv hq
      simp only[Bg]at hl
      split at hl
      ·rename_i hc
       split at hl
       ·rename_i ls1 i h1 hi
        split at hl
        ·rename_i sR
         simp only[aK]at hl
         obtain⟨ls2,h2,h3⟩:=hl
         simp at h3;subst h3
         have LV:=Kz hv
         have hvl:=AO hv
         simp only[bh,ar]at hvl
         have hql:=yJ hq
         simp only[bh]at hql
         have ex:xs.drop cur=(xs.drop cur).take ls1.length++(xs.drop cur).drop ls1.length:=(cf _ _).symm
         have ey:ys.drop cur=(ys.drop cur).take ls1.length++(ys.drop cur).drop ls1.length:=(cf _ _).symm
         rw[ex,ey]at hq
         obtain⟨b1,b2,q1,q2,rfl⟩:=Ih (by simp;omega) hq
         rw[dJ]at q2 LV
         have p1:=Rv h1 hi sR.1 xs cur (by omega) w
         have p2:=Rv h1 hi sR.1 ys cur (by omega) w
         have r1:=NL h1 D (by omega) _ _ b1 w LV.1 q1
         rw[dJ]at q2
         have r2:=ih (cur+ls1.length) ls2 h2 b2 (by omega) LV.2 q2
         simp only[Op.eqFields,hc.1,ne_eq,not_false_eq_true,bN,hc.2,Sem.run_bind,p1,p2,Result.andThen_ok,r1]
         cases b1
         ·simp
         ·simpa using r2
        ·cases hl
       ·cases hl
      ·cases hl
    exact main fs.toList 0 ls h b (cC _) (by simpa using hf) (by simpa using he)
   |_=>simp at h
theorem toList_mk (s:au UInt8):(ByteArray.mk s.toArray).toList=s:=by rw[ByteArray.toList_eq]
theorem Np {o:aw Bool}{p b:Bool}(h:(o.bind λd=>some (p&&d))=some b):∃d,o=some d/\(p&&d)=b:=by cases o with|none=>simp at h|some d=>exact⟨d,rfl,by simpa using h⟩
theorem Ae:∀{xs ys:au AC}{vs us:gP}{f1 f2:dI}{b:Bool},bp c vs xs f1->bp c us ys f2->vz xs ys=some b->pM vs us=some b
 |[],[],[],[],_,_,_,_,_,h=>h
 |x::xs,y::ys,v::vs,u::us,_,_,b,r1,r2,h=>by obtain⟨g1,g2,rfl,a1,a2⟩:=r1;obtain⟨h1,h2,rfl,b1,b2⟩:=r2;unfold vz at h;split at h;rename_i e1 e2;cases e1;rename_i k p PR k' q ys' e1 e2;cases e1;cases e2;split at h;rename_i hk;subst hk;obtain⟨d,hd,hb⟩:=Np h;rw[a1.1,b1.1];simp only[pM,Mu,bN,dX,Ae a2 b2 hd,hb];cases h;rename_i p PR q ys' e1 e2;cases e1;cases e2;obtain⟨d,hd,hb⟩:=Np h;rw[a1.1,b1.1];simp only[pM,Mu,dX,Ae a2 b2 hd,hb];rename_i p PR q ys' e1 e2;cases e1;cases e2;obtain⟨d,hd,hb⟩:=Np h;rw[a1.1,b1.1];simp only[pM,Mu,dX,Ae a2 b2 hd,hb,toList_mk];cases h
 |[],[],v::vs,_,_,_,_,r1,_,_=>r1.elim
 |[],[],[],u::us,_,_,_,_,r2,_=>r2.elim
 |x::xs,_,[],_,_,_,_,r1,_,_=>r1.elim
 |_,y::ys,_,[],_,_,_,_,r2,_=>r2.elim
 |[],y::ys,_,_,_,_,_,_,_,h=>by simp[vz]at h
 |x::xs,[],_,_,_,_,_,_,_,h=>by cases x<;>simp[vz]at h
theorem Ha:∀{ls:au LK}{xs:au AC}{vs:gP}{f1:dI},bp c vs xs f1->fits ls xs=true->qp ls vs=true
 |[],[],[],_,_,_=>rfl
 |l::ls,x::xs,v::vs,_,r1,h=>by obtain⟨g1,g2,rfl,a1,a2⟩:=r1;cases l<;>cases x<;>simp[fits]at h;rw[a1.1];simpa[qp]using Ha a2 h;rw[a1.1];simpa[qp]using Ha a2 h;rw[a1.1];simpa[qp]using Ha a2 h
 |[],[],v::vs,_,r1,_=>r1.elim
 |_,x::xs,[],_,r1,_=>r1.elim
 |[],x::xs,_,_,_,h=>by simp[fits]at h
 |l::ls,[],_,_,_,h=>by cases l<;>simp[fits]at h
def T3 (P:Program)(l:au (Nat×au LK)):Prop:=∀t ls,Rn l t=some ls->
 fS P 50 t=some ls/\(∃fs,P.underlying t=some (.struct fs))/\P.eqGuardType P.depth t=false
def eqB (P:Program)(t:TypeId)(ls:au LK):Bool:=
 decide (fS P 50 t=some ls)&&(match P.underlying t with|some (.struct _)=>true|_=>false)&& !(P.eqGuardType P.depth t)
theorem Vl:∀{l:au (Nat×au LK)},(l.all λx=>eqB P x.1 x.2)=true->T3 P l
 |[],_,t,ls,h=>by simp[Rn]at h
 |(u,s)::r,hl,t,ls,h=>by simp only[bO,ah]at hl;simp only[Rn]at h;cases hu:u==t with|true=>rw[hu]at h;simp at hu h;subst hu;subst h;have h1:=hl.1;simp only[eqB,ah,bD,aO]at h1;refine⟨h1.1.1,?_,h1.2⟩;have h2:=h1.1.2;split at h2;rename_i fs HI;exact⟨fs,HI⟩;cases h2|false=>rw[hu]at h;exact Vl hl.2 t ls h
theorem agS {l:au (Nat×au LK)}(hl:T3 P l)(ht:Rn l t=some ls){xs ys:au AC}{vs us:gP}{f1 f2:dI}{b:Bool}(r1:bp c vs xs f1)(r2:bp c us ys f2)(hf:fits ls xs=true)(he:vz xs ys=some b)(w:World): (Op.equal t (.agg vs.toArray) (.agg us.toArray)).run P w=.ok b w:=by
 obtain⟨h1,⟨fs,hu⟩,_⟩:=hl t ls ht;have:=NL h1 Op.maxDepth (by decide) vs us b w (Ha r1 hf) (Ae r1 r2 he);have hm:∀zs,BK P t zs=.agg zs.toArray:=λzs=>by simp[BK,hu]
 rw[hm,hm]at this;exact this
end Go.Dn
