import Derived.Test.YtbebkmajekhclaaGreatDnMem
/- '==' of structs, cell by cell. -/
namespace Go.Dn
variable {P:Program} {c:RC} {t:TypeId} {ls:aw LK}
def OW:Value->Value->az Bool
 | .int k a,.int k' b=>if k=k' then some (a==b) else none
 | .bool a,.bool b=>some (a==b)
 | .string a,.string b=>some (a.toList==b.toList)
 |_,_=>none
def rp:jf->jf->az Bool
 |[],[]=>some true
 |v::vs,u::us=>(OW v u).bind λa=>(rp vs us).bind λb=>some (a&&b)
 |_,_=>none
def sm:aw LK->jf->Bool
 |[],[]=>true
 | .int::ls,.int _ _::r=>sm ls r
 | .bool::ls,.bool _::r=>sm ls r
 | .str::ls,.string _::r=>sm ls r
 |_,_=>false
def CP (P:Program)(F:TypeId->az (aw LK)):aw Field->Nat->az (aw LK)
 |[],_=>some []
 |f::fs,cur=>
  if f.name≠ "_" /\f.offset=cur then
   match F f.type,P.info? f.type with
   |some ls,some i=>if i.size=ls.length/\0<ls.length then(CP P F fs (cur+ls.length)).bind λr=>some (ls++r) else none
   |_,_=>none
  else none
def kh (P:Program):Nat->TypeId->az (aw LK)
 |0,_=>none
 |d+1,t=>
  match P.underlying t with
  |some (.int _)=>some [.int]
  |some .bool=>some [.bool]
  |some .string=>some [.str]
  |some (.struct fs)=>if P.stoodInHeld t then none else CP P (kh P d) fs.toList 0
  |_=>none
theorem JY {xs ys:jf}:∀{SY ys':jf}{b:Bool},SY.length=ys'.length->rp (SY++xs) (ys'++ys)=some b->
 ∃b1 b2,rp SY ys'=some b1/\rp xs ys=some b2/\b=(b1&&b2)
 |[],[],b,_,h=>⟨true,b,rfl,h,by simp⟩
 |v::vs,u::us,b,hl,h=>by simp only[List.cons_append,rp,aY]at h;obtain⟨c,h1,d,h2,h3⟩:=h;obtain⟨b1,b2,k1,k2,rfl⟩:=JY (by simpa using hl) h2;simp at h3;subst h3;exact⟨c&&b1,b2,by simp[rp,h1,k1],k2,by simp[Bool.and_assoc]⟩
 |[],_::_,_,hl,_=>by simp at hl
 |_::_,[],_,hl,_=>by simp at hl
theorem AE:∀{xs ys:jf}{b:Bool},rp xs ys=some b->xs.length=ys.length
 |[],[],_,_=>rfl
 |v::vs,u::us,b,h=>by simp only[rp,aY]at h;obtain⟨c,_,d,h2,_⟩:=h;simp[AE h2]
 |[],_::_,_,h=>by simp[rp]at h
 |_::_,[],_,h=>by simp[rp]at h
theorem Cp:∀{ls:aw LK}{xs:jf},sm ls xs=true->xs.length=ls.length
 |[],[],_=>rfl
 |l::ls,x::xs,h=>by cases l<;>cases x<;>simp[sm]at h<;>simp[Cp h]
 |[],_::_,h=>by simp[sm]at h
 |l::ls,[],h=>by cases l<;>simp[sm]at h
theorem Mw:∀{ls ls':aw LK}{xs:jf},sm (ls++ls') xs=true->sm ls (xs.take ls.length)=true/\sm ls' (xs.drop ls.length)=true
 |[],_,_,h=>by simpa[sm]using h
 |l::ls,ls',[],h=>by cases l<;>simp[sm]at h
 |l::ls,ls',x::xs,h=>by cases l<;>cases x<;>simp[sm]at h;all_goals have:=Mw h;simpa[sm]using this
def C5 (P:Program)(t:TypeId)(vs:jf):Value:=
 match P.underlying t with
 |some (.struct _)=> .agg vs.toArray
 |_=>vs.getD 0 undef
theorem U7 {d:Nat}(h:kh P d t=some ls){i:TypeInfo}(hi:P.info? t=some i)(hs:i.size=ls.length)(cs:jf)(off:Nat)(hl:off+ls.length<=cs.length)(w:World): (part t cs.toArray off).run P w=.ok (C5 P t ((cs.drop off).take ls.length)) w:=by
 have leaf:ls.length=1->(∀fs,P.underlying t≠some (.struct fs))->(isAgg t).run P w=.ok false w->(part t cs.toArray off).run P w=.ok (C5 P t ((cs.drop off).take ls.length)) w:=by
  intro h1 hu ha;rw[h1]at hl⊢;have gr:off<cs.length:=by omega
  have hg:cs.toArray[off]?=some cs[off]:=by simp[ak gr]
  have he:C5 P t ((cs.drop off).take 1)=cs[off]:=by
   have:(cs.drop off).take 1=[cs[off]]:=by rw[cv gr,List.take_succ_cons,List.take_zero]
   rw[this];unfold C5;split;rename_i fs KN;exact absurd KN (hu fs);rfl
  simp only[part,Sem.run_bind,ha,Result.andThen_ok,bn,cJ];rw[he,hg];rfl
 cases d with
 |zero=>simp[kh]at h
 |succ d=>
  simp only[kh]at h;cases hu:P.underlying t with
  |none=>rw[hu]at h;simp at h
  |some x=>
   rw[hu]at h;cases x<;>simp at h;exact leaf (by rw[<-h];rfl) (by simp[hu]) (by simp[isAgg,underlying,hu]);exact leaf (by rw[<-h];rfl) (by simp[hu]) (by simp[isAgg,underlying,hu]);exact leaf (by rw[<-h];rfl) (by simp[hu]) (by simp[isAgg,underlying,hu]);rename_i fs;have ha:(isAgg t).run P w=.ok true w:=by simp[isAgg,underlying,hu]
   simp only[part,Sem.run_bind,ha,Result.andThen_ok,cz,sizeOf,typeInfo,run_program,hi,Sem.run_pure,hs,C5,hu];congr 2;simp[List.extract_eq_take_drop]
theorem QA:∀{d:Nat}{t:TypeId}{ls:aw LK},kh P d t=some ls->∀(D:Nat),d<=D->∀(xs ys:jf)(b:Bool)(w:World),sm ls xs=true->rp xs ys=some b->
 (Op.equalIn D t (C5 P t xs) (C5 P t ys)).run P w=.ok b w
 |0,t,ls,h,_,_,_,_,_,_,_,_=>by simp[kh]at h
 |d+1,t,ls,h,0,hD,_,_,_,_,_,_=>by omega
 |d+1,t,ls,h,D+1,hD,xs,ys,b,w,hf,he=>by
  have hly:=AE he;have hlx:=Cp hf;simp only[kh]at h
  have leaf:∀(x:TypeDesc)(l:LK),P.underlying t=some x->ls=[l]->(∀fs,x≠ .struct fs)->
   (∀u v c,sm [l] [u]=true->OW u v=some c->(Op.equalIn (D+1) t u v).run P w=.ok c w)->(Op.equalIn (D+1) t (C5 P t xs) (C5 P t ys)).run P w=.ok b w:=by
   intro x l hu hls hns fg
   subst hls
   obtain⟨u,rfl⟩:=List.length_eq_one_iff.1 (by simpa using hlx)
   obtain⟨v,rfl⟩:=List.length_eq_one_iff.1 (by simpa using hly.symm)
   have hm:∀z,C5 P t [z]=z:=by intro z;unfold C5;rw[hu];split;rename_i fs KN;simp at KN;exact absurd KN (hns fs);rfl
   rw[hm,hm]
   refine fg u v b hf ?_
   simp only[rp,aY]at he
   obtain⟨c,h1,d,h2,h3⟩:=he
   simp at h2 h3;subst h2
   simp at h3;subst h3
   exact h1
  cases hu:P.underlying t with
  |none=>rw[hu]at h;simp at h
  |some x=>
   rw[hu]at h;cases x with
   |int k=>simp at h;refine leaf _ .int hu h.symm (by simp) (λu v c hv hq=>?_);cases u<;>simp[sm]at hv;cases v<;>simp[OW]at hq;obtain⟨rfl,rfl⟩:=hq;exact run_equalIn_int w D t _ k _ _ hu
   |bool=>simp at h;refine leaf _ .bool hu h.symm (by simp) (λu v c hv hq=>?_);cases u<;>simp[sm]at hv;cases v<;>simp[OW]at hq;subst hq;exact run_equalIn_bool' w D t _ _ hu
   |string=>simp at h;refine leaf _ .str hu h.symm (by simp) (λu v c hv hq=>?_);cases u<;>simp[sm]at hv;cases v<;>simp[OW]at hq;subst hq;exact run_equalIn_string w D t _ _ hu
   |struct fs=>
    simp only at h;by_cases nD:P.stoodInHeld t=true;rw[aI nD]at h;cases h;rw[aK nD]at h;have nD:P.stoodInHeld t=false:=by simpa using nD
    have hfo:P.fieldsOf t=fs:=by simp[Program.fieldsOf,hu]
    have hmk:∀zs,C5 P t zs=.agg zs.toArray:=λzs=>by simp[C5,hu]
    rw[hmk,hmk,run_equalIn_struct w D t _ _ (by rw[hfo];exact hu) nD,hfo]
    have main:∀(fl:aw Field)(cur:Nat)(ls:aw LK),CP P (kh P d) fl cur=some ls->∀(b:Bool),cur<=xs.length->sm ls (xs.drop cur)=true->rp (xs.drop cur) (ys.drop cur)=some b->
     (Op.eqFields D xs.toArray ys.toArray fl).run P w=.ok b w:=by
     intro fl
     induction fl with
     |nil=>
      intro cur ls hl b hcur hv hq
      simp[CP]at hl
      subst hl
      have h1:=Cp hv
      have h2:=AE hq
      have e1:xs.drop cur=[]:=cQ (by simpa using h1)
      have e2:ys.drop cur=[]:=cQ (by rw[<-h2,e1];rfl)
      rw[e1,e2]at hq
      simp[rp]at hq
      subst hq
      simp[Op.eqFields]
     |cons f fl ih=>
      intro cur ls hl b hcur hv hq
      simp only[CP]at hl
      split at hl
      ·rename_i hc
       split at hl
       ·rename_i ls1 i h1 hi
        split at hl
        ·rename_i uU
         simp only[aY]at hl
         obtain⟨ls2,h2,h3⟩:=hl
         simp at h3;subst h3
         have WS:=Mw hv
         have hvl:=Cp hv
         simp only[aS,ai]at hvl
         have hql:=AE hq
         simp only[aS]at hql
         have ex:xs.drop cur=(xs.drop cur).take ls1.length++(xs.drop cur).drop ls1.length:=(cW _ _).symm
         have ey:ys.drop cur=(ys.drop cur).take ls1.length++(ys.drop cur).drop ls1.length:=(cW _ _).symm
         rw[ex,ey]at hq
         obtain⟨b1,b2,q1,q2,rfl⟩:=JY (by simp;omega) hq
         rw[fE]at q2 WS
         have p1:=U7 h1 hi uU.1 xs cur (by omega) w
         have p2:=U7 h1 hi uU.1 ys cur (by omega) w
         have r1:=QA h1 D (by omega) _ _ b1 w WS.1 q1
         rw[fE]at q2
         have r2:=ih (cur+ls1.length) ls2 h2 b2 (by omega) WS.2 q2
         simp only[Op.eqFields,hc.1,ne_eq,not_false_eq_true,cz,hc.2,Sem.run_bind,p1,p2,Result.andThen_ok,r1]
         cases b1
         ·simp
         ·simpa using r2
        ·cases hl
       ·cases hl
      ·cases hl
    exact main fs.toList 0 ls h b (bC _) (by simpa using hf) (by simpa using he)
   |_=>simp at h
theorem toList_mk (s:aw UInt8):(ByteArray.mk s.toArray).toList=s:=by rw[ByteArray.toList_eq]
theorem P1 {o:az Bool}{p b:Bool}(h:(o.bind λd=>some (p&&d))=some b):∃d,o=some d/\(p&&d)=b:=by cases o with|none=>simp at h|some d=>exact⟨d,rfl,by simpa using h⟩
theorem BM:∀{xs ys:aw AC}{vs us:jf}{f1 f2:fA}{b:Bool},ca c vs xs f1->ca c us ys f2->xl xs ys=some b->rp vs us=some b
 |[],[],[],[],_,_,_,_,_,h=>h
 |x::xs,y::ys,v::vs,u::us,_,_,b,r1,r2,h=>by obtain⟨g1,g2,rfl,a1,a2⟩:=r1;obtain⟨h1,h2,rfl,b1,b2⟩:=r2;unfold xl at h;split at h;rename_i e1 e2;cases e1;rename_i k p SY k' q ys' e1 e2;cases e1;cases e2;split at h;rename_i hk;subst hk;obtain⟨d,hd,hb⟩:=P1 h;rw[a1.1,b1.1];simp only[rp,OW,cz,ft,BM a2 b2 hd,hb];cases h;rename_i p SY q ys' e1 e2;cases e1;cases e2;obtain⟨d,hd,hb⟩:=P1 h;rw[a1.1,b1.1];simp only[rp,OW,ft,BM a2 b2 hd,hb];rename_i p SY q ys' e1 e2;cases e1;cases e2;obtain⟨d,hd,hb⟩:=P1 h;rw[a1.1,b1.1];simp only[rp,OW,ft,BM a2 b2 hd,hb,toList_mk];cases h
 |[],[],v::vs,_,_,_,_,r1,_,_=>r1.elim
 |[],[],[],u::us,_,_,_,_,r2,_=>r2.elim
 |x::xs,_,[],_,_,_,_,r1,_,_=>r1.elim
 |_,y::ys,_,[],_,_,_,_,r2,_=>r2.elim
 |[],y::ys,_,_,_,_,_,_,_,h=>by simp[xl]at h
 |x::xs,[],_,_,_,_,_,_,_,h=>by cases x<;>simp[xl]at h
theorem IA:∀{ls:aw LK}{xs:aw AC}{vs:jf}{f1:fA},ca c vs xs f1->fits ls xs=true->sm ls vs=true
 |[],[],[],_,_,_=>rfl
 |l::ls,x::xs,v::vs,_,r1,h=>by obtain⟨g1,g2,rfl,a1,a2⟩:=r1;cases l<;>cases x<;>simp[fits]at h;rw[a1.1];simpa[sm]using IA a2 h;rw[a1.1];simpa[sm]using IA a2 h;rw[a1.1];simpa[sm]using IA a2 h
 |[],[],v::vs,_,r1,_=>r1.elim
 |_,x::xs,[],_,r1,_=>r1.elim
 |[],x::xs,_,_,_,h=>by simp[fits]at h
 |l::ls,[],_,_,_,h=>by cases l<;>simp[fits]at h
def X2 (P:Program)(l:aw (Nat×aw LK)):Prop:=∀t ls,UR l t=some ls->
 kh P 50 t=some ls/\(∃fs,P.underlying t=some (.struct fs))/\P.eqGuardType P.depth t=false
def eqB (P:Program)(t:TypeId)(ls:aw LK):Bool:=
 decide (kh P 50 t=some ls)&&(match P.underlying t with|some (.struct _)=>true|_=>false)&& !(P.eqGuardType P.depth t)
theorem aam:∀{l:aw (Nat×aw LK)},(l.all λx=>eqB P x.1 x.2)=true->X2 P l
 |[],_,t,ls,h=>by simp[UR]at h
 |(u,s)::r,hl,t,ls,h=>by simp only[bX,af]at hl;simp only[UR]at h;cases hu:u==t with|true=>rw[hu]at h;simp at hu h;subst hu;subst h;have h1:=hl.1;simp only[eqB,af,aG,aM]at h1;refine⟨h1.1.1,?_,h1.2⟩;have h2:=h1.1.2;split at h2;rename_i fs KN;exact⟨fs,KN⟩;cases h2|false=>rw[hu]at h;exact aam hl.2 t ls h
theorem aqb {l:aw (Nat×aw LK)}(hl:X2 P l)(ht:UR l t=some ls){xs ys:aw AC}{vs us:jf}{f1 f2:fA}{b:Bool}(r1:ca c vs xs f1)(r2:ca c us ys f2)(hf:fits ls xs=true)(he:xl xs ys=some b)(w:World): (Op.equal t (.agg vs.toArray) (.agg us.toArray)).run P w=.ok b w:=by
 obtain⟨h1,⟨fs,hu⟩,_⟩:=hl t ls ht;have:=QA h1 Op.maxDepth (by decide) vs us b w (IA r1 hf) (BM r1 r2 he);have hm:∀zs,C5 P t zs=.agg zs.toArray:=λzs=>by simp[C5,hu]
 rw[hm,hm]at this;exact this
end Go.Dn
