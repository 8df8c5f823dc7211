import Derived.Test.YtbebkmajekhclaaGreatDnMem
/- '==' of structs, cell by cell. -/
namespace Go.Dn
variable {P:Program} {c:RC} {t:TypeId} {ls:ax LK}
def NN:Value->Value->az Bool
 | .int k a,.int k' b=>if k=k' then some (a==b) else none
 | .bool a,.bool b=>some (a==b)
 | .string a,.string b=>some (a.toList==b.toList)
 |_,_=>none
def ry:jt->jt->az Bool
 |[],[]=>some true
 |v::vs,u::us=>(NN v u).bind λa=>(ry vs us).bind λb=>some (a&&b)
 |_,_=>none
def se:ax LK->jt->Bool
 |[],[]=>true
 | .int::ls,.int _ _::r=>se ls r
 | .bool::ls,.bool _::r=>se ls r
 | .str::ls,.string _::r=>se ls r
 |_,_=>false
def B8 (P:Program)(F:TypeId->az (ax LK)):ax Field->Nat->az (ax LK)
 |[],_=>some []
 |f::fs,cur=>
  if f.name≠ "_" /\f.offset=cur then
   match F f.type,P.info? f.type with
   |some ls,some i=>if i.size=ls.length/\0<ls.length then(B8 P F fs (cur+ls.length)).bind λr=>some (ls++r) else none
   |_,_=>none
  else none
def kx (P:Program):Nat->TypeId->az (ax LK)
 |0,_=>none
 |d+1,t=>
  match P.underlying t with
  |some (.int _)=>some [.int]
  |some .bool=>some [.bool]
  |some .string=>some [.str]
  |some (.struct fs)=>if P.stoodInHeld t then none else B8 P (kx P d) fs.toList 0
  |_=>none
theorem IA {xs ys:jt}:∀{RD ys':jt}{b:Bool},RD.length=ys'.length->ry (RD++xs) (ys'++ys)=some b->
 ∃b1 b2,ry RD ys'=some b1/\ry xs ys=some b2/\b=(b1&&b2)
 |[],[],b,_,h=>⟨true,b,rfl,h,by simp⟩
 |v::vs,u::us,b,hl,h=>by simp only[List.cons_append,ry,aZ]at h;obtain⟨c,h1,d,h2,h3⟩:=h;obtain⟨b1,b2,k1,k2,rfl⟩:=IA (by simpa using hl) h2;simp at h3;subst h3;exact⟨c&&b1,b2,by simp[ry,h1,k1],k2,by simp[Bool.and_assoc]⟩
 |[],_::_,_,hl,_=>by simp at hl
 |_::_,[],_,hl,_=>by simp at hl
theorem zS:∀{xs ys:jt}{b:Bool},ry xs ys=some b->xs.length=ys.length
 |[],[],_,_=>rfl
 |v::vs,u::us,b,h=>by simp only[ry,aZ]at h;obtain⟨c,_,d,h2,_⟩:=h;simp[zS h2]
 |[],_::_,_,h=>by simp[ry]at h
 |_::_,[],_,h=>by simp[ry]at h
theorem BG:∀{ls:ax LK}{xs:jt},se ls xs=true->xs.length=ls.length
 |[],[],_=>rfl
 |l::ls,x::xs,h=>by cases l<;>cases x<;>simp[se]at h<;>simp[BG h]
 |[],_::_,h=>by simp[se]at h
 |l::ls,[],h=>by cases l<;>simp[se]at h
theorem Ld:∀{ls ls':ax LK}{xs:jt},se (ls++ls') xs=true->se ls (xs.take ls.length)=true/\se ls' (xs.drop ls.length)=true
 |[],_,_,h=>by simpa[se]using h
 |l::ls,ls',[],h=>by cases l<;>simp[se]at h
 |l::ls,ls',x::xs,h=>by cases l<;>cases x<;>simp[se]at h;all_goals have:=Ld h;simpa[se]using this
def Cp (P:Program)(t:TypeId)(vs:jt):Value:=
 match P.underlying t with
 |some (.struct _)=> .agg vs.toArray
 |_=>vs.getD 0 undef
theorem TC {d:Nat}(h:kx P d t=some ls){i:TypeInfo}(hi:P.info? t=some i)(hs:i.size=ls.length)(cs:jt)(off:Nat)(hl:off+ls.length<=cs.length)(w:World): (part t cs.toArray off).run P w=.ok (Cp P t ((cs.drop off).take ls.length)) w:=by
 have leaf:ls.length=1->(∀fs,P.underlying t≠some (.struct fs))->(isAgg t).run P w=.ok false w->(part t cs.toArray off).run P w=.ok (Cp P t ((cs.drop off).take ls.length)) w:=by
  intro h1 hu ha;rw[h1]at hl⊢;have gH:off<cs.length:=by omega
  have hg:cs.toArray[off]?=some cs[off]:=by simp[al gH]
  have he:Cp P t ((cs.drop off).take 1)=cs[off]:=by
   have:(cs.drop off).take 1=[cs[off]]:=by rw[cc gH,List.take_succ_cons,List.take_zero]
   rw[this];unfold Cp;split;rename_i fs Jp;exact absurd Jp (hu fs);rfl
  simp only[part,Sem.run_bind,ha,Result.andThen_ok,bm,cw];rw[he,hg];rfl
 cases d with
 |zero=>simp[kx]at h
 |succ d=>
  simp only[kx]at h;cases hu:P.underlying t with
  |none=>rw[hu]at h;simp at h
  |some x=>
   rw[hu]at h;cases x<;>simp at h;exact leaf (by rw[<-h];rfl) (by simp[hu]) (by simp[isAgg,underlying,hu]);exact leaf (by rw[<-h];rfl) (by simp[hu]) (by simp[isAgg,underlying,hu]);exact leaf (by rw[<-h];rfl) (by simp[hu]) (by simp[isAgg,underlying,hu]);rename_i fs;have ha:(isAgg t).run P w=.ok true w:=by simp[isAgg,underlying,hu]
   simp only[part,Sem.run_bind,ha,Result.andThen_ok,ch,sizeOf,typeInfo,run_program,hi,Sem.run_pure,hs,Cp,hu];congr 2;simp[List.extract_eq_take_drop]
theorem Ph:∀{d:Nat}{t:TypeId}{ls:ax LK},kx P d t=some ls->∀(D:Nat),d<=D->∀(xs ys:jt)(b:Bool)(w:World),se ls xs=true->ry xs ys=some b->
 (Op.equalIn D t (Cp P t xs) (Cp P t ys)).run P w=.ok b w
 |0,t,ls,h,_,_,_,_,_,_,_,_=>by simp[kx]at h
 |d+1,t,ls,h,0,hD,_,_,_,_,_,_=>by omega
 |d+1,t,ls,h,D+1,hD,xs,ys,b,w,hf,he=>by
  have hly:=zS he;have hlx:=BG hf;simp only[kx]at h
  have leaf:∀(x:TypeDesc)(l:LK),P.underlying t=some x->ls=[l]->(∀fs,x≠ .struct fs)->
   (∀u v c,se [l] [u]=true->NN u v=some c->(Op.equalIn (D+1) t u v).run P w=.ok c w)->(Op.equalIn (D+1) t (Cp P t xs) (Cp P t ys)).run P w=.ok b w:=by
   intro x l hu hls hns fg
   subst hls
   obtain⟨u,rfl⟩:=List.length_eq_one_iff.1 (by simpa using hlx)
   obtain⟨v,rfl⟩:=List.length_eq_one_iff.1 (by simpa using hly.symm)
   have hm:∀z,Cp P t [z]=z:=by intro z;unfold Cp;rw[hu];split;rename_i fs Jp;simp at Jp;exact absurd Jp (hns fs);rfl
   rw[hm,hm]
   refine fg u v b hf ?_
   simp only[ry,aZ]at he
   obtain⟨c,h1,d,h2,h3⟩:=he
   simp at h2 h3;subst h2
   simp at h3;subst h3
   exact h1
  cases hu:P.underlying t with
  |none=>rw[hu]at h;simp at h
  |some x=>
   rw[hu]at h;cases x with
   |int k=>simp at h;refine leaf _ .int hu h.symm (by simp) (λu v c hv hq=>?_);cases u<;>simp[se]at hv;cases v<;>simp[NN]at hq;obtain⟨rfl,rfl⟩:=hq;exact run_equalIn_int w D t _ k _ _ hu
   |bool=>simp at h;refine leaf _ .bool hu h.symm (by simp) (λu v c hv hq=>?_);cases u<;>simp[se]at hv;cases v<;>simp[NN]at hq;subst hq;exact run_equalIn_bool' w D t _ _ hu
   |string=>simp at h;refine leaf _ .str hu h.symm (by simp) (λu v c hv hq=>?_);cases u<;>simp[se]at hv;cases v<;>simp[NN]at hq;subst hq;exact run_equalIn_string w D t _ _ hu
   |struct fs=>
    simp only at h;by_cases nY:P.stoodInHeld t=true;rw[aI nY]at h;cases h;rw[aG nY]at h;have nY:P.stoodInHeld t=false:=by simpa using nY
    have hfo:P.fieldsOf t=fs:=by simp[Program.fieldsOf,hu]
    have hmk:∀zs,Cp P t zs=.agg zs.toArray:=λzs=>by simp[Cp,hu]
    rw[hmk,hmk,run_equalIn_struct w D t _ _ (by rw[hfo];exact hu) nY,hfo]
    have main:∀(fl:ax Field)(cur:Nat)(ls:ax LK),B8 P (kx P d) fl cur=some ls->∀(b:Bool),cur<=xs.length->se ls (xs.drop cur)=true->ry (xs.drop cur) (ys.drop cur)=some b->
     (Op.eqFields D xs.toArray ys.toArray fl).run P w=.ok b w:=by
     intro fl
     induction fl with
     |nil=>
      intro cur ls hl b hcur hv hq
      simp[B8]at hl
      subst hl
      have h1:=BG hv
      have h2:=zS hq
      have e1:xs.drop cur=[]:=cq (by simpa using h1)
      have e2:ys.drop cur=[]:=cq (by rw[<-h2,e1];rfl)
      rw[e1,e2]at hq
      simp[ry]at hq
      subst hq
      simp[Op.eqFields]
     |cons f fl ih=>
      intro cur ls hl b hcur hv hq
      simp only[B8]at hl
      split at hl
      ·rename_i hc
       split at hl
       ·rename_i ls1 i h1 hi
        split at hl
        ·rename_i vZ
         simp only[aZ]at hl
         obtain⟨ls2,h2,h3⟩:=hl
         simp at h3;subst h3
         have Vq:=Ld hv
         have hvl:=BG hv
         simp only[aJ,ai]at hvl
         have hql:=zS hq
         simp only[aJ]at hql
         have ex:xs.drop cur=(xs.drop cur).take ls1.length++(xs.drop cur).drop ls1.length:=(cI _ _).symm
         have ey:ys.drop cur=(ys.drop cur).take ls1.length++(ys.drop cur).drop ls1.length:=(cI _ _).symm
         rw[ex,ey]at hq
         obtain⟨b1,b2,q1,q2,rfl⟩:=IA (by simp;omega) hq
         rw[eK]at q2 Vq
         have p1:=TC h1 hi vZ.1 xs cur (by omega) w
         have p2:=TC h1 hi vZ.1 ys cur (by omega) w
         have r1:=Ph h1 D (by omega) _ _ b1 w Vq.1 q1
         rw[eK]at q2
         have r2:=ih (cur+ls1.length) ls2 h2 b2 (by omega) Vq.2 q2
         simp only[Op.eqFields,hc.1,ne_eq,not_false_eq_true,ch,hc.2,Sem.run_bind,p1,p2,Result.andThen_ok,r1]
         cases b1
         ·simp
         ·simpa using r2
        ·cases hl
       ·cases hl
      ·cases hl
    exact main fs.toList 0 ls h b (cg _) (by simpa using hf) (by simpa using he)
   |_=>simp at h
theorem toList_mk (s:ax UInt8):(ByteArray.mk s.toArray).toList=s:=by rw[ByteArray.toList_eq]
theorem OR {o:az Bool}{p b:Bool}(h:(o.bind λd=>some (p&&d))=some b):∃d,o=some d/\(p&&d)=b:=by cases o with|none=>simp at h|some d=>exact⟨d,rfl,by simpa using h⟩
theorem AU:∀{xs ys:ax AC}{vs us:jt}{f1 f2:fK}{b:Bool},bU c vs xs f1->bU c us ys f2->wU xs ys=some b->ry vs us=some b
 |[],[],[],[],_,_,_,_,_,h=>h
 |x::xs,y::ys,v::vs,u::us,_,_,b,r1,r2,h=>by obtain⟨g1,g2,rfl,a1,a2⟩:=r1;obtain⟨h1,h2,rfl,b1,b2⟩:=r2;unfold wU at h;split at h;rename_i e1 e2;cases e1;rename_i k p RD k' q ys' e1 e2;cases e1;cases e2;split at h;rename_i hk;subst hk;obtain⟨d,hd,hb⟩:=OR h;rw[a1.1,b1.1];simp only[ry,NN,ch,fu,AU a2 b2 hd,hb];cases h;rename_i p RD q ys' e1 e2;cases e1;cases e2;obtain⟨d,hd,hb⟩:=OR h;rw[a1.1,b1.1];simp only[ry,NN,fu,AU a2 b2 hd,hb];rename_i p RD q ys' e1 e2;cases e1;cases e2;obtain⟨d,hd,hb⟩:=OR h;rw[a1.1,b1.1];simp only[ry,NN,fu,AU a2 b2 hd,hb,toList_mk];cases h
 |[],[],v::vs,_,_,_,_,r1,_,_=>r1.elim
 |[],[],[],u::us,_,_,_,_,r2,_=>r2.elim
 |x::xs,_,[],_,_,_,_,r1,_,_=>r1.elim
 |_,y::ys,_,[],_,_,_,_,r2,_=>r2.elim
 |[],y::ys,_,_,_,_,_,_,_,h=>by simp[wU]at h
 |x::xs,[],_,_,_,_,_,_,_,h=>by cases x<;>simp[wU]at h
theorem Hk:∀{ls:ax LK}{xs:ax AC}{vs:jt}{f1:fK},bU c vs xs f1->fits ls xs=true->se ls vs=true
 |[],[],[],_,_,_=>rfl
 |l::ls,x::xs,v::vs,_,r1,h=>by obtain⟨g1,g2,rfl,a1,a2⟩:=r1;cases l<;>cases x<;>simp[fits]at h;rw[a1.1];simpa[se]using Hk a2 h;rw[a1.1];simpa[se]using Hk a2 h;rw[a1.1];simpa[se]using Hk a2 h
 |[],[],v::vs,_,r1,_=>r1.elim
 |_,x::xs,[],_,r1,_=>r1.elim
 |[],x::xs,_,_,_,h=>by simp[fits]at h
 |l::ls,[],_,_,_,h=>by cases l<;>simp[fits]at h
def Wz (P:Program)(l:ax (Nat×ax LK)):Prop:=∀t ls,To l t=some ls->
 kx P 50 t=some ls/\(∃fs,P.underlying t=some (.struct fs))/\P.eqGuardType P.depth t=false
def eqB (P:Program)(t:TypeId)(ls:ax LK):Bool:=
 decide (kx P 50 t=some ls)&&(match P.underlying t with|some (.struct _)=>true|_=>false)&& !(P.eqGuardType P.depth t)
theorem YH:∀{l:ax (Nat×ax LK)},(l.all λx=>eqB P x.1 x.2)=true->Wz P l
 |[],_,t,ls,h=>by simp[To]at h
 |(u,s)::r,hl,t,ls,h=>by simp only[cj,ae]at hl;simp only[To]at h;cases hu:u==t with|true=>rw[hu]at h;simp at hu h;subst hu;subst h;have h1:=hl.1;simp only[eqB,ae,aE,aN]at h1;refine⟨h1.1.1,?_,h1.2⟩;have h2:=h1.1.2;split at h2;rename_i fs Jp;exact⟨fs,Jp⟩;cases h2|false=>rw[hu]at h;exact YH hl.2 t ls h
theorem an8 {l:ax (Nat×ax LK)}(hl:Wz P l)(ht:To l t=some ls){xs ys:ax AC}{vs us:jt}{f1 f2:fK}{b:Bool}(r1:bU c vs xs f1)(r2:bU c us ys f2)(hf:fits ls xs=true)(he:wU xs ys=some b)(w:World): (Op.equal t (.agg vs.toArray) (.agg us.toArray)).run P w=.ok b w:=by
 obtain⟨h1,⟨fs,hu⟩,_⟩:=hl t ls ht;have:=Ph h1 Op.maxDepth (by decide) vs us b w (Hk r1 hf) (AU r1 r2 he);have hm:∀zs,Cp P t zs=.agg zs.toArray:=λzs=>by simp[Cp,hu]
 rw[hm,hm]at this;exact this
end Go.Dn
