import Derived.Test.YtfbhfnniblfpbaaGreatDnMem
/- '==' of structs, cell by cell. -/
namespace Go.Dn
variable {P:Program} {c:RC} {t:TypeId} {ls:ax LK}
def OM:Value->Value->aA Bool
 | .int k a,.int k' b=>if k=k' then some (a==b) else none
 | .bool a,.bool b=>some (a==b)
 | .string a,.string b=>some (a.toList==b.toList)
 |_,_=>none
def sH:jI->jI->aA Bool
 |[],[]=>some true
 |v::vs,u::us=>(OM v u).bind λa=>(sH vs us).bind λb=>some (a&&b)
 |_,_=>none
def tq:ax LK->jI->Bool
 |[],[]=>true
 | .int::ls,.int _ _::r=>tq ls r
 | .bool::ls,.bool _::r=>tq ls r
 | .str::ls,.string _::r=>tq ls r
 |_,_=>false
def Dj (P:Program)(F:TypeId->aA (ax LK)):ax Field->Nat->aA (ax LK)
 |[],_=>some []
 |f::fs,cur=>
  if f.name≠ "_" /\f.offset=cur then
   match F f.type,P.info? f.type with
   |some ls,some i=>if i.size=ls.length/\0<ls.length then(Dj P F fs (cur+ls.length)).bind λr=>some (ls++r) else none
   |_,_=>none
  else none
def kB (P:Program):Nat->TypeId->aA (ax LK)
 |0,_=>none
 |d+1,t=>
  match P.underlying t with
  |some (.int _)=>some [.int]
  |some .bool=>some [.bool]
  |some .string=>some [.str]
  |some (.struct fs)=>if P.stoodInHeld t then none else Dj P (kB P d) fs.toList 0
  |_=>none
theorem JT {xs ys:jI}:∀{SE ys':jI}{b:Bool},SE.length=ys'.length->sH (SE++xs) (ys'++ys)=some b->
 ∃b1 b2,sH SE ys'=some b1/\sH xs ys=some b2/\b=(b1&&b2)
 |[],[],b,_,h=>⟨true,b,rfl,h,by simp⟩
 |v::vs,u::us,b,hl,h=>by simp only[ig,sH,aY]at h;obtain⟨c,h1,d,h2,h3⟩:=h;obtain⟨b1,b2,k1,k2,rfl⟩:=JT (by simpa using hl) h2;simp at h3;subst h3;exact⟨c&&b1,b2,by simp[sH,h1,k1],k2,by simp[Bool.and_assoc]⟩
 |[],_::_,_,hl,_=>by simp at hl
 |_::_,[],_,hl,_=>by simp at hl
theorem Bc:∀{xs ys:jI}{b:Bool},sH xs ys=some b->xs.length=ys.length
 |[],[],_,_=>rfl
 |v::vs,u::us,b,h=>by simp only[sH,aY]at h;obtain⟨c,_,d,h2,_⟩:=h;simp[Bc h2]
 |[],_::_,_,h=>by simp[sH]at h
 |_::_,[],_,h=>by simp[sH]at h
theorem CU:∀{ls:ax LK}{xs:jI},tq ls xs=true->xs.length=ls.length
 |[],[],_=>rfl
 |l::ls,x::xs,h=>by cases l<;>cases x<;>simp[tq]at h<;>simp[CU h]
 |[],_::_,h=>by simp[tq]at h
 |l::ls,[],h=>by cases l<;>simp[tq]at h
theorem Mx:∀{ls ls':ax LK}{xs:jI},tq (ls++ls') xs=true->tq ls (xs.take ls.length)=true/\tq ls' (xs.drop ls.length)=true
 |[],_,_,h=>by simpa[tq]using h
 |l::ls,ls',[],h=>by cases l<;>simp[tq]at h
 |l::ls,ls',x::xs,h=>by cases l<;>cases x<;>simp[tq]at h;all_goals have:=Mx h;simpa[tq]using this
def DG (P:Program)(t:TypeId)(vs:jI):Value:=
 match P.underlying t with
 |some (.struct _)=> .agg vs.toArray
 |_=>vs.getD 0 undef
theorem UJ {d:Nat}(h:kB P d t=some ls){i:TypeInfo}(hi:P.info? t=some i)(hs:i.size=ls.length)(cs:jI)(off:Nat)(hl:off+ls.length<=cs.length)(w:World): (part t cs.toArray off).run P w=.ok (DG P t ((cs.drop off).take ls.length)) w:=by
 have leaf:ls.length=1->(∀fs,P.underlying t≠some (.struct fs))->(isAgg t).run P w=.ok false w->(part t cs.toArray off).run P w=.ok (DG P t ((cs.drop off).take ls.length)) w:=by
  intro h1 hu ha;rw[h1]at hl⊢;have iA:off<cs.length:=by omega
  have hg:cs.toArray[off]?=some cs[off]:=by simp[ay iA]
  have he:DG P t ((cs.drop off).take 1)=cs[off]:=by
   have:(cs.drop off).take 1=[cs[off]]:=by rw[cr iA,List.take_succ_cons,List.take_zero]
   rw[this];unfold DG;split;rename_i fs KH;exact absurd KH (hu fs);rfl
  simp only[part,Sem.run_bind,ha,Result.andThen_ok,bm,cG];rw[he,hg];rfl
 cases d with
 |zero=>simp[kB]at h
 |succ d=>
  simp only[kB]at h;cases hu:P.underlying t with
  |none=>rw[hu]at h;simp at h
  |some x=>
   rw[hu]at h;cases x<;>simp at h;exact leaf (by rw[<-h];rfl) (by simp[hu]) (by simp[isAgg,underlying,hu]);exact leaf (by rw[<-h];rfl) (by simp[hu]) (by simp[isAgg,underlying,hu]);exact leaf (by rw[<-h];rfl) (by simp[hu]) (by simp[isAgg,underlying,hu]);rename_i fs;have ha:(isAgg t).run P w=.ok true w:=by simp[isAgg,underlying,hu]
   simp only[part,Sem.run_bind,ha,Result.andThen_ok,cL,sizeOf,typeInfo,run_program,hi,Sem.run_pure,hs,DG,hu];congr 2;simp[List.extract_eq_take_drop]
theorem Qs:∀{d:Nat}{t:TypeId}{ls:ax LK},kB P d t=some ls->∀(D:Nat),d<=D->∀(xs ys:jI)(b:Bool)(w:World),tq ls xs=true->sH xs ys=some b->
 (Op.equalIn D t (DG P t xs) (DG P t ys)).run P w=.ok b w
 |0,t,ls,h,_,_,_,_,_,_,_,_=>by simp[kB]at h
 |d+1,t,ls,h,0,hD,_,_,_,_,_,_=>by omega
 |d+1,t,ls,h,D+1,hD,xs,ys,b,w,hf,he=>by
  have hly:=Bc he;have hlx:=CU hf;simp only[kB]at h
  have leaf:∀(x:TypeDesc)(l:LK),P.underlying t=some x->ls=[l]->(∀fs,x≠ .struct fs)->
   (∀u v c,tq [l] [u]=true->OM u v=some c->(Op.equalIn (D+1) t u v).run P w=.ok c w)->(Op.equalIn (D+1) t (DG P t xs) (DG P t ys)).run P w=.ok b w:=by
   intro x l hu hls hns fz
   subst hls
   obtain⟨u,rfl⟩:=List.length_eq_one_iff.1 (by simpa using hlx)
   obtain⟨v,rfl⟩:=List.length_eq_one_iff.1 (by simpa using hly.symm)
   have hm:∀z,DG P t [z]=z:=by intro z;unfold DG;rw[hu];split;rename_i fs KH;simp at KH;exact absurd KH (hns fs);rfl
   rw[hm,hm]
   refine fz u v b hf ?_
   simp only[sH,aY]at he
   obtain⟨c,h1,d,h2,h3⟩:=he
   simp at h2 h3;subst h2
   simp at h3;subst h3
   exact h1
  cases hu:P.underlying t with
  |none=>rw[hu]at h;simp at h
  |some x=>
   rw[hu]at h;cases x with
   |int k=>simp at h;refine leaf _ .int hu h.symm (by simp) (λu v c hv hq=>?_);cases u<;>simp[tq]at hv;cases v<;>simp[OM]at hq;obtain⟨rfl,rfl⟩:=hq;exact run_equalIn_int w D t _ k _ _ hu
   |bool=>simp at h;refine leaf _ .bool hu h.symm (by simp) (λu v c hv hq=>?_);cases u<;>simp[tq]at hv;cases v<;>simp[OM]at hq;subst hq;exact run_equalIn_bool' w D t _ _ hu
   |string=>simp at h;refine leaf _ .str hu h.symm (by simp) (λu v c hv hq=>?_);cases u<;>simp[tq]at hv;cases v<;>simp[OM]at hq;subst hq;exact run_equalIn_string w D t _ _ hu
   |struct fs=>
    simp only at h;by_cases mI:P.stoodInHeld t=true;rw[aI mI]at h;cases h;rw[aK mI]at h;have mI:P.stoodInHeld t=false:=by simpa using mI
    have hfo:P.fieldsOf t=fs:=by simp[Program.fieldsOf,hu]
    have hmk:∀zs,DG P t zs=.agg zs.toArray:=λzs=>by simp[DG,hu]
    rw[hmk,hmk,run_equalIn_struct w D t _ _ (by rw[hfo];exact hu) mI,hfo]
    have main:∀(fl:ax Field)(cur:Nat)(ls:ax LK),Dj P (kB P d) fl cur=some ls->∀(b:Bool),cur<=xs.length->tq ls (xs.drop cur)=true->sH (xs.drop cur) (ys.drop cur)=some b->
     (Op.eqFields D xs.toArray ys.toArray fl).run P w=.ok b w:=by
     intro fl
     induction fl with
     |nil=>
      intro cur ls hl b hcur hv hq
      simp[Dj]at hl
      subst hl
      have h1:=CU hv
      have h2:=Bc hq
      have e1:xs.drop cur=[]:=cb (by simpa using h1)
      have e2:ys.drop cur=[]:=cb (by rw[<-h2,e1];rfl)
      rw[e1,e2]at hq
      simp[sH]at hq
      subst hq
      simp[Op.eqFields]
     |cons f fl ih=>
      intro cur ls hl b hcur hv hq
      simp only[Dj]at hl
      split at hl
      ·rename_i hc
       split at hl
       ·rename_i ls1 i h1 hi
        split at hl
        ·rename_i wv
         simp only[aY]at hl
         obtain⟨ls2,h2,h3⟩:=hl
         simp at h3;subst h3
         have SY:=Mx hv
         have hvl:=CU hv
         simp only[bA,aq]at hvl
         have hql:=Bc hq
         simp only[bA]at hql
         have ex:xs.drop cur=(xs.drop cur).take ls1.length++(xs.drop cur).drop ls1.length:=(cg _ _).symm
         have ey:ys.drop cur=(ys.drop cur).take ls1.length++(ys.drop cur).drop ls1.length:=(cg _ _).symm
         rw[ex,ey]at hq
         obtain⟨b1,b2,q1,q2,rfl⟩:=JT (by simp;omega) hq
         rw[fa]at q2 SY
         have p1:=UJ h1 hi wv.1 xs cur (by omega) w
         have p2:=UJ h1 hi wv.1 ys cur (by omega) w
         have r1:=Qs h1 D (by omega) _ _ b1 w SY.1 q1
         rw[fa]at q2
         have r2:=ih (cur+ls1.length) ls2 h2 b2 (by omega) SY.2 q2
         simp only[Op.eqFields,hc.1,ne_eq,not_false_eq_true,cL,hc.2,Sem.run_bind,p1,p2,Result.andThen_ok,r1]
         cases b1
         ·simp
         ·simpa using r2
        ·cases hl
       ·cases hl
      ·cases hl
    exact main fs.toList 0 ls h b (cU _) (by simpa using hf) (by simpa using he)
   |_=>simp at h
theorem toList_mk (s:ax UInt8):(ByteArray.mk s.toArray).toList=s:=by rw[ByteArray.toList_eq]
theorem P5 {o:aA Bool}{p b:Bool}(h:(o.bind λd=>some (p&&d))=some b):∃d,o=some d/\(p&&d)=b:=by cases o with|none=>simp at h|some d=>exact⟨d,rfl,by simpa using h⟩
theorem Cd:∀{xs ys:ax AC}{vs us:jI}{f1 f2:fi}{b:Bool},bW c vs xs f1->bW c us ys f2->xN xs ys=some b->sH vs us=some b
 |[],[],[],[],_,_,_,_,_,h=>h
 |x::xs,y::ys,v::vs,u::us,_,_,b,r1,r2,h=>by obtain⟨g1,g2,rfl,a1,a2⟩:=r1;obtain⟨h1,h2,rfl,b1,b2⟩:=r2;unfold xN at h;split at h;rename_i e1 e2;cases e1;rename_i k p SE k' q ys' e1 e2;cases e1;cases e2;split at h;rename_i hk;subst hk;obtain⟨d,hd,hb⟩:=P5 h;rw[a1.1,b1.1];simp only[sH,OM,cL,fL,Cd a2 b2 hd,hb];cases h;rename_i p SE q ys' e1 e2;cases e1;cases e2;obtain⟨d,hd,hb⟩:=P5 h;rw[a1.1,b1.1];simp only[sH,OM,fL,Cd a2 b2 hd,hb];rename_i p SE q ys' e1 e2;cases e1;cases e2;obtain⟨d,hd,hb⟩:=P5 h;rw[a1.1,b1.1];simp only[sH,OM,fL,Cd a2 b2 hd,hb,toList_mk];cases h
 |[],[],v::vs,_,_,_,_,r1,_,_=>r1.elim
 |[],[],[],u::us,_,_,_,_,r2,_=>r2.elim
 |x::xs,_,[],_,_,_,_,r1,_,_=>r1.elim
 |_,y::ys,_,[],_,_,_,_,r2,_=>r2.elim
 |[],y::ys,_,_,_,_,_,_,_,h=>by simp[xN]at h
 |x::xs,[],_,_,_,_,_,_,_,h=>by cases x<;>simp[xN]at h
theorem IJ:∀{ls:ax LK}{xs:ax AC}{vs:jI}{f1:fi},bW c vs xs f1->fits ls xs=true->tq ls vs=true
 |[],[],[],_,_,_=>rfl
 |l::ls,x::xs,v::vs,_,r1,h=>by obtain⟨g1,g2,rfl,a1,a2⟩:=r1;cases l<;>cases x<;>simp[fits]at h;rw[a1.1];simpa[tq]using IJ a2 h;rw[a1.1];simpa[tq]using IJ a2 h;rw[a1.1];simpa[tq]using IJ a2 h
 |[],[],v::vs,_,r1,_=>r1.elim
 |_,x::xs,[],_,r1,_=>r1.elim
 |[],x::xs,_,_,_,h=>by simp[fits]at h
 |l::ls,[],_,_,_,h=>by cases l<;>simp[fits]at h
def Xf (P:Program)(l:ax (Nat×ax LK)):Prop:=∀t ls,Uv l t=some ls->
 kB P 50 t=some ls/\(∃fs,P.underlying t=some (.struct fs))/\P.eqGuardType P.depth t=false
def eqB (P:Program)(t:TypeId)(ls:ax LK):Bool:=
 decide (kB P 50 t=some ls)&&(match P.underlying t with|some (.struct _)=>true|_=>false)&& !(P.eqGuardType P.depth t)
theorem YG:∀{l:ax (Nat×ax LK)},(l.all λx=>eqB P x.1 x.2)=true->Xf P l
 |[],_,t,ls,h=>by simp[Uv]at h
 |(u,s)::r,hl,t,ls,h=>by simp only[cx,ah]at hl;simp only[Uv]at h;cases hu:u==t with|true=>rw[hu]at h;simp at hu h;subst hu;subst h;have h1:=hl.1;simp only[eqB,ah,bE,aP]at h1;refine⟨h1.1.1,?_,h1.2⟩;have h2:=h1.1.2;split at h2;rename_i fs KH;exact⟨fs,KH⟩;cases h2|false=>rw[hu]at h;exact YG hl.2 t ls h
theorem aln {l:ax (Nat×ax LK)}(hl:Xf P l)(ht:Uv l t=some ls){xs ys:ax AC}{vs us:jI}{f1 f2:fi}{b:Bool}(r1:bW c vs xs f1)(r2:bW c us ys f2)(hf:fits ls xs=true)(he:xN xs ys=some b)(w:World): (Op.equal t (.agg vs.toArray) (.agg us.toArray)).run P w=.ok b w:=by
 obtain⟨h1,⟨fs,hu⟩,_⟩:=hl t ls ht;have:=Qs h1 Op.maxDepth (by decide) vs us b w (IJ r1 hf) (Cd r1 r2 he);have hm:∀zs,DG P t zs=.agg zs.toArray:=λzs=>by simp[DG,hu]
 rw[hm,hm]at this;exact this
end Go.Dn
