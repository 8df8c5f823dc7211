import Derived.Test.YtpgnehchfeikmaaGreatDnMem
/- '==' of structs, cell by cell. -/
namespace Go.Dn
def AN:Value→Value→Option Bool
 | .int k a,.int k' b=>if k=k' then some (a==b) else none
 | .bool a,.bool b=>some (a==b)
 | .string a,.string b=>some (a.toList==b.toList)
 |_,_=>none
def kk:List Value→List Value→Option Bool
 |[],[]=>some true
 |v::vs,u::us=>(AN v u).bind λa=>(kk vs us).bind λb=>some (a&&b)
 |_,_=>none
def kJ:List LK→List Value→Bool
 |[],[]=>true
 | .int::ls,.int _ _::r=>kJ ls r
 | .bool::ls,.bool _::r=>kJ ls r
 | .str::ls,.string _::r=>kJ ls r
 |_,_=>false
def rL (P:Program)(F:TypeId→Option (List LK)):List Field→Nat→Option (List LK)
 |[],_=>some []
 |f::fs,cur=>
  if f.name≠ "_" ∧f.offset=cur then
   match F f.type,P.info? f.type with
   |some ls,some i=>if i.size=ls.length∧0<ls.length then(rL P F fs (cur+ls.length)).bind λr=>some (ls++r) else none
   |_,_=>none
  else none
def dW (P:Program):Nat→TypeId→Option (List LK)
 |0,_=>none
 |d+1,t=>
  match P.underlying t with
  |some (.int _)=>some [.int]
  |some .bool=>some [.bool]
  |some .string=>some [.str]
  |some (.struct fs)=>if P.stoodInHeld t then none else rL P (dW P d) fs.toList 0
  |_=>none
theorem w5 {xs ys:List Value}:∀{xs' ys':List Value}{b:Bool},xs'.length=ys'.length→kk (xs'++xs) (ys'++ys)=some b→
 ∃b1 b2,kk xs' ys'=some b1∧kk xs ys=some b2∧b=(b1&&b2)
 |[],[],b,_,h=>⟨true,b,rfl,h,by simp⟩
 |v::vs,u::us,b,hl,h=>by simp only[List.cons_append,kk,ay]at h;obtain⟨c,h1,d,h2,h3⟩:=h;obtain⟨b1,b2,k1,k2,rfl⟩:=w5 (by simpa using hl) h2;simp at h3;subst h3;exact⟨c&&b1,b2,by simp[kk,h1,k1],k2,by simp[Bool.and_assoc]⟩
 |[],_::_,_,hl,_=>by simp at hl
 |_::_,[],_,hl,_=>by simp at hl
theorem qd:∀{xs ys:List Value}{b:Bool},kk xs ys=some b→xs.length=ys.length
 |[],[],_,_=>rfl
 |v::vs,u::us,b,h=>by simp only[kk,ay]at h;obtain⟨c,_,d,h2,_⟩:=h;simp[qd h2]
 |[],_::_,_,h=>by simp[kk]at h
 |_::_,[],_,h=>by simp[kk]at h
theorem ry:∀{ls:List LK}{xs:List Value},kJ ls xs=true→xs.length=ls.length
 |[],[],_=>rfl
 |l::ls,x::xs,h=>by cases l<;>cases x<;>simp[kJ]at h<;>simp[ry h]
 |[],_::_,h=>by simp[kJ]at h
 |l::ls,[],h=>by cases l<;>simp[kJ]at h
theorem yQ:∀{ls ls':List LK}{xs:List Value},kJ (ls++ls') xs=true→kJ ls (xs.take ls.length)=true∧kJ ls' (xs.drop ls.length)=true
 |[],_,_,h=>by simpa[kJ]using h
 |l::ls,ls',[],h=>by cases l<;>simp[kJ]at h
 |l::ls,ls',x::xs,h=>by cases l<;>cases x<;>simp[kJ]at h;all_goals have:=yQ h;simpa[kJ]using this
def rX (P:Program)(t:TypeId)(vs:List Value):Value:=
 match P.underlying t with
 |some (.struct _)=> .agg vs.toArray
 |_=>vs.getD 0 undef
theorem ET {P:Program}{d:Nat}{t:TypeId}{ls:List LK}(h:dW P d t=some ls){i:TypeInfo}(hi:P.info? t=some i)(hs:i.size=ls.length)(cs:List Value)(off:Nat)(hl:off+ls.length≤cs.length)(w:World): (part t cs.toArray off).run P w=.ok (rX P t ((cs.drop off).take ls.length)) w:=by
 have leaf:ls.length=1→(∀fs,P.underlying t≠some (.struct fs))→(isAgg t).run P w=.ok false w→(part t cs.toArray off).run P w=.ok (rX P t ((cs.drop off).take ls.length)) w:=by
  intro h1 hu ha;rw[h1]at hl⊢;have hlt:off<cs.length:=by omega
  have hg:cs.toArray[off]?=some cs[off]:=by simp[List.getElem?_eq_getElem hlt]
  have he:rX P t ((cs.drop off).take 1)=cs[off]:=by
   have:(cs.drop off).take 1=[cs[off]]:=by rw[bA hlt,List.take_succ_cons,List.take_zero]
   rw[this];unfold rX;split;rename_i fs hfs;exact absurd hfs (hu fs);rfl
  simp only[part,Sem.run_bind,ha,Result.andThen_ok,aG,bC];rw[he,hg];rfl
 cases d with
 |zero=>simp[dW]at h
 |succ d=>
  simp only[dW]at h;cases hu:P.underlying t with
  |none=>rw[hu]at h;simp at h
  |some x=>
   rw[hu]at h;cases x<;>simp at h;exact leaf (by rw[←h];rfl) (by simp[hu]) (by simp[isAgg,underlying,hu]);exact leaf (by rw[←h];rfl) (by simp[hu]) (by simp[isAgg,underlying,hu]);exact leaf (by rw[←h];rfl) (by simp[hu]) (by simp[isAgg,underlying,hu]);rename_i fs;have ha:(isAgg t).run P w=.ok true w:=by simp[isAgg,underlying,hu]
   simp only[part,Sem.run_bind,ha,Result.andThen_ok,bj,sizeOf,typeInfo,run_program,hi,Sem.run_pure,hs,rX,hu];congr 2;simp[List.extract_eq_take_drop]
theorem Ca {P:Program}:∀{d:Nat}{t:TypeId}{ls:List LK},dW P d t=some ls→∀(D:Nat),d≤D→∀(xs ys:List Value)(b:Bool)(w:World),kJ ls xs=true→kk xs ys=some b→
 (Op.equalIn D t (rX P t xs) (rX P t ys)).run P w=.ok b w
 |0,t,ls,h,_,_,_,_,_,_,_,_=>by simp[dW]at h
 |d+1,t,ls,h,0,hD,_,_,_,_,_,_=>by omega
 |d+1,t,ls,h,D+1,hD,xs,ys,b,w,hf,he=>by
  have hly:=qd he;have hlx:=ry hf;simp only[dW]at h
  have leaf:∀(x:TypeDesc)(l:LK),P.underlying t=some x→ls=[l]→(∀fs,x≠ .struct fs)→
   (∀u v c,kJ [l] [u]=true→AN u v=some c→(Op.equalIn (D+1) t u v).run P w=.ok c w)→(Op.equalIn (D+1) t (rX P t xs) (rX P t ys)).run P w=.ok b w:=by
   intro x l hu hls hns hrun
   subst hls
   obtain⟨u,rfl⟩:=List.length_eq_one_iff.1 (by simpa using hlx)
   obtain⟨v,rfl⟩:=List.length_eq_one_iff.1 (by simpa using hly.symm)
   have hm:∀z,rX P t [z]=z:=by intro z;unfold rX;rw[hu];split;rename_i fs hfs;simp at hfs;exact absurd hfs (hns fs);rfl
   rw[hm,hm]
   refine hrun u v b hf ?_
   simp only[kk,ay]at he
   obtain⟨c,h1,d,h2,h3⟩:=he
   simp at h2 h3;subst h2
   simp at h3;subst h3
   exact h1
  cases hu:P.underlying t with
  |none=>rw[hu]at h;simp at h
  |some x=>
   rw[hu]at h;cases x with
   |int k=>simp at h;refine leaf _ .int hu h.symm (by simp) (λu v c hv hq=>?_);cases u<;>simp[kJ]at hv;cases v<;>simp[AN]at hq;obtain⟨rfl,rfl⟩:=hq;exact run_equalIn_int w D t _ k _ _ hu
   |bool=>simp at h;refine leaf _ .bool hu h.symm (by simp) (λu v c hv hq=>?_);cases u<;>simp[kJ]at hv;cases v<;>simp[AN]at hq;subst hq;exact run_equalIn_bool' w D t _ _ hu
   |string=>simp at h;refine leaf _ .str hu h.symm (by simp) (λu v c hv hq=>?_);cases u<;>simp[kJ]at hv;cases v<;>simp[AN]at hq;subst hq;exact run_equalIn_string w D t _ _ hu
   |struct fs=>
    simp only at h;by_cases hst:P.stoodInHeld t=true;rw[au hst]at h;cases h;rw[aq hst]at h;have hst:P.stoodInHeld t=false:=by simpa using hst
    have hfo:P.fieldsOf t=fs:=by simp[Program.fieldsOf,hu]
    have hmk:∀zs,rX P t zs=.agg zs.toArray:=λzs=>by simp[rX,hu]
    rw[hmk,hmk,run_equalIn_struct w D t _ _ (by rw[hfo];exact hu) hst,hfo]
    have main:∀(fl:List Field)(cur:Nat)(ls:List LK),rL P (dW P d) fl cur=some ls→∀(b:Bool),cur≤xs.length→kJ ls (xs.drop cur)=true→kk (xs.drop cur) (ys.drop cur)=some b→
     (Op.eqFields D xs.toArray ys.toArray fl).run P w=.ok b w:=by
     intro fl
     induction fl with
     |nil=>
      intro cur ls hl b hcur hv hq
      simp[rL]at hl
      subst hl
      have h1:=ry hv
      have h2:=qd hq
      have e1:xs.drop cur=[]:=bF (by simpa using h1)
      have e2:ys.drop cur=[]:=bF (by rw[←h2,e1];rfl)
      rw[e1,e2]at hq
      simp[kk]at hq
      subst hq
      simp[Op.eqFields]
     |cons f fl ih=>
      intro cur ls hl b hcur hv hq
      simp only[rL]at hl
      split at hl
      ·rename_i hc
       split at hl
       ·rename_i ls1 i h1 hi
        split at hl
        ·rename_i hsz
         simp only[ay]at hl
         obtain⟨ls2,h2,h3⟩:=hl
         simp at h3;subst h3
         have hv2:=yQ hv
         have hvl:=ry hv
         simp only[bc,ak]at hvl
         have hql:=qd hq
         simp only[bc]at hql
         have ex:xs.drop cur=(xs.drop cur).take ls1.length++(xs.drop cur).drop ls1.length:=(bI _ _).symm
         have ey:ys.drop cur=(ys.drop cur).take ls1.length++(ys.drop cur).drop ls1.length:=(bI _ _).symm
         rw[ex,ey]at hq
         obtain⟨b1,b2,q1,q2,rfl⟩:=w5 (by simp;omega) hq
         rw[List.drop_drop]at q2 hv2
         have p1:=ET h1 hi hsz.1 xs cur (by omega) w
         have p2:=ET h1 hi hsz.1 ys cur (by omega) w
         have r1:=Ca h1 D (by omega) _ _ b1 w hv2.1 q1
         rw[List.drop_drop]at q2
         have r2:=ih (cur+ls1.length) ls2 h2 b2 (by omega) hv2.2 q2
         simp only[Op.eqFields,hc.1,ne_eq,not_false_eq_true,bj,hc.2,Sem.run_bind,p1,p2,Result.andThen_ok,r1]
         cases b1
         ·simp
         ·simpa using r2
        ·cases hl
       ·cases hl
      ·cases hl
    exact main fs.toList 0 ls h b (bt _) (by simpa using hf) (by simpa using he)
   |_=>simp at h
theorem toList_mk (s:List UInt8):(ByteArray.mk s.toArray).toList=s:=by rw[ByteArray.toList_eq]
theorem Bw {o:Option Bool}{p b:Bool}(h:(o.bind λd=>some (p&&d))=some b):∃d,o=some d∧(p&&d)=b:=by cases o with|none=>simp at h|some d=>exact⟨d,rfl,by simpa using h⟩
theorem qM {c:RC}:∀{xs ys:List AC}{vs us:List Value}{f1 f2:List Nat}{b:Bool},aV c vs xs f1→aV c us ys f2→nM xs ys=some b→kk vs us=some b
 |[],[],[],[],_,_,_,_,_,h=>h
 |x::xs,y::ys,v::vs,u::us,_,_,b,r1,r2,h=>by obtain⟨g1,g2,rfl,a1,a2⟩:=r1;obtain⟨h1,h2,rfl,b1,b2⟩:=r2;unfold nM at h;split at h;rename_i e1 e2;cases e1;rename_i k p xs' k' q ys' e1 e2;cases e1;cases e2;split at h;rename_i hk;subst hk;obtain⟨d,hd,hb⟩:=Bw h;rw[a1.1,b1.1];simp only[kk,AN,bj,cU,qM a2 b2 hd,hb];cases h;rename_i p xs' q ys' e1 e2;cases e1;cases e2;obtain⟨d,hd,hb⟩:=Bw h;rw[a1.1,b1.1];simp only[kk,AN,cU,qM a2 b2 hd,hb];rename_i p xs' q ys' e1 e2;cases e1;cases e2;obtain⟨d,hd,hb⟩:=Bw h;rw[a1.1,b1.1];simp only[kk,AN,cU,qM a2 b2 hd,hb,toList_mk];cases h
 |[],[],v::vs,_,_,_,_,r1,_,_=>r1.elim
 |[],[],[],u::us,_,_,_,_,r2,_=>r2.elim
 |x::xs,_,[],_,_,_,_,r1,_,_=>r1.elim
 |_,y::ys,_,[],_,_,_,_,r2,_=>r2.elim
 |[],y::ys,_,_,_,_,_,_,_,h=>by simp[nM]at h
 |x::xs,[],_,_,_,_,_,_,_,h=>by cases x<;>simp[nM]at h
theorem wj {c:RC}:∀{ls:List LK}{xs:List AC}{vs:List Value}{f1:List Nat},aV c vs xs f1→fits ls xs=true→kJ ls vs=true
 |[],[],[],_,_,_=>rfl
 |l::ls,x::xs,v::vs,_,r1,h=>by obtain⟨g1,g2,rfl,a1,a2⟩:=r1;cases l<;>cases x<;>simp[fits]at h;rw[a1.1];simpa[kJ]using wj a2 h;rw[a1.1];simpa[kJ]using wj a2 h;rw[a1.1];simpa[kJ]using wj a2 h
 |[],[],v::vs,_,r1,_=>r1.elim
 |_,x::xs,[],_,r1,_=>r1.elim
 |[],x::xs,_,_,_,h=>by simp[fits]at h
 |l::ls,[],_,_,_,h=>by cases l<;>simp[fits]at h
def G6 (P:Program)(l:List (Nat×List LK)):Prop:=∀t ls,EI l t=some ls→
 dW P 50 t=some ls∧(∃fs,P.underlying t=some (.struct fs))∧P.eqGuardType P.depth t=false
def eqB (P:Program)(t:TypeId)(ls:List LK):Bool:=
 decide (dW P 50 t=some ls)&&(match P.underlying t with|some (.struct _)=>true|_=>false)&& !(P.eqGuardType P.depth t)
theorem I5 {P:Program}:∀{l:List (Nat×List LK)},(l.all λx=>eqB P x.1 x.2)=true→G6 P l
 |[],_,t,ls,h=>by simp[EI]at h
 |(u,s)::r,hl,t,ls,h=>by simp only[bp,ab]at hl;simp only[EI]at h;cases hu:u==t with|true=>rw[hu]at h;simp at hu h;subst hu;subst h;have h1:=hl.1;simp only[eqB,ab,aD,aB]at h1;refine⟨h1.1.1,?_,h1.2⟩;have h2:=h1.1.2;split at h2;rename_i fs hfs;exact⟨fs,hfs⟩;cases h2|false=>rw[hu]at h;exact I5 hl.2 t ls h
theorem VI {P:Program}{l:List (Nat×List LK)}(hl:G6 P l){t:TypeId}{ls:List LK}(ht:EI l t=some ls){c:RC}{xs ys:List AC}{vs us:List Value}{f1 f2:List Nat}{b:Bool}(r1:aV c vs xs f1)(r2:aV c us ys f2)(hf:fits ls xs=true)(he:nM xs ys=some b)(w:World): (Op.equal t (.agg vs.toArray) (.agg us.toArray)).run P w=.ok b w:=by
 obtain⟨h1,⟨fs,hu⟩,_⟩:=hl t ls ht;have:=Ca h1 Op.maxDepth (by decide) vs us b w (wj r1 hf) (qM r1 r2 he);have hm:∀zs,rX P t zs=.agg zs.toArray:=λzs=>by simp[rX,hu]
 rw[hm,hm]at this;exact this
end Go.Dn
