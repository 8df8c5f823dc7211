import Derived.Test.YtcmdhgbbpmnbpaaGreatDnMem
/- '==' of structs, cell by cell. -/
namespace Go.Dn
def CV:Value→Value→Option Bool
 | .int k a,.int k' b=>if k=k' then some (a==b) else none
 | .bool a,.bool b=>some (a==b)
 | .string a,.string b=>some (a.toList==b.toList)
 |_,_=>none
def ks:List Value→List Value→Option Bool
 |[],[]=>some true
 |v::vs,u::us=>(CV v u).bind fun a=>(ks vs us).bind fun b=>some (a&&b)
 |_,_=>none
def kS:List LK→List Value→Bool
 |[],[]=>true
 | .int::ls,.int _ _::r=>kS ls r
 | .bool::ls,.bool _::r=>kS ls r
 | .str::ls,.string _::r=>kS ls r
 |_,_=>false
def th (P:Program)(F:TypeId→Option (List LK)):List Field→Nat→Option (List LK)
 |[],_=>some []
 |f::fs,cur=>
  if f.name≠ "_" ∧f.offset=cur then
   match F f.type,P.info? f.type with
   |some ls,some i=>if i.size=ls.length∧0<ls.length then (th P F fs (cur+ls.length)).bind fun r=>some (ls++r) else none
   |_,_=>none
  else none
def cH (P:Program):Nat→TypeId→Option (List LK)
 |0,_=>none
 |d+1,t=>
  match P.underlying t with
  |some (.int _)=>some [.int]
  |some .bool=>some [.bool]
  |some .string=>some [.str]
  |some (.struct fs)=>if P.stoodInHeld t then none else th P (cH P d) fs.toList 0
  |_=>none
theorem zx {xs ys:List Value}:∀{xs' ys':List Value}{b:Bool},xs'.length=ys'.length→ks (xs'++xs) (ys'++ys)=some b→
 ∃b1 b2,ks xs' ys'=some b1∧ks xs ys=some b2∧b=(b1&&b2)
 |[],[],b,_,h=>⟨true,b,rfl,h,by simp⟩
 |v::vs,u::us,b,hl,h=>by
  simp only [List.cons_append,ks,Option.bind_eq_some_iff] at h
  obtain ⟨c,h1,d,h2,h3⟩:=h
  obtain ⟨b1,b2,k1,k2,rfl⟩:=zx (by simpa using hl) h2
  simp at h3;subst h3
  exact ⟨c&&b1,b2,by simp [ks,h1,k1],k2,by simp [Bool.and_assoc]⟩
 |[],_::_,_,hl,_=>by simp at hl
 |_::_,[],_,hl,_=>by simp at hl
theorem rb:∀{xs ys:List Value}{b:Bool},ks xs ys=some b→xs.length=ys.length
 |[],[],_,_=>rfl
 |v::vs,u::us,b,h=>by
  simp only [ks,Option.bind_eq_some_iff] at h
  obtain ⟨c,_,d,h2,_⟩:=h
  simp [rb h2]
 |[],_::_,_,h=>by simp [ks] at h
 |_::_,[],_,h=>by simp [ks] at h
theorem sS:∀{ls:List LK}{xs:List Value},kS ls xs=true→xs.length=ls.length
 |[],[],_=>rfl
 |l::ls,x::xs,h=>by cases l<;>cases x<;>simp [kS] at h<;>simp [sS h]
 |[],_::_,h=>by simp [kS] at h
 |l::ls,[],h=>by cases l<;>simp [kS] at h
theorem Bu:∀{ls ls':List LK}{xs:List Value},kS (ls++ls') xs=true→kS ls (xs.take ls.length)=true∧kS ls' (xs.drop ls.length)=true
 |[],_,_,h=>by simpa [kS] using h
 |l::ls,ls',[],h=>by cases l<;>simp [kS] at h
 |l::ls,ls',x::xs,h=>by
  cases l<;>cases x<;>simp [kS] at h
  all_goals
   have:=Bu h
   simpa [kS] using this
def tU (P:Program)(t:TypeId)(vs:List Value):Value:=
 match P.underlying t with
 |some (.struct _)=> .agg vs.toArray
 |_=>vs.getD 0 undef
theorem Hp {P:Program}{d:Nat}{t:TypeId}{ls:List LK}(h:cH P d t=some ls){i:TypeInfo}(hi:P.info? t=some i)(hs:i.size=ls.length)(cs:List Value)(off:Nat)(hl:off+ls.length≤cs.length)(w:World):
 (part t cs.toArray off).run P w= .ok (tU P t ((cs.drop off).take ls.length)) w:=by
 have leaf:ls.length=1→(∀fs,P.underlying t≠some (.struct fs))→(isAgg t).run P w= .ok false w→(part t cs.toArray off).run P w= .ok (tU P t ((cs.drop off).take ls.length)) w:=by
  intro h1 hu ha
  rw [h1] at hl⊢
  have hlt:off<cs.length:=by omega
  have hg:cs.toArray[off]?=some cs[off]:=by simp [List.getElem?_eq_getElem hlt]
  have he:tU P t ((cs.drop off).take 1)=cs[off]:=by
   have:(cs.drop off).take 1=[cs[off]]:=by
    rw [List.drop_eq_getElem_cons hlt,List.take_succ_cons,List.take_zero]
   rw [this]
   unfold tU
   split
   ·rename_i fs hfs;exact absurd hfs (hu fs)
   ·rfl
  simp only [part,Sem.run_bind,ha,Result.andThen_ok,Bool.false_eq_true,if_false]
  rw [he,hg]
  rfl
 cases d with
 |zero=>simp [cH] at h
 |succ d=>
  simp only [cH] at h
  cases hu:P.underlying t with
  |none=>rw [hu] at h;simp at h
  |some x=>
   rw [hu] at h
   cases x<;>simp at h
   ·exact leaf (by rw [←h];rfl) (by simp [hu]) (by simp [isAgg,underlying,hu])
   ·exact leaf (by rw [←h];rfl) (by simp [hu]) (by simp [isAgg,underlying,hu])
   ·exact leaf (by rw [←h];rfl) (by simp [hu]) (by simp [isAgg,underlying,hu])
   ·rename_i fs
    have ha:(isAgg t).run P w= .ok true w:=by simp [isAgg,underlying,hu]
    simp only [part,Sem.run_bind,ha,Result.andThen_ok,if_true,sizeOf,typeInfo,run_program,hi,Sem.run_pure,hs,tU,hu]
    congr 2
    simp [List.extract_eq_take_drop]
theorem EF {P:Program}:∀{d:Nat}{t:TypeId}{ls:List LK},cH P d t=some ls→∀(D:Nat),d≤D→∀(xs ys:List Value)(b:Bool)(w:World),kS ls xs=true→ks xs ys=some b→
 (Op.equalIn D t (tU P t xs) (tU P t ys)).run P w= .ok b w
 |0,t,ls,h,_,_,_,_,_,_,_,_=>by simp [cH] at h
 |d+1,t,ls,h,0,hD,_,_,_,_,_,_=>by omega
 |d+1,t,ls,h,D+1,hD,xs,ys,b,w,hf,he=>by
  have hly:=rb he
  have hlx:=sS hf
  simp only [cH] at h
  have leaf:∀(x:TypeDesc)(l:LK),P.underlying t=some x→ls=[l]→(∀fs,x≠ .struct fs)→
   (∀u v c,kS [l] [u]=true→CV u v=some c→(Op.equalIn (D+1) t u v).run P w= .ok c w)→(Op.equalIn (D+1) t (tU P t xs) (tU P t ys)).run P w= .ok b w:=by
   intro x l hu hls hns hrun
   subst hls
   obtain ⟨u,rfl⟩:=List.length_eq_one_iff.1 (by simpa using hlx)
   obtain ⟨v,rfl⟩:=List.length_eq_one_iff.1 (by simpa using hly.symm)
   have hm:∀z,tU P t [z]=z:=by
    intro z
    unfold tU
    rw [hu]
    split
    ·rename_i fs hfs;simp at hfs;exact absurd hfs (hns fs)
    ·rfl
   rw [hm,hm]
   refine hrun u v b hf ?_
   simp only [ks,Option.bind_eq_some_iff] at he
   obtain ⟨c,h1,d,h2,h3⟩:=he
   simp at h2 h3;subst h2
   simp at h3;subst h3
   exact h1
  cases hu:P.underlying t with
  |none=>rw [hu] at h;simp at h
  |some x=>
   rw [hu] at h
   cases x with
   |int k=>
    simp at h
    refine leaf _ .int hu h.symm (by simp) (fun u v c hv hq=> ?_)
    cases u<;>simp [kS] at hv
    cases v<;>simp [CV] at hq
    obtain ⟨rfl,rfl⟩:=hq
    exact run_equalIn_int w D t _ k _ _ hu
   |bool=>
    simp at h
    refine leaf _ .bool hu h.symm (by simp) (fun u v c hv hq=> ?_)
    cases u<;>simp [kS] at hv
    cases v<;>simp [CV] at hq
    subst hq
    exact run_equalIn_bool' w D t _ _ hu
   |string=>
    simp at h
    refine leaf _ .str hu h.symm (by simp) (fun u v c hv hq=> ?_)
    cases u<;>simp [kS] at hv
    cases v<;>simp [CV] at hq
    subst hq
    exact run_equalIn_string w D t _ _ hu
   |struct fs=>
    simp only at h
    by_cases hst:P.stoodInHeld t=true
    ·rw [if_pos hst] at h;cases h
    rw [if_neg hst] at h
    have hst:P.stoodInHeld t=false:=by simpa using hst
    have hfo:P.fieldsOf t=fs:=by simp [Program.fieldsOf,hu]
    have hmk:∀zs,tU P t zs= .agg zs.toArray:=fun zs=>by simp [tU,hu]
    rw [hmk,hmk,run_equalIn_struct w D t _ _ (by rw [hfo];exact hu) hst,hfo]
    have main:∀(fl:List Field)(cur:Nat)(ls:List LK),th P (cH P d) fl cur=some ls→∀(b:Bool),cur≤xs.length→kS ls (xs.drop cur)=true→ks (xs.drop cur) (ys.drop cur)=some b→
     (Op.eqFields D xs.toArray ys.toArray fl).run P w= .ok b w:=by
     intro fl
     induction fl with
     |nil=>
      intro cur ls hl b hcur hv hq
      simp [th] at hl
      subst hl
      have h1:=sS hv
      have h2:=rb hq
      have e1:xs.drop cur=[]:=List.eq_nil_of_length_eq_zero (by simpa using h1)
      have e2:ys.drop cur=[]:=List.eq_nil_of_length_eq_zero (by rw [←h2,e1];rfl)
      rw [e1,e2] at hq
      simp [ks] at hq
      subst hq
      simp [Op.eqFields]
     |cons f fl ih=>
      intro cur ls hl b hcur hv hq
      simp only [th] at hl
      split at hl
      ·rename_i hc
       split at hl
       ·rename_i ls1 i h1 hi
        split at hl
        ·rename_i hsz
         simp only [Option.bind_eq_some_iff] at hl
         obtain ⟨ls2,h2,h3⟩:=hl
         simp at h3;subst h3
         have hv2:=Bu hv
         have hvl:=sS hv
         simp only [List.length_drop,List.length_append] at hvl
         have hql:=rb hq
         simp only [List.length_drop] at hql
         have ex:xs.drop cur=(xs.drop cur).take ls1.length++(xs.drop cur).drop ls1.length:=(List.take_append_drop _ _).symm
         have ey:ys.drop cur=(ys.drop cur).take ls1.length++(ys.drop cur).drop ls1.length:=(List.take_append_drop _ _).symm
         rw [ex,ey] at hq
         obtain ⟨b1,b2,q1,q2,rfl⟩:=zx (by simp;omega) hq
         rw [List.drop_drop] at q2 hv2
         have p1:=Hp h1 hi hsz.1 xs cur (by omega) w
         have p2:=Hp h1 hi hsz.1 ys cur (by omega) w
         have r1:=EF h1 D (by omega) _ _ b1 w hv2.1 q1
         rw [List.drop_drop] at q2
         have r2:=ih (cur+ls1.length) ls2 h2 b2 (by omega) hv2.2 q2
         simp only [Op.eqFields,hc.1,ne_eq,not_false_eq_true,if_true,hc.2,Sem.run_bind,p1,p2,Result.andThen_ok,r1]
         cases b1
         ·simp
         ·simpa using r2
        ·cases hl
       ·cases hl
      ·cases hl
    exact main fs.toList 0 ls h b (Nat.zero_le _) (by simpa using hf) (by simpa using he)
   |_=>simp at h
theorem toList_mk (s:List UInt8):(ByteArray.mk s.toArray).toList=s:=by rw [ByteArray.toList_eq]
theorem DJ {o:Option Bool}{p b:Bool}(h:(o.bind fun d=>some (p&&d))=some b):∃d,o=some d∧(p&&d)=b:=by
 cases o with
 |none=>simp at h
 |some d=>exact ⟨d,rfl,by simpa using h⟩
theorem sg {c:RC}:∀{xs ys:List AC}{vs us:List Value}{f1 f2:List Nat}{b:Bool},ay c vs xs f1→ay c us ys f2→oq xs ys=some b→ks vs us=some b
 |[],[],[],[],_,_,_,_,_,h=>h
 |x::xs,y::ys,v::vs,u::us,_,_,b,r1,r2,h=>by
  obtain ⟨g1,g2,rfl,a1,a2⟩:=r1
  obtain ⟨h1,h2,rfl,b1,b2⟩:=r2
  unfold oq at h
  split at h
  ·rename_i e1 e2;cases e1
  ·rename_i k p xs' k' q ys' e1 e2
   cases e1;cases e2
   split at h
   ·rename_i hk
    subst hk
    obtain ⟨d,hd,hb⟩:=DJ h
    rw [a1.1,b1.1]
    simp only [ks,CV,if_true,Option.bind_some,sg a2 b2 hd,hb]
   ·cases h
  ·rename_i p xs' q ys' e1 e2
   cases e1;cases e2
   obtain ⟨d,hd,hb⟩:=DJ h
   rw [a1.1,b1.1]
   simp only [ks,CV,Option.bind_some,sg a2 b2 hd,hb]
  ·rename_i p xs' q ys' e1 e2
   cases e1;cases e2
   obtain ⟨d,hd,hb⟩:=DJ h
   rw [a1.1,b1.1]
   simp only [ks,CV,Option.bind_some,sg a2 b2 hd,hb,toList_mk]
  ·cases h
 |[],[],v::vs,_,_,_,_,r1,_,_=>r1.elim
 |[],[],[],u::us,_,_,_,_,r2,_=>r2.elim
 |x::xs,_,[],_,_,_,_,r1,_,_=>r1.elim
 |_,y::ys,_,[],_,_,_,_,r2,_=>r2.elim
 |[],y::ys,_,_,_,_,_,_,_,h=>by simp [oq] at h
 |x::xs,[],_,_,_,_,_,_,_,h=>by cases x<;>simp [oq] at h
theorem yx {c:RC}:∀{ls:List LK}{xs:List AC}{vs:List Value}{f1:List Nat},ay c vs xs f1→fits ls xs=true→kS ls vs=true
 |[],[],[],_,_,_=>rfl
 |l::ls,x::xs,v::vs,_,r1,h=>by
  obtain ⟨g1,g2,rfl,a1,a2⟩:=r1
  cases l<;>cases x<;>simp [fits] at h
  ·rw [a1.1];simpa [kS] using yx a2 h
  ·rw [a1.1];simpa [kS] using yx a2 h
  ·rw [a1.1];simpa [kS] using yx a2 h
 |[],[],v::vs,_,r1,_=>r1.elim
 |_,x::xs,[],_,r1,_=>r1.elim
 |[],x::xs,_,_,_,h=>by simp [fits] at h
 |l::ls,[],_,_,_,h=>by cases l<;>simp [fits] at h
def J3 (P:Program)(l:List (Nat×List LK)):Prop:=∀t ls,Hf l t=some ls→
 cH P 50 t=some ls∧(∃fs,P.underlying t=some (.struct fs))∧P.eqGuardType P.depth t=false
def eqB (P:Program)(t:TypeId)(ls:List LK):Bool:=
 decide (cH P 50 t=some ls)&&(match P.underlying t with|some (.struct _)=>true|_=>false)&& !(P.eqGuardType P.depth t)
theorem Lu {P:Program}:∀{l:List (Nat×List LK)},(l.all fun x=>eqB P x.1 x.2)=true→J3 P l
 |[],_,t,ls,h=>by simp [Hf] at h
 |(u,s)::r,hl,t,ls,h=>by
  simp only [List.all_cons,Bool.and_eq_true] at hl
  simp only [Hf] at h
  cases hu:u==t with
  |true=>
   rw [hu] at h
   simp at hu h
   subst hu;subst h
   have h1:=hl.1
   simp only [eqB,Bool.and_eq_true,decide_eq_true_eq,Bool.not_eq_true'] at h1
   refine ⟨h1.1.1, ?_,h1.2⟩
   have h2:=h1.1.2
   split at h2
   ·rename_i fs hfs;exact ⟨fs,hfs⟩
   ·cases h2
  |false=>
   rw [hu] at h
   exact Lu hl.2 t ls h
theorem YU {P:Program}{l:List (Nat×List LK)}(hl:J3 P l){t:TypeId}{ls:List LK}(ht:Hf l t=some ls){c:RC}{xs ys:List AC}{vs us:List Value}{f1 f2:List Nat}{b:Bool}
 (r1:ay c vs xs f1) (r2:ay c us ys f2) (hf:fits ls xs=true) (he:oq xs ys=some b) (w:World):
 (Op.equal t (.agg vs.toArray) (.agg us.toArray)).run P w= .ok b w:=by
 obtain ⟨h1,⟨fs,hu⟩,_⟩:=hl t ls ht
 have:=EF h1 Op.maxDepth (by decide) vs us b w (yx r1 hf) (sg r1 r2 he)
 have hm:∀zs,tU P t zs= .agg zs.toArray:=fun zs=>by simp [tU,hu]
 rw [hm,hm] at this
 exact this
end Go.Dn
