import Derived.Test.YtjoicgadhgkphaaGreatDnMem
/- '==' of structs, cell by cell. -/
namespace Go.Dn
def Ah:Value→Value→Option Bool
 | .int k a,.int k' b=>if k=k' then some (a==b) else none
 | .bool a,.bool b=>some (a==b)
 | .string a,.string b=>some (a.toList==b.toList)
 |_,_=>none
def kP:List Value→List Value→Option Bool
 |[],[]=>some true
 |v::vs,u::us=>(Ah v u).bind λa=>(kP vs us).bind λb=>some (a&&b)
 |_,_=>none
def la:List LK→List Value→Bool
 |[],[]=>true
 | .int::ls,.int _ _::r=>la ls r
 | .bool::ls,.bool _::r=>la ls r
 | .str::ls,.string _::r=>la ls r
 |_,_=>false
def rK (P:Program)(F:TypeId→Option (List LK)):List Field→Nat→Option (List LK)
 |[],_=>some []
 |f::fs,cur=>
  if f.name≠ "_" ∧f.offset=cur then
   match F f.type,P.info? f.type with
   |some ls,some i=>if i.size=ls.length∧0<ls.length then(rK P F fs (cur+ls.length)).bind λr=>some (ls++r) else none
   |_,_=>none
  else none
def dR (P:Program):Nat→TypeId→Option (List LK)
 |0,_=>none
 |d+1,t=>
  match P.underlying t with
  |some (.int _)=>some [.int]
  |some .bool=>some [.bool]
  |some .string=>some [.str]
  |some (.struct fs)=>if P.stoodInHeld t then none else rK P (dR P d) fs.toList 0
  |_=>none
theorem w7 {xs ys:List Value}:∀{xs' ys':List Value}{b:Bool},xs'.length=ys'.length→kP (xs'++xs) (ys'++ys)=some b→
 ∃b1 b2,kP xs' ys'=some b1∧kP xs ys=some b2∧b=(b1&&b2)
 |[],[],b,_,h=>⟨true,b,rfl,h,by simp⟩
 |v::vs,u::us,b,hl,h=>by simp only[List.cons_append,kP,aB]at h;obtain⟨c,h1,d,h2,h3⟩:=h;obtain⟨b1,b2,k1,k2,rfl⟩:=w7 (by simpa using hl) h2;simp at h3;subst h3;exact⟨c&&b1,b2,by simp[kP,h1,k1],k2,by simp[Bool.and_assoc]⟩
 |[],_::_,_,hl,_=>by simp at hl
 |_::_,[],_,hl,_=>by simp at hl
theorem p9:∀{xs ys:List Value}{b:Bool},kP xs ys=some b→xs.length=ys.length
 |[],[],_,_=>rfl
 |v::vs,u::us,b,h=>by simp only[kP,aB]at h;obtain⟨c,_,d,h2,_⟩:=h;simp[p9 h2]
 |[],_::_,_,h=>by simp[kP]at h
 |_::_,[],_,h=>by simp[kP]at h
theorem rr:∀{ls:List LK}{xs:List Value},la ls xs=true→xs.length=ls.length
 |[],[],_=>rfl
 |l::ls,x::xs,h=>by cases l<;>cases x<;>simp[la]at h<;>simp[rr h]
 |[],_::_,h=>by simp[la]at h
 |l::ls,[],h=>by cases l<;>simp[la]at h
theorem yM:∀{ls ls':List LK}{xs:List Value},la (ls++ls') xs=true→la ls (xs.take ls.length)=true∧la ls' (xs.drop ls.length)=true
 |[],_,_,h=>by simpa[la]using h
 |l::ls,ls',[],h=>by cases l<;>simp[la]at h
 |l::ls,ls',x::xs,h=>by cases l<;>cases x<;>simp[la]at h;all_goals have:=yM h;simpa[la]using this
def sm (P:Program)(t:TypeId)(vs:List Value):Value:=
 match P.underlying t with
 |some (.struct _)=> .agg vs.toArray
 |_=>vs.getD 0 undef
theorem Er {P:Program}{d:Nat}{t:TypeId}{ls:List LK}(h:dR P d t=some ls){i:TypeInfo}(hi:P.info? t=some i)(hs:i.size=ls.length)(cs:List Value)(off:Nat)(hl:off+ls.length≤cs.length)(w:World): (part t cs.toArray off).run P w=.ok (sm P t ((cs.drop off).take ls.length)) w:=by
 have leaf:ls.length=1→(∀fs,P.underlying t≠some (.struct fs))→(isAgg t).run P w=.ok false w→(part t cs.toArray off).run P w=.ok (sm P t ((cs.drop off).take ls.length)) w:=by
  intro h1 hu ha;rw[h1]at hl⊢;have hlt:off<cs.length:=by omega
  have hg:cs.toArray[off]?=some cs[off]:=by simp[List.getElem?_eq_getElem hlt]
  have he:sm P t ((cs.drop off).take 1)=cs[off]:=by
   have:(cs.drop off).take 1=[cs[off]]:=by rw[bh hlt,List.take_succ_cons,List.take_zero]
   rw[this];unfold sm;split;rename_i fs hfs;exact absurd hfs (hu fs);rfl
  simp only[part,Sem.run_bind,ha,Result.andThen_ok,aK,bj];rw[he,hg];rfl
 cases d with
 |zero=>simp[dR]at h
 |succ d=>
  simp only[dR]at h;cases hu:P.underlying t with
  |none=>rw[hu]at h;simp at h
  |some x=>
   rw[hu]at h;cases x<;>simp at h;exact leaf (by rw[←h];rfl) (by simp[hu]) (by simp[isAgg,underlying,hu]);exact leaf (by rw[←h];rfl) (by simp[hu]) (by simp[isAgg,underlying,hu]);exact leaf (by rw[←h];rfl) (by simp[hu]) (by simp[isAgg,underlying,hu]);rename_i fs;have ha:(isAgg t).run P w=.ok true w:=by simp[isAgg,underlying,hu]
   simp only[part,Sem.run_bind,ha,Result.andThen_ok,bd,sizeOf,typeInfo,run_program,hi,Sem.run_pure,hs,sm,hu];congr 2;simp[List.extract_eq_take_drop]
theorem BZ {P:Program}:∀{d:Nat}{t:TypeId}{ls:List LK},dR P d t=some ls→∀(D:Nat),d≤D→∀(xs ys:List Value)(b:Bool)(w:World),la ls xs=true→kP xs ys=some b→
 (Op.equalIn D t (sm P t xs) (sm P t ys)).run P w=.ok b w
 |0,t,ls,h,_,_,_,_,_,_,_,_=>by simp[dR]at h
 |d+1,t,ls,h,0,hD,_,_,_,_,_,_=>by omega
 |d+1,t,ls,h,D+1,hD,xs,ys,b,w,hf,he=>by
  have hly:=p9 he;have hlx:=rr hf;simp only[dR]at h
  have leaf:∀(x:TypeDesc)(l:LK),P.underlying t=some x→ls=[l]→(∀fs,x≠ .struct fs)→
   (∀u v c,la [l] [u]=true→Ah u v=some c→(Op.equalIn (D+1) t u v).run P w=.ok c w)→(Op.equalIn (D+1) t (sm P t xs) (sm P t ys)).run P w=.ok b w:=by
   intro x l hu hls hns hrun
   subst hls
   obtain⟨u,rfl⟩:=List.length_eq_one_iff.1 (by simpa using hlx)
   obtain⟨v,rfl⟩:=List.length_eq_one_iff.1 (by simpa using hly.symm)
   have hm:∀z,sm P t [z]=z:=by intro z;unfold sm;rw[hu];split;rename_i fs hfs;simp at hfs;exact absurd hfs (hns fs);rfl
   rw[hm,hm]
   refine hrun u v b hf ?_
   simp only[kP,aB]at he
   obtain⟨c,h1,d,h2,h3⟩:=he
   simp at h2 h3;subst h2
   simp at h3;subst h3
   exact h1
  cases hu:P.underlying t with
  |none=>rw[hu]at h;simp at h
  |some x=>
   rw[hu]at h;cases x with
   |int k=>simp at h;refine leaf _ .int hu h.symm (by simp) (λu v c hv hq=>?_);cases u<;>simp[la]at hv;cases v<;>simp[Ah]at hq;obtain⟨rfl,rfl⟩:=hq;exact run_equalIn_int w D t _ k _ _ hu
   |bool=>simp at h;refine leaf _ .bool hu h.symm (by simp) (λu v c hv hq=>?_);cases u<;>simp[la]at hv;cases v<;>simp[Ah]at hq;subst hq;exact run_equalIn_bool' w D t _ _ hu
   |string=>simp at h;refine leaf _ .str hu h.symm (by simp) (λu v c hv hq=>?_);cases u<;>simp[la]at hv;cases v<;>simp[Ah]at hq;subst hq;exact run_equalIn_string w D t _ _ hu
   |struct fs=>
    simp only at h;by_cases hst:P.stoodInHeld t=true;rw[az hst]at h;cases h;rw[ar hst]at h;have hst:P.stoodInHeld t=false:=by simpa using hst
    have hfo:P.fieldsOf t=fs:=by simp[Program.fieldsOf,hu]
    have hmk:∀zs,sm P t zs=.agg zs.toArray:=λzs=>by simp[sm,hu]
    rw[hmk,hmk,run_equalIn_struct w D t _ _ (by rw[hfo];exact hu) hst,hfo]
    have main:∀(fl:List Field)(cur:Nat)(ls:List LK),rK P (dR P d) fl cur=some ls→∀(b:Bool),cur≤xs.length→la ls (xs.drop cur)=true→kP (xs.drop cur) (ys.drop cur)=some b→
     (Op.eqFields D xs.toArray ys.toArray fl).run P w=.ok b w:=by
     intro fl
     induction fl with
     |nil=>
      intro cur ls hl b hcur hv hq
      simp[rK]at hl
      subst hl
      have h1:=rr hv
      have h2:=p9 hq
      have e1:xs.drop cur=[]:=bX (by simpa using h1)
      have e2:ys.drop cur=[]:=bX (by rw[←h2,e1];rfl)
      rw[e1,e2]at hq
      simp[kP]at hq
      subst hq
      simp[Op.eqFields]
     |cons f fl ih=>
      intro cur ls hl b hcur hv hq
      simp only[rK]at hl
      split at hl
      ·rename_i hc
       split at hl
       ·rename_i ls1 i h1 hi
        split at hl
        ·rename_i hsz
         simp only[aB]at hl
         obtain⟨ls2,h2,h3⟩:=hl
         simp at h3;subst h3
         have hv2:=yM hv
         have hvl:=rr hv
         simp only[bJ,ak]at hvl
         have hql:=p9 hq
         simp only[bJ]at hql
         have ex:xs.drop cur=(xs.drop cur).take ls1.length++(xs.drop cur).drop ls1.length:=(bA _ _).symm
         have ey:ys.drop cur=(ys.drop cur).take ls1.length++(ys.drop cur).drop ls1.length:=(bA _ _).symm
         rw[ex,ey]at hq
         obtain⟨b1,b2,q1,q2,rfl⟩:=w7 (by simp;omega) hq
         rw[List.drop_drop]at q2 hv2
         have p1:=Er h1 hi hsz.1 xs cur (by omega) w
         have p2:=Er h1 hi hsz.1 ys cur (by omega) w
         have r1:=BZ h1 D (by omega) _ _ b1 w hv2.1 q1
         rw[List.drop_drop]at q2
         have r2:=ih (cur+ls1.length) ls2 h2 b2 (by omega) hv2.2 q2
         simp only[Op.eqFields,hc.1,ne_eq,not_false_eq_true,bd,hc.2,Sem.run_bind,p1,p2,Result.andThen_ok,r1]
         cases b1
         ·simp
         ·simpa using r2
        ·cases hl
       ·cases hl
      ·cases hl
    exact main fs.toList 0 ls h b (dr _) (by simpa using hf) (by simpa using he)
   |_=>simp at h
theorem toList_mk (s:List UInt8):(ByteArray.mk s.toArray).toList=s:=by rw[ByteArray.toList_eq]
theorem Bb {o:Option Bool}{p b:Bool}(h:(o.bind λd=>some (p&&d))=some b):∃d,o=some d∧(p&&d)=b:=by cases o with|none=>simp at h|some d=>exact⟨d,rfl,by simpa using h⟩
theorem qN {c:RC}:∀{xs ys:List AC}{vs us:List Value}{f1 f2:List Nat}{b:Bool},a5 c vs xs f1→a5 c us ys f2→nU xs ys=some b→kP vs us=some b
 |[],[],[],[],_,_,_,_,_,h=>h
 |x::xs,y::ys,v::vs,u::us,_,_,b,r1,r2,h=>by obtain⟨g1,g2,rfl,a1,a2⟩:=r1;obtain⟨h1,h2,rfl,b1,b2⟩:=r2;unfold nU at h;split at h;rename_i e1 e2;cases e1;rename_i k p xs' k' q ys' e1 e2;cases e1;cases e2;split at h;rename_i hk;subst hk;obtain⟨d,hd,hb⟩:=Bb h;rw[a1.1,b1.1];simp only[kP,Ah,bd,cR,qN a2 b2 hd,hb];cases h;rename_i p xs' q ys' e1 e2;cases e1;cases e2;obtain⟨d,hd,hb⟩:=Bb h;rw[a1.1,b1.1];simp only[kP,Ah,cR,qN a2 b2 hd,hb];rename_i p xs' q ys' e1 e2;cases e1;cases e2;obtain⟨d,hd,hb⟩:=Bb h;rw[a1.1,b1.1];simp only[kP,Ah,cR,qN a2 b2 hd,hb,toList_mk];cases h
 |[],[],v::vs,_,_,_,_,r1,_,_=>r1.elim
 |[],[],[],u::us,_,_,_,_,r2,_=>r2.elim
 |x::xs,_,[],_,_,_,_,r1,_,_=>r1.elim
 |_,y::ys,_,[],_,_,_,_,r2,_=>r2.elim
 |[],y::ys,_,_,_,_,_,_,_,h=>by simp[nU]at h
 |x::xs,[],_,_,_,_,_,_,_,h=>by cases x<;>simp[nU]at h
theorem wa {c:RC}:∀{ls:List LK}{xs:List AC}{vs:List Value}{f1:List Nat},a5 c vs xs f1→fits ls xs=true→la ls vs=true
 |[],[],[],_,_,_=>rfl
 |l::ls,x::xs,v::vs,_,r1,h=>by obtain⟨g1,g2,rfl,a1,a2⟩:=r1;cases l<;>cases x<;>simp[fits]at h;rw[a1.1];simpa[la]using wa a2 h;rw[a1.1];simpa[la]using wa a2 h;rw[a1.1];simpa[la]using wa a2 h
 |[],[],v::vs,_,r1,_=>r1.elim
 |_,x::xs,[],_,r1,_=>r1.elim
 |[],x::xs,_,_,_,h=>by simp[fits]at h
 |l::ls,[],_,_,_,h=>by cases l<;>simp[fits]at h
def GW (P:Program)(l:List (Nat×List LK)):Prop:=∀t ls,Eh l t=some ls→
 dR P 50 t=some ls∧(∃fs,P.underlying t=some (.struct fs))∧P.eqGuardType P.depth t=false
def eqB (P:Program)(t:TypeId)(ls:List LK):Bool:=
 decide (dR P 50 t=some ls)&&(match P.underlying t with|some (.struct _)=>true|_=>false)&& !(P.eqGuardType P.depth t)
theorem Ir {P:Program}:∀{l:List (Nat×List LK)},(l.all λx=>eqB P x.1 x.2)=true→GW P l
 |[],_,t,ls,h=>by simp[Eh]at h
 |(u,s)::r,hl,t,ls,h=>by simp only[bg,ai]at hl;simp only[Eh]at h;cases hu:u==t with|true=>rw[hu]at h;simp at hu h;subst hu;subst h;have h1:=hl.1;simp only[eqB,ai,aX,aI]at h1;refine⟨h1.1.1,?_,h1.2⟩;have h2:=h1.1.2;split at h2;rename_i fs hfs;exact⟨fs,hfs⟩;cases h2|false=>rw[hu]at h;exact Ir hl.2 t ls h
theorem Ue {P:Program}{l:List (Nat×List LK)}(hl:GW P l){t:TypeId}{ls:List LK}(ht:Eh l t=some ls){c:RC}{xs ys:List AC}{vs us:List Value}{f1 f2:List Nat}{b:Bool}(r1:a5 c vs xs f1)(r2:a5 c us ys f2)(hf:fits ls xs=true)(he:nU xs ys=some b)(w:World): (Op.equal t (.agg vs.toArray) (.agg us.toArray)).run P w=.ok b w:=by
 obtain⟨h1,⟨fs,hu⟩,_⟩:=hl t ls ht;have:=BZ h1 Op.maxDepth (by decide) vs us b w (wa r1 hf) (qN r1 r2 he);have hm:∀zs,sm P t zs=.agg zs.toArray:=λzs=>by simp[sm,hu]
 rw[hm,hm]at this;exact this
end Go.Dn
