import Derived.Test.YthllnaiaikjelaaGreatDnMem
/- '==' of structs, cell by cell. -/
namespace Go.Dn
variable {P:Program} {c:RC} {t:TypeId} {ls:ar LK}
def Tx:Value->Value->au Bool
 | .int k a,.int k' b=>if k=k' then some (a==b) else none
 | .bool a,.bool b=>some (a==b)
 | .string a,.string b=>some (a.toList==b.toList)
 |_,_=>none
def tr:iW->iW->au Bool
 |[],[]=>some true
 |v::vs,u::us=>(Tx v u).bind λa=>(tr vs us).bind λb=>some (a&&b)
 |_,_=>none
def ur:ar LK->iW->Bool
 |[],[]=>true
 | .int::ls,.int _ _::r=>ur ls r
 | .bool::ls,.bool _::r=>ur ls r
 | .str::ls,.string _::r=>ur ls r
 |_,_=>false
def GD (P:Program)(F:TypeId->au (ar LK)):ar Field->Nat->au (ar LK)
 |[],_=>some []
 |f::fs,cur=>
  if f.name≠ "_" /\f.offset=cur then
   match F f.type,P.info? f.type with
   |some ls,some i=>if i.size=ls.length/\0<ls.length then(GD P F fs (cur+ls.length)).bind λr=>some (ls++r) else none
   |_,_=>none
  else none
def hY (P:Program):Nat->TypeId->au (ar LK)
 |0,_=>none
 |d+1,t=>
  match P.underlying t with
  |some (.int _)=>some [.int]
  |some .bool=>some [.bool]
  |some .string=>some [.str]
  |some (.struct fs)=>if P.stoodInHeld t then none else GD P (hY P d) fs.toList 0
  |_=>none
theorem OG {xs ys:iW}:∀{W2 ys':iW}{b:Bool},W2.length=ys'.length->tr (W2++xs) (ys'++ys)=some b->
 ∃b1 b2,tr W2 ys'=some b1/\tr xs ys=some b2/\b=(b1&&b2)
 |[],[],b,_,h=>⟨true,b,rfl,h,by simp⟩
 |v::vs,u::us,b,hl,h=>by simp only[List.cons_append,tr,aY]at h;obtain⟨c,h1,d,h2,h3⟩:=h;obtain⟨b1,b2,k1,k2,rfl⟩:=OG (by simpa using hl) h2;simp at h3;subst h3;exact⟨c&&b1,b2,by simp[tr,h1,k1],k2,by simp[Bool.and_assoc]⟩
 |[],_::_,_,hl,_=>by simp at hl
 |_::_,[],_,hl,_=>by simp at hl
theorem D7:∀{xs ys:iW}{b:Bool},tr xs ys=some b->xs.length=ys.length
 |[],[],_,_=>rfl
 |v::vs,u::us,b,h=>by simp only[tr,aY]at h;obtain⟨c,_,d,h2,_⟩:=h;simp[D7 h2]
 |[],_::_,_,h=>by simp[tr]at h
 |_::_,[],_,h=>by simp[tr]at h
theorem Ga:∀{ls:ar LK}{xs:iW},ur ls xs=true->xs.length=ls.length
 |[],[],_=>rfl
 |l::ls,x::xs,h=>by cases l<;>cases x<;>simp[ur]at h<;>simp[Ga h]
 |[],_::_,h=>by simp[ur]at h
 |l::ls,[],h=>by cases l<;>simp[ur]at h
theorem Rj:∀{ls ls':ar LK}{xs:iW},ur (ls++ls') xs=true->ur ls (xs.take ls.length)=true/\ur ls' (xs.drop ls.length)=true
 |[],_,_,h=>by simpa[ur]using h
 |l::ls,ls',[],h=>by cases l<;>simp[ur]at h
 |l::ls,ls',x::xs,h=>by cases l<;>cases x<;>simp[ur]at h;all_goals have:=Rj h;simpa[ur]using this
def Ho (P:Program)(t:TypeId)(vs:iW):Value:=
 match P.underlying t with
 |some (.struct _)=> .agg vs.toArray
 |_=>vs.getD 0 undef
theorem YT {d:Nat}(h:hY P d t=some ls){i:TypeInfo}(hi:P.info? t=some i)(hs:i.size=ls.length)(cs:iW)(off:Nat)(hl:off+ls.length<=cs.length)(w:World): (part t cs.toArray off).run P w=.ok (Ho P t ((cs.drop off).take ls.length)) w:=by
 have leaf:ls.length=1->(∀fs,P.underlying t≠some (.struct fs))->(isAgg t).run P w=.ok false w->(part t cs.toArray off).run P w=.ok (Ho P t ((cs.drop off).take ls.length)) w:=by
  intro h1 hu ha;rw[h1]at hl⊢;have iJ:off<cs.length:=by omega
  have hg:cs.toArray[off]?=some cs[off]:=by simp[al iJ]
  have he:Ho P t ((cs.drop off).take 1)=cs[off]:=by
   have:(cs.drop off).take 1=[cs[off]]:=by rw[cg iJ,List.take_succ_cons,List.take_zero]
   rw[this];unfold Ho;split;rename_i fs NU;exact absurd NU (hu fs);rfl
  simp only[part,Sem.run_bind,ha,Result.andThen_ok,bg,cE];rw[he,hg];rfl
 cases d with
 |zero=>simp[hY]at h
 |succ d=>
  simp only[hY]at h;cases hu:P.underlying t with
  |none=>rw[hu]at h;simp at h
  |some x=>
   rw[hu]at h;cases x<;>simp at h;exact leaf (by rw[<-h];rfl) (by simp[hu]) (by simp[isAgg,underlying,hu]);exact leaf (by rw[<-h];rfl) (by simp[hu]) (by simp[isAgg,underlying,hu]);exact leaf (by rw[<-h];rfl) (by simp[hu]) (by simp[isAgg,underlying,hu]);rename_i fs;have ha:(isAgg t).run P w=.ok true w:=by simp[isAgg,underlying,hu]
   simp only[part,Sem.run_bind,ha,Result.andThen_ok,cd,sizeOf,typeInfo,run_program,hi,Sem.run_pure,hs,Ho,hu];congr 2;simp[List.extract_eq_take_drop]
theorem U0:∀{d:Nat}{t:TypeId}{ls:ar LK},hY P d t=some ls->∀(D:Nat),d<=D->∀(xs ys:iW)(b:Bool)(w:World),ur ls xs=true->tr xs ys=some b->
 (Op.equalIn D t (Ho P t xs) (Ho P t ys)).run P w=.ok b w
 |0,t,ls,h,_,_,_,_,_,_,_,_=>by simp[hY]at h
 |d+1,t,ls,h,0,hD,_,_,_,_,_,_=>by omega
 |d+1,t,ls,h,D+1,hD,xs,ys,b,w,hf,he=>by
  have hly:=D7 he;have hlx:=Ga hf;simp only[hY]at h
  have leaf:∀(x:TypeDesc)(l:LK),P.underlying t=some x->ls=[l]->(∀fs,x≠ .struct fs)->
   (∀u v c,ur [l] [u]=true->Tx u v=some c->(Op.equalIn (D+1) t u v).run P w=.ok c w)->(Op.equalIn (D+1) t (Ho P t xs) (Ho P t ys)).run P w=.ok b w:=by
   intro x l hu hls hns ez
   subst hls
   obtain⟨u,rfl⟩:=List.length_eq_one_iff.1 (by simpa using hlx)
   obtain⟨v,rfl⟩:=List.length_eq_one_iff.1 (by simpa using hly.symm)
   have hm:∀z,Ho P t [z]=z:=by intro z;unfold Ho;rw[hu];split;rename_i fs NU;simp at NU;exact absurd NU (hns fs);rfl
   rw[hm,hm]
   refine ez u v b hf ?_
   simp only[tr,aY]at he
   obtain⟨c,h1,d,h2,h3⟩:=he
   simp at h2 h3;subst h2
   simp at h3;subst h3
   exact h1
  cases hu:P.underlying t with
  |none=>rw[hu]at h;simp at h
  |some x=>
   rw[hu]at h;cases x with
   |int k=>simp at h;refine leaf _ .int hu h.symm (by simp) (λu v c hv hq=>?_);cases u<;>simp[ur]at hv;cases v<;>simp[Tx]at hq;obtain⟨rfl,rfl⟩:=hq;exact run_equalIn_int w D t _ k _ _ hu
   |bool=>simp at h;refine leaf _ .bool hu h.symm (by simp) (λu v c hv hq=>?_);cases u<;>simp[ur]at hv;cases v<;>simp[Tx]at hq;subst hq;exact run_equalIn_bool' w D t _ _ hu
   |string=>simp at h;refine leaf _ .str hu h.symm (by simp) (λu v c hv hq=>?_);cases u<;>simp[ur]at hv;cases v<;>simp[Tx]at hq;subst hq;exact run_equalIn_string w D t _ _ hu
   |struct fs=>
    simp only at h;by_cases nm:P.stoodInHeld t=true;rw[aM nm]at h;cases h;rw[aK nm]at h;have nm:P.stoodInHeld t=false:=by simpa using nm
    have hfo:P.fieldsOf t=fs:=by simp[Program.fieldsOf,hu]
    have hmk:∀zs,Ho P t zs=.agg zs.toArray:=λzs=>by simp[Ho,hu]
    rw[hmk,hmk,run_equalIn_struct w D t _ _ (by rw[hfo];exact hu) nm,hfo]
    have main:∀(fl:ar Field)(cur:Nat)(ls:ar LK),GD P (hY P d) fl cur=some ls->∀(b:Bool),cur<=xs.length->ur ls (xs.drop cur)=true->tr (xs.drop cur) (ys.drop cur)=some b->
     (Op.eqFields D xs.toArray ys.toArray fl).run P w=.ok b w:=by
     intro fl
     induction fl with
     |nil=>
      intro cur ls hl b hcur hv hq
      simp[GD]at hl
      subst hl
      have h1:=Ga hv
      have h2:=D7 hq
      have e1:xs.drop cur=[]:=cQ (by simpa using h1)
      have e2:ys.drop cur=[]:=cQ (by rw[<-h2,e1];rfl)
      rw[e1,e2]at hq
      simp[tr]at hq
      subst hq
      simp[Op.eqFields]
     |cons f fl ih=>
      intro cur ls hl b hcur hv hq
      simp only[GD]at hl
      split at hl
      ·rename_i hc
       split at hl
       ·rename_i ls1 i h1 hi
        split at hl
        ·rename_i xx
         simp only[aY]at hl
         obtain⟨ls2,h2,h3⟩:=hl
         simp at h3;subst h3
         have SX:=Rj hv
         have hvl:=Ga hv
         simp only[bl,ay]at hvl
         have hql:=D7 hq
         simp only[bl]at hql
         have ex:xs.drop cur=(xs.drop cur).take ls1.length++(xs.drop cur).drop ls1.length:=(cK _ _).symm
         have ey:ys.drop cur=(ys.drop cur).take ls1.length++(ys.drop cur).drop ls1.length:=(cK _ _).symm
         rw[ex,ey]at hq
         obtain⟨b1,b2,q1,q2,rfl⟩:=OG (by simp;omega) hq
         rw[eO]at q2 SX
         have p1:=YT h1 hi xx.1 xs cur (by omega) w
         have p2:=YT h1 hi xx.1 ys cur (by omega) w
         have r1:=U0 h1 D (by omega) _ _ b1 w SX.1 q1
         rw[eO]at q2
         have r2:=ih (cur+ls1.length) ls2 h2 b2 (by omega) SX.2 q2
         simp only[Op.eqFields,hc.1,ne_eq,not_false_eq_true,cd,hc.2,Sem.run_bind,p1,p2,Result.andThen_ok,r1]
         cases b1
         ·simp
         ·simpa using r2
        ·cases hl
       ·cases hl
      ·cases hl
    exact main fs.toList 0 ls h b (eh _) (by simpa using hf) (by simpa using he)
   |_=>simp at h
theorem toList_mk (s:ar UInt8):(ByteArray.mk s.toArray).toList=s:=by rw[ByteArray.toList_eq]
theorem UF {o:au Bool}{p b:Bool}(h:(o.bind λd=>some (p&&d))=some b):∃d,o=some d/\(p&&d)=b:=by cases o with|none=>simp at h|some d=>exact⟨d,rfl,by simpa using h⟩
theorem Fm:∀{xs ys:ar AC}{vs us:iW}{f1 f2:ei}{b:Bool},bE c vs xs f1->bE c us ys f2->Am xs ys=some b->tr vs us=some b
 |[],[],[],[],_,_,_,_,_,h=>h
 |x::xs,y::ys,v::vs,u::us,_,_,b,r1,r2,h=>by obtain⟨g1,g2,rfl,a1,a2⟩:=r1;obtain⟨h1,h2,rfl,b1,b2⟩:=r2;unfold Am at h;split at h;rename_i e1 e2;cases e1;rename_i k p W2 k' q ys' e1 e2;cases e1;cases e2;split at h;rename_i hk;subst hk;obtain⟨d,hd,hb⟩:=UF h;rw[a1.1,b1.1];simp only[tr,Tx,cd,eV,Fm a2 b2 hd,hb];cases h;rename_i p W2 q ys' e1 e2;cases e1;cases e2;obtain⟨d,hd,hb⟩:=UF h;rw[a1.1,b1.1];simp only[tr,Tx,eV,Fm a2 b2 hd,hb];rename_i p W2 q ys' e1 e2;cases e1;cases e2;obtain⟨d,hd,hb⟩:=UF h;rw[a1.1,b1.1];simp only[tr,Tx,eV,Fm a2 b2 hd,hb,toList_mk];cases h
 |[],[],v::vs,_,_,_,_,r1,_,_=>r1.elim
 |[],[],[],u::us,_,_,_,_,r2,_=>r2.elim
 |x::xs,_,[],_,_,_,_,r1,_,_=>r1.elim
 |_,y::ys,_,[],_,_,_,_,r2,_=>r2.elim
 |[],y::ys,_,_,_,_,_,_,_,h=>by simp[Am]at h
 |x::xs,[],_,_,_,_,_,_,_,h=>by cases x<;>simp[Am]at h
theorem Ng:∀{ls:ar LK}{xs:ar AC}{vs:iW}{f1:ei},bE c vs xs f1->fits ls xs=true->ur ls vs=true
 |[],[],[],_,_,_=>rfl
 |l::ls,x::xs,v::vs,_,r1,h=>by obtain⟨g1,g2,rfl,a1,a2⟩:=r1;cases l<;>cases x<;>simp[fits]at h;rw[a1.1];simpa[ur]using Ng a2 h;rw[a1.1];simpa[ur]using Ng a2 h;rw[a1.1];simpa[ur]using Ng a2 h
 |[],[],v::vs,_,r1,_=>r1.elim
 |_,x::xs,[],_,r1,_=>r1.elim
 |[],x::xs,_,_,_,h=>by simp[fits]at h
 |l::ls,[],_,_,_,h=>by cases l<;>simp[fits]at h
def abq (P:Program)(l:ar (Nat×ar LK)):Prop:=∀t ls,YK l t=some ls->
 hY P 50 t=some ls/\(∃fs,P.underlying t=some (.struct fs))/\P.eqGuardType P.depth t=false
def eqB (P:Program)(t:TypeId)(ls:ar LK):Bool:=
 decide (hY P 50 t=some ls)&&(match P.underlying t with|some (.struct _)=>true|_=>false)&& !(P.eqGuardType P.depth t)
theorem ac4:∀{l:ar (Nat×ar LK)},(l.all λx=>eqB P x.1 x.2)=true->abq P l
 |[],_,t,ls,h=>by simp[YK]at h
 |(u,s)::r,hl,t,ls,h=>by simp only[bV,ah]at hl;simp only[YK]at h;cases hu:u==t with|true=>rw[hu]at h;simp at hu h;subst hu;subst h;have h1:=hl.1;simp only[eqB,ah,bK,aW]at h1;refine⟨h1.1.1,?_,h1.2⟩;have h2:=h1.1.2;split at h2;rename_i fs NU;exact⟨fs,NU⟩;cases h2|false=>rw[hu]at h;exact ac4 hl.2 t ls h
theorem aqh {l:ar (Nat×ar LK)}(hl:abq P l)(ht:YK l t=some ls){xs ys:ar AC}{vs us:iW}{f1 f2:ei}{b:Bool}(r1:bE c vs xs f1)(r2:bE c us ys f2)(hf:fits ls xs=true)(he:Am xs ys=some b)(w:World): (Op.equal t (.agg vs.toArray) (.agg us.toArray)).run P w=.ok b w:=by
 obtain⟨h1,⟨fs,hu⟩,_⟩:=hl t ls ht;have:=U0 h1 Op.maxDepth (by decide) vs us b w (Ng r1 hf) (Fm r1 r2 he);have hm:∀zs,Ho P t zs=.agg zs.toArray:=λzs=>by simp[Ho,hu]
 rw[hm,hm]at this;exact this
end Go.Dn
