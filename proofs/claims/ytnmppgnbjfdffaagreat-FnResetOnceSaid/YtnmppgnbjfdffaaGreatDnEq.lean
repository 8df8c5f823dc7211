import Derived.Test.YtnmppgnbjfdffaaGreatDnMem
/- '==' of structs, cell by cell. -/
namespace Go.Dn
variable {P:Program} {c:RC} {t:TypeId} {ls:aw LK}
def H6:Value->Value->ay Bool
 | .int k a,.int k' b=>if k=k' then some (a==b) else none
 | .bool a,.bool b=>some (a==b)
 | .string a,.string b=>some (a.toList==b.toList)
 |_,_=>none
def oq:ir->ir->ay Bool
 |[],[]=>some true
 |v::vs,u::us=>(H6 v u).bind λa=>(oq vs us).bind λb=>some (a&&b)
 |_,_=>none
def oN:aw LK->ir->Bool
 |[],[]=>true
 | .int::ls,.int _ _::r=>oN ls r
 | .bool::ls,.bool _::r=>oN ls r
 | .str::ls,.string _::r=>oN ls r
 |_,_=>false
def xD (P:Program)(F:TypeId->ay (aw LK)):aw Field->Nat->ay (aw LK)
 |[],_=>some []
 |f::fs,cur=>
  if f.name≠ "_" /\f.offset=cur then
   match F f.type,P.info? f.type with
   |some ls,some i=>if i.size=ls.length/\0<ls.length then(xD P F fs (cur+ls.length)).bind λr=>some (ls++r) else none
   |_,_=>none
  else none
def jd (P:Program):Nat->TypeId->ay (aw LK)
 |0,_=>none
 |d+1,t=>
  match P.underlying t with
  |some (.int _)=>some [.int]
  |some .bool=>some [.bool]
  |some .string=>some [.str]
  |some (.struct fs)=>if P.stoodInHeld t then none else xD P (jd P d) fs.toList 0
  |_=>none
theorem DC {xs ys:ir}:∀{Lc ys':ir}{b:Bool},Lc.length=ys'.length->oq (Lc++xs) (ys'++ys)=some b->
 ∃b1 b2,oq Lc ys'=some b1/\oq xs ys=some b2/\b=(b1&&b2)
 |[],[],b,_,h=>⟨true,b,rfl,h,by simp⟩
 |v::vs,u::us,b,hl,h=>by simp only[List.cons_append,oq,aM]at h;obtain⟨c,h1,d,h2,h3⟩:=h;obtain⟨b1,b2,k1,k2,rfl⟩:=DC (by simpa using hl) h2;simp at h3;subst h3;exact⟨c&&b1,b2,by simp[oq,h1,k1],k2,by simp[Bool.and_assoc]⟩
 |[],_::_,_,hl,_=>by simp at hl
 |_::_,[],_,hl,_=>by simp at hl
theorem vt:∀{xs ys:ir}{b:Bool},oq xs ys=some b->xs.length=ys.length
 |[],[],_,_=>rfl
 |v::vs,u::us,b,h=>by simp only[oq,aM]at h;obtain⟨c,_,d,h2,_⟩:=h;simp[vt h2]
 |[],_::_,_,h=>by simp[oq]at h
 |_::_,[],_,h=>by simp[oq]at h
theorem xj:∀{ls:aw LK}{xs:ir},oN ls xs=true->xs.length=ls.length
 |[],[],_=>rfl
 |l::ls,x::xs,h=>by cases l<;>cases x<;>simp[oN]at h<;>simp[xj h]
 |[],_::_,h=>by simp[oN]at h
 |l::ls,[],h=>by cases l<;>simp[oN]at h
theorem F3:∀{ls ls':aw LK}{xs:ir},oN (ls++ls') xs=true->oN ls (xs.take ls.length)=true/\oN ls' (xs.drop ls.length)=true
 |[],_,_,h=>by simpa[oN]using h
 |l::ls,ls',[],h=>by cases l<;>simp[oN]at h
 |l::ls,ls',x::xs,h=>by cases l<;>cases x<;>simp[oN]at h;all_goals have:=F3 h;simpa[oN]using this
def xQ (P:Program)(t:TypeId)(vs:ir):Value:=
 match P.underlying t with
 |some (.struct _)=> .agg vs.toArray
 |_=>vs.getD 0 undef
theorem MV {d:Nat}(h:jd P d t=some ls){i:TypeInfo}(hi:P.info? t=some i)(hs:i.size=ls.length)(cs:ir)(off:Nat)(hl:off+ls.length<=cs.length)(w:World): (part t cs.toArray off).run P w=.ok (xQ P t ((cs.drop off).take ls.length)) w:=by
 have leaf:ls.length=1->(∀fs,P.underlying t≠some (.struct fs))->(isAgg t).run P w=.ok false w->(part t cs.toArray off).run P w=.ok (xQ P t ((cs.drop off).take ls.length)) w:=by
  intro h1 hu ha;rw[h1]at hl⊢;have hG:off<cs.length:=by omega
  have hg:cs.toArray[off]?=some cs[off]:=by simp[al hG]
  have he:xQ P t ((cs.drop off).take 1)=cs[off]:=by
   have:(cs.drop off).take 1=[cs[off]]:=by rw[bK hG,List.take_succ_cons,List.take_zero]
   rw[this];unfold xQ;split;rename_i fs En;exact absurd En (hu fs);rfl
  simp only[part,Sem.run_bind,ha,Result.andThen_ok,aU,bQ];rw[he,hg];rfl
 cases d with
 |zero=>simp[jd]at h
 |succ d=>
  simp only[jd]at h;cases hu:P.underlying t with
  |none=>rw[hu]at h;simp at h
  |some x=>
   rw[hu]at h;cases x<;>simp at h;exact leaf (by rw[<-h];rfl) (by simp[hu]) (by simp[isAgg,underlying,hu]);exact leaf (by rw[<-h];rfl) (by simp[hu]) (by simp[isAgg,underlying,hu]);exact leaf (by rw[<-h];rfl) (by simp[hu]) (by simp[isAgg,underlying,hu]);rename_i fs;have ha:(isAgg t).run P w=.ok true w:=by simp[isAgg,underlying,hu]
   simp only[part,Sem.run_bind,ha,Result.andThen_ok,bM,sizeOf,typeInfo,run_program,hi,Sem.run_pure,hs,xQ,hu];congr 2;simp[List.extract_eq_take_drop]
theorem Ji:∀{d:Nat}{t:TypeId}{ls:aw LK},jd P d t=some ls->∀(D:Nat),d<=D->∀(xs ys:ir)(b:Bool)(w:World),oN ls xs=true->oq xs ys=some b->
 (Op.equalIn D t (xQ P t xs) (xQ P t ys)).run P w=.ok b w
 |0,t,ls,h,_,_,_,_,_,_,_,_=>by simp[jd]at h
 |d+1,t,ls,h,0,hD,_,_,_,_,_,_=>by omega
 |d+1,t,ls,h,D+1,hD,xs,ys,b,w,hf,he=>by
  have hly:=vt he;have hlx:=xj hf;simp only[jd]at h
  have leaf:∀(x:TypeDesc)(l:LK),P.underlying t=some x->ls=[l]->(∀fs,x≠ .struct fs)->
   (∀u v c,oN [l] [u]=true->H6 u v=some c->(Op.equalIn (D+1) t u v).run P w=.ok c w)->(Op.equalIn (D+1) t (xQ P t xs) (xQ P t ys)).run P w=.ok b w:=by
   intro x l hu hls hns dV
   subst hls
   obtain⟨u,rfl⟩:=List.length_eq_one_iff.1 (by simpa using hlx)
   obtain⟨v,rfl⟩:=List.length_eq_one_iff.1 (by simpa using hly.symm)
   have hm:∀z,xQ P t [z]=z:=by intro z;unfold xQ;rw[hu];split;rename_i fs En;simp at En;exact absurd En (hns fs);rfl
   rw[hm,hm]
   refine dV u v b hf ?_
   simp only[oq,aM]at he
   obtain⟨c,h1,d,h2,h3⟩:=he
   simp at h2 h3;subst h2
   simp at h3;subst h3
   exact h1
  cases hu:P.underlying t with
  |none=>rw[hu]at h;simp at h
  |some x=>
   rw[hu]at h;cases x with
   |int k=>simp at h;refine leaf _ .int hu h.symm (by simp) (λu v c hv hq=>?_);cases u<;>simp[oN]at hv;cases v<;>simp[H6]at hq;obtain⟨rfl,rfl⟩:=hq;exact run_equalIn_int w D t _ k _ _ hu
   |bool=>simp at h;refine leaf _ .bool hu h.symm (by simp) (λu v c hv hq=>?_);cases u<;>simp[oN]at hv;cases v<;>simp[H6]at hq;subst hq;exact run_equalIn_bool' w D t _ _ hu
   |string=>simp at h;refine leaf _ .str hu h.symm (by simp) (λu v c hv hq=>?_);cases u<;>simp[oN]at hv;cases v<;>simp[H6]at hq;subst hq;exact run_equalIn_string w D t _ _ hu
   |struct fs=>
    simp only at h;by_cases lN:P.stoodInHeld t=true;rw[aF lN]at h;cases h;rw[aG lN]at h;have lN:P.stoodInHeld t=false:=by simpa using lN
    have hfo:P.fieldsOf t=fs:=by simp[Program.fieldsOf,hu]
    have hmk:∀zs,xQ P t zs=.agg zs.toArray:=λzs=>by simp[xQ,hu]
    rw[hmk,hmk,run_equalIn_struct w D t _ _ (by rw[hfo];exact hu) lN,hfo]
    have main:∀(fl:aw Field)(cur:Nat)(ls:aw LK),xD P (jd P d) fl cur=some ls->∀(b:Bool),cur<=xs.length->oN ls (xs.drop cur)=true->oq (xs.drop cur) (ys.drop cur)=some b->
     (Op.eqFields D xs.toArray ys.toArray fl).run P w=.ok b w:=by
     intro fl
     induction fl with
     |nil=>
      intro cur ls hl b hcur hv hq
      simp[xD]at hl
      subst hl
      have h1:=xj hv
      have h2:=vt hq
      have e1:xs.drop cur=[]:=bO (by simpa using h1)
      have e2:ys.drop cur=[]:=bO (by rw[<-h2,e1];rfl)
      rw[e1,e2]at hq
      simp[oq]at hq
      subst hq
      simp[Op.eqFields]
     |cons f fl ih=>
      intro cur ls hl b hcur hv hq
      simp only[xD]at hl
      split at hl
      ·rename_i hc
       split at hl
       ·rename_i ls1 i h1 hi
        split at hl
        ·rename_i sB
         simp only[aM]at hl
         obtain⟨ls2,h2,h3⟩:=hl
         simp at h3;subst h3
         have Oj:=F3 hv
         have hvl:=xj hv
         simp only[aN,ai]at hvl
         have hql:=vt hq
         simp only[aN]at hql
         have ex:xs.drop cur=(xs.drop cur).take ls1.length++(xs.drop cur).drop ls1.length:=(bU _ _).symm
         have ey:ys.drop cur=(ys.drop cur).take ls1.length++(ys.drop cur).drop ls1.length:=(bU _ _).symm
         rw[ex,ey]at hq
         obtain⟨b1,b2,q1,q2,rfl⟩:=DC (by simp;omega) hq
         rw[eC]at q2 Oj
         have p1:=MV h1 hi sB.1 xs cur (by omega) w
         have p2:=MV h1 hi sB.1 ys cur (by omega) w
         have r1:=Ji h1 D (by omega) _ _ b1 w Oj.1 q1
         rw[eC]at q2
         have r2:=ih (cur+ls1.length) ls2 h2 b2 (by omega) Oj.2 q2
         simp only[Op.eqFields,hc.1,ne_eq,not_false_eq_true,bM,hc.2,Sem.run_bind,p1,p2,Result.andThen_ok,r1]
         cases b1
         ·simp
         ·simpa using r2
        ·cases hl
       ·cases hl
      ·cases hl
    exact main fs.toList 0 ls h b (bP _) (by simpa using hf) (by simpa using he)
   |_=>simp at h
theorem toList_mk (s:aw UInt8):(ByteArray.mk s.toArray).toList=s:=by rw[ByteArray.toList_eq]
theorem IX {o:ay Bool}{p b:Bool}(h:(o.bind λd=>some (p&&d))=some b):∃d,o=some d/\(p&&d)=b:=by cases o with|none=>simp at h|some d=>exact⟨d,rfl,by simpa using h⟩
theorem wE:∀{xs ys:aw AC}{vs us:ir}{f1 f2:ff}{b:Bool},bA c vs xs f1->bA c us ys f2->sH xs ys=some b->oq vs us=some b
 |[],[],[],[],_,_,_,_,_,h=>h
 |x::xs,y::ys,v::vs,u::us,_,_,b,r1,r2,h=>by obtain⟨g1,g2,rfl,a1,a2⟩:=r1;obtain⟨h1,h2,rfl,b1,b2⟩:=r2;unfold sH at h;split at h;rename_i e1 e2;cases e1;rename_i k p Lc k' q ys' e1 e2;cases e1;cases e2;split at h;rename_i hk;subst hk;obtain⟨d,hd,hb⟩:=IX h;rw[a1.1,b1.1];simp only[oq,H6,bM,ec,wE a2 b2 hd,hb];cases h;rename_i p Lc q ys' e1 e2;cases e1;cases e2;obtain⟨d,hd,hb⟩:=IX h;rw[a1.1,b1.1];simp only[oq,H6,ec,wE a2 b2 hd,hb];rename_i p Lc q ys' e1 e2;cases e1;cases e2;obtain⟨d,hd,hb⟩:=IX h;rw[a1.1,b1.1];simp only[oq,H6,ec,wE a2 b2 hd,hb,toList_mk];cases h
 |[],[],v::vs,_,_,_,_,r1,_,_=>r1.elim
 |[],[],[],u::us,_,_,_,_,r2,_=>r2.elim
 |x::xs,_,[],_,_,_,_,r1,_,_=>r1.elim
 |_,y::ys,_,[],_,_,_,_,r2,_=>r2.elim
 |[],y::ys,_,_,_,_,_,_,_,h=>by simp[sH]at h
 |x::xs,[],_,_,_,_,_,_,_,h=>by cases x<;>simp[sH]at h
theorem CC:∀{ls:aw LK}{xs:aw AC}{vs:ir}{f1:ff},bA c vs xs f1->fits ls xs=true->oN ls vs=true
 |[],[],[],_,_,_=>rfl
 |l::ls,x::xs,v::vs,_,r1,h=>by obtain⟨g1,g2,rfl,a1,a2⟩:=r1;cases l<;>cases x<;>simp[fits]at h;rw[a1.1];simpa[oN]using CC a2 h;rw[a1.1];simpa[oN]using CC a2 h;rw[a1.1];simpa[oN]using CC a2 h
 |[],[],v::vs,_,r1,_=>r1.elim
 |_,x::xs,[],_,r1,_=>r1.elim
 |[],x::xs,_,_,_,h=>by simp[fits]at h
 |l::ls,[],_,_,_,h=>by cases l<;>simp[fits]at h
def Pv (P:Program)(l:aw (Nat×aw LK)):Prop:=∀t ls,MJ l t=some ls->
 jd P 50 t=some ls/\(∃fs,P.underlying t=some (.struct fs))/\P.eqGuardType P.depth t=false
def eqB (P:Program)(t:TypeId)(ls:aw LK):Bool:=
 decide (jd P 50 t=some ls)&&(match P.underlying t with|some (.struct _)=>true|_=>false)&& !(P.eqGuardType P.depth t)
theorem Rd:∀{l:aw (Nat×aw LK)},(l.all λx=>eqB P x.1 x.2)=true->Pv P l
 |[],_,t,ls,h=>by simp[MJ]at h
 |(u,s)::r,hl,t,ls,h=>by simp only[bV,ae]at hl;simp only[MJ]at h;cases hu:u==t with|true=>rw[hu]at h;simp at hu h;subst hu;subst h;have h1:=hl.1;simp only[eqB,ae,aC,aL]at h1;refine⟨h1.1.1,?_,h1.2⟩;have h2:=h1.1.2;split at h2;rename_i fs En;exact⟨fs,En⟩;cases h2|false=>rw[hu]at h;exact Rd hl.2 t ls h
theorem ae8 {l:aw (Nat×aw LK)}(hl:Pv P l)(ht:MJ l t=some ls){xs ys:aw AC}{vs us:ir}{f1 f2:ff}{b:Bool}(r1:bA c vs xs f1)(r2:bA c us ys f2)(hf:fits ls xs=true)(he:sH xs ys=some b)(w:World): (Op.equal t (.agg vs.toArray) (.agg us.toArray)).run P w=.ok b w:=by
 obtain⟨h1,⟨fs,hu⟩,_⟩:=hl t ls ht;have:=Ji h1 Op.maxDepth (by decide) vs us b w (CC r1 hf) (wE r1 r2 he);have hm:∀zs,xQ P t zs=.agg zs.toArray:=λzs=>by simp[xQ,hu]
 rw[hm,hm]at this;exact this
end Go.Dn
