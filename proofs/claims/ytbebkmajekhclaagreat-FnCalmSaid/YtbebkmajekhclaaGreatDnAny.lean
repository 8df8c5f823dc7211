import Derived.Test.YtbebkmajekhclaaGreatDnDraw
/- A region whose order is drawn: whatever the order, the outcome is that of the text's order. -/
namespace Go.Dn
open Go.RowKit
variable {P:Program} {C:Ctx} {E:Env} {Γ:Cn} {an:An}
variable {kb:Array Bool} {i:Nat} {A:aw fM}
def ai9 (ops:Array Oper)(L:Nat->Prop):Prop:=∀i o,ops[i]?=some o->L i->∀k∈DL o,L k
theorem mem_ready {ops:Array Oper}(h:i∈Region.ready .any ops kb): ∃o,ops[i]?=some o/\i<ops.size/\kb.getD i true=false/\∀k∈DL o,kb.getD k false=true:=by
 unfold Region.ready at h;rw[List.mem_filter]at h;obtain⟨hi,h⟩:=h;have hG:i<ops.size:=by simpa using hi
 simp only[ae,aO]at h;have ho:ops[i]?=some ops[i]:=Array.getElem?_eq_getElem hG;rw[ho]at h;simp only[dP,gO,Array.all_eq_true]at h;refine⟨ops[i],ho,hG,h.1,λk hk=>?_⟩;simp only[DL,dB,List.mem_filter]at hk;obtain⟨e,⟨he,hb⟩,rfl⟩:=hk;obtain⟨j,hj,hje⟩:=Array.mem_iff_getElem.1 (Array.mem_toList_iff.1 he);have:=h.2 j hj;rw[hje]at this;simpa[hb]using this
theorem alU {ops:Array Oper}{o:Oper}(ho:ops[i]?=some o)(hl:kb.getD i true=false)(hp:∀k∈DL o,kb.getD k false=true):i∈Region.ready .any ops kb:=by have hG:i<ops.size:=(Array.getElem?_eq_some_iff.1 ho).1;unfold Region.ready;rw[List.mem_filter];refine⟨by simpa using hG,?_⟩;rw[ho,hl];simp only[bE,bt,dP,gO,Array.all_eq_true];intro j hj;cases hb:Region.binds .any o.after[j]with|false=>rfl|true=>simp only[aj,cJ];refine hp _ ?_;simp only[DL,dB,List.mem_filter];exact⟨o.after[j],⟨by simp,hb⟩,rfl⟩
theorem apO (Db:∀f,(Γ f).io=false/\((Γ f).bx=true->(Γ f).cur=true)/\(Γ f).pr=false)(hS:Sound P E Γ){ops:Array Oper}{X:Nat->fM}{Q:Exit->Act->World->Prop}{r:AS}(hG:∀i o,ops[i]?=some o->∀k∈DL o,k<i)(asA:∀i j oi oj,j<i->ops[i]?=some oi->ops[j]?=some oj->(∀L:Nat->Prop,ai9 ops L->(∀k∈DL oi,L k)->L j)\/PC an ops.toList (X j) (X i) oj oi=true)(hq:∀a w,qe C r a w->Q .normal a w): ∀(rem:fM)(kb:Array Bool)(st:AS)(a:Act)(w:World),rem.Pairwise (·<·)->(∀i,i∈rem↔i<ops.size/\kb.getD i true=false)->kb.size=ops.size-> (∀i o,ops[i]?=some o->kb.getD i false=true->∀k∈DL o,kb.getD k false=true)->qe C st a w->Tt E Γ an ops.toList X rem st=some r-> wpAny P .any ops Q rem.length kb a w:=by
 intro rem;generalize hn:rem.length=n;induction n generalizing rem with
 |zero=>intro kb st a w _ D8 _ _ hs hr;have:rem=[]:=cr hn;subst this;cases hr;refine⟨?_,hq a w hs⟩;cases QQ:Region.ready .any ops kb with|nil=>rfl|cons i l=>obtain⟨o,ho,hi,hl,_⟩:=mem_ready (i:=i) (by rw[QQ];simp);have:=(D8 i).2 ⟨hi,hl⟩;cases this
 |succ n ih=>
  intro kb st a w hpw D8 wI hcl hs hr;have ao6:∀k,k<ops.size->kb.getD k false= !(decide (k∈rem)):=by
   intro k hk;have h1:=D8 k;have GQ:k<kb.size:=by omega
   simp only[Array.getD,GQ,dite_true]at h1⊢;by_cases hm:k∈rem;have:=(h1.1 hm).2;simpa[hm]using this;have:¬(kb[k]=false):=λhf=>hm (h1.2 ⟨hk,hf⟩);simpa[hm]using this
  refine⟨λaqh=>?_,λi hi=>?_⟩;exfalso;cases rem with
  |nil=>simp at hn
  |cons i l=>
   have hi:=(D8 i).1 (by simp);have ho:ops[i]?=some ops[i]:=Array.getElem?_eq_getElem hi.1;have:i∈Region.ready .any ops kb:=by
    refine alU ho hi.2 λk hk=>?_;have hki:=hG i _ ho k hk;rw[ao6 k (by omega)];have:k∉i::l:=by intro hm;rcases bU.1 hm with rfl|hm;omega;have:=(List.pairwise_cons.1 hpw).1 k hm;omega
    simp[this]
   rw[aqh]at this;cases this
  ·obtain⟨oi,ho,Pd,hlf,Gf⟩:=mem_ready hi;have uX:i∈rem:=(D8 i).2 ⟨Pd,hlf⟩;obtain⟨pre,post,rfl⟩:=List.append_of_mem uX;have asw:nth ops.toList i=some oi:=by rw[eU,cP];exact ho
   have aqo:=List.pairwise_append.1 hpw
   have akG:=R2 (E:=E) (Γ:=Γ) (an:=an) (X:=X) Db asw pre post st r (λj hj oj hoj=>by
    have hji:j<i:=aqo.2.2 j hj i (by simp);have axy:ops[j]?=some oj:=by rw[eU,cP]at hoj;exact hoj
    rcases asA i j oi oj hji ho axy with aw8|hap;exfalso;have hL:=aw8 (λk=>kb.getD k false=true) (λk o hk hlk=>hcl k o hk hlk) Gf;have:=(D8 j).1 (by simp[hj]);simp only[ao6 j this.1]at hL;simp[hj]at hL;exact hap) hr
   simp only[Tt,asw]at akG;obtain⟨st1,h1,h2⟩:=ba.1 akG;have hg:iI E Γ an ops.toList oi st some=some st1:=by unfold dh at h1;cases hf:ei E an (X i) oi st with|false=>rw[hf]at h1;cases h1|true=>rw[hf]at h1;exact h1
   have HZ:i∉pre++post:=by intro hm;rcases aA.1 hm with hm|hm;have:=aqo.2.2 i hm i (by simp);omega;have:=(List.pairwise_cons.1 aqo.2.1).1 i hm;omega
   have asF:=Zb (P:=P) (C:=C) (an:=an) hS (ops:=ops) hs hg (wpAny P .any ops Q n (kb.setIfInBounds i true)) Q (λcj a' w' yL he=>by
    cases he;refine ih (pre++post) (by simp at hn⊢;omega) (kb.setIfInBounds i true) st1 a' w' ?_ ?_ (by simpa using wI) ?_ yL h2;exact List.Pairwise.sublist (List.Sublist.append (List.Sublist.refl _) (List.sublist_cons_self _ _)) hpw;intro k;have hk:=D8 k;by_cases hki:k=i;subst hki;constructor;intro hm;exact absurd hm HZ;rintro⟨_,hf⟩;simp[eD,show k<kb.size by omega]at hf;have GU:(kb.setIfInBounds i true).getD k true=kb.getD k true:=by simp[eD,cl hki]
    rw[GU,<-hk];simp[hki];intro k o oz S6 m hm;have GU:∀q,kb.getD q false=true->(kb.setIfInBounds i true).getD q false=true:=by
     intro q hq;simp only[eD,Array.getElem?_setIfInBounds]at hq⊢;split;·split<;>first|rfl|(rename_i h1 h2;subst h1;rw[Array.getElem?_eq_none (by omega)]at hq;exact hq)
     exact hq
    by_cases hki:k=i;subst hki;rw[ho]at oz;cases oz;exact GU m (Gf m hm);refine GU m (hcl k o oz ?_ m hm);simpa[eD,Array.getElem?_setIfInBounds,cl hki]using S6)
   unfold wpOp;rw[ho];exact asF
theorem adM {a b:fM}{x:Nat}(h:x∈XS a b):x∈a\/x∈b:=by unfold XS at h;induction a generalizing b with|nil=>exact .inr h|cons y a ih=>rw[dY]at h;rcases ih h with h|h;exact .inl (by simp[h]);cases hc:b.contains y with|true=>rw[hc]at h;exact .inr h|false=>rw[hc]at h;rcases bU.1 h with rfl|h;exact .inl (by simp);exact .inr h
def aje (ops:Array Oper)(i j:Nat):Prop:=∀o,ops[i]?=some o->∀L:Nat->Prop,ai9 ops L->(∀k∈DL o,L k)->L j
theorem TK {ops:Array Oper}:∀(r done:aw Oper)(acc:aw fM),ops.toList=done++r->acc.length=done.length->(∀i l,nth acc i=some l->∀j∈l,aje ops i j)->
 ∀i l,nth (X5 r acc) i=some l->∀j∈l,aje ops i j
 |[],done,acc,_,_,h=>h
 |o::r,done,acc,aqm,hlen,h=>by
  refine TK r (done++[o]) _ (by rw[aqm];simp) (by simp[hlen]) ?_;intro i l hl j hj;rw[eU]at hl;rcases cg i acc.length with hG|CF;rw[bp hG]at hl;exact h i l (by rw[eU];exact hl) j hj;rw[bw CF]at hl;have hi:i=acc.length:=by cases hk:i-acc.length with|zero=>omega|succ n=>rw[hk]at hl;simp at hl
  subst hi;simp only[iC,cM,bu]at hl;subst hl;have hoi:ops[acc.length]?=some o:=by rw[<-cP,aqm,hlen,bw (bc _)];simp
  have key:∀(ps:fM)(s0:fM),(∀k∈ps,k∈DL o)->(∀x∈s0,aje ops acc.length x)->∀x∈ps.foldl (λs j=>XS (j::(nth acc j).getD []) s) s0,aje ops acc.length x:=by
   intro ps;induction ps with
   |nil=>intro s0 _ h0;exact h0
   |cons k ps ih=>
    intro s0 hps h0;rw[dY];refine ih _ (λm hm=>hps m (by simp[hm])) ?_;intro x hx;rcases adM hx with hx|hx;intro o' OQ L hL hp;rw[hoi]at OQ;cases OQ;have hk:=hp k (hps k (by simp));rcases bU.1 hx with rfl|hx;exact hk;cases hak:nth acc k with
    |none=>rw[hak]at hx;cases hx
    |some l=>
     rw[hak]at hx;have S6:k<acc.length:=by rw[eU]at hak;exact(ay.1 hak).1
     have oz:∃ok,ops[k]?=some ok:=by rw[<-cP,aqm,bp (by omega)];exact⟨_,al (by omega)⟩
     obtain⟨ok,oz⟩:=oz;exact h k l hak x hx ok oz L hL (hL k ok oz hk)
    exact h0 x hx
  exact key (DL o) [] (λ_ h=>h) (by simp) j hj
theorem ah8 {ops:Array Oper}{k:Nat}(h:ah7 (X5 ops.toList []) i k=true):aje ops i k:=by unfold ah7 at h;cases hl:nth (X5 ops.toList []) i with|none=>rw[hl]at h;simp at h|some l=>rw[hl]at h;exact TK ops.toList [] [] rfl rfl (λi l hl=>by simp[nth]at hl) i l hl k (by simpa using h)
theorem NZ {ops:aw Oper}{oi:Oper}:∀(l:aw Oper)(j:Nat),Rz an ops A i oi j l=true->∀k ok,l[k]?=some ok->j+k<i->(ah7 A i (j+k)||PC an ops (vd an A (j+k) 0 ops) (vd an A i 0 ops) ok oi)=true
 |[],j,_,k,ok,hk,_=>by simp at hk
 |oj::l,j,h,k,ok,hk,hG=>by
  simp only[Rz]at h;have hb:Nat.ble i j=false:=by cases hb:Nat.ble i j with|false=>rfl|true=>have:=Nat.le_of_ble_eq_true hb;omega
  rw[hb]at h;simp only[af,ae]at h;cases k with|zero=>simp at hk;subst hk;exact h.1|succ k=>have:=NZ l (j+1) h.2 k ok (by simpa using hk) (by omega);rwa[show j+1+k=j+(k+1) by omega]at this
theorem N0 {ops:aw Oper}:∀(l:aw Oper)(i:Nat),Xm an ops A i l=true->∀k ok,l[k]?=some ok->(∀m∈DL ok,m<i+k)/\Rz an ops A (i+k) ok 0 ops=true
 |[],i,_,k,ok,hk=>by simp at hk
 |o::l,i,h,k,ok,hk=>by simp only[Xm,ae,aF]at h;cases k with|zero=>simp at hk;subst hk;exact⟨λm hm=>Nat.le_of_ble_eq_true (h.1.1 m hm),h.1.2⟩|succ k=>have:=N0 l (i+1) h.2 k ok (by simpa using hk);rwa[show i+1+k=i+(k+1) by omega]at this
section
variable {R:Type} {r:R} {st:AS} {a:Act} {w:World}
theorem P9 (ops:aw Oper)(A:aw fM):∀(l:aw Oper)(i:Nat)(st:AS)(K:AS->aB R),Ix E Γ an ops A i l st K=(Ix E Γ an ops A i l st some).bind K
 |[],i,st,K=>rfl
 |o::l,i,st,K=>by simp only[Ix];cases ei E an (vd an A i 0 ops) o st with|false=>rfl|true=>simp only[ah];rw[sX,sX (K:=λcj=>Ix E Γ an ops A (i+1) l cj some),Option.bind_assoc];congr 1;funext cj;exact P9 ops A l (i+1) cj K
theorem TU (ops:aw Oper)(A:aw fM):∀(n i:Nat)(st:AS),i+n=ops.length->Ix E Γ an ops A i (ops.drop i) st some=Tt E Γ an ops (λk=>vd an A k 0 ops) (List.range' i n) st
 |0,i,st,hi=>by rw[cI (by omega)];rfl
 |n+1,i,st,hi=>by
  have Pd:i<ops.length:=by omega
  rw[bW Pd,List.range'_succ];have ho:nth ops i=some ops[i]:=by rw[eU];exact al Pd
  simp only[Ix,Tt,ho,dh];cases ei E an (vd an A i 0 ops) ops[i] st with|false=>rfl|true=>simp only[ah];rw[sX];congr 1;funext cj;exact TU ops A n (i+1) cj (by omega)
theorem Qf (ops:aw Oper)(d:Bool)(K:AS->aB R):GC E Γ an ops d st K=(GC E Γ an ops d st some).bind K:=by unfold GC;cases d with|false=>exact UT ops ops st K|true=>simp only[ah];cases Yt an ops with|false=>rfl|true=>exact P9 ops _ ops 0 st K
theorem UM (Db:∀f,(Γ f).io=false/\(Γ f).bx=false/\(Γ f).pr=false){ops:aw Oper}{A:aw fM}(hq:∀o∈ops,iL an (Jq ops) o=true):∀(l:aw Oper)(i:Nat)(st cj:AS),(∀o∈l,o∈ops)->Ix E Γ an ops A i l st some=some cj->jS (Jq ops) st cj
 |[],i,st,cj,_,h=>by cases h;exact jS.refl _ _
 |o::l,i,st,cj,hl,h=>by simp only[Ix]at h;cases hf:ei E an (vd an A i 0 ops) o st with|false=>rw[hf]at h;cases h|true=>rw[hf]at h;simp only[ah]at h;rw[sX]at h;cases hg:iI E Γ an ops o st some with|none=>rw[hg]at h;cases h|some st1=>rw[hg]at h;exact(Rs Db (hl o (by simp)) (hq o (hl o (by simp))) hg).trans (UM Db hq l (i+1) st1 cj (λo' OQ=>hl o' (by simp[OQ])) h)
theorem ahX (Db:∀f,(Γ f).io=false/\(Γ f).bx=false/\(Γ f).pr=false){ops:aw Oper}{d:Bool}(hq:∀o∈ops,iL an (Jq ops) o=true){cj:AS}(h:GC E Γ an ops d st some=some cj):jS (Jq ops) st cj:=by unfold GC at h;cases d with|false=>exact aaq Db hq ops st cj (λ_ h=>h) h|true=>simp only[ah]at h;cases hb:Yt an ops with|false=>rw[hb]at h;cases h|true=>rw[hb]at h;exact UM (aot Db) hq ops 0 st cj (λ_ h=>h) h
theorem afb (hS:Sound P E Γ){id:Nat}{ops:Array Oper}{d:Bool}(h:qe C st a w){r:AS}(hk:GC E Γ an ops.toList d st some=some r){Q:Exit->Act->World->Prop}(hq:∀a' w',qe C r a' w'->Q .normal a' w'):(Code.region id ops d).wp P Q a w:=by
 unfold GC at hk;cases d with
 |false=>apply wp_region;rw[List.range_eq_range'];exact alF hS (K:=some) (r:=r) (λcj a' w' hs he=>by cases he;exact hq _ _ hs) ops.size 0 st a w (by omega) h (by simpa using hk)
 |true=>
  simp only[ah]at hk;cases hb:Yt an ops.toList with
  |false=>rw[hb]at hk;cases hk
  |true=>
   rw[hb]at hk;simp only[ah]at hk;have asD:=TU (E:=E) (Γ:=Γ.JV) (an:=an) ops.toList (X5 ops.toList []) ops.size 0 st (by simp);rw[fQ,hk]at asD;unfold Yt at hb;have akM:=N0 ops.toList 0 hb;apply wp_region_any hS.mixed;have hs1:qe C st a {w with drawn:=w.drawn+1}:=h.grow (Fr.drew _ w)
   have:=apO (an:=an) (C:=C) (aos Γ) hS.JV (ops:=ops) (X:=λk=>vd an (X5 ops.toList []) k 0 ops.toList) (Q:=Q) (r:=r)
    (λi o ho k hk=>by have:=(akM i o (by rw[cP];exact ho)).1 k hk;simpa using this)
    (λi j oi oj hji hi hj=>by have h1:=(akM i oi (by rw[cP];exact hi)).2;rw[cE]at h1;have h2:=NZ ops.toList 0 h1 j oj (by rw[cP];exact hj) (by omega);rw[cE,cY]at h2;rcases h2 with h2|h2;exact .inl (λL hL hp=>ah8 h2 oi hi L hL hp);exact .inr h2) hq (List.range' 0 ops.size) (Array.replicate ops.size false) st a {w with drawn:=w.drawn+1} List.pairwise_lt_range'
    (λi=>by
     rw[List.mem_range'_1];constructor;rintro⟨_,hi⟩;have xk:i<ops.size:=by omega
     exact⟨xk,by simp[Array.getD,xk]⟩;rintro⟨hi,_⟩;omega) (by simp)
    (λi o _ hl=>by exfalso;simp only[Array.getD,Array.size_replicate,Array.getInternal_eq_getElem,Array.getElem_replicate]at hl;split at hl<;>cases hl) hs1 asD.symm
   rwa[List.length_range']at this
end
end Go.Dn
