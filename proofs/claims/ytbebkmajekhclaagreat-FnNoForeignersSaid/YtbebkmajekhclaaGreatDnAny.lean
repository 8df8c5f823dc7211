import Derived.Test.YtbebkmajekhclaaGreatDnDraw
/- A region whose order is drawn: whatever the order, the outcome is that of the text's order. -/
namespace Go.Dn
open Go.RowKit
variable {P:Program} {C:Ctx} {E:Env} {Γ:BV} {an:An}
variable {jN:Array Bool} {i:Nat} {A:ax fK}
def ahA (ops:Array Oper)(L:Nat->Prop):Prop:=∀i o,ops[i]?=some o->L i->∀k∈Df o,L k
theorem mem_ready {ops:Array Oper}(h:i∈Region.ready .any ops jN): ∃o,ops[i]?=some o/\i<ops.size/\jN.getD i true=false/\∀k∈Df o,jN.getD k false=true:=by
 unfold Region.ready at h;rw[List.mem_filter]at h;obtain⟨hi,h⟩:=h;have gH:i<ops.size:=by simpa using hi
 simp only[ae,aN]at h;have ho:ops[i]?=some ops[i]:=Array.getElem?_eq_getElem gH;rw[ho]at h;simp only[dH,gr,Array.all_eq_true]at h;refine⟨ops[i],ho,gH,h.1,λk hk=>?_⟩;simp only[Df,eG,List.mem_filter]at hk;obtain⟨e,⟨he,hb⟩,rfl⟩:=hk;obtain⟨j,hj,hje⟩:=Array.mem_iff_getElem.1 (Array.mem_toList_iff.1 he);have:=h.2 j hj;rw[hje]at this;simpa[hb]using this
theorem akg {ops:Array Oper}{o:Oper}(ho:ops[i]?=some o)(hl:jN.getD i true=false)(hp:∀k∈Df o,jN.getD k false=true):i∈Region.ready .any ops jN:=by have gH:i<ops.size:=(Array.getElem?_eq_some_iff.1 ho).1;unfold Region.ready;rw[List.mem_filter];refine⟨by simpa using gH,?_⟩;rw[ho,hl];simp only[bt,bn,dH,gr,Array.all_eq_true];intro j hj;cases hb:Region.binds .any o.after[j]with|false=>rfl|true=>simp only[aj,cJ];refine hp _ ?_;simp only[Df,eG,List.mem_filter];exact⟨o.after[j],⟨by simp,hb⟩,rfl⟩
theorem anY (CK:∀f,(Γ f).io=false/\((Γ f).bx=true->(Γ f).cur=true)/\(Γ f).pr=false)(hS:Sound P E Γ){ops:Array Oper}{X:Nat->fK}{Q:Exit->Act->World->Prop}{r:AS}(gH:∀i o,ops[i]?=some o->∀k∈Df o,k<i)(aqI:∀i j oi oj,j<i->ops[i]?=some oi->ops[j]?=some oj->(∀L:Nat->Prop,ahA ops L->(∀k∈Df oi,L k)->L j)\/ON an ops.toList (X j) (X i) oj oi=true)(hq:∀a w,pL C r a w->Q .normal a w): ∀(rem:fK)(jN:Array Bool)(st:AS)(a:Act)(w:World),rem.Pairwise (·<·)->(∀i,i∈rem↔i<ops.size/\jN.getD i true=false)->jN.size=ops.size-> (∀i o,ops[i]?=some o->jN.getD i false=true->∀k∈Df o,jN.getD k false=true)->pL C st a w->Sg E Γ an ops.toList X rem st=some r-> wpAny P .any ops Q rem.length jN a w:=by
 intro rem;generalize hn:rem.length=n;induction n generalizing rem with
 |zero=>intro jN st a w _ DD _ _ hs hr;have:rem=[]:=cq hn;subst this;cases hr;refine⟨?_,hq a w hs⟩;cases PU:Region.ready .any ops jN with|nil=>rfl|cons i l=>obtain⟨o,ho,hi,hl,_⟩:=mem_ready (i:=i) (by rw[PU];simp);have:=(DD i).2 ⟨hi,hl⟩;cases this
 |succ n ih=>
  intro jN st a w hpw DD vZ hcl hs hr;have anj:∀k,k<ops.size->jN.getD k false= !(decide (k∈rem)):=by
   intro k hk;have h1:=DD k;have Gm:k<jN.size:=by omega
   simp only[Array.getD,Gm,dite_true]at h1⊢;by_cases hm:k∈rem;have:=(h1.1 hm).2;simpa[hm]using this;have:¬(jN[k]=false):=λhf=>hm (h1.2 ⟨hk,hf⟩);simpa[hm]using this
  refine⟨λaos=>?_,λi hi=>?_⟩;exfalso;cases rem with
  |nil=>simp at hn
  |cons i l=>
   have hi:=(DD i).1 (by simp);have ho:ops[i]?=some ops[i]:=Array.getElem?_eq_getElem hi.1;have:i∈Region.ready .any ops jN:=by
    refine akg ho hi.2 λk hk=>?_;have hki:=gH i _ ho k hk;rw[anj k (by omega)];have:k∉i::l:=by intro hm;rcases bS.1 hm with rfl|hm;omega;have:=(List.pairwise_cons.1 hpw).1 k hm;omega
    simp[this]
   rw[aos]at this;cases this
  ·obtain⟨oi,ho,Oo,hlf,Hu⟩:=mem_ready hi;have uB:i∈rem:=(DD i).2 ⟨Oo,hlf⟩;obtain⟨pre,post,rfl⟩:=List.append_of_mem uB;have aqE:nth ops.toList i=some oi:=by rw[eH,cG];exact ho
   have aoz:=List.pairwise_append.1 hpw
   have ai5:=QR (E:=E) (Γ:=Γ) (an:=an) (X:=X) CK aqE pre post st r (λj hj oj hoj=>by
    have hji:j<i:=aoz.2.2 j hj i (by simp);have avL:ops[j]?=some oj:=by rw[eH,cG]at hoj;exact hoj
    rcases aqI i j oi oj hji ho avL with avl|hap;exfalso;have hL:=avl (λk=>jN.getD k false=true) (λk o hk hlk=>hcl k o hk hlk) Hu;have:=(DD j).1 (by simp[hj]);simp only[anj j this.1]at hL;simp[hj]at hL;exact hap) hr
   simp only[Sg,aqE]at ai5;obtain⟨st1,h1,h2⟩:=aZ.1 ai5;have hg:ig E Γ an ops.toList oi st some=some st1:=by unfold cM at h1;cases hf:dV E an (X i) oi st with|false=>rw[hf]at h1;cases h1|true=>rw[hf]at h1;exact h1
   have Hs:i∉pre++post:=by intro hm;rcases ay.1 hm with hm|hm;have:=aoz.2.2 i hm i (by simp);omega;have:=(List.pairwise_cons.1 aoz.2.1).1 i hm;omega
   have aqN:=XH (P:=P) (C:=C) (an:=an) hS (ops:=ops) hs hg (wpAny P .any ops Q n (jN.setIfInBounds i true)) Q (λbZ a' w' yp he=>by
    cases he;refine ih (pre++post) (by simp at hn⊢;omega) (jN.setIfInBounds i true) st1 a' w' ?_ ?_ (by simpa using vZ) ?_ yp h2;exact List.Pairwise.sublist (List.Sublist.append (List.Sublist.refl _) (List.sublist_cons_self _ _)) hpw;intro k;have hk:=DD k;by_cases hki:k=i;subst hki;constructor;intro hm;exact absurd hm Hs;rintro⟨_,hf⟩;simp[dW,show k<jN.size by omega]at hf;have Gq:(jN.setIfInBounds i true).getD k true=jN.getD k true:=by simp[dW,cZ hki]
    rw[Gq,<-hk];simp[hki];intro k o pK Ry m hm;have Gq:∀q,jN.getD q false=true->(jN.setIfInBounds i true).getD q false=true:=by
     intro q hq;simp only[dW,Array.getElem?_setIfInBounds]at hq⊢;split;·split<;>first|rfl|(rename_i h1 h2;subst h1;rw[Array.getElem?_eq_none (by omega)]at hq;exact hq)
     exact hq
    by_cases hki:k=i;subst hki;rw[ho]at pK;cases pK;exact Gq m (Hu m hm);refine Gq m (hcl k o pK ?_ m hm);simpa[dW,Array.getElem?_setIfInBounds,cZ hki]using Ry)
   unfold wpOp;rw[ho];exact aqN
theorem aci {a b:fK}{x:Nat}(h:x∈Wq a b):x∈a\/x∈b:=by unfold Wq at h;induction a generalizing b with|nil=>exact .inr h|cons y a ih=>rw[du]at h;rcases ih h with h|h;exact .inl (by simp[h]);cases hc:b.contains y with|true=>rw[hc]at h;exact .inr h|false=>rw[hc]at h;rcases bS.1 h with rfl|h;exact .inl (by simp);exact .inr h
def ahG (ops:Array Oper)(i j:Nat):Prop:=∀o,ops[i]?=some o->∀L:Nat->Prop,ahA ops L->(∀k∈Df o,L k)->L j
theorem St {ops:Array Oper}:∀(r done:ax Oper)(acc:ax fK),ops.toList=done++r->acc.length=done.length->(∀i l,nth acc i=some l->∀j∈l,ahG ops i j)->
 ∀i l,nth (WE r acc) i=some l->∀j∈l,ahG ops i j
 |[],done,acc,_,_,h=>h
 |o::r,done,acc,aox,hlen,h=>by
  refine St r (done++[o]) _ (by rw[aox];simp) (by simp[hlen]) ?_;intro i l hl j hj;rw[eH]at hl;rcases cr i acc.length with gH|Cg;rw[bF gH]at hl;exact h i l (by rw[eH];exact hl) j hj;rw[bA Cg]at hl;have hi:i=acc.length:=by cases hk:i-acc.length with|zero=>omega|succ n=>rw[hk]at hl;simp at hl
  subst hi;simp only[jv,cD,bq]at hl;subst hl;have hoi:ops[acc.length]?=some o:=by rw[<-cG,aox,hlen,bA (bj _)];simp
  have key:∀(ps:fK)(s0:fK),(∀k∈ps,k∈Df o)->(∀x∈s0,ahG ops acc.length x)->∀x∈ps.foldl (λs j=>Wq (j::(nth acc j).getD []) s) s0,ahG ops acc.length x:=by
   intro ps;induction ps with
   |nil=>intro s0 _ h0;exact h0
   |cons k ps ih=>
    intro s0 hps h0;rw[du];refine ih _ (λm hm=>hps m (by simp[hm])) ?_;intro x hx;rcases aci hx with hx|hx;intro o' NY L hL hp;rw[hoi]at NY;cases NY;have hk:=hp k (hps k (by simp));rcases bS.1 hx with rfl|hx;exact hk;cases hak:nth acc k with
    |none=>rw[hak]at hx;cases hx
    |some l=>
     rw[hak]at hx;have Ry:k<acc.length:=by rw[eH]at hak;exact(aA.1 hak).1
     have pK:∃ok,ops[k]?=some ok:=by rw[<-cG,aox,bF (by omega)];exact⟨_,al (by omega)⟩
     obtain⟨ok,pK⟩:=pK;exact h k l hak x hx ok pK L hL (hL k ok pK hk)
    exact h0 x hx
  exact key (Df o) [] (λ_ h=>h) (by simp) j hj
theorem agB {ops:Array Oper}{k:Nat}(h:agA (WE ops.toList []) i k=true):ahG ops i k:=by unfold agA at h;cases hl:nth (WE ops.toList []) i with|none=>rw[hl]at h;simp at h|some l=>rw[hl]at h;exact St ops.toList [] [] rfl rfl (λi l hl=>by simp[nth]at hl) i l hl k (by simpa using h)
theorem Nd {ops:ax Oper}{oi:Oper}:∀(l:ax Oper)(j:Nat),Qv an ops A i oi j l=true->∀k ok,l[k]?=some ok->j+k<i->(agA A i (j+k)||ON an ops (uD an A (j+k) 0 ops) (uD an A i 0 ops) ok oi)=true
 |[],j,_,k,ok,hk,_=>by simp at hk
 |oj::l,j,h,k,ok,hk,gH=>by
  simp only[Qv]at h;have hb:Nat.ble i j=false:=by cases hb:Nat.ble i j with|false=>rfl|true=>have:=Nat.le_of_ble_eq_true hb;omega
  rw[hb]at h;simp only[af,ae]at h;cases k with|zero=>simp at hk;subst hk;exact h.1|succ k=>have:=Nd l (j+1) h.2 k ok (by simpa using hk) (by omega);rwa[show j+1+k=j+(k+1) by omega]at this
theorem Nf {ops:ax Oper}:∀(l:ax Oper)(i:Nat),VU an ops A i l=true->∀k ok,l[k]?=some ok->(∀m∈Df ok,m<i+k)/\Qv an ops A (i+k) ok 0 ops=true
 |[],i,_,k,ok,hk=>by simp at hk
 |o::l,i,h,k,ok,hk=>by simp only[VU,ae,aF]at h;cases k with|zero=>simp at hk;subst hk;exact⟨λm hm=>Nat.le_of_ble_eq_true (h.1.1 m hm),h.1.2⟩|succ k=>have:=Nf l (i+1) h.2 k ok (by simpa using hk);rwa[show i+1+k=i+(k+1) by omega]at this
section
variable {R:Type} {r:R} {st:AS} {a:Act} {w:World}
theorem Pd (ops:ax Oper)(A:ax fK):∀(l:ax Oper)(i:Nat)(st:AS)(K:AS->az R),HW E Γ an ops A i l st K=(HW E Γ an ops A i l st some).bind K
 |[],i,st,K=>rfl
 |o::l,i,st,K=>by simp only[HW];cases dV E an (uD an A i 0 ops) o st with|false=>rfl|true=>simp only[ah];rw[sA,sA (K:=λbZ=>HW E Γ an ops A (i+1) l bZ some),Option.bind_assoc];congr 1;funext bZ;exact Pd ops A l (i+1) bZ K
theorem SA (ops:ax Oper)(A:ax fK):∀(n i:Nat)(st:AS),i+n=ops.length->HW E Γ an ops A i (ops.drop i) st some=Sg E Γ an ops (λk=>uD an A k 0 ops) (List.range' i n) st
 |0,i,st,hi=>by rw[di (by omega)];rfl
 |n+1,i,st,hi=>by
  have Oo:i<ops.length:=by omega
  rw[cc Oo,List.range'_succ];have ho:nth ops i=some ops[i]:=by rw[eH];exact al Oo
  simp only[HW,Sg,ho,cM];cases dV E an (uD an A i 0 ops) ops[i] st with|false=>rfl|true=>simp only[ah];rw[sA];congr 1;funext bZ;exact SA ops A n (i+1) bZ (by omega)
theorem Pk (ops:ax Oper)(d:Bool)(K:AS->az R):F9 E Γ an ops d st K=(F9 E Γ an ops d st some).bind K:=by unfold F9;cases d with|false=>exact Tz ops ops st K|true=>simp only[ah];cases W5 an ops with|false=>rfl|true=>exact Pd ops _ ops 0 st K
theorem Tr (CK:∀f,(Γ f).io=false/\(Γ f).bx=false/\(Γ f).pr=false){ops:ax Oper}{A:ax fK}(hq:∀o∈ops,iq an (IK ops) o=true):∀(l:ax Oper)(i:Nat)(st bZ:AS),(∀o∈l,o∈ops)->HW E Γ an ops A i l st some=some bZ->jF (IK ops) st bZ
 |[],i,st,bZ,_,h=>by cases h;exact jF.refl _ _
 |o::l,i,st,bZ,hl,h=>by simp only[HW]at h;cases hf:dV E an (uD an A i 0 ops) o st with|false=>rw[hf]at h;cases h|true=>rw[hf]at h;simp only[ah]at h;rw[sA]at h;cases hg:ig E Γ an ops o st some with|none=>rw[hg]at h;cases h|some st1=>rw[hg]at h;exact(Qq CK (hl o (by simp)) (hq o (hl o (by simp))) hg).trans (Tr CK hq l (i+1) st1 bZ (λo' NY=>hl o' (by simp[NY])) h)
theorem agq (CK:∀f,(Γ f).io=false/\(Γ f).bx=false/\(Γ f).pr=false){ops:ax Oper}{d:Bool}(hq:∀o∈ops,iq an (IK ops) o=true){bZ:AS}(h:F9 E Γ an ops d st some=some bZ):jF (IK ops) st bZ:=by unfold F9 at h;cases d with|false=>exact YT CK hq ops st bZ (λ_ h=>h) h|true=>simp only[ah]at h;cases hb:W5 an ops with|false=>rw[hb]at h;cases h|true=>rw[hb]at h;exact Tr (amH CK) hq ops 0 st bZ (λ_ h=>h) h
theorem adI (hS:Sound P E Γ){id:Nat}{ops:Array Oper}{d:Bool}(h:pL C st a w){r:AS}(hk:F9 E Γ an ops.toList d st some=some r){Q:Exit->Act->World->Prop}(hq:∀a' w',pL C r a' w'->Q .normal a' w'):(Code.region id ops d).wp P Q a w:=by
 unfold F9 at hk;cases d with
 |false=>apply wp_region;rw[List.range_eq_range'];exact aj1 hS (K:=some) (r:=r) (λbZ a' w' hs he=>by cases he;exact hq _ _ hs) ops.size 0 st a w (by omega) h (by simpa using hk)
 |true=>
  simp only[ah]at hk;cases hb:W5 an ops.toList with
  |false=>rw[hb]at hk;cases hk
  |true=>
   rw[hb]at hk;simp only[ah]at hk;have aqL:=SA (E:=E) (Γ:=Γ.Ji) (an:=an) ops.toList (WE ops.toList []) ops.size 0 st (by simp);rw[eL,hk]at aqL;unfold W5 at hb;have ajb:=Nf ops.toList 0 hb;apply wp_region_any hS.mixed;have hs1:pL C st a {w with drawn:=w.drawn+1}:=h.grow (Fr.drew _ w)
   have:=anY (an:=an) (C:=C) (amG Γ) hS.Ji (ops:=ops) (X:=λk=>uD an (WE ops.toList []) k 0 ops.toList) (Q:=Q) (r:=r)
    (λi o ho k hk=>by have:=(ajb i o (by rw[cG];exact ho)).1 k hk;simpa using this)
    (λi j oi oj hji hi hj=>by have h1:=(ajb i oi (by rw[cG];exact hi)).2;rw[cy]at h1;have h2:=Nd ops.toList 0 h1 j oj (by rw[cG];exact hj) (by omega);rw[cy,cY]at h2;rcases h2 with h2|h2;exact .inl (λL hL hp=>agB h2 oi hi L hL hp);exact .inr h2) hq (List.range' 0 ops.size) (Array.replicate ops.size false) st a {w with drawn:=w.drawn+1} List.pairwise_lt_range'
    (λi=>by
     rw[List.mem_range'_1];constructor;rintro⟨_,hi⟩;have wL:i<ops.size:=by omega
     exact⟨wL,by simp[Array.getD,wL]⟩;rintro⟨hi,_⟩;omega) (by simp)
    (λi o _ hl=>by exfalso;simp only[Array.getD,Array.size_replicate,Array.getInternal_eq_getElem,Array.getElem_replicate]at hl;split at hl<;>cases hl) hs1 aqL.symm
   rwa[List.length_range']at this
end
end Go.Dn
