import Derived.Test.YtinkcmefgciifaaGreatDnDraw
/- A region whose order is drawn: whatever the order, the outcome is that of the text's order. -/
namespace Go.Dn
open Go.RowKit
variable {P:Program} {C:Ctx} {E:Env} {Γ:Bx} {an:An}
variable {ks:Array Bool} {i:Nat} {A:az gk}
def afw (ops:Array Oper)(L:Nat->Prop):Prop:=∀i o,ops[i]?=some o->L i->∀k∈CL o,L k
theorem mem_ready {ops:Array Oper}(h:i∈Region.ready .any ops ks): ∃o,ops[i]?=some o/\i<ops.size/\ks.getD i true=false/\∀k∈CL o,ks.getD k false=true:=by
 unfold Region.ready at h;rw[List.mem_filter]at h;obtain⟨hi,h⟩:=h;have iz:i<ops.size:=by simpa using hi
 simp only[ae,aN]at h;have ho:ops[i]?=some ops[i]:=Array.getElem?_eq_getElem iz;rw[ho]at h;simp only[dL,gR,Array.all_eq_true]at h;refine⟨ops[i],ho,iz,h.1,λk hk=>?_⟩;simp only[CL,dx,List.mem_filter]at hk;obtain⟨e,⟨he,hb⟩,rfl⟩:=hk;obtain⟨j,hj,hje⟩:=Array.mem_iff_getElem.1 (Array.mem_toList_iff.1 he);have:=h.2 j hj;rw[hje]at this;simpa[hb]using this
theorem ah3 {ops:Array Oper}{o:Oper}(ho:ops[i]?=some o)(hl:ks.getD i true=false)(hp:∀k∈CL o,ks.getD k false=true):i∈Region.ready .any ops ks:=by have iz:i<ops.size:=(Array.getElem?_eq_some_iff.1 ho).1;unfold Region.ready;rw[List.mem_filter];refine⟨by simpa using iz,?_⟩;rw[ho,hl];simp only[cl,bC,dL,gR,Array.all_eq_true];intro j hj;cases hb:Region.binds .any o.after[j]with|false=>rfl|true=>simp only[ak,cj];refine hp _ ?_;simp only[CL,dx,List.mem_filter];exact⟨o.after[j],⟨by simp,hb⟩,rfl⟩
theorem alu (Cm:∀f,(Γ f).io=false/\((Γ f).bx=true->(Γ f).cur=true)/\(Γ f).pr=false)(hS:Sound P E Γ){ops:Array Oper}{X:Nat->gk}{Q:Exit->Act->World->Prop}{r:AS}(iz:∀i o,ops[i]?=some o->∀k∈CL o,k<i)(anZ:∀i j oi oj,j<i->ops[i]?=some oi->ops[j]?=some oj->(∀L:Nat->Prop,afw ops L->(∀k∈CL oi,L k)->L j)\/NP an ops.toList (X j) (X i) oj oi=true)(hq:∀a w,pT C r a w->Q .normal a w): ∀(rem:gk)(ks:Array Bool)(st:AS)(a:Act)(w:World),rem.Pairwise (·<·)->(∀i,i∈rem↔i<ops.size/\ks.getD i true=false)->ks.size=ops.size-> (∀i o,ops[i]?=some o->ks.getD i false=true->∀k∈CL o,ks.getD k false=true)->pT C st a w->Rn E Γ an ops.toList X rem st=some r-> wpAny P .any ops Q rem.length ks a w:=by
 intro rem;generalize hn:rem.length=n;induction n generalizing rem with
 |zero=>intro ks st a w _ Ep _ _ hs hr;have:rem=[]:=cp hn;subst this;cases hr;refine⟨?_,hq a w hs⟩;cases O1:Region.ready .any ops ks with|nil=>rfl|cons i l=>obtain⟨o,ho,hi,hl,_⟩:=mem_ready (i:=i) (by rw[O1];simp);have:=(Ep i).2 ⟨hi,hl⟩;cases this
 |succ n ih=>
  intro ks st a w hpw Ep wq hcl hs hr;have akY:∀k,k<ops.size->ks.getD k false= !(decide (k∈rem)):=by
   intro k hk;have h1:=Ep k;have FY:k<ks.size:=by omega
   simp only[Array.getD,FY,dite_true]at h1⊢;by_cases hm:k∈rem;have:=(h1.1 hm).2;simpa[hm]using this;have:¬(ks[k]=false):=λhf=>hm (h1.2 ⟨hk,hf⟩);simpa[hm]using this
  refine⟨λalT=>?_,λi hi=>?_⟩;exfalso;cases rem with
  |nil=>simp at hn
  |cons i l=>
   have hi:=(Ep i).1 (by simp);have ho:ops[i]?=some ops[i]:=Array.getElem?_eq_getElem hi.1;have:i∈Region.ready .any ops ks:=by
    refine ah3 ho hi.2 λk hk=>?_;have hki:=iz i _ ho k hk;rw[akY k (by omega)];have:k∉i::l:=by intro hm;rcases cD.1 hm with rfl|hm;omega;have:=(List.pairwise_cons.1 hpw).1 k hm;omega
    simp[this]
   rw[alT]at this;cases this
  ·obtain⟨oi,ho,Q0,hlf,Er⟩:=mem_ready hi;have ux:i∈rem:=(Ep i).2 ⟨Q0,hlf⟩;obtain⟨pre,post,rfl⟩:=List.append_of_mem ux;have anW:nth ops.toList i=some oi:=by rw[eT,cI];exact ho
   have al0:=List.pairwise_append.1 hpw
   have agX:=Qd (E:=E) (Γ:=Γ) (an:=an) (X:=X) Cm anW pre post st r (λj hj oj hoj=>by
    have hji:j<i:=al0.2.2 j hj i (by simp);have asD:ops[j]?=some oj:=by rw[eT,cI]at hoj;exact hoj
    rcases anZ i j oi oj hji ho asD with asd|hap;exfalso;have hL:=asd (λk=>ks.getD k false=true) (λk o hk YE=>hcl k o hk YE) Er;have:=(Ep j).1 (by simp[hj]);simp only[akY j this.1]at hL;simp[hj]at hL;exact hap) hr
   simp only[Rn,anW]at agX;obtain⟨st1,h1,h2⟩:=aZ.1 agX;have hg:iK E Γ an ops.toList oi st some=some st1:=by unfold cX at h1;cases hf:dV E an (X i) oi st with|false=>rw[hf]at h1;cases h1|true=>rw[hf]at h1;exact h1
   have GW:i∉pre++post:=by intro hm;rcases ay.1 hm with hm|hm;have:=al0.2.2 i hm i (by simp);omega;have:=(List.pairwise_cons.1 al0.2.1).1 i hm;omega
   have an3:=Wm (P:=P) (C:=C) (an:=an) hS (ops:=ops) hs hg (wpAny P .any ops Q n (ks.setIfInBounds i true)) Q (λcc a' w' Af he=>by
    cases he;refine ih (pre++post) (by simp at hn⊢;omega) (ks.setIfInBounds i true) st1 a' w' ?_ ?_ (by simpa using wq) ?_ Af h2;exact List.Pairwise.sublist (List.Sublist.append (List.Sublist.refl _) (List.sublist_cons_self _ _)) hpw;intro k;have hk:=Ep k;by_cases hki:k=i;subst hki;constructor;intro hm;exact absurd hm GW;rintro⟨_,hf⟩;simp[dX,show k<ks.size by omega]at hf;have F1:(ks.setIfInBounds i true).getD k true=ks.getD k true:=by simp[dX,cd hki]
    rw[F1,<-hk];simp[hki];intro k o pR hkl m hm;have F1:∀q,ks.getD q false=true->(ks.setIfInBounds i true).getD q false=true:=by
     intro q hq;simp only[dX,Array.getElem?_setIfInBounds]at hq⊢;split;·split<;>first|rfl|(rename_i h1 h2;subst h1;rw[Array.getElem?_eq_none (by omega)]at hq;exact hq)
     exact hq
    by_cases hki:k=i;subst hki;rw[ho]at pR;cases pR;exact F1 m (Er m hm);refine F1 m (hcl k o pR ?_ m hm);simpa[dX,Array.getElem?_setIfInBounds,cd hki]using hkl)
   unfold wpOp;rw[ho];exact an3
theorem aaK {a b:gk}{x:Nat}(h:x∈Vo a b):x∈a\/x∈b:=by unfold Vo at h;induction a generalizing b with|nil=>exact .inr h|cons y a ih=>rw[List.foldl_cons]at h;rcases ih h with h|h;exact .inl (by simp[h]);cases hc:b.contains y with|true=>rw[hc]at h;exact .inr h|false=>rw[hc]at h;rcases cD.1 h with rfl|h;exact .inl (by simp);exact .inr h
def afE (ops:Array Oper)(i j:Nat):Prop:=∀o,ops[i]?=some o->∀L:Nat->Prop,afw ops L->(∀k∈CL o,L k)->L j
theorem RF {ops:Array Oper}:∀(r done:az Oper)(acc:az gk),ops.toList=done++r->acc.length=done.length->(∀i l,nth acc i=some l->∀j∈l,afE ops i j)->
 ∀i l,nth (Vz r acc) i=some l->∀j∈l,afE ops i j
 |[],done,acc,_,_,h=>h
 |o::r,done,acc,alY,hlen,h=>by
  refine RF r (done++[o]) _ (by rw[alY];simp) (by simp[hlen]) ?_;intro i l hl j hj;rw[eT]at hl;rcases ca i acc.length with iz|BC;rw[bu iz]at hl;exact h i l (by rw[eT];exact hl) j hj;rw[bE BC]at hl;have hi:i=acc.length:=by cases hk:i-acc.length with|zero=>omega|succ n=>rw[hk]at hl;simp at hl
  subst hi;simp only[ni,cR,bw]at hl;subst hl;have hoi:ops[acc.length]?=some o:=by rw[<-cI,alY,hlen,bE (aX _)];simp
  have key:∀(ps:gk)(s0:gk),(∀k∈ps,k∈CL o)->(∀x∈s0,afE ops acc.length x)->∀x∈ps.foldl (λs j=>Vo (j::(nth acc j).getD []) s) s0,afE ops acc.length x:=by
   intro ps;induction ps with
   |nil=>intro s0 _ h0;exact h0
   |cons k ps ih=>
    intro s0 hps h0;rw[List.foldl_cons];refine ih _ (λm hm=>hps m (by simp[hm])) ?_;intro x hx;rcases aaK hx with hx|hx;intro o' M5 L hL hp;rw[hoi]at M5;cases M5;have hk:=hp k (hps k (by simp));rcases cD.1 hx with rfl|hx;exact hk;cases hak:nth acc k with
    |none=>rw[hak]at hx;cases hx
    |some l=>
     rw[hak]at hx;have hkl:k<acc.length:=by rw[eT]at hak;exact(aB.1 hak).1
     have pR:∃ok,ops[k]?=some ok:=by rw[<-cI,alY,bu (by omega)];exact⟨_,aq (by omega)⟩
     obtain⟨ok,pR⟩:=pR;exact h k l hak x hx ok pR L hL (hL k ok pR hk)
    exact h0 x hx
  exact key (CL o) [] (λ_ h=>h) (by simp) j hj
theorem aeB {ops:Array Oper}{k:Nat}(h:aeA (Vz ops.toList []) i k=true):afE ops i k:=by unfold aeA at h;cases hl:nth (Vz ops.toList []) i with|none=>rw[hl]at h;simp at h|some l=>rw[hl]at h;exact RF ops.toList [] [] rfl rfl (λi l hl=>by simp[nth]at hl) i l hl k (by simpa using h)
theorem Mk {ops:az Oper}{oi:Oper}:∀(l:az Oper)(j:Nat),PI an ops A i oi j l=true->∀k ok,l[k]?=some ok->j+k<i->(aeA A i (j+k)||NP an ops (uu an A (j+k) 0 ops) (uu an A i 0 ops) ok oi)=true
 |[],j,_,k,ok,hk,_=>by simp at hk
 |oj::l,j,h,k,ok,hk,iz=>by
  simp only[PI]at h;have hb:Nat.ble i j=false:=by cases hb:Nat.ble i j with|false=>rfl|true=>have:=Nat.le_of_ble_eq_true hb;omega
  rw[hb]at h;simp only[af,ae]at h;cases k with|zero=>simp at hk;subst hk;exact h.1|succ k=>have:=Mk l (j+1) h.2 k ok (by simpa using hk) (by omega);rwa[show j+1+k=j+(k+1) by omega]at this
theorem Ml {ops:az Oper}:∀(l:az Oper)(i:Nat),UK an ops A i l=true->∀k ok,l[k]?=some ok->(∀m∈CL ok,m<i+k)/\PI an ops A (i+k) ok 0 ops=true
 |[],i,_,k,ok,hk=>by simp at hk
 |o::l,i,h,k,ok,hk=>by simp only[UK,ae,aL]at h;cases k with|zero=>simp at hk;subst hk;exact⟨λm hm=>Nat.le_of_ble_eq_true (h.1.1 m hm),h.1.2⟩|succ k=>have:=Ml l (i+1) h.2 k ok (by simpa using hk);rwa[show i+1+k=i+(k+1) by omega]at this
section
variable {R:Type} {r:R} {st:AS} {a:Act} {w:World}
theorem Oj (ops:az Oper)(A:az gk):∀(l:az Oper)(i:Nat)(st:AS)(K:AS->aC R),Hq E Γ an ops A i l st K=(Hq E Γ an ops A i l st some).bind K
 |[],i,st,K=>rfl
 |o::l,i,st,K=>by simp only[Hq];cases dV E an (uu an A i 0 ops) o st with|false=>rfl|true=>simp only[ah];rw[sH,sH (K:=λcc=>Hq E Γ an ops A (i+1) l cc some),Option.bind_assoc];congr 1;funext cc;exact Oj ops A l (i+1) cc K
theorem RP (ops:az Oper)(A:az gk):∀(n i:Nat)(st:AS),i+n=ops.length->Hq E Γ an ops A i (ops.drop i) st some=Rn E Γ an ops (λk=>uu an A k 0 ops) (List.range' i n) st
 |0,i,st,hi=>by rw[cx (by omega)];rfl
 |n+1,i,st,hi=>by
  have Q0:i<ops.length:=by omega
  rw[bV Q0,List.range'_succ];have ho:nth ops i=some ops[i]:=by rw[eT];exact aq Q0
  simp only[Hq,Rn,ho,cX];cases dV E an (uu an A i 0 ops) ops[i] st with|false=>rfl|true=>simp only[ah];rw[sH];congr 1;funext cc;exact RP ops A n (i+1) cc (by omega)
theorem Ot (ops:az Oper)(d:Bool)(K:AS->aC R):FJ E Γ an ops d st K=(FJ E Γ an ops d st some).bind K:=by unfold FJ;cases d with|false=>exact SH ops ops st K|true=>simp only[ah];cases VT an ops with|false=>rfl|true=>exact Oj ops _ ops 0 st K
theorem Sz (Cm:∀f,(Γ f).io=false/\(Γ f).bx=false/\(Γ f).pr=false){ops:az Oper}{A:az gk}(hq:∀o∈ops,iP an (H0 ops) o=true):∀(l:az Oper)(i:Nat)(st cc:AS),(∀o∈l,o∈ops)->Hq E Γ an ops A i l st some=some cc->ki (H0 ops) st cc
 |[],i,st,cc,_,h=>by cases h;exact ki.refl _ _
 |o::l,i,st,cc,hl,h=>by simp only[Hq]at h;cases hf:dV E an (uu an A i 0 ops) o st with|false=>rw[hf]at h;cases h|true=>rw[hf]at h;simp only[ah]at h;rw[sH]at h;cases hg:iK E Γ an ops o st some with|none=>rw[hg]at h;cases h|some st1=>rw[hg]at h;exact(Pz Cm (hl o (by simp)) (hq o (hl o (by simp))) hg).trans (Sz Cm hq l (i+1) st1 cc (λo' M5=>hl o' (by simp[M5])) h)
theorem aer (Cm:∀f,(Γ f).io=false/\(Γ f).bx=false/\(Γ f).pr=false){ops:az Oper}{d:Bool}(hq:∀o∈ops,iP an (H0 ops) o=true){cc:AS}(h:FJ E Γ an ops d st some=some cc):ki (H0 ops) st cc:=by unfold FJ at h;cases d with|false=>exact Xs Cm hq ops st cc (λ_ h=>h) h|true=>simp only[ah]at h;cases hb:VT an ops with|false=>rw[hb]at h;cases h|true=>rw[hb]at h;exact Sz (akr Cm) hq ops 0 st cc (λ_ h=>h) h
theorem ab3 (hS:Sound P E Γ){id:Nat}{ops:Array Oper}{d:Bool}(h:pT C st a w){r:AS}(hk:FJ E Γ an ops.toList d st some=some r){Q:Exit->Act->World->Prop}(hq:∀a' w',pT C r a' w'->Q .normal a' w'):(Code.region id ops d).wp P Q a w:=by
 unfold FJ at hk;cases d with
 |false=>apply wp_region;rw[List.range_eq_range'];exact ahO hS (K:=some) (r:=r) (λcc a' w' hs he=>by cases he;exact hq _ _ hs) ops.size 0 st a w (by omega) h (by simpa using hk)
 |true=>
  simp only[ah]at hk;cases hb:VT an ops.toList with
  |false=>rw[hb]at hk;cases hk
  |true=>
   rw[hb]at hk;simp only[ah]at hk;have ajA:=RP (E:=E) (Γ:=Γ.Iu) (an:=an) ops.toList (Vz ops.toList []) ops.size 0 st (by simp);rw[eI,hk]at ajA;unfold VT at hb;have ag6:=Ml ops.toList 0 hb;apply wp_region_any hS.mixed;have hs1:pT C st a {w with drawn:=w.drawn+1}:=h.grow (Fr.drew _ w)
   have:=alu (an:=an) (C:=C) (akq Γ) hS.Iu (ops:=ops) (X:=λk=>uu an (Vz ops.toList []) k 0 ops.toList) (Q:=Q) (r:=r)
    (λi o ho k hk=>by have:=(ag6 i o (by rw[cI];exact ho)).1 k hk;simpa using this)
    (λi j oi oj hji hi hj=>by have h1:=(ag6 i oi (by rw[cI];exact hi)).2;rw[cP]at h1;have h2:=Mk ops.toList 0 h1 j oj (by rw[cI];exact hj) (by omega);rw[cP,cJ]at h2;rcases h2 with h2|h2;exact .inl (λL hL hp=>aeB h2 oi hi L hL hp);exact .inr h2) hq (List.range' 0 ops.size) (Array.replicate ops.size false) st a {w with drawn:=w.drawn+1} List.pairwise_lt_range'
    (λi=>by
     rw[List.mem_range'_1];constructor;rintro⟨_,hi⟩;have wF:i<ops.size:=by omega
     exact⟨wF,by simp[Array.getD,wF]⟩;rintro⟨hi,_⟩;omega) (by simp)
    (λi o _ hl=>by exfalso;simp only[Array.getD,Array.size_replicate,Array.getInternal_eq_getElem,Array.getElem_replicate]at hl;split at hl<;>cases hl) hs1 ajA.symm
   rwa[List.length_range']at this
end
end Go.Dn
