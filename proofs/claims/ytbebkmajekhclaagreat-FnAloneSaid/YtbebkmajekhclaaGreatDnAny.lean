import Derived.Test.YtbebkmajekhclaaGreatDnDraw
/- A region whose order is drawn: whatever the order, the outcome is that of the text's order. -/
namespace Go.Dn
open Go.RowKit
variable {P:Program} {C:Ctx} {E:Env} {Γ:BA} {an:An}
variable {jx:Array Bool} {i:Nat} {A:aw fE}
def ag5 (ops:Array Oper)(L:Nat->Prop):Prop:=∀i o,ops[i]?=some o->L i->∀k∈CU o,L k
theorem mem_ready {ops:Array Oper}(h:i∈Region.ready .any ops jx): ∃o,ops[i]?=some o/\i<ops.size/\jx.getD i true=false/\∀k∈CU o,jx.getD k false=true:=by
 unfold Region.ready at h;rw[List.mem_filter]at h;obtain⟨hi,h⟩:=h;have gF:i<ops.size:=by simpa using hi
 simp only[ae,aK]at h;have ho:ops[i]?=some ops[i]:=Array.getElem?_eq_getElem gF;rw[ho]at h;simp only[dE,ga,Array.all_eq_true]at h;refine⟨ops[i],ho,gF,h.1,λk hk=>?_⟩;simp only[CU,eF,List.mem_filter]at hk;obtain⟨e,⟨he,hb⟩,rfl⟩:=hk;obtain⟨j,hj,hje⟩:=Array.mem_iff_getElem.1 (Array.mem_toList_iff.1 he);have:=h.2 j hj;rw[hje]at this;simpa[hb]using this
theorem ajD {ops:Array Oper}{o:Oper}(ho:ops[i]?=some o)(hl:jx.getD i true=false)(hp:∀k∈CU o,jx.getD k false=true):i∈Region.ready .any ops jx:=by have gF:i<ops.size:=(Array.getElem?_eq_some_iff.1 ho).1;unfold Region.ready;rw[List.mem_filter];refine⟨by simpa using gF,?_⟩;rw[ho,hl];simp only[bw,bl,dE,ga,Array.all_eq_true];intro j hj;cases hb:Region.binds .any o.after[j]with|false=>rfl|true=>simp only[aj,cA];refine hp _ ?_;simp only[CU,eF,List.mem_filter];exact⟨o.after[j],⟨by simp,hb⟩,rfl⟩
theorem anF (Cq:∀f,(Γ f).io=false/\((Γ f).bx=true->(Γ f).cur=true)/\(Γ f).pr=false)(hS:Sound P E Γ){ops:Array Oper}{X:Nat->fE}{Q:Exit->Act->World->Prop}{r:AS}(gF:∀i o,ops[i]?=some o->∀k∈CU o,k<i)(aqs:∀i j oi oj,j<i->ops[i]?=some oi->ops[j]?=some oj->(∀L:Nat->Prop,ag5 ops L->(∀k∈CU oi,L k)->L j)\/N1 an ops.toList (X j) (X i) oj oi=true)(hq:∀a w,pc C r a w->Q .normal a w): ∀(rem:fE)(jx:Array Bool)(st:AS)(a:Act)(w:World),rem.Pairwise (·<·)->(∀i,i∈rem↔i<ops.size/\jx.getD i true=false)->jx.size=ops.size-> (∀i o,ops[i]?=some o->jx.getD i false=true->∀k∈CU o,jx.getD k false=true)->pc C st a w->Rl E Γ an ops.toList X rem st=some r-> wpAny P .any ops Q rem.length jx a w:=by
 intro rem;generalize hn:rem.length=n;induction n generalizing rem with
 |zero=>intro jx st a w _ Dg _ _ hs hr;have:rem=[]:=cm hn;subst this;cases hr;refine⟨?_,hq a w hs⟩;cases O2:Region.ready .any ops jx with|nil=>rfl|cons i l=>obtain⟨o,ho,hi,hl,_⟩:=mem_ready (i:=i) (by rw[O2];simp);have:=(Dg i).2 ⟨hi,hl⟩;cases this
 |succ n ih=>
  intro jx st a w hpw Dg vB hcl hs hr;have amP:∀k,k<ops.size->jx.getD k false= !(decide (k∈rem)):=by
   intro k hk;have h1:=Dg k;have FU:k<jx.size:=by omega
   simp only[Array.getD,FU,dite_true]at h1⊢;by_cases hm:k∈rem;have:=(h1.1 hm).2;simpa[hm]using this;have:¬(jx[k]=false):=λhf=>hm (h1.2 ⟨hk,hf⟩);simpa[hm]using this
  refine⟨λan8=>?_,λi hi=>?_⟩;exfalso;cases rem with
  |nil=>simp at hn
  |cons i l=>
   have hi:=(Dg i).1 (by simp);have ho:ops[i]?=some ops[i]:=Array.getElem?_eq_getElem hi.1;have:i∈Region.ready .any ops jx:=by
    refine ajD ho hi.2 λk hk=>?_;have hki:=gF i _ ho k hk;rw[amP k (by omega)];have:k∉i::l:=by intro hm;rcases bM.1 hm with rfl|hm;omega;have:=(List.pairwise_cons.1 hpw).1 k hm;omega
    simp[this]
   rw[an8]at this;cases this
  ·obtain⟨oi,ho,NJ,hlf,GZ⟩:=mem_ready hi;have tV:i∈rem:=(Dg i).2 ⟨NJ,hlf⟩;obtain⟨pre,post,rfl⟩:=List.append_of_mem tV;have aqo:nth ops.toList i=some oi:=by rw[ej,cD];exact ho
   have aof:=List.pairwise_append.1 hpw
   have aiw:=P8 (E:=E) (Γ:=Γ) (an:=an) (X:=X) Cq aqo pre post st r (λj hj oj hoj=>by
    have hji:j<i:=aof.2.2 j hj i (by simp);have avC:ops[j]?=some oj:=by rw[ej,cD]at hoj;exact hoj
    rcases aqs i j oi oj hji ho avC with avc|hap;exfalso;have hL:=avc (λk=>jx.getD k false=true) (λk o hk ZE=>hcl k o hk ZE) GZ;have:=(Dg j).1 (by simp[hj]);simp only[amP j this.1]at hL;simp[hj]at hL;exact hap) hr
   simp only[Rl,aqo]at aiw;obtain⟨st1,h1,h2⟩:=aS.1 aiw;have hg:gX E Γ an ops.toList oi st some=some st1:=by unfold cK at h1;cases hf:dP E an (X i) oi st with|false=>rw[hf]at h1;cases h1|true=>rw[hf]at h1;exact h1
   have GX:i∉pre++post:=by intro hm;rcases az.1 hm with hm|hm;have:=aof.2.2 i hm i (by simp);omega;have:=(List.pairwise_cons.1 aof.2.1).1 i hm;omega
   have aqx:=W3 (P:=P) (C:=C) (an:=an) hS (ops:=ops) hs hg (wpAny P .any ops Q n (jx.setIfInBounds i true)) Q (λbU a' w' xJ he=>by
    cases he;refine ih (pre++post) (by simp at hn⊢;omega) (jx.setIfInBounds i true) st1 a' w' ?_ ?_ (by simpa using vB) ?_ xJ h2;exact List.Pairwise.sublist (List.Sublist.append (List.Sublist.refl _) (List.sublist_cons_self _ _)) hpw;intro k;have hk:=Dg k;by_cases hki:k=i;subst hki;constructor;intro hm;exact absurd hm GX;rintro⟨_,hf⟩;simp[dR,show k<jx.size by omega]at hf;have FX:(jx.setIfInBounds i true).getD k true=jx.getD k true:=by simp[dR,cR hki]
    rw[FX,<-hk];simp[hki];intro k o oY Xa m hm;have FX:∀q,jx.getD q false=true->(jx.setIfInBounds i true).getD q false=true:=by
     intro q hq;simp only[dR,Array.getElem?_setIfInBounds]at hq⊢;split;·split<;>first|rfl|(rename_i h1 h2;subst h1;rw[Array.getElem?_eq_none (by omega)]at hq;exact hq)
     exact hq
    by_cases hki:k=i;subst hki;rw[ho]at oY;cases oY;exact FX m (GZ m hm);refine FX m (hcl k o oY ?_ m hm);simpa[dR,Array.getElem?_setIfInBounds,cR hki]using Xa)
   unfold wpOp;rw[ho];exact aqx
theorem abS {a b:fE}{x:Nat}(h:x∈VF a b):x∈a\/x∈b:=by unfold VF at h;induction a generalizing b with|nil=>exact .inr h|cons y a ih=>rw[dp]at h;rcases ih h with h|h;exact .inl (by simp[h]);cases hc:b.contains y with|true=>rw[hc]at h;exact .inr h|false=>rw[hc]at h;rcases bM.1 h with rfl|h;exact .inl (by simp);exact .inr h
def aha (ops:Array Oper)(i j:Nat):Prop:=∀o,ops[i]?=some o->∀L:Nat->Prop,ag5 ops L->(∀k∈CU o,L k)->L j
theorem RA {ops:Array Oper}:∀(r done:aw Oper)(acc:aw fE),ops.toList=done++r->acc.length=done.length->(∀i l,nth acc i=some l->∀j∈l,aha ops i j)->
 ∀i l,nth (VW r acc) i=some l->∀j∈l,aha ops i j
 |[],done,acc,_,_,h=>h
 |o::r,done,acc,aod,hlen,h=>by
  refine RA r (done++[o]) _ (by rw[aod];simp) (by simp[hlen]) ?_;intro i l hl j hj;rw[ej]at hl;rcases cn i acc.length with gF|BQ;rw[bE gF]at hl;exact h i l (by rw[ej];exact hl) j hj;rw[bz BQ]at hl;have hi:i=acc.length:=by cases hk:i-acc.length with|zero=>omega|succ n=>rw[hk]at hl;simp at hl
  subst hi;simp only[jg,cC,bp]at hl;subst hl;have hoi:ops[acc.length]?=some o:=by rw[<-cD,aod,hlen,bz (bh _)];simp
  have key:∀(ps:fE)(s0:fE),(∀k∈ps,k∈CU o)->(∀x∈s0,aha ops acc.length x)->∀x∈ps.foldl (λs j=>VF (j::(nth acc j).getD []) s) s0,aha ops acc.length x:=by
   intro ps;induction ps with
   |nil=>intro s0 _ h0;exact h0
   |cons k ps ih=>
    intro s0 hps h0;rw[dp];refine ih _ (λm hm=>hps m (by simp[hm])) ?_;intro x hx;rcases abS hx with hx|hx;intro o' Ni L hL hp;rw[hoi]at Ni;cases Ni;have hk:=hp k (hps k (by simp));rcases bM.1 hx with rfl|hx;exact hk;cases hak:nth acc k with
    |none=>rw[hak]at hx;cases hx
    |some l=>
     rw[hak]at hx;have Xa:k<acc.length:=by rw[ej]at hak;exact(aC.1 hak).1
     have oY:∃ok,ops[k]?=some ok:=by rw[<-cD,aod,bE (by omega)];exact⟨_,ak (by omega)⟩
     obtain⟨ok,oY⟩:=oY;exact h k l hak x hx ok oY L hL (hL k ok oY hk)
    exact h0 x hx
  exact key (CU o) [] (λ_ h=>h) (by simp) j hj
theorem af2 {ops:Array Oper}{k:Nat}(h:af1 (VW ops.toList []) i k=true):aha ops i k:=by unfold af1 at h;cases hl:nth (VW ops.toList []) i with|none=>rw[hl]at h;simp at h|some l=>rw[hl]at h;exact RA ops.toList [] [] rfl rfl (λi l hl=>by simp[nth]at hl) i l hl k (by simpa using h)
theorem Mx {ops:aw Oper}{oi:Oper}:∀(l:aw Oper)(j:Nat),PI an ops A i oi j l=true->∀k ok,l[k]?=some ok->j+k<i->(af1 A i (j+k)||N1 an ops (tZ an A (j+k) 0 ops) (tZ an A i 0 ops) ok oi)=true
 |[],j,_,k,ok,hk,_=>by simp at hk
 |oj::l,j,h,k,ok,hk,gF=>by
  simp only[PI]at h;have hb:Nat.ble i j=false:=by cases hb:Nat.ble i j with|false=>rfl|true=>have:=Nat.le_of_ble_eq_true hb;omega
  rw[hb]at h;simp only[af,ae]at h;cases k with|zero=>simp at hk;subst hk;exact h.1|succ k=>have:=Mx l (j+1) h.2 k ok (by simpa using hk) (by omega);rwa[show j+1+k=j+(k+1) by omega]at this
theorem My {ops:aw Oper}:∀(l:aw Oper)(i:Nat),U9 an ops A i l=true->∀k ok,l[k]?=some ok->(∀m∈CU ok,m<i+k)/\PI an ops A (i+k) ok 0 ops=true
 |[],i,_,k,ok,hk=>by simp at hk
 |o::l,i,h,k,ok,hk=>by simp only[U9,ae,aD]at h;cases k with|zero=>simp at hk;subst hk;exact⟨λm hm=>Nat.le_of_ble_eq_true (h.1.1 m hm),h.1.2⟩|succ k=>have:=My l (i+1) h.2 k ok (by simpa using hk);rwa[show i+1+k=i+(k+1) by omega]at this
section
variable {R:Type} {r:R} {st:AS} {a:Act} {w:World}
theorem Ov (ops:aw Oper)(A:aw fE):∀(l:aw Oper)(i:Nat)(st:AS)(K:AS->ay R),Hq E Γ an ops A i l st K=(Hq E Γ an ops A i l st some).bind K
 |[],i,st,K=>rfl
 |o::l,i,st,K=>by simp only[Hq];cases dP E an (tZ an A i 0 ops) o st with|false=>rfl|true=>simp only[ah];rw[rO,rO (K:=λbU=>Hq E Γ an ops A (i+1) l bU some),Option.bind_assoc];congr 1;funext bU;exact Ov ops A l (i+1) bU K
theorem RJ (ops:aw Oper)(A:aw fE):∀(n i:Nat)(st:AS),i+n=ops.length->Hq E Γ an ops A i (ops.drop i) st some=Rl E Γ an ops (λk=>tZ an A k 0 ops) (List.range' i n) st
 |0,i,st,hi=>by rw[dg (by omega)];rfl
 |n+1,i,st,hi=>by
  have NJ:i<ops.length:=by omega
  rw[ca NJ,List.range'_succ];have ho:nth ops i=some ops[i]:=by rw[ej];exact ak NJ
  simp only[Hq,Rl,ho,cK];cases dP E an (tZ an A i 0 ops) ops[i] st with|false=>rfl|true=>simp only[ah];rw[rO];congr 1;funext bU;exact RJ ops A n (i+1) bU (by omega)
theorem OB (ops:aw Oper)(d:Bool)(K:AS->ay R):FE E Γ an ops d st K=(FE E Γ an ops d st some).bind K:=by unfold FE;cases d with|false=>exact SL ops ops st K|true=>simp only[ah];cases Wr an ops with|false=>rfl|true=>exact Ov ops _ ops 0 st K
theorem SC (Cq:∀f,(Γ f).io=false/\(Γ f).bx=false/\(Γ f).pr=false){ops:aw Oper}{A:aw fE}(hq:∀o∈ops,hH an (Ib ops) o=true):∀(l:aw Oper)(i:Nat)(st bU:AS),(∀o∈l,o∈ops)->Hq E Γ an ops A i l st some=some bU->js (Ib ops) st bU
 |[],i,st,bU,_,h=>by cases h;exact js.refl _ _
 |o::l,i,st,bU,hl,h=>by simp only[Hq]at h;cases hf:dP E an (tZ an A i 0 ops) o st with|false=>rw[hf]at h;cases h|true=>rw[hf]at h;simp only[ah]at h;rw[rO]at h;cases hg:gX E Γ an ops o st some with|none=>rw[hg]at h;cases h|some st1=>rw[hg]at h;exact(PB Cq (hl o (by simp)) (hq o (hl o (by simp))) hg).trans (SC Cq hq l (i+1) st1 bU (λo' Ni=>hl o' (by simp[Ni])) h)
theorem afT (Cq:∀f,(Γ f).io=false/\(Γ f).bx=false/\(Γ f).pr=false){ops:aw Oper}{d:Bool}(hq:∀o∈ops,hH an (Ib ops) o=true){bU:AS}(h:FE E Γ an ops d st some=some bU):js (Ib ops) st bU:=by unfold FE at h;cases d with|false=>exact Yh Cq hq ops st bU (λ_ h=>h) h|true=>simp only[ah]at h;cases hb:Wr an ops with|false=>rw[hb]at h;cases h|true=>rw[hb]at h;exact SC (amd Cq) hq ops 0 st bU (λ_ h=>h) h
theorem adl (hS:Sound P E Γ){id:Nat}{ops:Array Oper}{d:Bool}(h:pc C st a w){r:AS}(hk:FE E Γ an ops.toList d st some=some r){Q:Exit->Act->World->Prop}(hq:∀a' w',pc C r a' w'->Q .normal a' w'):(Code.region id ops d).wp P Q a w:=by
 unfold FE at hk;cases d with
 |false=>apply wp_region;rw[List.range_eq_range'];exact ajq hS (K:=some) (r:=r) (λbU a' w' hs he=>by cases he;exact hq _ _ hs) ops.size 0 st a w (by omega) h (by simpa using hk)
 |true=>
  simp only[ah]at hk;cases hb:Wr an ops.toList with
  |false=>rw[hb]at hk;cases hk
  |true=>
   rw[hb]at hk;simp only[ah]at hk;have aqv:=RJ (E:=E) (Γ:=Γ.IJ) (an:=an) ops.toList (VW ops.toList []) ops.size 0 st (by simp);rw[ez,hk]at aqv;unfold Wr at hb;have aiC:=My ops.toList 0 hb;apply wp_region_any hS.mixed;have hs1:pc C st a {w with drawn:=w.drawn+1}:=h.grow (Fr.drew _ w)
   have:=anF (an:=an) (C:=C) (amc Γ) hS.IJ (ops:=ops) (X:=λk=>tZ an (VW ops.toList []) k 0 ops.toList) (Q:=Q) (r:=r)
    (λi o ho k hk=>by have:=(aiC i o (by rw[cD];exact ho)).1 k hk;simpa using this)
    (λi j oi oj hji hi hj=>by have h1:=(aiC i oi (by rw[cD];exact hi)).2;rw[cx]at h1;have h2:=Mx ops.toList 0 h1 j oj (by rw[cD];exact hj) (by omega);rw[cx,cQ]at h2;rcases h2 with h2|h2;exact .inl (λL hL hp=>af2 h2 oi hi L hL hp);exact .inr h2) hq (List.range' 0 ops.size) (Array.replicate ops.size false) st a {w with drawn:=w.drawn+1} List.pairwise_lt_range'
    (λi=>by
     rw[List.mem_range'_1];constructor;rintro⟨_,hi⟩;have uL:i<ops.size:=by omega
     exact⟨uL,by simp[Array.getD,uL]⟩;rintro⟨hi,_⟩;omega) (by simp)
    (λi o _ hl=>by exfalso;simp only[Array.getD,Array.size_replicate,Array.getInternal_eq_getElem,Array.getElem_replicate]at hl;split at hl<;>cases hl) hs1 aqv.symm
   rwa[List.length_range']at this
end
end Go.Dn
