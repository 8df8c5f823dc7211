import Derived.Test.YtgbaemfepmabgaaGreatDnDraw
/- A region whose order is drawn: whatever the order, the outcome is that of the text's order. -/
namespace Go.Dn
open Go.RowKit
variable {P:Program} {C:Ctx} {E:Env} {Γ:dm} {an:An}
variable {listed:Array Bool} {i:Nat}
def abQ (ops:Array Oper)(L:Nat->Prop):Prop:=∀i o,ops[i]?=some o->L i->∀k∈zu o,L k
theorem mem_ready {ops:Array Oper}(h:i∈Region.ready .any ops listed): ∃o,ops[i]?=some o/\i<ops.size/\listed.getD i true=false/\∀k∈zu o,listed.getD k false=true:=by
 unfold Region.ready at h;rw[List.mem_filter]at h;obtain⟨hi,h⟩:=h;have hlt:i<ops.size:=by simpa using hi
 simp only[ae,aH]at h;have ho:ops[i]?=some ops[i]:=Array.getElem?_eq_getElem hlt;rw[ho]at h;simp only[db,ff,Array.all_eq_true]at h;refine⟨ops[i],ho,hlt,h.1,λk hk=>?_⟩;simp only[zu,dP,List.mem_filter]at hk;obtain⟨e,⟨he,hb⟩,rfl⟩:=hk;obtain⟨j,hj,hje⟩:=Array.mem_iff_getElem.1 (Array.mem_toList_iff.1 he);have:=h.2 j hj;rw[hje]at this;simpa[hb]using this
theorem adG {ops:Array Oper}{o:Oper}(ho:ops[i]?=some o)(hl:listed.getD i true=false)(hp:∀k∈zu o,listed.getD k false=true):i∈Region.ready .any ops listed:=by have hlt:i<ops.size:=(Array.getElem?_eq_some_iff.1 ho).1;unfold Region.ready;rw[List.mem_filter];refine⟨by simpa using hlt,?_⟩;rw[ho,hl];simp only[br,bj,db,ff,Array.all_eq_true];intro j hj;cases hb:Region.binds .any o.after[j]with|false=>rfl|true=>simp only[aj,cz];refine hp _ ?_;simp only[zu,dP,List.mem_filter];exact⟨o.after[j],⟨by simp,hb⟩,rfl⟩
theorem aip (hΓ:∀f,(Γ f).io=false/\((Γ f).bx=true->(Γ f).cur=true)/\(Γ f).pr=false)(hS:Sound P E Γ){ops:Array Oper}{X:Nat->eG}{Q:Exit->Act->World->Prop}{r:AS}(hlt:∀i o,ops[i]?=some o->∀k∈zu o,k<i)(hpair:∀i j oi oj,j<i->ops[i]?=some oi->ops[j]?=some oj->(∀L:Nat->Prop,abQ ops L->(∀k∈zu oi,L k)->L j)\/JC an ops.toList (X j) (X i) oj oi=true)(hq:∀a w,nf C r a w->Q .normal a w): ∀(rem:eG)(listed:Array Bool)(st:AS)(a:Act)(w:World),rem.Pairwise (·<·)->(∀i,i∈rem↔i<ops.size/\listed.getD i true=false)->listed.size=ops.size-> (∀i o,ops[i]?=some o->listed.getD i false=true->∀k∈zu o,listed.getD k false=true)->nf C st a w->ML E Γ an ops.toList X rem st=some r-> wpAny P .any ops Q rem.length listed a w:=by
 intro rem;generalize hn:rem.length=n;induction n generalizing rem with
 |zero=>intro listed st a w _ hmem _ _ hs hr;have:rem=[]:=ca hn;subst this;cases hr;refine⟨?_,hq a w hs⟩;cases hrd:Region.ready .any ops listed with|nil=>rfl|cons i l=>obtain⟨o,ho,hi,hl,_⟩:=mem_ready (i:=i) (by rw[hrd];simp);have:=(hmem i).2 ⟨hi,hl⟩;cases this
 |succ n ih=>
  intro listed st a w hpw hmem hsz hcl hs hr;have htrue:∀k,k<ops.size->listed.getD k false= !(decide (k∈rem)):=by
   intro k hk;have h1:=hmem k;have hk':k<listed.size:=by omega
   simp only[Array.getD,hk',dite_true]at h1⊢;by_cases hm:k∈rem;have:=(h1.1 hm).2;simpa[hm]using this;have:¬(listed[k]=false):=λhf=>hm (h1.2 ⟨hk,hf⟩);simpa[hm]using this
  refine⟨λhnil=>?_,λi hi=>?_⟩;exfalso;cases rem with
  |nil=>simp at hn
  |cons i l=>
   have hi:=(hmem i).1 (by simp);have ho:ops[i]?=some ops[i]:=Array.getElem?_eq_getElem hi.1;have:i∈Region.ready .any ops listed:=by
    refine adG ho hi.2 λk hk=>?_;have hki:=hlt i _ ho k hk;rw[htrue k (by omega)];have:k∉i::l:=by intro hm;rcases bG.1 hm with rfl|hm;omega;have:=(List.pairwise_cons.1 hpw).1 k hm;omega
    simp[this]
   rw[hnil]at this;cases this
  ·obtain⟨oi,ho,hil,hlf,hpl⟩:=mem_ready hi;have hin:i∈rem:=(hmem i).2 ⟨hil,hlf⟩;obtain⟨pre,post,rfl⟩:=List.append_of_mem hin;have hnth:nth ops.toList i=some oi:=by rw[dI,Array.getElem?_toList];exact ho
   have hpw':=List.pairwise_append.1 hpw
   have hfront:=LM (E:=E) (Γ:=Γ) (an:=an) (X:=X) hΓ hnth pre post st r (λj hj oj hoj=>by
    have hji:j<i:=hpw'.2.2 j hj i (by simp);have hoj':ops[j]?=some oj:=by rw[dI,Array.getElem?_toList]at hoj;exact hoj
    rcases hpair i j oi oj hji ho hoj' with hanc|hap;exfalso;have hL:=hanc (λk=>listed.getD k false=true) (λk o hk hlk=>hcl k o hk hlk) hpl;have:=(hmem j).1 (by simp[hj]);simp only[htrue j this.1]at hL;simp[hj]at hL;exact hap) hr
   simp only[ML,hnth]at hfront;obtain⟨st1,h1,h2⟩:=aQ.1 hfront;have hg:gb E Γ an ops.toList oi st some=some st1:=by unfold cw at h1;cases hf:dv E an (X i) oi st with|false=>rw[hf]at h1;cases h1|true=>rw[hf]at h1;exact h1
   have hnd:i∉pre++post:=by intro hm;rcases ay.1 hm with hm|hm;have:=hpw'.2.2 i hm i (by simp);omega;have:=(List.pairwise_cons.1 hpw'.2.1).1 i hm;omega
   have hstep:=St (P:=P) (C:=C) (an:=an) hS (ops:=ops) hs hg (wpAny P .any ops Q n (listed.setIfInBounds i true)) Q (λst' a' w' hs' he=>by
    cases he;refine ih (pre++post) (by simp at hn⊢;omega) (listed.setIfInBounds i true) st1 a' w' ?_ ?_ (by simpa using hsz) ?_ hs' h2;exact List.Pairwise.sublist (List.Sublist.append (List.Sublist.refl _) (List.sublist_cons_self _ _)) hpw;intro k;have hk:=hmem k;by_cases hki:k=i;subst hki;constructor;intro hm;exact absurd hm hnd;rintro⟨_,hf⟩;simp[Array.getD_eq_getD_getElem?,show k<listed.size by omega]at hf;have hset:(listed.setIfInBounds i true).getD k true=listed.getD k true:=by simp[Array.getD_eq_getD_getElem?,cC hki]
    rw[hset,<-hk];simp[hki];intro k o hok hkl m hm;have hset:∀q,listed.getD q false=true->(listed.setIfInBounds i true).getD q false=true:=by
     intro q hq;simp only[Array.getD_eq_getD_getElem?,Array.getElem?_setIfInBounds]at hq⊢;split;·split<;>first|rfl|(rename_i h1 h2;subst h1;rw[Array.getElem?_eq_none (by omega)]at hq;exact hq)
     exact hq
    by_cases hki:k=i;subst hki;rw[ho]at hok;cases hok;exact hset m (hpl m hm);refine hset m (hcl k o hok ?_ m hm);simpa[Array.getD_eq_getD_getElem?,Array.getElem?_setIfInBounds,cC hki]using hkl)
   unfold wpOp;rw[ho];exact hstep
theorem Ws {a b:eG}{x:Nat}(h:x∈Q3 a b):x∈a\/x∈b:=by unfold Q3 at h;induction a generalizing b with|nil=>exact .inr h|cons y a ih=>rw[dq]at h;rcases ih h with h|h;exact .inl (by simp[h]);cases hc:b.contains y with|true=>rw[hc]at h;exact .inr h|false=>rw[hc]at h;rcases bG.1 h with rfl|h;exact .inl (by simp);exact .inr h
def abU (ops:Array Oper)(i j:Nat):Prop:=∀o,ops[i]?=some o->∀L:Nat->Prop,abQ ops L->(∀k∈zu o,L k)->L j
theorem MY {ops:Array Oper}:∀(r done:au Oper)(acc:au eG),ops.toList=done++r->acc.length=done.length->(∀i l,nth acc i=some l->∀j∈l,abU ops i j)->
 ∀i l,nth (Rb r acc) i=some l->∀j∈l,abU ops i j
 |[],done,acc,_,_,h=>h
 |o::r,done,acc,hops,hlen,h=>by
  refine MY r (done++[o]) _ (by rw[hops];simp) (by simp[hlen]) ?_;intro i l hl j hj;rw[dI]at hl;rcases bV i acc.length with hlt|hge;rw[List.getElem?_append_left hlt]at hl;exact h i l (by rw[dI];exact hl) j hj;rw[List.getElem?_append_right hge]at hl;have hi:i=acc.length:=by cases hk:i-acc.length with|zero=>omega|succ n=>rw[hk]at hl;simp at hl
  subst hi;simp only[gK,List.getElem?_cons_zero,bl]at hl;subst hl;have hoi:ops[acc.length]?=some o:=by rw[<-Array.getElem?_toList,hops,hlen,List.getElem?_append_right (ba _)];simp
  have key:∀(ps:eG)(s0:eG),(∀k∈ps,k∈zu o)->(∀x∈s0,abU ops acc.length x)->∀x∈ps.foldl (λs j=>Q3 (j::(nth acc j).getD []) s) s0,abU ops acc.length x:=by
   intro ps;induction ps with
   |nil=>intro s0 _ h0;exact h0
   |cons k ps ih=>
    intro s0 hps h0;rw[dq];refine ih _ (λm hm=>hps m (by simp[hm])) ?_;intro x hx;rcases Ws hx with hx|hx;intro o' ho' L hL hp;rw[hoi]at ho';cases ho';have hk:=hp k (hps k (by simp));rcases bG.1 hx with rfl|hx;exact hk;cases hak:nth acc k with
    |none=>rw[hak]at hx;cases hx
    |some l=>
     rw[hak]at hx;have hkl:k<acc.length:=by rw[dI]at hak;exact(List.getElem?_eq_some_iff.1 hak).1
     have hok:∃ok,ops[k]?=some ok:=by rw[<-Array.getElem?_toList,hops,List.getElem?_append_left (by omega)];exact⟨_,List.getElem?_eq_getElem (by omega)⟩
     obtain⟨ok,hok⟩:=hok;exact h k l hak x hx ok hok L hL (hL k ok hok hk)
    exact h0 x hx
  exact key (zu o) [] (λ_ h=>h) (by simp) j hj
theorem aaU {ops:Array Oper}{k:Nat}(h:aaT (Rb ops.toList []) i k=true):abU ops i k:=by unfold aaT at h;cases hl:nth (Rb ops.toList []) i with|none=>rw[hl]at h;simp at h|some l=>rw[hl]at h;exact MY ops.toList [] [] rfl rfl (λi l hl=>by simp[nth]at hl) i l hl k (by simpa using h)
theorem Ic {ops:au Oper}{A:au eG}{i:Nat}{oi:Oper}:∀(l:au Oper)(j:Nat),Lo an ops A i oi j l=true->∀k ok,l[k]?=some ok->j+k<i->(aaT A i (j+k)||JC an ops (rq an A (j+k) 0 ops) (rq an A i 0 ops) ok oi)=true
 |[],j,_,k,ok,hk,_=>by simp at hk
 |oj::l,j,h,k,ok,hk,hlt=>by
  simp only[Lo]at h;have hb:Nat.ble i j=false:=by cases hb:Nat.ble i j with|false=>rfl|true=>have:=Nat.le_of_ble_eq_true hb;omega
  rw[hb]at h;simp only[af,ae]at h;cases k with|zero=>simp at hk;subst hk;exact h.1|succ k=>have:=Ic l (j+1) h.2 k ok (by simpa using hk) (by omega);rwa[show j+1+k=j+(k+1) by omega]at this
theorem Ie {ops:au Oper}{A:au eG}:∀(l:au Oper)(i:Nat),QA an ops A i l=true->∀k ok,l[k]?=some ok->(∀m∈zu ok,m<i+k)/\Lo an ops A (i+k) ok 0 ops=true
 |[],i,_,k,ok,hk=>by simp at hk
 |o::l,i,h,k,ok,hk=>by simp only[QA,ae,aC]at h;cases k with|zero=>simp at hk;subst hk;exact⟨λm hm=>Nat.le_of_ble_eq_true (h.1.1 m hm),h.1.2⟩|succ k=>have:=Ie l (i+1) h.2 k ok (by simpa using hk);rwa[show i+1+k=i+(k+1) by omega]at this
section
variable {R:Type} {r:R} {st:AS} {a:Act} {w:World}
theorem Km (ops:au Oper)(A:au eG):∀(l:au Oper)(i:Nat)(st:AS)(K:AS->aw R),Dy E Γ an ops A i l st K=(Dy E Γ an ops A i l st some).bind K
 |[],i,st,K=>rfl
 |o::l,i,st,K=>by simp only[Dy];cases dv E an (rq an A i 0 ops) o st with|false=>rfl|true=>simp only[ah];rw[pC,pC (K:=λst'=>Dy E Γ an ops A (i+1) l st' some),Option.bind_assoc];congr 1;funext st';exact Km ops A l (i+1) st' K
theorem M7 (ops:au Oper)(A:au eG):∀(n i:Nat)(st:AS),i+n=ops.length->Dy E Γ an ops A i (ops.drop i) st some=ML E Γ an ops (λk=>rq an A k 0 ops) (List.range' i n) st
 |0,i,st,hi=>by rw[cQ (by omega)];rfl
 |n+1,i,st,hi=>by
  have hil:i<ops.length:=by omega
  rw[bQ hil,List.range'_succ];have ho:nth ops i=some ops[i]:=by rw[dI];exact List.getElem?_eq_getElem hil
  simp only[Dy,ML,ho,cw];cases dv E an (rq an A i 0 ops) ops[i] st with|false=>rfl|true=>simp only[ah];rw[pC];congr 1;funext st';exact M7 ops A n (i+1) st' (by omega)
theorem Ks (ops:au Oper)(d:Bool)(K:AS->aw R):Ce E Γ an ops d st K=(Ce E Γ an ops d st some).bind K:=by unfold Ce;cases d with|false=>exact NX ops ops st K|true=>simp only[ah];cases RP an ops with|false=>rfl|true=>exact Km ops _ ops 0 st K
theorem NQ (hΓ:∀f,(Γ f).io=false/\(Γ f).bx=false/\(Γ f).pr=false){ops:au Oper}{A:au eG}(hq:∀o∈ops,gn an (Eh ops) o=true):∀(l:au Oper)(i:Nat)(st st':AS),(∀o∈l,o∈ops)->Dy E Γ an ops A i l st some=some st'->ix (Eh ops) st st'
 |[],i,st,st',_,h=>by cases h;exact ix.refl _ _
 |o::l,i,st,st',hl,h=>by simp only[Dy]at h;cases hf:dv E an (rq an A i 0 ops) o st with|false=>rw[hf]at h;cases h|true=>rw[hf]at h;simp only[ah]at h;rw[pC]at h;cases hg:gb E Γ an ops o st some with|none=>rw[hg]at h;cases h|some st1=>rw[hg]at h;exact(Li hΓ (hl o (by simp)) (hq o (hl o (by simp))) hg).trans (NQ hΓ hq l (i+1) st1 st' (λo' ho'=>hl o' (by simp[ho'])) h)
theorem aaG (hΓ:∀f,(Γ f).io=false/\(Γ f).bx=false/\(Γ f).pr=false){ops:au Oper}{d:Bool}(hq:∀o∈ops,gn an (Eh ops) o=true){st':AS}(h:Ce E Γ an ops d st some=some st'):ix (Eh ops) st st':=by unfold Ce at h;cases d with|false=>exact TN hΓ hq ops st st' (λ_ h=>h) h|true=>simp only[ah]at h;cases hb:RP an ops with|false=>rw[hb]at h;cases h|true=>rw[hb]at h;exact NQ (ahb hΓ) hq ops 0 st st' (λ_ h=>h) h
theorem X5 (hS:Sound P E Γ){id:Nat}{ops:Array Oper}{d:Bool}(h:nf C st a w){r:AS}(hk:Ce E Γ an ops.toList d st some=some r){Q:Exit->Act->World->Prop}(hq:∀a' w',nf C r a' w'->Q .normal a' w'):(Code.region id ops d).wp P Q a w:=by
 unfold Ce at hk;cases d with
 |false=>apply wp_region;rw[List.range_eq_range'];exact adt hS (K:=some) (r:=r) (λst' a' w' hs he=>by cases he;exact hq _ _ hs) ops.size 0 st a w (by omega) h (by simpa using hk)
 |true=>
  simp only[ah]at hk;cases hb:RP an ops.toList with
  |false=>rw[hb]at hk;cases hk
  |true=>
   rw[hb]at hk;simp only[ah]at hk;have hseq:=M7 (E:=E) (Γ:=Γ.EN) (an:=an) ops.toList (Rb ops.toList []) ops.size 0 st (by simp);rw[eD,hk]at hseq;unfold RP at hb;have hpairs:=Ie ops.toList 0 hb;apply wp_region_any hS.mixed;have hs1:nf C st a {w with drawn:=w.drawn+1}:=h.grow (Fr.drew _ w)
   have:=aip (an:=an) (C:=C) (aha Γ) hS.EN (ops:=ops) (X:=λk=>rq an (Rb ops.toList []) k 0 ops.toList) (Q:=Q) (r:=r)
    (λi o ho k hk=>by have:=(hpairs i o (by rw[Array.getElem?_toList];exact ho)).1 k hk;simpa using this)
    (λi j oi oj hji hi hj=>by have h1:=(hpairs i oi (by rw[Array.getElem?_toList];exact hi)).2;rw[cg]at h1;have h2:=Ic ops.toList 0 h1 j oj (by rw[Array.getElem?_toList];exact hj) (by omega);rw[cg,cB]at h2;rcases h2 with h2|h2;exact .inl (λL hL hp=>aaU h2 oi hi L hL hp);exact .inr h2) hq (List.range' 0 ops.size) (Array.replicate ops.size false) st a {w with drawn:=w.drawn+1} List.pairwise_lt_range'
    (λi=>by
     rw[List.mem_range'_1];constructor;rintro⟨_,hi⟩;have hi':i<ops.size:=by omega
     exact⟨hi',by simp[Array.getD,hi']⟩;rintro⟨hi,_⟩;omega) (by simp)
    (λi o _ hl=>by exfalso;simp only[Array.getD,Array.size_replicate,Array.getInternal_eq_getElem,Array.getElem_replicate]at hl;split at hl<;>cases hl) hs1 hseq.symm
   rwa[List.length_range']at this
end
end Go.Dn
