import Derived.Test.YtgbaemfepmabgaaGreatDnDraw
/- A region whose order is drawn: whatever the order, the outcome is that of the text's order. -/
namespace Go.Dn
open Go.RowKit
variable {P:Program} {C:Ctx} {E:Env} {Γ:dK} {an:An}
variable {listed:Array Bool} {i:Nat}
def acQ (ops:Array Oper)(L:Nat->Prop):Prop:=∀i o,ops[i]?=some o->L i->∀k∈AR o,L k
theorem mem_ready {ops:Array Oper}(h:i∈Region.ready .any ops listed): ∃o,ops[i]?=some o/\i<ops.size/\listed.getD i true=false/\∀k∈AR o,listed.getD k false=true:=by
 unfold Region.ready at h;rw[List.mem_filter]at h;obtain⟨hi,h⟩:=h;have hlt:i<ops.size:=by simpa using hi
 simp only[ae,aJ]at h;have ho:ops[i]?=some ops[i]:=Array.getElem?_eq_getElem hlt;rw[ho]at h;simp only[dB,fT,Array.all_eq_true]at h;refine⟨ops[i],ho,hlt,h.1,λk hk=>?_⟩;simp only[AR,eF,List.mem_filter]at hk;obtain⟨e,⟨he,hb⟩,rfl⟩:=hk;obtain⟨j,hj,hje⟩:=Array.mem_iff_getElem.1 (Array.mem_toList_iff.1 he);have:=h.2 j hj;rw[hje]at this;simpa[hb]using this
theorem aeD {ops:Array Oper}{o:Oper}(ho:ops[i]?=some o)(hl:listed.getD i true=false)(hp:∀k∈AR o,listed.getD k false=true):i∈Region.ready .any ops listed:=by have hlt:i<ops.size:=(Array.getElem?_eq_some_iff.1 ho).1;unfold Region.ready;rw[List.mem_filter];refine⟨by simpa using hlt,?_⟩;rw[ho,hl];simp only[bz,bq,dB,fT,Array.all_eq_true];intro j hj;cases hb:Region.binds .any o.after[j]with|false=>rfl|true=>simp only[aj,cP];refine hp _ ?_;simp only[AR,eF,List.mem_filter];exact⟨o.after[j],⟨by simp,hb⟩,rfl⟩
theorem ajk (hΓ:∀f,(Γ f).io=false/\((Γ f).bx=true->(Γ f).cur=true)/\(Γ f).pr=false)(hS:Sound P E Γ){ops:Array Oper}{X:Nat->fu}{Q:Exit->Act->World->Prop}{r:AS}(hlt:∀i o,ops[i]?=some o->∀k∈AR o,k<i)(hpair:∀i j oi oj,j<i->ops[i]?=some oi->ops[j]?=some oj->(∀L:Nat->Prop,acQ ops L->(∀k∈AR oi,L k)->L j)\/KF an ops.toList (X j) (X i) oj oi=true)(hq:∀a w,oa C r a w->Q .normal a w): ∀(rem:fu)(listed:Array Bool)(st:AS)(a:Act)(w:World),rem.Pairwise (·<·)->(∀i,i∈rem↔i<ops.size/\listed.getD i true=false)->listed.size=ops.size-> (∀i o,ops[i]?=some o->listed.getD i false=true->∀k∈AR o,listed.getD k false=true)->oa C st a w->NS E Γ an ops.toList X rem st=some r-> wpAny P .any ops Q rem.length listed a w:=by
 intro rem;generalize hn:rem.length=n;induction n generalizing rem with
 |zero=>intro listed st a w _ hmem _ _ hs hr;have:rem=[]:=cp hn;subst this;cases hr;refine⟨?_,hq a w hs⟩;cases hrd:Region.ready .any ops listed with|nil=>rfl|cons i l=>obtain⟨o,ho,hi,hl,_⟩:=mem_ready (i:=i) (by rw[hrd];simp);have:=(hmem i).2 ⟨hi,hl⟩;cases this
 |succ n ih=>
  intro listed st a w hpw hmem hsz hcl hs hr;have htrue:∀k,k<ops.size->listed.getD k false= !(decide (k∈rem)):=by
   intro k hk;have h1:=hmem k;have hk':k<listed.size:=by omega
   simp only[Array.getD,hk',dite_true]at h1⊢;by_cases hm:k∈rem;have:=(h1.1 hm).2;simpa[hm]using this;have:¬(listed[k]=false):=λhf=>hm (h1.2 ⟨hk,hf⟩);simpa[hm]using this
  refine⟨λhnil=>?_,λi hi=>?_⟩;exfalso;cases rem with
  |nil=>simp at hn
  |cons i l=>
   have hi:=(hmem i).1 (by simp);have ho:ops[i]?=some ops[i]:=Array.getElem?_eq_getElem hi.1;have:i∈Region.ready .any ops listed:=by
    refine aeD ho hi.2 λk hk=>?_;have hki:=hlt i _ ho k hk;rw[htrue k (by omega)];have:k∉i::l:=by intro hm;rcases bQ.1 hm with rfl|hm;omega;have:=(List.pairwise_cons.1 hpw).1 k hm;omega
    simp[this]
   rw[hnil]at this;cases this
  ·obtain⟨oi,ho,hil,hlf,hpl⟩:=mem_ready hi;have hin:i∈rem:=(hmem i).2 ⟨hil,hlf⟩;obtain⟨pre,post,rfl⟩:=List.append_of_mem hin;have hnth:nth ops.toList i=some oi:=by rw[ei,cB];exact ho
   have hpw':=List.pairwise_append.1 hpw
   have hfront:=MQ (E:=E) (Γ:=Γ) (an:=an) (X:=X) hΓ hnth pre post st r (λj hj oj hoj=>by
    have hji:j<i:=hpw'.2.2 j hj i (by simp);have hoj':ops[j]?=some oj:=by rw[ei,cB]at hoj;exact hoj
    rcases hpair i j oi oj hji ho hoj' with hanc|hap;exfalso;have hL:=hanc (λk=>listed.getD k false=true) (λk o hk hlk=>hcl k o hk hlk) hpl;have:=(hmem j).1 (by simp[hj]);simp only[htrue j this.1]at hL;simp[hj]at hL;exact hap) hr
   simp only[NS,hnth]at hfront;obtain⟨st1,h1,h2⟩:=aU.1 hfront;have hg:gP E Γ an ops.toList oi st some=some st1:=by unfold cI at h1;cases hf:dM E an (X i) oi st with|false=>rw[hf]at h1;cases h1|true=>rw[hf]at h1;exact h1
   have hnd:i∉pre++post:=by intro hm;rcases ay.1 hm with hm|hm;have:=hpw'.2.2 i hm i (by simp);omega;have:=(List.pairwise_cons.1 hpw'.2.1).1 i hm;omega
   have hstep:=TA (P:=P) (C:=C) (an:=an) hS (ops:=ops) hs hg (wpAny P .any ops Q n (listed.setIfInBounds i true)) Q (λst' a' w' hs' he=>by
    cases he;refine ih (pre++post) (by simp at hn⊢;omega) (listed.setIfInBounds i true) st1 a' w' ?_ ?_ (by simpa using hsz) ?_ hs' h2;exact List.Pairwise.sublist (List.Sublist.append (List.Sublist.refl _) (List.sublist_cons_self _ _)) hpw;intro k;have hk:=hmem k;by_cases hki:k=i;subst hki;constructor;intro hm;exact absurd hm hnd;rintro⟨_,hf⟩;simp[dP,show k<listed.size by omega]at hf;have hset:(listed.setIfInBounds i true).getD k true=listed.getD k true:=by simp[dP,cR hki]
    rw[hset,<-hk];simp[hki];intro k o hok hkl m hm;have hset:∀q,listed.getD q false=true->(listed.setIfInBounds i true).getD q false=true:=by
     intro q hq;simp only[dP,Array.getElem?_setIfInBounds]at hq⊢;split;·split<;>first|rfl|(rename_i h1 h2;subst h1;rw[Array.getElem?_eq_none (by omega)]at hq;exact hq)
     exact hq
    by_cases hki:k=i;subst hki;rw[ho]at hok;cases hok;exact hset m (hpl m hm);refine hset m (hcl k o hok ?_ m hm);simpa[dP,Array.getElem?_setIfInBounds,cR hki]using hkl)
   unfold wpOp;rw[ho];exact hstep
theorem Xy {a b:fu}{x:Nat}(h:x∈Sc a b):x∈a\/x∈b:=by unfold Sc at h;induction a generalizing b with|nil=>exact .inr h|cons y a ih=>rw[dL]at h;rcases ih h with h|h;exact .inl (by simp[h]);cases hc:b.contains y with|true=>rw[hc]at h;exact .inr h|false=>rw[hc]at h;rcases bQ.1 h with rfl|h;exact .inl (by simp);exact .inr h
def acU (ops:Array Oper)(i j:Nat):Prop:=∀o,ops[i]?=some o->∀L:Nat->Prop,acQ ops L->(∀k∈AR o,L k)->L j
theorem N5 {ops:Array Oper}:∀(r done:aw Oper)(acc:aw fu),ops.toList=done++r->acc.length=done.length->(∀i l,nth acc i=some l->∀j∈l,acU ops i j)->
 ∀i l,nth (Sl r acc) i=some l->∀j∈l,acU ops i j
 |[],done,acc,_,_,h=>h
 |o::r,done,acc,hops,hlen,h=>by
  refine N5 r (done++[o]) _ (by rw[hops];simp) (by simp[hlen]) ?_;intro i l hl j hj;rw[ei]at hl;rcases cq i acc.length with hlt|hge;rw[bD hlt]at hl;exact h i l (by rw[ei];exact hl) j hj;rw[bA hge]at hl;have hi:i=acc.length:=by cases hk:i-acc.length with|zero=>omega|succ n=>rw[hk]at hl;simp at hl
  subst hi;simp only[iT,cA,br]at hl;subst hl;have hoi:ops[acc.length]?=some o:=by rw[<-cB,hops,hlen,bA (bh _)];simp
  have key:∀(ps:fu)(s0:fu),(∀k∈ps,k∈AR o)->(∀x∈s0,acU ops acc.length x)->∀x∈ps.foldl (λs j=>Sc (j::(nth acc j).getD []) s) s0,acU ops acc.length x:=by
   intro ps;induction ps with
   |nil=>intro s0 _ h0;exact h0
   |cons k ps ih=>
    intro s0 hps h0;rw[dL];refine ih _ (λm hm=>hps m (by simp[hm])) ?_;intro x hx;rcases Xy hx with hx|hx;intro o' ho' L hL hp;rw[hoi]at ho';cases ho';have hk:=hp k (hps k (by simp));rcases bQ.1 hx with rfl|hx;exact hk;cases hak:nth acc k with
    |none=>rw[hak]at hx;cases hx
    |some l=>
     rw[hak]at hx;have hkl:k<acc.length:=by rw[ei]at hak;exact(aC.1 hak).1
     have hok:∃ok,ops[k]?=some ok:=by rw[<-cB,hops,bD (by omega)];exact⟨_,al (by omega)⟩
     obtain⟨ok,hok⟩:=hok;exact h k l hak x hx ok hok L hL (hL k ok hok hk)
    exact h0 x hx
  exact key (AR o) [] (λ_ h=>h) (by simp) j hj
theorem abR {ops:Array Oper}{k:Nat}(h:abQ (Sl ops.toList []) i k=true):acU ops i k:=by unfold abQ at h;cases hl:nth (Sl ops.toList []) i with|none=>rw[hl]at h;simp at h|some l=>rw[hl]at h;exact N5 ops.toList [] [] rfl rfl (λi l hl=>by simp[nth]at hl) i l hl k (by simpa using h)
theorem Jn {ops:aw Oper}{A:aw fu}{i:Nat}{oi:Oper}:∀(l:aw Oper)(j:Nat),Mu an ops A i oi j l=true->∀k ok,l[k]?=some ok->j+k<i->(abQ A i (j+k)||KF an ops (sI an A (j+k) 0 ops) (sI an A i 0 ops) ok oi)=true
 |[],j,_,k,ok,hk,_=>by simp at hk
 |oj::l,j,h,k,ok,hk,hlt=>by
  simp only[Mu]at h;have hb:Nat.ble i j=false:=by cases hb:Nat.ble i j with|false=>rfl|true=>have:=Nat.le_of_ble_eq_true hb;omega
  rw[hb]at h;simp only[af,ae]at h;cases k with|zero=>simp at hk;subst hk;exact h.1|succ k=>have:=Jn l (j+1) h.2 k ok (by simpa using hk) (by omega);rwa[show j+1+k=j+(k+1) by omega]at this
theorem Jo {ops:aw Oper}{A:aw fu}:∀(l:aw Oper)(i:Nat),RI an ops A i l=true->∀k ok,l[k]?=some ok->(∀m∈AR ok,m<i+k)/\Mu an ops A (i+k) ok 0 ops=true
 |[],i,_,k,ok,hk=>by simp at hk
 |o::l,i,h,k,ok,hk=>by simp only[RI,ae,aG]at h;cases k with|zero=>simp at hk;subst hk;exact⟨λm hm=>Nat.le_of_ble_eq_true (h.1.1 m hm),h.1.2⟩|succ k=>have:=Jo l (i+1) h.2 k ok (by simpa using hk);rwa[show i+1+k=i+(k+1) by omega]at this
section
variable {R:Type} {r:R} {st:AS} {a:Act} {w:World}
theorem Lq (ops:aw Oper)(A:aw fu):∀(l:aw Oper)(i:Nat)(st:AS)(K:AS->az R),EJ E Γ an ops A i l st K=(EJ E Γ an ops A i l st some).bind K
 |[],i,st,K=>rfl
 |o::l,i,st,K=>by simp only[EJ];cases dM E an (sI an A i 0 ops) o st with|false=>rfl|true=>simp only[ah];rw[qC,qC (K:=λst'=>EJ E Γ an ops A (i+1) l st' some),Option.bind_assoc];congr 1;funext st';exact Lq ops A l (i+1) st' K
theorem Oc (ops:aw Oper)(A:aw fu):∀(n i:Nat)(st:AS),i+n=ops.length->EJ E Γ an ops A i (ops.drop i) st some=NS E Γ an ops (λk=>sI an A k 0 ops) (List.range' i n) st
 |0,i,st,hi=>by rw[df (by omega)];rfl
 |n+1,i,st,hi=>by
  have hil:i<ops.length:=by omega
  rw[ca hil,List.range'_succ];have ho:nth ops i=some ops[i]:=by rw[ei];exact al hil
  simp only[EJ,NS,ho,cI];cases dM E an (sI an A i 0 ops) ops[i] st with|false=>rfl|true=>simp only[ah];rw[qC];congr 1;funext st';exact Oc ops A n (i+1) st' (by omega)
theorem Lv (ops:aw Oper)(d:Bool)(K:AS->az R):Dk E Γ an ops d st K=(Dk E Γ an ops d st some).bind K:=by unfold Dk;cases d with|false=>exact O4 ops ops st K|true=>simp only[ah];cases SY an ops with|false=>rfl|true=>exact Lq ops _ ops 0 st K
theorem OX (hΓ:∀f,(Γ f).io=false/\(Γ f).bx=false/\(Γ f).pr=false){ops:aw Oper}{A:aw fu}(hq:∀o∈ops,gT an (Fs ops) o=true):∀(l:aw Oper)(i:Nat)(st st':AS),(∀o∈l,o∈ops)->EJ E Γ an ops A i l st some=some st'->jd (Fs ops) st st'
 |[],i,st,st',_,h=>by cases h;exact jd.refl _ _
 |o::l,i,st,st',hl,h=>by simp only[EJ]at h;cases hf:dM E an (sI an A i 0 ops) o st with|false=>rw[hf]at h;cases h|true=>rw[hf]at h;simp only[ah]at h;rw[qC]at h;cases hg:gP E Γ an ops o st some with|none=>rw[hg]at h;cases h|some st1=>rw[hg]at h;exact(Mo hΓ (hl o (by simp)) (hq o (hl o (by simp))) hg).trans (OX hΓ hq l (i+1) st1 st' (λo' ho'=>hl o' (by simp[ho'])) h)
theorem abD (hΓ:∀f,(Γ f).io=false/\(Γ f).bx=false/\(Γ f).pr=false){ops:aw Oper}{d:Bool}(hq:∀o∈ops,gT an (Fs ops) o=true){st':AS}(h:Dk E Γ an ops d st some=some st'):jd (Fs ops) st st':=by unfold Dk at h;cases d with|false=>exact UT hΓ hq ops st st' (λ_ h=>h) h|true=>simp only[ah]at h;cases hb:SY an ops with|false=>rw[hb]at h;cases h|true=>rw[hb]at h;exact OX (ah7 hΓ) hq ops 0 st st' (λ_ h=>h) h
theorem Zd (hS:Sound P E Γ){id:Nat}{ops:Array Oper}{d:Bool}(h:oa C st a w){r:AS}(hk:Dk E Γ an ops.toList d st some=some r){Q:Exit->Act->World->Prop}(hq:∀a' w',oa C r a' w'->Q .normal a' w'):(Code.region id ops d).wp P Q a w:=by
 unfold Dk at hk;cases d with
 |false=>apply wp_region;rw[List.range_eq_range'];exact aeq hS (K:=some) (r:=r) (λst' a' w' hs he=>by cases he;exact hq _ _ hs) ops.size 0 st a w (by omega) h (by simpa using hk)
 |true=>
  simp only[ah]at hk;cases hb:SY an ops.toList with
  |false=>rw[hb]at hk;cases hk
  |true=>
   rw[hb]at hk;simp only[ah]at hk;have hseq:=Oc (E:=E) (Γ:=Γ.FZ) (an:=an) ops.toList (Sl ops.toList []) ops.size 0 st (by simp);rw[fi,hk]at hseq;unfold SY at hb;have hpairs:=Jo ops.toList 0 hb;apply wp_region_any hS.mixed;have hs1:oa C st a {w with drawn:=w.drawn+1}:=h.grow (Fr.drew _ w)
   have:=ajk (an:=an) (C:=C) (ah6 Γ) hS.FZ (ops:=ops) (X:=λk=>sI an (Sl ops.toList []) k 0 ops.toList) (Q:=Q) (r:=r)
    (λi o ho k hk=>by have:=(hpairs i o (by rw[cB];exact ho)).1 k hk;simpa using this)
    (λi j oi oj hji hi hj=>by have h1:=(hpairs i oi (by rw[cB];exact hi)).2;rw[cw]at h1;have h2:=Jn ops.toList 0 h1 j oj (by rw[cB];exact hj) (by omega);rw[cw,cQ]at h2;rcases h2 with h2|h2;exact .inl (λL hL hp=>abR h2 oi hi L hL hp);exact .inr h2) hq (List.range' 0 ops.size) (Array.replicate ops.size false) st a {w with drawn:=w.drawn+1} List.pairwise_lt_range'
    (λi=>by
     rw[List.mem_range'_1];constructor;rintro⟨_,hi⟩;have hi':i<ops.size:=by omega
     exact⟨hi',by simp[Array.getD,hi']⟩;rintro⟨hi,_⟩;omega) (by simp)
    (λi o _ hl=>by exfalso;simp only[Array.getD,Array.size_replicate,Array.getInternal_eq_getElem,Array.getElem_replicate]at hl;split at hl<;>cases hl) hs1 hseq.symm
   rwa[List.length_range']at this
end
end Go.Dn
