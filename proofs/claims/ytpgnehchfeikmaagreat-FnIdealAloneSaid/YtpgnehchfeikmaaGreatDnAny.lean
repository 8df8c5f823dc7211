import Derived.Test.YtpgnehchfeikmaaGreatDnDraw
/- A region whose order is drawn: whatever the order, the outcome is that of the text's order. -/
namespace Go.Dn
open Go.RowKit
variable {P:Program} {C:Ctx} {E:Env} {Γ:cG} {an:An}
def PE (ops:Array Oper)(L:Nat→Prop):Prop:=∀i o,ops[i]?=some o→L i→∀k∈sW o,L k
theorem mem_ready {ops:Array Oper}{listed:Array Bool}{i:Nat}(h:i∈Region.ready .any ops listed): ∃o,ops[i]?=some o∧i<ops.size∧listed.getD i true=false∧∀k∈sW o,listed.getD k false=true:=by
 unfold Region.ready at h;rw[List.mem_filter]at h;obtain⟨hi,h⟩:=h;have hlt:i<ops.size:=by simpa using hi
 simp only[ab,aB]at h;have ho:ops[i]?=some ops[i]:=Array.getElem?_eq_getElem hlt;rw[ho]at h;simp only[ch,dM,Array.all_eq_true]at h;refine⟨ops[i],ho,hlt,h.1,λk hk=>?_⟩;simp only[sW,List.mem_map,List.mem_filter]at hk;obtain⟨e,⟨he,hb⟩,rfl⟩:=hk;obtain⟨j,hj,hje⟩:=Array.mem_iff_getElem.1 (Array.mem_toList_iff.1 he);have:=h.2 j hj;rw[hje]at this;simpa[hb]using this
theorem Re {ops:Array Oper}{listed:Array Bool}{i:Nat}{o:Oper}(ho:ops[i]?=some o)(hl:listed.getD i true=false)(hp:∀k∈sW o,listed.getD k false=true):i∈Region.ready .any ops listed:=by have hlt:i<ops.size:=(Array.getElem?_eq_some_iff.1 ho).1;unfold Region.ready;rw[List.mem_filter];refine⟨by simpa using hlt,?_⟩;rw[ho,hl];simp only[cp,bg,ch,dM,Array.all_eq_true];intro j hj;cases hb:Region.binds .any o.after[j]with|false=>rfl|true=>simp only[ar,cZ];refine hp _ ?_;simp only[sW,List.mem_map,List.mem_filter];exact⟨o.after[j],⟨by simp,hb⟩,rfl⟩
theorem Vr (hΓ:∀f,(Γ f).io=false∧((Γ f).bx=true→(Γ f).cur=true)∧(Γ f).pr=false)(hS:Sound P E Γ){ops:Array Oper}{X:Nat→List Nat}{Q:Exit→Act→World→Prop}{r:AS}(hlt:∀i o,ops[i]?=some o→∀k∈sW o,k<i)(hpair:∀i j oi oj,j<i→ops[i]?=some oi→ops[j]?=some oj→(∀L:Nat→Prop,PE ops L→(∀k∈sW oi,L k)→L j)∨Bt an ops.toList (X j) (X i) oj oi=true)(hq:∀a w,iD C r a w→Q .normal a w): ∀(rem:List Nat)(listed:Array Bool)(st:AS)(a:Act)(w:World),rem.Pairwise (·<·)→(∀i,i∈rem↔i<ops.size∧listed.getD i true=false)→listed.size=ops.size→ (∀i o,ops[i]?=some o→listed.getD i false=true→∀k∈sW o,listed.getD k false=true)→iD C st a w→D4 E Γ an ops.toList X rem st=some r→ wpAny P .any ops Q rem.length listed a w:=by
 intro rem;generalize hn:rem.length=n;induction n generalizing rem with
 |zero=>intro listed st a w _ hmem _ _ hs hr;have:rem=[]:=bF hn;subst this;cases hr;refine⟨?_,hq a w hs⟩;cases hrd:Region.ready .any ops listed with|nil=>rfl|cons i l=>obtain⟨o,ho,hi,hl,_⟩:=mem_ready (i:=i) (by rw[hrd];simp);have:=(hmem i).2 ⟨hi,hl⟩;cases this
 |succ n ih=>
  intro listed st a w hpw hmem hsz hcl hs hr;have htrue:∀k,k<ops.size→listed.getD k false= !(decide (k∈rem)):=by
   intro k hk;have h1:=hmem k;have hk':k<listed.size:=by omega
   simp only[Array.getD,hk',dite_true]at h1⊢;by_cases hm:k∈rem;have:=(h1.1 hm).2;simpa[hm]using this;have:¬(listed[k]=false):=λhf=>hm (h1.2 ⟨hk,hf⟩);simpa[hm]using this
  refine⟨λhnil=>?_,λi hi=>?_⟩;exfalso;cases rem with
  |nil=>simp at hn
  |cons i l=>
   have hi:=(hmem i).1 (by simp);have ho:ops[i]?=some ops[i]:=Array.getElem?_eq_getElem hi.1;have:i∈Region.ready .any ops listed:=by
    refine Re ho hi.2 λk hk=>?_;have hki:=hlt i _ ho k hk;rw[htrue k (by omega)];have:k∉i::l:=by intro hm;rcases bl.1 hm with rfl|hm;omega;have:=(List.pairwise_cons.1 hpw).1 k hm;omega
    simp[this]
   rw[hnil]at this;cases this
  ·obtain⟨oi,ho,hil,hlf,hpl⟩:=mem_ready hi;have hin:i∈rem:=(hmem i).2 ⟨hil,hlf⟩;obtain⟨pre,post,rfl⟩:=List.append_of_mem hin;have hnth:nth ops.toList i=some oi:=by rw[cz,Array.getElem?_toList];exact ho
   have hpw':=List.pairwise_append.1 hpw
   have hfront:=C5 (E:=E) (Γ:=Γ) (an:=an) (X:=X) hΓ hnth pre post st r (λj hj oj hoj=>by
    have hji:j<i:=hpw'.2.2 j hj i (by simp);have hoj':ops[j]?=some oj:=by rw[cz,Array.getElem?_toList]at hoj;exact hoj
    rcases hpair i j oi oj hji ho hoj' with hanc|hap;exfalso;have hL:=hanc (λk=>listed.getD k false=true) (λk o hk hlk=>hcl k o hk hlk) hpl;have:=(hmem j).1 (by simp[hj]);simp only[htrue j this.1]at hL;simp[hj]at hL;exact hap) hr
   simp only[D4,hnth]at hfront;obtain⟨st1,h1,h2⟩:=ay.1 hfront;have hg:ec E Γ an ops.toList oi st some=some st1:=by unfold stepG at h1;cases hf:cn E an (X i) oi st with|false=>rw[hf]at h1;cases h1|true=>rw[hf]at h1;exact h1
   have hnd:i∉pre++post:=by intro hm;rcases al.1 hm with hm|hm;have:=hpw'.2.2 i hm i (by simp);omega;have:=(List.pairwise_cons.1 hpw'.2.1).1 i hm;omega
   have hstep:=H0 (P:=P) (C:=C) (an:=an) hS (ops:=ops) hs hg (wpAny P .any ops Q n (listed.setIfInBounds i true)) Q (λst' a' w' hs' he=>by
    cases he;refine ih (pre++post) (by simp at hn⊢;omega) (listed.setIfInBounds i true) st1 a' w' ?_ ?_ (by simpa using hsz) ?_ hs' h2;exact List.Pairwise.sublist (List.Sublist.append (List.Sublist.refl _) (List.sublist_cons_self _ _)) hpw;intro k;have hk:=hmem k;by_cases hki:k=i;subst hki;constructor;intro hm;exact absurd hm hnd;rintro⟨_,hf⟩;simp[Array.getD_eq_getD_getElem?,show k<listed.size by omega]at hf;have hset:(listed.setIfInBounds i true).getD k true=listed.getD k true:=by simp[Array.getD_eq_getD_getElem?,bL hki]
    rw[hset,←hk];simp[hki];intro k o hok hkl m hm;have hset:∀q,listed.getD q false=true→(listed.setIfInBounds i true).getD q false=true:=by
     intro q hq;simp only[Array.getD_eq_getD_getElem?,Array.getElem?_setIfInBounds]at hq⊢;split;·split<;>first|rfl|(rename_i h1 h2;subst h1;rw[Array.getElem?_eq_none (by omega)]at hq;exact hq)
     exact hq
    by_cases hki:k=i;subst hki;rw[ho]at hok;cases hok;exact hset m (hpl m hm);refine hset m (hcl k o hok ?_ m hm);simpa[Array.getD_eq_getD_getElem?,Array.getElem?_setIfInBounds,bL hki]using hkl)
   unfold wpOp;rw[ho];exact hstep
theorem Ln {a b:List Nat}{x:Nat}(h:x∈G4 a b):x∈a∨x∈b:=by unfold G4 at h;induction a generalizing b with|nil=>exact .inr h|cons y a ih=>rw[cE]at h;rcases ih h with h|h;exact .inl (by simp[h]);cases hc:b.contains y with|true=>rw[hc]at h;exact .inr h|false=>rw[hc]at h;rcases bl.1 h with rfl|h;exact .inl (by simp);exact .inr h
def PI (ops:Array Oper)(i j:Nat):Prop:=∀o,ops[i]?=some o→∀L:Nat→Prop,PE ops L→(∀k∈sW o,L k)→L j
theorem Eh {ops:Array Oper}:∀(r done:List Oper)(acc:List (List Nat)),ops.toList=done++r→acc.length=done.length→(∀i l,nth acc i=some l→∀j∈l,PI ops i j)→
 ∀i l,nth (Hb r acc) i=some l→∀j∈l,PI ops i j
 |[],done,acc,_,_,h=>h
 |o::r,done,acc,hops,hlen,h=>by
  refine Eh r (done++[o]) _ (by rw[hops];simp) (by simp[hlen]) ?_;intro i l hl j hj;rw[cz]at hl;rcases bB i acc.length with hlt|hge;rw[List.getElem?_append_left hlt]at hl;exact h i l (by rw[cz];exact hl) j hj;rw[List.getElem?_append_right hge]at hl;have hi:i=acc.length:=by cases hk:i-acc.length with|zero=>omega|succ n=>rw[hk]at hl;simp at hl
  subst hi;simp only[fP,List.getElem?_cons_zero,aO]at hl;subst hl;have hoi:ops[acc.length]?=some o:=by rw[←Array.getElem?_toList,hops,hlen,List.getElem?_append_right (aQ _)];simp
  have key:∀(ps:List Nat)(s0:List Nat),(∀k∈ps,k∈sW o)→(∀x∈s0,PI ops acc.length x)→∀x∈ps.foldl (λs j=>G4 (j::(nth acc j).getD []) s) s0,PI ops acc.length x:=by
   intro ps;induction ps with
   |nil=>intro s0 _ h0;exact h0
   |cons k ps ih=>
    intro s0 hps h0;rw[cE];refine ih _ (λm hm=>hps m (by simp[hm])) ?_;intro x hx;rcases Ln hx with hx|hx;intro o' ho' L hL hp;rw[hoi]at ho';cases ho';have hk:=hp k (hps k (by simp));rcases bl.1 hx with rfl|hx;exact hk;cases hak:nth acc k with
    |none=>rw[hak]at hx;cases hx
    |some l=>
     rw[hak]at hx;have hkl:k<acc.length:=by rw[cz]at hak;exact(List.getElem?_eq_some_iff.1 hak).1
     have hok:∃ok,ops[k]?=some ok:=by rw[←Array.getElem?_toList,hops,List.getElem?_append_left (by omega)];exact⟨_,List.getElem?_eq_getElem (by omega)⟩
     obtain⟨ok,hok⟩:=hok;exact h k l hak x hx ok hok L hL (hL k ok hok hk)
    exact h0 x hx
  exact key (sW o) [] (λ_ h=>h) (by simp) j hj
theorem OP {ops:Array Oper}{i k:Nat}(h:OO (Hb ops.toList []) i k=true):PI ops i k:=by unfold OO at h;cases hl:nth (Hb ops.toList []) i with|none=>rw[hl]at h;simp at h|some l=>rw[hl]at h;exact Eh ops.toList [] [] rfl rfl (λi l hl=>by simp[nth]at hl) i l hl k (by simpa using h)
theorem Ah {ops:List Oper}{A:List (List Nat)}{i:Nat}{oi:Oper}:∀(l:List Oper)(j:Nat),CO an ops A i oi j l=true→∀k ok,l[k]?=some ok→j+k<i→(OO A i (j+k)||Bt an ops (mc an A (j+k) 0 ops) (mc an A i 0 ops) ok oi)=true
 |[],j,_,k,ok,hk,_=>by simp at hk
 |oj::l,j,h,k,ok,hk,hlt=>by
  simp only[CO]at h;have hb:Nat.ble i j=false:=by cases hb:Nat.ble i j with|false=>rfl|true=>have:=Nat.le_of_ble_eq_true hb;omega
  rw[hb]at h;simp only[ai,ab]at h;cases k with|zero=>simp at hk;subst hk;exact h.1|succ k=>have:=Ah l (j+1) h.2 k ok (by simpa using hk) (by omega);rwa[show j+1+k=j+(k+1) by omega]at this
theorem Ai {ops:List Oper}{A:List (List Nat)}:∀(l:List Oper)(i:Nat),Gy an ops A i l=true→∀k ok,l[k]?=some ok→(∀m∈sW ok,m<i+k)∧CO an ops A (i+k) ok 0 ops=true
 |[],i,_,k,ok,hk=>by simp at hk
 |o::l,i,h,k,ok,hk=>by simp only[Gy,ab,az]at h;cases k with|zero=>simp at hk;subst hk;exact⟨λm hm=>Nat.le_of_ble_eq_true (h.1.1 m hm),h.1.2⟩|succ k=>have:=Ai l (i+1) h.2 k ok (by simpa using hk);rwa[show i+1+k=i+(k+1) by omega]at this
section
variable {R:Type} {r:R} {st:AS} {a:Act} {w:World}
theorem B5 (ops:List Oper)(A:List (List Nat)):∀(l:List Oper)(i:Nat)(st:AS)(K:AS→Option R),wM E Γ an ops A i l st K=(wM E Γ an ops A i l st some).bind K
 |[],i,st,K=>rfl
 |o::l,i,st,K=>by simp only[wM];cases cn E an (mc an A i 0 ops) o st with|false=>rfl|true=>simp only[ah];rw[kP,kP (K:=λst'=>wM E Γ an ops A (i+1) l st' some),Option.bind_assoc];congr 1;funext st';exact B5 ops A l (i+1) st' K
theorem El (ops:List Oper)(A:List (List Nat)):∀(n i:Nat)(st:AS),i+n=ops.length→wM E Γ an ops A i (ops.drop i) st some=D4 E Γ an ops (λk=>mc an A k 0 ops) (List.range' i n) st
 |0,i,st,hi=>by rw[cc (by omega)];rfl
 |n+1,i,st,hi=>by
  have hil:i<ops.length:=by omega
  rw[bA hil,List.range'_succ];have ho:nth ops i=some ops[i]:=by rw[cz];exact List.getElem?_eq_getElem hil
  simp only[wM,D4,ho,stepG];cases cn E an (mc an A i 0 ops) ops[i] st with|false=>rfl|true=>simp only[ah];rw[kP];congr 1;funext st';exact El ops A n (i+1) st' (by omega)
theorem Cb (ops:List Oper)(d:Bool)(K:AS→Option R):vu E Γ an ops d st K=(vu E Γ an ops d st some).bind K:=by unfold vu;cases d with|false=>exact EP ops ops st K|true=>simp only[ah];cases HJ an ops with|false=>rfl|true=>exact B5 ops _ ops 0 st K
theorem EK (hΓ:∀f,(Γ f).io=false∧(Γ f).bx=false∧(Γ f).pr=false){ops:List Oper}{A:List (List Nat)}(hq:∀o∈ops,ef an (xe ops) o=true):∀(l:List Oper)(i:Nat)(st st':AS),(∀o∈l,o∈ops)→wM E Γ an ops A i l st some=some st'→eT (xe ops) st st'
 |[],i,st,st',_,h=>by cases h;exact eT.refl _ _
 |o::l,i,st,st',hl,h=>by simp only[wM]at h;cases hf:cn E an (mc an A i 0 ops) o st with|false=>rw[hf]at h;cases h|true=>rw[hf]at h;simp only[ah]at h;rw[kP]at h;cases hg:ec E Γ an ops o st some with|none=>rw[hg]at h;cases h|some st1=>rw[hg]at h;exact(CK hΓ (hl o (by simp)) (hq o (hl o (by simp))) hg).trans (EK hΓ hq l (i+1) st1 st' (λo' ho'=>hl o' (by simp[ho'])) h)
theorem OA (hΓ:∀f,(Γ f).io=false∧(Γ f).bx=false∧(Γ f).pr=false){ops:List Oper}{d:Bool}(hq:∀o∈ops,ef an (xe ops) o=true){st':AS}(h:vu E Γ an ops d st some=some st'):eT (xe ops) st st':=by unfold vu at h;cases d with|false=>exact Jj hΓ hq ops st st' (λ_ h=>h) h|true=>simp only[ah]at h;cases hb:HJ an ops with|false=>rw[hb]at h;cases h|true=>rw[hb]at h;exact EK (T8 hΓ) hq ops 0 st st' (λ_ h=>h) h
theorem MG (hS:Sound P E Γ){id:Nat}{ops:Array Oper}{d:Bool}(h:iD C st a w){r:AS}(hk:vu E Γ an ops.toList d st some=some r){Q:Exit→Act→World→Prop}(hq:∀a' w',iD C r a' w'→Q .normal a' w'):(Code.region id ops d).wp P Q a w:=by
 unfold vu at hk;cases d with
 |false=>apply wp_region;rw[List.range_eq_range'];exact Q1 hS (K:=some) (r:=r) (λst' a' w' hs he=>by cases he;exact hq _ _ hs) ops.size 0 st a w (by omega) h (by simpa using hk)
 |true=>
  simp only[ah]at hk;cases hb:HJ an ops.toList with
  |false=>rw[hb]at hk;cases hk
  |true=>
   rw[hb]at hk;simp only[ah]at hk;have hseq:=El (E:=E) (Γ:=Γ.xv) (an:=an) ops.toList (Hb ops.toList []) ops.size 0 st (by simp);rw[da,hk]at hseq;unfold HJ at hb;have hpairs:=Ai ops.toList 0 hb;apply wp_region_any hS.mixed;have hs1:iD C st a {w with drawn:=w.drawn+1}:=h.grow (Fr.drew _ w)
   have:=Vr (an:=an) (C:=C) (T7 Γ) hS.xv (ops:=ops) (X:=λk=>mc an (Hb ops.toList []) k 0 ops.toList) (Q:=Q) (r:=r)
    (λi o ho k hk=>by have:=(hpairs i o (by rw[Array.getElem?_toList];exact ho)).1 k hk;simpa using this)
    (λi j oi oj hji hi hj=>by have h1:=(hpairs i oi (by rw[Array.getElem?_toList];exact hi)).2;rw[bM]at h1;have h2:=Ah ops.toList 0 h1 j oj (by rw[Array.getElem?_toList];exact hj) (by omega);rw[bM,bU]at h2;rcases h2 with h2|h2;exact .inl (λL hL hp=>OP h2 oi hi L hL hp);exact .inr h2) hq (List.range' 0 ops.size) (Array.replicate ops.size false) st a {w with drawn:=w.drawn+1} List.pairwise_lt_range'
    (λi=>by
     rw[List.mem_range'_1];constructor;rintro⟨_,hi⟩;have hi':i<ops.size:=by omega
     exact⟨hi',by simp[Array.getD,hi']⟩;rintro⟨hi,_⟩;omega) (by simp)
    (λi o _ hl=>by exfalso;simp only[Array.getD,Array.size_replicate,Array.getInternal_eq_getElem,Array.getElem_replicate]at hl;split at hl<;>cases hl) hs1 hseq.symm
   rwa[List.length_range']at this
end
end Go.Dn
