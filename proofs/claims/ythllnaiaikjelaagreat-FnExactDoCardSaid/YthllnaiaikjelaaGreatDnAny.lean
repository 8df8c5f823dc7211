import Derived.Test.YthllnaiaikjelaaGreatDnDraw
/- A region whose order is drawn: whatever the order, the outcome is that of the text's order. -/
namespace Go.Dn
open Go.RowKit
variable {P:Program} {C:Ctx} {E:Env} {Γ:Ci} {an:An}
variable {jX:Array Bool} {A:ar ec}
def akL (ops:Array Oper)(L:Nat->Prop):Prop:=∀i o,ops[i]?=some o->L i->∀k∈H0 o,L k
theorem mem_ready {ops:Array Oper}{i:Nat}(h:i∈Region.ready .any ops jX): ∃o,ops[i]?=some o/\i<ops.size/\jX.getD i true=false/\∀k∈H0 o,jX.getD k false=true:=by
 unfold Region.ready at h;rw[List.mem_filter]at h;obtain⟨hi,h⟩:=h;have iG:i<ops.size:=by simpa using hi
 simp only[ah,aU]at h;have ho:ops[i]?=some ops[i]:=Array.getElem?_eq_getElem iG;rw[ho]at h;simp only[dz,fT,Array.all_eq_true]at h;refine⟨ops[i],ho,iG,h.1,λk hk=>?_⟩;simp only[H0,List.mem_map,List.mem_filter]at hk;obtain⟨e,⟨he,hb⟩,rfl⟩:=hk;obtain⟨j,hj,hje⟩:=Array.mem_iff_getElem.1 (Array.mem_toList_iff.1 he);have:=h.2 j hj;rw[hje]at this;simpa[hb]using this
theorem am4 {ops:Array Oper}{i:Nat}{o:Oper}(ho:ops[i]?=some o)(hl:jX.getD i true=false)(hp:∀k∈H0 o,jX.getD k false=true):i∈Region.ready .any ops jX:=by have iG:i<ops.size:=(Array.getElem?_eq_some_iff.1 ho).1;unfold Region.ready;rw[List.mem_filter];refine⟨by simpa using iG,?_⟩;rw[ho,hl];simp only[bz,bj,dz,fT,Array.all_eq_true];intro j hj;cases hb:Region.binds .any o.after[j]with|false=>rfl|true=>simp only[ai,cB];refine hp _ ?_;simp only[H0,List.mem_map,List.mem_filter];exact⟨o.after[j],⟨by simp,hb⟩,rfl⟩
theorem apI (Ey:∀f,(Γ f).io=false/\((Γ f).bx=true->(Γ f).cur=true)/\(Γ f).pr=false)(hS:Sound P E Γ){ops:Array Oper}{X:Nat->ec}{Q:Exit->Act->World->Prop}{r:AS}(iG:∀i o,ops[i]?=some o->∀k∈H0 o,k<i)(arn:∀i j oi oj,j<i->ops[i]?=some oi->ops[j]?=some oj->(∀L:Nat->Prop,akL ops L->(∀k∈H0 oi,L k)->L j)\/Uh an ops.toList (X j) (X i) oj oi=true)(hq:∀a w,pF C r a w->Q .normal a w): ∀(rem:ec)(jX:Array Bool)(st:AS)(a:Act)(w:World),rem.Pairwise (·<·)->(∀i,i∈rem↔i<ops.size/\jX.getD i true=false)->jX.size=ops.size-> (∀i o,ops[i]?=some o->jX.getD i false=true->∀k∈H0 o,jX.getD k false=true)->pF C st a w->Xe E Γ an ops.toList X rem st=some r-> wpAny P .any ops Q rem.length jX a w:=by
 intro rem;generalize hn:rem.length=n;induction n generalizing rem with
 |zero=>intro jX st a w _ JJ _ _ hs hr;have:rem=[]:=cP hn;subst this;cases hr;refine⟨?_,hq a w hs⟩;cases PM:Region.ready .any ops jX with|nil=>rfl|cons i l=>obtain⟨o,ho,hi,hl,_⟩:=mem_ready (i:=i) (by rw[PM];simp);have:=(JJ i).2 ⟨hi,hl⟩;cases this
 |succ n ih=>
  intro jX st a w hpw JJ xp hcl hs hr;have apx:∀k,k<ops.size->jX.getD k false= !(decide (k∈rem)):=by
   intro k hk;have h1:=JJ k;have LY:k<jX.size:=by omega
   simp only[Array.getD,LY,dite_true]at h1⊢;by_cases hm:k∈rem;have:=(h1.1 hm).2;simpa[hm]using this;have:¬(jX[k]=false):=λhf=>hm (h1.2 ⟨hk,hf⟩);simpa[hm]using this
  refine⟨λZW=>?_,λi hi=>?_⟩;exfalso;cases rem with
  |nil=>simp at hn
  |cons i l=>
   have hi:=(JJ i).1 (by simp);have ho:ops[i]?=some ops[i]:=Array.getElem?_eq_getElem hi.1;have:i∈Region.ready .any ops jX:=by
    refine am4 ho hi.2 λk hk=>?_;have hki:=iG i _ ho k hk;rw[apx k (by omega)];have:k∉i::l:=by intro hm;rcases cp.1 hm with rfl|hm;omega;have:=(List.pairwise_cons.1 hpw).1 k hm;omega
    simp[this]
   rw[ZW]at this;cases this
  ·obtain⟨oi,ho,U6,hlf,Hr⟩:=mem_ready hi;have vC:i∈rem:=(JJ i).2 ⟨U6,hlf⟩;obtain⟨pre,post,rfl⟩:=List.append_of_mem vC;have arj:nth ops.toList i=some oi:=by rw[dV,cm];exact ho
   have aqh:=List.pairwise_append.1 hpw
   have alN:=V0 (E:=E) (Γ:=Γ) (an:=an) (X:=X) Ey arj pre post st r (λj hj oj hoj=>by
    have hji:j<i:=aqh.2.2 j hj i (by simp);have azR:ops[j]?=some oj:=by rw[dV,cm]at hoj;exact hoj
    rcases arn i j oi oj hji ho azR with azo|hap;exfalso;have hL:=azo (λk=>jX.getD k false=true) (λk o hk hlk=>hcl k o hk hlk) Hr;have:=(JJ j).1 (by simp[hj]);simp only[apx j this.1]at hL;simp[hj]at hL;exact hap) hr
   simp only[Xe,arj]at alN;obtain⟨st1,h1,h2⟩:=aX.1 alN;have hg:ig E Γ an ops.toList oi st some=some st1:=by unfold cQ at h1;cases hf:dH E an (X i) oi st with|false=>rw[hf]at h1;cases h1|true=>rw[hf]at h1;exact h1
   have JK:i∉pre++post:=by intro hm;rcases aA.1 hm with hm|hm;have:=aqh.2.2 i hm i (by simp);omega;have:=(List.pairwise_cons.1 aqh.2.1).1 i hm;omega
   have ars:=abX (P:=P) (C:=C) (an:=an) hS (ops:=ops) hs hg (wpAny P .any ops Q n (jX.setIfInBounds i true)) Q (λst' a' w' yk he=>by
    cases he;refine ih (pre++post) (by simp at hn⊢;omega) (jX.setIfInBounds i true) st1 a' w' ?_ ?_ (by simpa using xp) ?_ yk h2;exact List.Pairwise.sublist (List.Sublist.append (List.Sublist.refl _) (List.sublist_cons_self _ _)) hpw;intro k;have hk:=JJ k;by_cases hki:k=i;subst hki;constructor;intro hm;exact absurd hm JK;rintro⟨_,hf⟩;simp[cY,show k<jX.size by omega]at hf;have Ih:(jX.setIfInBounds i true).getD k true=jX.getD k true:=by simp[cY,cW hki]
    rw[Ih,<-hk];simp[hki];intro k o kX hkl m hm;have Ih:∀q,jX.getD q false=true->(jX.setIfInBounds i true).getD q false=true:=by
     intro q hq;simp only[cY,Array.getElem?_setIfInBounds]at hq⊢;split;·split<;>first|rfl|(rename_i h1 h2;subst h1;rw[Array.getElem?_eq_none (by omega)]at hq;exact hq)
     exact hq
    by_cases hki:k=i;subst hki;rw[ho]at kX;cases kX;exact Ih m (Hr m hm);refine Ih m (hcl k o kX ?_ m hm);simpa[cY,Array.getElem?_setIfInBounds,cW hki]using hkl)
   unfold wpOp;rw[ho];exact ars
theorem afP {a b:ec}{x:Nat}(h:x∈aa2 a b):x∈a\/x∈b:=by unfold aa2 at h;induction a generalizing b with|nil=>exact .inr h|cons y a ih=>rw[List.foldl_cons]at h;rcases ih h with h|h;exact .inl (by simp[h]);cases hc:b.contains y with|true=>rw[hc]at h;exact .inr h|false=>rw[hc]at h;rcases cp.1 h with rfl|h;exact .inl (by simp);exact .inr h
def akP (ops:Array Oper)(i j:Nat):Prop:=∀o,ops[i]?=some o->∀L:Nat->Prop,akL ops L->(∀k∈H0 o,L k)->L j
theorem Xv {ops:Array Oper}:∀(r done:ar Oper)(acc:ar ec),ops.toList=done++r->acc.length=done.length->(∀i l,nth acc i=some l->∀j∈l,akP ops i j)->
 ∀i l,nth (aa9 r acc) i=some l->∀j∈l,akP ops i j
 |[],done,acc,_,_,h=>h
 |o::r,done,acc,aqf,hlen,h=>by
  refine Xv r (done++[o]) _ (by rw[aqf];simp) (by simp[hlen]) ?_;intro i l hl j hj;rw[dV]at hl;rcases bS i acc.length with iG|Fe;rw[bF iG]at hl;exact h i l (by rw[dV];exact hl) j hj;rw[bw Fe]at hl;have hi:i=acc.length:=by cases hk:i-acc.length with|zero=>omega|succ n=>rw[hk]at hl;simp at hl
  subst hi;simp only[hG,cL,bf]at hl;subst hl;have hoi:ops[acc.length]?=some o:=by rw[<-cm,aqf,hlen,bw (ba _)];simp
  have key:∀(ps:ec)(s0:ec),(∀k∈ps,k∈H0 o)->(∀x∈s0,akP ops acc.length x)->∀x∈ps.foldl (λs j=>aa2 (j::(nth acc j).getD []) s) s0,akP ops acc.length x:=by
   intro ps;induction ps with
   |nil=>intro s0 _ h0;exact h0
   |cons k ps ih=>
    intro s0 hps h0;rw[List.foldl_cons];refine ih _ (λm hm=>hps m (by simp[hm])) ?_;intro x hx;rcases afP hx with hx|hx;intro o' Tl L hL hp;rw[hoi]at Tl;cases Tl;have hk:=hp k (hps k (by simp));rcases cp.1 hx with rfl|hx;exact hk;cases hak:nth acc k with
    |none=>rw[hak]at hx;cases hx
    |some l=>
     rw[hak]at hx;have hkl:k<acc.length:=by rw[dV]at hak;exact(aJ.1 hak).1
     have kX:∃ok,ops[k]?=some ok:=by rw[<-cm,aqf,bF (by omega)];exact⟨_,al (by omega)⟩
     obtain⟨ok,kX⟩:=kX;exact h k l hak x hx ok kX L hL (hL k ok kX hk)
    exact h0 x hx
  exact key (H0 o) [] (λ_ h=>h) (by simp) j hj
theorem ajK {ops:Array Oper}{i k:Nat}(h:ajJ (aa9 ops.toList []) i k=true):akP ops i k:=by unfold ajJ at h;cases hl:nth (aa9 ops.toList []) i with|none=>rw[hl]at h;simp at h|some l=>rw[hl]at h;exact Xv ops.toList [] [] rfl rfl (λi l hl=>by simp[nth]at hl) i l hl k (by simpa using h)
theorem SL {ops:ar Oper}{i:Nat}{oi:Oper}:∀(l:ar Oper)(j:Nat),VD an ops A i oi j l=true->∀k ok,l[k]?=some ok->j+k<i->(ajJ A i (j+k)||Uh an ops (xq an A (j+k) 0 ops) (xq an A i 0 ops) ok oi)=true
 |[],j,_,k,ok,hk,_=>by simp at hk
 |oj::l,j,h,k,ok,hk,iG=>by
  simp only[VD]at h;have hb:Nat.ble i j=false:=by cases hb:Nat.ble i j with|false=>rfl|true=>have:=Nat.le_of_ble_eq_true hb;omega
  rw[hb]at h;simp only[ae,ah]at h;cases k with|zero=>simp at hk;subst hk;exact h.1|succ k=>have:=SL l (j+1) h.2 k ok (by simpa using hk) (by omega);rwa[show j+1+k=j+(k+1) by omega]at this
theorem SM {ops:ar Oper}:∀(l:ar Oper)(i:Nat),aas an ops A i l=true->∀k ok,l[k]?=some ok->(∀m∈H0 ok,m<i+k)/\VD an ops A (i+k) ok 0 ops=true
 |[],i,_,k,ok,hk=>by simp at hk
 |o::l,i,h,k,ok,hk=>by simp only[aas,ah,aO]at h;cases k with|zero=>simp at hk;subst hk;exact⟨λm hm=>Nat.le_of_ble_eq_true (h.1.1 m hm),h.1.2⟩|succ k=>have:=SM l (i+1) h.2 k ok (by simpa using hk);rwa[show i+1+k=i+(k+1) by omega]at this
section
variable {R:Type} {r:R} {st:AS} {a:Act} {w:World}
theorem Uy (ops:ar Oper)(A:ar ec):∀(l:ar Oper)(i:Nat)(st:AS)(K:AS->au R),NK E Γ an ops A i l st K=(NK E Γ an ops A i l st some).bind K
 |[],i,st,K=>rfl
 |o::l,i,st,K=>by simp only[NK];cases dH E an (xq an A i 0 ops) o st with|false=>rfl|true=>simp only[af];rw[uD,uD (K:=λst'=>NK E Γ an ops A (i+1) l st' some),Option.bind_assoc];congr 1;funext st';exact Uy ops A l (i+1) st' K
theorem XG (ops:ar Oper)(A:ar ec):∀(n i:Nat)(st:AS),i+n=ops.length->NK E Γ an ops A i (ops.drop i) st some=Xe E Γ an ops (λk=>xq an A k 0 ops) (List.range' i n) st
 |0,i,st,hi=>by rw[dj (by omega)];rfl
 |n+1,i,st,hi=>by
  have U6:i<ops.length:=by omega
  rw[cf U6,List.range'_succ];have ho:nth ops i=some ops[i]:=by rw[dV];exact al U6
  simp only[NK,Xe,ho,cQ];cases dH E an (xq an A i 0 ops) ops[i] st with|false=>rfl|true=>simp only[af];rw[uD];congr 1;funext st';exact XG ops A n (i+1) st' (by omega)
theorem UF (ops:ar Oper)(d:Bool)(K:AS->au R):LH E Γ an ops d st K=(LH E Γ an ops d st some).bind K:=by unfold LH;cases d with|false=>exact Yx ops ops st K|true=>simp only[af];cases abu an ops with|false=>rfl|true=>exact Uy ops _ ops 0 st K
theorem Yt (Ey:∀f,(Γ f).io=false/\(Γ f).bx=false/\(Γ f).pr=false){ops:ar Oper}{A:ar ec}(hq:∀o∈ops,iq an (OB ops) o=true):∀(l:ar Oper)(i:Nat)(st st':AS),(∀o∈l,o∈ops)->NK E Γ an ops A i l st some=some st'->jP (OB ops) st st'
 |[],i,st,st',_,h=>by cases h;exact jP.refl _ _
 |o::l,i,st,st',hl,h=>by simp only[NK]at h;cases hf:dH E an (xq an A i 0 ops) o st with|false=>rw[hf]at h;cases h|true=>rw[hf]at h;simp only[af]at h;rw[uD]at h;cases hg:ig E Γ an ops o st some with|none=>rw[hg]at h;cases h|some st1=>rw[hg]at h;exact(Vz Ey (hl o (by simp)) (hq o (hl o (by simp))) hg).trans (Yt Ey hq l (i+1) st1 st' (λo' Tl=>hl o' (by simp[Tl])) h)
theorem ajA (Ey:∀f,(Γ f).io=false/\(Γ f).bx=false/\(Γ f).pr=false){ops:ar Oper}{d:Bool}(hq:∀o∈ops,iq an (OB ops) o=true){st':AS}(h:LH E Γ an ops d st some=some st'):jP (OB ops) st st':=by unfold LH at h;cases d with|false=>exact ac1 Ey hq ops st st' (λ_ h=>h) h|true=>simp only[af]at h;cases hb:abu an ops with|false=>rw[hb]at h;cases h|true=>rw[hb]at h;exact Yt (ao7 Ey) hq ops 0 st st' (λ_ h=>h) h
theorem ahi (hS:Sound P E Γ){id:Nat}{ops:Array Oper}{d:Bool}(h:pF C st a w){r:AS}(hk:LH E Γ an ops.toList d st some=some r){Q:Exit->Act->World->Prop}(hq:∀a' w',pF C r a' w'->Q .normal a' w'):(Code.region id ops d).wp P Q a w:=by
 unfold LH at hk;cases d with
 |false=>apply wp_region;rw[List.range_eq_range'];exact amN hS (K:=some) (r:=r) (λst' a' w' hs he=>by cases he;exact hq _ _ hs) ops.size 0 st a w (by omega) h (by simpa using hk)
 |true=>
  simp only[af]at hk;cases hb:abu an ops.toList with
  |false=>rw[hb]at hk;cases hk
  |true=>
   rw[hb]at hk;simp only[af]at hk;have arp:=XG (E:=E) (Γ:=Γ.O5) (an:=an) ops.toList (aa9 ops.toList []) ops.size 0 st (by simp);rw[fI,hk]at arp;unfold abu at hb;have alU:=SM ops.toList 0 hb;apply wp_region_any hS.mixed;have hs1:pF C st a {w with drawn:=w.drawn+1}:=h.grow (Fr.drew _ w)
   have:=apI (an:=an) (C:=C) (ao6 Γ) hS.O5 (ops:=ops) (X:=λk=>xq an (aa9 ops.toList []) k 0 ops.toList) (Q:=Q) (r:=r)
    (λi o ho k hk=>by have:=(alU i o (by rw[cm];exact ho)).1 k hk;simpa using this)
    (λi j oi oj hji hi hj=>by have h1:=(alU i oi (by rw[cm];exact hi)).2;rw[cr]at h1;have h2:=SL ops.toList 0 h1 j oj (by rw[cm];exact hj) (by omega);rw[cr,dy]at h2;rcases h2 with h2|h2;exact .inl (λL hL hp=>ajK h2 oi hi L hL hp);exact .inr h2) hq (List.range' 0 ops.size) (Array.replicate ops.size false) st a {w with drawn:=w.drawn+1} List.pairwise_lt_range'
    (λi=>by
     rw[List.mem_range'_1];constructor;rintro⟨_,hi⟩;have uu:i<ops.size:=by omega
     exact⟨uu,by simp[Array.getD,uu]⟩;rintro⟨hi,_⟩;omega) (by simp)
    (λi o _ hl=>by exfalso;simp only[Array.getD,Array.size_replicate,Array.getInternal_eq_getElem,Array.getElem_replicate]at hl;split at hl<;>cases hl) hs1 arp.symm
   rwa[List.length_range']at this
end
end Go.Dn
