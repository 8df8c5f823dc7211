import Derived.Test.YtfbhfnniblfpbaaGreatDnDraw
/- A region whose order is drawn: whatever the order, the outcome is that of the text's order. -/
namespace Go.Dn
open Go.RowKit
variable {P:Program} {C:Ctx} {E:Env} {Γ:xg} {an:An}
variable {iO:Array Bool} {A:au dI}
def acA (ops:Array Oper)(L:Nat->Prop):Prop:=∀i o,ops[i]?=some o->L i->∀k∈CL o,L k
theorem mem_ready {ops:Array Oper}{i:Nat}(h:i∈Region.ready .any ops iO): ∃o,ops[i]?=some o/\i<ops.size/\iO.getD i true=false/\∀k∈CL o,iO.getD k false=true:=by
 unfold Region.ready at h;rw[List.mem_filter]at h;obtain⟨hi,h⟩:=h;have gq:i<ops.size:=by simpa using hi
 simp only[ah,aO]at h;have ho:ops[i]?=some ops[i]:=Array.getElem?_eq_getElem gq;rw[ho]at h;simp only[cY,eY,Array.all_eq_true]at h;refine⟨ops[i],ho,gq,h.1,λk hk=>?_⟩;simp only[CL,List.mem_map,List.mem_filter]at hk;obtain⟨e,⟨he,hb⟩,rfl⟩:=hk;obtain⟨j,hj,hje⟩:=Array.mem_iff_getElem.1 (Array.mem_toList_iff.1 he);have:=h.2 j hj;rw[hje]at this;simpa[hb]using this
theorem aeq {ops:Array Oper}{i:Nat}{o:Oper}(ho:ops[i]?=some o)(hl:iO.getD i true=false)(hp:∀k∈CL o,iO.getD k false=true):i∈Region.ready .any ops iO:=by have gq:i<ops.size:=(Array.getElem?_eq_some_iff.1 ho).1;unfold Region.ready;rw[List.mem_filter];refine⟨by simpa using gq,?_⟩;rw[ho,hl];simp only[bR,bt,cY,eY,Array.all_eq_true];intro j hj;cases hb:Region.binds .any o.after[j]with|false=>rfl|true=>simp only[ai,cH];refine hp _ ?_;simp only[CL,List.mem_map,List.mem_filter];exact⟨o.after[j],⟨by simp,hb⟩,rfl⟩
theorem agJ (zw:∀f,(Γ f).io=false/\((Γ f).bx=true->(Γ f).cur=true)/\(Γ f).pr=false)(hS:Sound P E Γ){ops:Array Oper}{X:Nat->dI}{Q:Exit->Act->World->Prop}{r:AS}(gq:∀i o,ops[i]?=some o->∀k∈CL o,k<i)(aii:∀i j oi oj,j<i->ops[i]?=some oi->ops[j]?=some oj->(∀L:Nat->Prop,acA ops L->(∀k∈CL oi,L k)->L j)\/Nm an ops.toList (X j) (X i) oj oi=true)(hq:∀a w,nb C r a w->Q .normal a w): ∀(rem:dI)(iO:Array Bool)(st:AS)(a:Act)(w:World),rem.Pairwise (·<·)->(∀i,i∈rem↔i<ops.size/\iO.getD i true=false)->iO.size=ops.size-> (∀i o,ops[i]?=some o->iO.getD i false=true->∀k∈CL o,iO.getD k false=true)->nb C st a w->Ql E Γ an ops.toList X rem st=some r-> wpAny P .any ops Q rem.length iO a w:=by
 intro rem;generalize hn:rem.length=n;induction n generalizing rem with
 |zero=>intro iO st a w _ D8 _ _ hs hr;have:rem=[]:=cr hn;subst this;cases hr;refine⟨?_,hq a w hs⟩;cases Jr:Region.ready .any ops iO with|nil=>rfl|cons i l=>obtain⟨o,ho,hi,hl,_⟩:=mem_ready (i:=i) (by rw[Jr];simp);have:=(D8 i).2 ⟨hi,hl⟩;cases this
 |succ n ih=>
  intro iO st a w hpw D8 sR hcl hs hr;have agA:∀k,k<ops.size->iO.getD k false= !(decide (k∈rem)):=by
   intro k hk;have h1:=D8 k;have Gf:k<iO.size:=by omega
   simp only[Array.getD,Gf,dite_true]at h1⊢;by_cases hm:k∈rem;have:=(h1.1 hm).2;simpa[hm]using this;have:¬(iO[k]=false):=λhf=>hm (h1.2 ⟨hk,hf⟩);simpa[hm]using this
  refine⟨λSJ=>?_,λi hi=>?_⟩;exfalso;cases rem with
  |nil=>simp at hn
  |cons i l=>
   have hi:=(D8 i).1 (by simp);have ho:ops[i]?=some ops[i]:=Array.getElem?_eq_getElem hi.1;have:i∈Region.ready .any ops iO:=by
    refine aeq ho hi.2 λk hk=>?_;have hki:=gq i _ ho k hk;rw[agA k (by omega)];have:k∉i::l:=by intro hm;rcases cg.1 hm with rfl|hm;omega;have:=(List.pairwise_cons.1 hpw).1 k hm;omega
    simp[this]
   rw[SJ]at this;cases this
  ·obtain⟨oi,ho,N9,hlf,B9⟩:=mem_ready hi;have tU:i∈rem:=(D8 i).2 ⟨N9,hlf⟩;obtain⟨pre,post,rfl⟩:=List.append_of_mem tU;have aie:nth ops.toList i=some oi:=by rw[dv,bZ];exact ho
   have ahj:=List.pairwise_append.1 hpw
   have adm:=O5 (E:=E) (Γ:=Γ) (an:=an) (X:=X) zw aie pre post st r (λj hj oj hoj=>by
    have hji:j<i:=ahj.2.2 j hj i (by simp);have ao0:ops[j]?=some oj:=by rw[dv,bZ]at hoj;exact hoj
    rcases aii i j oi oj hji ho ao0 with aoA|hap;exfalso;have hL:=aoA (λk=>iO.getD k false=true) (λk o hk WL=>hcl k o hk WL) B9;have:=(D8 j).1 (by simp[hj]);simp only[agA j this.1]at hL;simp[hj]at hL;exact hap) hr
   simp only[Ql,aie]at adm;obtain⟨st1,h1,h2⟩:=aK.1 adm;have hg:fY E Γ an ops.toList oi st some=some st1:=by unfold cv at h1;cases hf:dg E an (X i) oi st with|false=>rw[hf]at h1;cases h1|true=>rw[hf]at h1;exact h1
   have D9:i∉pre++post:=by intro hm;rcases ay.1 hm with hm|hm;have:=ahj.2.2 i hm i (by simp);omega;have:=(List.pairwise_cons.1 ahj.2.1).1 i hm;omega
   have aim:=UG (P:=P) (C:=C) (an:=an) hS (ops:=ops) hs hg (wpAny P .any ops Q n (iO.setIfInBounds i true)) Q (λst' a' w' tV he=>by
    cases he;refine ih (pre++post) (by simp at hn⊢;omega) (iO.setIfInBounds i true) st1 a' w' ?_ ?_ (by simpa using sR) ?_ tV h2;exact List.Pairwise.sublist (List.Sublist.append (List.Sublist.refl _) (List.sublist_cons_self _ _)) hpw;intro k;have hk:=D8 k;by_cases hki:k=i;subst hki;constructor;intro hm;exact absurd hm D9;rintro⟨_,hf⟩;simp[cG,show k<iO.size by omega]at hf;have Eb:(iO.setIfInBounds i true).getD k true=iO.getD k true:=by simp[cG,cD hki]
    rw[Eb,<-hk];simp[hki];intro k o jZ hkl m hm;have Eb:∀q,iO.getD q false=true->(iO.setIfInBounds i true).getD q false=true:=by
     intro q hq;simp only[cG,Array.getElem?_setIfInBounds]at hq⊢;split;·split<;>first|rfl|(rename_i h1 h2;subst h1;rw[Array.getElem?_eq_none (by omega)]at hq;exact hq)
     exact hq
    by_cases hki:k=i;subst hki;rw[ho]at jZ;cases jZ;exact Eb m (B9 m hm);refine Eb m (hcl k o jZ ?_ m hm);simpa[cG,Array.getElem?_setIfInBounds,cD hki]using hkl)
   unfold wpOp;rw[ho];exact aim
theorem X9 {a b:dI}{x:Nat}(h:x∈TP a b):x∈a\/x∈b:=by unfold TP at h;induction a generalizing b with|nil=>exact .inr h|cons y a ih=>rw[List.foldl_cons]at h;rcases ih h with h|h;exact .inl (by simp[h]);cases hc:b.contains y with|true=>rw[hc]at h;exact .inr h|false=>rw[hc]at h;rcases cg.1 h with rfl|h;exact .inl (by simp);exact .inr h
def acE (ops:Array Oper)(i j:Nat):Prop:=∀o,ops[i]?=some o->∀L:Nat->Prop,acA ops L->(∀k∈CL o,L k)->L j
theorem Qz {ops:Array Oper}:∀(r done:au Oper)(acc:au dI),ops.toList=done++r->acc.length=done.length->(∀i l,nth acc i=some l->∀j∈l,acE ops i j)->
 ∀i l,nth (T6 r acc) i=some l->∀j∈l,acE ops i j
 |[],done,acc,_,_,h=>h
 |o::r,done,acc,ahh,hlen,h=>by
  refine Qz r (done++[o]) _ (by rw[ahh];simp) (by simp[hlen]) ?_;intro i l hl j hj;rw[dv]at hl;rcases bL i acc.length with gq|zX;rw[bA gq]at hl;exact h i l (by rw[dv];exact hl) j hj;rw[bq zX]at hl;have hi:i=acc.length:=by cases hk:i-acc.length with|zero=>omega|succ n=>rw[hk]at hl;simp at hl
  subst hi;simp only[Nat.sub_self,ch,aZ]at hl;subst hl;have hoi:ops[acc.length]?=some o:=by rw[<-bZ,ahh,hlen,bq (aX _)];simp
  have key:∀(ps:dI)(s0:dI),(∀k∈ps,k∈CL o)->(∀x∈s0,acE ops acc.length x)->∀x∈ps.foldl (λs j=>TP (j::(nth acc j).getD []) s) s0,acE ops acc.length x:=by
   intro ps;induction ps with
   |nil=>intro s0 _ h0;exact h0
   |cons k ps ih=>
    intro s0 hps h0;rw[List.foldl_cons];refine ih _ (λm hm=>hps m (by simp[hm])) ?_;intro x hx;rcases X9 hx with hx|hx;intro o' MF L hL hp;rw[hoi]at MF;cases MF;have hk:=hp k (hps k (by simp));rcases cg.1 hx with rfl|hx;exact hk;cases hak:nth acc k with
    |none=>rw[hak]at hx;cases hx
    |some l=>
     rw[hak]at hx;have hkl:k<acc.length:=by rw[dv]at hak;exact(aD.1 hak).1
     have jZ:∃ok,ops[k]?=some ok:=by rw[<-bZ,ahh,bA (by omega)];exact⟨_,al (by omega)⟩
     obtain⟨ok,jZ⟩:=jZ;exact h k l hak x hx ok jZ L hL (hL k ok jZ hk)
    exact h0 x hx
  exact key (CL o) [] (λ_ h=>h) (by simp) j hj
theorem abF {ops:Array Oper}{i k:Nat}(h:abE (T6 ops.toList []) i k=true):acE ops i k:=by unfold abE at h;cases hl:nth (T6 ops.toList []) i with|none=>rw[hl]at h;simp at h|some l=>rw[hl]at h;exact Qz ops.toList [] [] rfl rfl (λi l hl=>by simp[nth]at hl) i l hl k (by simpa using h)
theorem L4 {ops:au Oper}{i:Nat}{oi:Oper}:∀(l:au Oper)(j:Nat),OL an ops A i oi j l=true->∀k ok,l[k]?=some ok->j+k<i->(abE A i (j+k)||Nm an ops (sS an A (j+k) 0 ops) (sS an A i 0 ops) ok oi)=true
 |[],j,_,k,ok,hk,_=>by simp at hk
 |oj::l,j,h,k,ok,hk,gq=>by
  simp only[OL]at h;have hb:Nat.ble i j=false:=by cases hb:Nat.ble i j with|false=>rfl|true=>have:=Nat.le_of_ble_eq_true hb;omega
  rw[hb]at h;simp only[ae,ah]at h;cases k with|zero=>simp at hk;subst hk;exact h.1|succ k=>have:=L4 l (j+1) h.2 k ok (by simpa using hk) (by omega);rwa[show j+1+k=j+(k+1) by omega]at this
theorem L5 {ops:au Oper}:∀(l:au Oper)(i:Nat),Tf an ops A i l=true->∀k ok,l[k]?=some ok->(∀m∈CL ok,m<i+k)/\OL an ops A (i+k) ok 0 ops=true
 |[],i,_,k,ok,hk=>by simp at hk
 |o::l,i,h,k,ok,hk=>by simp only[Tf,ah,aW]at h;cases k with|zero=>simp at hk;subst hk;exact⟨λm hm=>Nat.le_of_ble_eq_true (h.1.1 m hm),h.1.2⟩|succ k=>have:=L5 l (i+1) h.2 k ok (by simpa using hk);rwa[show i+1+k=i+(k+1) by omega]at this
section
variable {R:Type} {r:R} {st:AS} {a:Act} {w:World}
theorem NF (ops:au Oper)(A:au dI):∀(l:au Oper)(i:Nat)(st:AS)(K:AS->aw R),HL E Γ an ops A i l st K=(HL E Γ an ops A i l st some).bind K
 |[],i,st,K=>rfl
 |o::l,i,st,K=>by simp only[HL];cases dg E an (sS an A i 0 ops) o st with|false=>rfl|true=>simp only[af];rw[qD,qD (K:=λst'=>HL E Γ an ops A (i+1) l st' some),Option.bind_assoc];congr 1;funext st';exact NF ops A l (i+1) st' K
theorem QH (ops:au Oper)(A:au dI):∀(n i:Nat)(st:AS),i+n=ops.length->HL E Γ an ops A i (ops.drop i) st some=Ql E Γ an ops (λk=>sS an A k 0 ops) (List.range' i n) st
 |0,i,st,hi=>by rw[cK (by omega)];rfl
 |n+1,i,st,hi=>by
  have N9:i<ops.length:=by omega
  rw[bQ N9,List.range'_succ];have ho:nth ops i=some ops[i]:=by rw[dv];exact al N9
  simp only[HL,Ql,ho,cv];cases dg E an (sS an A i 0 ops) ops[i] st with|false=>rfl|true=>simp only[af];rw[qD];congr 1;funext st';exact QH ops A n (i+1) st' (by omega)
theorem NM (ops:au Oper)(d:Bool)(K:AS->aw R):F4 E Γ an ops d st K=(F4 E Γ an ops d st some).bind K:=by unfold F4;cases d with|false=>exact Ru ops ops st K|true=>simp only[af];cases Uk an ops with|false=>rfl|true=>exact NF ops _ ops 0 st K
theorem Rq (zw:∀f,(Γ f).io=false/\(Γ f).bx=false/\(Γ f).pr=false){ops:au Oper}{A:au dI}(hq:∀o∈ops,gb an (It ops) o=true):∀(l:au Oper)(i:Nat)(st st':AS),(∀o∈l,o∈ops)->HL E Γ an ops A i l st some=some st'->iG (It ops) st st'
 |[],i,st,st',_,h=>by cases h;exact iG.refl _ _
 |o::l,i,st,st',hl,h=>by simp only[HL]at h;cases hf:dg E an (sS an A i 0 ops) o st with|false=>rw[hf]at h;cases h|true=>rw[hf]at h;simp only[af]at h;rw[qD]at h;cases hg:fY E Γ an ops o st some with|none=>rw[hg]at h;cases h|some st1=>rw[hg]at h;exact(OG zw (hl o (by simp)) (hq o (hl o (by simp))) hg).trans (Rq zw hq l (i+1) st1 st' (λo' MF=>hl o' (by simp[MF])) h)
theorem abv (zw:∀f,(Γ f).io=false/\(Γ f).bx=false/\(Γ f).pr=false){ops:au Oper}{d:Bool}(hq:∀o∈ops,gb an (It ops) o=true){st':AS}(h:F4 E Γ an ops d st some=some st'):iG (It ops) st st':=by unfold F4 at h;cases d with|false=>exact Vv zw hq ops st st' (λ_ h=>h) h|true=>simp only[af]at h;cases hb:Uk an ops with|false=>rw[hb]at h;cases h|true=>rw[hb]at h;exact Rq (aga zw) hq ops 0 st st' (λ_ h=>h) h
theorem Zp (hS:Sound P E Γ){id:Nat}{ops:Array Oper}{d:Bool}(h:nb C st a w){r:AS}(hk:F4 E Γ an ops.toList d st some=some r){Q:Exit->Act->World->Prop}(hq:∀a' w',nb C r a' w'->Q .normal a' w'):(Code.region id ops d).wp P Q a w:=by
 unfold F4 at hk;cases d with
 |false=>apply wp_region;rw[List.range_eq_range'];exact aec hS (K:=some) (r:=r) (λst' a' w' hs he=>by cases he;exact hq _ _ hs) ops.size 0 st a w (by omega) h (by simpa using hk)
 |true=>
  simp only[af]at hk;cases hb:Uk an ops.toList with
  |false=>rw[hb]at hk;cases hk
  |true=>
   rw[hb]at hk;simp only[af]at hk;have aik:=QH (E:=E) (Γ:=Γ.IX) (an:=an) ops.toList (T6 ops.toList []) ops.size 0 st (by simp);rw[ef,hk]at aik;unfold Uk at hb;have ads:=L5 ops.toList 0 hb;apply wp_region_any hS.mixed;have hs1:nb C st a {w with drawn:=w.drawn+1}:=h.grow (Fr.drew _ w)
   have:=agJ (an:=an) (C:=C) (af9 Γ) hS.IX (ops:=ops) (X:=λk=>sS an (T6 ops.toList []) k 0 ops.toList) (Q:=Q) (r:=r)
    (λi o ho k hk=>by have:=(ads i o (by rw[bZ];exact ho)).1 k hk;simpa using this)
    (λi j oi oj hji hi hj=>by have h1:=(ads i oi (by rw[bZ];exact hi)).2;rw[cc]at h1;have h2:=L4 ops.toList 0 h1 j oj (by rw[bZ];exact hj) (by omega);rw[cc,cX]at h2;rcases h2 with h2|h2;exact .inl (λL hL hp=>abF h2 oi hi L hL hp);exact .inr h2) hq (List.range' 0 ops.size) (Array.replicate ops.size false) st a {w with drawn:=w.drawn+1} List.pairwise_lt_range'
    (λi=>by
     rw[List.mem_range'_1];constructor;rintro⟨_,hi⟩;have rn:i<ops.size:=by omega
     exact⟨rn,by simp[Array.getD,rn]⟩;rintro⟨hi,_⟩;omega) (by simp)
    (λi o _ hl=>by exfalso;simp only[Array.getD,Array.size_replicate,Array.getInternal_eq_getElem,Array.getElem_replicate]at hl;split at hl<;>cases hl) hs1 aik.symm
   rwa[List.length_range']at this
end
end Go.Dn
