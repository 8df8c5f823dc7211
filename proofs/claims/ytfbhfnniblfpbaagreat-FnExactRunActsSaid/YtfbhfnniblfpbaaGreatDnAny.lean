import Derived.Test.YtfbhfnniblfpbaaGreatDnDraw
/- A region whose order is drawn: whatever the order, the outcome is that of the text's order. -/
namespace Go.Dn
open Go.RowKit
variable {P:Program} {C:Ctx} {E:Env} {Γ:xV} {an:An}
variable {iZ:Array Bool} {A:aq dX}
def adw (ops:Array Oper)(L:Nat->Prop):Prop:=∀i o,ops[i]?=some o->L i->∀k∈DG o,L k
theorem mem_ready {ops:Array Oper}{i:Nat}(h:i∈Region.ready .any ops iZ): ∃o,ops[i]?=some o/\i<ops.size/\iZ.getD i true=false/\∀k∈DG o,iZ.getD k false=true:=by
 unfold Region.ready at h;rw[List.mem_filter]at h;obtain⟨hi,h⟩:=h;have gV:i<ops.size:=by simpa using hi
 simp only[ah,aP]at h;have ho:ops[i]?=some ops[i]:=Array.getElem?_eq_getElem gV;rw[ho]at h;simp only[dg,fz,Array.all_eq_true]at h;refine⟨ops[i],ho,gV,h.1,λk hk=>?_⟩;simp only[DG,List.mem_map,List.mem_filter]at hk;obtain⟨e,⟨he,hb⟩,rfl⟩:=hk;obtain⟨j,hj,hje⟩:=Array.mem_iff_getElem.1 (Array.mem_toList_iff.1 he);have:=h.2 j hj;rw[hje]at this;simpa[hb]using this
theorem afx {ops:Array Oper}{i:Nat}{o:Oper}(ho:ops[i]?=some o)(hl:iZ.getD i true=false)(hp:∀k∈DG o,iZ.getD k false=true):i∈Region.ready .any ops iZ:=by have gV:i<ops.size:=(Array.getElem?_eq_some_iff.1 ho).1;unfold Region.ready;rw[List.mem_filter];refine⟨by simpa using gV,?_⟩;rw[ho,hl];simp only[cf,bF,dg,fz,Array.all_eq_true];intro j hj;cases hb:Region.binds .any o.after[j]with|false=>rfl|true=>simp only[ai,cL];refine hp _ ?_;simp only[DG,List.mem_map,List.mem_filter];exact⟨o.after[j],⟨by simp,hb⟩,rfl⟩
theorem ahY (Ap:∀f,(Γ f).io=false/\((Γ f).bx=true->(Γ f).cur=true)/\(Γ f).pr=false)(hS:Sound P E Γ){ops:Array Oper}{X:Nat->dX}{Q:Exit->Act->World->Prop}{r:AS}(gV:∀i o,ops[i]?=some o->∀k∈DG o,k<i)(aju:∀i j oi oj,j<i->ops[i]?=some oi->ops[j]?=some oj->(∀L:Nat->Prop,adw ops L->(∀k∈DG oi,L k)->L j)\/N1 an ops.toList (X j) (X i) oj oi=true)(hq:∀a w,nv C r a w->Q .normal a w): ∀(rem:dX)(iZ:Array Bool)(st:AS)(a:Act)(w:World),rem.Pairwise (·<·)->(∀i,i∈rem↔i<ops.size/\iZ.getD i true=false)->iZ.size=ops.size-> (∀i o,ops[i]?=some o->iZ.getD i false=true->∀k∈DG o,iZ.getD k false=true)->nv C st a w->Q0 E Γ an ops.toList X rem st=some r-> wpAny P .any ops Q rem.length iZ a w:=by
 intro rem;generalize hn:rem.length=n;induction n generalizing rem with
 |zero=>intro iZ st a w _ E2 _ _ hs hr;have:rem=[]:=cz hn;subst this;cases hr;refine⟨?_,hq a w hs⟩;cases Kd:Region.ready .any ops iZ with|nil=>rfl|cons i l=>obtain⟨o,ho,hi,hl,_⟩:=mem_ready (i:=i) (by rw[Kd];simp);have:=(E2 i).2 ⟨hi,hl⟩;cases this
 |succ n ih=>
  intro iZ st a w hpw E2 tw hcl hs hr;have ahP:∀k,k<ops.size->iZ.getD k false= !(decide (k∈rem)):=by
   intro k hk;have h1:=E2 k;have Ha:k<iZ.size:=by omega
   simp only[Array.getD,Ha,dite_true]at h1⊢;by_cases hm:k∈rem;have:=(h1.1 hm).2;simpa[hm]using this;have:¬(iZ[k]=false):=λhf=>hm (h1.2 ⟨hk,hf⟩);simpa[hm]using this
  refine⟨λTr=>?_,λi hi=>?_⟩;exfalso;cases rem with
  |nil=>simp at hn
  |cons i l=>
   have hi:=(E2 i).1 (by simp);have ho:ops[i]?=some ops[i]:=Array.getElem?_eq_getElem hi.1;have:i∈Region.ready .any ops iZ:=by
    refine afx ho hi.2 λk hk=>?_;have hki:=gV i _ ho k hk;rw[ahP k (by omega)];have:k∉i::l:=by intro hm;rcases cv.1 hm with rfl|hm;omega;have:=(List.pairwise_cons.1 hpw).1 k hm;omega
    simp[this]
   rw[Tr]at this;cases this
  ·obtain⟨oi,ho,OP,hlf,C3⟩:=mem_ready hi;have uw:i∈rem:=(E2 i).2 ⟨OP,hlf⟩;obtain⟨pre,post,rfl⟩:=List.append_of_mem uw;have ajr:nth ops.toList i=some oi:=by rw[dB,cg];exact ho
   have aiw:=List.pairwise_append.1 hpw
   have aen:=PL (E:=E) (Γ:=Γ) (an:=an) (X:=X) Ap ajr pre post st r (λj hj oj hoj=>by
    have hji:j<i:=aiw.2.2 j hj i (by simp);have aqF:ops[j]?=some oj:=by rw[dB,cg]at hoj;exact hoj
    rcases aju i j oi oj hji ho aqF with aqf|hap;exfalso;have hL:=aqf (λk=>iZ.getD k false=true) (λk o hk XA=>hcl k o hk XA) C3;have:=(E2 j).1 (by simp[hj]);simp only[ahP j this.1]at hL;simp[hj]at hL;exact hap) hr
   simp only[Q0,ajr]at aen;obtain⟨st1,h1,h2⟩:=aL.1 aen;have hg:gB E Γ an ops.toList oi st some=some st1:=by unfold cB at h1;cases hf:du E an (X i) oi st with|false=>rw[hf]at h1;cases h1|true=>rw[hf]at h1;exact h1
   have E3:i∉pre++post:=by intro hm;rcases az.1 hm with hm|hm;have:=aiw.2.2 i hm i (by simp);omega;have:=(List.pairwise_cons.1 aiw.2.1).1 i hm;omega
   have ajy:=Vw (P:=P) (C:=C) (an:=an) hS (ops:=ops) hs hg (wpAny P .any ops Q n (iZ.setIfInBounds i true)) Q (λst' a' w' ux he=>by
    cases he;refine ih (pre++post) (by simp at hn⊢;omega) (iZ.setIfInBounds i true) st1 a' w' ?_ ?_ (by simpa using tw) ?_ ux h2;exact List.Pairwise.sublist (List.Sublist.append (List.Sublist.refl _) (List.sublist_cons_self _ _)) hpw;intro k;have hk:=E2 k;by_cases hki:k=i;subst hki;constructor;intro hm;exact absurd hm E3;rintro⟨_,hf⟩;simp[cK,show k<iZ.size by omega]at hf;have DT:(iZ.setIfInBounds i true).getD k true=iZ.getD k true:=by simp[cK,cJ hki]
    rw[DT,<-hk];simp[hki];intro k o ku hkl m hm;have DT:∀q,iZ.getD q false=true->(iZ.setIfInBounds i true).getD q false=true:=by
     intro q hq;simp only[cK,Array.getElem?_setIfInBounds]at hq⊢;split;·split<;>first|rfl|(rename_i h1 h2;subst h1;rw[Array.getElem?_eq_none (by omega)]at hq;exact hq)
     exact hq
    by_cases hki:k=i;subst hki;rw[ho]at ku;cases ku;exact DT m (C3 m hm);refine DT m (hcl k o ku ?_ m hm);simpa[cK,Array.getElem?_setIfInBounds,cJ hki]using hkl)
   unfold wpOp;rw[ho];exact ajy
theorem Y6 {a b:dX}{x:Nat}(h:x∈UF a b):x∈a\/x∈b:=by unfold UF at h;induction a generalizing b with|nil=>exact .inr h|cons y a ih=>rw[List.foldl_cons]at h;rcases ih h with h|h;exact .inl (by simp[h]);cases hc:b.contains y with|true=>rw[hc]at h;exact .inr h|false=>rw[hc]at h;rcases cv.1 h with rfl|h;exact .inl (by simp);exact .inr h
def adA (ops:Array Oper)(i j:Nat):Prop:=∀o,ops[i]?=some o->∀L:Nat->Prop,adw ops L->(∀k∈DG o,L k)->L j
theorem Rd {ops:Array Oper}:∀(r done:aq Oper)(acc:aq dX),ops.toList=done++r->acc.length=done.length->(∀i l,nth acc i=some l->∀j∈l,adA ops i j)->
 ∀i l,nth (UW r acc) i=some l->∀j∈l,adA ops i j
 |[],done,acc,_,_,h=>h
 |o::r,done,acc,aiu,hlen,h=>by
  refine Rd r (done++[o]) _ (by rw[aiu];simp) (by simp[hlen]) ?_;intro i l hl j hj;rw[dB]at hl;rcases bS i acc.length with gV|BM;rw[bw gV]at hl;exact h i l (by rw[dB];exact hl) j hj;rw[bq BM]at hl;have hi:i=acc.length:=by cases hk:i-acc.length with|zero=>omega|succ n=>rw[hk]at hl;simp at hl
  subst hi;simp only[lO,cq,aZ]at hl;subst hl;have hoi:ops[acc.length]?=some o:=by rw[<-cg,aiu,hlen,bq (aR _)];simp
  have key:∀(ps:dX)(s0:dX),(∀k∈ps,k∈DG o)->(∀x∈s0,adA ops acc.length x)->∀x∈ps.foldl (λs j=>UF (j::(nth acc j).getD []) s) s0,adA ops acc.length x:=by
   intro ps;induction ps with
   |nil=>intro s0 _ h0;exact h0
   |cons k ps ih=>
    intro s0 hps h0;rw[List.foldl_cons];refine ih _ (λm hm=>hps m (by simp[hm])) ?_;intro x hx;rcases Y6 hx with hx|hx;intro o' Nj L hL hp;rw[hoi]at Nj;cases Nj;have hk:=hp k (hps k (by simp));rcases cv.1 hx with rfl|hx;exact hk;cases hak:nth acc k with
    |none=>rw[hak]at hx;cases hx
    |some l=>
     rw[hak]at hx;have hkl:k<acc.length:=by rw[dB]at hak;exact(aD.1 hak).1
     have ku:∃ok,ops[k]?=some ok:=by rw[<-cg,aiu,bw (by omega)];exact⟨_,al (by omega)⟩
     obtain⟨ok,ku⟩:=ku;exact h k l hak x hx ok ku L hL (hL k ok ku hk)
    exact h0 x hx
  exact key (DG o) [] (λ_ h=>h) (by simp) j hj
theorem acB {ops:Array Oper}{i k:Nat}(h:acA (UW ops.toList []) i k=true):adA ops i k:=by unfold acA at h;cases hl:nth (UW ops.toList []) i with|none=>rw[hl]at h;simp at h|some l=>rw[hl]at h;exact Rd ops.toList [] [] rfl rfl (λi l hl=>by simp[nth]at hl) i l hl k (by simpa using h)
theorem MK {ops:aq Oper}{i:Nat}{oi:Oper}:∀(l:aq Oper)(j:Nat),Pp an ops A i oi j l=true->∀k ok,l[k]?=some ok->j+k<i->(acA A i (j+k)||N1 an ops (tA an A (j+k) 0 ops) (tA an A i 0 ops) ok oi)=true
 |[],j,_,k,ok,hk,_=>by simp at hk
 |oj::l,j,h,k,ok,hk,gV=>by
  simp only[Pp]at h;have hb:Nat.ble i j=false:=by cases hb:Nat.ble i j with|false=>rfl|true=>have:=Nat.le_of_ble_eq_true hb;omega
  rw[hb]at h;simp only[ae,ah]at h;cases k with|zero=>simp at hk;subst hk;exact h.1|succ k=>have:=MK l (j+1) h.2 k ok (by simpa using hk) (by omega);rwa[show j+1+k=j+(k+1) by omega]at this
theorem ML {ops:aq Oper}:∀(l:aq Oper)(i:Nat),T4 an ops A i l=true->∀k ok,l[k]?=some ok->(∀m∈DG ok,m<i+k)/\Pp an ops A (i+k) ok 0 ops=true
 |[],i,_,k,ok,hk=>by simp at hk
 |o::l,i,h,k,ok,hk=>by simp only[T4,ah,aW]at h;cases k with|zero=>simp at hk;subst hk;exact⟨λm hm=>Nat.le_of_ble_eq_true (h.1.1 m hm),h.1.2⟩|succ k=>have:=ML l (i+1) h.2 k ok (by simpa using hk);rwa[show i+1+k=i+(k+1) by omega]at this
section
variable {R:Type} {r:R} {st:AS} {a:Act} {w:World}
theorem Oi (ops:aq Oper)(A:aq dX):∀(l:aq Oper)(i:Nat)(st:AS)(K:AS->au R),ID E Γ an ops A i l st K=(ID E Γ an ops A i l st some).bind K
 |[],i,st,K=>rfl
 |o::l,i,st,K=>by simp only[ID];cases du E an (tA an A i 0 ops) o st with|false=>rfl|true=>simp only[af];rw[qS,qS (K:=λst'=>ID E Γ an ops A (i+1) l st' some),Option.bind_assoc];congr 1;funext st';exact Oi ops A l (i+1) st' K
theorem Rl (ops:aq Oper)(A:aq dX):∀(n i:Nat)(st:AS),i+n=ops.length->ID E Γ an ops A i (ops.drop i) st some=Q0 E Γ an ops (λk=>tA an A k 0 ops) (List.range' i n) st
 |0,i,st,hi=>by rw[cS (by omega)];rfl
 |n+1,i,st,hi=>by
  have OP:i<ops.length:=by omega
  rw[cl OP,List.range'_succ];have ho:nth ops i=some ops[i]:=by rw[dB];exact al OP
  simp only[ID,Q0,ho,cB];cases du E an (tA an A i 0 ops) ops[i] st with|false=>rfl|true=>simp only[af];rw[qS];congr 1;funext st';exact Rl ops A n (i+1) st' (by omega)
theorem Oq (ops:aq Oper)(d:Bool)(K:AS->au R):GY E Γ an ops d st K=(GY E Γ an ops d st some).bind K:=by unfold GY;cases d with|false=>exact Sd ops ops st K|true=>simp only[af];cases Va an ops with|false=>rfl|true=>exact Oi ops _ ops 0 st K
theorem R9 (Ap:∀f,(Γ f).io=false/\(Γ f).bx=false/\(Γ f).pr=false){ops:aq Oper}{A:aq dX}(hq:∀o∈ops,gE an (Jm ops) o=true):∀(l:aq Oper)(i:Nat)(st st':AS),(∀o∈l,o∈ops)->ID E Γ an ops A i l st some=some st'->iU (Jm ops) st st'
 |[],i,st,st',_,h=>by cases h;exact iU.refl _ _
 |o::l,i,st,st',hl,h=>by simp only[ID]at h;cases hf:du E an (tA an A i 0 ops) o st with|false=>rw[hf]at h;cases h|true=>rw[hf]at h;simp only[af]at h;rw[qS]at h;cases hg:gB E Γ an ops o st some with|none=>rw[hg]at h;cases h|some st1=>rw[hg]at h;exact(Pk Ap (hl o (by simp)) (hq o (hl o (by simp))) hg).trans (R9 Ap hq l (i+1) st1 st' (λo' Nj=>hl o' (by simp[Nj])) h)
theorem acq (Ap:∀f,(Γ f).io=false/\(Γ f).bx=false/\(Γ f).pr=false){ops:aq Oper}{d:Bool}(hq:∀o∈ops,gE an (Jm ops) o=true){st':AS}(h:GY E Γ an ops d st some=some st'):iU (Jm ops) st st':=by unfold GY at h;cases d with|false=>exact Wn Ap hq ops st st' (λ_ h=>h) h|true=>simp only[af]at h;cases hb:Va an ops with|false=>rw[hb]at h;cases h|true=>rw[hb]at h;exact R9 (ahq Ap) hq ops 0 st st' (λ_ h=>h) h
theorem aam (hS:Sound P E Γ){id:Nat}{ops:Array Oper}{d:Bool}(h:nv C st a w){r:AS}(hk:GY E Γ an ops.toList d st some=some r){Q:Exit->Act->World->Prop}(hq:∀a' w',nv C r a' w'->Q .normal a' w'):(Code.region id ops d).wp P Q a w:=by
 unfold GY at hk;cases d with
 |false=>apply wp_region;rw[List.range_eq_range'];exact afj hS (K:=some) (r:=r) (λst' a' w' hs he=>by cases he;exact hq _ _ hs) ops.size 0 st a w (by omega) h (by simpa using hk)
 |true=>
  simp only[af]at hk;cases hb:Va an ops.toList with
  |false=>rw[hb]at hk;cases hk
  |true=>
   rw[hb]at hk;simp only[af]at hk;have ajw:=Rl (E:=E) (Γ:=Γ.JM) (an:=an) ops.toList (UW ops.toList []) ops.size 0 st (by simp);rw[fa,hk]at ajw;unfold Va at hb;have aet:=ML ops.toList 0 hb;apply wp_region_any hS.mixed;have hs1:nv C st a {w with drawn:=w.drawn+1}:=h.grow (Fr.drew _ w)
   have:=ahY (an:=an) (C:=C) (ahp Γ) hS.JM (ops:=ops) (X:=λk=>tA an (UW ops.toList []) k 0 ops.toList) (Q:=Q) (r:=r)
    (λi o ho k hk=>by have:=(aet i o (by rw[cg];exact ho)).1 k hk;simpa using this)
    (λi j oi oj hji hi hj=>by have h1:=(aet i oi (by rw[cg];exact hi)).2;rw[cm]at h1;have h2:=MK ops.toList 0 h1 j oj (by rw[cg];exact hj) (by omega);rw[cm,df]at h2;rcases h2 with h2|h2;exact .inl (λL hL hp=>acB h2 oi hi L hL hp);exact .inr h2) hq (List.range' 0 ops.size) (Array.replicate ops.size false) st a {w with drawn:=w.drawn+1} List.pairwise_lt_range'
    (λi=>by
     rw[List.mem_range'_1];constructor;rintro⟨_,hi⟩;have rJ:i<ops.size:=by omega
     exact⟨rJ,by simp[Array.getD,rJ]⟩;rintro⟨hi,_⟩;omega) (by simp)
    (λi o _ hl=>by exfalso;simp only[Array.getD,Array.size_replicate,Array.getInternal_eq_getElem,Array.getElem_replicate]at hl;split at hl<;>cases hl) hs1 ajw.symm
   rwa[List.length_range']at this
end
end Go.Dn
