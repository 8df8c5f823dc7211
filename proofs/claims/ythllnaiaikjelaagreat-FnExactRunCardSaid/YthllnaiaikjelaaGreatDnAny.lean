import Derived.Test.YthllnaiaikjelaaGreatDnDraw
/- A region whose order is drawn: whatever the order, the outcome is that of the text's order. -/
namespace Go.Dn
open Go.RowKit
variable {P:Program} {C:Ctx} {E:Env} {Γ:Cr} {an:An}
variable {kb:Array Bool} {A:ar ei}
def ala (ops:Array Oper)(L:Nat->Prop):Prop:=∀i o,ops[i]?=some o->L i->∀k∈Ij o,L k
theorem mem_ready {ops:Array Oper}{i:Nat}(h:i∈Region.ready .any ops kb): ∃o,ops[i]?=some o/\i<ops.size/\kb.getD i true=false/\∀k∈Ij o,kb.getD k false=true:=by
 unfold Region.ready at h;rw[List.mem_filter]at h;obtain⟨hi,h⟩:=h;have iJ:i<ops.size:=by simpa using hi
 simp only[ah,aW]at h;have ho:ops[i]?=some ops[i]:=Array.getElem?_eq_getElem iJ;rw[ho]at h;simp only[dB,fU,Array.all_eq_true]at h;refine⟨ops[i],ho,iJ,h.1,λk hk=>?_⟩;simp only[Ij,List.mem_map,List.mem_filter]at hk;obtain⟨e,⟨he,hb⟩,rfl⟩:=hk;obtain⟨j,hj,hje⟩:=Array.mem_iff_getElem.1 (Array.mem_toList_iff.1 he);have:=h.2 j hj;rw[hje]at this;simpa[hb]using this
theorem anu {ops:Array Oper}{i:Nat}{o:Oper}(ho:ops[i]?=some o)(hl:kb.getD i true=false)(hp:∀k∈Ij o,kb.getD k false=true):i∈Region.ready .any ops kb:=by have iJ:i<ops.size:=(Array.getElem?_eq_some_iff.1 ho).1;unfold Region.ready;rw[List.mem_filter];refine⟨by simpa using iJ,?_⟩;rw[ho,hl];simp only[bB,bj,dB,fU,Array.all_eq_true];intro j hj;cases hb:Region.binds .any o.after[j]with|false=>rfl|true=>simp only[ai,cC];refine hp _ ?_;simp only[Ij,List.mem_map,List.mem_filter];exact⟨o.after[j],⟨by simp,hb⟩,rfl⟩
theorem ap7 (EH:∀f,(Γ f).io=false/\((Γ f).bx=true->(Γ f).cur=true)/\(Γ f).pr=false)(hS:Sound P E Γ){ops:Array Oper}{X:Nat->ei}{Q:Exit->Act->World->Prop}{r:AS}(iJ:∀i o,ops[i]?=some o->∀k∈Ij o,k<i)(arO:∀i j oi oj,j<i->ops[i]?=some oi->ops[j]?=some oj->(∀L:Nat->Prop,ala ops L->(∀k∈Ij oi,L k)->L j)\/UC an ops.toList (X j) (X i) oj oi=true)(hq:∀a w,pL C r a w->Q .normal a w): ∀(rem:ei)(kb:Array Bool)(st:AS)(a:Act)(w:World),rem.Pairwise (·<·)->(∀i,i∈rem↔i<ops.size/\kb.getD i true=false)->kb.size=ops.size-> (∀i o,ops[i]?=some o->kb.getD i false=true->∀k∈Ij o,kb.getD k false=true)->pL C st a w->Xx E Γ an ops.toList X rem st=some r-> wpAny P .any ops Q rem.length kb a w:=by
 intro rem;generalize hn:rem.length=n;induction n generalizing rem with
 |zero=>intro kb st a w _ JZ _ _ hs hr;have:rem=[]:=cQ hn;subst this;cases hr;refine⟨?_,hq a w hs⟩;cases P7:Region.ready .any ops kb with|nil=>rfl|cons i l=>obtain⟨o,ho,hi,hl,_⟩:=mem_ready (i:=i) (by rw[P7];simp);have:=(JZ i).2 ⟨hi,hl⟩;cases this
 |succ n ih=>
  intro kb st a w hpw JZ xx hcl hs hr;have apV:∀k,k<ops.size->kb.getD k false= !(decide (k∈rem)):=by
   intro k hk;have h1:=JZ k;have Mk:k<kb.size:=by omega
   simp only[Array.getD,Mk,dite_true]at h1⊢;by_cases hm:k∈rem;have:=(h1.1 hm).2;simpa[hm]using this;have:¬(kb[k]=false):=λhf=>hm (h1.2 ⟨hk,hf⟩);simpa[hm]using this
  refine⟨λaaf=>?_,λi hi=>?_⟩;exfalso;cases rem with
  |nil=>simp at hn
  |cons i l=>
   have hi:=(JZ i).1 (by simp);have ho:ops[i]?=some ops[i]:=Array.getElem?_eq_getElem hi.1;have:i∈Region.ready .any ops kb:=by
    refine anu ho hi.2 λk hk=>?_;have hki:=iJ i _ ho k hk;rw[apV k (by omega)];have:k∉i::l:=by intro hm;rcases cq.1 hm with rfl|hm;omega;have:=(List.pairwise_cons.1 hpw).1 k hm;omega
    simp[this]
   rw[aaf]at this;cases this
  ·obtain⟨oi,ho,Vq,hlf,HF⟩:=mem_ready hi;have vG:i∈rem:=(JZ i).2 ⟨Vq,hlf⟩;obtain⟨pre,post,rfl⟩:=List.append_of_mem vG;have arL:nth ops.toList i=some oi:=by rw[dY,cp];exact ho
   have aqH:=List.pairwise_append.1 hpw
   have amc:=Wj (E:=E) (Γ:=Γ) (an:=an) (X:=X) EH arL pre post st r (λj hj oj hoj=>by
    have hji:j<i:=aqH.2.2 j hj i (by simp);have aAj:ops[j]?=some oj:=by rw[dY,cp]at hoj;exact hoj
    rcases arO i j oi oj hji ho aAj with azQ|hap;exfalso;have hL:=azQ (λk=>kb.getD k false=true) (λk o hk hlk=>hcl k o hk hlk) HF;have:=(JZ j).1 (by simp[hj]);simp only[apV j this.1]at hL;simp[hj]at hL;exact hap) hr
   simp only[Xx,arL]at amc;obtain⟨st1,h1,h2⟩:=aY.1 amc;have hg:im E Γ an ops.toList oi st some=some st1:=by unfold cR at h1;cases hf:dI E an (X i) oi st with|false=>rw[hf]at h1;cases h1|true=>rw[hf]at h1;exact h1
   have J0:i∉pre++post:=by intro hm;rcases aA.1 hm with hm|hm;have:=aqH.2.2 i hm i (by simp);omega;have:=(List.pairwise_cons.1 aqH.2.1).1 i hm;omega
   have arS:=aci (P:=P) (C:=C) (an:=an) hS (ops:=ops) hs hg (wpAny P .any ops Q n (kb.setIfInBounds i true)) Q (λst' a' w' yu he=>by
    cases he;refine ih (pre++post) (by simp at hn⊢;omega) (kb.setIfInBounds i true) st1 a' w' ?_ ?_ (by simpa using xx) ?_ yu h2;exact List.Pairwise.sublist (List.Sublist.append (List.Sublist.refl _) (List.sublist_cons_self _ _)) hpw;intro k;have hk:=JZ k;by_cases hki:k=i;subst hki;constructor;intro hm;exact absurd hm J0;rintro⟨_,hf⟩;simp[db,show k<kb.size by omega]at hf;have IA:(kb.setIfInBounds i true).getD k true=kb.getD k true:=by simp[db,cX hki]
    rw[IA,<-hk];simp[hki];intro k o lg hkl m hm;have IA:∀q,kb.getD q false=true->(kb.setIfInBounds i true).getD q false=true:=by
     intro q hq;simp only[db,Array.getElem?_setIfInBounds]at hq⊢;split;·split<;>first|rfl|(rename_i h1 h2;subst h1;rw[Array.getElem?_eq_none (by omega)]at hq;exact hq)
     exact hq
    by_cases hki:k=i;subst hki;rw[ho]at lg;cases lg;exact IA m (HF m hm);refine IA m (hcl k o lg ?_ m hm);simpa[db,Array.getElem?_setIfInBounds,cX hki]using hkl)
   unfold wpOp;rw[ho];exact arS
theorem agf {a b:ei}{x:Nat}(h:x∈abn a b):x∈a\/x∈b:=by unfold abn at h;induction a generalizing b with|nil=>exact .inr h|cons y a ih=>rw[List.foldl_cons]at h;rcases ih h with h|h;exact .inl (by simp[h]);cases hc:b.contains y with|true=>rw[hc]at h;exact .inr h|false=>rw[hc]at h;rcases cq.1 h with rfl|h;exact .inl (by simp);exact .inr h
def ale (ops:Array Oper)(i j:Nat):Prop:=∀o,ops[i]?=some o->∀L:Nat->Prop,ala ops L->(∀k∈Ij o,L k)->L j
theorem XP {ops:Array Oper}:∀(r done:ar Oper)(acc:ar ei),ops.toList=done++r->acc.length=done.length->(∀i l,nth acc i=some l->∀j∈l,ale ops i j)->
 ∀i l,nth (abv r acc) i=some l->∀j∈l,ale ops i j
 |[],done,acc,_,_,h=>h
 |o::r,done,acc,aqF,hlen,h=>by
  refine XP r (done++[o]) _ (by rw[aqF];simp) (by simp[hlen]) ?_;intro i l hl j hj;rw[dY]at hl;rcases bS i acc.length with iJ|Fp;rw[bI iJ]at hl;exact h i l (by rw[dY];exact hl) j hj;rw[bw Fp]at hl;have hi:i=acc.length:=by cases hk:i-acc.length with|zero=>omega|succ n=>rw[hk]at hl;simp at hl
  subst hi;simp only[hZ,cL,bf]at hl;subst hl;have hoi:ops[acc.length]?=some o:=by rw[<-cp,aqF,hlen,bw (ba _)];simp
  have key:∀(ps:ei)(s0:ei),(∀k∈ps,k∈Ij o)->(∀x∈s0,ale ops acc.length x)->∀x∈ps.foldl (λs j=>abn (j::(nth acc j).getD []) s) s0,ale ops acc.length x:=by
   intro ps;induction ps with
   |nil=>intro s0 _ h0;exact h0
   |cons k ps ih=>
    intro s0 hps h0;rw[List.foldl_cons];refine ih _ (λm hm=>hps m (by simp[hm])) ?_;intro x hx;rcases agf hx with hx|hx;intro o' TH L hL hp;rw[hoi]at TH;cases TH;have hk:=hp k (hps k (by simp));rcases cq.1 hx with rfl|hx;exact hk;cases hak:nth acc k with
    |none=>rw[hak]at hx;cases hx
    |some l=>
     rw[hak]at hx;have hkl:k<acc.length:=by rw[dY]at hak;exact(aJ.1 hak).1
     have lg:∃ok,ops[k]?=some ok:=by rw[<-cp,aqF,bI (by omega)];exact⟨_,al (by omega)⟩
     obtain⟨ok,lg⟩:=lg;exact h k l hak x hx ok lg L hL (hL k ok lg hk)
    exact h0 x hx
  exact key (Ij o) [] (λ_ h=>h) (by simp) j hj
theorem aj8 {ops:Array Oper}{i k:Nat}(h:aj7 (abv ops.toList []) i k=true):ale ops i k:=by unfold aj7 at h;cases hl:nth (abv ops.toList []) i with|none=>rw[hl]at h;simp at h|some l=>rw[hl]at h;exact XP ops.toList [] [] rfl rfl (λi l hl=>by simp[nth]at hl) i l hl k (by simpa using h)
theorem S6 {ops:ar Oper}{i:Nat}{oi:Oper}:∀(l:ar Oper)(j:Nat),VX an ops A i oi j l=true->∀k ok,l[k]?=some ok->j+k<i->(aj7 A i (j+k)||UC an ops (xy an A (j+k) 0 ops) (xy an A i 0 ops) ok oi)=true
 |[],j,_,k,ok,hk,_=>by simp at hk
 |oj::l,j,h,k,ok,hk,iJ=>by
  simp only[VX]at h;have hb:Nat.ble i j=false:=by cases hb:Nat.ble i j with|false=>rfl|true=>have:=Nat.le_of_ble_eq_true hb;omega
  rw[hb]at h;simp only[ae,ah]at h;cases k with|zero=>simp at hk;subst hk;exact h.1|succ k=>have:=S6 l (j+1) h.2 k ok (by simpa using hk) (by omega);rwa[show j+1+k=j+(k+1) by omega]at this
theorem S7 {ops:ar Oper}:∀(l:ar Oper)(i:Nat),aaK an ops A i l=true->∀k ok,l[k]?=some ok->(∀m∈Ij ok,m<i+k)/\VX an ops A (i+k) ok 0 ops=true
 |[],i,_,k,ok,hk=>by simp at hk
 |o::l,i,h,k,ok,hk=>by simp only[aaK,ah,aP]at h;cases k with|zero=>simp at hk;subst hk;exact⟨λm hm=>Nat.le_of_ble_eq_true (h.1.1 m hm),h.1.2⟩|succ k=>have:=S7 l (i+1) h.2 k ok (by simpa using hk);rwa[show i+1+k=i+(k+1) by omega]at this
section
variable {R:Type} {r:R} {st:AS} {a:Act} {w:World}
theorem UT (ops:ar Oper)(A:ar ei):∀(l:ar Oper)(i:Nat)(st:AS)(K:AS->au R),N1 E Γ an ops A i l st K=(N1 E Γ an ops A i l st some).bind K
 |[],i,st,K=>rfl
 |o::l,i,st,K=>by simp only[N1];cases dI E an (xy an A i 0 ops) o st with|false=>rfl|true=>simp only[af];rw[uF,uF (K:=λst'=>N1 E Γ an ops A (i+1) l st' some),Option.bind_assoc];congr 1;funext st';exact UT ops A l (i+1) st' K
theorem XZ (ops:ar Oper)(A:ar ei):∀(n i:Nat)(st:AS),i+n=ops.length->N1 E Γ an ops A i (ops.drop i) st some=Xx E Γ an ops (λk=>xy an A k 0 ops) (List.range' i n) st
 |0,i,st,hi=>by rw[dk (by omega)];rfl
 |n+1,i,st,hi=>by
  have Vq:i<ops.length:=by omega
  rw[cg Vq,List.range'_succ];have ho:nth ops i=some ops[i]:=by rw[dY];exact al Vq
  simp only[N1,Xx,ho,cR];cases dI E an (xy an A i 0 ops) ops[i] st with|false=>rfl|true=>simp only[af];rw[uF];congr 1;funext st';exact XZ ops A n (i+1) st' (by omega)
theorem U1 (ops:ar Oper)(d:Bool)(K:AS->au R):L7 E Γ an ops d st K=(L7 E Γ an ops d st some).bind K:=by unfold L7;cases d with|false=>exact YS ops ops st K|true=>simp only[af];cases abN an ops with|false=>rfl|true=>exact UT ops _ ops 0 st K
theorem YO (EH:∀f,(Γ f).io=false/\(Γ f).bx=false/\(Γ f).pr=false){ops:ar Oper}{A:ar ei}(hq:∀o∈ops,ix an (OT ops) o=true):∀(l:ar Oper)(i:Nat)(st st':AS),(∀o∈l,o∈ops)->N1 E Γ an ops A i l st some=some st'->jS (OT ops) st st'
 |[],i,st,st',_,h=>by cases h;exact jS.refl _ _
 |o::l,i,st,st',hl,h=>by simp only[N1]at h;cases hf:dI E an (xy an A i 0 ops) o st with|false=>rw[hf]at h;cases h|true=>rw[hf]at h;simp only[af]at h;rw[uF]at h;cases hg:im E Γ an ops o st some with|none=>rw[hg]at h;cases h|some st1=>rw[hg]at h;exact(VT EH (hl o (by simp)) (hq o (hl o (by simp))) hg).trans (YO EH hq l (i+1) st1 st' (λo' TH=>hl o' (by simp[TH])) h)
theorem ajY (EH:∀f,(Γ f).io=false/\(Γ f).bx=false/\(Γ f).pr=false){ops:ar Oper}{d:Bool}(hq:∀o∈ops,ix an (OT ops) o=true){st':AS}(h:L7 E Γ an ops d st some=some st'):jS (OT ops) st st':=by unfold L7 at h;cases d with|false=>exact ado EH hq ops st st' (λ_ h=>h) h|true=>simp only[af]at h;cases hb:abN an ops with|false=>rw[hb]at h;cases h|true=>rw[hb]at h;exact YO (apw EH) hq ops 0 st st' (λ_ h=>h) h
theorem ahI (hS:Sound P E Γ){id:Nat}{ops:Array Oper}{d:Bool}(h:pL C st a w){r:AS}(hk:L7 E Γ an ops.toList d st some=some r){Q:Exit->Act->World->Prop}(hq:∀a' w',pL C r a' w'->Q .normal a' w'):(Code.region id ops d).wp P Q a w:=by
 unfold L7 at hk;cases d with
 |false=>apply wp_region;rw[List.range_eq_range'];exact anc hS (K:=some) (r:=r) (λst' a' w' hs he=>by cases he;exact hq _ _ hs) ops.size 0 st a w (by omega) h (by simpa using hk)
 |true=>
  simp only[af]at hk;cases hb:abN an ops.toList with
  |false=>rw[hb]at hk;cases hk
  |true=>
   rw[hb]at hk;simp only[af]at hk;have arQ:=XZ (E:=E) (Γ:=Γ.Pp) (an:=an) ops.toList (abv ops.toList []) ops.size 0 st (by simp);rw[fJ,hk]at arQ;unfold abN at hb;have amj:=S7 ops.toList 0 hb;apply wp_region_any hS.mixed;have hs1:pL C st a {w with drawn:=w.drawn+1}:=h.grow (Fr.drew _ w)
   have:=ap7 (an:=an) (C:=C) (apv Γ) hS.Pp (ops:=ops) (X:=λk=>xy an (abv ops.toList []) k 0 ops.toList) (Q:=Q) (r:=r)
    (λi o ho k hk=>by have:=(amj i o (by rw[cp];exact ho)).1 k hk;simpa using this)
    (λi j oi oj hji hi hj=>by have h1:=(amj i oi (by rw[cp];exact hi)).2;rw[cv]at h1;have h2:=S6 ops.toList 0 h1 j oj (by rw[cp];exact hj) (by omega);rw[cv,dA]at h2;rcases h2 with h2|h2;exact .inl (λL hL hp=>aj8 h2 oi hi L hL hp);exact .inr h2) hq (List.range' 0 ops.size) (Array.replicate ops.size false) st a {w with drawn:=w.drawn+1} List.pairwise_lt_range'
    (λi=>by
     rw[List.mem_range'_1];constructor;rintro⟨_,hi⟩;have uw:i<ops.size:=by omega
     exact⟨uw,by simp[Array.getD,uw]⟩;rintro⟨hi,_⟩;omega) (by simp)
    (λi o _ hl=>by exfalso;simp only[Array.getD,Array.size_replicate,Array.getInternal_eq_getElem,Array.getElem_replicate]at hl;split at hl<;>cases hl) hs1 arQ.symm
   rwa[List.length_range']at this
end
end Go.Dn
