import Derived.Test.YtfbhfnniblfpbaaGreatDnDraw
/- A region whose order is drawn: whatever the order, the outcome is that of the text's order. -/
namespace Go.Dn
open Go.RowKit
variable {P:Program} {C:Ctx} {E:Env} {Γ:xu} {an:An}
variable {jg:Array Bool} {A:au eo}
def acA (ops:Array Oper)(L:Nat->Prop):Prop:=∀i o,ops[i]?=some o->L i->∀k∈Cp o,L k
theorem mem_ready {ops:Array Oper}{i:Nat}(h:i∈Region.ready .any ops jg): ∃o,ops[i]?=some o/\i<ops.size/\jg.getD i true=false/\∀k∈Cp o,jg.getD k false=true:=by
 unfold Region.ready at h;rw[List.mem_filter]at h;obtain⟨hi,h⟩:=h;have gB:i<ops.size:=by simpa using hi
 simp only[ah,aN]at h;have ho:ops[i]?=some ops[i]:=Array.getElem?_eq_getElem gB;rw[ho]at h;simp only[dk,fj,Array.all_eq_true]at h;refine⟨ops[i],ho,gB,h.1,λk hk=>?_⟩;simp only[Cp,List.mem_map,List.mem_filter]at hk;obtain⟨e,⟨he,hb⟩,rfl⟩:=hk;obtain⟨j,hj,hje⟩:=Array.mem_iff_getElem.1 (Array.mem_toList_iff.1 he);have:=h.2 j hj;rw[hje]at this;simpa[hb]using this
theorem aep {ops:Array Oper}{i:Nat}{o:Oper}(ho:ops[i]?=some o)(hl:jg.getD i true=false)(hp:∀k∈Cp o,jg.getD k false=true):i∈Region.ready .any ops jg:=by have gB:i<ops.size:=(Array.getElem?_eq_some_iff.1 ho).1;unfold Region.ready;rw[List.mem_filter];refine⟨by simpa using gB,?_⟩;rw[ho,hl];simp only[bS,bB,dk,fj,Array.all_eq_true];intro j hj;cases hb:Region.binds .any o.after[j]with|false=>rfl|true=>simp only[aj,cJ];refine hp _ ?_;simp only[Cp,List.mem_map,List.mem_filter];exact⟨o.after[j],⟨by simp,hb⟩,rfl⟩
theorem agQ (B5:∀f,(Γ f).io=false/\((Γ f).bx=true->(Γ f).cur=true)/\(Γ f).pr=false)(hS:Sound P E Γ){ops:Array Oper}{X:Nat->eo}{Q:Exit->Act->World->Prop}{r:AS}(gB:∀i o,ops[i]?=some o->∀k∈Cp o,k<i)(aiA:∀i j oi oj,j<i->ops[i]?=some oi->ops[j]?=some oj->(∀L:Nat->Prop,acA ops L->(∀k∈Cp oi,L k)->L j)\/MN an ops.toList (X j) (X i) oj oi=true)(hq:∀a w,oz C r a w->Q .normal a w): ∀(rem:eo)(jg:Array Bool)(st:AS)(a:Act)(w:World),rem.Pairwise (·<·)->(∀i,i∈rem↔i<ops.size/\jg.getD i true=false)->jg.size=ops.size-> (∀i o,ops[i]?=some o->jg.getD i false=true->∀k∈Cp o,jg.getD k false=true)->oz C st a w->PU E Γ an ops.toList X rem st=some r-> wpAny P .any ops Q rem.length jg a w:=by
 intro rem;generalize hn:rem.length=n;induction n generalizing rem with
 |zero=>intro jg st a w _ DS _ _ hs hr;have:rem=[]:=ca hn;subst this;cases hr;refine⟨?_,hq a w hs⟩;cases NG:Region.ready .any ops jg with|nil=>rfl|cons i l=>obtain⟨o,ho,hi,hl,_⟩:=mem_ready (i:=i) (by rw[NG];simp);have:=(DS i).2 ⟨hi,hl⟩;cases this
 |succ n ih=>
  intro jg st a w hpw DS uq hcl hs hr;have agE:∀k,k<ops.size->jg.getD k false= !(decide (k∈rem)):=by
   intro k hk;have h1:=DS k;have Fs:k<jg.size:=by omega
   simp only[Array.getD,Fs,dite_true]at h1⊢;by_cases hm:k∈rem;have:=(h1.1 hm).2;simpa[hm]using this;have:¬(jg[k]=false):=λhf=>hm (h1.2 ⟨hk,hf⟩);simpa[hm]using this
  refine⟨λSq=>?_,λi hi=>?_⟩;exfalso;cases rem with
  |nil=>simp at hn
  |cons i l=>
   have hi:=(DS i).1 (by simp);have ho:ops[i]?=some ops[i]:=Array.getElem?_eq_getElem hi.1;have:i∈Region.ready .any ops jg:=by
    refine aep ho hi.2 λk hk=>?_;have hki:=gB i _ ho k hk;rw[agE k (by omega)];have:k∉i::l:=by intro hm;rcases cg.1 hm with rfl|hm;omega;have:=(List.pairwise_cons.1 hpw).1 k hm;omega
    simp[this]
   rw[Sq]at this;cases this
  ·obtain⟨oi,ho,Pw,hlf,BD⟩:=mem_ready hi;have vS:i∈rem:=(DS i).2 ⟨Pw,hlf⟩;obtain⟨pre,post,rfl⟩:=List.append_of_mem vS;have aix:nth ops.toList i=some oi:=by rw[dJ,cm];exact ho
   have ahp:=List.pairwise_append.1 hpw
   have adl:=OD (E:=E) (Γ:=Γ) (an:=an) (X:=X) B5 aix pre post st r (λj hj oj hoj=>by
    have hji:j<i:=ahp.2.2 j hj i (by simp);have aox:ops[j]?=some oj:=by rw[dJ,cm]at hoj;exact hoj
    rcases aiA i j oi oj hji ho aox with an8|hap;exfalso;have hL:=an8 (λk=>jg.getD k false=true) (λk o hk Wy=>hcl k o hk Wy) BD;have:=(DS j).1 (by simp[hj]);simp only[agE j this.1]at hL;simp[hj]at hL;exact hap) hr
   simp only[PU,aix]at adl;obtain⟨st1,h1,h2⟩:=aO.1 adl;have hg:gi E Γ an ops.toList oi st some=some st1:=by unfold cE at h1;cases hf:dx E an (X i) oi st with|false=>rw[hf]at h1;cases h1|true=>rw[hf]at h1;exact h1
   have Ft:i∉pre++post:=by intro hm;rcases aA.1 hm with hm|hm;have:=ahp.2.2 i hm i (by simp);omega;have:=(List.pairwise_cons.1 ahp.2.1).1 i hm;omega
   have aiF:=Ur (P:=P) (C:=C) (an:=an) hS (ops:=ops) hs hg (wpAny P .any ops Q n (jg.setIfInBounds i true)) Q (λbM a' w' uo he=>by
    cases he;refine ih (pre++post) (by simp at hn⊢;omega) (jg.setIfInBounds i true) st1 a' w' ?_ ?_ (by simpa using uq) ?_ uo h2;exact List.Pairwise.sublist (List.Sublist.append (List.Sublist.refl _) (List.sublist_cons_self _ _)) hpw;intro k;have hk:=DS k;by_cases hki:k=i;subst hki;constructor;intro hm;exact absurd hm Ft;rintro⟨_,hf⟩;simp[cR,show k<jg.size by omega]at hf;have Fv:(jg.setIfInBounds i true).getD k true=jg.getD k true:=by simp[cR,cY hki]
    rw[Fv,<-hk];simp[hki];intro k o jY hkl m hm;have Fv:∀q,jg.getD q false=true->(jg.setIfInBounds i true).getD q false=true:=by
     intro q hq;simp only[cR,Array.getElem?_setIfInBounds]at hq⊢;split;·split<;>first|rfl|(rename_i h1 h2;subst h1;rw[Array.getElem?_eq_none (by omega)]at hq;exact hq)
     exact hq
    by_cases hki:k=i;subst hki;rw[ho]at jY;cases jY;exact Fv m (BD m hm);refine Fv m (hcl k o jY ?_ m hm);simpa[cR,Array.getElem?_setIfInBounds,cY hki]using hkl)
   unfold wpOp;rw[ho];exact aiF
theorem X0 {a b:eo}{x:Nat}(h:x∈Tw a b):x∈a\/x∈b:=by unfold Tw at h;induction a generalizing b with|nil=>exact .inr h|cons y a ih=>rw[List.foldl_cons]at h;rcases ih h with h|h;exact .inl (by simp[h]);cases hc:b.contains y with|true=>rw[hc]at h;exact .inr h|false=>rw[hc]at h;rcases cg.1 h with rfl|h;exact .inl (by simp);exact .inr h
def acF (ops:Array Oper)(i j:Nat):Prop:=∀o,ops[i]?=some o->∀L:Nat->Prop,acA ops L->(∀k∈Cp o,L k)->L j
theorem P9 {ops:Array Oper}:∀(r done:au Oper)(acc:au eo),ops.toList=done++r->acc.length=done.length->(∀i l,nth acc i=some l->∀j∈l,acF ops i j)->
 ∀i l,nth (TN r acc) i=some l->∀j∈l,acF ops i j
 |[],done,acc,_,_,h=>h
 |o::r,done,acc,ahn,hlen,h=>by
  refine P9 r (done++[o]) _ (by rw[ahn];simp) (by simp[hlen]) ?_;intro i l hl j hj;rw[dJ]at hl;rcases bQ i acc.length with gB|Ae;rw[bH gB]at hl;exact h i l (by rw[dJ];exact hl) j hj;rw[bz Ae]at hl;have hi:i=acc.length:=by cases hk:i-acc.length with|zero=>omega|succ n=>rw[hk]at hl;simp at hl
  subst hi;simp only[Nat.sub_self,cz,ba]at hl;subst hl;have hoi:ops[acc.length]?=some o:=by rw[<-cm,ahn,hlen,bz (aU _)];simp
  have key:∀(ps:eo)(s0:eo),(∀k∈ps,k∈Cp o)->(∀x∈s0,acF ops acc.length x)->∀x∈ps.foldl (λs j=>Tw (j::(nth acc j).getD []) s) s0,acF ops acc.length x:=by
   intro ps;induction ps with
   |nil=>intro s0 _ h0;exact h0
   |cons k ps ih=>
    intro s0 hps h0;rw[List.foldl_cons];refine ih _ (λm hm=>hps m (by simp[hm])) ?_;intro x hx;rcases X0 hx with hx|hx;intro o' L5 L hL hp;rw[hoi]at L5;cases L5;have hk:=hp k (hps k (by simp));rcases cg.1 hx with rfl|hx;exact hk;cases hak:nth acc k with
    |none=>rw[hak]at hx;cases hx
    |some l=>
     rw[hak]at hx;have hkl:k<acc.length:=by rw[dJ]at hak;exact(aE.1 hak).1
     have jY:∃ok,ops[k]?=some ok:=by rw[<-cm,ahn,bH (by omega)];exact⟨_,al (by omega)⟩
     obtain⟨ok,jY⟩:=jY;exact h k l hak x hx ok jY L hL (hL k ok jY hk)
    exact h0 x hx
  exact key (Cp o) [] (λ_ h=>h) (by simp) j hj
theorem abD {ops:Array Oper}{i k:Nat}(h:abC (TN ops.toList []) i k=true):acF ops i k:=by unfold abC at h;cases hl:nth (TN ops.toList []) i with|none=>rw[hl]at h;simp at h|some l=>rw[hl]at h;exact P9 ops.toList [] [] rfl rfl (λi l hl=>by simp[nth]at hl) i l hl k (by simpa using h)
theorem Lw {ops:au Oper}{i:Nat}{oi:Oper}:∀(l:au Oper)(j:Nat),Oe an ops A i oi j l=true->∀k ok,l[k]?=some ok->j+k<i->(abC A i (j+k)||MN an ops (tB an A (j+k) 0 ops) (tB an A i 0 ops) ok oi)=true
 |[],j,_,k,ok,hk,_=>by simp at hk
 |oj::l,j,h,k,ok,hk,gB=>by
  simp only[Oe]at h;have hb:Nat.ble i j=false:=by cases hb:Nat.ble i j with|false=>rfl|true=>have:=Nat.le_of_ble_eq_true hb;omega
  rw[hb]at h;simp only[ae,ah]at h;cases k with|zero=>simp at hk;subst hk;exact h.1|succ k=>have:=Lw l (j+1) h.2 k ok (by simpa using hk) (by omega);rwa[show j+1+k=j+(k+1) by omega]at this
theorem Lx {ops:au Oper}:∀(l:au Oper)(i:Nat),SY an ops A i l=true->∀k ok,l[k]?=some ok->(∀m∈Cp ok,m<i+k)/\Oe an ops A (i+k) ok 0 ops=true
 |[],i,_,k,ok,hk=>by simp at hk
 |o::l,i,h,k,ok,hk=>by simp only[SY,ah,aL]at h;cases k with|zero=>simp at hk;subst hk;exact⟨λm hm=>Nat.le_of_ble_eq_true (h.1.1 m hm),h.1.2⟩|succ k=>have:=Lx l (i+1) h.2 k ok (by simpa using hk);rwa[show i+1+k=i+(k+1) by omega]at this
section
variable {R:Type} {r:R} {st:AS} {a:Act} {w:World}
theorem M7 (ops:au Oper)(A:au eo):∀(l:au Oper)(i:Nat)(st:AS)(K:AS->ax R),GX E Γ an ops A i l st K=(GX E Γ an ops A i l st some).bind K
 |[],i,st,K=>rfl
 |o::l,i,st,K=>by simp only[GX];cases dx E an (tB an A i 0 ops) o st with|false=>rfl|true=>simp only[af];rw[rp,rp (K:=λbM=>GX E Γ an ops A (i+1) l bM some),Option.bind_assoc];congr 1;funext bM;exact M7 ops A l (i+1) bM K
theorem Qh (ops:au Oper)(A:au eo):∀(n i:Nat)(st:AS),i+n=ops.length->GX E Γ an ops A i (ops.drop i) st some=PU E Γ an ops (λk=>tB an A k 0 ops) (List.range' i n) st
 |0,i,st,hi=>by rw[df (by omega)];rfl
 |n+1,i,st,hi=>by
  have Pw:i<ops.length:=by omega
  rw[bN Pw,List.range'_succ];have ho:nth ops i=some ops[i]:=by rw[dJ];exact al Pw
  simp only[GX,PU,ho,cE];cases dx E an (tB an A i 0 ops) ops[i] st with|false=>rfl|true=>simp only[af];rw[rp];congr 1;funext bM;exact Qh ops A n (i+1) bM (by omega)
theorem Nd (ops:au Oper)(d:Bool)(K:AS->ax R):E9 E Γ an ops d st K=(E9 E Γ an ops d st some).bind K:=by unfold E9;cases d with|false=>exact Q6 ops ops st K|true=>simp only[af];cases T3 an ops with|false=>rfl|true=>exact M7 ops _ ops 0 st K
theorem Q2 (B5:∀f,(Γ f).io=false/\(Γ f).bx=false/\(Γ f).pr=false){ops:au Oper}{A:au eo}(hq:∀o∈ops,gq an (HC ops) o=true):∀(l:au Oper)(i:Nat)(st bM:AS),(∀o∈l,o∈ops)->GX E Γ an ops A i l st some=some bM->iW (HC ops) st bM
 |[],i,st,bM,_,h=>by cases h;exact iW.refl _ _
 |o::l,i,st,bM,hl,h=>by simp only[GX]at h;cases hf:dx E an (tB an A i 0 ops) o st with|false=>rw[hf]at h;cases h|true=>rw[hf]at h;simp only[af]at h;rw[rp]at h;cases hg:gi E Γ an ops o st some with|none=>rw[hg]at h;cases h|some st1=>rw[hg]at h;exact(N9 B5 (hl o (by simp)) (hq o (hl o (by simp))) hg).trans (Q2 B5 hq l (i+1) st1 bM (λo' L5=>hl o' (by simp[L5])) h)
theorem abt (B5:∀f,(Γ f).io=false/\(Γ f).bx=false/\(Γ f).pr=false){ops:au Oper}{d:Bool}(hq:∀o∈ops,gq an (HC ops) o=true){bM:AS}(h:E9 E Γ an ops d st some=some bM):iW (HC ops) st bM:=by unfold E9 at h;cases d with|false=>exact Vm B5 hq ops st bM (λ_ h=>h) h|true=>simp only[af]at h;cases hb:T3 an ops with|false=>rw[hb]at h;cases h|true=>rw[hb]at h;exact Q2 (agh B5) hq ops 0 st bM (λ_ h=>h) h
theorem Zh (hS:Sound P E Γ){id:Nat}{ops:Array Oper}{d:Bool}(h:oz C st a w){r:AS}(hk:E9 E Γ an ops.toList d st some=some r){Q:Exit->Act->World->Prop}(hq:∀a' w',oz C r a' w'->Q .normal a' w'):(Code.region id ops d).wp P Q a w:=by
 unfold E9 at hk;cases d with
 |false=>apply wp_region;rw[List.range_eq_range'];exact aea hS (K:=some) (r:=r) (λbM a' w' hs he=>by cases he;exact hq _ _ hs) ops.size 0 st a w (by omega) h (by simpa using hk)
 |true=>
  simp only[af]at hk;cases hb:T3 an ops.toList with
  |false=>rw[hb]at hk;cases hk
  |true=>
   rw[hb]at hk;simp only[af]at hk;have aiD:=Qh (E:=E) (Γ:=Γ.H2) (an:=an) ops.toList (TN ops.toList []) ops.size 0 st (by simp);rw[eG,hk]at aiD;unfold T3 at hb;have adr:=Lx ops.toList 0 hb;apply wp_region_any hS.mixed;have hs1:oz C st a {w with drawn:=w.drawn+1}:=h.grow (Fr.drew _ w)
   have:=agQ (an:=an) (C:=C) (agf Γ) hS.H2 (ops:=ops) (X:=λk=>tB an (TN ops.toList []) k 0 ops.toList) (Q:=Q) (r:=r)
    (λi o ho k hk=>by have:=(adr i o (by rw[cm];exact ho)).1 k hk;simpa using this)
    (λi j oi oj hji hi hj=>by have h1:=(adr i oi (by rw[cm];exact hi)).2;rw[cl]at h1;have h2:=Lw ops.toList 0 h1 j oj (by rw[cm];exact hj) (by omega);rw[cl,di]at h2;rcases h2 with h2|h2;exact .inl (λL hL hp=>abD h2 oi hi L hL hp);exact .inr h2) hq (List.range' 0 ops.size) (Array.replicate ops.size false) st a {w with drawn:=w.drawn+1} List.pairwise_lt_range'
    (λi=>by
     rw[List.mem_range'_1];constructor;rintro⟨_,hi⟩;have vR:i<ops.size:=by omega
     exact⟨vR,by simp[Array.getD,vR]⟩;rintro⟨hi,_⟩;omega) (by simp)
    (λi o _ hl=>by exfalso;simp only[Array.getD,Array.size_replicate,Array.getInternal_eq_getElem,Array.getElem_replicate]at hl;split at hl<;>cases hl) hs1 aiD.symm
   rwa[List.length_range']at this
end
end Go.Dn
