import Derived.Test.YtainmjjkipbciaaGreatDnDraw
/- A region whose order is drawn: whatever the order, the outcome is that of the text's order. -/
namespace Go.Dn
open Go.RowKit
variable {P:Program} {C:Ctx} {E:Env} {Γ:fy} {an:An}
variable {iK:Array Bool} {i:Nat} {A:aw fg}
def aaO (ops:Array Oper)(L:Nat->Prop):Prop:=∀i o,ops[i]?=some o->L i->∀k∈yS o,L k
theorem mem_ready {ops:Array Oper}(h:i∈Region.ready .any ops iK): ∃o,ops[i]?=some o/\i<ops.size/\iK.getD i true=false/\∀k∈yS o,iK.getD k false=true:=by
 unfold Region.ready at h;rw[List.mem_filter]at h;obtain⟨hi,h⟩:=h;have gW:i<ops.size:=by simpa using hi
 simp only[ae,aK]at h;have ho:ops[i]?=some ops[i]:=Array.getElem?_eq_getElem gW;rw[ho]at h;simp only[dc,fj,Array.all_eq_true]at h;refine⟨ops[i],ho,gW,h.1,λk hk=>?_⟩;simp only[yS,List.mem_map,List.mem_filter]at hk;obtain⟨e,⟨he,hb⟩,rfl⟩:=hk;obtain⟨j,hj,hje⟩:=Array.mem_iff_getElem.1 (Array.mem_toList_iff.1 he);have:=h.2 j hj;rw[hje]at this;simpa[hb]using this
theorem acJ {ops:Array Oper}{o:Oper}(ho:ops[i]?=some o)(hl:iK.getD i true=false)(hp:∀k∈yS o,iK.getD k false=true):i∈Region.ready .any ops iK:=by have gW:i<ops.size:=(Array.getElem?_eq_some_iff.1 ho).1;unfold Region.ready;rw[List.mem_filter];refine⟨by simpa using gW,?_⟩;rw[ho,hl];simp only[bU,bC,dc,fj,Array.all_eq_true];intro j hj;cases hb:Region.binds .any o.after[j]with|false=>rfl|true=>simp only[aj,cE];refine hp _ ?_;simp only[yS,List.mem_map,List.mem_filter];exact⟨o.after[j],⟨by simp,hb⟩,rfl⟩
theorem ahe (yu:∀f,(Γ f).io=false/\((Γ f).bx=true->(Γ f).cur=true)/\(Γ f).pr=false)(hS:Sound P E Γ){ops:Array Oper}{X:Nat->fg}{Q:Exit->Act->World->Prop}{r:AS}(gW:∀i o,ops[i]?=some o->∀k∈yS o,k<i)(amS:∀i j oi oj,j<i->ops[i]?=some oi->ops[j]?=some oj->(∀L:Nat->Prop,aaO ops L->(∀k∈yS oi,L k)->L j)\/Ja an ops.toList (X j) (X i) oj oi=true)(hq:∀a w,mZ C r a w->Q .normal a w): ∀(rem:fg)(iK:Array Bool)(st:AS)(a:Act)(w:World),rem.Pairwise (·<·)->(∀i,i∈rem↔i<ops.size/\iK.getD i true=false)->iK.size=ops.size-> (∀i o,ops[i]?=some o->iK.getD i false=true->∀k∈yS o,iK.getD k false=true)->mZ C st a w->Ms E Γ an ops.toList X rem st=some r-> wpAny P .any ops Q rem.length iK a w:=by
 intro rem;generalize hn:rem.length=n;induction n generalizing rem with
 |zero=>intro iK st a w _ Ay _ _ hs hr;have:rem=[]:=bV hn;subst this;cases hr;refine⟨?_,hq a w hs⟩;cases Ko:Region.ready .any ops iK with|nil=>rfl|cons i l=>obtain⟨o,ho,hi,hl,_⟩:=mem_ready (i:=i) (by rw[Ko];simp);have:=(Ay i).2 ⟨hi,hl⟩;cases this
 |succ n ih=>
  intro iK st a w hpw Ay sV hcl hs hr;have agi:∀k,k<ops.size->iK.getD k false= !(decide (k∈rem)):=by
   intro k hk;have h1:=Ay k;have Cg:k<iK.size:=by omega
   simp only[Array.getD,Cg,dite_true]at h1⊢;by_cases hm:k∈rem;have:=(h1.1 hm).2;simpa[hm]using this;have:¬(iK[k]=false):=λhf=>hm (h1.2 ⟨hk,hf⟩);simpa[hm]using this
  refine⟨λahX=>?_,λi hi=>?_⟩;exfalso;cases rem with
  |nil=>simp at hn
  |cons i l=>
   have hi:=(Ay i).1 (by simp);have ho:ops[i]?=some ops[i]:=Array.getElem?_eq_getElem hi.1;have:i∈Region.ready .any ops iK:=by
    refine acJ ho hi.2 λk hk=>?_;have hki:=gW i _ ho k hk;rw[agi k (by omega)];have:k∉i::l:=by intro hm;rcases cm.1 hm with rfl|hm;omega;have:=(List.pairwise_cons.1 hpw).1 k hm;omega
    simp[this]
   rw[ahX]at this;cases this
  ·obtain⟨oi,ho,L6,hlf,C8⟩:=mem_ready hi;have sv:i∈rem:=(Ay i).2 ⟨L6,hlf⟩;obtain⟨pre,post,rfl⟩:=List.append_of_mem sv;have amP:nth ops.toList i=some oi:=by rw[dI,cl];exact ho
   have ah4:=List.pairwise_append.1 hpw
   have abz:=Ll (E:=E) (Γ:=Γ) (an:=an) (X:=X) yu amP pre post st r (λj hj oj hoj=>by
    have hji:j<i:=ah4.2.2 j hj i (by simp);have arV:ops[j]?=some oj:=by rw[dI,cl]at hoj;exact hoj
    rcases amS i j oi oj hji ho arV with arw|hap;exfalso;have hL:=arw (λk=>iK.getD k false=true) (λk o hk T1=>hcl k o hk T1) C8;have:=(Ay j).1 (by simp[hj]);simp only[agi j this.1]at hL;simp[hj]at hL;exact hap) hr
   simp only[Ms,amP]at abz;obtain⟨st1,h1,h2⟩:=aM.1 abz;have hg:gh E Γ an ops.toList oi st some=some st1:=by unfold cy at h1;cases hf:dq E an (X i) oi st with|false=>rw[hf]at h1;cases h1|true=>rw[hf]at h1;exact h1
   have C7:i∉pre++post:=by intro hm;rcases ay.1 hm with hm|hm;have:=ah4.2.2 i hm i (by simp);omega;have:=(List.pairwise_cons.1 ah4.2.1).1 i hm;omega
   have amX:=RR (P:=P) (C:=C) (an:=an) hS (ops:=ops) hs hg (wpAny P .any ops Q n (iK.setIfInBounds i true)) Q (λbK a' w' wC he=>by
    cases he;refine ih (pre++post) (by simp at hn⊢;omega) (iK.setIfInBounds i true) st1 a' w' ?_ ?_ (by simpa using sV) ?_ wC h2;exact List.Pairwise.sublist (List.Sublist.append (List.Sublist.refl _) (List.sublist_cons_self _ _)) hpw;intro k;have hk:=Ay k;by_cases hki:k=i;subst hki;constructor;intro hm;exact absurd hm C7;rintro⟨_,hf⟩;simp[du,show k<iK.size by omega]at hf;have Cj:(iK.setIfInBounds i true).getD k true=iK.getD k true:=by simp[du,cM hki]
    rw[Cj,<-hk];simp[hki];intro k o mY hkl m hm;have Cj:∀q,iK.getD q false=true->(iK.setIfInBounds i true).getD q false=true:=by
     intro q hq;simp only[du,Array.getElem?_setIfInBounds]at hq⊢;split;·split<;>first|rfl|(rename_i h1 h2;subst h1;rw[Array.getElem?_eq_none (by omega)]at hq;exact hq)
     exact hq
    by_cases hki:k=i;subst hki;rw[ho]at mY;cases mY;exact Cj m (C8 m hm);refine Cj m (hcl k o mY ?_ m hm);simpa[du,Array.getElem?_setIfInBounds,cM hki]using hkl)
   unfold wpOp;rw[ho];exact amX
theorem Vx {a b:fg}{x:Nat}(h:x∈Qz a b):x∈a\/x∈b:=by unfold Qz at h;induction a generalizing b with|nil=>exact .inr h|cons y a ih=>rw[List.foldl_cons]at h;rcases ih h with h|h;exact .inl (by simp[h]);cases hc:b.contains y with|true=>rw[hc]at h;exact .inr h|false=>rw[hc]at h;rcases cm.1 h with rfl|h;exact .inl (by simp);exact .inr h
def aaR (ops:Array Oper)(i j:Nat):Prop:=∀o,ops[i]?=some o->∀L:Nat->Prop,aaO ops L->(∀k∈yS o,L k)->L j
theorem MF {ops:Array Oper}:∀(r done:aw Oper)(acc:aw fg),ops.toList=done++r->acc.length=done.length->(∀i l,nth acc i=some l->∀j∈l,aaR ops i j)->
 ∀i l,nth (QL r acc) i=some l->∀j∈l,aaR ops i j
 |[],done,acc,_,_,h=>h
 |o::r,done,acc,ah2,hlen,h=>by
  refine MF r (done++[o]) _ (by rw[ah2];simp) (by simp[hlen]) ?_;intro i l hl j hj;rw[dI]at hl;rcases cf i acc.length with gW|yt;rw[bD gW]at hl;exact h i l (by rw[dI];exact hl) j hj;rw[bq yt]at hl;have hi:i=acc.length:=by cases hk:i-acc.length with|zero=>omega|succ n=>rw[hk]at hl;simp at hl
  subst hi;simp only[kQ,cr,ba]at hl;subst hl;have hoi:ops[acc.length]?=some o:=by rw[<-cl,ah2,hlen,bq (aU _)];simp
  have key:∀(ps:fg)(s0:fg),(∀k∈ps,k∈yS o)->(∀x∈s0,aaR ops acc.length x)->∀x∈ps.foldl (λs j=>Qz (j::(nth acc j).getD []) s) s0,aaR ops acc.length x:=by
   intro ps;induction ps with
   |nil=>intro s0 _ h0;exact h0
   |cons k ps ih=>
    intro s0 hps h0;rw[List.foldl_cons];refine ih _ (λm hm=>hps m (by simp[hm])) ?_;intro x hx;rcases Vx hx with hx|hx;intro o' Iu L hL hp;rw[hoi]at Iu;cases Iu;have hk:=hp k (hps k (by simp));rcases cm.1 hx with rfl|hx;exact hk;cases hak:nth acc k with
    |none=>rw[hak]at hx;cases hx
    |some l=>
     rw[hak]at hx;have hkl:k<acc.length:=by rw[dI]at hak;exact(aG.1 hak).1
     have mY:∃ok,ops[k]?=some ok:=by rw[<-cl,ah2,bD (by omega)];exact⟨_,al (by omega)⟩
     obtain⟨ok,mY⟩:=mY;exact h k l hak x hx ok mY L hL (hL k ok mY hk)
    exact h0 x hx
  exact key (yS o) [] (λ_ h=>h) (by simp) j hj
theorem ZU {ops:Array Oper}{k:Nat}(h:ZT (QL ops.toList []) i k=true):aaR ops i k:=by unfold ZT at h;cases hl:nth (QL ops.toList []) i with|none=>rw[hl]at h;simp at h|some l=>rw[hl]at h;exact MF ops.toList [] [] rfl rfl (λi l hl=>by simp[nth]at hl) i l hl k (by simpa using h)
theorem HQ {ops:aw Oper}{oi:Oper}:∀(l:aw Oper)(j:Nat),KY an ops A i oi j l=true->∀k ok,l[k]?=some ok->j+k<i->(ZT A i (j+k)||Ja an ops (qP an A (j+k) 0 ops) (qP an A i 0 ops) ok oi)=true
 |[],j,_,k,ok,hk,_=>by simp at hk
 |oj::l,j,h,k,ok,hk,gW=>by
  simp only[KY]at h;have hb:Nat.ble i j=false:=by cases hb:Nat.ble i j with|false=>rfl|true=>have:=Nat.le_of_ble_eq_true hb;omega
  rw[hb]at h;simp only[af,ae]at h;cases k with|zero=>simp at hk;subst hk;exact h.1|succ k=>have:=HQ l (j+1) h.2 k ok (by simpa using hk) (by omega);rwa[show j+1+k=j+(k+1) by omega]at this
theorem HR {ops:aw Oper}:∀(l:aw Oper)(i:Nat),PZ an ops A i l=true->∀k ok,l[k]?=some ok->(∀m∈yS ok,m<i+k)/\KY an ops A (i+k) ok 0 ops=true
 |[],i,_,k,ok,hk=>by simp at hk
 |o::l,i,h,k,ok,hk=>by simp only[PZ,ae,aE]at h;cases k with|zero=>simp at hk;subst hk;exact⟨λm hm=>Nat.le_of_ble_eq_true (h.1.1 m hm),h.1.2⟩|succ k=>have:=HR l (i+1) h.2 k ok (by simpa using hk);rwa[show i+1+k=i+(k+1) by omega]at this
section
variable {R:Type} {r:R} {st:AS} {a:Act} {w:World}
theorem JR (ops:aw Oper)(A:aw fg):∀(l:aw Oper)(i:Nat)(st:AS)(K:AS->ax R),Dw E Γ an ops A i l st K=(Dw E Γ an ops A i l st some).bind K
 |[],i,st,K=>rfl
 |o::l,i,st,K=>by simp only[Dw];cases dq E an (qP an A i 0 ops) o st with|false=>rfl|true=>simp only[ah];rw[px,px (K:=λbK=>Dw E Γ an ops A (i+1) l bK some),Option.bind_assoc];congr 1;funext bK;exact JR ops A l (i+1) bK K
theorem MN (ops:aw Oper)(A:aw fg):∀(n i:Nat)(st:AS),i+n=ops.length->Dw E Γ an ops A i (ops.drop i) st some=Ms E Γ an ops (λk=>qP an A k 0 ops) (List.range' i n) st
 |0,i,st,hi=>by rw[cW (by omega)];rfl
 |n+1,i,st,hi=>by
  have L6:i<ops.length:=by omega
  rw[cd L6,List.range'_succ];have ho:nth ops i=some ops[i]:=by rw[dI];exact al L6
  simp only[Dw,Ms,ho,cy];cases dq E an (qP an A i 0 ops) ops[i] st with|false=>rfl|true=>simp only[ah];rw[px];congr 1;funext bK;exact MN ops A n (i+1) bK (by omega)
theorem JX (ops:aw Oper)(d:Bool)(K:AS->ax R):B5 E Γ an ops d st K=(B5 E Γ an ops d st some).bind K:=by unfold B5;cases d with|false=>exact Ny ops ops st K|true=>simp only[ah];cases Rn an ops with|false=>rfl|true=>exact JR ops _ ops 0 st K
theorem Nt (yu:∀f,(Γ f).io=false/\(Γ f).bx=false/\(Γ f).pr=false){ops:aw Oper}{A:aw fg}(hq:∀o∈ops,gn an (Ec ops) o=true):∀(l:aw Oper)(i:Nat)(st bK:AS),(∀o∈l,o∈ops)->Dw E Γ an ops A i l st some=some bK->iG (Ec ops) st bK
 |[],i,st,bK,_,h=>by cases h;exact iG.refl _ _
 |o::l,i,st,bK,hl,h=>by simp only[Dw]at h;cases hf:dq E an (qP an A i 0 ops) o st with|false=>rw[hf]at h;cases h|true=>rw[hf]at h;simp only[ah]at h;rw[px]at h;cases hg:gh E Γ an ops o st some with|none=>rw[hg]at h;cases h|some st1=>rw[hg]at h;exact(KS yu (hl o (by simp)) (hq o (hl o (by simp))) hg).trans (Nt yu hq l (i+1) st1 bK (λo' Iu=>hl o' (by simp[Iu])) h)
theorem ZI (yu:∀f,(Γ f).io=false/\(Γ f).bx=false/\(Γ f).pr=false){ops:aw Oper}{d:Bool}(hq:∀o∈ops,gn an (Ec ops) o=true){bK:AS}(h:B5 E Γ an ops d st some=some bK):iG (Ec ops) st bK:=by unfold B5 at h;cases d with|false=>exact SX yu hq ops st bK (λ_ h=>h) h|true=>simp only[ah]at h;cases hb:Rn an ops with|false=>rw[hb]at h;cases h|true=>rw[hb]at h;exact Nt (afT yu) hq ops 0 st bK (λ_ h=>h) h
theorem W3 (hS:Sound P E Γ){id:Nat}{ops:Array Oper}{d:Bool}(h:mZ C st a w){r:AS}(hk:B5 E Γ an ops.toList d st some=some r){Q:Exit->Act->World->Prop}(hq:∀a' w',mZ C r a' w'->Q .normal a' w'):(Code.region id ops d).wp P Q a w:=by
 unfold B5 at hk;cases d with
 |false=>apply wp_region;rw[List.range_eq_range'];exact acx hS (K:=some) (r:=r) (λbK a' w' hs he=>by cases he;exact hq _ _ hs) ops.size 0 st a w (by omega) h (by simpa using hk)
 |true=>
  simp only[ah]at hk;cases hb:Rn an ops.toList with
  |false=>rw[hb]at hk;cases hk
  |true=>
   rw[hb]at hk;simp only[ah]at hk;have amV:=MN (E:=E) (Γ:=Γ.EE) (an:=an) ops.toList (QL ops.toList []) ops.size 0 st (by simp);rw[eV,hk]at amV;unfold Rn at hb;have abE:=HR ops.toList 0 hb;apply wp_region_any hS.mixed;have hs1:mZ C st a {w with drawn:=w.drawn+1}:=h.grow (Fr.drew _ w)
   have:=ahe (an:=an) (C:=C) (afS Γ) hS.EE (ops:=ops) (X:=λk=>qP an (QL ops.toList []) k 0 ops.toList) (Q:=Q) (r:=r)
    (λi o ho k hk=>by have:=(abE i o (by rw[cl];exact ho)).1 k hk;simpa using this)
    (λi j oi oj hji hi hj=>by have h1:=(abE i oi (by rw[cl];exact hi)).2;rw[cp]at h1;have h2:=HQ ops.toList 0 h1 j oj (by rw[cl];exact hj) (by omega);rw[cp,cC]at h2;rcases h2 with h2|h2;exact .inl (λL hL hp=>ZU h2 oi hi L hL hp);exact .inr h2) hq (List.range' 0 ops.size) (Array.replicate ops.size false) st a {w with drawn:=w.drawn+1} List.pairwise_lt_range'
    (λi=>by
     rw[List.mem_range'_1];constructor;rintro⟨_,hi⟩;have ng:i<ops.size:=by omega
     exact⟨ng,by simp[Array.getD,ng]⟩;rintro⟨hi,_⟩;omega) (by simp)
    (λi o _ hl=>by exfalso;simp only[Array.getD,Array.size_replicate,Array.getInternal_eq_getElem,Array.getElem_replicate]at hl;split at hl<;>cases hl) hs1 amV.symm
   rwa[List.length_range']at this
end
end Go.Dn
