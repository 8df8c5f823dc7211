import Derived.Test.YtnmppgnbjfdffaaGreatDnDraw
/- A region whose order is drawn: whatever the order, the outcome is that of the text's order. -/
namespace Go.Dn
open Go.RowKit
variable {P:Program} {C:Ctx} {E:Env} {Γ:xl} {an:An}
variable {iJ:Array Bool} {i:Nat} {A:aw ff}
def Zq (ops:Array Oper)(L:Nat->Prop):Prop:=∀i o,ops[i]?=some o->L i->∀k∈yA o,L k
theorem mem_ready {ops:Array Oper}(h:i∈Region.ready .any ops iJ): ∃o,ops[i]?=some o/\i<ops.size/\iJ.getD i true=false/\∀k∈yA o,iJ.getD k false=true:=by
 unfold Region.ready at h;rw[List.mem_filter]at h;obtain⟨hi,h⟩:=h;have hG:i<ops.size:=by simpa using hi
 simp only[ae,aL]at h;have ho:ops[i]?=some ops[i]:=Array.getElem?_eq_getElem hG;rw[ho]at h;simp only[da,fj,Array.all_eq_true]at h;refine⟨ops[i],ho,hG,h.1,λk hk=>?_⟩;simp only[yA,List.mem_map,List.mem_filter]at hk;obtain⟨e,⟨he,hb⟩,rfl⟩:=hk;obtain⟨j,hj,hje⟩:=Array.mem_iff_getElem.1 (Array.mem_toList_iff.1 he);have:=h.2 j hj;rw[hje]at this;simpa[hb]using this
theorem abG {ops:Array Oper}{o:Oper}(ho:ops[i]?=some o)(hl:iJ.getD i true=false)(hp:∀k∈yA o,iJ.getD k false=true):i∈Region.ready .any ops iJ:=by have hG:i<ops.size:=(Array.getElem?_eq_some_iff.1 ho).1;unfold Region.ready;rw[List.mem_filter];refine⟨by simpa using hG,?_⟩;rw[ho,hl];simp only[cb,bF,da,fj,Array.all_eq_true];intro j hj;cases hb:Region.binds .any o.after[j]with|false=>rfl|true=>simp only[aj,cC];refine hp _ ?_;simp only[yA,List.mem_map,List.mem_filter];exact⟨o.after[j],⟨by simp,hb⟩,rfl⟩
theorem aeZ (yd:∀f,(Γ f).io=false/\((Γ f).bx=true->(Γ f).cur=true)/\(Γ f).pr=false)(hS:Sound P E Γ){ops:Array Oper}{X:Nat->ff}{Q:Exit->Act->World->Prop}{r:AS}(hG:∀i o,ops[i]?=some o->∀k∈yA o,k<i)(ahw:∀i j oi oj,j<i->ops[i]?=some oi->ops[j]?=some oj->(∀L:Nat->Prop,Zq ops L->(∀k∈yA oi,L k)->L j)\/IT an ops.toList (X j) (X i) oj oi=true)(hq:∀a w,mP C r a w->Q .normal a w): ∀(rem:ff)(iJ:Array Bool)(st:AS)(a:Act)(w:World),rem.Pairwise (·<·)->(∀i,i∈rem↔i<ops.size/\iJ.getD i true=false)->iJ.size=ops.size-> (∀i o,ops[i]?=some o->iJ.getD i false=true->∀k∈yA o,iJ.getD k false=true)->mP C st a w->LI E Γ an ops.toList X rem st=some r-> wpAny P .any ops Q rem.length iJ a w:=by
 intro rem;generalize hn:rem.length=n;induction n generalizing rem with
 |zero=>intro iJ st a w _ Ac _ _ hs hr;have:rem=[]:=bO hn;subst this;cases hr;refine⟨?_,hq a w hs⟩;cases JJ:Region.ready .any ops iJ with|nil=>rfl|cons i l=>obtain⟨o,ho,hi,hl,_⟩:=mem_ready (i:=i) (by rw[JJ];simp);have:=(Ac i).2 ⟨hi,hl⟩;cases this
 |succ n ih=>
  intro iJ st a w hpw Ac sB hcl hs hr;have aev:∀k,k<ops.size->iJ.getD k false= !(decide (k∈rem)):=by
   intro k hk;have h1:=Ac k;have BK:k<iJ.size:=by omega
   simp only[Array.getD,BK,dite_true]at h1⊢;by_cases hm:k∈rem;have:=(h1.1 hm).2;simpa[hm]using this;have:¬(iJ[k]=false):=λhf=>hm (h1.2 ⟨hk,hf⟩);simpa[hm]using this
  refine⟨λafs=>?_,λi hi=>?_⟩;exfalso;cases rem with
  |nil=>simp at hn
  |cons i l=>
   have hi:=(Ac i).1 (by simp);have ho:ops[i]?=some ops[i]:=Array.getElem?_eq_getElem hi.1;have:i∈Region.ready .any ops iJ:=by
    refine abG ho hi.2 λk hk=>?_;have Zj:=hG i _ ho k hk;rw[aev k (by omega)];have:k∉i::l:=by intro hm;rcases cg.1 hm with rfl|hm;omega;have:=(List.pairwise_cons.1 hpw).1 k hm;omega
    simp[this]
   rw[afs]at this;cases this
  ·obtain⟨oi,ho,Lo,hlf,CJ⟩:=mem_ready hi;have rP:i∈rem:=(Ac i).2 ⟨Lo,hlf⟩;obtain⟨pre,post,rfl⟩:=List.append_of_mem rP;have aht:nth ops.toList i=some oi:=by rw[dF,cf];exact ho
   have afz:=List.pairwise_append.1 hpw
   have aaE:=KG (E:=E) (Γ:=Γ) (an:=an) (X:=X) yd aht pre post st r (λj hj oj hoj=>by
    have hji:j<i:=afz.2.2 j hj i (by simp);have alL:ops[j]?=some oj:=by rw[dF,cf]at hoj;exact hoj
    rcases ahw i j oi oj hji ho alL with alk|hap;exfalso;have hL:=alk (λk=>iJ.getD k false=true) (λk o hk Sw=>hcl k o hk Sw) CJ;have:=(Ac j).1 (by simp[hj]);simp only[aev j this.1]at hL;simp[hj]at hL;exact hap) hr
   simp only[LI,aht]at aaE;obtain⟨st1,h1,h2⟩:=aM.1 aaE;have hg:fZ E Γ an ops.toList oi st some=some st1:=by unfold cu at h1;cases hf:dp E an (X i) oi st with|false=>rw[hf]at h1;cases h1|true=>rw[hf]at h1;exact h1
   have CI:i∉pre++post:=by intro hm;rcases ax.1 hm with hm|hm;have:=afz.2.2 i hm i (by simp);omega;have:=(List.pairwise_cons.1 afz.2.1).1 i hm;omega
   have ahB:=Qn (P:=P) (C:=C) (an:=an) hS (ops:=ops) hs hg (wpAny P .any ops Q n (iJ.setIfInBounds i true)) Q (λbI a' w' vZ he=>by
    cases he;refine ih (pre++post) (by simp at hn⊢;omega) (iJ.setIfInBounds i true) st1 a' w' ?_ ?_ (by simpa using sB) ?_ vZ h2;exact List.Pairwise.sublist (List.Sublist.append (List.Sublist.refl _) (List.sublist_cons_self _ _)) hpw;intro k;have hk:=Ac k;by_cases Zj:k=i;subst Zj;constructor;intro hm;exact absurd hm CI;rintro⟨_,hf⟩;simp[du,show k<iJ.size by omega]at hf;have BN:(iJ.setIfInBounds i true).getD k true=iJ.getD k true:=by simp[du,cL Zj]
    rw[BN,<-hk];simp[Zj];intro k o lI hkl m hm;have BN:∀q,iJ.getD q false=true->(iJ.setIfInBounds i true).getD q false=true:=by
     intro q hq;simp only[du,Array.getElem?_setIfInBounds]at hq⊢;split;·split<;>first|rfl|(rename_i h1 h2;subst h1;rw[Array.getElem?_eq_none (by omega)]at hq;exact hq)
     exact hq
    by_cases Zj:k=i;subst Zj;rw[ho]at lI;cases lI;exact BN m (CJ m hm);refine BN m (hcl k o lI ?_ m hm);simpa[du,Array.getElem?_setIfInBounds,cL Zj]using hkl)
   unfold wpOp;rw[ho];exact ahB
theorem Uq {a b:ff}{x:Nat}(h:x∈Pn a b):x∈a\/x∈b:=by unfold Pn at h;induction a generalizing b with|nil=>exact .inr h|cons y a ih=>rw[List.foldl_cons]at h;rcases ih h with h|h;exact .inl (by simp[h]);cases hc:b.contains y with|true=>rw[hc]at h;exact .inr h|false=>rw[hc]at h;rcases cg.1 h with rfl|h;exact .inl (by simp);exact .inr h
def Zx (ops:Array Oper)(i j:Nat):Prop:=∀o,ops[i]?=some o->∀L:Nat->Prop,Zq ops L->(∀k∈yA o,L k)->L j
theorem LZ {ops:Array Oper}:∀(r done:aw Oper)(acc:aw ff),ops.toList=done++r->acc.length=done.length->(∀i l,nth acc i=some l->∀j∈l,Zx ops i j)->
 ∀i l,nth (PA r acc) i=some l->∀j∈l,Zx ops i j
 |[],done,acc,_,_,h=>h
 |o::r,done,acc,afx,hlen,h=>by
  refine LZ r (done++[o]) _ (by rw[afx];simp) (by simp[hlen]) ?_;intro i l hl j hj;rw[dF]at hl;rcases bW i acc.length with hG|yc;rw[br hG]at hl;exact h i l (by rw[dF];exact hl) j hj;rw[bl yc]at hl;have hi:i=acc.length:=by cases hk:i-acc.length with|zero=>omega|succ n=>rw[hk]at hl;simp at hl
  subst hi;simp only[kK,cn,aZ]at hl;subst hl;have hoi:ops[acc.length]?=some o:=by rw[<-cf,afx,hlen,bl (aS _)];simp
  have key:∀(ps:ff)(s0:ff),(∀k∈ps,k∈yA o)->(∀x∈s0,Zx ops acc.length x)->∀x∈ps.foldl (λs j=>Pn (j::(nth acc j).getD []) s) s0,Zx ops acc.length x:=by
   intro ps;induction ps with
   |nil=>intro s0 _ h0;exact h0
   |cons k ps ih=>
    intro s0 hps h0;rw[List.foldl_cons];refine ih _ (λm hm=>hps m (by simp[hm])) ?_;intro x hx;rcases Uq hx with hx|hx;intro o' Ie L hL hp;rw[hoi]at Ie;cases Ie;have hk:=hp k (hps k (by simp));rcases cg.1 hx with rfl|hx;exact hk;cases hak:nth acc k with
    |none=>rw[hak]at hx;cases hx
    |some l=>
     rw[hak]at hx;have hkl:k<acc.length:=by rw[dF]at hak;exact(aE.1 hak).1
     have lI:∃ok,ops[k]?=some ok:=by rw[<-cf,afx,br (by omega)];exact⟨_,al (by omega)⟩
     obtain⟨ok,lI⟩:=lI;exact h k l hak x hx ok lI L hL (hL k ok lI hk)
    exact h0 x hx
  exact key (yA o) [] (λ_ h=>h) (by simp) j hj
theorem Yd {ops:Array Oper}{k:Nat}(h:Yc (PA ops.toList []) i k=true):Zx ops i k:=by unfold Yc at h;cases hl:nth (PA ops.toList []) i with|none=>rw[hl]at h;simp at h|some l=>rw[hl]at h;exact LZ ops.toList [] [] rfl rfl (λi l hl=>by simp[nth]at hl) i l hl k (by simpa using h)
theorem HE {ops:aw Oper}{oi:Oper}:∀(l:aw Oper)(j:Nat),Kj an ops A i oi j l=true->∀k ok,l[k]?=some ok->j+k<i->(Yc A i (j+k)||IT an ops (qz an A (j+k) 0 ops) (qz an A i 0 ops) ok oi)=true
 |[],j,_,k,ok,hk,_=>by simp at hk
 |oj::l,j,h,k,ok,hk,hG=>by
  simp only[Kj]at h;have hb:Nat.ble i j=false:=by cases hb:Nat.ble i j with|false=>rfl|true=>have:=Nat.le_of_ble_eq_true hb;omega
  rw[hb]at h;simp only[af,ae]at h;cases k with|zero=>simp at hk;subst hk;exact h.1|succ k=>have:=HE l (j+1) h.2 k ok (by simpa using hk) (by omega);rwa[show j+1+k=j+(k+1) by omega]at this
theorem HF {ops:aw Oper}:∀(l:aw Oper)(i:Nat),OL an ops A i l=true->∀k ok,l[k]?=some ok->(∀m∈yA ok,m<i+k)/\Kj an ops A (i+k) ok 0 ops=true
 |[],i,_,k,ok,hk=>by simp at hk
 |o::l,i,h,k,ok,hk=>by simp only[OL,ae,aI]at h;cases k with|zero=>simp at hk;subst hk;exact⟨λm hm=>Nat.le_of_ble_eq_true (h.1.1 m hm),h.1.2⟩|succ k=>have:=HF l (i+1) h.2 k ok (by simpa using hk);rwa[show i+1+k=i+(k+1) by omega]at this
section
variable {R:Type} {r:R} {st:AS} {a:Act} {w:World}
theorem Je (ops:aw Oper)(A:aw ff):∀(l:aw Oper)(i:Nat)(st:AS)(K:AS->ay R),C6 E Γ an ops A i l st K=(C6 E Γ an ops A i l st some).bind K
 |[],i,st,K=>rfl
 |o::l,i,st,K=>by simp only[C6];cases dp E an (qz an A i 0 ops) o st with|false=>rfl|true=>simp only[ah];rw[oV,oV (K:=λbI=>C6 E Γ an ops A (i+1) l bI some),Option.bind_assoc];congr 1;funext bI;exact Je ops A l (i+1) bI K
theorem L7 (ops:aw Oper)(A:aw ff):∀(n i:Nat)(st:AS),i+n=ops.length->C6 E Γ an ops A i (ops.drop i) st some=LI E Γ an ops (λk=>qz an A k 0 ops) (List.range' i n) st
 |0,i,st,hi=>by rw[cy (by omega)];rfl
 |n+1,i,st,hi=>by
  have Lo:i<ops.length:=by omega
  rw[bK Lo,List.range'_succ];have ho:nth ops i=some ops[i]:=by rw[dF];exact al Lo
  simp only[C6,LI,ho,cu];cases dp E an (qz an A i 0 ops) ops[i] st with|false=>rfl|true=>simp only[ah];rw[oV];congr 1;funext bI;exact L7 ops A n (i+1) bI (by omega)
theorem Jk (ops:aw Oper)(d:Bool)(K:AS->ay R):Bw E Γ an ops d st K=(Bw E Γ an ops d st some).bind K:=by unfold Bw;cases d with|false=>exact MS ops ops st K|true=>simp only[ah];cases PX an ops with|false=>rfl|true=>exact Je ops _ ops 0 st K
theorem MM (yd:∀f,(Γ f).io=false/\(Γ f).bx=false/\(Γ f).pr=false){ops:aw Oper}{A:aw ff}(hq:∀o∈ops,gi an (DN ops) o=true):∀(l:aw Oper)(i:Nat)(st bI:AS),(∀o∈l,o∈ops)->C6 E Γ an ops A i l st some=some bI->iG (DN ops) st bI
 |[],i,st,bI,_,h=>by cases h;exact iG.refl _ _
 |o::l,i,st,bI,hl,h=>by simp only[C6]at h;cases hf:dp E an (qz an A i 0 ops) o st with|false=>rw[hf]at h;cases h|true=>rw[hf]at h;simp only[ah]at h;rw[oV]at h;cases hg:fZ E Γ an ops o st some with|none=>rw[hg]at h;cases h|some st1=>rw[hg]at h;exact(Kc yd (hl o (by simp)) (hq o (hl o (by simp))) hg).trans (MM yd hq l (i+1) st1 bI (λo' Ie=>hl o' (by simp[Ie])) h)
theorem X4 (yd:∀f,(Γ f).io=false/\(Γ f).bx=false/\(Γ f).pr=false){ops:aw Oper}{d:Bool}(hq:∀o∈ops,gi an (DN ops) o=true){bI:AS}(h:Bw E Γ an ops d st some=some bI):iG (DN ops) st bI:=by unfold Bw at h;cases d with|false=>exact Rp yd hq ops st bI (λ_ h=>h) h|true=>simp only[ah]at h;cases hb:PX an ops with|false=>rw[hb]at h;cases h|true=>rw[hb]at h;exact MM (adY yd) hq ops 0 st bI (λ_ h=>h) h
theorem VJ (hS:Sound P E Γ){id:Nat}{ops:Array Oper}{d:Bool}(h:mP C st a w){r:AS}(hk:Bw E Γ an ops.toList d st some=some r){Q:Exit->Act->World->Prop}(hq:∀a' w',mP C r a' w'->Q .normal a' w'):(Code.region id ops d).wp P Q a w:=by
 unfold Bw at hk;cases d with
 |false=>apply wp_region;rw[List.range_eq_range'];exact abu hS (K:=some) (r:=r) (λbI a' w' hs he=>by cases he;exact hq _ _ hs) ops.size 0 st a w (by omega) h (by simpa using hk)
 |true=>
  simp only[ah]at hk;cases hb:PX an ops.toList with
  |false=>rw[hb]at hk;cases hk
  |true=>
   rw[hb]at hk;simp only[ah]at hk;have ahz:=L7 (E:=E) (Γ:=Γ.Ee) (an:=an) ops.toList (PA ops.toList []) ops.size 0 st (by simp);rw[eD,hk]at ahz;unfold PX at hb;have aaJ:=HF ops.toList 0 hb;apply wp_region_any hS.mixed;have hs1:mP C st a {w with drawn:=w.drawn+1}:=h.grow (Fr.drew _ w)
   have:=aeZ (an:=an) (C:=C) (adX Γ) hS.Ee (ops:=ops) (X:=λk=>qz an (PA ops.toList []) k 0 ops.toList) (Q:=Q) (r:=r)
    (λi o ho k hk=>by have:=(aaJ i o (by rw[cf];exact ho)).1 k hk;simpa using this)
    (λi j oi oj hji hi hj=>by have h1:=(aaJ i oi (by rw[cf];exact hi)).2;rw[cl]at h1;have h2:=HE ops.toList 0 h1 j oj (by rw[cf];exact hj) (by omega);rw[cl,cz]at h2;rcases h2 with h2|h2;exact .inl (λL hL hp=>Yd h2 oi hi L hL hp);exact .inr h2) hq (List.range' 0 ops.size) (Array.replicate ops.size false) st a {w with drawn:=w.drawn+1} List.pairwise_lt_range'
    (λi=>by
     rw[List.mem_range'_1];constructor;rintro⟨_,hi⟩;have tU:i<ops.size:=by omega
     exact⟨tU,by simp[Array.getD,tU]⟩;rintro⟨hi,_⟩;omega) (by simp)
    (λi o _ hl=>by exfalso;simp only[Array.getD,Array.size_replicate,Array.getInternal_eq_getElem,Array.getElem_replicate]at hl;split at hl<;>cases hl) hs1 ahz.symm
   rwa[List.length_range']at this
end
end Go.Dn
