import Derived.Test.YtnmppgnbjfdffaaGreatDnDraw
/- A region whose order is drawn: whatever the order, the outcome is that of the text's order. -/
namespace Go.Dn
open Go.RowKit
variable {P:Program} {C:Ctx} {E:Env} {Γ:xT} {an:An}
variable {iK:Array Bool} {i:Nat} {A:aw fw}
def aaI (ops:Array Oper)(L:Nat->Prop):Prop:=∀i o,ops[i]?=some o->L i->∀k∈zx o,L k
theorem mem_ready {ops:Array Oper}(h:i∈Region.ready .any ops iK): ∃o,ops[i]?=some o/\i<ops.size/\iK.getD i true=false/\∀k∈zx o,iK.getD k false=true:=by
 unfold Region.ready at h;rw[List.mem_filter]at h;obtain⟨hi,h⟩:=h;have gQ:i<ops.size:=by simpa using hi
 simp only[ae,aK]at h;have ho:ops[i]?=some ops[i]:=Array.getElem?_eq_getElem gQ;rw[ho]at h;simp only[dc,fB,Array.all_eq_true]at h;refine⟨ops[i],ho,gQ,h.1,λk hk=>?_⟩;simp only[zx,List.mem_map,List.mem_filter]at hk;obtain⟨e,⟨he,hb⟩,rfl⟩:=hk;obtain⟨j,hj,hje⟩:=Array.mem_iff_getElem.1 (Array.mem_toList_iff.1 he);have:=h.2 j hj;rw[hje]at this;simpa[hb]using this
theorem adg {ops:Array Oper}{o:Oper}(ho:ops[i]?=some o)(hl:iK.getD i true=false)(hp:∀k∈zx o,iK.getD k false=true):i∈Region.ready .any ops iK:=by have gQ:i<ops.size:=(Array.getElem?_eq_some_iff.1 ho).1;unfold Region.ready;rw[List.mem_filter];refine⟨by simpa using gQ,?_⟩;rw[ho,hl];simp only[bF,bp,dc,fB,Array.all_eq_true];intro j hj;cases hb:Region.binds .any o.after[j]with|false=>rfl|true=>simp only[aj,cG];refine hp _ ?_;simp only[zx,List.mem_map,List.mem_filter];exact⟨o.after[j],⟨by simp,hb⟩,rfl⟩
theorem agD (yQ:∀f,(Γ f).io=false/\((Γ f).bx=true->(Γ f).cur=true)/\(Γ f).pr=false)(hS:Sound P E Γ){ops:Array Oper}{X:Nat->fw}{Q:Exit->Act->World->Prop}{r:AS}(gQ:∀i o,ops[i]?=some o->∀k∈zx o,k<i)(ajc:∀i j oi oj,j<i->ops[i]?=some oi->ops[j]?=some oj->(∀L:Nat->Prop,aaI ops L->(∀k∈zx oi,L k)->L j)\/JI an ops.toList (X j) (X i) oj oi=true)(hq:∀a w,np C r a w->Q .normal a w): ∀(rem:fw)(iK:Array Bool)(st:AS)(a:Act)(w:World),rem.Pairwise (·<·)->(∀i,i∈rem↔i<ops.size/\iK.getD i true=false)->iK.size=ops.size-> (∀i o,ops[i]?=some o->iK.getD i false=true->∀k∈zx o,iK.getD k false=true)->np C st a w->ME E Γ an ops.toList X rem st=some r-> wpAny P .any ops Q rem.length iK a w:=by
 intro rem;generalize hn:rem.length=n;induction n generalizing rem with
 |zero=>intro iK st a w _ AX _ _ hs hr;have:rem=[]:=bS hn;subst this;cases hr;refine⟨?_,hq a w hs⟩;cases Ky:Region.ready .any ops iK with|nil=>rfl|cons i l=>obtain⟨o,ho,hi,hl,_⟩:=mem_ready (i:=i) (by rw[Ky];simp);have:=(AX i).2 ⟨hi,hl⟩;cases this
 |succ n ih=>
  intro iK st a w hpw AX ti hcl hs hr;have af8:∀k,k<ops.size->iK.getD k false= !(decide (k∈rem)):=by
   intro k hk;have h1:=AX k;have Cv:k<iK.size:=by omega
   simp only[Array.getD,Cv,dite_true]at h1⊢;by_cases hm:k∈rem;have:=(h1.1 hm).2;simpa[hm]using this;have:¬(iK[k]=false):=λhf=>hm (h1.2 ⟨hk,hf⟩);simpa[hm]using this
  refine⟨λag9=>?_,λi hi=>?_⟩;exfalso;cases rem with
  |nil=>simp at hn
  |cons i l=>
   have hi:=(AX i).1 (by simp);have ho:ops[i]?=some ops[i]:=Array.getElem?_eq_getElem hi.1;have:i∈Region.ready .any ops iK:=by
    refine adg ho hi.2 λk hk=>?_;have hki:=gQ i _ ho k hk;rw[af8 k (by omega)];have:k∉i::l:=by intro hm;rcases bO.1 hm with rfl|hm;omega;have:=(List.pairwise_cons.1 hpw).1 k hm;omega
    simp[this]
   rw[ag9]at this;cases this
  ·obtain⟨oi,ho,Ml,hlf,Dr⟩:=mem_ready hi;have sJ:i∈rem:=(AX i).2 ⟨Ml,hlf⟩;obtain⟨pre,post,rfl⟩:=List.append_of_mem sJ;have ai9:nth ops.toList i=some oi:=by rw[dJ,cj];exact ho
   have ahg:=List.pairwise_append.1 hpw
   have ab4:=Lz (E:=E) (Γ:=Γ) (an:=an) (X:=X) yQ ai9 pre post st r (λj hj oj hoj=>by
    have hji:j<i:=ahg.2.2 j hj i (by simp);have anw:ops[j]?=some oj:=by rw[dJ,cj]at hoj;exact hoj
    rcases ajc i j oi oj hji ho anw with am6|hap;exfalso;have hL:=am6 (λk=>iK.getD k false=true) (λk o hk TH=>hcl k o hk TH) Dr;have:=(AX j).1 (by simp[hj]);simp only[af8 j this.1]at hL;simp[hj]at hL;exact hap) hr
   simp only[ME,ai9]at ab4;obtain⟨st1,h1,h2⟩:=aL.1 ab4;have hg:gb E Γ an ops.toList oi st some=some st1:=by unfold cx at h1;cases hf:dq E an (X i) oi st with|false=>rw[hf]at h1;cases h1|true=>rw[hf]at h1;exact h1
   have Dq:i∉pre++post:=by intro hm;rcases ay.1 hm with hm|hm;have:=ahg.2.2 i hm i (by simp);omega;have:=(List.pairwise_cons.1 ahg.2.1).1 i hm;omega
   have ajh:=Rt (P:=P) (C:=C) (an:=an) hS (ops:=ops) hs hg (wpAny P .any ops Q n (iK.setIfInBounds i true)) Q (λbH a' w' wO he=>by
    cases he;refine ih (pre++post) (by simp at hn⊢;omega) (iK.setIfInBounds i true) st1 a' w' ?_ ?_ (by simpa using ti) ?_ wO h2;exact List.Pairwise.sublist (List.Sublist.append (List.Sublist.refl _) (List.sublist_cons_self _ _)) hpw;intro k;have hk:=AX k;by_cases hki:k=i;subst hki;constructor;intro hm;exact absurd hm Dq;rintro⟨_,hf⟩;simp[du,show k<iK.size by omega]at hf;have Cy:(iK.setIfInBounds i true).getD k true=iK.getD k true:=by simp[du,cO hki]
    rw[Cy,<-hk];simp[hki];intro k o nn hkl m hm;have Cy:∀q,iK.getD q false=true->(iK.setIfInBounds i true).getD q false=true:=by
     intro q hq;simp only[du,Array.getElem?_setIfInBounds]at hq⊢;split;·split<;>first|rfl|(rename_i h1 h2;subst h1;rw[Array.getElem?_eq_none (by omega)]at hq;exact hq)
     exact hq
    by_cases hki:k=i;subst hki;rw[ho]at nn;cases nn;exact Cy m (Dr m hm);refine Cy m (hcl k o nn ?_ m hm);simpa[du,Array.getElem?_setIfInBounds,cO hki]using hkl)
   unfold wpOp;rw[ho];exact ajh
theorem VC {a b:fw}{x:Nat}(h:x∈Qt a b):x∈a\/x∈b:=by unfold Qt at h;induction a generalizing b with|nil=>exact .inr h|cons y a ih=>rw[cZ]at h;rcases ih h with h|h;exact .inl (by simp[h]);cases hc:b.contains y with|true=>rw[hc]at h;exact .inr h|false=>rw[hc]at h;rcases bO.1 h with rfl|h;exact .inl (by simp);exact .inr h
def aaO (ops:Array Oper)(i j:Nat):Prop:=∀o,ops[i]?=some o->∀L:Nat->Prop,aaI ops L->(∀k∈zx o,L k)->L j
theorem MR {ops:Array Oper}:∀(r done:aw Oper)(acc:aw fw),ops.toList=done++r->acc.length=done.length->(∀i l,nth acc i=some l->∀j∈l,aaO ops i j)->
 ∀i l,nth (QF r acc) i=some l->∀j∈l,aaO ops i j
 |[],done,acc,_,_,h=>h
 |o::r,done,acc,ahe,hlen,h=>by
  refine MR r (done++[o]) _ (by rw[ahe];simp) (by simp[hlen]) ?_;intro i l hl j hj;rw[dJ]at hl;rcases cc i acc.length with gQ|yP;rw[bz gQ]at hl;exact h i l (by rw[dJ];exact hl) j hj;rw[bq yP]at hl;have hi:i=acc.length:=by cases hk:i-acc.length with|zero=>omega|succ n=>rw[hk]at hl;simp at hl
  subst hi;simp only[kW,cr,aZ]at hl;subst hl;have hoi:ops[acc.length]?=some o:=by rw[<-cj,ahe,hlen,bq (aU _)];simp
  have key:∀(ps:fw)(s0:fw),(∀k∈ps,k∈zx o)->(∀x∈s0,aaO ops acc.length x)->∀x∈ps.foldl (λs j=>Qt (j::(nth acc j).getD []) s) s0,aaO ops acc.length x:=by
   intro ps;induction ps with
   |nil=>intro s0 _ h0;exact h0
   |cons k ps ih=>
    intro s0 hps h0;rw[cZ];refine ih _ (λm hm=>hps m (by simp[hm])) ?_;intro x hx;rcases VC hx with hx|hx;intro o' I9 L hL hp;rw[hoi]at I9;cases I9;have hk:=hp k (hps k (by simp));rcases bO.1 hx with rfl|hx;exact hk;cases hak:nth acc k with
    |none=>rw[hak]at hx;cases hx
    |some l=>
     rw[hak]at hx;have hkl:k<acc.length:=by rw[dJ]at hak;exact(aF.1 hak).1
     have nn:∃ok,ops[k]?=some ok:=by rw[<-cj,ahe,bz (by omega)];exact⟨_,al (by omega)⟩
     obtain⟨ok,nn⟩:=nn;exact h k l hak x hx ok nn L hL (hL k ok nn hk)
    exact h0 x hx
  exact key (zx o) [] (λ_ h=>h) (by simp) j hj
theorem ZM {ops:Array Oper}{k:Nat}(h:ZL (QF ops.toList []) i k=true):aaO ops i k:=by unfold ZL at h;cases hl:nth (QF ops.toList []) i with|none=>rw[hl]at h;simp at h|some l=>rw[hl]at h;exact MR ops.toList [] [] rfl rfl (λi l hl=>by simp[nth]at hl) i l hl k (by simpa using h)
theorem Ix {ops:aw Oper}{oi:Oper}:∀(l:aw Oper)(j:Nat),Lb an ops A i oi j l=true->∀k ok,l[k]?=some ok->j+k<i->(ZL A i (j+k)||JI an ops (rf an A (j+k) 0 ops) (rf an A i 0 ops) ok oi)=true
 |[],j,_,k,ok,hk,_=>by simp at hk
 |oj::l,j,h,k,ok,hk,gQ=>by
  simp only[Lb]at h;have hb:Nat.ble i j=false:=by cases hb:Nat.ble i j with|false=>rfl|true=>have:=Nat.le_of_ble_eq_true hb;omega
  rw[hb]at h;simp only[af,ae]at h;cases k with|zero=>simp at hk;subst hk;exact h.1|succ k=>have:=Ix l (j+1) h.2 k ok (by simpa using hk) (by omega);rwa[show j+1+k=j+(k+1) by omega]at this
theorem Iy {ops:aw Oper}:∀(l:aw Oper)(i:Nat),PR an ops A i l=true->∀k ok,l[k]?=some ok->(∀m∈zx ok,m<i+k)/\Lb an ops A (i+k) ok 0 ops=true
 |[],i,_,k,ok,hk=>by simp at hk
 |o::l,i,h,k,ok,hk=>by simp only[PR,ae,aG]at h;cases k with|zero=>simp at hk;subst hk;exact⟨λm hm=>Nat.le_of_ble_eq_true (h.1.1 m hm),h.1.2⟩|succ k=>have:=Iy l (i+1) h.2 k ok (by simpa using hk);rwa[show i+1+k=i+(k+1) by omega]at this
section
variable {R:Type} {r:R} {st:AS} {a:Act} {w:World}
theorem J3 (ops:aw Oper)(A:aw fw):∀(l:aw Oper)(i:Nat)(st:AS)(K:AS->ax R),DS E Γ an ops A i l st K=(DS E Γ an ops A i l st some).bind K
 |[],i,st,K=>rfl
 |o::l,i,st,K=>by simp only[DS];cases dq E an (rf an A i 0 ops) o st with|false=>rfl|true=>simp only[ah];rw[pM,pM (K:=λbH=>DS E Γ an ops A (i+1) l bH some),Option.bind_assoc];congr 1;funext bH;exact J3 ops A l (i+1) bH K
theorem MZ (ops:aw Oper)(A:aw fw):∀(n i:Nat)(st:AS),i+n=ops.length->DS E Γ an ops A i (ops.drop i) st some=ME E Γ an ops (λk=>rf an A k 0 ops) (List.range' i n) st
 |0,i,st,hi=>by rw[cK (by omega)];rfl
 |n+1,i,st,hi=>by
  have Ml:i<ops.length:=by omega
  rw[bJ Ml,List.range'_succ];have ho:nth ops i=some ops[i]:=by rw[dJ];exact al Ml
  simp only[DS,ME,ho,cx];cases dq E an (rf an A i 0 ops) ops[i] st with|false=>rfl|true=>simp only[ah];rw[pM];congr 1;funext bH;exact MZ ops A n (i+1) bH (by omega)
theorem J9 (ops:aw Oper)(d:Bool)(K:AS->ax R):Ch E Γ an ops d st K=(Ch E Γ an ops d st some).bind K:=by unfold Ch;cases d with|false=>exact NS ops ops st K|true=>simp only[ah];cases Q0 an ops with|false=>rfl|true=>exact J3 ops _ ops 0 st K
theorem NK (yQ:∀f,(Γ f).io=false/\(Γ f).bx=false/\(Γ f).pr=false){ops:aw Oper}{A:aw fw}(hq:∀o∈ops,gk an (Ez ops) o=true):∀(l:aw Oper)(i:Nat)(st bH:AS),(∀o∈l,o∈ops)->DS E Γ an ops A i l st some=some bH->iH (Ez ops) st bH
 |[],i,st,bH,_,h=>by cases h;exact iH.refl _ _
 |o::l,i,st,bH,hl,h=>by simp only[DS]at h;cases hf:dq E an (rf an A i 0 ops) o st with|false=>rw[hf]at h;cases h|true=>rw[hf]at h;simp only[ah]at h;rw[pM]at h;cases hg:gb E Γ an ops o st some with|none=>rw[hg]at h;cases h|some st1=>rw[hg]at h;exact(K1 yQ (hl o (by simp)) (hq o (hl o (by simp))) hg).trans (NK yQ hq l (i+1) st1 bH (λo' I9=>hl o' (by simp[I9])) h)
theorem ZD (yQ:∀f,(Γ f).io=false/\(Γ f).bx=false/\(Γ f).pr=false){ops:aw Oper}{d:Bool}(hq:∀o∈ops,gk an (Ez ops) o=true){bH:AS}(h:Ch E Γ an ops d st some=some bH):iH (Ez ops) st bH:=by unfold Ch at h;cases d with|false=>exact SA yQ hq ops st bH (λ_ h=>h) h|true=>simp only[ah]at h;cases hb:Q0 an ops with|false=>rw[hb]at h;cases h|true=>rw[hb]at h;exact NK (afx yQ) hq ops 0 st bH (λ_ h=>h) h
theorem W2 (hS:Sound P E Γ){id:Nat}{ops:Array Oper}{d:Bool}(h:np C st a w){r:AS}(hk:Ch E Γ an ops.toList d st some=some r){Q:Exit->Act->World->Prop}(hq:∀a' w',np C r a' w'->Q .normal a' w'):(Code.region id ops d).wp P Q a w:=by
 unfold Ch at hk;cases d with
 |false=>apply wp_region;rw[List.range_eq_range'];exact ac2 hS (K:=some) (r:=r) (λbH a' w' hs he=>by cases he;exact hq _ _ hs) ops.size 0 st a w (by omega) h (by simpa using hk)
 |true=>
  simp only[ah]at hk;cases hb:Q0 an ops.toList with
  |false=>rw[hb]at hk;cases hk
  |true=>
   rw[hb]at hk;simp only[ah]at hk;have ajf:=MZ (E:=E) (Γ:=Γ.E1) (an:=an) ops.toList (QF ops.toList []) ops.size 0 st (by simp);rw[dP,hk]at ajf;unfold Q0 at hb;have ab9:=Iy ops.toList 0 hb;apply wp_region_any hS.mixed;have hs1:np C st a {w with drawn:=w.drawn+1}:=h.grow (Fr.drew _ w)
   have:=agD (an:=an) (C:=C) (afw Γ) hS.E1 (ops:=ops) (X:=λk=>rf an (QF ops.toList []) k 0 ops.toList) (Q:=Q) (r:=r)
    (λi o ho k hk=>by have:=(ab9 i o (by rw[cj];exact ho)).1 k hk;simpa using this)
    (λi j oi oj hji hi hj=>by have h1:=(ab9 i oi (by rw[cj];exact hi)).2;rw[ca]at h1;have h2:=Ix ops.toList 0 h1 j oj (by rw[cj];exact hj) (by omega);rw[ca,cz]at h2;rcases h2 with h2|h2;exact .inl (λL hL hp=>ZM h2 oi hi L hL hp);exact .inr h2) hq (List.range' 0 ops.size) (Array.replicate ops.size false) st a {w with drawn:=w.drawn+1} List.pairwise_lt_range'
    (λi=>by
     rw[List.mem_range'_1];constructor;rintro⟨_,hi⟩;have nu:i<ops.size:=by omega
     exact⟨nu,by simp[Array.getD,nu]⟩;rintro⟨hi,_⟩;omega) (by simp)
    (λi o _ hl=>by exfalso;simp only[Array.getD,Array.size_replicate,Array.getInternal_eq_getElem,Array.getElem_replicate]at hl;split at hl<;>cases hl) hs1 ajf.symm
   rwa[List.length_range']at this
end
end Go.Dn
