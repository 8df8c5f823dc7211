import Derived.Test.YtfbhfnniblfpbaaGreatDnDraw
/- A region whose order is drawn: whatever the order, the outcome is that of the text's order. -/
namespace Go.Dn
open Go.RowKit
variable {P:Program} {C:Ctx} {E:Env} {Γ:zu} {an:An}
variable {kv:Array Bool} {A:ax fi}
def agz (ops:Array Oper)(L:Nat->Prop):Prop:=∀i o,ops[i]?=some o->L i->∀k∈Ew o,L k
theorem mem_ready {ops:Array Oper}{i:Nat}(h:i∈Region.ready .any ops kv): ∃o,ops[i]?=some o/\i<ops.size/\kv.getD i true=false/\∀k∈Ew o,kv.getD k false=true:=by
 unfold Region.ready at h;rw[List.mem_filter]at h;obtain⟨hi,h⟩:=h;have iA:i<ops.size:=by simpa using hi
 simp only[ah,aP]at h;have ho:ops[i]?=some ops[i]:=Array.getElem?_eq_getElem iA;rw[ho]at h;simp only[dQ,gH,Array.all_eq_true]at h;refine⟨ops[i],ho,iA,h.1,λk hk=>?_⟩;simp only[Ew,dZ,List.mem_filter]at hk;obtain⟨e,⟨he,hb⟩,rfl⟩:=hk;obtain⟨j,hj,hje⟩:=Array.mem_iff_getElem.1 (Array.mem_toList_iff.1 he);have:=h.2 j hj;rw[hje]at this;simpa[hb]using this
theorem aiC {ops:Array Oper}{i:Nat}{o:Oper}(ho:ops[i]?=some o)(hl:kv.getD i true=false)(hp:∀k∈Ew o,kv.getD k false=true):i∈Region.ready .any ops kv:=by have iA:i<ops.size:=(Array.getElem?_eq_some_iff.1 ho).1;unfold Region.ready;rw[List.mem_filter];refine⟨by simpa using iA,?_⟩;rw[ho,hl];simp only[cA,bH,dQ,gH,Array.all_eq_true];intro j hj;cases hb:Region.binds .any o.after[j]with|false=>rfl|true=>simp only[aj,cM];refine hp _ ?_;simp only[Ew,dZ,List.mem_filter];exact⟨o.after[j],⟨by simp,hb⟩,rfl⟩
theorem alc (D6:∀f,(Γ f).io=false/\((Γ f).bx=true->(Γ f).cur=true)/\(Γ f).pr=false)(hS:Sound P E Γ){ops:Array Oper}{X:Nat->fi}{Q:Exit->Act->World->Prop}{r:AS}(iA:∀i o,ops[i]?=some o->∀k∈Ew o,k<i)(amW:∀i j oi oj,j<i->ops[i]?=some oi->ops[j]?=some oj->(∀L:Nat->Prop,agz ops L->(∀k∈Ew oi,L k)->L j)\/PY an ops.toList (X j) (X i) oj oi=true)(hq:∀a w,qo C r a w->Q .normal a w): ∀(rem:fi)(kv:Array Bool)(st:AS)(a:Act)(w:World),rem.Pairwise (·<·)->(∀i,i∈rem↔i<ops.size/\kv.getD i true=false)->kv.size=ops.size-> (∀i o,ops[i]?=some o->kv.getD i false=true->∀k∈Ew o,kv.getD k false=true)->qo C st a w->Th E Γ an ops.toList X rem st=some r-> wpAny P .any ops Q rem.length kv a w:=by
 intro rem;generalize hn:rem.length=n;induction n generalizing rem with
 |zero=>intro kv st a w _ Gd _ _ hs hr;have:rem=[]:=cb hn;subst this;cases hr;refine⟨?_,hq a w hs⟩;cases QW:Region.ready .any ops kv with|nil=>rfl|cons i l=>obtain⟨o,ho,hi,hl,_⟩:=mem_ready (i:=i) (by rw[QW];simp);have:=(Gd i).2 ⟨hi,hl⟩;cases this
 |succ n ih=>
  intro kv st a w hpw Gd wv hcl hs hr;have akZ:∀k,k<ops.size->kv.getD k false= !(decide (k∈rem)):=by
   intro k hk;have h1:=Gd k;have HM:k<kv.size:=by omega
   simp only[Array.getD,HM,dite_true]at h1⊢;by_cases hm:k∈rem;have:=(h1.1 hm).2;simpa[hm]using this;have:¬(kv[k]=false):=λhf=>hm (h1.2 ⟨hk,hf⟩);simpa[hm]using this
  refine⟨λV3=>?_,λi hi=>?_⟩;exfalso;cases rem with
  |nil=>simp at hn
  |cons i l=>
   have hi:=(Gd i).1 (by simp);have ho:ops[i]?=some ops[i]:=Array.getElem?_eq_getElem hi.1;have:i∈Region.ready .any ops kv:=by
    refine aiC ho hi.2 λk hk=>?_;have hki:=iA i _ ho k hk;rw[akZ k (by omega)];have:k∉i::l:=by intro hm;rcases cy.1 hm with rfl|hm;omega;have:=(List.pairwise_cons.1 hpw).1 k hm;omega
    simp[this]
   rw[V3]at this;cases this
  ·obtain⟨oi,ho,SS,hlf,C1⟩:=mem_ready hi;have zw:i∈rem:=(Gd i).2 ⟨SS,hlf⟩;obtain⟨pre,post,rfl⟩:=List.append_of_mem zw;have amT:nth ops.toList i=some oi:=by rw[eV,cK];exact ho
   have alK:=List.pairwise_append.1 hpw
   have ahp:=RY (E:=E) (Γ:=Γ) (an:=an) (X:=X) D6 amT pre post st r (λj hj oj hoj=>by
    have hji:j<i:=alK.2.2 j hj i (by simp);have asS:ops[j]?=some oj:=by rw[eV,cK]at hoj;exact hoj
    rcases amW i j oi oj hji ho asS with ast|hap;exfalso;have hL:=ast (λk=>kv.getD k false=true) (λk o hk hlk=>hcl k o hk hlk) C1;have:=(Gd j).1 (by simp[hj]);simp only[akZ j this.1]at hL;simp[hj]at hL;exact hap) hr
   simp only[Th,amT]at ahp;obtain⟨st1,h1,h2⟩:=aY.1 ahp;have hg:iO E Γ an ops.toList oi st some=some st1:=by unfold dp at h1;cases hf:eo E an (X i) oi st with|false=>rw[hf]at h1;cases h1|true=>rw[hf]at h1;exact h1
   have HN:i∉pre++post:=by intro hm;rcases aB.1 hm with hm|hm;have:=alK.2.2 i hm i (by simp);omega;have:=(List.pairwise_cons.1 alK.2.1).1 i hm;omega
   have am1:=XW (P:=P) (C:=C) (an:=an) hS (ops:=ops) hs hg (wpAny P .any ops Q n (kv.setIfInBounds i true)) Q (λcp a' w' wu he=>by
    cases he;refine ih (pre++post) (by simp at hn⊢;omega) (kv.setIfInBounds i true) st1 a' w' ?_ ?_ (by simpa using wv) ?_ wu h2;exact List.Pairwise.sublist (List.Sublist.append (List.Sublist.refl _) (List.sublist_cons_self _ _)) hpw;intro k;have hk:=Gd k;by_cases hki:k=i;subst hki;constructor;intro hm;exact absurd hm HN;rintro⟨_,hf⟩;simp[dz,show k<kv.size by omega]at hf;have HP:(kv.setIfInBounds i true).getD k true=kv.getD k true:=by simp[dz,cE hki]
    rw[HP,<-hk];simp[hki];intro k o lV hkl m hm;have HP:∀q,kv.getD q false=true->(kv.setIfInBounds i true).getD q false=true:=by
     intro q hq;simp only[dz,Array.getElem?_setIfInBounds]at hq⊢;split;·split<;>first|rfl|(rename_i h1 h2;subst h1;rw[Array.getElem?_eq_none (by omega)]at hq;exact hq)
     exact hq
    by_cases hki:k=i;subst hki;rw[ho]at lV;cases lV;exact HP m (C1 m hm);refine HP m (hcl k o lV ?_ m hm);simpa[dz,Array.getElem?_setIfInBounds,cE hki]using hkl)
   unfold wpOp;rw[ho];exact am1
theorem abD {a b:fi}{x:Nat}(h:x∈WX a b):x∈a\/x∈b:=by unfold WX at h;induction a generalizing b with|nil=>exact .inr h|cons y a ih=>rw[List.foldl_cons]at h;rcases ih h with h|h;exact .inl (by simp[h]);cases hc:b.contains y with|true=>rw[hc]at h;exact .inr h|false=>rw[hc]at h;rcases cy.1 h with rfl|h;exact .inl (by simp);exact .inr h
def agE (ops:Array Oper)(i j:Nat):Prop:=∀o,ops[i]?=some o->∀L:Nat->Prop,agz ops L->(∀k∈Ew o,L k)->L j
theorem Tx {ops:Array Oper}:∀(r done:ax Oper)(acc:ax fi),ops.toList=done++r->acc.length=done.length->(∀i l,nth acc i=some l->∀j∈l,agE ops i j)->
 ∀i l,nth (Xl r acc) i=some l->∀j∈l,agE ops i j
 |[],done,acc,_,_,h=>h
 |o::r,done,acc,alI,hlen,h=>by
  refine Tx r (done++[o]) _ (by rw[alI];simp) (by simp[hlen]) ?_;intro i l hl j hj;rw[eV]at hl;rcases ca i acc.length with iA|B0;rw[bB iA]at hl;exact h i l (by rw[eV];exact hl) j hj;rw[bJ B0]at hl;have hi:i=acc.length:=by cases hk:i-acc.length with|zero=>omega|succ n=>rw[hk]at hl;simp at hl
  subst hi;simp only[Nat.sub_self,df,br]at hl;subst hl;have hoi:ops[acc.length]?=some o:=by rw[<-cK,alI,hlen,bJ (bc _)];simp
  have key:∀(ps:fi)(s0:fi),(∀k∈ps,k∈Ew o)->(∀x∈s0,agE ops acc.length x)->∀x∈ps.foldl (λs j=>WX (j::(nth acc j).getD []) s) s0,agE ops acc.length x:=by
   intro ps;induction ps with
   |nil=>intro s0 _ h0;exact h0
   |cons k ps ih=>
    intro s0 hps h0;rw[List.foldl_cons];refine ih _ (λm hm=>hps m (by simp[hm])) ?_;intro x hx;rcases abD hx with hx|hx;intro o' OX L hL hp;rw[hoi]at OX;cases OX;have hk:=hp k (hps k (by simp));rcases cy.1 hx with rfl|hx;exact hk;cases hak:nth acc k with
    |none=>rw[hak]at hx;cases hx
    |some l=>
     rw[hak]at hx;have hkl:k<acc.length:=by rw[eV]at hak;exact(aD.1 hak).1
     have lV:∃ok,ops[k]?=some ok:=by rw[<-cK,alI,bB (by omega)];exact⟨_,ay (by omega)⟩
     obtain⟨ok,lV⟩:=lV;exact h k l hak x hx ok lV L hL (hL k ok lV hk)
    exact h0 x hx
  exact key (Ew o) [] (λ_ h=>h) (by simp) j hj
theorem afs {ops:Array Oper}{i k:Nat}(h:afr (Xl ops.toList []) i k=true):agE ops i k:=by unfold afr at h;cases hl:nth (Xl ops.toList []) i with|none=>rw[hl]at h;simp at h|some l=>rw[hl]at h;exact Tx ops.toList [] [] rfl rfl (λi l hl=>by simp[nth]at hl) i l hl k (by simpa using h)
theorem Om {ops:ax Oper}{i:Nat}{oi:Oper}:∀(l:ax Oper)(j:Nat),Rx an ops A i oi j l=true->∀k ok,l[k]?=some ok->j+k<i->(afr A i (j+k)||PY an ops (vB an A (j+k) 0 ops) (vB an A i 0 ops) ok oi)=true
 |[],j,_,k,ok,hk,_=>by simp at hk
 |oj::l,j,h,k,ok,hk,iA=>by
  simp only[Rx]at h;have hb:Nat.ble i j=false:=by cases hb:Nat.ble i j with|false=>rfl|true=>have:=Nat.le_of_ble_eq_true hb;omega
  rw[hb]at h;simp only[ae,ah]at h;cases k with|zero=>simp at hk;subst hk;exact h.1|succ k=>have:=Om l (j+1) h.2 k ok (by simpa using hk) (by omega);rwa[show j+1+k=j+(k+1) by omega]at this
theorem On {ops:ax Oper}:∀(l:ax Oper)(i:Nat),Ws an ops A i l=true->∀k ok,l[k]?=some ok->(∀m∈Ew ok,m<i+k)/\Rx an ops A (i+k) ok 0 ops=true
 |[],i,_,k,ok,hk=>by simp at hk
 |o::l,i,h,k,ok,hk=>by simp only[Ws,ah,aO]at h;cases k with|zero=>simp at hk;subst hk;exact⟨λm hm=>Nat.le_of_ble_eq_true (h.1.1 m hm),h.1.2⟩|succ k=>have:=On l (i+1) h.2 k ok (by simpa using hk);rwa[show i+1+k=i+(k+1) by omega]at this
section
variable {R:Type} {r:R} {st:AS} {a:Act} {w:World}
theorem Qo (ops:ax Oper)(A:ax fi):∀(l:ax Oper)(i:Nat)(st:AS)(K:AS->aA R),Jr E Γ an ops A i l st K=(Jr E Γ an ops A i l st some).bind K
 |[],i,st,K=>rfl
 |o::l,i,st,K=>by simp only[Jr];cases eo E an (vB an A i 0 ops) o st with|false=>rfl|true=>simp only[af];rw[tB,tB (K:=λcp=>Jr E Γ an ops A (i+1) l cp some),Option.bind_assoc];congr 1;funext cp;exact Qo ops A l (i+1) cp K
theorem TJ (ops:ax Oper)(A:ax fi):∀(n i:Nat)(st:AS),i+n=ops.length->Jr E Γ an ops A i (ops.drop i) st some=Th E Γ an ops (λk=>vB an A k 0 ops) (List.range' i n) st
 |0,i,st,hi=>by rw[cW (by omega)];rfl
 |n+1,i,st,hi=>by
  have SS:i<ops.length:=by omega
  rw[cr SS,List.range'_succ];have ho:nth ops i=some ops[i]:=by rw[eV];exact ay SS
  simp only[Jr,Th,ho,dp];cases eo E an (vB an A i 0 ops) ops[i] st with|false=>rfl|true=>simp only[af];rw[tB];congr 1;funext cp;exact TJ ops A n (i+1) cp (by omega)
theorem Qt (ops:ax Oper)(d:Bool)(K:AS->aA R):HA E Γ an ops d st K=(HA E Γ an ops d st some).bind K:=by unfold HA;cases d with|false=>exact UF ops ops st K|true=>simp only[af];cases Xz an ops with|false=>rfl|true=>exact Qo ops _ ops 0 st K
theorem UC (D6:∀f,(Γ f).io=false/\(Γ f).bx=false/\(Γ f).pr=false){ops:ax Oper}{A:ax fi}(hq:∀o∈ops,iR an (J5 ops) o=true):∀(l:ax Oper)(i:Nat)(st cp:AS),(∀o∈l,o∈ops)->Jr E Γ an ops A i l st some=some cp->ki (J5 ops) st cp
 |[],i,st,cp,_,h=>by cases h;exact ki.refl _ _
 |o::l,i,st,cp,hl,h=>by simp only[Jr]at h;cases hf:eo E an (vB an A i 0 ops) o st with|false=>rw[hf]at h;cases h|true=>rw[hf]at h;simp only[af]at h;rw[tB]at h;cases hg:iO E Γ an ops o st some with|none=>rw[hg]at h;cases h|some st1=>rw[hg]at h;exact(Rq D6 (hl o (by simp)) (hq o (hl o (by simp))) hg).trans (UC D6 hq l (i+1) st1 cp (λo' OX=>hl o' (by simp[OX])) h)
theorem afg (D6:∀f,(Γ f).io=false/\(Γ f).bx=false/\(Γ f).pr=false){ops:ax Oper}{d:Bool}(hq:∀o∈ops,iR an (J5 ops) o=true){cp:AS}(h:HA E Γ an ops d st some=some cp):ki (J5 ops) st cp:=by unfold HA at h;cases d with|false=>exact YU D6 hq ops st cp (λ_ h=>h) h|true=>simp only[af]at h;cases hb:Xz an ops with|false=>rw[hb]at h;cases h|true=>rw[hb]at h;exact UC (akD D6) hq ops 0 st cp (λ_ h=>h) h
theorem acW (hS:Sound P E Γ){id:Nat}{ops:Array Oper}{d:Bool}(h:qo C st a w){r:AS}(hk:HA E Γ an ops.toList d st some=some r){Q:Exit->Act->World->Prop}(hq:∀a' w',qo C r a' w'->Q .normal a' w'):(Code.region id ops d).wp P Q a w:=by
 unfold HA at hk;cases d with
 |false=>apply wp_region;rw[List.range_eq_range'];exact aim hS (K:=some) (r:=r) (λcp a' w' hs he=>by cases he;exact hq _ _ hs) ops.size 0 st a w (by omega) h (by simpa using hk)
 |true=>
  simp only[af]at hk;cases hb:Xz an ops.toList with
  |false=>rw[hb]at hk;cases hk
  |true=>
   rw[hb]at hk;simp only[af]at hk;have ajJ:=TJ (E:=E) (Γ:=Γ.KA) (an:=an) ops.toList (Xl ops.toList []) ops.size 0 st (by simp);rw[fR,hk]at ajJ;unfold Xz at hb;have ahw:=On ops.toList 0 hb;apply wp_region_any hS.mixed;have hs1:qo C st a {w with drawn:=w.drawn+1}:=h.grow (Fr.drew _ w)
   have:=alc (an:=an) (C:=C) (akC Γ) hS.KA (ops:=ops) (X:=λk=>vB an (Xl ops.toList []) k 0 ops.toList) (Q:=Q) (r:=r)
    (λi o ho k hk=>by have:=(ahw i o (by rw[cK];exact ho)).1 k hk;simpa using this)
    (λi j oi oj hji hi hj=>by have h1:=(ahw i oi (by rw[cK];exact hi)).2;rw[cJ]at h1;have h2:=Om ops.toList 0 h1 j oj (by rw[cK];exact hj) (by omega);rw[cJ,dE]at h2;rcases h2 with h2|h2;exact .inl (λL hL hp=>afs h2 oi hi L hL hp);exact .inr h2) hq (List.range' 0 ops.size) (Array.replicate ops.size false) st a {w with drawn:=w.drawn+1} List.pairwise_lt_range'
    (λi=>by
     rw[List.mem_range'_1];constructor;rintro⟨_,hi⟩;have xQ:i<ops.size:=by omega
     exact⟨xQ,by simp[Array.getD,xQ]⟩;rintro⟨hi,_⟩;omega) (by simp)
    (λi o _ hl=>by exfalso;simp only[Array.getD,Array.size_replicate,Array.getInternal_eq_getElem,Array.getElem_replicate]at hl;split at hl<;>cases hl) hs1 ajJ.symm
   rwa[List.length_range']at this
end
end Go.Dn
