import Derived.Test.YtbebkmajekhclaaGreatDnDraw
/- A region whose order is drawn: whatever the order, the outcome is that of the text's order. -/
namespace Go.Dn
open Go.RowKit
variable {P:Program} {C:Ctx} {E:Env} {Γ:Dy} {an:An}
variable {jA:Array Bool} {i:Nat} {A:aw fA}
def ai9 (ops:Array Oper)(L:Nat->Prop):Prop:=∀i o,ops[i]?=some o->L i->∀k∈Ef o,L k
theorem mem_ready {ops:Array Oper}(h:i∈Region.ready .any ops jA): ∃o,ops[i]?=some o/\i<ops.size/\jA.getD i true=false/\∀k∈Ef o,jA.getD k false=true:=by
 unfold Region.ready at h;rw[List.mem_filter]at h;obtain⟨hi,h⟩:=h;have gr:i<ops.size:=by simpa using hi
 simp only[af,aM]at h;have ho:ops[i]?=some ops[i]:=Array.getElem?_eq_getElem gr;rw[ho]at h;simp only[dD,fY,Array.all_eq_true]at h;refine⟨ops[i],ho,gr,h.1,λk hk=>?_⟩;simp only[Ef,dH,List.mem_filter]at hk;obtain⟨e,⟨he,hb⟩,rfl⟩:=hk;obtain⟨j,hj,hje⟩:=Array.mem_iff_getElem.1 (Array.mem_toList_iff.1 he);have:=h.2 j hj;rw[hje]at this;simpa[hb]using this
theorem alW {ops:Array Oper}{o:Oper}(ho:ops[i]?=some o)(hl:jA.getD i true=false)(hp:∀k∈Ef o,jA.getD k false=true):i∈Region.ready .any ops jA:=by have gr:i<ops.size:=(Array.getElem?_eq_some_iff.1 ho).1;unfold Region.ready;rw[List.mem_filter];refine⟨by simpa using gr,?_⟩;rw[ho,hl];simp only[bH,aZ,dD,fY,Array.all_eq_true];intro j hj;cases hb:Region.binds .any o.after[j]with|false=>rfl|true=>simp only[al,cZ];refine hp _ ?_;simp only[Ef,dH,List.mem_filter];exact⟨o.after[j],⟨by simp,hb⟩,rfl⟩
theorem ap0 (DA:∀f,(Γ f).io=false/\((Γ f).bx=true->(Γ f).cur=true)/\(Γ f).pr=false)(hS:Sound P E Γ){ops:Array Oper}{X:Nat->fA}{Q:Exit->Act->World->Prop}{r:AS}(gr:∀i o,ops[i]?=some o->∀k∈Ef o,k<i)(asM:∀i j oi oj,j<i->ops[i]?=some oi->ops[j]?=some oj->(∀L:Nat->Prop,ai9 ops L->(∀k∈Ef oi,L k)->L j)\/PX an ops.toList (X j) (X i) oj oi=true)(hq:∀a w,py C r a w->Q .normal a w): ∀(rem:fA)(jA:Array Bool)(st:AS)(a:Act)(w:World),rem.Pairwise (·<·)->(∀i,i∈rem↔i<ops.size/\jA.getD i true=false)->jA.size=ops.size-> (∀i o,ops[i]?=some o->jA.getD i false=true->∀k∈Ef o,jA.getD k false=true)->py C st a w->TA E Γ an ops.toList X rem st=some r-> wpAny P .any ops Q rem.length jA a w:=by
 intro rem;generalize hn:rem.length=n;induction n generalizing rem with
 |zero=>intro jA st a w _ EB _ _ hs hr;have:rem=[]:=cQ hn;subst this;cases hr;refine⟨?_,hq a w hs⟩;cases Q8:Region.ready .any ops jA with|nil=>rfl|cons i l=>obtain⟨o,ho,hi,hl,_⟩:=mem_ready (i:=i) (by rw[Q8];simp);have:=(EB i).2 ⟨hi,hl⟩;cases this
 |succ n ih=>
  intro jA st a w hpw EB uU hcl hs hr;have apd:∀k,k<ops.size->jA.getD k false= !(decide (k∈rem)):=by
   intro k hk;have h1:=EB k;have HE:k<jA.size:=by omega
   simp only[Array.getD,HE,dite_true]at h1⊢;by_cases hm:k∈rem;have:=(h1.1 hm).2;simpa[hm]using this;have:¬(jA[k]=false):=λhf=>hm (h1.2 ⟨hk,hf⟩);simpa[hm]using this
  refine⟨λaqt=>?_,λi hi=>?_⟩;exfalso;cases rem with
  |nil=>simp at hn
  |cons i l=>
   have hi:=(EB i).1 (by simp);have ho:ops[i]?=some ops[i]:=Array.getElem?_eq_getElem hi.1;have:i∈Region.ready .any ops jA:=by
    refine alW ho hi.2 λk hk=>?_;have hki:=gr i _ ho k hk;rw[apd k (by omega)];have:k∉i::l:=by intro hm;rcases bZ.1 hm with rfl|hm;omega;have:=(List.pairwise_cons.1 hpw).1 k hm;omega
    simp[this]
   rw[aqt]at this;cases this
  ·obtain⟨oi,ho,Py,hlf,Ha⟩:=mem_ready hi;have yK:i∈rem:=(EB i).2 ⟨Py,hlf⟩;obtain⟨pre,post,rfl⟩:=List.append_of_mem yK;have asI:nth ops.toList i=some oi:=by rw[ez,cV];exact ho
   have aqA:=List.pairwise_append.1 hpw
   have akQ:=Sc (E:=E) (Γ:=Γ) (an:=an) (X:=X) DA asI pre post st r (λj hj oj hoj=>by
    have hji:j<i:=aqA.2.2 j hj i (by simp);have ayx:ops[j]?=some oj:=by rw[ez,cV]at hoj;exact hoj
    rcases asM i j oi oj hji ho ayx with ax5|hap;exfalso;have hL:=ax5 (λk=>jA.getD k false=true) (λk o hk hlk=>hcl k o hk hlk) Ha;have:=(EB j).1 (by simp[hj]);simp only[apd j this.1]at hL;simp[hj]at hL;exact hap) hr
   simp only[TA,asI]at akQ;obtain⟨st1,h1,h2⟩:=aY.1 akQ;have hg:ia E Γ an ops.toList oi st some=some st1:=by unfold dh at h1;cases hf:dM E an (X i) oi st with|false=>rw[hf]at h1;cases h1|true=>rw[hf]at h1;exact h1
   have Jr:i∉pre++post:=by intro hm;rcases aA.1 hm with hm|hm;have:=aqA.2.2 i hm i (by simp);omega;have:=(List.pairwise_cons.1 aqA.2.1).1 i hm;omega
   have asR:=Zk (P:=P) (C:=C) (an:=an) hS (ops:=ops) hs hg (wpAny P .any ops Q n (jA.setIfInBounds i true)) Q (λcp a' w' yD he=>by
    cases he;refine ih (pre++post) (by simp at hn⊢;omega) (jA.setIfInBounds i true) st1 a' w' ?_ ?_ (by simpa using uU) ?_ yD h2;exact List.Pairwise.sublist (List.Sublist.append (List.Sublist.refl _) (List.sublist_cons_self _ _)) hpw;intro k;have hk:=EB k;by_cases hki:k=i;subst hki;constructor;intro hm;exact absurd hm Jr;rintro⟨_,hf⟩;simp[dQ,show k<jA.size by omega]at hf;have Jf:(jA.setIfInBounds i true).getD k true=jA.getD k true:=by simp[dQ,df hki]
    rw[Jf,<-hk];simp[hki];intro k o px SQ m hm;have Jf:∀q,jA.getD q false=true->(jA.setIfInBounds i true).getD q false=true:=by
     intro q hq;simp only[dQ,Array.getElem?_setIfInBounds]at hq⊢;split;·split<;>first|rfl|(rename_i h1 h2;subst h1;rw[Array.getElem?_eq_none (by omega)]at hq;exact hq)
     exact hq
    by_cases hki:k=i;subst hki;rw[ho]at px;cases px;exact Jf m (Ha m hm);refine Jf m (hcl k o px ?_ m hm);simpa[dQ,Array.getElem?_setIfInBounds,df hki]using SQ)
   unfold wpOp;rw[ho];exact asR
theorem adO {a b:fA}{x:Nat}(h:x∈XX a b):x∈a\/x∈b:=by unfold XX at h;induction a generalizing b with|nil=>exact .inr h|cons y a ih=>rw[dL]at h;rcases ih h with h|h;exact .inl (by simp[h]);cases hc:b.contains y with|true=>rw[hc]at h;exact .inr h|false=>rw[hc]at h;rcases bZ.1 h with rfl|h;exact .inl (by simp);exact .inr h
def ajc (ops:Array Oper)(i j:Nat):Prop:=∀o,ops[i]?=some o->∀L:Nat->Prop,ai9 ops L->(∀k∈Ef o,L k)->L j
theorem TR {ops:Array Oper}:∀(r done:aw Oper)(acc:aw fA),ops.toList=done++r->acc.length=done.length->(∀i l,nth acc i=some l->∀j∈l,ajc ops i j)->
 ∀i l,nth (X8 r acc) i=some l->∀j∈l,ajc ops i j
 |[],done,acc,_,_,h=>h
 |o::r,done,acc,aqy,hlen,h=>by
  refine TR r (done++[o]) _ (by rw[aqy];simp) (by simp[hlen]) ?_;intro i l hl j hj;rw[ez]at hl;rcases bT i acc.length with gr|BN;rw[bK gr]at hl;exact h i l (by rw[ez];exact hl) j hj;rw[bA BN]at hl;have hi:i=acc.length:=by cases hk:i-acc.length with|zero=>omega|succ n=>rw[hk]at hl;simp at hl
  subst hi;simp only[gZ,cR,bq]at hl;subst hl;have hoi:ops[acc.length]?=some o:=by rw[<-cV,aqy,hlen,bA (bt _)];simp
  have key:∀(ps:fA)(s0:fA),(∀k∈ps,k∈Ef o)->(∀x∈s0,ajc ops acc.length x)->∀x∈ps.foldl (λs j=>XX (j::(nth acc j).getD []) s) s0,ajc ops acc.length x:=by
   intro ps;induction ps with
   |nil=>intro s0 _ h0;exact h0
   |cons k ps ih=>
    intro s0 hps h0;rw[dL];refine ih _ (λm hm=>hps m (by simp[hm])) ?_;intro x hx;rcases adO hx with hx|hx;intro o' O7 L hL hp;rw[hoi]at O7;cases O7;have hk:=hp k (hps k (by simp));rcases bZ.1 hx with rfl|hx;exact hk;cases hak:nth acc k with
    |none=>rw[hak]at hx;cases hx
    |some l=>
     rw[hak]at hx;have SQ:k<acc.length:=by rw[ez]at hak;exact(aC.1 hak).1
     have px:∃ok,ops[k]?=some ok:=by rw[<-cV,aqy,bK (by omega)];exact⟨_,ak (by omega)⟩
     obtain⟨ok,px⟩:=px;exact h k l hak x hx ok px L hL (hL k ok px hk)
    exact h0 x hx
  exact key (Ef o) [] (λ_ h=>h) (by simp) j hj
theorem ah0 {ops:Array Oper}{k:Nat}(h:ahZ (X8 ops.toList []) i k=true):ajc ops i k:=by unfold ahZ at h;cases hl:nth (X8 ops.toList []) i with|none=>rw[hl]at h;simp at h|some l=>rw[hl]at h;exact TR ops.toList [] [] rfl rfl (λi l hl=>by simp[nth]at hl) i l hl k (by simpa using h)
theorem Oc {ops:aw Oper}{oi:Oper}:∀(l:aw Oper)(j:Nat),RK an ops A i oi j l=true->∀k ok,l[k]?=some ok->j+k<i->(ahZ A i (j+k)||PX an ops (uV an A (j+k) 0 ops) (uV an A i 0 ops) ok oi)=true
 |[],j,_,k,ok,hk,_=>by simp at hk
 |oj::l,j,h,k,ok,hk,gr=>by
  simp only[RK]at h;have hb:Nat.ble i j=false:=by cases hb:Nat.ble i j with|false=>rfl|true=>have:=Nat.le_of_ble_eq_true hb;omega
  rw[hb]at h;simp only[ae,af]at h;cases k with|zero=>simp at hk;subst hk;exact h.1|succ k=>have:=Oc l (j+1) h.2 k ok (by simpa using hk) (by omega);rwa[show j+1+k=j+(k+1) by omega]at this
theorem Od {ops:aw Oper}:∀(l:aw Oper)(i:Nat),Xi an ops A i l=true->∀k ok,l[k]?=some ok->(∀m∈Ef ok,m<i+k)/\RK an ops A (i+k) ok 0 ops=true
 |[],i,_,k,ok,hk=>by simp at hk
 |o::l,i,h,k,ok,hk=>by simp only[Xi,af,aF]at h;cases k with|zero=>simp at hk;subst hk;exact⟨λm hm=>Nat.le_of_ble_eq_true (h.1.1 m hm),h.1.2⟩|succ k=>have:=Od l (i+1) h.2 k ok (by simpa using hk);rwa[show i+1+k=i+(k+1) by omega]at this
section
variable {R:Type} {r:R} {st:AS} {a:Act} {w:World}
theorem Qt (ops:aw Oper)(A:aw fA):∀(l:aw Oper)(i:Nat)(st:AS)(K:AS->az R),Jj E Γ an ops A i l st K=(Jj E Γ an ops A i l st some).bind K
 |[],i,st,K=>rfl
 |o::l,i,st,K=>by simp only[Jj];cases dM E an (uV an A i 0 ops) o st with|false=>rfl|true=>simp only[ah];rw[sH,sH (K:=λcp=>Jj E Γ an ops A (i+1) l cp some),Option.bind_assoc];congr 1;funext cp;exact Qt ops A l (i+1) cp K
theorem T1 (ops:aw Oper)(A:aw fA):∀(n i:Nat)(st:AS),i+n=ops.length->Jj E Γ an ops A i (ops.drop i) st some=TA E Γ an ops (λk=>uV an A k 0 ops) (List.range' i n) st
 |0,i,st,hi=>by rw[dP (by omega)];rfl
 |n+1,i,st,hi=>by
  have Py:i<ops.length:=by omega
  rw[cv Py,List.range'_succ];have ho:nth ops i=some ops[i]:=by rw[ez];exact ak Py
  simp only[Jj,TA,ho,dh];cases dM E an (uV an A i 0 ops) ops[i] st with|false=>rfl|true=>simp only[ah];rw[sH];congr 1;funext cp;exact T1 ops A n (i+1) cp (by omega)
theorem QC (ops:aw Oper)(d:Bool)(K:AS->az R):Hs E Γ an ops d st K=(Hs E Γ an ops d st some).bind K:=by unfold Hs;cases d with|false=>exact U2 ops ops st K|true=>simp only[ah];cases Yy an ops with|false=>rfl|true=>exact Qt ops _ ops 0 st K
theorem UW (DA:∀f,(Γ f).io=false/\(Γ f).bx=false/\(Γ f).pr=false){ops:aw Oper}{A:aw fA}(hq:∀o∈ops,ie an (Ke ops) o=true):∀(l:aw Oper)(i:Nat)(st cp:AS),(∀o∈l,o∈ops)->Jj E Γ an ops A i l st some=some cp->jr (Ke ops) st cp
 |[],i,st,cp,_,h=>by cases h;exact jr.refl _ _
 |o::l,i,st,cp,hl,h=>by simp only[Jj]at h;cases hf:dM E an (uV an A i 0 ops) o st with|false=>rw[hf]at h;cases h|true=>rw[hf]at h;simp only[ah]at h;rw[sH]at h;cases hg:ia E Γ an ops o st some with|none=>rw[hg]at h;cases h|some st1=>rw[hg]at h;exact(RG DA (hl o (by simp)) (hq o (hl o (by simp))) hg).trans (UW DA hq l (i+1) st1 cp (λo' O7=>hl o' (by simp[O7])) h)
theorem ahQ (DA:∀f,(Γ f).io=false/\(Γ f).bx=false/\(Γ f).pr=false){ops:aw Oper}{d:Bool}(hq:∀o∈ops,ie an (Ke ops) o=true){cp:AS}(h:Hs E Γ an ops d st some=some cp):jr (Ke ops) st cp:=by unfold Hs at h;cases d with|false=>exact aay DA hq ops st cp (λ_ h=>h) h|true=>simp only[ah]at h;cases hb:Yy an ops with|false=>rw[hb]at h;cases h|true=>rw[hb]at h;exact UW (aoI DA) hq ops 0 st cp (λ_ h=>h) h
theorem afl (hS:Sound P E Γ){id:Nat}{ops:Array Oper}{d:Bool}(h:py C st a w){r:AS}(hk:Hs E Γ an ops.toList d st some=some r){Q:Exit->Act->World->Prop}(hq:∀a' w',py C r a' w'->Q .normal a' w'):(Code.region id ops d).wp P Q a w:=by
 unfold Hs at hk;cases d with
 |false=>apply wp_region;rw[List.range_eq_range'];exact alI hS (K:=some) (r:=r) (λcp a' w' hs he=>by cases he;exact hq _ _ hs) ops.size 0 st a w (by omega) h (by simpa using hk)
 |true=>
  simp only[ah]at hk;cases hb:Yy an ops.toList with
  |false=>rw[hb]at hk;cases hk
  |true=>
   rw[hb]at hk;simp only[ah]at hk;have asP:=T1 (E:=E) (Γ:=Γ.KF) (an:=an) ops.toList (X8 ops.toList []) ops.size 0 st (by simp);rw[eG,hk]at asP;unfold Yy at hb;have akW:=Od ops.toList 0 hb;apply wp_region_any hS.mixed;have hs1:py C st a {w with drawn:=w.drawn+1}:=h.grow (Fr.drew _ w)
   have:=ap0 (an:=an) (C:=C) (aoH Γ) hS.KF (ops:=ops) (X:=λk=>uV an (X8 ops.toList []) k 0 ops.toList) (Q:=Q) (r:=r)
    (λi o ho k hk=>by have:=(akW i o (by rw[cV];exact ho)).1 k hk;simpa using this)
    (λi j oi oj hji hi hj=>by have h1:=(akW i oi (by rw[cV];exact hi)).2;rw[cO]at h1;have h2:=Oc ops.toList 0 h1 j oj (by rw[cV];exact hj) (by omega);rw[cO,dk]at h2;rcases h2 with h2|h2;exact .inl (λL hL hp=>ah0 h2 oi hi L hL hp);exact .inr h2) hq (List.range' 0 ops.size) (Array.replicate ops.size false) st a {w with drawn:=w.drawn+1} List.pairwise_lt_range'
    (λi=>by
     rw[List.mem_range'_1];constructor;rintro⟨_,hi⟩;have wV:i<ops.size:=by omega
     exact⟨wV,by simp[Array.getD,wV]⟩;rintro⟨hi,_⟩;omega) (by simp)
    (λi o _ hl=>by exfalso;simp only[Array.getD,Array.size_replicate,Array.getInternal_eq_getElem,Array.getElem_replicate]at hl;split at hl<;>cases hl) hs1 asP.symm
   rwa[List.length_range']at this
end
end Go.Dn
