import Derived.Test.YtnmppgnbjfdffaaGreatDnDraw
/- A region whose order is drawn: whatever the order, the outcome is that of the text's order. -/
namespace Go.Dn
open Go.RowKit
variable {P:Program} {C:Ctx} {E:Env} {Γ:zP} {an:An}
variable {jK:Array Bool} {i:Nat} {A:ay fR}
def acU (ops:Array Oper)(L:Nat->Prop):Prop:=∀i o,ops[i]?=some o->L i->∀k∈Bj o,L k
theorem mem_ready {ops:Array Oper}(h:i∈Region.ready .any ops jK): ∃o,ops[i]?=some o/\i<ops.size/\jK.getD i true=false/\∀k∈Bj o,jK.getD k false=true:=by
 unfold Region.ready at h;rw[List.mem_filter]at h;obtain⟨hi,h⟩:=h;have ir:i<ops.size:=by simpa using hi
 simp only[ab,aN]at h;have ho:ops[i]?=some ops[i]:=Array.getElem?_eq_getElem ir;rw[ho]at h;simp only[dJ,gy,Array.all_eq_true]at h;refine⟨ops[i],ho,ir,h.1,λk hk=>?_⟩;simp only[Bj,dp,List.mem_filter]at hk;obtain⟨e,⟨he,hb⟩,rfl⟩:=hk;obtain⟨j,hj,hje⟩:=Array.mem_iff_getElem.1 (Array.mem_toList_iff.1 he);have:=h.2 j hj;rw[hje]at this;simpa[hb]using this
theorem afl {ops:Array Oper}{o:Oper}(ho:ops[i]?=some o)(hl:jK.getD i true=false)(hp:∀k∈Bj o,jK.getD k false=true):i∈Region.ready .any ops jK:=by have ir:i<ops.size:=(Array.getElem?_eq_some_iff.1 ho).1;unfold Region.ready;rw[List.mem_filter];refine⟨by simpa using ir,?_⟩;rw[ho,hl];simp only[bQ,bF,dJ,gy,Array.all_eq_true];intro j hj;cases hb:Region.binds .any o.after[j]with|false=>rfl|true=>simp only[ak,cd];refine hp _ ?_;simp only[Bj,dp,List.mem_filter];exact⟨o.after[j],⟨by simp,hb⟩,rfl⟩
theorem aiX (AD:∀f,(Γ f).io=false/\((Γ f).bx=true->(Γ f).cur=true)/\(Γ f).pr=false)(hS:Sound P E Γ){ops:Array Oper}{X:Nat->fR}{Q:Exit->Act->World->Prop}{r:AS}(ir:∀i o,ops[i]?=some o->∀k∈Bj o,k<i)(aln:∀i j oi oj,j<i->ops[i]?=some oi->ops[j]?=some oj->(∀L:Nat->Prop,acU ops L->(∀k∈Bj oi,L k)->L j)\/LA an ops.toList (X j) (X i) oj oi=true)(hq:∀a w,oE C r a w->Q .normal a w): ∀(rem:fR)(jK:Array Bool)(st:AS)(a:Act)(w:World),rem.Pairwise (·<·)->(∀i,i∈rem↔i<ops.size/\jK.getD i true=false)->jK.size=ops.size-> (∀i o,ops[i]?=some o->jK.getD i false=true->∀k∈Bj o,jK.getD k false=true)->oE C st a w->OQ E Γ an ops.toList X rem st=some r-> wpAny P .any ops Q rem.length jK a w:=by
 intro rem;generalize hn:rem.length=n;induction n generalizing rem with
 |zero=>intro jK st a w _ AF _ _ hs hr;have:rem=[]:=bZ hn;subst this;cases hr;refine⟨?_,hq a w hs⟩;cases MA:Region.ready .any ops jK with|nil=>rfl|cons i l=>obtain⟨o,ho,hi,hl,_⟩:=mem_ready (i:=i) (by rw[MA];simp);have:=(AF i).2 ⟨hi,hl⟩;cases this
 |succ n ih=>
  intro jK st a w hpw AF uL hcl hs hr;have aiq:∀k,k<ops.size->jK.getD k false= !(decide (k∈rem)):=by
   intro k hk;have h1:=AF k;have Ee:k<jK.size:=by omega
   simp only[Array.getD,Ee,dite_true]at h1⊢;by_cases hm:k∈rem;have:=(h1.1 hm).2;simpa[hm]using this;have:¬(jK[k]=false):=λhf=>hm (h1.2 ⟨hk,hf⟩);simpa[hm]using this
  refine⟨λajn=>?_,λi hi=>?_⟩;exfalso;cases rem with
  |nil=>simp at hn
  |cons i l=>
   have hi:=(AF i).1 (by simp);have ho:ops[i]?=some ops[i]:=Array.getElem?_eq_getElem hi.1;have:i∈Region.ready .any ops jK:=by
    refine afl ho hi.2 λk hk=>?_;have hki:=ir i _ ho k hk;rw[aiq k (by omega)];have:k∉i::l:=by intro hm;rcases cw.1 hm with rfl|hm;omega;have:=(List.pairwise_cons.1 hpw).1 k hm;omega
    simp[this]
   rw[ajn]at this;cases this
  ·obtain⟨oi,ho,Oq,hlf,DE⟩:=mem_ready hi;have uN:i∈rem:=(AF i).2 ⟨Oq,hlf⟩;obtain⟨pre,post,rfl⟩:=List.append_of_mem uN;have alj:nth ops.toList i=some oi:=by rw[eH,cG];exact ho
   have aju:=List.pairwise_append.1 hpw
   have aee:=ND (E:=E) (Γ:=Γ) (an:=an) (X:=X) AD alj pre post st r (λj hj oj hoj=>by
    have hji:j<i:=aju.2.2 j hj i (by simp);have apG:ops[j]?=some oj:=by rw[eH,cG]at hoj;exact hoj
    rcases aln i j oi oj hji ho apG with apg|hap;exfalso;have hL:=apg (λk=>jK.getD k false=true) (λk o hk VX=>hcl k o hk VX) DE;have:=(AF j).1 (by simp[hj]);simp only[aiq j this.1]at hL;simp[hj]at hL;exact hap) hr
   simp only[OQ,alj]at aee;obtain⟨st1,h1,h2⟩:=aW.1 aee;have hg:iq E Γ an ops.toList oi st some=some st1:=by unfold cU at h1;cases hf:dP E an (X i) oi st with|false=>rw[hf]at h1;cases h1|true=>rw[hf]at h1;exact h1
   have Fc:i∉pre++post:=by intro hm;rcases ax.1 hm with hm|hm;have:=aju.2.2 i hm i (by simp);omega;have:=(List.pairwise_cons.1 aju.2.1).1 i hm;omega
   have alr:=TO (P:=P) (C:=C) (an:=an) hS (ops:=ops) hs hg (wpAny P .any ops Q n (jK.setIfInBounds i true)) Q (λbX a' w' yj he=>by
    cases he;refine ih (pre++post) (by simp at hn⊢;omega) (jK.setIfInBounds i true) st1 a' w' ?_ ?_ (by simpa using uL) ?_ yj h2;exact List.Pairwise.sublist (List.Sublist.append (List.Sublist.refl _) (List.sublist_cons_self _ _)) hpw;intro k;have hk:=AF k;by_cases hki:k=i;subst hki;constructor;intro hm;exact absurd hm Fc;rintro⟨_,hf⟩;simp[dQ,show k<jK.size by omega]at hf;have Eh:(jK.setIfInBounds i true).getD k true=jK.getD k true:=by simp[dQ,cr hki]
    rw[Eh,<-hk];simp[hki];intro k o oC Zz m hm;have Eh:∀q,jK.getD q false=true->(jK.setIfInBounds i true).getD q false=true:=by
     intro q hq;simp only[dQ,Array.getElem?_setIfInBounds]at hq⊢;split;·split<;>first|rfl|(rename_i h1 h2;subst h1;rw[Array.getElem?_eq_none (by omega)]at hq;exact hq)
     exact hq
    by_cases hki:k=i;subst hki;rw[ho]at oC;cases oC;exact Eh m (DE m hm);refine Eh m (hcl k o oC ?_ m hm);simpa[dQ,Array.getElem?_setIfInBounds,cr hki]using Zz)
   unfold wpOp;rw[ho];exact alr
theorem XY {a b:fR}{x:Nat}(h:x∈SJ a b):x∈a\/x∈b:=by unfold SJ at h;induction a generalizing b with|nil=>exact .inr h|cons y a ih=>rw[List.foldl_cons]at h;rcases ih h with h|h;exact .inl (by simp[h]);cases hc:b.contains y with|true=>rw[hc]at h;exact .inr h|false=>rw[hc]at h;rcases cw.1 h with rfl|h;exact .inl (by simp);exact .inr h
def ac1 (ops:Array Oper)(i j:Nat):Prop:=∀o,ops[i]?=some o->∀L:Nat->Prop,acU ops L->(∀k∈Bj o,L k)->L j
theorem O6 {ops:Array Oper}:∀(r done:ay Oper)(acc:ay fR),ops.toList=done++r->acc.length=done.length->(∀i l,nth acc i=some l->∀j∈l,ac1 ops i j)->
 ∀i l,nth (S0 r acc) i=some l->∀j∈l,ac1 ops i j
 |[],done,acc,_,_,h=>h
 |o::r,done,acc,ajs,hlen,h=>by
  refine O6 r (done++[o]) _ (by rw[ajs];simp) (by simp[hlen]) ?_;intro i l hl j hj;rw[eH]at hl;rcases bW i acc.length with ir|zH;rw[bp ir]at hl;exact h i l (by rw[eH];exact hl) j hj;rw[bz zH]at hl;have hi:i=acc.length:=by cases hk:i-acc.length with|zero=>omega|succ n=>rw[hk]at hl;simp at hl
  subst hi;simp only[mi,cM,bu]at hl;subst hl;have hoi:ops[acc.length]?=some o:=by rw[<-cG,ajs,hlen,bz (aV _)];simp
  have key:∀(ps:fR)(s0:fR),(∀k∈ps,k∈Bj o)->(∀x∈s0,ac1 ops acc.length x)->∀x∈ps.foldl (λs j=>SJ (j::(nth acc j).getD []) s) s0,ac1 ops acc.length x:=by
   intro ps;induction ps with
   |nil=>intro s0 _ h0;exact h0
   |cons k ps ih=>
    intro s0 hps h0;rw[List.foldl_cons];refine ih _ (λm hm=>hps m (by simp[hm])) ?_;intro x hx;rcases XY hx with hx|hx;intro o' KS L hL hp;rw[hoi]at KS;cases KS;have hk:=hp k (hps k (by simp));rcases cw.1 hx with rfl|hx;exact hk;cases hak:nth acc k with
    |none=>rw[hak]at hx;cases hx
    |some l=>
     rw[hak]at hx;have Zz:k<acc.length:=by rw[eH]at hak;exact(aB.1 hak).1
     have oC:∃ok,ops[k]?=some ok:=by rw[<-cG,ajs,bp (by omega)];exact⟨_,aw (by omega)⟩
     obtain⟨ok,oC⟩:=oC;exact h k l hak x hx ok oC L hL (hL k ok oC hk)
    exact h0 x hx
  exact key (Bj o) [] (λ_ h=>h) (by simp) j hj
theorem abX {ops:Array Oper}{k:Nat}(h:abW (S0 ops.toList []) i k=true):ac1 ops i k:=by unfold abW at h;cases hl:nth (S0 ops.toList []) i with|none=>rw[hl]at h;simp at h|some l=>rw[hl]at h;exact O6 ops.toList [] [] rfl rfl (λi l hl=>by simp[nth]at hl) i l hl k (by simpa using h)
theorem Kj {ops:ay Oper}{oi:Oper}:∀(l:ay Oper)(j:Nat),Nc an ops A i oi j l=true->∀k ok,l[k]?=some ok->j+k<i->(abW A i (j+k)||LA an ops (sI an A (j+k) 0 ops) (sI an A i 0 ops) ok oi)=true
 |[],j,_,k,ok,hk,_=>by simp at hk
 |oj::l,j,h,k,ok,hk,ir=>by
  simp only[Nc]at h;have hb:Nat.ble i j=false:=by cases hb:Nat.ble i j with|false=>rfl|true=>have:=Nat.le_of_ble_eq_true hb;omega
  rw[hb]at h;simp only[af,ab]at h;cases k with|zero=>simp at hk;subst hk;exact h.1|succ k=>have:=Kj l (j+1) h.2 k ok (by simpa using hk) (by omega);rwa[show j+1+k=j+(k+1) by omega]at this
theorem Kk {ops:ay Oper}:∀(l:ay Oper)(i:Nat),Sc an ops A i l=true->∀k ok,l[k]?=some ok->(∀m∈Bj ok,m<i+k)/\Nc an ops A (i+k) ok 0 ops=true
 |[],i,_,k,ok,hk=>by simp at hk
 |o::l,i,h,k,ok,hk=>by simp only[Sc,ab,aL]at h;cases k with|zero=>simp at hk;subst hk;exact⟨λm hm=>Nat.le_of_ble_eq_true (h.1.1 m hm),h.1.2⟩|succ k=>have:=Kk l (i+1) h.2 k ok (by simpa using hk);rwa[show i+1+k=i+(k+1) by omega]at this
section
variable {R:Type} {r:R} {st:AS} {a:Act} {w:World}
theorem L1 (ops:ay Oper)(A:ay fR):∀(l:ay Oper)(i:Nat)(st:AS)(K:AS->aC R),FG E Γ an ops A i l st K=(FG E Γ an ops A i l st some).bind K
 |[],i,st,K=>rfl
 |o::l,i,st,K=>by simp only[FG];cases dP E an (sI an A i 0 ops) o st with|false=>rfl|true=>simp only[ah];rw[qR,qR (K:=λbX=>FG E Γ an ops A (i+1) l bX some),Option.bind_assoc];congr 1;funext bX;exact L1 ops A l (i+1) bX K
theorem Pg (ops:ay Oper)(A:ay fR):∀(n i:Nat)(st:AS),i+n=ops.length->FG E Γ an ops A i (ops.drop i) st some=OQ E Γ an ops (λk=>sI an A k 0 ops) (List.range' i n) st
 |0,i,st,hi=>by rw[cB (by omega)];rfl
 |n+1,i,st,hi=>by
  have Oq:i<ops.length:=by omega
  rw[ca Oq,List.range'_succ];have ho:nth ops i=some ops[i]:=by rw[eH];exact aw Oq
  simp only[FG,OQ,ho,cU];cases dP E an (sI an A i 0 ops) ops[i] st with|false=>rfl|true=>simp only[ah];rw[qR];congr 1;funext bX;exact Pg ops A n (i+1) bX (by omega)
theorem L7 (ops:ay Oper)(d:Bool)(K:AS->aC R):DX E Γ an ops d st K=(DX E Γ an ops d st some).bind K:=by unfold DX;cases d with|false=>exact Qb ops ops st K|true=>simp only[ah];cases Tn an ops with|false=>rfl|true=>exact L1 ops _ ops 0 st K
theorem P7 (AD:∀f,(Γ f).io=false/\(Γ f).bx=false/\(Γ f).pr=false){ops:ay Oper}{A:ay fR}(hq:∀o∈ops,iw an (Ge ops) o=true):∀(l:ay Oper)(i:Nat)(st bX:AS),(∀o∈l,o∈ops)->FG E Γ an ops A i l st some=some bX->jI (Ge ops) st bX
 |[],i,st,bX,_,h=>by cases h;exact jI.refl _ _
 |o::l,i,st,bX,hl,h=>by simp only[FG]at h;cases hf:dP E an (sI an A i 0 ops) o st with|false=>rw[hf]at h;cases h|true=>rw[hf]at h;simp only[ah]at h;rw[qR]at h;cases hg:iq E Γ an ops o st some with|none=>rw[hg]at h;cases h|some st1=>rw[hg]at h;exact(M6 AD (hl o (by simp)) (hq o (hl o (by simp))) hg).trans (P7 AD hq l (i+1) st1 bX (λo' KS=>hl o' (by simp[KS])) h)
theorem abL (AD:∀f,(Γ f).io=false/\(Γ f).bx=false/\(Γ f).pr=false){ops:ay Oper}{d:Bool}(hq:∀o∈ops,iw an (Ge ops) o=true){bX:AS}(h:DX E Γ an ops d st some=some bX):jI (Ge ops) st bX:=by unfold DX at h;cases d with|false=>exact UR AD hq ops st bX (λ_ h=>h) h|true=>simp only[ah]at h;cases hb:Tn an ops with|false=>rw[hb]at h;cases h|true=>rw[hb]at h;exact P7 (ahP AD) hq ops 0 st bX (λ_ h=>h) h
theorem Zo (hS:Sound P E Γ){id:Nat}{ops:Array Oper}{d:Bool}(h:oE C st a w){r:AS}(hk:DX E Γ an ops.toList d st some=some r){Q:Exit->Act->World->Prop}(hq:∀a' w',oE C r a' w'->Q .normal a' w'):(Code.region id ops d).wp P Q a w:=by
 unfold DX at hk;cases d with
 |false=>apply wp_region;rw[List.range_eq_range'];exact ae5 hS (K:=some) (r:=r) (λbX a' w' hs he=>by cases he;exact hq _ _ hs) ops.size 0 st a w (by omega) h (by simpa using hk)
 |true=>
  simp only[ah]at hk;cases hb:Tn an ops.toList with
  |false=>rw[hb]at hk;cases hk
  |true=>
   rw[hb]at hk;simp only[ah]at hk;have agN:=Pg (E:=E) (Γ:=Γ.GH) (an:=an) ops.toList (S0 ops.toList []) ops.size 0 st (by simp);rw[eP,hk]at agN;unfold Tn at hb;have aek:=Kk ops.toList 0 hb;apply wp_region_any hS.mixed;have hs1:oE C st a {w with drawn:=w.drawn+1}:=h.grow (Fr.drew _ w)
   have:=aiX (an:=an) (C:=C) (ahO Γ) hS.GH (ops:=ops) (X:=λk=>sI an (S0 ops.toList []) k 0 ops.toList) (Q:=Q) (r:=r)
    (λi o ho k hk=>by have:=(aek i o (by rw[cG];exact ho)).1 k hk;simpa using this)
    (λi j oi oj hji hi hj=>by have h1:=(aek i oi (by rw[cG];exact hi)).2;rw[cK]at h1;have h2:=Kj ops.toList 0 h1 j oj (by rw[cG];exact hj) (by omega);rw[cK,cH]at h2;rcases h2 with h2|h2;exact .inl (λL hL hp=>abX h2 oi hi L hL hp);exact .inr h2) hq (List.range' 0 ops.size) (Array.replicate ops.size false) st a {w with drawn:=w.drawn+1} List.pairwise_lt_range'
    (λi=>by
     rw[List.mem_range'_1];constructor;rintro⟨_,hi⟩;have wk:i<ops.size:=by omega
     exact⟨wk,by simp[Array.getD,wk]⟩;rintro⟨hi,_⟩;omega) (by simp)
    (λi o _ hl=>by exfalso;simp only[Array.getD,Array.size_replicate,Array.getInternal_eq_getElem,Array.getElem_replicate]at hl;split at hl<;>cases hl) hs1 agN.symm
   rwa[List.length_range']at this
end
end Go.Dn
