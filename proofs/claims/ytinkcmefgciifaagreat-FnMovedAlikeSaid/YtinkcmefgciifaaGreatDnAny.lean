import Derived.Test.YtinkcmefgciifaaGreatDnDraw
/- A region whose order is drawn: whatever the order, the outcome is that of the text's order. -/
namespace Go.Dn
open Go.RowKit
variable {P:Program} {C:Ctx} {E:Env} {Γ:yk} {an:An}
variable {iV:Array Bool} {i:Nat} {A:ax fy}
def abn (ops:Array Oper)(L:Nat->Prop):Prop:=∀i o,ops[i]?=some o->L i->∀k∈zJ o,L k
theorem mem_ready {ops:Array Oper}(h:i∈Region.ready .any ops iV): ∃o,ops[i]?=some o/\i<ops.size/\iV.getD i true=false/\∀k∈zJ o,iV.getD k false=true:=by
 unfold Region.ready at h;rw[List.mem_filter]at h;obtain⟨hi,h⟩:=h;have gY:i<ops.size:=by simpa using hi
 simp only[ae,aK]at h;have ho:ops[i]?=some ops[i]:=Array.getElem?_eq_getElem gY;rw[ho]at h;simp only[de,fC,Array.all_eq_true]at h;refine⟨ops[i],ho,gY,h.1,λk hk=>?_⟩;simp only[zJ,List.mem_map,List.mem_filter]at hk;obtain⟨e,⟨he,hb⟩,rfl⟩:=hk;obtain⟨j,hj,hje⟩:=Array.mem_iff_getElem.1 (Array.mem_toList_iff.1 he);have:=h.2 j hj;rw[hje]at this;simpa[hb]using this
theorem adS {ops:Array Oper}{o:Oper}(ho:ops[i]?=some o)(hl:iV.getD i true=false)(hp:∀k∈zJ o,iV.getD k false=true):i∈Region.ready .any ops iV:=by have gY:i<ops.size:=(Array.getElem?_eq_some_iff.1 ho).1;unfold Region.ready;rw[List.mem_filter];refine⟨by simpa using gY,?_⟩;rw[ho,hl];simp only[cg,bq,de,fC,Array.all_eq_true];intro j hj;cases hb:Region.binds .any o.after[j]with|false=>rfl|true=>simp only[aj,cJ];refine hp _ ?_;simp only[zJ,List.mem_map,List.mem_filter];exact⟨o.after[j],⟨by simp,hb⟩,rfl⟩
theorem ahh (zd:∀f,(Γ f).io=false/\((Γ f).bx=true->(Γ f).cur=true)/\(Γ f).pr=false)(hS:Sound P E Γ){ops:Array Oper}{X:Nat->fy}{Q:Exit->Act->World->Prop}{r:AS}(gY:∀i o,ops[i]?=some o->∀k∈zJ o,k<i)(ajV:∀i j oi oj,j<i->ops[i]?=some oi->ops[j]?=some oj->(∀L:Nat->Prop,abn ops L->(∀k∈zJ oi,L k)->L j)\/J2 an ops.toList (X j) (X i) oj oi=true)(hq:∀a w,ij C r a w->Q .normal a w): ∀(rem:fy)(iV:Array Bool)(st:AS)(a:Act)(w:World),rem.Pairwise (·<·)->(∀i,i∈rem↔i<ops.size/\iV.getD i true=false)->iV.size=ops.size-> (∀i o,ops[i]?=some o->iV.getD i false=true->∀k∈zJ o,iV.getD k false=true)->ij C st a w->MT E Γ an ops.toList X rem st=some r-> wpAny P .any ops Q rem.length iV a w:=by
 intro rem;generalize hn:rem.length=n;induction n generalizing rem with
 |zero=>intro iV st a w _ Bg _ _ hs hr;have:rem=[]:=bV hn;subst this;cases hr;refine⟨?_,hq a w hs⟩;cases KT:Region.ready .any ops iV with|nil=>rfl|cons i l=>obtain⟨o,ho,hi,hl,_⟩:=mem_ready (i:=i) (by rw[KT];simp);have:=(Bg i).2 ⟨hi,hl⟩;cases this
 |succ n ih=>
  intro iV st a w hpw Bg tH hcl hs hr;have agL:∀k,k<ops.size->iV.getD k false= !(decide (k∈rem)):=by
   intro k hk;have h1:=Bg k;have CF:k<iV.size:=by omega
   simp only[Array.getD,CF,dite_true]at h1⊢;by_cases hm:k∈rem;have:=(h1.1 hm).2;simpa[hm]using this;have:¬(iV[k]=false):=λhf=>hm (h1.2 ⟨hk,hf⟩);simpa[hm]using this
  refine⟨λahK=>?_,λi hi=>?_⟩;exfalso;cases rem with
  |nil=>simp at hn
  |cons i l=>
   have hi:=(Bg i).1 (by simp);have ho:ops[i]?=some ops[i]:=Array.getElem?_eq_getElem hi.1;have:i∈Region.ready .any ops iV:=by
    refine adS ho hi.2 λk hk=>?_;have hki:=gY i _ ho k hk;rw[agL k (by omega)];have:k∉i::l:=by intro hm;rcases cn.1 hm with rfl|hm;omega;have:=(List.pairwise_cons.1 hpw).1 k hm;omega
    simp[this]
   rw[ahK]at this;cases this
  ·obtain⟨oi,ho,MA,hlf,DC⟩:=mem_ready hi;have ta:i∈rem:=(Bg i).2 ⟨MA,hlf⟩;obtain⟨pre,post,rfl⟩:=List.append_of_mem ta;have ajS:nth ops.toList i=some oi:=by rw[dK,cl];exact ho
   have ahR:=List.pairwise_append.1 hpw
   have acN:=LO (E:=E) (Γ:=Γ) (an:=an) (X:=X) zd ajS pre post st r (λj hj oj hoj=>by
    have hji:j<i:=ahR.2.2 j hj i (by simp);have aov:ops[j]?=some oj:=by rw[dK,cl]at hoj;exact hoj
    rcases ajV i j oi oj hji ho aov with an5|hap;exfalso;have hL:=an5 (λk=>iV.getD k false=true) (λk o hk T3=>hcl k o hk T3) DC;have:=(Bg j).1 (by simp[hj]);simp only[agL j this.1]at hL;simp[hj]at hL;exact hap) hr
   simp only[MT,ajS]at acN;obtain⟨st1,h1,h2⟩:=aO.1 acN;have hg:gu E Γ an ops.toList oi st some=some st1:=by unfold cz at h1;cases hf:dv E an (X i) oi st with|false=>rw[hf]at h1;cases h1|true=>rw[hf]at h1;exact h1
   have DA:i∉pre++post:=by intro hm;rcases az.1 hm with hm|hm;have:=ahR.2.2 i hm i (by simp);omega;have:=(List.pairwise_cons.1 ahR.2.1).1 i hm;omega
   have aj0:=RK (P:=P) (C:=C) (an:=an) hS (ops:=ops) hs hg (wpAny P .any ops Q n (iV.setIfInBounds i true)) Q (λbN a' w' xi he=>by
    cases he;refine ih (pre++post) (by simp at hn⊢;omega) (iV.setIfInBounds i true) st1 a' w' ?_ ?_ (by simpa using tH) ?_ xi h2;exact List.Pairwise.sublist (List.Sublist.append (List.Sublist.refl _) (List.sublist_cons_self _ _)) hpw;intro k;have hk:=Bg k;by_cases hki:k=i;subst hki;constructor;intro hm;exact absurd hm DA;rintro⟨_,hf⟩;simp[dz,show k<iV.size by omega]at hf;have CI:(iV.setIfInBounds i true).getD k true=iV.getD k true:=by simp[dz,cO hki]
    rw[CI,<-hk];simp[hki];intro k o mB hkl m hm;have CI:∀q,iV.getD q false=true->(iV.setIfInBounds i true).getD q false=true:=by
     intro q hq;simp only[dz,Array.getElem?_setIfInBounds]at hq⊢;split;·split<;>first|rfl|(rename_i h1 h2;subst h1;rw[Array.getElem?_eq_none (by omega)]at hq;exact hq)
     exact hq
    by_cases hki:k=i;subst hki;rw[ho]at mB;cases mB;exact CI m (DC m hm);refine CI m (hcl k o mB ?_ m hm);simpa[dz,Array.getElem?_setIfInBounds,cO hki]using hkl)
   unfold wpOp;rw[ho];exact aj0
theorem Wc {a b:fy}{x:Nat}(h:x∈QJ a b):x∈a\/x∈b:=by unfold QJ at h;induction a generalizing b with|nil=>exact .inr h|cons y a ih=>rw[List.foldl_cons]at h;rcases ih h with h|h;exact .inl (by simp[h]);cases hc:b.contains y with|true=>rw[hc]at h;exact .inr h|false=>rw[hc]at h;rcases cn.1 h with rfl|h;exact .inl (by simp);exact .inr h
def abu (ops:Array Oper)(i j:Nat):Prop:=∀o,ops[i]?=some o->∀L:Nat->Prop,abn ops L->(∀k∈zJ o,L k)->L j
theorem M7 {ops:Array Oper}:∀(r done:ax Oper)(acc:ax fy),ops.toList=done++r->acc.length=done.length->(∀i l,nth acc i=some l->∀j∈l,abu ops i j)->
 ∀i l,nth (QT r acc) i=some l->∀j∈l,abu ops i j
 |[],done,acc,_,_,h=>h
 |o::r,done,acc,ahP,hlen,h=>by
  refine M7 r (done++[o]) _ (by rw[ahP];simp) (by simp[hlen]) ?_;intro i l hl j hj;rw[dK]at hl;rcases cd i acc.length with gY|yZ;rw[bB gY]at hl;exact h i l (by rw[dK];exact hl) j hj;rw[bm yZ]at hl;have hi:i=acc.length:=by cases hk:i-acc.length with|zero=>omega|succ n=>rw[hk]at hl;simp at hl
  subst hi;simp only[jG,cv,bc]at hl;subst hl;have hoi:ops[acc.length]?=some o:=by rw[<-cl,ahP,hlen,bm (aS _)];simp
  have key:∀(ps:fy)(s0:fy),(∀k∈ps,k∈zJ o)->(∀x∈s0,abu ops acc.length x)->∀x∈ps.foldl (λs j=>QJ (j::(nth acc j).getD []) s) s0,abu ops acc.length x:=by
   intro ps;induction ps with
   |nil=>intro s0 _ h0;exact h0
   |cons k ps ih=>
    intro s0 hps h0;rw[List.foldl_cons];refine ih _ (λm hm=>hps m (by simp[hm])) ?_;intro x hx;rcases Wc hx with hx|hx;intro o' Js L hL hp;rw[hoi]at Js;cases Js;have hk:=hp k (hps k (by simp));rcases cn.1 hx with rfl|hx;exact hk;cases hak:nth acc k with
    |none=>rw[hak]at hx;cases hx
    |some l=>
     rw[hak]at hx;have hkl:k<acc.length:=by rw[dK]at hak;exact(aG.1 hak).1
     have mB:∃ok,ops[k]?=some ok:=by rw[<-cl,ahP,bB (by omega)];exact⟨_,aq (by omega)⟩
     obtain⟨ok,mB⟩:=mB;exact h k l hak x hx ok mB L hL (hL k ok mB hk)
    exact h0 x hx
  exact key (zJ o) [] (λ_ h=>h) (by simp) j hj
theorem aao {ops:Array Oper}{k:Nat}(h:aan (QT ops.toList []) i k=true):abu ops i k:=by unfold aan at h;cases hl:nth (QT ops.toList []) i with|none=>rw[hl]at h;simp at h|some l=>rw[hl]at h;exact M7 ops.toList [] [] rfl rfl (λi l hl=>by simp[nth]at hl) i l hl k (by simpa using h)
theorem IP {ops:ax Oper}{oi:Oper}:∀(l:ax Oper)(j:Nat),Lt an ops A i oi j l=true->∀k ok,l[k]?=some ok->j+k<i->(aan A i (j+k)||J2 an ops (rF an A (j+k) 0 ops) (rF an A i 0 ops) ok oi)=true
 |[],j,_,k,ok,hk,_=>by simp at hk
 |oj::l,j,h,k,ok,hk,gY=>by
  simp only[Lt]at h;have hb:Nat.ble i j=false:=by cases hb:Nat.ble i j with|false=>rfl|true=>have:=Nat.le_of_ble_eq_true hb;omega
  rw[hb]at h;simp only[af,ae]at h;cases k with|zero=>simp at hk;subst hk;exact h.1|succ k=>have:=IP l (j+1) h.2 k ok (by simpa using hk) (by omega);rwa[show j+1+k=j+(k+1) by omega]at this
theorem IQ {ops:ax Oper}:∀(l:ax Oper)(i:Nat),P9 an ops A i l=true->∀k ok,l[k]?=some ok->(∀m∈zJ ok,m<i+k)/\Lt an ops A (i+k) ok 0 ops=true
 |[],i,_,k,ok,hk=>by simp at hk
 |o::l,i,h,k,ok,hk=>by simp only[P9,ae,aF]at h;cases k with|zero=>simp at hk;subst hk;exact⟨λm hm=>Nat.le_of_ble_eq_true (h.1.1 m hm),h.1.2⟩|succ k=>have:=IQ l (i+1) h.2 k ok (by simpa using hk);rwa[show i+1+k=i+(k+1) by omega]at this
section
variable {R:Type} {r:R} {st:AS} {a:Act} {w:World}
theorem Ko (ops:ax Oper)(A:ax fy):∀(l:ax Oper)(i:Nat)(st:AS)(K:AS->ay R),D5 E Γ an ops A i l st K=(D5 E Γ an ops A i l st some).bind K
 |[],i,st,K=>rfl
 |o::l,i,st,K=>by simp only[D5];cases dv E an (rF an A i 0 ops) o st with|false=>rfl|true=>simp only[ah];rw[ql,ql (K:=λbN=>D5 E Γ an ops A (i+1) l bN some),Option.bind_assoc];congr 1;funext bN;exact Ko ops A l (i+1) bN K
theorem Nh (ops:ax Oper)(A:ax fy):∀(n i:Nat)(st:AS),i+n=ops.length->D5 E Γ an ops A i (ops.drop i) st some=MT E Γ an ops (λk=>rF an A k 0 ops) (List.range' i n) st
 |0,i,st,hi=>by rw[cC (by omega)];rfl
 |n+1,i,st,hi=>by
  have MA:i<ops.length:=by omega
  rw[bO MA,List.range'_succ];have ho:nth ops i=some ops[i]:=by rw[dK];exact aq MA
  simp only[D5,MT,ho,cz];cases dv E an (rF an A i 0 ops) ops[i] st with|false=>rfl|true=>simp only[ah];rw[ql];congr 1;funext bN;exact Nh ops A n (i+1) bN (by omega)
theorem Kw (ops:ax Oper)(d:Bool)(K:AS->ay R):Cr E Γ an ops d st K=(Cr E Γ an ops d st some).bind K:=by unfold Cr;cases d with|false=>exact N7 ops ops st K|true=>simp only[ah];cases Re an ops with|false=>rfl|true=>exact Ko ops _ ops 0 st K
theorem N1 (zd:∀f,(Γ f).io=false/\(Γ f).bx=false/\(Γ f).pr=false){ops:ax Oper}{A:ax fy}(hq:∀o∈ops,gz an (EJ ops) o=true):∀(l:ax Oper)(i:Nat)(st bN:AS),(∀o∈l,o∈ops)->D5 E Γ an ops A i l st some=some bN->iS (EJ ops) st bN
 |[],i,st,bN,_,h=>by cases h;exact iS.refl _ _
 |o::l,i,st,bN,hl,h=>by simp only[D5]at h;cases hf:dv E an (rF an A i 0 ops) o st with|false=>rw[hf]at h;cases h|true=>rw[hf]at h;simp only[ah]at h;rw[ql]at h;cases hg:gu E Γ an ops o st some with|none=>rw[hg]at h;cases h|some st1=>rw[hg]at h;exact(Lm zd (hl o (by simp)) (hq o (hl o (by simp))) hg).trans (N1 zd hq l (i+1) st1 bN (λo' Js=>hl o' (by simp[Js])) h)
theorem aaf (zd:∀f,(Γ f).io=false/\(Γ f).bx=false/\(Γ f).pr=false){ops:ax Oper}{d:Bool}(hq:∀o∈ops,gz an (EJ ops) o=true){bN:AS}(h:Cr E Γ an ops d st some=some bN):iS (EJ ops) st bN:=by unfold Cr at h;cases d with|false=>exact SQ zd hq ops st bN (λ_ h=>h) h|true=>simp only[ah]at h;cases hb:Re an ops with|false=>rw[hb]at h;cases h|true=>rw[hb]at h;exact N1 (agi zd) hq ops 0 st bN (λ_ h=>h) h
theorem XD (hS:Sound P E Γ){id:Nat}{ops:Array Oper}{d:Bool}(h:ij C st a w){r:AS}(hk:Cr E Γ an ops.toList d st some=some r){Q:Exit->Act->World->Prop}(hq:∀a' w',ij C r a' w'->Q .normal a' w'):(Code.region id ops d).wp P Q a w:=by
 unfold Cr at hk;cases d with
 |false=>apply wp_region;rw[List.range_eq_range'];exact adF hS (K:=some) (r:=r) (λbN a' w' hs he=>by cases he;exact hq _ _ hs) ops.size 0 st a w (by omega) h (by simpa using hk)
 |true=>
  simp only[ah]at hk;cases hb:Re an ops.toList with
  |false=>rw[hb]at hk;cases hk
  |true=>
   rw[hb]at hk;simp only[ah]at hk;have ajY:=Nh (E:=E) (Γ:=Γ.Fb) (an:=an) ops.toList (QT ops.toList []) ops.size 0 st (by simp);rw[eZ,hk]at ajY;unfold Re at hb;have acS:=IQ ops.toList 0 hb;apply wp_region_any hS.mixed;have hs1:ij C st a {w with drawn:=w.drawn+1}:=h.grow (Fr.drew _ w)
   have:=ahh (an:=an) (C:=C) (agh Γ) hS.Fb (ops:=ops) (X:=λk=>rF an (QT ops.toList []) k 0 ops.toList) (Q:=Q) (r:=r)
    (λi o ho k hk=>by have:=(acS i o (by rw[cl];exact ho)).1 k hk;simpa using this)
    (λi j oi oj hji hi hj=>by have h1:=(acS i oi (by rw[cl];exact hi)).2;rw[cr]at h1;have h2:=IP ops.toList 0 h1 j oj (by rw[cl];exact hj) (by omega);rw[cr,cE]at h2;rcases h2 with h2|h2;exact .inl (λL hL hp=>aao h2 oi hi L hL hp);exact .inr h2) hq (List.range' 0 ops.size) (Array.replicate ops.size false) st a {w with drawn:=w.drawn+1} List.pairwise_lt_range'
    (λi=>by
     rw[List.mem_range'_1];constructor;rintro⟨_,hi⟩;have nN:i<ops.size:=by omega
     exact⟨nN,by simp[Array.getD,nN]⟩;rintro⟨hi,_⟩;omega) (by simp)
    (λi o _ hl=>by exfalso;simp only[Array.getD,Array.size_replicate,Array.getInternal_eq_getElem,Array.getElem_replicate]at hl;split at hl<;>cases hl) hs1 ajY.symm
   rwa[List.length_range']at this
end
end Go.Dn
