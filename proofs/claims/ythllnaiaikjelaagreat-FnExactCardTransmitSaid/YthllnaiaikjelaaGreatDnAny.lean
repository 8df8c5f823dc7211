import Derived.Test.YthllnaiaikjelaaGreatDnDraw
/- A region whose order is drawn: whatever the order, the outcome is that of the text's order. -/
namespace Go.Dn
open Go.RowKit
variable {P:Program} {C:Ctx} {E:Env} {Γ:xf} {an:An}
variable {iJ:Array Bool} {A:aq dy}
def acq (ops:Array Oper)(L:Nat->Prop):Prop:=∀i o,ops[i]?=some o->L i->∀k∈CI o,L k
theorem mem_ready {ops:Array Oper}{i:Nat}(h:i∈Region.ready .any ops iJ): ∃o,ops[i]?=some o/\i<ops.size/\iJ.getD i true=false/\∀k∈CI o,iJ.getD k false=true:=by
 unfold Region.ready at h;rw[List.mem_filter]at h;obtain⟨hi,h⟩:=h;have gM:i<ops.size:=by simpa using hi
 simp only[ah,aQ]at h;have ho:ops[i]?=some ops[i]:=Array.getElem?_eq_getElem gM;rw[ho]at h;simp only[db,fb,Array.all_eq_true]at h;refine⟨ops[i],ho,gM,h.1,λk hk=>?_⟩;simp only[CI,List.mem_map,List.mem_filter]at hk;obtain⟨e,⟨he,hb⟩,rfl⟩:=hk;obtain⟨j,hj,hje⟩:=Array.mem_iff_getElem.1 (Array.mem_toList_iff.1 he);have:=h.2 j hj;rw[hje]at this;simpa[hb]using this
theorem aex {ops:Array Oper}{i:Nat}{o:Oper}(ho:ops[i]?=some o)(hl:iJ.getD i true=false)(hp:∀k∈CI o,iJ.getD k false=true):i∈Region.ready .any ops iJ:=by have gM:i<ops.size:=(Array.getElem?_eq_some_iff.1 ho).1;unfold Region.ready;rw[List.mem_filter];refine⟨by simpa using gM,?_⟩;rw[ho,hl];simp only[cL,bp,db,fb,Array.all_eq_true];intro j hj;cases hb:Region.binds .any o.after[j]with|false=>rfl|true=>simp only[aj,cR];refine hp _ ?_;simp only[CI,List.mem_map,List.mem_filter];exact⟨o.after[j],⟨by simp,hb⟩,rfl⟩
theorem agT (zr:∀f,(Γ f).io=false/\((Γ f).bx=true->(Γ f).cur=true)/\(Γ f).pr=false)(hS:Sound P E Γ){ops:Array Oper}{X:Nat->dy}{Q:Exit->Act->World->Prop}{r:AS}(gM:∀i o,ops[i]?=some o->∀k∈CI o,k<i)(ait:∀i j oi oj,j<i->ops[i]?=some oi->ops[j]?=some oj->(∀L:Nat->Prop,acq ops L->(∀k∈CI oi,L k)->L j)\/Nm an ops.toList (X j) (X i) oj oi=true)(hq:∀a w,mM C r a w->Q .normal a w): ∀(rem:dy)(iJ:Array Bool)(st:AS)(a:Act)(w:World),rem.Pairwise (·<·)->(∀i,i∈rem↔i<ops.size/\iJ.getD i true=false)->iJ.size=ops.size-> (∀i o,ops[i]?=some o->iJ.getD i false=true->∀k∈CI o,iJ.getD k false=true)->mM C st a w->Qi E Γ an ops.toList X rem st=some r-> wpAny P .any ops Q rem.length iJ a w:=by
 intro rem;generalize hn:rem.length=n;induction n generalizing rem with
 |zero=>intro iJ st a w _ Ek _ _ hs hr;have:rem=[]:=cw hn;subst this;cases hr;refine⟨?_,hq a w hs⟩;cases JL:Region.ready .any ops iJ with|nil=>rfl|cons i l=>obtain⟨o,ho,hi,hl,_⟩:=mem_ready (i:=i) (by rw[JL];simp);have:=(Ek i).2 ⟨hi,hl⟩;cases this
 |succ n ih=>
  intro iJ st a w hpw Ek sD hcl hs hr;have agI:∀k,k<ops.size->iJ.getD k false= !(decide (k∈rem)):=by
   intro k hk;have h1:=Ek k;have Gk:k<iJ.size:=by omega
   simp only[Array.getD,Gk,dite_true]at h1⊢;by_cases hm:k∈rem;have:=(h1.1 hm).2;simpa[hm]using this;have:¬(iJ[k]=false):=λhf=>hm (h1.2 ⟨hk,hf⟩);simpa[hm]using this
  refine⟨λSC=>?_,λi hi=>?_⟩;exfalso;cases rem with
  |nil=>simp at hn
  |cons i l=>
   have hi:=(Ek i).1 (by simp);have ho:ops[i]?=some ops[i]:=Array.getElem?_eq_getElem hi.1;have:i∈Region.ready .any ops iJ:=by
    refine aex ho hi.2 λk hk=>?_;have hki:=gM i _ ho k hk;rw[agI k (by omega)];have:k∉i::l:=by intro hm;rcases bU.1 hm with rfl|hm;omega;have:=(List.pairwise_cons.1 hpw).1 k hm;omega
    simp[this]
   rw[SC]at this;cases this
  ·obtain⟨oi,ho,N6,hlf,Hk⟩:=mem_ready hi;have uQ:i∈rem:=(Ek i).2 ⟨N6,hlf⟩;obtain⟨pre,post,rfl⟩:=List.append_of_mem uQ;have aiq:nth ops.toList i=some oi:=by rw[dv,bK];exact ho
   have ahu:=List.pairwise_append.1 hpw
   have adj:=O5 (E:=E) (Γ:=Γ) (an:=an) (X:=X) zr aiq pre post st r (λj hj oj hoj=>by
    have hji:j<i:=ahu.2.2 j hj i (by simp);have apM:ops[j]?=some oj:=by rw[dv,bK]at hoj;exact hoj
    rcases ait i j oi oj hji ho apM with apk|hap;exfalso;have hL:=apk (λk=>iJ.getD k false=true) (λk o hk WG=>hcl k o hk WG) Hk;have:=(Ek j).1 (by simp[hj]);simp only[agI j this.1]at hL;simp[hj]at hL;exact hap) hr
   simp only[Qi,aiq]at adj;obtain⟨st1,h1,h2⟩:=aI.1 adj;have hg:gh E Γ an ops.toList oi st some=some st1:=by unfold cz at h1;cases hf:dj E an (X i) oi st with|false=>rw[hf]at h1;cases h1|true=>rw[hf]at h1;exact h1
   have El:i∉pre++post:=by intro hm;rcases ay.1 hm with hm|hm;have:=ahu.2.2 i hm i (by simp);omega;have:=(List.pairwise_cons.1 ahu.2.1).1 i hm;omega
   have aix:=UC (P:=P) (C:=C) (an:=an) hS (ops:=ops) hs hg (wpAny P .any ops Q n (iJ.setIfInBounds i true)) Q (λst' a' w' tB he=>by
    cases he;refine ih (pre++post) (by simp at hn⊢;omega) (iJ.setIfInBounds i true) st1 a' w' ?_ ?_ (by simpa using sD) ?_ tB h2;exact List.Pairwise.sublist (List.Sublist.append (List.Sublist.refl _) (List.sublist_cons_self _ _)) hpw;intro k;have hk:=Ek k;by_cases hki:k=i;subst hki;constructor;intro hm;exact absurd hm El;rintro⟨_,hf⟩;simp[cE,show k<iJ.size by omega]at hf;have Dt:(iJ.setIfInBounds i true).getD k true=iJ.getD k true:=by simp[cE,cC hki]
    rw[Dt,<-hk];simp[hki];intro k o jQ hkl m hm;have Dt:∀q,iJ.getD q false=true->(iJ.setIfInBounds i true).getD q false=true:=by
     intro q hq;simp only[cE,Array.getElem?_setIfInBounds]at hq⊢;split;·split<;>first|rfl|(rename_i h1 h2;subst h1;rw[Array.getElem?_eq_none (by omega)]at hq;exact hq)
     exact hq
    by_cases hki:k=i;subst hki;rw[ho]at jQ;cases jQ;exact Dt m (Hk m hm);refine Dt m (hcl k o jQ ?_ m hm);simpa[cE,Array.getElem?_setIfInBounds,cC hki]using hkl)
   unfold wpOp;rw[ho];exact aix
theorem X8 {a b:dy}{x:Nat}(h:x∈TG a b):x∈a\/x∈b:=by unfold TG at h;induction a generalizing b with|nil=>exact .inr h|cons y a ih=>rw[List.foldl_cons]at h;rcases ih h with h|h;exact .inl (by simp[h]);cases hc:b.contains y with|true=>rw[hc]at h;exact .inr h|false=>rw[hc]at h;rcases bU.1 h with rfl|h;exact .inl (by simp);exact .inr h
def acu (ops:Array Oper)(i j:Nat):Prop:=∀o,ops[i]?=some o->∀L:Nat->Prop,acq ops L->(∀k∈CI o,L k)->L j
theorem Qv {ops:Array Oper}:∀(r done:aq Oper)(acc:aq dy),ops.toList=done++r->acc.length=done.length->(∀i l,nth acc i=some l->∀j∈l,acu ops i j)->
 ∀i l,nth (TV r acc) i=some l->∀j∈l,acu ops i j
 |[],done,acc,_,_,h=>h
 |o::r,done,acc,ahs,hlen,h=>by
  refine Qv r (done++[o]) _ (by rw[ahs];simp) (by simp[hlen]) ?_;intro i l hl j hj;rw[dv]at hl;rcases bH i acc.length with gM|Ad;rw[bu gM]at hl;exact h i l (by rw[dv];exact hl) j hj;rw[bq Ad]at hl;have hi:i=acc.length:=by cases hk:i-acc.length with|zero=>omega|succ n=>rw[hk]at hl;simp at hl
  subst hi;simp only[jw,cm,aZ]at hl;subst hl;have hoi:ops[acc.length]?=some o:=by rw[<-bK,ahs,hlen,bq (bc _)];simp
  have key:∀(ps:dy)(s0:dy),(∀k∈ps,k∈CI o)->(∀x∈s0,acu ops acc.length x)->∀x∈ps.foldl (λs j=>TG (j::(nth acc j).getD []) s) s0,acu ops acc.length x:=by
   intro ps;induction ps with
   |nil=>intro s0 _ h0;exact h0
   |cons k ps ih=>
    intro s0 hps h0;rw[List.foldl_cons];refine ih _ (λm hm=>hps m (by simp[hm])) ?_;intro x hx;rcases X8 hx with hx|hx;intro o' MB L hL hp;rw[hoi]at MB;cases MB;have hk:=hp k (hps k (by simp));rcases bU.1 hx with rfl|hx;exact hk;cases hak:nth acc k with
    |none=>rw[hak]at hx;cases hx
    |some l=>
     rw[hak]at hx;have hkl:k<acc.length:=by rw[dv]at hak;exact(aD.1 hak).1
     have jQ:∃ok,ops[k]?=some ok:=by rw[<-bK,ahs,bu (by omega)];exact⟨_,ax (by omega)⟩
     obtain⟨ok,jQ⟩:=jQ;exact h k l hak x hx ok jQ L hL (hL k ok jQ hk)
    exact h0 x hx
  exact key (CI o) [] (λ_ h=>h) (by simp) j hj
theorem aby {ops:Array Oper}{i k:Nat}(h:abx (TV ops.toList []) i k=true):acu ops i k:=by unfold abx at h;cases hl:nth (TV ops.toList []) i with|none=>rw[hl]at h;simp at h|some l=>rw[hl]at h;exact Qv ops.toList [] [] rfl rfl (λi l hl=>by simp[nth]at hl) i l hl k (by simpa using h)
theorem Mb {ops:aq Oper}{i:Nat}{oi:Oper}:∀(l:aq Oper)(j:Nat),OI an ops A i oi j l=true->∀k ok,l[k]?=some ok->j+k<i->(abx A i (j+k)||Nm an ops (sE an A (j+k) 0 ops) (sE an A i 0 ops) ok oi)=true
 |[],j,_,k,ok,hk,_=>by simp at hk
 |oj::l,j,h,k,ok,hk,gM=>by
  simp only[OI]at h;have hb:Nat.ble i j=false:=by cases hb:Nat.ble i j with|false=>rfl|true=>have:=Nat.le_of_ble_eq_true hb;omega
  rw[hb]at h;simp only[ae,ah]at h;cases k with|zero=>simp at hk;subst hk;exact h.1|succ k=>have:=Mb l (j+1) h.2 k ok (by simpa using hk) (by omega);rwa[show j+1+k=j+(k+1) by omega]at this
theorem Mc {ops:aq Oper}:∀(l:aq Oper)(i:Nat),S5 an ops A i l=true->∀k ok,l[k]?=some ok->(∀m∈CI ok,m<i+k)/\OI an ops A (i+k) ok 0 ops=true
 |[],i,_,k,ok,hk=>by simp at hk
 |o::l,i,h,k,ok,hk=>by simp only[S5,ah,ba]at h;cases k with|zero=>simp at hk;subst hk;exact⟨λm hm=>Nat.le_of_ble_eq_true (h.1.1 m hm),h.1.2⟩|succ k=>have:=Mc l (i+1) h.2 k ok (by simpa using hk);rwa[show i+1+k=i+(k+1) by omega]at this
section
variable {R:Type} {r:R} {st:AS} {a:Act} {w:World}
theorem NF (ops:aq Oper)(A:aq dy):∀(l:aq Oper)(i:Nat)(st:AS)(K:AS->ar R),HW E Γ an ops A i l st K=(HW E Γ an ops A i l st some).bind K
 |[],i,st,K=>rfl
 |o::l,i,st,K=>by simp only[HW];cases dj E an (sE an A i 0 ops) o st with|false=>rfl|true=>simp only[af];rw[qc,qc (K:=λst'=>HW E Γ an ops A (i+1) l st' some),Option.bind_assoc];congr 1;funext st';exact NF ops A l (i+1) st' K
theorem QF (ops:aq Oper)(A:aq dy):∀(n i:Nat)(st:AS),i+n=ops.length->HW E Γ an ops A i (ops.drop i) st some=Qi E Γ an ops (λk=>sE an A k 0 ops) (List.range' i n) st
 |0,i,st,hi=>by rw[cP (by omega)];rfl
 |n+1,i,st,hi=>by
  have N6:i<ops.length:=by omega
  rw[cc N6,List.range'_succ];have ho:nth ops i=some ops[i]:=by rw[dv];exact ax N6
  simp only[HW,Qi,ho,cz];cases dj E an (sE an A i 0 ops) ops[i] st with|false=>rfl|true=>simp only[af];rw[qc];congr 1;funext st';exact QF ops A n (i+1) st' (by omega)
theorem NM (ops:aq Oper)(d:Bool)(K:AS->ar R):F7 E Γ an ops d st K=(F7 E Γ an ops d st some).bind K:=by unfold F7;cases d with|false=>exact Rn ops ops st K|true=>simp only[af];cases Ue an ops with|false=>rfl|true=>exact NF ops _ ops 0 st K
theorem Rk (zr:∀f,(Γ f).io=false/\(Γ f).bx=false/\(Γ f).pr=false){ops:aq Oper}{A:aq dy}(hq:∀o∈ops,gp an (IH ops) o=true):∀(l:aq Oper)(i:Nat)(st st':AS),(∀o∈l,o∈ops)->HW E Γ an ops A i l st some=some st'->iA (IH ops) st st'
 |[],i,st,st',_,h=>by cases h;exact iA.refl _ _
 |o::l,i,st,st',hl,h=>by simp only[HW]at h;cases hf:dj E an (sE an A i 0 ops) o st with|false=>rw[hf]at h;cases h|true=>rw[hf]at h;simp only[af]at h;rw[qc]at h;cases hg:gh E Γ an ops o st some with|none=>rw[hg]at h;cases h|some st1=>rw[hg]at h;exact(OE zr (hl o (by simp)) (hq o (hl o (by simp))) hg).trans (Rk zr hq l (i+1) st1 st' (λo' MB=>hl o' (by simp[MB])) h)
theorem abq (zr:∀f,(Γ f).io=false/\(Γ f).bx=false/\(Γ f).pr=false){ops:aq Oper}{d:Bool}(hq:∀o∈ops,gp an (IH ops) o=true){st':AS}(h:F7 E Γ an ops d st some=some st'):iA (IH ops) st st':=by unfold F7 at h;cases d with|false=>exact Vx zr hq ops st st' (λ_ h=>h) h|true=>simp only[af]at h;cases hb:Ue an ops with|false=>rw[hb]at h;cases h|true=>rw[hb]at h;exact Rk (agi zr) hq ops 0 st st' (λ_ h=>h) h
theorem Zk (hS:Sound P E Γ){id:Nat}{ops:Array Oper}{d:Bool}(h:mM C st a w){r:AS}(hk:F7 E Γ an ops.toList d st some=some r){Q:Exit->Act->World->Prop}(hq:∀a' w',mM C r a' w'->Q .normal a' w'):(Code.region id ops d).wp P Q a w:=by
 unfold F7 at hk;cases d with
 |false=>apply wp_region;rw[List.range_eq_range'];exact aek hS (K:=some) (r:=r) (λst' a' w' hs he=>by cases he;exact hq _ _ hs) ops.size 0 st a w (by omega) h (by simpa using hk)
 |true=>
  simp only[af]at hk;cases hb:Ue an ops.toList with
  |false=>rw[hb]at hk;cases hk
  |true=>
   rw[hb]at hk;simp only[af]at hk;have aiv:=QF (E:=E) (Γ:=Γ.Je) (an:=an) ops.toList (TV ops.toList []) ops.size 0 st (by simp);rw[fj,hk]at aiv;unfold Ue at hb;have adp:=Mc ops.toList 0 hb;apply wp_region_any hS.mixed;have hs1:mM C st a {w with drawn:=w.drawn+1}:=h.grow (Fr.drew _ w)
   have:=agT (an:=an) (C:=C) (agh Γ) hS.Je (ops:=ops) (X:=λk=>sE an (TV ops.toList []) k 0 ops.toList) (Q:=Q) (r:=r)
    (λi o ho k hk=>by have:=(adp i o (by rw[bK];exact ho)).1 k hk;simpa using this)
    (λi j oi oj hji hi hj=>by have h1:=(adp i oi (by rw[bK];exact hi)).2;rw[cj]at h1;have h2:=Mb ops.toList 0 h1 j oj (by rw[bK];exact hj) (by omega);rw[cj,da]at h2;rcases h2 with h2|h2;exact .inl (λL hL hp=>aby h2 oi hi L hL hp);exact .inr h2) hq (List.range' 0 ops.size) (Array.replicate ops.size false) st a {w with drawn:=w.drawn+1} List.pairwise_lt_range'
    (λi=>by
     rw[List.mem_range'_1];constructor;rintro⟨_,hi⟩;have pV:i<ops.size:=by omega
     exact⟨pV,by simp[Array.getD,pV]⟩;rintro⟨hi,_⟩;omega) (by simp)
    (λi o _ hl=>by exfalso;simp only[Array.getD,Array.size_replicate,Array.getInternal_eq_getElem,Array.getElem_replicate]at hl;split at hl<;>cases hl) hs1 aiv.symm
   rwa[List.length_range']at this
end
end Go.Dn
