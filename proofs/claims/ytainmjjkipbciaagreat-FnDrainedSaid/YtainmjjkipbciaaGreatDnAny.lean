import Derived.Test.YtainmjjkipbciaaGreatDnDraw
/- A region whose order is drawn: whatever the order, the outcome is that of the text's order. -/
namespace Go.Dn
open Go.RowKit
variable {P:Program} {C:Ctx} {E:Env} {Γ:eE} {an:An}
variable {listed:Array Bool} {i:Nat}
def Yx (ops:Array Oper)(L:Nat->Prop):Prop:=∀i o,ops[i]?=some o->L i->∀k∈yG o,L k
theorem mem_ready {ops:Array Oper}(h:i∈Region.ready .any ops listed): ∃o,ops[i]?=some o/\i<ops.size/\listed.getD i true=false/\∀k∈yG o,listed.getD k false=true:=by
 unfold Region.ready at h;rw[List.mem_filter]at h;obtain⟨hi,h⟩:=h;have hlt:i<ops.size:=by simpa using hi
 simp only[ae,aL]at h;have ho:ops[i]?=some ops[i]:=Array.getElem?_eq_getElem hlt;rw[ho]at h;simp only[dz,fX,Array.all_eq_true]at h;refine⟨ops[i],ho,hlt,h.1,λk hk=>?_⟩;simp only[yG,eQ,List.mem_filter]at hk;obtain⟨e,⟨he,hb⟩,rfl⟩:=hk;obtain⟨j,hj,hje⟩:=Array.mem_iff_getElem.1 (Array.mem_toList_iff.1 he);have:=h.2 j hj;rw[hje]at this;simpa[hb]using this
theorem aab {ops:Array Oper}{o:Oper}(ho:ops[i]?=some o)(hl:listed.getD i true=false)(hp:∀k∈yG o,listed.getD k false=true):i∈Region.ready .any ops listed:=by have hlt:i<ops.size:=(Array.getElem?_eq_some_iff.1 ho).1;unfold Region.ready;rw[List.mem_filter];refine⟨by simpa using hlt,?_⟩;rw[ho,hl];simp only[cd,bB,dz,fX,Array.all_eq_true];intro j hj;cases hb:Region.binds .any o.after[j]with|false=>rfl|true=>simp only[aj,cz];refine hp _ ?_;simp only[yG,eQ,List.mem_filter];exact⟨o.after[j],⟨by simp,hb⟩,rfl⟩
theorem ael (hΓ:∀f,(Γ f).io=false/\((Γ f).bx=true->(Γ f).cur=true)/\(Γ f).pr=false)(hS:Sound P E Γ){ops:Array Oper}{X:Nat->fF}{Q:Exit->Act->World->Prop}{r:AS}(hlt:∀i o,ops[i]?=some o->∀k∈yG o,k<i)(hpair:∀i j oi oj,j<i->ops[i]?=some oi->ops[j]?=some oj->(∀L:Nat->Prop,Yx ops L->(∀k∈yG oi,L k)->L j)\/H5 an ops.toList (X j) (X i) oj oi=true)(hq:∀a w,nz C r a w->Q .normal a w): ∀(rem:fF)(listed:Array Bool)(st:AS)(a:Act)(w:World),rem.Pairwise (·<·)->(∀i,i∈rem↔i<ops.size/\listed.getD i true=false)->listed.size=ops.size-> (∀i o,ops[i]?=some o->listed.getD i false=true->∀k∈yG o,listed.getD k false=true)->nz C st a w->Lb E Γ an ops.toList X rem st=some r-> wpAny P .any ops Q rem.length listed a w:=by
 intro rem;generalize hn:rem.length=n;induction n generalizing rem with
 |zero=>intro listed st a w _ hmem _ _ hs hr;have:rem=[]:=bS hn;subst this;cases hr;refine⟨?_,hq a w hs⟩;cases hrd:Region.ready .any ops listed with|nil=>rfl|cons i l=>obtain⟨o,ho,hi,hl,_⟩:=mem_ready (i:=i) (by rw[hrd];simp);have:=(hmem i).2 ⟨hi,hl⟩;cases this
 |succ n ih=>
  intro listed st a w hpw hmem hsz hcl hs hr;have htrue:∀k,k<ops.size->listed.getD k false= !(decide (k∈rem)):=by
   intro k hk;have h1:=hmem k;have hk':k<listed.size:=by omega
   simp only[Array.getD,hk',dite_true]at h1⊢;by_cases hm:k∈rem;have:=(h1.1 hm).2;simpa[hm]using this;have:¬(listed[k]=false):=λhf=>hm (h1.2 ⟨hk,hf⟩);simpa[hm]using this
  refine⟨λhnil=>?_,λi hi=>?_⟩;exfalso;cases rem with
  |nil=>simp at hn
  |cons i l=>
   have hi:=(hmem i).1 (by simp);have ho:ops[i]?=some ops[i]:=Array.getElem?_eq_getElem hi.1;have:i∈Region.ready .any ops listed:=by
    refine aab ho hi.2 λk hk=>?_;have hki:=hlt i _ ho k hk;rw[htrue k (by omega)];have:k∉i::l:=by intro hm;rcases cA.1 hm with rfl|hm;omega;have:=(List.pairwise_cons.1 hpw).1 k hm;omega
    simp[this]
   rw[hnil]at this;cases this
  ·obtain⟨oi,ho,hil,hlf,hpl⟩:=mem_ready hi;have hin:i∈rem:=(hmem i).2 ⟨hil,hlf⟩;obtain⟨pre,post,rfl⟩:=List.append_of_mem hin;have hnth:nth ops.toList i=some oi:=by rw[dX,cx];exact ho
   have hpw':=List.pairwise_append.1 hpw
   have hfront:=Kk (E:=E) (Γ:=Γ) (an:=an) (X:=X) hΓ hnth pre post st r (λj hj oj hoj=>by
    have hji:j<i:=hpw'.2.2 j hj i (by simp);have hoj':ops[j]?=some oj:=by rw[dX,cx]at hoj;exact hoj
    rcases hpair i j oi oj hji ho hoj' with hanc|hap;exfalso;have hL:=hanc (λk=>listed.getD k false=true) (λk o hk hlk=>hcl k o hk hlk) hpl;have:=(hmem j).1 (by simp[hj]);simp only[htrue j this.1]at hL;simp[hj]at hL;exact hap) hr
   simp only[Lb,hnth]at hfront;obtain⟨st1,h1,h2⟩:=aP.1 hfront;have hg:gQ E Γ an ops.toList oi st some=some st1:=by unfold cM at h1;cases hf:dF E an (X i) oi st with|false=>rw[hf]at h1;cases h1|true=>rw[hf]at h1;exact h1
   have hnd:i∉pre++post:=by intro hm;rcases aw.1 hm with hm|hm;have:=hpw'.2.2 i hm i (by simp);omega;have:=(List.pairwise_cons.1 hpw'.2.1).1 i hm;omega
   have hstep:=P7 (P:=P) (C:=C) (an:=an) hS (ops:=ops) hs hg (wpAny P .any ops Q n (listed.setIfInBounds i true)) Q (λst' a' w' hs' he=>by
    cases he;refine ih (pre++post) (by simp at hn⊢;omega) (listed.setIfInBounds i true) st1 a' w' ?_ ?_ (by simpa using hsz) ?_ hs' h2;exact List.Pairwise.sublist (List.Sublist.append (List.Sublist.refl _) (List.sublist_cons_self _ _)) hpw;intro k;have hk:=hmem k;by_cases hki:k=i;subst hki;constructor;intro hm;exact absurd hm hnd;rintro⟨_,hf⟩;simp[dJ,show k<listed.size by omega]at hf;have hset:(listed.setIfInBounds i true).getD k true=listed.getD k true:=by simp[dJ,cc hki]
    rw[hset,<-hk];simp[hki];intro k o hok hkl m hm;have hset:∀q,listed.getD q false=true->(listed.setIfInBounds i true).getD q false=true:=by
     intro q hq;simp only[dJ,Array.getElem?_setIfInBounds]at hq⊢;split;·split<;>first|rfl|(rename_i h1 h2;subst h1;rw[Array.getElem?_eq_none (by omega)]at hq;exact hq)
     exact hq
    by_cases hki:k=i;subst hki;rw[ho]at hok;cases hok;exact hset m (hpl m hm);refine hset m (hcl k o hok ?_ m hm);simpa[dJ,Array.getElem?_setIfInBounds,cc hki]using hkl)
   unfold wpOp;rw[ho];exact hstep
theorem Tw {a b:fF}{x:Nat}(h:x∈OV a b):x∈a\/x∈b:=by unfold OV at h;induction a generalizing b with|nil=>exact .inr h|cons y a ih=>rw[List.foldl_cons]at h;rcases ih h with h|h;exact .inl (by simp[h]);cases hc:b.contains y with|true=>rw[hc]at h;exact .inr h|false=>rw[hc]at h;rcases cA.1 h with rfl|h;exact .inl (by simp);exact .inr h
def YB (ops:Array Oper)(i j:Nat):Prop:=∀o,ops[i]?=some o->∀L:Nat->Prop,Yx ops L->(∀k∈yG o,L k)->L j
theorem Lr {ops:Array Oper}:∀(r done:ax Oper)(acc:ax fF),ops.toList=done++r->acc.length=done.length->(∀i l,nth acc i=some l->∀j∈l,YB ops i j)->
 ∀i l,nth (O6 r acc) i=some l->∀j∈l,YB ops i j
 |[],done,acc,_,_,h=>h
 |o::r,done,acc,hops,hlen,h=>by
  refine Lr r (done++[o]) _ (by rw[hops];simp) (by simp[hlen]) ?_;intro i l hl j hj;rw[dX]at hl;rcases ca i acc.length with hlt|hge;rw[bf hlt]at hl;exact h i l (by rw[dX];exact hl) j hj;rw[bt hge]at hl;have hi:i=acc.length:=by cases hk:i-acc.length with|zero=>omega|succ n=>rw[hk]at hl;simp at hl
  subst hi;simp only[lf,cH,bj]at hl;subst hl;have hoi:ops[acc.length]?=some o:=by rw[<-cx,hops,hlen,bt (aR _)];simp
  have key:∀(ps:fF)(s0:fF),(∀k∈ps,k∈yG o)->(∀x∈s0,YB ops acc.length x)->∀x∈ps.foldl (λs j=>OV (j::(nth acc j).getD []) s) s0,YB ops acc.length x:=by
   intro ps;induction ps with
   |nil=>intro s0 _ h0;exact h0
   |cons k ps ih=>
    intro s0 hps h0;rw[List.foldl_cons];refine ih _ (λm hm=>hps m (by simp[hm])) ?_;intro x hx;rcases Tw hx with hx|hx;intro o' ho' L hL hp;rw[hoi]at ho';cases ho';have hk:=hp k (hps k (by simp));rcases cA.1 hx with rfl|hx;exact hk;cases hak:nth acc k with
    |none=>rw[hak]at hx;cases hx
    |some l=>
     rw[hak]at hx;have hkl:k<acc.length:=by rw[dX]at hak;exact(aA.1 hak).1
     have hok:∃ok,ops[k]?=some ok:=by rw[<-cx,hops,bf (by omega)];exact⟨_,al (by omega)⟩
     obtain⟨ok,hok⟩:=hok;exact h k l hak x hx ok hok L hL (hL k ok hok hk)
    exact h0 x hx
  exact key (yG o) [] (λ_ h=>h) (by simp) j hj
theorem Xw {ops:Array Oper}{k:Nat}(h:Xv (O6 ops.toList []) i k=true):YB ops i k:=by unfold Xv at h;cases hl:nth (O6 ops.toList []) i with|none=>rw[hl]at h;simp at h|some l=>rw[hl]at h;exact Lr ops.toList [] [] rfl rfl (λi l hl=>by simp[nth]at hl) i l hl k (by simpa using h)
theorem GU {ops:ax Oper}{A:ax fF}{i:Nat}{oi:Oper}:∀(l:ax Oper)(j:Nat),JW an ops A i oi j l=true->∀k ok,l[k]?=some ok->j+k<i->(Xv A i (j+k)||H5 an ops (rm an A (j+k) 0 ops) (rm an A i 0 ops) ok oi)=true
 |[],j,_,k,ok,hk,_=>by simp at hk
 |oj::l,j,h,k,ok,hk,hlt=>by
  simp only[JW]at h;have hb:Nat.ble i j=false:=by cases hb:Nat.ble i j with|false=>rfl|true=>have:=Nat.le_of_ble_eq_true hb;omega
  rw[hb]at h;simp only[af,ae]at h;cases k with|zero=>simp at hk;subst hk;exact h.1|succ k=>have:=GU l (j+1) h.2 k ok (by simpa using hk) (by omega);rwa[show j+1+k=j+(k+1) by omega]at this
theorem GV {ops:ax Oper}{A:ax fF}:∀(l:ax Oper)(i:Nat),Ol an ops A i l=true->∀k ok,l[k]?=some ok->(∀m∈yG ok,m<i+k)/\JW an ops A (i+k) ok 0 ops=true
 |[],i,_,k,ok,hk=>by simp at hk
 |o::l,i,h,k,ok,hk=>by simp only[Ol,ae,aJ]at h;cases k with|zero=>simp at hk;subst hk;exact⟨λm hm=>Nat.le_of_ble_eq_true (h.1.1 m hm),h.1.2⟩|succ k=>have:=GV l (i+1) h.2 k ok (by simpa using hk);rwa[show i+1+k=i+(k+1) by omega]at this
section
variable {R:Type} {r:R} {st:AS} {a:Act} {w:World}
theorem IU (ops:ax Oper)(A:ax fF):∀(l:ax Oper)(i:Nat)(st:AS)(K:AS->aB R),CS E Γ an ops A i l st K=(CS E Γ an ops A i l st some).bind K
 |[],i,st,K=>rfl
 |o::l,i,st,K=>by simp only[CS];cases dF E an (rm an A i 0 ops) o st with|false=>rfl|true=>simp only[ah];rw[pN,pN (K:=λst'=>CS E Γ an ops A (i+1) l st' some),Option.bind_assoc];congr 1;funext st';exact IU ops A l (i+1) st' K
theorem LA (ops:ax Oper)(A:ax fF):∀(n i:Nat)(st:AS),i+n=ops.length->CS E Γ an ops A i (ops.drop i) st some=Lb E Γ an ops (λk=>rm an A k 0 ops) (List.range' i n) st
 |0,i,st,hi=>by rw[cq (by omega)];rfl
 |n+1,i,st,hi=>by
  have hil:i<ops.length:=by omega
  rw[cg hil,List.range'_succ];have ho:nth ops i=some ops[i]:=by rw[dX];exact al hil
  simp only[CS,Lb,ho,cM];cases dF E an (rm an A i 0 ops) ops[i] st with|false=>rfl|true=>simp only[ah];rw[pN];congr 1;funext st';exact LA ops A n (i+1) st' (by omega)
theorem IZ (ops:ax Oper)(d:Bool)(K:AS->aB R):Bw E Γ an ops d st K=(Bw E Γ an ops d st some).bind K:=by unfold Bw;cases d with|false=>exact Mk ops ops st K|true=>simp only[ah];cases PE an ops with|false=>rfl|true=>exact IU ops _ ops 0 st K
theorem Md (hΓ:∀f,(Γ f).io=false/\(Γ f).bx=false/\(Γ f).pr=false){ops:ax Oper}{A:ax fF}(hq:∀o∈ops,gT an (Dx ops) o=true):∀(l:ax Oper)(i:Nat)(st st':AS),(∀o∈l,o∈ops)->CS E Γ an ops A i l st some=some st'->jb (Dx ops) st st'
 |[],i,st,st',_,h=>by cases h;exact jb.refl _ _
 |o::l,i,st,st',hl,h=>by simp only[CS]at h;cases hf:dF E an (rm an A i 0 ops) o st with|false=>rw[hf]at h;cases h|true=>rw[hf]at h;simp only[ah]at h;rw[pN]at h;cases hg:gQ E Γ an ops o st some with|none=>rw[hg]at h;cases h|some st1=>rw[hg]at h;exact(JO hΓ (hl o (by simp)) (hq o (hl o (by simp))) hg).trans (Md hΓ hq l (i+1) st1 st' (λo' ho'=>hl o' (by simp[ho'])) h)
theorem Xi (hΓ:∀f,(Γ f).io=false/\(Γ f).bx=false/\(Γ f).pr=false){ops:ax Oper}{d:Bool}(hq:∀o∈ops,gT an (Dx ops) o=true){st':AS}(h:Bw E Γ an ops d st some=some st'):jb (Dx ops) st st':=by unfold Bw at h;cases d with|false=>exact Q8 hΓ hq ops st st' (λ_ h=>h) h|true=>simp only[ah]at h;cases hb:PE an ops with|false=>rw[hb]at h;cases h|true=>rw[hb]at h;exact Md (adj hΓ) hq ops 0 st st' (λ_ h=>h) h
theorem U2 (hS:Sound P E Γ){id:Nat}{ops:Array Oper}{d:Bool}(h:nz C st a w){r:AS}(hk:Bw E Γ an ops.toList d st some=some r){Q:Exit->Act->World->Prop}(hq:∀a' w',nz C r a' w'->Q .normal a' w'):(Code.region id ops d).wp P Q a w:=by
 unfold Bw at hk;cases d with
 |false=>apply wp_region;rw[List.range_eq_range'];exact ZX hS (K:=some) (r:=r) (λst' a' w' hs he=>by cases he;exact hq _ _ hs) ops.size 0 st a w (by omega) h (by simpa using hk)
 |true=>
  simp only[ah]at hk;cases hb:PE an ops.toList with
  |false=>rw[hb]at hk;cases hk
  |true=>
   rw[hb]at hk;simp only[ah]at hk;have hseq:=LA (E:=E) (Γ:=Γ.DU) (an:=an) ops.toList (O6 ops.toList []) ops.size 0 st (by simp);rw[fM,hk]at hseq;unfold PE at hb;have hpairs:=GV ops.toList 0 hb;apply wp_region_any hS.mixed;have hs1:nz C st a {w with drawn:=w.drawn+1}:=h.grow (Fr.drew _ w)
   have:=ael (an:=an) (C:=C) (adi Γ) hS.DU (ops:=ops) (X:=λk=>rm an (O6 ops.toList []) k 0 ops.toList) (Q:=Q) (r:=r)
    (λi o ho k hk=>by have:=(hpairs i o (by rw[cx];exact ho)).1 k hk;simpa using this)
    (λi j oi oj hji hi hj=>by have h1:=(hpairs i oi (by rw[cx];exact hi)).2;rw[cD]at h1;have h2:=GU ops.toList 0 h1 j oj (by rw[cx];exact hj) (by omega);rw[cD,cG]at h2;rcases h2 with h2|h2;exact .inl (λL hL hp=>Xw h2 oi hi L hL hp);exact .inr h2) hq (List.range' 0 ops.size) (Array.replicate ops.size false) st a {w with drawn:=w.drawn+1} List.pairwise_lt_range'
    (λi=>by
     rw[List.mem_range'_1];constructor;rintro⟨_,hi⟩;have hi':i<ops.size:=by omega
     exact⟨hi',by simp[Array.getD,hi']⟩;rintro⟨hi,_⟩;omega) (by simp)
    (λi o _ hl=>by exfalso;simp only[Array.getD,Array.size_replicate,Array.getInternal_eq_getElem,Array.getElem_replicate]at hl;split at hl<;>cases hl) hs1 hseq.symm
   rwa[List.length_range']at this
end
end Go.Dn
