import Derived.Test.YtfbhfnniblfpbaaGreatDnDraw
/- A region whose order is drawn: whatever the order, the outcome is that of the text's order. -/
namespace Go.Dn
open Go.RowKit
variable {P:Program} {C:Ctx} {E:Env} {Γ:xO} {an:An}
variable {iX:Array Bool} {A:ar dV}
def adg (ops:Array Oper)(L:Nat->Prop):Prop:=∀i o,ops[i]?=some o->L i->∀k∈Du o,L k
theorem mem_ready {ops:Array Oper}{i:Nat}(h:i∈Region.ready .any ops iX): ∃o,ops[i]?=some o/\i<ops.size/\iX.getD i true=false/\∀k∈Du o,iX.getD k false=true:=by
 unfold Region.ready at h;rw[List.mem_filter]at h;obtain⟨hi,h⟩:=h;have gV:i<ops.size:=by simpa using hi
 simp only[ah,aP]at h;have ho:ops[i]?=some ops[i]:=Array.getElem?_eq_getElem gV;rw[ho]at h;simp only[dg,fy,Array.all_eq_true]at h;refine⟨ops[i],ho,gV,h.1,λk hk=>?_⟩;simp only[Du,List.mem_map,List.mem_filter]at hk;obtain⟨e,⟨he,hb⟩,rfl⟩:=hk;obtain⟨j,hj,hje⟩:=Array.mem_iff_getElem.1 (Array.mem_toList_iff.1 he);have:=h.2 j hj;rw[hje]at this;simpa[hb]using this
theorem afi {ops:Array Oper}{i:Nat}{o:Oper}(ho:ops[i]?=some o)(hl:iX.getD i true=false)(hp:∀k∈Du o,iX.getD k false=true):i∈Region.ready .any ops iX:=by have gV:i<ops.size:=(Array.getElem?_eq_some_iff.1 ho).1;unfold Region.ready;rw[List.mem_filter];refine⟨by simpa using gV,?_⟩;rw[ho,hl];simp only[cf,bF,dg,fy,Array.all_eq_true];intro j hj;cases hb:Region.binds .any o.after[j]with|false=>rfl|true=>simp only[ai,cI];refine hp _ ?_;simp only[Du,List.mem_map,List.mem_filter];exact⟨o.after[j],⟨by simp,hb⟩,rfl⟩
theorem ahE (Ag:∀f,(Γ f).io=false/\((Γ f).bx=true->(Γ f).cur=true)/\(Γ f).pr=false)(hS:Sound P E Γ){ops:Array Oper}{X:Nat->dV}{Q:Exit->Act->World->Prop}{r:AS}(gV:∀i o,ops[i]?=some o->∀k∈Du o,k<i)(ai9:∀i j oi oj,j<i->ops[i]?=some oi->ops[j]?=some oj->(∀L:Nat->Prop,adg ops L->(∀k∈Du oi,L k)->L j)\/NI an ops.toList (X j) (X i) oj oi=true)(hq:∀a w,nt C r a w->Q .normal a w): ∀(rem:dV)(iX:Array Bool)(st:AS)(a:Act)(w:World),rem.Pairwise (·<·)->(∀i,i∈rem↔i<ops.size/\iX.getD i true=false)->iX.size=ops.size-> (∀i o,ops[i]?=some o->iX.getD i false=true->∀k∈Du o,iX.getD k false=true)->nt C st a w->QH E Γ an ops.toList X rem st=some r-> wpAny P .any ops Q rem.length iX a w:=by
 intro rem;generalize hn:rem.length=n;induction n generalizing rem with
 |zero=>intro iX st a w _ ER _ _ hs hr;have:rem=[]:=cz hn;subst this;cases hr;refine⟨?_,hq a w hs⟩;cases JZ:Region.ready .any ops iX with|nil=>rfl|cons i l=>obtain⟨o,ho,hi,hl,_⟩:=mem_ready (i:=i) (by rw[JZ];simp);have:=(ER i).2 ⟨hi,hl⟩;cases this
 |succ n ih=>
  intro iX st a w hpw ER tu hcl hs hr;have ahw:∀k,k<ops.size->iX.getD k false= !(decide (k∈rem)):=by
   intro k hk;have h1:=ER k;have GV:k<iX.size:=by omega
   simp only[Array.getD,GV,dite_true]at h1⊢;by_cases hm:k∈rem;have:=(h1.1 hm).2;simpa[hm]using this;have:¬(iX[k]=false):=λhf=>hm (h1.2 ⟨hk,hf⟩);simpa[hm]using this
  refine⟨λS7=>?_,λi hi=>?_⟩;exfalso;cases rem with
  |nil=>simp at hn
  |cons i l=>
   have hi:=(ER i).1 (by simp);have ho:ops[i]?=some ops[i]:=Array.getElem?_eq_getElem hi.1;have:i∈Region.ready .any ops iX:=by
    refine afi ho hi.2 λk hk=>?_;have hki:=gV i _ ho k hk;rw[ahw k (by omega)];have:k∉i::l:=by intro hm;rcases cv.1 hm with rfl|hm;omega;have:=(List.pairwise_cons.1 hpw).1 k hm;omega
    simp[this]
   rw[S7]at this;cases this
  ·obtain⟨oi,ho,Ov,hlf,CR⟩:=mem_ready hi;have uu:i∈rem:=(ER i).2 ⟨Ov,hlf⟩;obtain⟨pre,post,rfl⟩:=List.append_of_mem uu;have ai6:nth ops.toList i=some oi:=by rw[dA,cg];exact ho
   have aia:=List.pairwise_append.1 hpw
   have ad8:=Pp (E:=E) (Γ:=Γ) (an:=an) (X:=X) Ag ai6 pre post st r (λj hj oj hoj=>by
    have hji:j<i:=aia.2.2 j hj i (by simp);have aqj:ops[j]?=some oj:=by rw[dA,cg]at hoj;exact hoj
    rcases ai9 i j oi oj hji ho aqj with apT|hap;exfalso;have hL:=apT (λk=>iX.getD k false=true) (λk o hk Xc=>hcl k o hk Xc) CR;have:=(ER j).1 (by simp[hj]);simp only[ahw j this.1]at hL;simp[hj]at hL;exact hap) hr
   simp only[QH,ai6]at ad8;obtain⟨st1,h1,h2⟩:=aL.1 ad8;have hg:gy E Γ an ops.toList oi st some=some st1:=by unfold cA at h1;cases hf:dq E an (X i) oi st with|false=>rw[hf]at h1;cases h1|true=>rw[hf]at h1;exact h1
   have ES:i∉pre++post:=by intro hm;rcases az.1 hm with hm|hm;have:=aia.2.2 i hm i (by simp);omega;have:=(List.pairwise_cons.1 aia.2.1).1 i hm;omega
   have ajd:=Va (P:=P) (C:=C) (an:=an) hS (ops:=ops) hs hg (wpAny P .any ops Q n (iX.setIfInBounds i true)) Q (λst' a' w' uv he=>by
    cases he;refine ih (pre++post) (by simp at hn⊢;omega) (iX.setIfInBounds i true) st1 a' w' ?_ ?_ (by simpa using tu) ?_ uv h2;exact List.Pairwise.sublist (List.Sublist.append (List.Sublist.refl _) (List.sublist_cons_self _ _)) hpw;intro k;have hk:=ER k;by_cases hki:k=i;subst hki;constructor;intro hm;exact absurd hm ES;rintro⟨_,hf⟩;simp[cH,show k<iX.size by omega]at hf;have DG:(iX.setIfInBounds i true).getD k true=iX.getD k true:=by simp[cH,cG hki]
    rw[DG,<-hk];simp[hki];intro k o ko hkl m hm;have DG:∀q,iX.getD q false=true->(iX.setIfInBounds i true).getD q false=true:=by
     intro q hq;simp only[cH,Array.getElem?_setIfInBounds]at hq⊢;split;·split<;>first|rfl|(rename_i h1 h2;subst h1;rw[Array.getElem?_eq_none (by omega)]at hq;exact hq)
     exact hq
    by_cases hki:k=i;subst hki;rw[ho]at ko;cases ko;exact DG m (CR m hm);refine DG m (hcl k o ko ?_ m hm);simpa[cH,Array.getElem?_setIfInBounds,cG hki]using hkl)
   unfold wpOp;rw[ho];exact ajd
theorem YF {a b:dV}{x:Nat}(h:x∈Uk a b):x∈a\/x∈b:=by unfold Uk at h;induction a generalizing b with|nil=>exact .inr h|cons y a ih=>rw[List.foldl_cons]at h;rcases ih h with h|h;exact .inl (by simp[h]);cases hc:b.contains y with|true=>rw[hc]at h;exact .inr h|false=>rw[hc]at h;rcases cv.1 h with rfl|h;exact .inl (by simp);exact .inr h
def adk (ops:Array Oper)(i j:Nat):Prop:=∀o,ops[i]?=some o->∀L:Nat->Prop,adg ops L->(∀k∈Du o,L k)->L j
theorem QU {ops:Array Oper}:∀(r done:ar Oper)(acc:ar dV),ops.toList=done++r->acc.length=done.length->(∀i l,nth acc i=some l->∀j∈l,adk ops i j)->
 ∀i l,nth (Uz r acc) i=some l->∀j∈l,adk ops i j
 |[],done,acc,_,_,h=>h
 |o::r,done,acc,ah8,hlen,h=>by
  refine QU r (done++[o]) _ (by rw[ah8];simp) (by simp[hlen]) ?_;intro i l hl j hj;rw[dA]at hl;rcases bQ i acc.length with gV|BD;rw[bw gV]at hl;exact h i l (by rw[dA];exact hl) j hj;rw[bq BD]at hl;have hi:i=acc.length:=by cases hk:i-acc.length with|zero=>omega|succ n=>rw[hk]at hl;simp at hl
  subst hi;simp only[lM,cq,aZ]at hl;subst hl;have hoi:ops[acc.length]?=some o:=by rw[<-cg,ah8,hlen,bq (aU _)];simp
  have key:∀(ps:dV)(s0:dV),(∀k∈ps,k∈Du o)->(∀x∈s0,adk ops acc.length x)->∀x∈ps.foldl (λs j=>Uk (j::(nth acc j).getD []) s) s0,adk ops acc.length x:=by
   intro ps;induction ps with
   |nil=>intro s0 _ h0;exact h0
   |cons k ps ih=>
    intro s0 hps h0;rw[List.foldl_cons];refine ih _ (λm hm=>hps m (by simp[hm])) ?_;intro x hx;rcases YF hx with hx|hx;intro o' MV L hL hp;rw[hoi]at MV;cases MV;have hk:=hp k (hps k (by simp));rcases cv.1 hx with rfl|hx;exact hk;cases hak:nth acc k with
    |none=>rw[hak]at hx;cases hx
    |some l=>
     rw[hak]at hx;have hkl:k<acc.length:=by rw[dA]at hak;exact(aD.1 hak).1
     have ko:∃ok,ops[k]?=some ok:=by rw[<-cg,ah8,bw (by omega)];exact⟨_,al (by omega)⟩
     obtain⟨ok,ko⟩:=ko;exact h k l hak x hx ok ko L hL (hL k ok ko hk)
    exact h0 x hx
  exact key (Du o) [] (λ_ h=>h) (by simp) j hj
theorem acj {ops:Array Oper}{i k:Nat}(h:aci (Uz ops.toList []) i k=true):adk ops i k:=by unfold aci at h;cases hl:nth (Uz ops.toList []) i with|none=>rw[hl]at h;simp at h|some l=>rw[hl]at h;exact QU ops.toList [] [] rfl rfl (λi l hl=>by simp[nth]at hl) i l hl k (by simpa using h)
theorem Mr {ops:ar Oper}{i:Nat}{oi:Oper}:∀(l:ar Oper)(j:Nat),O4 an ops A i oi j l=true->∀k ok,l[k]?=some ok->j+k<i->(aci A i (j+k)||NI an ops (tw an A (j+k) 0 ops) (tw an A i 0 ops) ok oi)=true
 |[],j,_,k,ok,hk,_=>by simp at hk
 |oj::l,j,h,k,ok,hk,gV=>by
  simp only[O4]at h;have hb:Nat.ble i j=false:=by cases hb:Nat.ble i j with|false=>rfl|true=>have:=Nat.le_of_ble_eq_true hb;omega
  rw[hb]at h;simp only[ae,ah]at h;cases k with|zero=>simp at hk;subst hk;exact h.1|succ k=>have:=Mr l (j+1) h.2 k ok (by simpa using hk) (by omega);rwa[show j+1+k=j+(k+1) by omega]at this
theorem Ms {ops:ar Oper}:∀(l:ar Oper)(i:Nat),TI an ops A i l=true->∀k ok,l[k]?=some ok->(∀m∈Du ok,m<i+k)/\O4 an ops A (i+k) ok 0 ops=true
 |[],i,_,k,ok,hk=>by simp at hk
 |o::l,i,h,k,ok,hk=>by simp only[TI,ah,aW]at h;cases k with|zero=>simp at hk;subst hk;exact⟨λm hm=>Nat.le_of_ble_eq_true (h.1.1 m hm),h.1.2⟩|succ k=>have:=Ms l (i+1) h.2 k ok (by simpa using hk);rwa[show i+1+k=i+(k+1) by omega]at this
section
variable {R:Type} {r:R} {st:AS} {a:Act} {w:World}
theorem NZ (ops:ar Oper)(A:ar dV):∀(l:ar Oper)(i:Nat)(st:AS)(K:AS->aw R),Il E Γ an ops A i l st K=(Il E Γ an ops A i l st some).bind K
 |[],i,st,K=>rfl
 |o::l,i,st,K=>by simp only[Il];cases dq E an (tw an A i 0 ops) o st with|false=>rfl|true=>simp only[af];rw[qP,qP (K:=λst'=>Il E Γ an ops A (i+1) l st' some),Option.bind_assoc];congr 1;funext st';exact NZ ops A l (i+1) st' K
theorem Q1 (ops:ar Oper)(A:ar dV):∀(n i:Nat)(st:AS),i+n=ops.length->Il E Γ an ops A i (ops.drop i) st some=QH E Γ an ops (λk=>tw an A k 0 ops) (List.range' i n) st
 |0,i,st,hi=>by rw[cQ (by omega)];rfl
 |n+1,i,st,hi=>by
  have Ov:i<ops.length:=by omega
  rw[cl Ov,List.range'_succ];have ho:nth ops i=some ops[i]:=by rw[dA];exact al Ov
  simp only[Il,QH,ho,cA];cases dq E an (tw an A i 0 ops) ops[i] st with|false=>rfl|true=>simp only[af];rw[qP];congr 1;funext st';exact Q1 ops A n (i+1) st' (by omega)
theorem N6 (ops:ar Oper)(d:Bool)(K:AS->aw R):GJ E Γ an ops d st K=(GJ E Γ an ops d st some).bind K:=by unfold GJ;cases d with|false=>exact RS ops ops st K|true=>simp only[af];cases UN an ops with|false=>rfl|true=>exact NZ ops _ ops 0 st K
theorem RO (Ag:∀f,(Γ f).io=false/\(Γ f).bx=false/\(Γ f).pr=false){ops:ar Oper}{A:ar dV}(hq:∀o∈ops,gB an (I7 ops) o=true):∀(l:ar Oper)(i:Nat)(st st':AS),(∀o∈l,o∈ops)->Il E Γ an ops A i l st some=some st'->iS (I7 ops) st st'
 |[],i,st,st',_,h=>by cases h;exact iS.refl _ _
 |o::l,i,st,st',hl,h=>by simp only[Il]at h;cases hf:dq E an (tw an A i 0 ops) o st with|false=>rw[hf]at h;cases h|true=>rw[hf]at h;simp only[af]at h;rw[qP]at h;cases hg:gy E Γ an ops o st some with|none=>rw[hg]at h;cases h|some st1=>rw[hg]at h;exact(O0 Ag (hl o (by simp)) (hq o (hl o (by simp))) hg).trans (RO Ag hq l (i+1) st1 st' (λo' MV=>hl o' (by simp[MV])) h)
theorem ab8 (Ag:∀f,(Γ f).io=false/\(Γ f).bx=false/\(Γ f).pr=false){ops:ar Oper}{d:Bool}(hq:∀o∈ops,gB an (I7 ops) o=true){st':AS}(h:GJ E Γ an ops d st some=some st'):iS (I7 ops) st st':=by unfold GJ at h;cases d with|false=>exact V0 Ag hq ops st st' (λ_ h=>h) h|true=>simp only[af]at h;cases hb:UN an ops with|false=>rw[hb]at h;cases h|true=>rw[hb]at h;exact RO (ag8 Ag) hq ops 0 st st' (λ_ h=>h) h
theorem Z1 (hS:Sound P E Γ){id:Nat}{ops:Array Oper}{d:Bool}(h:nt C st a w){r:AS}(hk:GJ E Γ an ops.toList d st some=some r){Q:Exit->Act->World->Prop}(hq:∀a' w',nt C r a' w'->Q .normal a' w'):(Code.region id ops d).wp P Q a w:=by
 unfold GJ at hk;cases d with
 |false=>apply wp_region;rw[List.range_eq_range'];exact ae4 hS (K:=some) (r:=r) (λst' a' w' hs he=>by cases he;exact hq _ _ hs) ops.size 0 st a w (by omega) h (by simpa using hk)
 |true=>
  simp only[af]at hk;cases hb:UN an ops.toList with
  |false=>rw[hb]at hk;cases hk
  |true=>
   rw[hb]at hk;simp only[af]at hk;have ajb:=Q1 (E:=E) (Γ:=Γ.Jx) (an:=an) ops.toList (Uz ops.toList []) ops.size 0 st (by simp);rw[fa,hk]at ajb;unfold UN at hb;have aee:=Ms ops.toList 0 hb;apply wp_region_any hS.mixed;have hs1:nt C st a {w with drawn:=w.drawn+1}:=h.grow (Fr.drew _ w)
   have:=ahE (an:=an) (C:=C) (ag7 Γ) hS.Jx (ops:=ops) (X:=λk=>tw an (Uz ops.toList []) k 0 ops.toList) (Q:=Q) (r:=r)
    (λi o ho k hk=>by have:=(aee i o (by rw[cg];exact ho)).1 k hk;simpa using this)
    (λi j oi oj hji hi hj=>by have h1:=(aee i oi (by rw[cg];exact hi)).2;rw[cm]at h1;have h2:=Mr ops.toList 0 h1 j oj (by rw[cg];exact hj) (by omega);rw[cm,de]at h2;rcases h2 with h2|h2;exact .inl (λL hL hp=>acj h2 oi hi L hL hp);exact .inr h2) hq (List.range' 0 ops.size) (Array.replicate ops.size false) st a {w with drawn:=w.drawn+1} List.pairwise_lt_range'
    (λi=>by
     rw[List.mem_range'_1];constructor;rintro⟨_,hi⟩;have rF:i<ops.size:=by omega
     exact⟨rF,by simp[Array.getD,rF]⟩;rintro⟨hi,_⟩;omega) (by simp)
    (λi o _ hl=>by exfalso;simp only[Array.getD,Array.size_replicate,Array.getInternal_eq_getElem,Array.getElem_replicate]at hl;split at hl<;>cases hl) hs1 ajb.symm
   rwa[List.length_range']at this
end
end Go.Dn
