import Derived.Test.YtnmppgnbjfdffaaGreatDnSim
/- The ways in which a state goes on: a slot is written, an operand is taken over, memory grows. -/
namespace Go.Dn
open Go.RowKit
variable {C:Ctx} {g:Gh} {st:AS} {a:Act} {w:World} {hs:aw (Value×AV)}
variable {d:ay Nat}
theorem OA (d:ay Nat)(av:AV):(cH C g st w).Le (cH C g (st.put d av) w):=by refine⟨rfl,λt ht=>⟨by show lJ (st.put d av) t;rw[Fl];exact ht,rfl⟩,λ_ _ _ _ _ hv=>hv,?_,λs hs=>⟨by show iQ (st.put d av) s;rw[GR];exact hs,rfl⟩,λ_ b o u ho hu=>⟨ho,hu⟩⟩;show st.ep<=(st.put d av).ep;rw[Gi];exact aS _
theorem dH.quiet (h:dH C g st a w hs)(d:ay Nat){v:Value}{av:AV}(hr:fP (cH C g st w) v av []): dH C g (st.put d av) (a.put d v) w hs:=by cases d with|none=>exact h|some d=>have hle:= @OA C g st w (some d) av;refine h.step (λx=>x≠ .slot d) hle (by rw[Jc];exact h.defers) (by rw[R2,fG,aB];exact h.size) (by rw[jV,fG,aB];exact h.bsize) h.frame h.fQ (λb x _ hx=>⟨hx,rfl,rfl⟩) ?_ ?_ ?_ ?_;intro i bv hi;by_cases Qu:i=d;subst Qu;rw[fG,bm]at hi;simp only[bM]at hi;split at hi;rename_i hG;simp at hi;subst hi;refine .inr ⟨[],?_,by simp,by simp⟩;rw[FY];simp only[true_and,h.size,hG,bM];exact hr.mono hle (by simp);cases hi;refine .inl ⟨by simpa using Qu,?_,by rw[FY];simp[Qu]⟩;rwa[fG,aP (cL Qu)]at hi;intro s cs hb;rw[jV]at hb;exact .inl ⟨by simp,hb,rfl⟩;intro k u bv hk;exact .inl ⟨by simp,hk⟩;exact .inl ⟨by simp,rfl⟩
theorem xm {w w':World}(hf:Fr (λ_=>False) w w'){b o:Nat}{v:Value}(h:w.cell? ⟨b,o,none⟩=some v):w'.cell? ⟨b,o,none⟩=some v:=by have hb:b<w.heap.size:=World.block_lt_of_cell? w _ h;rw[World.cell?_of_block (a:=⟨b,o,none⟩) (hf.block b hb (λm=>m))];exact h
theorem dH.grow (h:dH C g st a w hs){w':World}(hf:Fr (λ_=>False) w w'):dH C g st a w' hs:=by
 have hle:(cH C g st w).Le (cH C g st w'):=⟨rfl,λ_ ht=>⟨ht,rfl⟩,λ_ _ _ _ _ hv=>xm hf hv,aS _,λ_ hs=>⟨hs,rfl⟩,λ_ b o u ho hu=>⟨ho,xm hf hu⟩⟩
 refine h.step (λ_=>True) hle h.defers h.size h.bsize (h.frame.trans hf (λb _ m=>m.elim)) (λb x hx=>?_) (λb x _ hx=>⟨hx,hf.block b (h.fQ b x hx).1 (λm=>m),rfl⟩) ?_ ?_ ?_ ?_;have hx:=h.fQ b x hx;have:=hf.size;exact⟨by omega,hx.2⟩;exact λi av hi=> .inl ⟨cr,hi,rfl⟩;exact λs cs hb=> .inl ⟨cr,hb,rfl⟩;exact λk v av hk=> .inl ⟨cr,hk⟩;exact .inl ⟨cr,rfl⟩
theorem Fr.drew (M:Nat->Prop)(w:World):Fr M w w.drew:=⟨rfl,rfl,rfl,aS _,λ_ _ _=>rfl⟩
theorem Fr.alloc (M:Nat->Prop)(w:World)(o:Obj):Fr M w (w.alloc o):=⟨rfl,rfl,rfl,by simp,λb hb _=>heap_alloc_old w o b hb⟩
def jM:ay jy->Bool
 |some (.hand _)=>true
 |_=>false
abbrev dD (x:ay jy):Prop:=jM x=true
theorem Gw {v:AV}:(st.put d v).io=st.io:=by cases d<;>rfl
theorem Fk:(st.fg d).io=st.io:=by cases d<;>rfl
theorem sq:(st.fg d).slots=st.slots:=by cases d<;>rfl
theorem yj:(st.fg d).boxes=st.boxes:=by cases d<;>rfl
theorem xB:(st.fg d).ep=st.ep:=by cases d<;>rfl
theorem Ap {t:Nat}(h:lJ st t):lJ (st.fg d) t:=by cases d with|none=>exact h|some d=>rcases h with h|h;exact .inl h;refine .inr ?_;simp only[AS.fg,dF,fb,bm]at h⊢;split;split<;>simp;exact h
theorem oc {j t:Nat}(h:st.gS d j=some t):¬lJ st t/\lJ (st.fg d) t/\∃d',d=some d'/\t=FR d' j/\j<4096:=by
 cases d with
 |none=>simp[AS.gS]at h
 |some d=>
  simp only[AS.gS]at h;cases hi:(nth st.iss d).getD true with
  |true=>rw[hi]at h;simp at h
  |false=>
   rw[hi]at h;simp only[af]at h;cases hj:Nat.ble 4096 j with
   |true=>rw[hj]at h;simp at h
   |false=>
    rw[hj]at h;simp only[af,aZ]at h;have hjl:j<4096:=by rcases bW j 4096 with hl|hg;exact hl;rw[gB hg]at hj;cases hj
    have hdiv:t/3/4096=d:=by rw[<-h,FR];omega
    have afr:t%3=2:=by rw[<-h,FR];omega
    refine⟨?_,.inr ?_,d,rfl,h.symm,hjl⟩;rintro(h1|h1);exact h1 afr;rw[hdiv,hi]at h1;cases h1;simp only[AS.fg,dF,fb,hdiv];rw[dF]at hi;have hG:d<st.iss.length:=by rcases bW d st.iss.length with hl|hg;exact hl;rw[bu hg]at hi;simp at hi
    simp[hG]
theorem dH.Kt (h:dH C g st a w hs)(d:ay Nat){v:Value}{av:AV}{fp:ff}{w':World}{hw':Nat->Nat}{hdr':Nat->Value}{st1:AS}(alB:st1.io=st.io)(hs1:st1.slots=st.slots)(hb1:st1.boxes=st.boxes)(he1:st1.ep=st.ep)(hi1:∀t,lJ st t->lJ st1 t/\hdr' t=g.hdr t)(je:Fr (λb=>dD (g.dX b)) w w')(CH:∀b x,g.dX b=some x->¬dD (some x)->hw' b=g.hw b)(EY:∀b o u,o<g.hw b->w.cell? ⟨b,o,none⟩=some u->o<hw' b/\w'.cell? ⟨b,o,none⟩=some u)(hr:fP (cH C {g with hw:=hw',hdr:=hdr'} st1 w') v av fp)(hn:fp.Nodup)(AU:∀b∈fp,b<w'.heap.size/\(dD (g.dX b)\/w.heap.size<=b)): ∃g',dH C g' (st1.put d av) (a.put d v) w' []:=by
 have W4:∀k b o u,C.A k b o->w.cell? ⟨b,o,none⟩=some u->w'.cell? ⟨b,o,none⟩=some u:=by
  intro k b o u hA hu;have hb:b<w.heap.size:=World.block_lt_of_cell? w _ hu;have Hw:¬dD (g.dX b):=by intro hh;cases hx:g.dX b with|none=>rw[hx]at hh;cases hh|some x=>exact h.J0 hx k o hA
  rw[World.cell?_of_block (a:=⟨b,o,none⟩) (je.block b hb Hw)];exact hu
 have hkp:∀b x,g.dX b=some x->¬dD (some x)->w'.heap[b]?=w.heap[b]?:=λb x hx hh=>je.block b (h.fQ b x hx).1 (by rw[hx];exact hh);let XH:Nat->ay jy:=λb=>if b∈fp then d.map .slot else if dD (g.dX b) then none else g.dX b
 have Od:Fr C.M C.w0 w':=h.frame.trans je (λb hb hh=>by cases hx:g.dX b with|none=>rw[hx]at hh;cases hh|some x=>rcases(h.fQ b x hx).2 with h2|h2;omega;exact h2);have Xd:∀s,iQ st s->iQ (st1.put d av) s:=by intro s hs;rw[GR];simpa[iQ,hb1]using hs
 have afl:(cH C {g with hw:=hw',hdr:=hdr'} st1 w').Le (cH C ⟨hw',g.β,XH,hdr'⟩ (st1.put d av) w'):=by refine⟨rfl,λt ht=>⟨by show lJ (st1.put d av) t;rw[Fl];exact ht,rfl⟩,λ_ _ _ _ _ hu=>hu,?_,λs hs=>⟨by show iQ (st1.put d av) s;rw[GR];exact hs,rfl⟩,λ_ b o u ho hu=>⟨ho,hu⟩⟩;show st1.ep<=(st1.put d av).ep;rw[Gi];exact aS _
 have hle:(cH C g st w).Le (cH C ⟨hw',g.β,XH,hdr'⟩ (st1.put d av) w'):=by refine⟨rfl,λt ht=>⟨by show lJ (st1.put d av) t;rw[Fl];exact(hi1 t ht).1,(hi1 t ht).2⟩,W4,?_,λs hs=>⟨Xd s hs,rfl⟩,λ_ b o u ho hu=>EY b o u ho hu⟩;show st.ep<=(st1.put d av).ep;rw[Gi,he1];exact aS _
 have afv:∀b x,g.dX b=some x->¬dD (some x)->b∉fp:=by intro b x hx hh hm;rcases(AU b hm).2 with h2|h2;rw[hx]at h2;exact hh h2;have:=(h.fQ b x hx).1;omega
 have aho:∀b x,g.dX b=some x->¬dD (some x)->XH b=some x:=by intro b x hx hh;show(if b∈fp then d.map jy.slot else if dD (g.dX b) then none else g.dX b)=some x;rw[aG (afv b x hx hh),aG (by rw[hx];exact hh),hx]
 refine⟨⟨hw',g.β,XH,hdr'⟩,h.step (λx=>¬dD (some x)/\some x≠d.map .slot) hle (by rw[Jc];exact h.defers) ?_ ?_ Od ?_ ?_ ?_ ?_ ?_ (.inl ⟨⟨by simp[jM],by cases d<;>simp⟩,by rw[Gw,alB]⟩)⟩;rw[R2];cases d with|none=>show _=st1.slots.length;rw[hs1];exact h.size|some d=>rw[fG,aB,hs1];exact h.size
 rw[jV,hb1];cases d with|none=>show _=st1.slots.length;rw[hs1];exact h.bsize|some d=>rw[fG,aB,hs1];exact h.bsize
 intro b x hx;have yT:(if b∈fp then d.map jy.slot else if dD (g.dX b) then none else g.dX b)=some x:=hx;by_cases hm:b∈fp;refine⟨(AU b hm).1,?_⟩;rcases(AU b hm).2 with h2|h2;cases hy:g.dX b with|none=>rw[hy]at h2;cases h2|some y=>exact(h.fQ b y hy).2
 exact .inl (bk h.frame.size h2);rw[aG hm]at yT;split at yT;cases yT;have:=h.fQ b x yT;have hz:=je.size;exact⟨by omega,this.2⟩;intro b x hk hx;exact⟨aho b x hx hk.1,hkp b x hx hk.1,CH b x hx hk.1⟩;intro i bv hi;cases d with
 |none=>
  have tU:st.slots[i]?=some bv:=by rw[<-hs1];exact hi
  exact .inl ⟨⟨by simp[jM],by simp⟩,tU,rfl⟩
 |some d=>
  have tU:(st.slots.set d av)[i]?=some bv:=by rw[<-hs1,<-fG];exact hi
  by_cases Qu:i=d;subst Qu;rw[bm]at tU;simp only[bM]at tU;split at tU;rename_i hG;simp at tU;subst tU;refine .inr ⟨fp,?_,hn,λb hb=>?_⟩;rw[FY];simp only[true_and,h.size,hG,bM];exact hr.mono afl (λb _=>⟨rfl,rfl⟩);show(if b∈fp then _ else _)=_;rw[aF hb];rfl;cases tU;refine .inl ⟨⟨by simp[jM],by simpa using Qu⟩,?_,by rw[FY];simp[Qu]⟩;rwa[aP (cL Qu)]at tU
 intro s cs hb;have gK:st.boxes[s]?=some (some cs):=by rw[<-hb1,<-jV (d:=d) (v:=av)];exact hb
 exact .inl ⟨⟨by simp[jM],by cases d<;>simp⟩,gK,rfl⟩;intro k u bv hk;simp at hk
theorem dH.aco (h:dH C g st a w hs)(x:Operand):∃g',(g'.β=g.β/\g'.hw=g.hw/\g'.hdr=g.hdr/\∀b s,g.dX b=some (.box s)->g'.dX b=some (.box s))/\dH C g' (st.take x).2 a w (hs++[(a.eval x,(st.take x).1)]):=by
 have plain:∀y,(st.take y)=(st.rd y,st)->∃g',(g'.β=g.β/\g'.hw=g.hw/\g'.hdr=g.hdr/\∀b s,g.dX b=some (.box s)->g'.dX b=some (.box s))/\dH C g' (st.take y).2 a w (hs++[(a.eval y,(st.take y).1)]):=by
  intro y hy;rw[hy];refine⟨g,⟨rfl,rfl,rfl,λ_ _ hb=>hb⟩,h.defers,h.size,h.bsize,h.slots,h.boxes,λk v av hk=>?_,h.fQ,h.frame,h.io⟩;rw[List.getElem?_append]at hk;split at hk;exact h.hands k v av hk;cases hm:k-hs.length with
  |zero=>rw[hm]at hk;simp at hk;obtain⟨rfl,rfl⟩:=hk;exact⟨[],h.rd y,by simp,by simp⟩
  |succ n=>rw[hm]at hk;simp at hk
 cases x with
 |const v=>exact plain _ rfl
 |func f=>exact plain _ rfl
 |global gl=>exact plain _ rfl
 |tmp t=>
  obtain⟨fp,hr,hn,hl⟩:=h.slot t;let bI:AS:=st.put (some t) ((st.get t).aQ st.ep);let g':Gh:={g with dX:=λb=>if b∈fp then some (.hand hs.length) else g.dX b}
  have hle:(cH C g st w).Le (cH C g' bI w):=by have:= @OA C g st w (some t) ((st.get t).aQ st.ep);exact⟨this.A,this.hdr,this.PO,this.ep,this.FA,this.Yo⟩
  have Sw:∀b y,y≠ .slot t->g.dX b=some y->g'.dX b=some y:=by intro b y hy hb;show(if b∈fp then _ else _)=_;rw[aG (λhm=>hy (by have:=hl b hm;rw[hb]at this;simpa using this))];exact hb
  refine⟨g',⟨rfl,rfl,rfl,λb s hb=>Sw b _ (by simp) hb⟩,?_⟩;show dH C g' bI a w (hs++[(a.tmps.getD t undef,st.get t)]);refine h.step (λy=>y≠ .slot t) hle h.defers (by show _=(st.put (some t) ((st.get t).aQ st.ep)).slots.length;rw[fG,aB];exact h.size) (by show(st.put (some t) ((st.get t).aQ st.ep)).boxes.length=(st.put (some t) ((st.get t).aQ st.ep)).slots.length;rw[jV,fG,aB];exact h.bsize) h.frame ?_ (λb y hy hb=>⟨Sw b y hy hb,rfl,rfl⟩) ?_ ?_ ?_ ?_;intro b y hb;have gK:(if b∈fp then some (jy.hand hs.length) else g.dX b)=some y:=hb;by_cases hm:b∈fp;exact h.fQ b _ (hl b hm);rw[aG hm]at gK;exact h.fQ b y gK;intro i bv hi;have tU:(st.slots.set t ((st.get t).aQ st.ep))[i]?=some bv:=by rw[<-fG];exact hi
  by_cases Qu:i=t;subst Qu;rw[bm]at tU;simp only[bM]at tU;split at tU;simp at tU;subst tU;exact .inr ⟨[],(hr.aQ).mono hle (by simp),by simp,by simp⟩;cases tU;rw[aP (cL Qu)]at tU;exact .inl ⟨by simpa using Qu,tU,rfl⟩;intro s cs hb;have gK:st.boxes[s]?=some (some cs):=by rw[<-jV (d:=some t) (v:=(st.get t).aQ st.ep)];exact hb
  exact .inl ⟨by simp,gK,rfl⟩;intro k v av hk;rw[List.getElem?_append]at hk;split at hk;exact .inl ⟨by simp,hk⟩;rename_i hG;cases hm:k-hs.length with
  |zero=>
   have:k=hs.length:=by omega
   subst this;rw[hm]at hk;simp only[cn,aZ,Prod.mk.injEq]at hk;obtain⟨rfl,rfl⟩:=hk;refine .inr ⟨fp,hr.mono hle (λb _=>⟨rfl,rfl⟩),hn,λb hb=>?_⟩;show(if b∈fp then _ else _)=_;rw[aF hb]
  |succ n=>rw[hm]at hk;simp at hk
  exact .inl ⟨by simp,Gw⟩
theorem dH.take (h:dH C g st a w hs)(x:Operand):∃g',dH C g' (st.take x).2 a w (hs++[(a.eval x,(st.take x).1)]):=by obtain⟨g',_,h'⟩:=h.aco x;exact⟨g',h'⟩
end Go.Dn
