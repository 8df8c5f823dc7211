import Derived.Test.YtnmppgnbjfdffaaGreatDnSim
/- The ways in which a state goes on: a slot is written, an operand is taken over, memory grows. -/
namespace Go.Dn
open Go.RowKit
variable {C:Ctx} {g:Gh} {st:AS} {a:Act} {w:World} {hs:aw (Value×AV)}
variable {d:ax Nat}
theorem PG (d:ax Nat)(av:AV):(cH C g st w).Le (cH C g (st.put d av) w):=by refine⟨rfl,λt ht=>⟨by show md (st.put d av) t;rw[F8];exact ht,rfl⟩,λ_ _ _ _ _ hv=>hv,?_,λs hs=>⟨by show iS (st.put d av) s;rw[HH];exact hs,rfl⟩,λ_ b o u ho hu=>⟨ho,hu⟩⟩;show st.ep<=(st.put d av).ep;rw[G5];exact aU _
theorem dM.quiet (h:dM C g st a w hs)(d:ax Nat){v:Value}{av:AV}(hr:fR (cH C g st w) v av []): dM C g (st.put d av) (a.put d v) w hs:=by cases d with|none=>exact h|some d=>have hle:= @PG C g st w (some d) av;refine h.step (λx=>x≠ .slot d) hle (by rw[J1];exact h.defers) (by rw[Tb,fK,aC];exact h.size) (by rw[kb,fK,aC];exact h.bsize) h.frame h.fS (λb x _ hx=>⟨hx,rfl,rfl⟩) ?_ ?_ ?_ ?_;intro i bv hi;by_cases RB:i=d;subst RB;rw[fK,br]at hi;simp only[bN]at hi;split at hi;rename_i gQ;simp at hi;subst hi;refine .inr ⟨[],?_,by simp,by simp⟩;rw[GK];simp only[true_and,h.size,gQ,bN];exact hr.mono hle (by simp);cases hi;refine .inl ⟨by simpa using RB,?_,by rw[GK];simp[RB]⟩;rwa[fK,aO (cO RB)]at hi;intro s cs hb;rw[kb]at hb;exact .inl ⟨by simp,hb,rfl⟩;intro k u bv hk;exact .inl ⟨by simp,hk⟩;exact .inl ⟨by simp,rfl⟩
theorem xV {w w':World}(hf:Fr (λ_=>False) w w'){b o:Nat}{v:Value}(h:w.cell? ⟨b,o,none⟩=some v):w'.cell? ⟨b,o,none⟩=some v:=by have hb:b<w.heap.size:=World.block_lt_of_cell? w _ h;rw[World.cell?_of_block (a:=⟨b,o,none⟩) (hf.block b hb (λm=>m))];exact h
theorem dM.grow (h:dM C g st a w hs){w':World}(hf:Fr (λ_=>False) w w'):dM C g st a w' hs:=by
 have hle:(cH C g st w).Le (cH C g st w'):=⟨rfl,λ_ ht=>⟨ht,rfl⟩,λ_ _ _ _ _ hv=>xV hf hv,aU _,λ_ hs=>⟨hs,rfl⟩,λ_ b o u ho hu=>⟨ho,xV hf hu⟩⟩
 refine h.step (λ_=>True) hle h.defers h.size h.bsize (h.frame.trans hf (λb _ m=>m.elim)) (λb x hx=>?_) (λb x _ hx=>⟨hx,hf.block b (h.fS b x hx).1 (λm=>m),rfl⟩) ?_ ?_ ?_ ?_;have hx:=h.fS b x hx;have:=hf.size;exact⟨by omega,hx.2⟩;exact λi av hi=> .inl ⟨cv,hi,rfl⟩;exact λs cs hb=> .inl ⟨cv,hb,rfl⟩;exact λk v av hk=> .inl ⟨cv,hk⟩;exact .inl ⟨cv,rfl⟩
theorem Fr.drew (M:Nat->Prop)(w:World):Fr M w w.drew:=⟨rfl,rfl,rfl,aU _,λ_ _ _=>rfl⟩
theorem Fr.alloc (M:Nat->Prop)(w:World)(o:Obj):Fr M w (w.alloc o):=⟨rfl,rfl,rfl,by simp,λb hb _=>heap_alloc_old w o b hb⟩
def jN:ax jy->Bool
 |some (.hand _)=>true
 |_=>false
abbrev dE (x:ax jy):Prop:=jN x=true
theorem Hn {v:AV}:(st.put d v).io=st.io:=by cases d<;>rfl
theorem F7:(st.fz d).io=st.io:=by cases d<;>rfl
theorem sZ:(st.fz d).slots=st.slots:=by cases d<;>rfl
theorem yW:(st.fz d).boxes=st.boxes:=by cases d<;>rfl
theorem yl:(st.fz d).ep=st.ep:=by cases d<;>rfl
theorem Bj {t:Nat}(h:md st t):md (st.fz d) t:=by cases d with|none=>exact h|some d=>rcases h with h|h;exact .inl h;refine .inr ?_;simp only[AS.fz,dJ,ft,br]at h⊢;split;split<;>simp;exact h
theorem oK {j t:Nat}(h:st.gS d j=some t):¬md st t/\md (st.fz d) t/\∃d',d=some d'/\t=GF d' j/\j<4096:=by
 cases d with
 |none=>simp[AS.gS]at h
 |some d=>
  simp only[AS.gS]at h;cases hi:(nth st.iss d).getD true with
  |true=>rw[hi]at h;simp at h
  |false=>
   rw[hi]at h;simp only[af]at h;cases hj:Nat.ble 4096 j with
   |true=>rw[hj]at h;simp at h
   |false=>
    rw[hj]at h;simp only[af,aZ]at h;have hjl:j<4096:=by rcases cc j 4096 with hl|hg;exact hl;rw[gD hg]at hj;cases hj
    have hdiv:t/3/4096=d:=by rw[<-h,GF];omega
    have ag8:t%3=2:=by rw[<-h,GF];omega
    refine⟨?_,.inr ?_,d,rfl,h.symm,hjl⟩;rintro(h1|h1);exact h1 ag8;rw[hdiv,hi]at h1;cases h1;simp only[AS.fz,dJ,ft,hdiv];rw[dJ]at hi;have gQ:d<st.iss.length:=by rcases cc d st.iss.length with hl|hg;exact hl;rw[bh hg]at hi;simp at hi
    simp[gQ]
theorem dM.Ll (h:dM C g st a w hs)(d:ax Nat){v:Value}{av:AV}{fp:fw}{w':World}{hw':Nat->Nat}{hdr':Nat->Value}{st1:AS}(anm:st1.io=st.io)(hs1:st1.slots=st.slots)(hb1:st1.boxes=st.boxes)(he1:st1.ep=st.ep)(hi1:∀t,md st t->md st1 t/\hdr' t=g.hdr t)(jf:Fr (λb=>dE (g.ej b)) w w')(Dp:∀b x,g.ej b=some x->¬dE (some x)->hw' b=g.hw b)(FJ:∀b o u,o<g.hw b->w.cell? ⟨b,o,none⟩=some u->o<hw' b/\w'.cell? ⟨b,o,none⟩=some u)(hr:fR (cH C {g with hw:=hw',hdr:=hdr'} st1 w') v av fp)(hn:fp.Nodup)(BM:∀b∈fp,b<w'.heap.size/\(dE (g.ej b)\/w.heap.size<=b)): ∃g',dM C g' (st1.put d av) (a.put d v) w' []:=by
 have Yp:∀k b o u,C.A k b o->w.cell? ⟨b,o,none⟩=some u->w'.cell? ⟨b,o,none⟩=some u:=by
  intro k b o u hA hu;have hb:b<w.heap.size:=World.block_lt_of_cell? w _ hu;have Im:¬dE (g.ej b):=by intro hh;cases hx:g.ej b with|none=>rw[hx]at hh;cases hh|some x=>exact h.KR hx k o hA
  rw[World.cell?_of_block (a:=⟨b,o,none⟩) (jf.block b hb Im)];exact hu
 have hkp:∀b x,g.ej b=some x->¬dE (some x)->w'.heap[b]?=w.heap[b]?:=λb x hx hh=>jf.block b (h.fS b x hx).1 (by rw[hx];exact hh);let Zg:Nat->ax jy:=λb=>if b∈fp then d.map .slot else if dE (g.ej b) then none else g.ej b
 have Pg:Fr C.M C.w0 w':=h.frame.trans jf (λb hb hh=>by cases hx:g.ej b with|none=>rw[hx]at hh;cases hh|some x=>rcases(h.fS b x hx).2 with h2|h2;omega;exact h2);have Yy:∀s,iS st s->iS (st1.put d av) s:=by intro s hs;rw[HH];simpa[iS,hb1]using hs
 have agZ:(cH C {g with hw:=hw',hdr:=hdr'} st1 w').Le (cH C ⟨hw',g.β,Zg,hdr'⟩ (st1.put d av) w'):=by refine⟨rfl,λt ht=>⟨by show md (st1.put d av) t;rw[F8];exact ht,rfl⟩,λ_ _ _ _ _ hu=>hu,?_,λs hs=>⟨by show iS (st1.put d av) s;rw[HH];exact hs,rfl⟩,λ_ b o u ho hu=>⟨ho,hu⟩⟩;show st1.ep<=(st1.put d av).ep;rw[G5];exact aU _
 have hle:(cH C g st w).Le (cH C ⟨hw',g.β,Zg,hdr'⟩ (st1.put d av) w'):=by refine⟨rfl,λt ht=>⟨by show md (st1.put d av) t;rw[F8];exact(hi1 t ht).1,(hi1 t ht).2⟩,Yp,?_,λs hs=>⟨Yy s hs,rfl⟩,λ_ b o u ho hu=>FJ b o u ho hu⟩;show st.ep<=(st1.put d av).ep;rw[G5,he1];exact aU _
 have ahc:∀b x,g.ej b=some x->¬dE (some x)->b∉fp:=by intro b x hx hh hm;rcases(BM b hm).2 with h2|h2;rw[hx]at h2;exact hh h2;have:=(h.fS b x hx).1;omega
 have ai4:∀b x,g.ej b=some x->¬dE (some x)->Zg b=some x:=by intro b x hx hh;show(if b∈fp then d.map jy.slot else if dE (g.ej b) then none else g.ej b)=some x;rw[aH (ahc b x hx hh),aH (by rw[hx];exact hh),hx]
 refine⟨⟨hw',g.β,Zg,hdr'⟩,h.step (λx=>¬dE (some x)/\some x≠d.map .slot) hle (by rw[J1];exact h.defers) ?_ ?_ Pg ?_ ?_ ?_ ?_ ?_ (.inl ⟨⟨by simp[jN],by cases d<;>simp⟩,by rw[Hn,anm]⟩)⟩;rw[Tb];cases d with|none=>show _=st1.slots.length;rw[hs1];exact h.size|some d=>rw[fK,aC,hs1];exact h.size
 rw[kb,hb1];cases d with|none=>show _=st1.slots.length;rw[hs1];exact h.bsize|some d=>rw[fK,aC,hs1];exact h.bsize
 intro b x hx;have zQ:(if b∈fp then d.map jy.slot else if dE (g.ej b) then none else g.ej b)=some x:=hx;by_cases hm:b∈fp;refine⟨(BM b hm).1,?_⟩;rcases(BM b hm).2 with h2|h2;cases hy:g.ej b with|none=>rw[hy]at h2;cases h2|some y=>exact(h.fS b y hy).2
 exact .inl (bw h.frame.size h2);rw[aH hm]at zQ;split at zQ;cases zQ;have:=h.fS b x zQ;have hz:=jf.size;exact⟨by omega,this.2⟩;intro b x hk hx;exact⟨ai4 b x hx hk.1,hkp b x hx hk.1,Dp b x hx hk.1⟩;intro i bv hi;cases d with
 |none=>
  have nu:st.slots[i]?=some bv:=by rw[<-hs1];exact hi
  exact .inl ⟨⟨by simp[jN],by simp⟩,nu,rfl⟩
 |some d=>
  have nu:(st.slots.set d av)[i]?=some bv:=by rw[<-hs1,<-fK];exact hi
  by_cases RB:i=d;subst RB;rw[br]at nu;simp only[bN]at nu;split at nu;rename_i gQ;simp at nu;subst nu;refine .inr ⟨fp,?_,hn,λb hb=>?_⟩;rw[GK];simp only[true_and,h.size,gQ,bN];exact hr.mono agZ (λb _=>⟨rfl,rfl⟩);show(if b∈fp then _ else _)=_;rw[aE hb];rfl;cases nu;refine .inl ⟨⟨by simp[jN],by simpa using RB⟩,?_,by rw[GK];simp[RB]⟩;rwa[aO (cO RB)]at nu
 intro s cs hb;have gM:st.boxes[s]?=some (some cs):=by rw[<-hb1,<-kb (d:=d) (v:=av)];exact hb
 exact .inl ⟨⟨by simp[jN],by cases d<;>simp⟩,gM,rfl⟩;intro k u bv hk;simp at hk
theorem dM.adY (h:dM C g st a w hs)(x:Operand):∃g',(g'.β=g.β/\g'.hw=g.hw/\g'.hdr=g.hdr/\∀b s,g.ej b=some (.box s)->g'.ej b=some (.box s))/\dM C g' (st.take x).2 a w (hs++[(a.eval x,(st.take x).1)]):=by
 have plain:∀y,(st.take y)=(st.rd y,st)->∃g',(g'.β=g.β/\g'.hw=g.hw/\g'.hdr=g.hdr/\∀b s,g.ej b=some (.box s)->g'.ej b=some (.box s))/\dM C g' (st.take y).2 a w (hs++[(a.eval y,(st.take y).1)]):=by
  intro y hy;rw[hy];refine⟨g,⟨rfl,rfl,rfl,λ_ _ hb=>hb⟩,h.defers,h.size,h.bsize,h.slots,h.boxes,λk v av hk=>?_,h.fS,h.frame,h.io⟩;rw[List.getElem?_append]at hk;split at hk;exact h.hands k v av hk;cases hm:k-hs.length with
  |zero=>rw[hm]at hk;simp at hk;obtain⟨rfl,rfl⟩:=hk;exact⟨[],h.rd y,by simp,by simp⟩
  |succ n=>rw[hm]at hk;simp at hk
 cases x with
 |const v=>exact plain _ rfl
 |func f=>exact plain _ rfl
 |global gl=>exact plain _ rfl
 |tmp t=>
  obtain⟨fp,hr,hn,hl⟩:=h.slot t;let bH:AS:=st.put (some t) ((st.get t).aR st.ep);let g':Gh:={g with ej:=λb=>if b∈fp then some (.hand hs.length) else g.ej b}
  have hle:(cH C g st w).Le (cH C g' bH w):=by have:= @PG C g st w (some t) ((st.get t).aR st.ep);exact⟨this.A,this.hdr,this.QT,this.ep,this.Gl,this.ZX⟩
  have TH:∀b y,y≠ .slot t->g.ej b=some y->g'.ej b=some y:=by intro b y hy hb;show(if b∈fp then _ else _)=_;rw[aH (λhm=>hy (by have:=hl b hm;rw[hb]at this;simpa using this))];exact hb
  refine⟨g',⟨rfl,rfl,rfl,λb s hb=>TH b _ (by simp) hb⟩,?_⟩;show dM C g' bH a w (hs++[(a.tmps.getD t undef,st.get t)]);refine h.step (λy=>y≠ .slot t) hle h.defers (by show _=(st.put (some t) ((st.get t).aR st.ep)).slots.length;rw[fK,aC];exact h.size) (by show(st.put (some t) ((st.get t).aR st.ep)).boxes.length=(st.put (some t) ((st.get t).aR st.ep)).slots.length;rw[kb,fK,aC];exact h.bsize) h.frame ?_ (λb y hy hb=>⟨TH b y hy hb,rfl,rfl⟩) ?_ ?_ ?_ ?_;intro b y hb;have gM:(if b∈fp then some (jy.hand hs.length) else g.ej b)=some y:=hb;by_cases hm:b∈fp;exact h.fS b _ (hl b hm);rw[aH hm]at gM;exact h.fS b y gM;intro i bv hi;have nu:(st.slots.set t ((st.get t).aR st.ep))[i]?=some bv:=by rw[<-fK];exact hi
  by_cases RB:i=t;subst RB;rw[br]at nu;simp only[bN]at nu;split at nu;simp at nu;subst nu;exact .inr ⟨[],(hr.aR).mono hle (by simp),by simp,by simp⟩;cases nu;rw[aO (cO RB)]at nu;exact .inl ⟨by simpa using RB,nu,rfl⟩;intro s cs hb;have gM:st.boxes[s]?=some (some cs):=by rw[<-kb (d:=some t) (v:=(st.get t).aR st.ep)];exact hb
  exact .inl ⟨by simp,gM,rfl⟩;intro k v av hk;rw[List.getElem?_append]at hk;split at hk;exact .inl ⟨by simp,hk⟩;rename_i gQ;cases hm:k-hs.length with
  |zero=>
   have:k=hs.length:=by omega
   subst this;rw[hm]at hk;simp only[cr,aZ,Prod.mk.injEq]at hk;obtain⟨rfl,rfl⟩:=hk;refine .inr ⟨fp,hr.mono hle (λb _=>⟨rfl,rfl⟩),hn,λb hb=>?_⟩;show(if b∈fp then _ else _)=_;rw[aE hb]
  |succ n=>rw[hm]at hk;simp at hk
  exact .inl ⟨by simp,Hn⟩
theorem dM.take (h:dM C g st a w hs)(x:Operand):∃g',dM C g' (st.take x).2 a w (hs++[(a.eval x,(st.take x).1)]):=by obtain⟨g',_,h'⟩:=h.adY x;exact⟨g',h'⟩
end Go.Dn
