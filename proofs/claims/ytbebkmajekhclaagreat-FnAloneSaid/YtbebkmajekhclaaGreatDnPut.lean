import Derived.Test.YtbebkmajekhclaaGreatDnSim
/- The ways in which a state goes on: a slot is written, an operand is taken over, memory grows. -/
namespace Go.Dn
open Go.RowKit
variable {C:Ctx} {g:Gh} {st:AS} {a:Act} {w:World} {hs:aw (Value×AV)}
variable {d:ay Nat}
theorem UX (d:ay Nat)(av:AV):(db C g st w).Le (db C g (st.put d av) w):=by refine⟨rfl,λt ht=>⟨by show nD (st.put d av) t;rw[JW];exact ht,rfl⟩,λ_ _ _ _ _ hv=>hv,?_,λs hs=>⟨by show jF (st.put d av) s;rw[LD];exact hs,rfl⟩,λ_ b o u ho hu=>⟨ho,hu⟩⟩;show st.ep<=(st.put d av).ep;rw[KW];exact bh _
theorem ew.quiet (h:ew C g st a w hs)(d:ay Nat){v:Value}{av:AV}(hr:gK (db C g st w) v av []): ew C g (st.put d av) (a.put d v) w hs:=by cases d with|none=>exact h|some d=>have hle:= @UX C g st w (some d) av;refine h.step (λx=>x≠ .slot d) hle (by rw[Ot];exact h.defers) (by rw[YR,gw,aB];exact h.size) (by rw[ll,gw,aB];exact h.bsize) h.frame h.gL (λb x _ hx=>⟨hx,rfl,rfl⟩) ?_ ?_ ?_ ?_;intro i bv hi;by_cases W9:i=d;subst W9;rw[gw,bG]at hi;simp only[cg]at hi;split at hi;rename_i gF;simp at hi;subst hi;refine .inr ⟨[],?_,by simp,by simp⟩;rw[KA];simp only[true_and,h.size,gF,cg];exact hr.mono hle (by simp);cases hi;refine .inl ⟨by simpa using W9,?_,by rw[KA];simp[W9]⟩;rwa[gw,aP (cR W9)]at hi;intro s cs hb;rw[ll]at hb;exact .inl ⟨by simp,hb,rfl⟩;intro k u bv hk;exact .inl ⟨by simp,hk⟩;exact .inl ⟨by simp,rfl⟩
theorem Bo {w w':World}(hf:Fr (λ_=>False) w w'){b o:Nat}{v:Value}(h:w.cell? ⟨b,o,none⟩=some v):w'.cell? ⟨b,o,none⟩=some v:=by have hb:b<w.heap.size:=World.block_lt_of_cell? w _ h;rw[World.cell?_of_block (a:=⟨b,o,none⟩) (hf.block b hb (λm=>m))];exact h
theorem ew.grow (h:ew C g st a w hs){w':World}(hf:Fr (λ_=>False) w w'):ew C g st a w' hs:=by
 have hle:(db C g st w).Le (db C g st w'):=⟨rfl,λ_ ht=>⟨ht,rfl⟩,λ_ _ _ _ _ hv=>Bo hf hv,bh _,λ_ hs=>⟨hs,rfl⟩,λ_ b o u ho hu=>⟨ho,Bo hf hu⟩⟩
 refine h.step (λ_=>True) hle h.defers h.size h.bsize (h.frame.trans hf (λb _ m=>m.elim)) (λb x hx=>?_) (λb x _ hx=>⟨hx,hf.block b (h.gL b x hx).1 (λm=>m),rfl⟩) ?_ ?_ ?_ ?_;have hx:=h.gL b x hx;have:=hf.size;exact⟨by omega,hx.2⟩;exact λi av hi=> .inl ⟨cy,hi,rfl⟩;exact λs cs hb=> .inl ⟨cy,hb,rfl⟩;exact λk v av hk=> .inl ⟨cy,hk⟩;exact .inl ⟨cy,rfl⟩
theorem Fr.drew (M:Nat->Prop)(w:World):Fr M w w.drew:=⟨rfl,rfl,rfl,bh _,λ_ _ _=>rfl⟩
theorem Fr.alloc (M:Nat->Prop)(w:World)(o:Obj):Fr M w (w.alloc o):=⟨rfl,rfl,rfl,by simp,λb hb _=>heap_alloc_old w o b hb⟩
def kN:ay kz->Bool
 |some (.hand _)=>true
 |_=>false
abbrev ei (x:ay kz):Prop:=kN x=true
theorem Lh {v:AV}:(st.put d v).io=st.io:=by cases d<;>rfl
theorem JV:(st.fX d).io=st.io:=by cases d<;>rfl
theorem vW:(st.fX d).slots=st.slots:=by cases d<;>rfl
theorem CA:(st.fX d).boxes=st.boxes:=by cases d<;>rfl
theorem BI:(st.fX d).ep=st.ep:=by cases d<;>rfl
theorem Et {t:Nat}(h:nD st t):nD (st.fX d) t:=by cases d with|none=>exact h|some d=>rcases h with h|h;exact .inl h;refine .inr ?_;simp only[AS.fX,ej,fV,bG]at h⊢;split;split<;>simp;exact h
theorem qH {j t:Nat}(h:st.iL d j=some t):¬nD st t/\nD (st.fX d) t/\∃d',d=some d'/\t=Kt d' j/\j<4096:=by
 cases d with
 |none=>simp[AS.iL]at h
 |some d=>
  simp only[AS.iL]at h;cases hi:(nth st.iss d).getD true with
  |true=>rw[hi]at h;simp at h
  |false=>
   rw[hi]at h;simp only[af]at h;cases hj:Nat.ble 4096 j with
   |true=>rw[hj]at h;simp at h
   |false=>
    rw[hj]at h;simp only[af,bp]at h;have hjl:j<4096:=by rcases cn j 4096 with hl|hg;exact hl;rw[iv hg]at hj;cases hj
    have hdiv:t/3/4096=d:=by rw[<-h,Kt];omega
    have an7:t%3=2:=by rw[<-h,Kt];omega
    refine⟨?_,.inr ?_,d,rfl,h.symm,hjl⟩;rintro(h1|h1);exact h1 an7;rw[hdiv,hi]at h1;cases h1;simp only[AS.fX,ej,fV,hdiv];rw[ej]at hi;have gF:d<st.iss.length:=by rcases cn d st.iss.length with hl|hg;exact hl;rw[bC hg]at hi;simp at hi
    simp[gF]
theorem ew.PT (h:ew C g st a w hs)(d:ay Nat){v:Value}{av:AV}{fp:fE}{w':World}{hw':Nat->Nat}{hdr':Nat->Value}{st1:AS}(avr:st1.io=st.io)(hs1:st1.slots=st.slots)(hb1:st1.boxes=st.boxes)(he1:st1.ep=st.ep)(hi1:∀t,nD st t->nD st1 t/\hdr' t=g.hdr t)(jH:Fr (λb=>ei (g.eX b)) w w')(GW:∀b x,g.eX b=some x->¬ei (some x)->hw' b=g.hw b)(Jx:∀b o u,o<g.hw b->w.cell? ⟨b,o,none⟩=some u->o<hw' b/\w'.cell? ⟨b,o,none⟩=some u)(hr:gK (db C {g with hw:=hw',hdr:=hdr'} st1 w') v av fp)(hn:fp.Nodup)(E7:∀b∈fp,b<w'.heap.size/\(ei (g.eX b)\/w.heap.size<=b)): ∃g',ew C g' (st1.put d av) (a.put d v) w' []:=by
 have hcA:∀k b o u,C.A k b o->w.cell? ⟨b,o,none⟩=some u->w'.cell? ⟨b,o,none⟩=some u:=by
  intro k b o u hA hu;have hb:b<w.heap.size:=World.block_lt_of_cell? w _ hu;have Mm:¬ei (g.eX b):=by intro hh;cases hx:g.eX b with|none=>rw[hx]at hh;cases hh|some x=>exact h.Pq hx k o hA
  rw[World.cell?_of_block (a:=⟨b,o,none⟩) (jH.block b hb Mm)];exact hu
 have hkp:∀b x,g.eX b=some x->¬ei (some x)->w'.heap[b]?=w.heap[b]?:=λb x hx hh=>jH.block b (h.gL b x hx).1 (by rw[hx];exact hh);let afz:Nat->ay kz:=λb=>if b∈fp then d.map .slot else if ei (g.eX b) then none else g.eX b
 have Uy:Fr C.M C.w0 w':=h.frame.trans jH (λb hb hh=>by cases hx:g.eX b with|none=>rw[hx]at hh;cases hh|some x=>rcases(h.gL b x hx).2 with h2|h2;omega;exact h2);have hpr:∀s,jF st s->jF (st1.put d av) s:=by intro s hs;rw[LD];simpa[jF,hb1]using hs
 have an1:(db C {g with hw:=hw',hdr:=hdr'} st1 w').Le (db C ⟨hw',g.β,afz,hdr'⟩ (st1.put d av) w'):=by refine⟨rfl,λt ht=>⟨by show nD (st1.put d av) t;rw[JW];exact ht,rfl⟩,λ_ _ _ _ _ hu=>hu,?_,λs hs=>⟨by show jF (st1.put d av) s;rw[LD];exact hs,rfl⟩,λ_ b o u ho hu=>⟨ho,hu⟩⟩;show st1.ep<=(st1.put d av).ep;rw[KW];exact bh _
 have hle:(db C g st w).Le (db C ⟨hw',g.β,afz,hdr'⟩ (st1.put d av) w'):=by refine⟨rfl,λt ht=>⟨by show nD (st1.put d av) t;rw[JW];exact(hi1 t ht).1,(hi1 t ht).2⟩,hcA,?_,λs hs=>⟨hpr s hs,rfl⟩,λ_ b o u ho hu=>Jx b o u ho hu⟩;show st.ep<=(st1.put d av).ep;rw[KW,he1];exact bh _
 have aob:∀b x,g.eX b=some x->¬ei (some x)->b∉fp:=by intro b x hx hh hm;rcases(E7 b hm).2 with h2|h2;rw[hx]at h2;exact hh h2;have:=(h.gL b x hx).1;omega
 have aqj:∀b x,g.eX b=some x->¬ei (some x)->afz b=some x:=by intro b x hx hh;show(if b∈fp then d.map kz.slot else if ei (g.eX b) then none else g.eX b)=some x;rw[aG (aob b x hx hh),aG (by rw[hx];exact hh),hx]
 refine⟨⟨hw',g.β,afz,hdr'⟩,h.step (λx=>¬ei (some x)/\some x≠d.map .slot) hle (by rw[Ot];exact h.defers) ?_ ?_ Uy ?_ ?_ ?_ ?_ ?_ (.inl ⟨⟨by simp[kN],by cases d<;>simp⟩,by rw[Lh,avr]⟩)⟩;rw[YR];cases d with|none=>show _=st1.slots.length;rw[hs1];exact h.size|some d=>rw[gw,aB,hs1];exact h.size
 rw[ll,hb1];cases d with|none=>show _=st1.slots.length;rw[hs1];exact h.bsize|some d=>rw[gw,aB,hs1];exact h.bsize
 intro b x hx;have Cp:(if b∈fp then d.map kz.slot else if ei (g.eX b) then none else g.eX b)=some x:=hx;by_cases hm:b∈fp;refine⟨(E7 b hm).1,?_⟩;rcases(E7 b hm).2 with h2|h2;cases hy:g.eX b with|none=>rw[hy]at h2;cases h2|some y=>exact(h.gL b y hy).2
 exact .inl (bq h.frame.size h2);rw[aG hm]at Cp;split at Cp;cases Cp;have:=h.gL b x Cp;have hz:=jH.size;exact⟨by omega,this.2⟩;intro b x hk hx;exact⟨aqj b x hx hk.1,hkp b x hx hk.1,GW b x hx hk.1⟩;intro i bv hi;cases d with
 |none=>
  have uL:st.slots[i]?=some bv:=by rw[<-hs1];exact hi
  exact .inl ⟨⟨by simp[kN],by simp⟩,uL,rfl⟩
 |some d=>
  have uL:(st.slots.set d av)[i]?=some bv:=by rw[<-hs1,<-gw];exact hi
  by_cases W9:i=d;subst W9;rw[bG]at uL;simp only[cg]at uL;split at uL;rename_i gF;simp at uL;subst uL;refine .inr ⟨fp,?_,hn,λb hb=>?_⟩;rw[KA];simp only[true_and,h.size,gF,cg];exact hr.mono an1 (λb _=>⟨rfl,rfl⟩);show(if b∈fp then _ else _)=_;rw[aH hb];rfl;cases uL;refine .inl ⟨⟨by simp[kN],by simpa using W9⟩,?_,by rw[KA];simp[W9]⟩;rwa[aP (cR W9)]at uL
 intro s cs hb;have ix:st.boxes[s]?=some (some cs):=by rw[<-hb1,<-ll (d:=d) (v:=av)];exact hb
 exact .inl ⟨⟨by simp[kN],by cases d<;>simp⟩,ix,rfl⟩;intro k u bv hk;simp at hk
theorem ew.akB (h:ew C g st a w hs)(x:Operand):∃g',(g'.β=g.β/\g'.hw=g.hw/\g'.hdr=g.hdr/\∀b s,g.eX b=some (.box s)->g'.eX b=some (.box s))/\ew C g' (st.take x).2 a w (hs++[(a.eval x,(st.take x).1)]):=by
 have plain:∀y,(st.take y)=(st.rd y,st)->∃g',(g'.β=g.β/\g'.hw=g.hw/\g'.hdr=g.hdr/\∀b s,g.eX b=some (.box s)->g'.eX b=some (.box s))/\ew C g' (st.take y).2 a w (hs++[(a.eval y,(st.take y).1)]):=by
  intro y hy;rw[hy];refine⟨g,⟨rfl,rfl,rfl,λ_ _ hb=>hb⟩,h.defers,h.size,h.bsize,h.slots,h.boxes,λk v av hk=>?_,h.gL,h.frame,h.io⟩;rw[List.getElem?_append]at hk;split at hk;exact h.hands k v av hk;cases hm:k-hs.length with
  |zero=>rw[hm]at hk;simp at hk;obtain⟨rfl,rfl⟩:=hk;exact⟨[],h.rd y,by simp,by simp⟩
  |succ n=>rw[hm]at hk;simp at hk
 cases x with
 |const v=>exact plain _ rfl
 |func f=>exact plain _ rfl
 |global gl=>exact plain _ rfl
 |tmp t=>
  obtain⟨fp,hr,hn,hl⟩:=h.slot t;let bU:AS:=st.put (some t) ((st.get t).bg st.ep);let g':Gh:={g with eX:=λb=>if b∈fp then some (.hand hs.length) else g.eX b}
  have hle:(db C g st w).Le (db C g' bU w):=by have:= @UX C g st w (some t) ((st.get t).bg st.ep);exact⟨this.A,this.hdr,this.Wa,this.ep,this.Kb,this.agf⟩
  have ZE:∀b y,y≠ .slot t->g.eX b=some y->g'.eX b=some y:=by intro b y hy hb;show(if b∈fp then _ else _)=_;rw[aG (λhm=>hy (by have:=hl b hm;rw[hb]at this;simpa using this))];exact hb
  refine⟨g',⟨rfl,rfl,rfl,λb s hb=>ZE b _ (by simp) hb⟩,?_⟩;show ew C g' bU a w (hs++[(a.tmps.getD t undef,st.get t)]);refine h.step (λy=>y≠ .slot t) hle h.defers (by show _=(st.put (some t) ((st.get t).bg st.ep)).slots.length;rw[gw,aB];exact h.size) (by show(st.put (some t) ((st.get t).bg st.ep)).boxes.length=(st.put (some t) ((st.get t).bg st.ep)).slots.length;rw[ll,gw,aB];exact h.bsize) h.frame ?_ (λb y hy hb=>⟨ZE b y hy hb,rfl,rfl⟩) ?_ ?_ ?_ ?_;intro b y hb;have ix:(if b∈fp then some (kz.hand hs.length) else g.eX b)=some y:=hb;by_cases hm:b∈fp;exact h.gL b _ (hl b hm);rw[aG hm]at ix;exact h.gL b y ix;intro i bv hi;have uL:(st.slots.set t ((st.get t).bg st.ep))[i]?=some bv:=by rw[<-gw];exact hi
  by_cases W9:i=t;subst W9;rw[bG]at uL;simp only[cg]at uL;split at uL;simp at uL;subst uL;exact .inr ⟨[],(hr.bg).mono hle (by simp),by simp,by simp⟩;cases uL;rw[aP (cR W9)]at uL;exact .inl ⟨by simpa using W9,uL,rfl⟩;intro s cs hb;have ix:st.boxes[s]?=some (some cs):=by rw[<-ll (d:=some t) (v:=(st.get t).bg st.ep)];exact hb
  exact .inl ⟨by simp,ix,rfl⟩;intro k v av hk;rw[List.getElem?_append]at hk;split at hk;exact .inl ⟨by simp,hk⟩;rename_i gF;cases hm:k-hs.length with
  |zero=>
   have:k=hs.length:=by omega
   subst this;rw[hm]at hk;simp only[cC,bp,Prod.mk.injEq]at hk;obtain⟨rfl,rfl⟩:=hk;refine .inr ⟨fp,hr.mono hle (λb _=>⟨rfl,rfl⟩),hn,λb hb=>?_⟩;show(if b∈fp then _ else _)=_;rw[aH hb]
  |succ n=>rw[hm]at hk;simp at hk
  exact .inl ⟨by simp,Lh⟩
theorem ew.take (h:ew C g st a w hs)(x:Operand):∃g',ew C g' (st.take x).2 a w (hs++[(a.eval x,(st.take x).1)]):=by obtain⟨g',_,h'⟩:=h.akB x;exact⟨g',h'⟩
end Go.Dn
