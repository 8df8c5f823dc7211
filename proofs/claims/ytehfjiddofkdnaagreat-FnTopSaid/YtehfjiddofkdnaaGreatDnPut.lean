import Derived.Test.YtehfjiddofkdnaaGreatDnSim
/- The ways in which a state goes on. -/
open Option renaming none->W,some->I
namespace Go.Dn
open Go.RowKit
variable {C:Ctx} {g:Gh} {st:AS} {a:Act} {w:World} {hs:Z (Value×AV)}
variable {d:aS Nat}
theorem acB d a:(dQ C g st w).Le (dQ C g (st.put d a) w):=by refine⟨rfl,λt e=>⟨by show rE (st.put d a) t;rw[Ra];exact e,rfl⟩,λ_ _ _ _ _ h=>h,?_,λs hs=>⟨by show mn (st.put d a) s;rw[Tn];exact hs,rfl⟩,λ_ b o u c f=>⟨c,f⟩⟩;show st.ep<=(st.put d a).ep;rw[SE];exact bq _
theorem fL.quiet (h:fL C g st a w hs)d{v av}(o:iY (dQ C g st w) v av []): fL C g (st.put d av) (a.put d v) w hs:=by cases d with|none=>exact h|some d=>have f:= @acB C g st w (I d) av;refine h.step (λx=>x≠ .slot d) f (by rw[Wd];exact h.defers) (by rw[af7,iX,aC];exact h.size) (by rw[oA,iX,aC];exact h.bsize) h.frame h.ju (λb x _ p=>⟨p,rfl,rfl⟩) ?_ ?_ ?_ ?_;intro i l e;by_cases c:i=d;subst c;rw[iX,bX]at e;simp only[dm]at e;split at e;rename_i n;simp at e;subst e;refine .inr ⟨[],?_,aD,aD⟩;rw[Se];simp only[true_and,h.size,n,dm];exact o.mono f aD;cases e;refine .inl ⟨by simpa using c,?_,by rw[Se];simp[c]⟩;rwa[iX,aJ (cI c)]at e;intro s q j;rw[oA]at j;exact .inl ⟨aD,j,rfl⟩;intro k u l m;exact .inl ⟨aD,m⟩;exact .inl ⟨aD,rfl⟩
theorem HC {w c}(hf:Fr (λ_=>False) w c){b o v}(h:w.cell? ⟨b,o,W⟩=I v):c.cell? ⟨b,o,W⟩=I v:=by have d:b<w.heap.size:=World.block_lt_of_cell? w _ h;rw[World.cell?_of_block (a:=⟨b,o,W⟩) (hf.block b d (λm=>m))];exact h
theorem fL.grow (h:fL C g st a w hs){f}(d:Fr (λ_=>False) w f):fL C g st a f hs:=by
 have e:(dQ C g st w).Le (dQ C g st f):=⟨rfl,λ_ r=>⟨r,rfl⟩,λ_ _ _ _ _ y=>HC d y,bq _,λ_ hs=>⟨hs,rfl⟩,λ_ b o u q t=>⟨q,HC d t⟩⟩
 refine h.step (λ_=>True) e h.defers h.size h.bsize (h.frame.trans d (λb _ m=>m.elim)) (λb x c=>?_) (λb x _ c=>⟨c,d.block b (h.ju b x c).1 (λm=>m),rfl⟩) ?_ ?_ ?_ ?_;have c:=h.ju b x c;have:=d.size;exact⟨J,c.2⟩;exact λi j n=> .inl ⟨B,n,rfl⟩;exact λs z l=> .inl ⟨B,l,rfl⟩;exact λk v j p=> .inl ⟨B,p⟩;exact .inl ⟨B,rfl⟩
theorem Fr.drew M w:Fr M w w.drew:=⟨rfl,rfl,rfl,bq _,λ_ _ _=>rfl⟩
theorem Fr.alloc M w o:Fr M w (w.alloc o):=⟨rfl,rfl,rfl,aD,λb a _=>heap_alloc_old w o b a⟩
def nX:aS oN->Bool
 |some (.hand _)=>true
 |_=>false
abbrev fH x:=nX x=true
theorem S0 {v}:(st.put d v).io=st.io:=by cases d<;>rfl
theorem Q9:(st.iC d).io=st.io:=by cases d<;>rfl
theorem Cj:(st.iC d).slots=st.slots:=by cases d<;>rfl
theorem I4:(st.iC d).boxes=st.boxes:=by cases d<;>rfl
theorem HW:(st.iC d).ep=st.ep:=by cases d<;>rfl
theorem Lo {t}(h:rE st t):rE (st.iC d) t:=by cases d with|none=>exact h|some d=>rcases h with h|h;exact .inl h;refine .inr ?_;simp only[AS.iC,fJ,iA,bX]at h⊢;split;split<;>simp;exact h
theorem wq {j t}(h:st.kL d j=I t):¬rE st t/\rE (st.iC d) t/\∃k,d=I k/\t=R6 k j/\j<4096:=by
 cases d with
 |none=>simp[AS.kL]at h
 |some d=>
  simp only[AS.kL]at h;cases a:(nth st.iss d).getD true with
  |true=>rw[a]at h;simp at h
  |false=>
   rw[a]at h;simp only[ab]at h;cases c:Nat.ble 4096 j with
   |true=>rw[c]at h;simp at h
   |false=>
    rw[c]at h;simp only[ab,bI]at h;have f:j<4096:=by rcases ca j 4096 with g|e;exact g;rw[kj e]at c;cases c
    have hdiv:t/3/4096=d:=by rw[<-h,R6];omega
    have i:t%3=2:=by rw[<-h,R6];omega
    refine⟨?_,.inr ?_,d,rfl,h.symm,f⟩;rintro(b|b);exact b i;rw[hdiv,a]at b;cases b;simp only[AS.iC,fJ,iA,hdiv];rw[fJ]at a;have l:d<st.iss.length:=by rcases ca d st.iss.length with g|e;exact g;rw[cn e]at a;simp at a
    simp[l]
theorem fL.XL (h:fL C g st a w hs)d{v j fp n hw' hdr' st1}(V:st1.io=st.io)(f:st1.slots=st.slots)(D:st1.boxes=st.boxes)(S:st1.ep=st.ep)(H:∀t,rE st t->rE st1 t/\hdr' t=g.hdr t)(p:Fr (λb=>fH (g.gb b)) w n)(U:∀b x,g.gb b=I x->¬fH (I x)->hw' b=g.hw b)(auC:∀b o u,o<g.hw b->w.cell? ⟨b,o,W⟩=I u->o<hw' b/\n.cell? ⟨b,o,W⟩=I u)(hr:iY (dQ C {g with hw:=hw',hdr:=hdr'} st1 n) v j fp)(hn:fp.Nodup)(E:∀b∈fp,b<n.heap.size/\(fH (g.gb b)\/w.heap.size<=b)): ∃g',fL C g' (st1.put d j) (a.put d v) n []:=by
 have R:∀k b o u,C.A k b o->w.cell? ⟨b,o,W⟩=I u->n.cell? ⟨b,o,W⟩=I u:=by
  intro k b o u hA B;have F:b<w.heap.size:=World.block_lt_of_cell? w _ B;have hnl:¬fH (g.gb b):=by intro l;cases c:g.gb b with|none=>rw[c]at l;cases l|some x=>exact h.Xh c k o hA
  rw[World.cell?_of_block (a:=⟨b,o,W⟩) (p.block b F hnl)];exact B
 have X:∀b x,g.gb b=I x->¬fH (I x)->n.heap[b]?=w.heap[b]?:=λb x c l=>p.block b (h.ju b x c).1 (by rw[c];exact l);let z:Nat->aS oN:=λb=>if b∈fp then d.map .slot else if fH (g.gb b) then W else g.gb b
 have T:Fr C.M C.w0 n:=h.frame.trans p (λb F l=>by cases c:g.gb b with|none=>rw[c]at l;cases l|some x=>rcases(h.ju b x c).2 with m|m;omega;exact m);have hpr:∀s,mn st s->mn (st1.put d j) s:=by intro s hs;rw[Tn];simpa[mn,D]using hs
 have aC4:(dQ C {g with hw:=hw',hdr:=hdr'} st1 n).Le (dQ C ⟨hw',g.β,z,hdr'⟩ (st1.put d j) n):=by refine⟨rfl,λt N=>⟨by show rE (st1.put d j) t;rw[Ra];exact N,rfl⟩,λ_ _ _ _ _ B=>B,?_,λs hs=>⟨by show mn (st1.put d j) s;rw[Tn];exact hs,rfl⟩,λ_ b o u ho B=>⟨ho,B⟩⟩;show st1.ep<=(st1.put d j).ep;rw[SE];exact bq _
 have Z:(dQ C g st w).Le (dQ C ⟨hw',g.β,z,hdr'⟩ (st1.put d j) n):=by refine⟨rfl,λt N=>⟨by show rE (st1.put d j) t;rw[Ra];exact(H t N).1,(H t N).2⟩,R,?_,λs hs=>⟨hpr s hs,rfl⟩,λ_ b o u ho B=>auC b o u ho B⟩;show st.ep<=(st1.put d j).ep;rw[SE,S];exact bq _
 have aDn:∀b x,g.gb b=I x->¬fH (I x)->b∉fp:=by intro b x c l L;rcases(E b L).2 with m|m;rw[c]at m;exact l m;have:=(h.ju b x c).1;omega
 have Y:∀b x,g.gb b=I x->¬fH (I x)->z b=I x:=by intro b x c l;show(if b∈fp then d.map oN.slot else if fH (g.gb b) then W else g.gb b)=I x;rw[aK (aDn b x c l),aK (by rw[c];exact l),c]
 refine⟨⟨hw',g.β,z,hdr'⟩,h.step (λx=>¬fH (I x)/\I x≠d.map .slot) Z (by rw[Wd];exact h.defers) ?_ ?_ T ?_ ?_ ?_ ?_ ?_ (.inl ⟨⟨by simp[nX],by cases d<;>simp⟩,by rw[S0,V]⟩)⟩;rw[af7];cases d with|none=>show _=st1.slots.length;rw[f];exact h.size|some d=>rw[iX,aC,f];exact h.size
 rw[oA,D];cases d with|none=>show _=st1.slots.length;rw[f];exact h.bsize|some d=>rw[iX,aC,f];exact h.bsize
 intro b x c;have r:(if b∈fp then d.map oN.slot else if fH (g.gb b) then W else g.gb b)=I x:=c;by_cases L:b∈fp;refine⟨(E b L).1,?_⟩;rcases(E b L).2 with m|m;cases hy:g.gb b with|none=>rw[hy]at m;cases m|some y=>exact(h.ju b y hy).2
 exact .inl (bf h.frame.size m);rw[aK L]at r;split at r;cases r;have:=h.ju b x r;have hz:=p.size;exact⟨J,this.2⟩;intro b x K c;exact⟨Y b x c K.1,X b x c K.1,U b x c K.1⟩;intro i P hi;cases d with
 |none=>
  have e:st.slots[i]?=I P:=by rw[<-f];exact hi
  exact .inl ⟨⟨by simp[nX],aD⟩,e,rfl⟩
 |some d=>
  have e:(st.slots.set d j)[i]?=I P:=by rw[<-f,<-iX];exact hi
  by_cases q:i=d;subst q;rw[bX]at e;simp only[dm]at e;split at e;rename_i YI;simp at e;subst e;refine .inr ⟨fp,?_,hn,λb F=>?_⟩;rw[Se];simp only[true_and,h.size,YI,dm];exact hr.mono aC4 (λb _=>⟨rfl,rfl⟩);show(if b∈fp then _ else _)=_;rw[aI F];rfl;cases e;refine .inl ⟨⟨by simp[nX],by simpa using q⟩,?_,by rw[Se];simp[q]⟩;rwa[aJ (cI q)]at e
 intro s cs F;have Q:st.boxes[s]?=I (I cs):=by rw[<-D,<-oA (d:=d) (v:=j)];exact F
 exact .inl ⟨⟨by simp[nX],by cases d<;>simp⟩,Q,rfl⟩;intro k u P K;simp at K
theorem fL.aq5 (h:fL C g st a w hs)x:∃j,(j.β=g.β/\j.hw=g.hw/\j.hdr=g.hdr/\∀b s,g.gb b=I (.box s)->j.gb b=I (.box s))/\fL C j (st.take x).2 a w (hs++[(a.eval x,(st.take x).1)]):=by
 have plain:∀y,(st.take y)=(st.rd y,st)->∃j,(j.β=g.β/\j.hw=g.hw/\j.hdr=g.hdr/\∀b s,g.gb b=I (.box s)->j.gb b=I (.box s))/\fL C j (st.take y).2 a w (hs++[(a.eval y,(st.take y).1)]):=by
  intro y z;rw[z];refine⟨g,⟨rfl,rfl,rfl,λ_ _ l=>l⟩,h.defers,h.size,h.bsize,h.slots,h.boxes,λk v D e=>?_,h.ju,h.frame,h.io⟩;rw[List.getElem?_append]at e;split at e;exact h.hands k v D e;cases m:k-hs.length with
  |zero=>rw[m]at e;simp at e;obtain⟨rfl,rfl⟩:=e;exact⟨[],h.rd y,aD,aD⟩
  |succ n=>rw[m]at e;simp at e
 cases x with
 |const v=>exact plain _ rfl
 |func f=>exact plain _ rfl
 |global N=>exact plain _ rfl
 |tmp t=>
  obtain⟨r,F,M,E⟩:=h.slot t;let B:AS:=st.put (I t) ((st.get t).bz st.ep);let j:Gh:={g with gb:=λb=>if b∈r then I (.hand hs.length) else g.gb b}
  have q:(dQ C g st w).Le (dQ C j B w):=by have:= @acB C g st w (I t) ((st.get t).bz st.ep);exact⟨this.A,this.hdr,this.adS,this.ep,this.Rv,this.anv⟩
  have u:∀b y,y≠ .slot t->g.gb b=I y->j.gb b=I y:=by intro b y z l;show(if b∈r then _ else _)=_;rw[aK (λm=>z (by have:=E b m;rw[l]at this;simpa using this))];exact l
  refine⟨j,⟨rfl,rfl,rfl,λb s l=>u b _ aD l⟩,?_⟩;show fL C j B a w (hs++[(a.tmps.getD t undef,st.get t)]);refine h.step (λy=>y≠ .slot t) q h.defers (by show _=(st.put (I t) ((st.get t).bz st.ep)).slots.length;rw[iX,aC];exact h.size) (by show(st.put (I t) ((st.get t).bz st.ep)).boxes.length=(st.put (I t) ((st.get t).bz st.ep)).slots.length;rw[oA,iX,aC];exact h.bsize) h.frame ?_ (λb y z l=>⟨u b y z l,rfl,rfl⟩) ?_ ?_ ?_ ?_;intro b y l;have o:(if b∈r then I (oN.hand hs.length) else g.gb b)=I y:=l;by_cases m:b∈r;exact h.ju b _ (E b m);rw[aK m]at o;exact h.ju b y o;intro i H L;have c:(st.slots.set t ((st.get t).bz st.ep))[i]?=I H:=by rw[<-iX];exact L
  by_cases p:i=t;subst p;rw[bX]at c;simp only[dm]at c;split at c;simp at c;subst c;exact .inr ⟨[],(F.bz).mono q aD,aD,aD⟩;cases c;rw[aJ (cI p)]at c;exact .inl ⟨by simpa using p,c,rfl⟩;intro s K l;have o:st.boxes[s]?=I (I K):=by rw[<-oA (d:=some t) (v:=(st.get t).bz st.ep)];exact l
  exact .inl ⟨aD,o,rfl⟩;intro k v D e;rw[List.getElem?_append]at e;split at e;exact .inl ⟨aD,e⟩;rename_i P;cases m:k-hs.length with
  |zero=>have:k=hs.length:=J;subst this;rw[m]at e;simp only[dy,bI,Prod.mk.injEq]at e;obtain⟨rfl,rfl⟩:=e;refine .inr ⟨r,F.mono q (λb _=>⟨rfl,rfl⟩),M,λb l=>?_⟩;show(if b∈r then _ else _)=_;rw[aI l]
  |succ n=>rw[m]at e;simp at e
  exact .inl ⟨aD,S0⟩
theorem fL.take (h:fL C g st a w hs)x:∃b,fL C b (st.take x).2 a w (hs++[(a.eval x,(st.take x).1)]):=by obtain⟨b,_,c⟩:=h.aq5 x;exact⟨b,c⟩
end Go.Dn
