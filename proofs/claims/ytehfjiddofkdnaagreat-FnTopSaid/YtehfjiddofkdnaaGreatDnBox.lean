import Derived.Test.YtehfjiddofkdnaaGreatDnPut
/- A box is made or written; an element of an owned slice is written. -/
open Option renaming none->W,some->I
namespace Go.Dn
open Go.RowKit
variable {C:Ctx} {g:Gh} {st:AS} {a:Act} {w:World} {hs:Z (Value×AV)}
variable {Y:AC} {fp:gw}
theorem nT {s b}:(st.gD s b).boxes=st.boxes.set s b:=by simp[AS.gD,iA]
theorem aay {s e a n}(j:a.hdr=g.hdr)(i:∀k b o u,C.A k b o->w.cell? ⟨b,o,W⟩=I u->n.cell? ⟨b,o,W⟩=I u)(m:∀t,mn st t->a.β t=g.β t)(l:∀b o u,o<g.hw b->w.cell? ⟨b,o,W⟩=I u->o<a.hw b/\n.cell? ⟨b,o,W⟩=I u): (dQ C g st w).Le (dQ C a (st.gD s (I e)) n):=by refine⟨rfl,λt d=>⟨d,by show a.hdr t=g.hdr t;rw[j]⟩,i,bq _,λt d=>⟨?_,m t d⟩,λ_ b o u r v=>l b o u r v⟩;obtain⟨f,p⟩:=d;show∃h,(st.gD s (I e)).boxes[t]?=I (I h);rw[nT];by_cases c:s=t;subst c;have q:s<st.boxes.length:=(aA.1 p).1;exact⟨e,by simp[q]⟩;exact⟨f,by rw[aJ c];exact p⟩
theorem fL.ahe (h:fL C g st a w hs)s{cs arr T fr w' bnew hw'}(l:(bnew=g.β s/\g.gb bnew=I (.box s))\/(w.heap.size<=bnew/\st.boxes[s]?=I W))(m:Fr (λb=>fH (g.gb b)\/b=bnew) w w')(P:w'.heap[bnew]?=I (.cells arr T fr))(MY:wE arr fr)(YI:bnew<w'.heap.size)(U:hw' bnew=0)(S:∀b x,g.gb b=I x->¬fH (I x)->b≠bnew->hw' b=g.hw b)(auC:∀b o u,o<g.hw b->w.cell? ⟨b,o,W⟩=I u->o<hw' b/\w'.cell? ⟨b,o,W⟩=I u)(hr:cv ⟨hw',λt=>if t=s then bnew else g.β t,C.A,g.hdr,rE st,st.ep,mn st,w'⟩ arr.toList cs fp)(hn:fp.Nodup)(Y:bnew∉fp)(z:∀b∈fp,b<w'.heap.size/\(fH (g.gb b)\/g.gb b=I (.box s)\/w.heap.size<=b)): ∃D,D.β s=bnew/\fL C D (st.gD s (I cs)) a w' []:=by
 have Q:∀k b o u,C.A k b o->w.cell? ⟨b,o,W⟩=I u->w'.cell? ⟨b,o,W⟩=I u:=by
  intro k b o u hA F;have E:b<w.heap.size:=World.block_lt_of_cell? w _ F;have hnl:¬(fH (g.gb b)\/b=bnew):=by
   rintro(n|rfl);cases d:g.gb b with|none=>rw[d]at n;cases n|some x=>exact h.Xh d k o hA
   rcases l with⟨_,c⟩|c;exact h.Xh c k o hA;omega
  rw[World.cell?_of_block (a:=⟨b,o,W⟩) (m.block b E hnl)];exact F
 have N:∀b x,g.gb b=I x->x≠ .box s->b≠bnew:=by rintro b x d B rfl;rcases l with⟨_,c⟩|c;rw[d]at c;exact B (by simpa using c);have:=(h.ju b x d).1;omega
 have V:∀b x,g.gb b=I x->¬fH (I x)->x≠ .box s->w'.heap[b]?=w.heap[b]?:=λb x d n B=>
  m.block b (h.ju b x d).1 (by rintro(k|k);rw[d]at k;exact n k;exact N b x d B k)
 let e:Nat->Nat:=λt=>if t=s then bnew else g.β t
 let aEv:Nat->aS oN:=λb=>if b=bnew\/b∈fp then I (.box s) else if fH (g.gb b) then W else g.gb b
 let D:Gh:=⟨hw',e,aEv,g.hdr⟩
 have R:Fr C.M C.w0 w':=h.frame.trans m (λb E n=>by
  rcases n with n|rfl;cases d:g.gb b with|none=>rw[d]at n;cases n|some x=>rcases(h.ju b x d).2 with c|c;omega;exact c
  rcases l with⟨_,c⟩|c;rcases(h.ju b _ c).2 with h3|h3;omega;exact h3;have:=h.frame.size;omega)
 have hβ:∀t,mn st t->e t=g.β t:=by rintro t ⟨H,hc⟩;show(if t=s then bnew else g.β t)=g.β t;by_cases j:t=s;subst j;rcases l with⟨c,_⟩|⟨_,c⟩;simp[c];rw[c]at hc;cases hc;simp[j]
 have L:(dQ C g st w).Le (dQ C D (st.gD s (I cs)) w'):=aay rfl Q hβ auC;have X:(RC.mk hw' e C.A g.hdr (rE st) st.ep (mn st) w').Le (dQ C D (st.gD s (I cs)) w'):=⟨rfl,λ_ ht=>⟨ht,rfl⟩,λ_ _ _ _ _ F=>F,bq _,λt ht=>⟨(L.Rv t ht).1,rfl⟩,λ_ b o u ho F=>⟨ho,F⟩⟩
 refine⟨D,by show(if s=s then bnew else g.β s)=bnew;simp,h.step (λx=>¬fH (I x)/\x≠ .box s) L h.defers h.size ?_ R ?_ ?_ ?_ ?_ ?_ (.inl ⟨⟨by simp[nX],aD⟩,rfl⟩)⟩;show(st.gD s (I cs)).boxes.length=st.slots.length;rw[nT,aC];exact h.bsize;intro b x d;have r:(if b=bnew\/b∈fp then I (oN.box s) else if fH (g.gb b) then W else g.gb b)=I x:=d;by_cases q:b=bnew\/b∈fp;rcases q with rfl|q;refine⟨YI,?_⟩;rcases l with⟨_,c⟩|c;exact(h.ju b _ c).2;exact .inl (bf h.frame.size c.1);refine⟨(z b q).1,?_⟩;rcases(z b q).2 with c|c|c;cases hy:g.gb b with|none=>rw[hy]at c;cases c|some y=>exact(h.ju b y hy).2
 exact(h.ju b _ c).2;exact .inl (bf h.frame.size c);rw[aK q]at r;split at r;cases r;have hl:=h.ju b x r;have hz:=m.size;exact⟨J,hl.2⟩;intro b x p d;have K:=N b x d p.2;refine⟨?_,V b x d p.1 p.2,S b x d p.1 K⟩;show(if b=bnew\/b∈fp then I (oN.box s) else if fH (g.gb b) then W else g.gb b)=I x;have Z:¬(b=bnew\/b∈fp):=by rintro(q|q);exact K q;rcases(z b q).2 with c|c|c;rw[d]at c;exact p.1 c;rw[d]at c;exact p.2 (by simpa using c);have:=(h.ju b x d).1;omega
 rw[aK Z,aK (by rw[d];exact p.1),d];intro i av hi;exact .inl ⟨⟨by simp[nX],aD⟩,hi,rfl⟩;intro t H E;have f:(st.boxes.set s (I cs))[t]?=I (I H):=by rw[<-nT];exact E
 by_cases j:t=s;subst j;rw[bX]at f;simp only[dm]at f;split at f;simp at f;subst f;have v:e t=bnew:=by show(if t=t then bnew else g.β t)=bnew;simp
 refine .inr ⟨arr,T,fr,fp,?_,MY,hr.mono X (λb _=>⟨rfl,rfl⟩),hn,?_,?_,?_,?_⟩;show w'.heap[e t]?=_;rw[v];exact P;show e t∉fp;rw[v];exact Y;intro b E;show(if b=bnew\/b∈fp then _ else _)=_;rw[aI (.inr E)];show(if e t=bnew\/e t∈fp then _ else _)=_;rw[aI (.inl v)];show hw' (e t)=0;rw[v];exact U;cases f;rw[aJ (cI j)]at f;exact .inl ⟨⟨by simp[nX],by simpa using j⟩,f,by show(if t=s then bnew else g.β t)=_;simp[j]⟩;intro k u bv p;simp at p
def sn.owner:sn->oN
 | .slot s _=> .slot s
 | .box s _=> .box s
 | .io _=> .io
theorem cv.as7 {c a d}(t:cv c a d fp){j x}(p:d[j]?=I x): ∃v f1 f2 f3,a[j]?=I v/\fp=f1++f2++f3/\kh c v x f2/\ ∀(g:RC),c.Le g->∀l e,kh g v l e->(∀b∈f1++f3,g.w.heap[b]?=c.w.heap[b]?/\g.hw b=c.hw b)-> cv g a (d.set j l) (f1++e++f3):=by
 have o:j<d.length:=(aA.1 p).1;obtain⟨f1,B,rfl,z,m⟩:=t.split j;have s:=t.length;have i:j<a.length:=J;have n:d.drop j=x::d.drop (j+1):=by rw[bZ o];congr 1;rw[ah o]at p;simpa using p
 have h:a.drop j=a[j]::a.drop (j+1):=bZ i;rw[n,h]at m;obtain⟨f2,f3,rfl,m,A⟩:=m;refine⟨a[j],f1,f2,f3,ah i,aD,m,λg k l e q r=>?_⟩;have u:a=a.take j++(a[j]::a.drop (j+1)):=by rw[<-h,cH]
 have y:d.set j l=d.take j++(l::d.drop (j+1)):=by rw[List.set_eq_take_append_cons_drop,aI o]
 rw[u,y,aH];refine cv.append (z.mono k (λb f=>r b (bh _ f))) ⟨e,f3,rfl,q,?_⟩;exact A.mono k (λb f=>r b (bC _ f))
def Gh.wrote (g:Gh)(o:oN)(fp:gw)(a:Nat->Nat):Gh:=
 ⟨a,g.β,λb=>if b∈fp then I o else if fH (g.gb b) then W else g.gb b,g.hdr⟩
theorem fL.Tr (h:fL C g st a w hs)o(B:¬fH (I o)){vs U j}(aeB:cv (dQ C g st w) vs U fp)(hn:fp.Nodup)(q:∀b∈fp,g.gb b=I o)(D:U[j]?=I Y): ∃v f1 f2 f3,vs[j]?=I v/\fp=f1++f2++f3/\kh (dQ C g st w) v Y f2/\f2.Nodup/\(∀b∈f2,g.gb b=I o)/\ ∀(p:World)(i:Nat->Nat)(m:AS)(x1:AC)(e:gw),m.ep=st.ep+1->m.iss=st.iss->(∀s,mn st s->mn m s)-> (∀S,(dQ C g st w).Le S->S.w=p->S.hw=i->kh S v x1 e)->e.Nodup->(∀b∈e,b<p.heap.size/\(b∈f2\/fH (g.gb b)))-> Fr (λb=>fH (g.gb b)\/b∈f2) w p->(∀b x,g.gb b=I x->¬fH (I x)->b∉f2->i b=g.hw b)-> (dQ C g st w).Le (dQ C (g.wrote o (f1++e++f3) i) m p)/\ cv (dQ C (g.wrote o (f1++e++f3) i) m p) vs (U.set j x1) (f1++e++f3)/\(f1++e++f3).Nodup/\ (∀b∈f1++e++f3,(g.wrote o (f1++e++f3) i).gb b=I o)/\ (∀b x,¬fH (I x)->x≠o->g.gb b=I x->(g.wrote o (f1++e++f3) i).gb b=I x/\p.heap[b]?=w.heap[b]?/\i b=g.hw b)/\ (∀b,g.gb b=I o->b∉fp->(g.wrote o (f1++e++f3) i).gb b=I o/\p.heap[b]?=w.heap[b]?/\i b=g.hw b)/\ Fr C.M C.w0 p/\(∀b x,(g.wrote o (f1++e++f3) i).gb b=I x->b<p.heap.size/\(C.w0.heap.size<=b\/C.M b)):=by
 obtain⟨v,f1,f2,f3,hv,rfl,hr2,atA⟩:=aeB.as7 D;have YJ:=hn;rw[aH]at YJ;have T:=aX.1 YJ;have n2:=aX.1 T.2.1;have P:∀b∈f1++f3,b∉f2:=by intro b d l;rcases aB.1 d with d|d;exact T.2.2 b d b (bh _ l) rfl;exact n2.2.2 b l b d rfl
 refine⟨v,f1,f2,f3,hv,rfl,hr2,n2.1,λb d=>q b (by simp[d]),?_⟩;intro p i m x1 e hep Z apz ahU hn1 H r X;have V:∀k b o u,C.A k b o->w.cell? ⟨b,o,W⟩=I u->p.cell? ⟨b,o,W⟩=I u:=by
  intro k b o u hA hu;have d:b<w.heap.size:=World.block_lt_of_cell? w _ hu;have hnl:¬(fH (g.gb b)\/b∈f2):=by
   rintro(n|f);cases D:g.gb b with|none=>rw[D]at n;cases n|some x=>exact h.Xh D k o hA
   exact h.Xh (q b (by simp[f])) k o hA
  rw[World.cell?_of_block (a:=⟨b,o,W⟩) (r.block b d hnl)];exact hu
 have K:(dQ C g st w).Le (dQ C (g.wrote o (f1++e++f3) i) m p):=⟨rfl,λt ht=>⟨by show rE m t;have ht':rE st t:=ht;simpa[rE,Z]using ht',rfl⟩,V,by show st.ep<=m.ep;omega,λs hs=>⟨apz s hs,rfl⟩,λhe=>absurd he (by show m.ep≠st.ep;omega)⟩
 have J:∀b x,¬fH (I x)->g.gb b=I x->b∉f2->p.heap[b]?=w.heap[b]?/\i b=g.hw b:=by intro b x n d f;exact⟨r.block b (h.ju b _ d).1 (by rintro(k|k);rw[d]at k;exact n k;exact f k),X b _ d n f⟩
 have N:∀b∈f1++f3,b∉e:=by intro b d f;rcases(H b f).2 with l|l;exact P b d l;have hlb:g.gb b=I o:=q b (by rcases aB.1 d with d|d<;>simp[d]);rw[hlb]at l;exact B l
 refine⟨K,?_,?_,?_,?_,?_,?_,?_⟩;refine atA _ K _ e (ahU _ K rfl rfl) (λb d=>?_);exact J b o B (q b (by rcases aB.1 d with d|d<;>simp[d])) (P b d);rw[aH];refine aX.2 ⟨T.1,aX.2 ⟨hn1,n2.2.1,?_⟩,?_⟩;rintro b d c F rfl;exact N b (by simp[F]) d;rintro b d c F rfl;rcases aB.1 F with F|F;exact N b (by simp[d]) F;exact T.2.2 b d b (bC _ F) rfl;intro b d;show(if b∈f1++e++f3 then _ else _)=_;rw[aI d];intro b x n L d;have z:b∉f2:=λf=>L (by have:=q b (by simp[f]);rw[d]at this;simpa using this);refine⟨?_,J b x n d z⟩;show(if b∈f1++e++f3 then _ else if fH (g.gb b) then W else g.gb b)=_;have aDl:b∉f1++e++f3:=by intro f;simp only[aB]at f;rcases f with(f|f)|f;exact L (by have:=q b (by simp[f]);rw[d]at this;simpa using this);rcases(H b f).2 with l|l;exact z l;rw[d]at l;exact n l;exact L (by have:=q b (by simp[f]);rw[d]at this;simpa using this)
 rw[aK aDl,aK (by rw[d];exact n),d];intro b d f;have z:b∉f2:=λk=>f (by simp[k]);refine⟨?_,J b o B d z⟩;show(if b∈f1++e++f3 then _ else if fH (g.gb b) then W else g.gb b)=_;rw[aK (c:=fH (g.gb b)) (by rw[d];exact B),d];split<;>rfl;refine h.frame.trans r (λb d n=>?_);rcases n with n|f;cases D:g.gb b with|none=>rw[D]at n;cases n|some x=>rcases(h.ju b x D).2 with l|l;omega;exact l
 rcases(h.ju b o (q b (by simp[f]))).2 with l|l;omega;exact l;intro b x D;have E:(if b∈f1++e++f3 then I o else if fH (g.gb b) then W else g.gb b)=I x:=D;have hz:=r.size;have R:∀y,g.gb b=I y->b<p.heap.size/\(C.w0.heap.size<=b\/C.M b):=λy Q=>⟨Nat.lt_of_lt_of_le (h.ju b y Q).1 hz,(h.ju b y Q).2⟩
 split at E;rename_i f;simp only[aB]at f;rcases f with(f|f)|f;exact R o (q b (by simp[f]));rcases(H b f).2 with l|l;exact R o (q b (by simp[l]));cases Q:g.gb b with|none=>rw[Q]at l;cases l|some y=>exact R y Q
 exact R o (q b (by simp[f]));split at E;cases E;exact R x E
theorem fL.aqB (h:fL C g st a w hs)s j(X:Y≠ .bot)(c:st.gN (.slot s j)=I Y): ∃v f2,kh (dQ C g st w) v Y f2/\f2.Nodup/\(∀b∈f2,g.gb b=I (.slot s))/\ ∀(q:World)(m:Nat->Nat)(n:AC)(l:gw),(∀y,(dQ C g st w).Le y->y.w=q->y.hw=m->kh y v n l)->l.Nodup->(∀b∈l,b<q.heap.size/\(b∈f2\/fH (g.gb b)))-> Fr (λb=>fH (g.gb b)\/b∈f2) w q->(∀b x,g.gb b=I x->¬fH (I x)->b∉f2->m b=g.hw b)-> ∃g',fL C g' {st.hZ (.slot s j) n with ep:=st.ep+1} a q []:=by
 have p:s<st.slots.length:=by
  rcases ca s st.slots.length with YI|L;exact YI;have:st.get s=.bot:=by simp[AS.get,fJ,cn L]
  rw[AS.gN,this]at c;cases j with|zero=>simp[nth]at c;exact absurd c.symm X|succ j=>simp[nth]at c
 have hsl:st.slots[s]?=I (st.get s):=by rw[get_eq (ah p)];exact ah p
 obtain⟨fp,B,hn,hl⟩:=h.slots s _ hsl;cases z:st.get s with
 |DZ ts=>rw[AS.gN,z]at c;cases c
 |val gg D=>
  have M:D[j]?=I Y:=by rw[AS.gN,z]at c;simpa[fJ]using c
  rw[z]at B;obtain⟨vs,WO,B⟩:=B;obtain⟨v,f1,f2,f3,hv,rfl,ahU,V,Q,F⟩:=h.Tr (.slot s) (by simp[nX]) B hn hl M;refine⟨v,f2,ahU,V,Q,?_⟩;intro q m n l aDw U H J N;let d:AS:={st.hZ (.slot s j) n with ep:=st.ep+1}
  have e:d={st with slots:=st.slots.set s (.val gg (D.set j n)),ep:=st.ep+1}:=by show({st.hZ (.slot s j) n with ep:=st.ep+1}:AS)=_;simp only[AS.hZ,z,AS.put,iA]
  obtain⟨S,aeB,Z,T,P,hk2,K,R⟩:=F q m d n l rfl (by rw[e]) (λs hs=>by rw[e];exact hs) aDw U H J N;refine⟨_,h.step (λx=>¬fH (I x)/\x≠ .slot s) S h.defers ?_ ?_ K R (λb x A hx=>P b x A.1 A.2 hx) ?_ ?_ (λk u bv A=>by simp at A) (.inl ⟨⟨by simp[nX],aD⟩,by show d.io=st.io;rw[e]⟩)⟩;show _=d.slots.length;rw[e];simpa using h.size;show d.boxes.length=d.slots.length;rw[e];simpa using h.bsize;intro i av hi;have f:(st.slots.set s (.val gg (D.set j n)))[i]?=I av:=by have:d.slots[i]?=I av:=hi;rw[e]at this;exact this
  by_cases o:i=s;subst o;rw[bX]at f;simp only[dm,p]at f;simp at f;subst f;exact .inr ⟨_,⟨vs,WO,aeB⟩,Z,T⟩;rw[aJ (cI o)]at f;exact .inl ⟨⟨by simp[nX],by simpa using o⟩,f,rfl⟩;intro t r hb;have E:st.boxes[t]?=I (I r):=by have:d.boxes[t]?=I (I r):=hb;rw[e]at this;exact this
  exact .inl ⟨⟨by simp[nX],aD⟩,E,rfl⟩
theorem fL.asq (h:fL C g st a w hs)s j(p:st.gN (.box s j)=I Y): ∃v f2,kh (dQ C g st w) v Y f2/\f2.Nodup/\(∀b∈f2,g.gb b=I (.box s))/\ ∀(B:World)(r:Nat->Nat)(y:AC)(e:gw),(∀K,(dQ C g st w).Le K->K.w=B->K.hw=r->kh K v y e)->e.Nodup->(∀b∈e,b<B.heap.size/\(b∈f2\/fH (g.gb b)))-> Fr (λb=>fH (g.gb b)\/b∈f2) w B->(∀b x,g.gb b=I x->¬fH (I x)->b∉f2->r b=g.hw b)-> ∃g',fL C g' {st.hZ (.box s j) y with ep:=st.ep+1} a B []:=by
 have m:∃n,st.boxes[s]?=I (I n)/\n[j]?=I Y:=by rw[AS.gN,fJ]at p;cases E:st.boxes[s]? with|none=>simp[E]at p|some o=>cases o with|none=>simp[E]at p|some n=>exact⟨n,rfl,by simpa[E,fJ]using p⟩
 obtain⟨n,m,V⟩:=m;have J:s<st.boxes.length:=(aA.1 m).1;obtain⟨N,T,fr,fp,P,MY,hr,hn,q,hl,H,hw0⟩:=h.boxes s n m;obtain⟨v,f1,f2,f3,hv,rfl,ahU,hn2,hl2,R⟩:=h.Tr (.box s) (by simp[nX]) hr hn hl V;refine⟨v,f2,ahU,hn2,hl2,?_⟩;intro B r y e aDw hn1 F S X;let c:AS:={st.hZ (.box s j) y with ep:=st.ep+1}
 have d:c={st with boxes:=st.boxes.set s (I (n.set j y)),ep:=st.ep+1}:=by show({st.hZ (.box s j) y with ep:=st.ep+1}:AS)=_;simp only[AS.hZ,fJ,m,gj,AS.gD,iA]
 obtain⟨hle,aeB,hnn,hll,hk1,hk2,U,aC2⟩:=R B r c y e rfl (by rw[d]) (λt ht=>by rw[d];obtain⟨c0,Q⟩:=ht;by_cases l:s=t;subst l;exact⟨n.set j y,by simp[J]⟩;exact⟨c0,by rw[aJ l];exact Q⟩) aDw hn1 F S X;have A:=hk2 (g.β s) H q;refine⟨_,h.step (λx=>¬fH (I x)/\x≠ .box s) hle h.defers ?_ ?_ U aC2 (λb x M hx=>hk1 b x M.1 M.2 hx) ?_ ?_ (λk u bv M=>by simp at M) (.inl ⟨⟨by simp[nX],aD⟩,by show c.io=st.io;rw[d]⟩)⟩;show _=c.slots.length;rw[d];exact h.size;show c.boxes.length=c.slots.length;rw[d];simpa using h.bsize;intro i av hi;have Z:st.slots[i]?=I av:=by have:c.slots[i]?=I av:=hi;rw[d]at this;exact this
 exact .inl ⟨⟨by simp[nX],aD⟩,Z,rfl⟩;intro t D E;have f:(st.boxes.set s (I (n.set j y)))[t]?=I (I D):=by have:c.boxes[t]?=I (I D):=E;rw[d]at this;exact this
 by_cases l:t=s;subst l;rw[bX]at f;simp only[dm,J]at f;simp at f;subst f;have aut:g.β t∉f1++e++f3:=by intro z;simp only[aB]at z;rcases z with(z|z)|z;exact q (by simp[z]);rcases(F _ z).2 with L|L;exact q (by simp[L]);rw[H]at L;cases L;exact q (by simp[z])
 exact .inr ⟨N,T,fr,_,A.2.1.trans P,MY,aeB,hnn,aut,hll,A.1,A.2.2.trans hw0⟩;rw[aJ (cI l)]at f;exact .inl ⟨⟨by simp[nX],by simpa using l⟩,f,rfl⟩
theorem fL.atZ (h:fL C g st a w hs)j(o:st.gN (.io j)=I Y): ∃v f2,kh (dQ C g st w) v Y f2/\f2.Nodup/\(∀b∈f2,g.gb b=I .io)/\ ∀(m:World)(f:Nat->Nat)(l:AC)(e:gw),(∀p,(dQ C g st w).Le p->p.w=m->p.hw=f->kh p v l e)->e.Nodup->(∀b∈e,b<m.heap.size/\(b∈f2\/fH (g.gb b)))-> Fr (λb=>fH (g.gb b)\/b∈f2) w m->(∀b x,g.gb b=I x->¬fH (I x)->b∉f2->f b=g.hw b)-> ∃V,fL C V {st.hZ (.io j) l with ep:=st.ep+1} a m []:=by
 have D:st.io[j]?=I Y:=by rw[AS.gN,fJ]at o;exact o
 obtain⟨fp,hr,hn,hl⟩:=h.io;obtain⟨v,f1,f2,f3,hv,rfl,R,P,J,y⟩:=h.Tr .io (by simp[nX]) hr hn hl D;refine⟨v,f2,R,P,J,?_⟩;intro m f l e S N z A E;let c:AS:={st.hZ (.io j) l with ep:=st.ep+1}
 have d:c={st with io:=st.io.set j l,ep:=st.ep+1}:=by show({st.hZ (.io j) l with ep:=st.ep+1}:AS)=_;simp only[AS.hZ,iA]
 obtain⟨L,T,Q,M,H,hk2,B,K⟩:=y m f c l e rfl (by rw[d]) (λs hs=>by rw[d];exact hs) S N z A E
 refine⟨_,h.step (λx=>¬fH (I x)/\x≠ .io) L h.defers ?_ ?_ B K (λb x q hx=>H b x q.1 q.2 hx) ?_ ?_ (λk u bv q=>by simp at q) (.inr ⟨_,by
  have:c.io=st.io.set j l:=by rw[d]
  show cv _ _ c.io _;rw[this];exact T,Q,M⟩)⟩
 show _=c.slots.length;rw[d];exact h.size;show c.boxes.length=c.slots.length;rw[d];exact h.bsize;intro i U Z;have F:st.slots[i]?=I U:=by have:c.slots[i]?=I U:=Z;rw[d]at this;exact this
 exact .inl ⟨⟨by simp[nX],aD⟩,F,rfl⟩;intro t n X;have r:st.boxes[t]?=I (I n):=by have:c.boxes[t]?=I (I n):=X;rw[d]at this;exact this
 exact .inl ⟨⟨by simp[nX],aD⟩,r,rfl⟩
theorem fL.acW (h:fL C g st a w hs)r(k:Y≠ .bot)(d:st.gN r=I Y): ∃v f2,kh (dQ C g st w) v Y f2/\f2.Nodup/\(∀b∈f2,g.gb b=I r.owner)/\ ∀(i:World)(e:Nat->Nat)(l:AC)(c:gw),(∀f,(dQ C g st w).Le f->f.w=i->f.hw=e->kh f v l c)->c.Nodup->(∀b∈c,b<i.heap.size/\(b∈f2\/fH (g.gb b)))-> Fr (λb=>fH (g.gb b)\/b∈f2) w i->(∀b x,g.gb b=I x->¬fH (I x)->b∉f2->e b=g.hw b)-> ∃m,fL C m {st.hZ r l with ep:=st.ep+1} a i []:=by cases r with|slot s j=>exact h.aqB s j k d|box s j=>exact h.asq s j d|io j=>exact h.atZ j d
theorem fL.acX (h:fL C g st a w hs)r{f e H}(u:st.gN r=I (.sl (.own f) e H)): ∃v f2,(∀t,f=I t->v=g.hdr t)/\gX g.hw w (.sl e) [v] H f2/\f2.Nodup/\(∀b∈f2,g.gb b=I r.owner)/\ ∀(k:World)(d:Nat->Nat)(i:Z e.D)(c:gw),gX d k (.sl e) [v] i c->c.Nodup->(∀b∈c,b<k.heap.size/\(b∈f2\/fH (g.gb b)))-> Fr (λb=>fH (g.gb b)\/b∈f2) w k->(∀b x,g.gb b=I x->¬fH (I x)->b∉f2->d b=g.hw b)-> ∃J,fL C J {st.hZ r (.sl (.own f) e i)with ep:=st.ep+1} a k []:=by obtain⟨v,f2,j,B,z,p⟩:=h.acW r aD u;refine⟨v,f2,λt F=>(j.2 t F).2,j.1,B,z,λk d i c E A q s y=>p k d (.sl (.own f) e i) c (λK l o n=>⟨?_,λt F=>?_⟩) A q s y⟩;rw[o,n];exact E;have m:=j.2 t F;exact⟨(l.hdr t m.1).1,by rw[(l.hdr t m.1).2];exact m.2⟩
theorem fL.aqC (h:fL C g st a w [])r(hne:Y≠ .bot)(p:st.gN r=I Y): ∃v f2,kh (dQ C g st w) v Y f2/\f2.Nodup/\(∀b∈f2,g.gb b=I r.owner)/\ ∀(m:AC)(l f:gw)(u:Value)(av:AV),(∀c',(dQ C g st w).Le c'->c'.w=w->c'.hw=g.hw->c'.ep=st.ep->kh c' v m l)->l.Nodup->f.Nodup->(∀b∈l,b∈f2/\b∉f)->(∀b∈f,b∈f2)-> iY (dQ C g st w) u av f->∃g',fL C g' (st.hZ r m) a w [(u,av)]:=by
 have core:∀(o:oN){vs:oz}{H:Z AC}{fp:gw}{j:Nat},cv (dQ C g st w) vs H fp->fp.Nodup->(∀b∈fp,g.gb b=I o)->H[j]?=I Y->
  ∃v f2,kh (dQ C g st w) v Y f2/\f2.Nodup/\(∀b∈f2,g.gb b=I o/\b∈fp)/\
   ∀(B:AS)(m:AC)(l f:gw)(u:Value)(av:AV),B.ep=st.ep->B.iss=st.iss->(∀s,mn st s->mn B s)->(∀c',(dQ C g st w).Le c'->c'.w=w->c'.hw=g.hw->c'.ep=st.ep->kh c' v m l)->l.Nodup->f.Nodup->(∀b∈l,b∈f2/\b∉f)->(∀b∈f,b∈f2)->iY (dQ C g st w) u av f->
    (dQ C g st w).Le (dQ C {g with gb:=λb=>if b∈f then I (.hand 0) else g.gb b} B w)/\
    ∃D,cv (dQ C {g with gb:=λb=>if b∈f then I (.hand 0) else g.gb b} B w) vs (H.set j m) D/\D.Nodup/\(∀b∈D,b∉f/\b∈fp)/\
    Sq C {g with gb:=λb=>if b∈f then I (.hand 0) else g.gb b} B w 0 u av:=by
  intro o vs H fp j Q hn hl hx
  obtain⟨v,f1,f2,f3,hv,rfl,hr2,atA⟩:=Q.as7 hx
  have YJ:=hn
  rw[aH]at YJ
  have n1:=aX.1 YJ
  have n2:=aX.1 n1.2.1
  refine⟨v,f2,hr2,n2.1,λb d=>⟨hl b (by simp[d]),by simp[d]⟩,?_⟩
  intro B m l f u av hep al6 apz R N P z n hu
  have A:(dQ C g st w).Le (dQ C {g with gb:=λb=>if b∈f then I (.hand 0) else g.gb b} B w):=
   ⟨rfl,λt ht=>⟨by show rE B t;have ht':rE st t:=ht;simpa[rE,al6]using ht',rfl⟩,λ_ _ _ _ _ hu=>hu,by show st.ep<=B.ep;omega,λs hs=>⟨apz s hs,rfl⟩,λ_ b o u ho hu=>⟨ho,hu⟩⟩
  have aCl:∀b∈f1++f3,b∉f2:=by intro b d h2;rcases aB.1 d with d|d;exact n1.2.2 b d b (bh _ h2) rfl;exact n2.2.2 b h2 b d rfl
  refine⟨A,f1++l++f3,atA _ A _ l (R _ A rfl rfl hep) (λ_ _=>⟨rfl,rfl⟩),?_,?_,f,hu.mono A (λ_ _=>⟨rfl,rfl⟩),P,λb d=>?_⟩
  ·rw[aH]
   refine aX.2 ⟨n1.1,aX.2 ⟨N,n2.2.1,?_⟩,?_⟩
   ·rintro b d c hc rfl;exact aCl b (by simp[hc]) (z b d).1
   ·rintro b d c hc rfl
    rcases aB.1 hc with hc|hc
    ·exact aCl b (by simp[d]) (z b hc).1
    ·exact n1.2.2 b d b (bC _ hc) rfl
  ·intro b d
   simp only[aB]at d
   rcases d with(d|d)|d
   ·exact⟨λJ=>aCl b (by simp[d]) (n b J),by simp[d]⟩
   ·exact⟨(z b d).2,by simp[(z b d).1]⟩
   ·exact⟨λJ=>aCl b (by simp[d]) (n b J),by simp[d]⟩
  ·show(if b∈f then _ else _)=_
   rw[aI d]
 have aEx:∀(f:gw),∀b x,(if b∈f then I (oN.hand 0) else g.gb b)=I x->(b∈f->∃y,g.gb b=I y)->b<w.heap.size/\(C.w0.heap.size<=b\/C.M b):=by intro f b x hx hy;by_cases J:b∈f;obtain⟨y,hy⟩:=hy J;exact h.ju b y hy;rw[aK J]at hx;exact h.ju b x hx
 have atI:∀(f:gw)(o:oN),(∀b∈f,g.gb b=I o)->∀b x,x≠o->g.gb b=I x->(if b∈f then I (oN.hand 0) else g.gb b)=I x:=by intro f o n b x hxo d;rw[aK (λJ=>hxo (by have:=n b J;rw[d]at this;simpa using this))];exact d
 cases r with
 |slot s j=>
  have V:s<st.slots.length:=by
   rcases ca s st.slots.length with YI|hge;exact YI;have:st.get s=.bot:=by simp[AS.get,fJ,cn hge]
   rw[AS.gN,this]at p;cases j with|zero=>simp[nth]at p;exact absurd p.symm hne|succ j=>simp[nth]at p
  have hsl:st.slots[s]?=I (st.get s):=by rw[get_eq (ah V)];exact ah V
  obtain⟨fp,hr,hn,hl⟩:=h.slots s _ hsl;cases hg:st.get s with
  |DZ ts=>rw[AS.gN,hg]at p;cases p
  |val gg H=>
   have hgx:H[j]?=I Y:=by rw[AS.gN,hg]at p;simpa[fJ]using p
   rw[hg]at hr;obtain⟨vs,WO,hr⟩:=hr;have e:∀m,st.hZ (.slot s j) m={st with slots:=st.slots.set s (.val gg (H.set j m))}:=λm=>by simp only[AS.hZ,hg,AS.put,iA]
   obtain⟨v,f2,hrv,hn2,E,ahT⟩:=core (.slot s) hr hn hl hgx;refine⟨v,f2,hrv,hn2,λb d=>(E b d).1,?_⟩;intro m l f u av R N P z n hu;obtain⟨A,D,Q,hnn,F,aCO⟩:=ahT (st.hZ (.slot s j) m) m l f u av (by rw[e]) (by rw[e]) (λ_ q=>by rw[e];exact q) R N P z n hu;have K:∀b∈f,g.gb b=I (.slot s):=λb d=>(E b (n b d)).1;refine⟨_,h.step (λx=>x≠ .slot s) A h.defers ?_ ?_ h.frame (λb x hx=>aEx f b x hx (λJ=>⟨_,K b J⟩)) (λb x L d=>⟨atI f _ K b x L d,rfl,rfl⟩) ?_ ?_ ?_ (.inl ⟨aD,by rw[e]⟩)⟩;rw[e];simpa using h.size;rw[e];simpa using h.bsize;intro i bv hi;rw[e]at hi;have U:(st.slots.set s (.val gg (H.set j m)))[i]?=I bv:=hi;by_cases his:i=s;subst his;rw[bX]at U;simp only[dm,V]at U;simp at U;subst U;refine .inr ⟨D,⟨vs,WO,Q⟩,hnn,λb d=>?_⟩;show(if b∈f then _ else _)=_;rw[aK (F b d).1];exact hl b (F b d).2;rw[aJ (cI his)]at U;exact .inl ⟨by simpa using his,U,rfl⟩;intro t cs' d;rw[e]at d;exact .inl ⟨aD,d,rfl⟩;intro k u' bv L;cases k with
   |zero=>simp only[dy,bI,Prod.mk.injEq]at L;obtain⟨rfl,rfl⟩:=L;exact .inr aCO
   |succ k=>simp at L
 |box s j=>
  have hbx:∃H,st.boxes[s]?=I (I H)/\H[j]?=I Y:=by rw[AS.gN,fJ]at p;cases d:st.boxes[s]? with|none=>simp[d]at p|some o=>cases o with|none=>simp[d]at p|some H=>exact⟨H,rfl,by simpa[d,fJ]using p⟩
  obtain⟨H,hbx,hgx⟩:=hbx;have V:s<st.boxes.length:=(aA.1 hbx).1;obtain⟨arr,T,fr,fp,acj,MY,hr,hn,hnb,hl,hl0,hw0⟩:=h.boxes s H hbx;have e:∀m,st.hZ (.box s j) m={st with boxes:=st.boxes.set s (I (H.set j m))}:=λm=>by simp only[AS.hZ,fJ,hbx,gj,AS.gD,iA]
  obtain⟨v,f2,hrv,hn2,E,ahT⟩:=core (.box s) hr hn hl hgx;refine⟨v,f2,hrv,hn2,λb d=>(E b d).1,?_⟩;intro m l f u av R N P z n hu;obtain⟨A,D,Q,hnn,F,aCO⟩:=ahT (st.hZ (.box s j) m) m l f u av (by rw[e]) (by rw[e]) (λt ht=>by rw[e];obtain⟨c0,hc0⟩:=ht;by_cases X:s=t;subst X;exact⟨H.set j m,by simp[V]⟩;exact⟨c0,by rw[aJ X];exact hc0⟩) R N P z n hu;have K:∀b∈f,g.gb b=I (.box s):=λb d=>(E b (n b d)).1;refine⟨_,h.step (λx=>x≠ .box s) A h.defers ?_ ?_ h.frame (λb x hx=>aEx f b x hx (λJ=>⟨_,K b J⟩)) (λb x L d=>⟨atI f _ K b x L d,rfl,rfl⟩) ?_ ?_ ?_ (.inl ⟨aD,by rw[e]⟩)⟩;rw[e];exact h.size;rw[e];simpa using h.bsize;intro i bv hi;rw[e]at hi;exact .inl ⟨aD,hi,rfl⟩;intro t cs' d;rw[e]at d;have S:(st.boxes.set s (I (H.set j m)))[t]?=I (I cs'):=d;by_cases X:t=s;subst X;rw[bX]at S;simp only[dm,V]at S;simp at S;subst S;have hβ:g.β t∉f:=λJ=>hnb (E _ (n _ J)).2;refine .inr ⟨arr,T,fr,D,acj,MY,Q,hnn,λJ=>hnb (F _ J).2,λb d=>?_,?_,hw0⟩;show(if b∈f then _ else _)=_;rw[aK (F b d).1];exact hl b (F b d).2;show(if g.β t∈f then _ else _)=_;rw[aK hβ];exact hl0;rw[aJ (cI X)]at S;exact .inl ⟨by simpa using X,S,rfl⟩;intro k u' bv L;cases k with
  |zero=>simp only[dy,bI,Prod.mk.injEq]at L;obtain⟨rfl,rfl⟩:=L;exact .inr aCO
  |succ k=>simp at L
 |io j=>
  have hgx:st.io[j]?=I Y:=by rw[AS.gN,fJ]at p;exact p
  obtain⟨fp,hr,hn,hl⟩:=h.io;have e:∀m,st.hZ (.io j) m={st with io:=st.io.set j m}:=λm=>by simp only[AS.hZ,iA]
  obtain⟨v,f2,hrv,hn2,E,ahT⟩:=core .io hr hn hl hgx;refine⟨v,f2,hrv,hn2,λb d=>(E b d).1,?_⟩;intro m l f u av R N P z n hu;obtain⟨A,D,Q,hnn,F,aCO⟩:=ahT (st.hZ (.io j) m) m l f u av (by rw[e]) (by rw[e]) (λ_ q=>by rw[e];exact q) R N P z n hu;have K:∀b∈f,g.gb b=I .io:=λb d=>(E b (n b d)).1;refine⟨_,h.step (λx=>x≠ .io) A h.defers ?_ ?_ h.frame (λb x hx=>aEx f b x hx (λJ=>⟨_,K b J⟩)) (λb x L d=>⟨atI f _ K b x L d,rfl,rfl⟩) ?_ ?_ ?_ (.inr ⟨D,?_,hnn,λb d=>?_⟩)⟩;rw[e];exact h.size;rw[e];exact h.bsize;intro i bv hi;rw[e]at hi;exact .inl ⟨aD,hi,rfl⟩;intro t cs' d;rw[e]at d;exact .inl ⟨aD,d,rfl⟩;intro k u' bv L;cases k with
  |zero=>simp only[dy,bI,Prod.mk.injEq]at L;obtain⟨rfl,rfl⟩:=L;exact .inr aCO
  |succ k=>simp at L
  have:(st.hZ (.io j) m).io=st.io.set j m:=by rw[e]
  rw[this];exact Q;show(if b∈f then _ else _)=_;rw[aK (F b d).1];exact hl b (F b d).2
theorem fL.ahN (h:fL C g st a w hs){v x}(r:kh (dQ C g st w) v x []):kh (dQ C g st w) v (st.fresh x) []:=by
 unfold AS.fresh;split;rename_i k j t e H;cases p:(k==st.ep)with
 |true=>exact r
 |false=>
  simp only[ab];split;rename_i d A J f;split;rename_i n;subst n;cases u:(d==t)with
  |false=>exact r
  |true=>
   have:d=t:=by simpa using u
   subst this;simp only[ae];obtain⟨z,f2,q,c,_,_,_⟩:=h.acX j f;obtain⟨l,B,D,E,m⟩:=r;obtain⟨k1,k2⟩:=m j d rfl;have y:z=v:=(q d rfl).trans k2.symm;subst y;exact⟨l,bq _,Ro c,λ_=>gX.rep (λb o s=> .inr s) c,λF t1 i=>by simp at i;obtain⟨_,rfl⟩:=i;exact⟨k1,k2⟩⟩
  exact r;exact r
 exact r
theorem fL.T4 (h:fL C g st a w hs):∀{c:oz}{d:Z AC},cv (dQ C g st w) c d []->cv (dQ C g st w) c (d.map st.fresh) []
 |[],[],r=>r
 |_::_,_::_,r=>by
  obtain⟨f1,f2,b,i,j⟩:=r;have e:f1=[]:=by have:=b.symm;simp at this;exact this.1
  have f:f2=[]:=by have:=b.symm;simp at this;exact this.2
  subst e;subst f;exact⟨[],[],rfl,h.ahN i,h.T4 j⟩
 |[],_::_,r=>r.elim
 |_::_,[],r=>r.elim
theorem fL.fresh (h:fL C g st a w hs){v x}(r:iY (dQ C g st w) v x []):iY (dQ C g st w) v (x.fresh st) []:=by
 cases x with
 |val e d=>obtain⟨c,b,r⟩:=r;exact⟨c,b,h.T4 r⟩
 |DZ f=>exact r
end Go.Dn
