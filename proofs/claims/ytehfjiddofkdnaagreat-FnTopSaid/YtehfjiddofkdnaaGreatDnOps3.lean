import Derived.Test.YtehfjiddofkdnaaGreatDnOps2
/- Part 3: an element of an owned slice is written. -/
open Option renaming none->W,some->I
namespace Go.Dn
open Go.RowKit
variable {P:Program} {C:Ctx} {st:AS} {a:Act} {w:World} {R:Type} {r:R}
variable {X:Array Value} {L:Bool} {e:CT} {S:Nat} {N:sn} {M:Shape} {T:TypeId} {Q:Z AC} {Y:oz}
theorem F2 {o}(h:o+Y.length<=X.size)j: (gv X o Y).toList[j]?=if o<=j/\j<o+Y.length then Y[j-o]? else X.toList[j]?:=by
 rw[Dk Y X o h];have a:(X.toList.take o).length=o:=by rw[bp];simp;omega
 by_cases b:j<o;rw[nQ,aH,bE J,fA,aI b];by_cases c:j<o+Y.length;rw[zip,aH,bN J,a,bE J];rw[nQ,bN (by rw[aq];omega),aq,a,cA];congr 1;omega
theorem mE {l:oz}p n j:((l.drop p).take n)[j]?=if j<n then l[p+j]? else none:=by rw[fA];split;rw[cA];rfl
theorem O6 {a size n i}(c:S+Y.length<=size)(hn:a+(n+1)*size<=X.size)(b:i≠n): ((gv X (a+n*size+S) Y).toList.drop (a+i*size)).take size=(X.toList.drop (a+i*size)).take size:=by
 have f:a+n*size+size<=X.size:=by rw[dA,gJ]at hn;omega
 apply dK;intro j;rw[mE,mE];split;rename_i e;rw[F2 J,aK];intro d;rcases Nat.lt_or_gt_of_ne b with h|h;have:(i+1)*size<=n*size:=dN _ h;rw[dA,gJ]at this;omega;have:(n+1)*size<=i*size:=dN _ h;rw[dA,gJ]at this;omega;rfl
theorem Rm {p size}(e:S+Y.length<=size)(g:p+size<=X.size): ((gv X (p+S) Y).toList.drop p).take size= ((X.toList.drop p).take size).take S++Y++((X.toList.drop p).take size).drop (S+Y.length):=by
 have c:((X.toList.drop p).take size).length=size:=by simp;omega
 have a:(((X.toList.drop p).take size).take S).length=S:=by rw[bp,c];omega
 apply dK;intro j;rw[mE];by_cases b:j<size;rw[aI b,F2 J];by_cases d:j<S;rw[nQ,aH,bE J,fA,aI d,mE,aI b];by_cases f:j<S+Y.length;rw[zip,aH,bN J,a,bE J];congr 1;omega;rw[nQ,bN (by rw[aq];omega),aq,a,cA,mE,(J:S+Y.length+(j-(S+Y.length))=j),aI b];rw[aK b,cn];simp only[aq,a,bA,c];omega
theorem aqm {B w v}{z:Z e.D}{o}(h:gX B w (.sl e) [v] z o){n x}(L:z[n]?=I x): ∃b c d X T l f1 N f3,v=.slice (I ⟨b,c,W⟩) z.length d/\w.heap[b]?=I (.cells X T l)/\wE X l/\c+(n+1)*e.size<=X.size/\ gX B w e ((X.toList.drop (c+n*e.size)).take e.size) x N/\o=b::(f1++N++f3)/\ ∀(t:World)(Y:oz)(S:Nat)(M:e.D)(g:gw),S+Y.length<=e.size->t.heap[b]?=I (.cells (gv X (c+n*e.size+S) Y) T l)-> (∀A∈f1++f3,t.heap[A]?=w.heap[A]?)->gX B t e (((gv X (c+n*e.size+S) Y).toList.drop (c+n*e.size)).take e.size) M g-> gX B t (.sl e) [v] (z.set n M) (b::(f1++g++f3)):=by
 obtain⟨u,U,h⟩:=h;simp at U;subst U;have F:n<z.length:=(aA.1 L).1;rcases h with⟨⟨_,rfl⟩,rfl,rfl⟩|⟨b,c,d,X,T,l,a,rfl,V,R,hs,hc,hh,rfl,hl,Q⟩;simp at L;have r:a[n]?=I a[n]:=ah J;have s:=MP r;have P:c+(n+1)*e.size<=X.size:=by rw[hs];exact Nat.add_le_add_left (dN _ J) _
 refine⟨b,c,d,X,T,l,(a.take n).flatten,a[n],(a.drop (n+1)).flatten,rfl,V,R,P,Q n x _ L r,by rw[s.1],?_⟩;intro t Y S M g H C hk K;refine⟨_,rfl,.inr ⟨b,c,d,gv X (c+n*e.size+S) Y,T,l,a.set n g,aD,C,λj hj=>R j (by rwa[lr]at hj),by rw[lr];exact hs,by simpa using hc,by simpa using hh,by rw[s.2],by simp[hl],?_⟩⟩;intro i y f m hf;by_cases k:i=n;subst k;rw[bX]at m hf;simp only[dm,F]at m;simp only[dm]at hf;rw[zip]at hf;simp at m hf;subst m;subst hf;exact K;rw[aJ (cI k)]at m hf;rw[O6 H P k];refine gX.mono (Q i y f m hf) (λA p=>⟨hk A ?_,rfl⟩);have E:i<a.length:=(aA.1 hf).1;have q:a[i]=f:=by rw[ah E]at hf;simpa using hf
 rcases Nat.lt_or_gt_of_ne k with YI|hgt;refine bh _ (List.mem_flatten.2 ⟨f,?_,p⟩);rw[List.mem_take_iff_getElem];exact⟨i,J,q⟩;refine bC _ (List.mem_flatten.2 ⟨f,?_,p⟩);rw[List.mem_drop_iff_getElem];exact⟨i-(n+1),J,by rw[<-q];congr 1;omega⟩
theorem aeG {α a i}{x:α}(h:idx a i=I x):∃n:Nat,i=n/\a[n]?=I x:=by cases i with|ofNat n=>exact⟨n,rfl,h⟩|negSucc n=>simp[idx]at h
theorem YT {E:Env}(hE:mL P E.ty){o p x}(hd:o.dst=W)(ho:o.op=.store T p x){K U}{i:Int}{st' g'}(hT:lV E.ty T=I M)(hlen:Q.length=M.ct.size)(B:fL C g' st' a w [(a.eval x,.val L Q)]){b o0 len cap n q xs x'}(hv:a.eval p=.pointer (I ⟨b,o0+n*e.size,W⟩))(hrt:g'.hdr U=.slice (I ⟨b,o0,W⟩) len cap)(hin:i=n)(atx:st'.gN N=I (.sl (.im (I U) i q) e xs))(hof:mC e Q=I (x',[]))(hk:K {st'.hZ N (.sl (.own (I U)) e (xs.set i.toNat x'))with ep:=st'.ep+1}=I r):rD P C o a w K r:=by
 obtain⟨v0,f2,aeB,F,hl2,ahT⟩:=B.acW N aD atx;obtain⟨_,⟨k,hik,ahU⟩,auH⟩:=aeB;have hkn:k=n:=J;subst hkn;obtain⟨v,S,ahm,X,T',fr,l,hv0,A,MY,hs,g,hh,s,hl,hkl,hfk,hr⟩:=ahU;have A:w.heap[v]?=I (.cells X T' fr):=A;have h1:v0=g'.hdr U:=(auH U rfl).2;rw[hrt,hv0]at h1;simp only[Value.slice.injEq,bI,Addr.mk.injEq]at h1;obtain⟨⟨rfl,rfl,_⟩,_⟩:=h1;obtain⟨V,⟨Y,WO,hrh⟩,hnh,hlh⟩:=B.hands 0 _ _ rfl;obtain⟨q1,q2,hq,H,R⟩:=xT hrh hof;have aCm:Y.drop e.size=[]:=by cases hd0:Y.drop e.size with|nil=>rfl|cons _ _=>rw[hd0]at R;exact R.elim
 rw[aCm]at R;have atz:q2=[]:=R;subst atz;rw[bm]at hq;subst hq;have hus:Y.take e.size=Y:=by have:=cH e.size Y;rw[aCm,bm]at this;exact this
 rw[hus]at H;have hul:Y.length=e.size:=gX.length H;have hsz:S+(k+1)*e.size<=X.size:=by rw[hs];exact Nat.add_le_add_left (dN _ J) _
 have al8:S+k*e.size+e.size<=X.size:=by rw[dA,gJ]at hsz;omega
 let w':=BZ w v (gv X (S+k*e.size+0) Y) T' fr;have hbs:=qB A;have hkb:∀c,c≠v->w'.heap[c]?=w.heap[c]?:=λc g=>rm g;have aBs:=hrh.length;have apA:=LR (P:=P) (w:=w) (hE T M hT) v (S+k*e.size+0) WO J (λu hu=>gX.rQ H u hu) A MY;have MX:(execOp a.eval o).run P w=.ok .skip w':=by simp only[execOp,ho,hv,Instr.storeAt,Instr.sureAddr,Sem.run_bind,Sem.run_pure,Result.andThen_ok];show((storeVar T ⟨v,S+k*e.size+0,W⟩ (a.eval x)).run P w).andThen _=_;rw[apA];rfl
 have z:=MP hfk;have hnb:v∉l.flatten:=by rw[s]at F;exact(eo.1 F).1
 have hnf:l.flatten.Nodup:=by rw[s]at F;exact(eo.1 F).2
 have aCv:∀c∈V,c∉f2:=by intro c g hm;have h1:=hlh c g;rw[hl2 c hm]at h1;cases N<;>cases h1
 have aCw:∀c∈V,c≠v:=λc g e=>aCv c g (by rw[s,e];simp);have aCF:∀c,c∈(l.set k V).flatten↔c∈l.flatten\/c∈V:=by intro c;rw[z.2,z.1];simp only[aB,List.not_mem_nil,or_false];constructor;rintro((h|h)|h)<;>simp[h];rintro((h|h)|h)<;>simp[h]
 have apy:gX g'.hw w' (.sl e) [v0] (xs.set k x') (v::(l.set k V).flatten):=by
  refine⟨v0,rfl,.inr ⟨v,S,ahm,gv X (S+k*e.size+0) Y,T',fr,l.set k V,by rw[hv0];simp,EU hbs,λj hj=>MY j (by rwa[lr]at hj),by rw[lr];exact hs,by simpa using g,by rw[aC];exact hh,rfl,by simp[hl],?_⟩⟩;intro j y f hy Z;by_cases D:j=k;subst D;rw[bX]at hy Z;simp only[dm,hkl]at hy;simp only[dm]at Z;rw[zip]at Z;simp at hy Z;subst hy;subst Z;rw[Rm J al8];have e1:((X.toList.drop (S+j*e.size)).take e.size).take 0++Y++((X.toList.drop (S+j*e.size)).take e.size).drop (0+Y.length)=Y:=by rw[List.take_zero,bF,dz (by simp;omega),bm]
  rw[e1];exact gX.mono H (λc g=>⟨hkb c (aCw c g),rfl⟩);rw[aJ (cI D)]at hy Z;rw[O6 J hsz D];refine gX.mono (hr j y f D hy Z) (λc g=>⟨hkb c (λe0=>hnb ?_),rfl⟩);rw[<-e0];exact List.mem_flatten.2 ⟨f,aF Z,g⟩
 have aBc:(v::(l.set k V).flatten).Nodup:=by
  refine eo.2 ⟨λhm=>?_,?_⟩;rcases(aCF v).1 hm with h|h;exact hnb h;exact aCw v h rfl;rw[z.2];rw[z.1,bm]at hnf;have m:=aX.1 hnf;have aCT:∀c,c∈(l.take k).flatten\/c∈(l.drop (k+1)).flatten->c∈f2:=by intro c g;rw[s,z.1];rcases g with g|g<;>simp[g]
  refine aX.2 ⟨aX.2 ⟨m.1,hnh,?_⟩,m.2.1,?_⟩;rintro c g d hd rfl;exact aCv c hd (aCT c (.inl g));rintro c g d hd rfl;rcases aB.1 g with g|g;exact m.2.2 c g c hd rfl;exact aCv c g (aCT c (.inr hd))
 have aA4:i.toNat=k:=J;rw[aA4]at hk
 obtain⟨g2,hg2⟩:=ahT w' g'.hw (.sl (.own (I U)) e (xs.set k x')) (v::(l.set k V).flatten) (λc' hle hcw atv=>⟨by rw[hcw,atv];exact apy,λt ht=>by simp at ht;subst ht;have h0:=auH U rfl;exact⟨(hle.hdr U h0.1).1,by rw[(hle.hdr U h0.1).2];exact h0.2⟩⟩) aBc (λc g=>by
  show _<(BZ _ _ _ _ _).heap.size/\_
  rw[qa]
  rcases bW.1 g with rfl|g
  ·exact⟨hbs,.inl (by rw[s];simp)⟩
  ·rcases(aCF c).1 g with h|h
   ·have:c∈f2:=by rw[s];simp[h]
    exact⟨(B.ju c _ (hl2 c this)).1,.inl this⟩
   ·exact⟨(B.ju c _ (hlh c h)).1,.inr (by rw[hlh c h];rfl)⟩)
  ⟨rfl,rfl,rfl,by show _<=(BZ _ _ _ _ _).heap.size;rw[qa];exact bq _,λc _ g=>hkb c (λe=>g (.inr (by rw[s,e];simp)))⟩ (λ_ _ _ _ _=>rfl)
 refine⟨undef,_,_,.inr ⟨rfl,MX⟩,?_,hk⟩;rw[hd];exact⟨g2,hg2⟩
theorem Zs {E:Env}(hE:mL P E.ty){o p x}(m:o.dst=W)(ho:o.op=.store T p x)(h:ub C st a w){K ep t y i s}(hT:lV E.ty T=I M)(hp:st.rd p=.val false [.I7 (.loc ep (I (N,t))) e y i S])(htk:st.take x=(.val L Q,s))(hlen:Q.length=M.ct.size)(atw:S+M.ct.size<=e.size)(l:s.vW N t e i S Q K=I r):rD P C o a w K r:=by
 obtain⟨g,hg⟩:=h;have hpv:=hg.rd p;rw[hp]at hpv;obtain⟨_,b,ob,hv,_,_,auG⟩:=gk hpv;obtain⟨_,n,o0,len,cap,hin,hrt,hnl,hob⟩:=auG N t rfl;obtain⟨g',⟨hβ,hhw,aup,_⟩,z⟩:=hg.aq5 x;rw[htk]at z;unfold AS.vW at l;split at l;rename_i t' j xs atx;split at l;rename_i hee;subst hee;split at l
 ·rename_i htt
  subst htt
  simp only at l
  cases B:idx xs i with
  |none=>rw[B]at l;simp[U]at l
  |some x0=>
  rw[B]at l
  simp only[U]at l
  split at l
  ·rename_i x' hof
   obtain⟨R,YJ,hx0⟩:=aeG B
   have hnn:R=n:=J
   subst hnn
   obtain⟨v0,f2,hrv,ahU,hn2,hl2,ahT⟩:=z.acX N atx
   have hrv: .slice (I ⟨b,o0,W⟩) len cap=v0:=by have h1:=hrv t' rfl;have h2:g.hdr t'=.slice (I ⟨b,o0,W⟩) len cap:=hrt;rw[h1,aup,h2]
   obtain⟨b2,o2,ahm,X,T',fr,f1,fx,f3,hv0,acj,MY,hsz,auB,v,atA⟩:=aqm ahU hx0
   rw[<-hrv]at hv0
   simp only[Value.slice.injEq,bI,Addr.mk.injEq]at hv0
   obtain⟨⟨rfl,rfl,_⟩,_⟩:=hv0
   obtain⟨fh,⟨Y,WO,hrh⟩,hnh,hlh⟩:=z.hands 0 _ _ rfl
   have hul:=hrh.length
   have aCE:S+Y.length<=j.size:=J
   have al8:(o0+R*j.size)+j.size<=X.size:=by rw[dA,gJ]at hsz;omega
   have auE:=Cg (c:=dQ C g' s w) auB
   obtain⟨k1,k2,k3,D,r1,r2,r3⟩:=auE.mid S Y.length
   have auo:=hn2
   rw[v]at auo
   have F:=eo.1 auo
   have V:∀c∈fh,c∉f2:=by intro c f H;have h1:=hlh c f;rw[hl2 c H]at h1;cases N<;>cases h1
   let w':=BZ w b (gv X ((o0+R*j.size)+S) Y) T' fr
   have hbs:=qB acj
   have Z:∀c,c≠b->w'.heap[c]?=w.heap[c]?:=λc f=>rm f
   have atB:∀u∈Y,u.oneCell'=true:=by
    have hsp:cv (dQ C g' s w) (((X.toList.drop (o0+R*j.size)).take j.size).take S++Y++((X.toList.drop (o0+R*j.size)).take j.size).drop (S+Y.length))
     (fV (cellsOf j (.own W) x0) S Q) (k1++fh++k3):=by
     have e2:fV (cellsOf j (.own W) x0) S Q=(cellsOf j (.own W) x0).take S++Q++(cellsOf j (.own W) x0).drop (S+Y.length):=by simp only[fV];rw[hul]
     rw[e2]
     exact(r1.append hrh).append r3
    obtain⟨q1,q2,hq,hq1,hq2⟩:=xT hsp hof;have aur:(((X.toList.drop (o0+R*j.size)).take j.size).take S++Y++((X.toList.drop (o0+R*j.size)).take j.size).drop (S+Y.length)).length=j.size:=by rw[hsp.length,Pe (by rw[oP];omega),oP]
    rw[cd J]at hq1;intro u hu;exact gX.rQ hq1 u (by simp[hu])
   have apA:=LR (P:=P) (w:=w) (hE T M hT) b ((o0+R*j.size)+S) WO J atB acj MY
   have MX:(execOp a.eval o).run P w=.ok .skip w':=by simp only[execOp,ho,hv,Instr.storeAt,Instr.sureAddr,Sem.run_bind,Sem.run_pure,Result.andThen_ok];show((storeVar T ⟨b,ob+S,W⟩ (a.eval x)).run P w).andThen _=_;rw[hob,apA];rfl
   have hle:(dQ C g' s w).Le ⟨g'.hw,g'.β,C.A,g'.hdr,rE s,s.ep+1,mn s,w'⟩:=by
    refine⟨rfl,λ_ ht=>⟨ht,rfl⟩,λk c o u hA hu=>?_,Nat.le_succ _,λ_ hs=>⟨hs,rfl⟩,λhe=>absurd he (Nat.succ_ne_self _)⟩;have hne:c≠b:=by rintro rfl;exact z.Xh (hl2 c (by rw[v];simp)) k o hA
    rw[World.cell?_of_block (a:=⟨c,o,W⟩) (Z c hne)];exact hu
   have auq:∀c∈fx,c≠b:=by rintro c f rfl;exact F.1 (by simp[f])
   have hsp:cv ⟨g'.hw,g'.β,C.A,g'.hdr,rE s,s.ep+1,mn s,w'⟩
    (((gv X ((o0+R*j.size)+S) Y).toList.drop (o0+R*j.size)).take j.size) (fV (cellsOf j (.own W) x0) S Q) (k1++fh++k3):=by
    have e2:fV (cellsOf j (.own W) x0) S Q=(cellsOf j (.own W) x0).take S++Q++(cellsOf j (.own W) x0).drop (S+Y.length):=by simp only[fV];rw[hul]
    rw[e2,Rm aCE al8]
    refine((r1.mono hle (λc f=>⟨Z c (auq c (by rw[D];simp[f])),rfl⟩)).append
     (hrh.mono hle (λc f=>⟨Z c (λe=>V c f (by rw[v,e];simp)),rfl⟩))).append
     (r3.mono hle (λc f=>⟨Z c (auq c (by rw[D];simp[f])),rfl⟩))
   obtain⟨q1,q2,hq,hq1,hq2⟩:=xT hsp hof
   have aur:(((gv X ((o0+R*j.size)+S) Y).toList.drop (o0+R*j.size)).take j.size).length=j.size:=by rw[hsp.length,Pe (by rw[oP];omega),oP]
   rw[dz J]at hq2
   have atz:q2=[]:=hq2
   subst atz
   rw[cd J]at hq1
   rw[bm]at hq
   have apy:=atA w' Y S x' q1 aCE (EU hbs) (λc f=>Z c (λe=>F.1 (by rw[<-e];rcases aB.1 f with k|k<;>simp[k]))) hq1
   have aA8:∀c∈b::(f1++q1++f3),c∈f2\/c∈fh:=by intro c f;rw[<-hq]at f;simp only[bW,aB]at f;rw[v,D];simp only[bW,aB];rcases f with f|((f|((f|f)|f))|f)<;>simp[f]
   have hnd:(b::(f1++q1++f3)).Nodup:=by
    have hx2:=F.2;rw[D]at hx2;rw[aH]at hx2;have m1:=aX.1 hx2;have m2:=aX.1 m1.2.1;have m2a:=m2.1;rw[aH]at m2a;have m3:=aX.1 m2a;have m4:=aX.1 m3.2.1;have inx:∀c,(c∈f1\/c∈k1\/c∈k3\/c∈f3)->c∈f2:=by intro c f;rw[v,D];simp only[bW,aB];rcases f with f|f|f|f<;>simp[f]
    rw[<-hq];refine eo.2 ⟨λH=>?_,?_⟩;simp only[aB]at H;rcases H with(H|((H|H)|H))|H;exact F.1 (by simp[H]);exact F.1 (by rw[D];simp[H]);exact V b H (by rw[v];simp);exact F.1 (by rw[D];simp[H]);exact F.1 (by simp[H]);rw[aH];refine aX.2 ⟨m1.1,aX.2 ⟨?_,m2.2.1,?_⟩,?_⟩;rw[aH];refine aX.2 ⟨m3.1,aX.2 ⟨hnh,m4.2.1,?_⟩,?_⟩;rintro c f d m rfl;exact V c f (inx c (by simp[m]));rintro c f d m rfl;rcases aB.1 m with m|m;exact V c m (inx c (by simp[f]));exact m3.2.2 c f c (bC _ m) rfl;rintro c f d m rfl;simp only[aB]at f;rcases f with(f|f)|f;exact m2.2.2 c (by simp[f]) c m rfl;exact V c f (inx c (by simp[m]));exact m2.2.2 c (by simp[f]) c m rfl;rintro c f d m rfl;simp only[aB]at m;rcases m with((m|m)|m)|m;exact m1.2.2 c f c (by simp[m]) rfl;exact V c m (inx c (by simp[f]));exact m1.2.2 c f c (by simp[m]) rfl;exact m1.2.2 c f c (by simp[m]) rfl
   have aA3:Fr (λc=>fH (g'.gb c)\/c∈f2) w w':=⟨rfl,rfl,rfl,by show _<=(BZ _ _ _ _ _).heap.size;rw[qa];exact bq _,λc _ f=>Z c (λe=>f (.inr (by rw[v,e];simp)))⟩
   obtain⟨g2,hg2⟩:=ahT w' g'.hw (xs.set R x') (b::(f1++q1++f3)) apy hnd (λc f=>by rcases aA8 c f with k|k;exact⟨by show _<(BZ _ _ _ _ _).heap.size;rw[qa];exact(z.ju c _ (hl2 c k)).1,.inl k⟩;exact⟨by show _<(BZ _ _ _ _ _).heap.size;rw[qa];exact(z.ju c _ (hlh c k)).1,.inr (by rw[hlh c k];rfl)⟩) aA3 (λ_ _ _ _ _=>rfl)
   refine⟨undef,_,_,.inr ⟨rfl,MX⟩,?_,l⟩
   rw[m]
   have aA5:i.toNat=R:=J
   rw[aA5]
   exact⟨g2,hg2⟩
  ·cases l
 cases l;cases l;rename_i t' i' q j xs atx;split at l;rename_i hee;subst hee;split at l;rename_i f;obtain⟨rfl,rfl⟩:=f;simp only at l;cases B:acn xs i' i with|none=>rw[B]at l;simp[U]at l|some x0=>obtain⟨rfl,aBx⟩:=al9 B;rw[B]at l;simp only[U]at l;split at l;rename_i x' hof;exact YT hE m ho hT hlen z (by rw[hv,hob,eY]) (by rw[aup];exact hrt) hin atx hof l;cases l
 cases l;cases l;cases l
theorem ajJ {E}(m:mL P E.ty){o p x}(q:o.dst=W)(u:o.op=.store T p x)(h:ub C st a w){K}(b:EP E T p x st K=I r):rD P C o a w K r:=by unfold EP at b;split at b;rename_i M s S f k;split at b;rename_i L Q l d;split at b;rename_i v g;split at b;rename_i c;split at b;rename_i j;exact Zq m q u h f k d g c.1 c.2 j b;cases b;cases b;cases b;cases b;rename_i M z N t e y i S f k;split at b;rename_i L Q l d;split at b;rename_i n;exact Zs m q u h f k d n.1 n.2 b;cases b;cases b;cases b
end Go.Dn
