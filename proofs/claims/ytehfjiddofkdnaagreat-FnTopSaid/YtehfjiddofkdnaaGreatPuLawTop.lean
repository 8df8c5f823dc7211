import Derived.Test.YtehfjiddofkdnaaGreatPuX4
open Bool renaming false->G,true->O
open Decidable renaming decide->ay
open Option renaming some->I
namespace Go.Pu
open Go.Dn
open List (replicate)
set_option linter.unusedSimpArgs false
set_option linter.unusedVariables false
noncomputable section
variable {X M:Bool} {s:Bytes} {N:dv} {a:dX} {c:ZD} {k T S:Int} {st:jx} {R:Type} {l:Z dX} {K:Z dY} {Y:Z bQ} {f:cL}
/- Draws: mailboxes, flashes, new cards. -/
structure alk (k:Int) (b:dY):Prop where
 Cq:b.1.1=k
 vl:b.1.2.2=[7]\/b.1.2.2=[]
 last:0<=b.2.1/\b.2.1<=4
 done:0<=b.2.2.2/\b.2.2.2<=3
theorem atn (h:Cu c):Ends (NA c) λr=>((r.1.1.2.2=[7]\/r.1.1.2.2=[])/\(0<=r.1.2.1/\r.1.2.1<=4)/\0<=r.1.2.2.2/\r.1.2.2.2<=3)/\Cu r.2:=by refine(ad7 h).bind λi a=>(jy a.2 eR).bind λb e=>(jy e.2 eR).bind λj f=>(jy f.2 eR).bind λd g=>Ends.pure ⟨⟨a.1.2,?_,?_⟩,g.2⟩;show 0<=b.1/\b.1<=4;omega;show 0<=d.1/\d.1<=3;omega
theorem aeo {α:Type}{P:Nat->α->Prop}{l a}(h:∀i b,l[i]?=I b->P i b)(f:P l.length a):∀i b,(l++[a])[i]?=I b->P i b:=by
 intro i b c;rcases ca i l.length with d|d;rw[bE d]at c;exact h i b c;obtain⟨g,c⟩:=aA.1 c;have e:i=l.length:=by simp at g;omega
 subst e;simp at c;rw[<-c];exact f
theorem aoR (h:Cu c):Ends (JX c) λr=>((1<=r.1.length/\r.1.length<=3)/\∀(i:Nat)(b:dY),r.1[i]?=I b->alk (2*((i:Int)+1)) b)/\Cu r.2:=by refine(jy h eR).bind λd o=>?_;rw[aj J J];refine Ends.FZ (λx=>0<=x.2.1/\(x.1.length)+x.2.1=1+d.1/\(∀(i:Nat)(b:dY),x.1[i]?=I b->alk (2*((i)+1)) b)/\Cu x.2.2) (λx=>x.2.1.toNat) ⟨by show 0<=1+d.1;omega,aD,by intro i b g;simp at g,o.2⟩ (by show(1+d.1).toNat<=_;omega) λx t m j=>?_;obtain⟨l,n,s⟩:=x;obtain⟨p,q,e,f⟩:=m;simp only at p q e f;refine Ends.cond (λk=>?_) λk=>?_;have k:=cw k;simp only at k⊢;refine(atn f).bind λu a=>Ends.room (by simp;omega) ?_;rw[aj (n:=(l.length)+1) J J,aj J J,aj J J];refine j _ ⟨by show 0<=n-1;omega,by simp;omega,aeo e ⟨rfl,a.1.1,a.1.2.1,a.1.2.2⟩,a.2⟩ (by show(n-1).toNat<n.toNat;omega);have k:=eS k;simp only at k⊢;exact Ends.pure ⟨⟨⟨by show 1<=l.length;omega,by show l.length<=3;omega⟩,e⟩,f⟩
theorem ama {v b}:(gr v b).1.length<=96:=by grind[gr,akn,eG]
theorem WY (h:Cu c):Ends (FI c) λr=>r.1.length<=96/\Cu r.2:=by refine(mD (P:=λ_=>True) h eR aD).bind λf a=>(jy a.2 eR).bind λd b=>(OG b.2 d.1).bind λg e=>?_;grind[X9,aa,Ends.pure,ama]
theorem ahH (h:Cu c):Ends (JW c) λr=>(r.1.length=2/\∀x∈r.1,x.length=96)/\Cu r.2:=by
 refine Ends.FZ (λx=>0<=x.1/\x.1<=2/\(x.2.2.length:Int)=x.1/\(∀y∈x.2.2,y.length=96)/\Cu x.2.1) (λx=>(2-x.1).toNat) ⟨aD,aD,aD,aD,h⟩ aD λx p o m=>?_;obtain⟨i,C,l⟩:=x;obtain⟨z,A,B,e,f⟩:=o;simp only at z A B e f;refine Ends.cond (λk=>?_) λk=>?_;have k:=cw k;refine(WY f).bind λD q=>(yV q.2 _).bind λE g=>?_;have a:∀(s t:Bytes)(d:ZD),s.length+t.length=96->Cu d->Ends (Go.Dn.room (List.length s+List.length t) (Go.Dn.room (List.length l+List.length [(s++t)]) (p (V (i+1),d,l++[(s++t)])))) (λr=>(r.1.length=2/\∀x∈r.1,x.length=96)/\Cu r.2):=by intro s t d n j;refine Ends.room J (Ends.room (by simp;omega) ?_);rw[aj J J];refine m _ ⟨J,J,by simp;omega,?_,j⟩ J;intro y b;rcases aB.1 b with b|b;exact e y b;rw[aY.1 b,aq];exact n
 refine Ends.cond (λ_=>?_) λ_=>?_;refine(OG g 30).bind λF u=>?_;rw[aj J J];exact(Rh _ 255).bind λw v=>a _ _ _ J u.2;rw[aj J J];exact(Rh _ 255).bind λw v=>a _ _ _ J g;have k:=eS k;exact Ends.pure ⟨⟨by show l.length=2;omega,e⟩,f⟩
theorem Zh {f s c a b}(hf:f.2.2.length<=1000)(hs:I1 s)(d:b<=3)(h:(pa f s c a b).2=O):(Mq (pa f s c a b).1/\(pa f s c a b).1.2.2.2.2.2.2.2.1=f)/\(pa f s c a b).1.2.2.2.1.length=1:=by
 refine⟨⟨?_,?_⟩,?_⟩;obtain⟨x,e,i⟩:=aiO 1 f s c a b hf hs d;rw[UE f s c a b J (by have:=hs.r;omega) (by have:=hs.t;omega) (by have:=hs.p;omega)]at e;have e:=bu e;rw[e]at h⊢;exact(i.1 h).1;unfold pa at h⊢;cases g:gu f&&(fK s 1&&(wB a b).2)with|true=>rfl|false=>rw[g]at h;cases h
 unfold pa at h⊢;cases g:gu f&&(fK s 1&&(wB a b).2)with|true=>rfl|false=>rw[g]at h;cases h
def Il (a:J6)(n:Nat):Z bc:=(List.range n).map λ(i:Nat)=>((i:Int),(i:Int)+1,a,O,0,0)
theorem Ls a n:(Il a n).length=n:=by simp[Il]
theorem afv a n:Il a (n+1)=Il a n++[((n:Int),(n:Int)+1,a,O,0,0)]:=by simp[Il,ja]
theorem P8 a{n i}(h:i<n):(Il a n).getD i SL=((i:Int),(i:Int)+1,a,O,0,0):=by grind[Il]
structure L7 (c:dv):Prop where
 Dl:(cK c.2.2.1).2=O
 box:∀(i:Nat)(b:dY),c.2.2.1[i]?=I b->alk (2*((i:Int)+1)) b
 len:c.1.length=c.2.2.1.length
 host:∀(i:Nat)(h:Host)(b:dY),c.1[i]?=I h->c.2.2.1[i]?=I b->Mq h/\h.2.2.2.2.2.2.2.1=b.1
 fns:∃bk,mr bk=O/\c.2.1=Il bk c.2.2.1.length
 flash:c.2.2.2.1.length=2/\∀x∈c.2.2.2.1,x.length=96
 Sv:¬jG c.2.2.2.1<0
 clock:wA c.2.2.2.2.1=O
 rest:c.2.2.2.2.2=(([]:List Int),([]:List Bytes))
 one:∀(i:Nat)(h:Host)(b:dY),c.1[i]?=I h->c.2.2.1[i]?=I b->h.2.2.2.1.length=1
theorem L7.apo {c}(d:L7 c):gx 4 c:=by
 obtain⟨g,k,e⟩:=d.fns;have p:=EC d.Dl;refine⟨d.Dl,⟨d.len,by rw[e,Ls]⟩,?_,d.Sv,d.clock,λi h b m n=>⟨(d.host i h b m n).1.apo.mono,(d.host i h b m n).2⟩,?_,?_,?_⟩;unfold fY;rw[p.1,p.2.2.1,bg,aL,e,Ls];intro i a;have a:=bK.1 a;unfold fnB;rw[P8 g a,p.2.1,af];refine⟨?_,?_⟩;unfold MQ;simp only[k,af,aR,bg];rw[aj J J];push_cast;refine⟨⟨J,J⟩,⟨J,J⟩,⟨eR,eR⟩,eR,eR⟩;rw[aL];intro j o;have o:=bK.1 o;rw[P8 g J];unfold alY;simp only[aW,dj,cc,ne_eq];omega;intro i a;unfold Ac;rw[e,P8 g (by rw[<-d.len];exact a)];simp;·intro b k;obtain⟨i,a⟩:=eM k;have q:=d.box i b a;exact⟨q.last.2,by have:=q.done.2;omega⟩
 intro f l;rw[e]at l;simp only[Il,cX]at l;obtain⟨i,_,rfl⟩:=l;exact⟨by show(0)<=4;omega,by show(0)<=4;omega⟩
theorem akH (w:I1 st){n:J6}{t:Int}(v:∀m∈K,m.1.2.2.length<=1000):∀(l:Z dY)(k:Nat)(s:Z Host×Z bc),k<=K.length->K.drop k=l->s.1.length=k->s.2=Il n k->(∀(i:Nat)(h:Host)(b:dY),s.1[i]?=I h->K[i]?=I b->(Mq h/\h.2.2.2.2.2.2.2.1=b.1)/\h.2.2.2.1.length=1)->∀x,LA (Zg st X n) (λs=>I ((s.1,s.2,K,f,(0,0,t,0),([]:dw),([]:cL)),O)) l s=I (x,O)->
 ∃c,x=(c,Il n K.length,K,f,(0,0,t,0),([]:dw),([]:cL))/\c.length=K.length/\∀(i:Nat)(h:Host)(b:dY),c[i]?=I h->K[i]?=I b->(Mq h/\h.2.2.2.2.2.2.2.1=b.1)/\h.2.2.2.1.length=1
 |[],k,s,F,j,d,o,p,x,a=>by
  have e:k=K.length:=by have:=bA (i:=k) (l:=K);rw[j]at this;simp at this;omega
  subst e;have a:=(Prod.mk.inj (bu a)).1;exact⟨s.1,by rw[<-a,o],d,p⟩
 |y::l,k,s,F,j,d,o,p,x,a=>by
  have r:k<K.length:=by have:=bA (i:=k) (l:=K);rw[j]at this;simp at this;omega
  have z:=bZ r;rw[j]at z;obtain⟨u,A⟩:=List.cons.inj z;rw[LA]at a;unfold Zg at a;by_cases q:(pa y.1 st X 1 2).2=O;rw[aI q]at a;have E:=Zh (by rw[u];exact v _ (az r)) w J q;refine akH w v l (k+1) _ J A.symm (by simp[d]) ?_ ?_ x a;rw[o,Ls,afv];intro i h b C D;refine aeo (λi h g b B=>p i h b g B) (λb g=>?_) i h C b D;rw[d,ah r,<-u]at g;rw[<-bu g];exact E;rw[aK q]at a;simp at a
theorem aaJ {c t x}(s:I1 st)(n:∀(i:Nat)(b:dY),K[i]?=I b->alk (2*((i:Int)+1)) b)(p:f.length=2/\∀y∈f,y.length=96)(h:Dh K st X c f t=I (x,O)):L7 x:=by
 unfold Dh at h;cases a:(cK K).2&&(mr c&&(!decide (jG f<0)&&wA (0,0,t,0)))with
 |false=>grind
 |true=>
  rw[a,ae]at h;simp only[af,aW,cp]at a;have r:∀m∈K,m.1.2.2.length<=1000:=by intro m k;obtain⟨i,q⟩:=eM k;rcases(n i m q).vl with e|e<;>rw[e]<;>simp
  obtain⟨u,e,o,l⟩:=akH s r K 0 ([],[]) J rfl rfl rfl (λi h b g=>by simp at g) x h;rw[e];exact⟨a.1,n,o,λi h b d j=>(l i h b d j).1,⟨c,a.2.1,rfl⟩,p,a.2.2.1,a.2.2.2,rfl,λi h b d j=>(l i h b d j).2⟩
theorem akI (st:jx)(X:Bool)(a:J6)(F:Z Host×Z bc->dv×Bool):∀(l:Z dY)(s:Z Host×Z bc),∃r,LA (Zg st X a) (λs=>I (F s)) l s=I r
 |[],s=>⟨_,rfl⟩
 |y::l,s=>by rw[LA];unfold Zg;by_cases b:(pa y.1 st X 1 2).2=O;rw[aI b];exact akI st X a F l _;rw[aK b];exact⟨_,rfl⟩
theorem afu K st X a f t:∃r,Dh K st X a f t=I r:=by unfold Dh;cases (cK K).2&&(mr a&&(!decide (jG f<0)&&wA (0,0,t,0)))with|false=>exact⟨_,rfl⟩|true=>exact akI st X a _ K _
theorem akG (st:jx)(X:Bool)(a:J6)(F:Z Host×Z bc->dv):∀(l:Z dY)(s:Z Host×Z bc),(∀y∈l,(pa y.1 st X 1 2).2=O)->∃x,LA (Zg st X a) (λs=>I (F s,O)) l s=I (x,O)
 |[],s,_=>⟨_,rfl⟩
 |y::l,s,h=>by rw[LA];unfold Zg;rw[aI (h y (List.mem_cons_self ..))];exact akG st X a F l _ λz b=>h z (cy _ b)
theorem abg (c:I1 st)(h:∀(i:Nat)(b:dY),K[i]?=I b->alk (2*((i:Int)+1)) b)(k:K.length<=3)(j:f.length=2)X(a:J6)t:zx K st X a f t=Dh K st X a f t:=by refine agp K st X a f t J (λm d=>?_) J (by have:=c.r;omega) (by have:=c.t;omega) (by have:=c.p;omega);obtain⟨i,g⟩:=eM d;rcases(h i m g).vl with e|e<;>rw[e]<;>simp
theorem auN {Q}{d:ZD->aS R}{k1:ZD->dv->aS R}{v}(j:I1 st)(g:Cu c)(h:∀a,Cu a->Ends (d a) Q)(i:∀a x,Cu a->L7 x->Ends (k1 a x) Q):Ends (DV d k1 v c N st) Q:=by refine(mD (P:=λ_=>True) g eR aD).bind λn k=>(mD (P:=λ_=>True) k.2 eR aD).bind λo l=>(aoR l.2).bind λp b=>(jy b.2 eR).bind λq m=>(ahH m.2).bind λr f=>(mD (P:=λ_=>True) f.2 eR aD).bind λs t=>?_;rw[abg j b.1.2 b.1.1.2 f.1.1];obtain⟨⟨x,ok⟩,e⟩:=afu p.1 st (ay (q.1>0)) (n.1,2000,o.1) r.1 s.1;grind[aa,aaJ]
theorem aBm {Q}{f:Int->ZD->aS R}{k1:ZD->dv->aS R}{v}(l:0<=v/\v<=100)(j:Cu c)(k:∀a,Cu a->Ends (f (v+1) a) Q)(b:∀a x,Cu a->L7 x->Ends (k1 a x) Q):Ends (IE f k1 v c N) Q:=by
 refine(atH j).bind λm g=>(yV g.2 4).bind λn i=>?_;have k3:∀a,Cu a->Ends (yk (λh=>f h a) v a N) Q:=by grind[yk,aj]
 refine Ends.cond (λ_=>auN ⟨aD,aD,g.1,aD⟩ i k3 λa x d e=>b _ _ d e) λ_=>auN ⟨aD,aD,g.1,aD⟩ i k3 λa x d e=>b _ _ d e
theorem aly {t u}(h:t.length=84)(j:u.length=96):¬jG [(gr 1 []).1++t,u]<0:=by
 have el:(gr 1 []).1.length=12:=by decide+kernel
 have k:jA ((gr 1 []).1++t)=1:=by
  have g:∀a:Nat,a+4<=12->eK ((gr 1 []).1++t) (a)=eK (gr 1 []).1 (a):=by
   intro a e;unfold eK gG cr;rw[ax (by rw[aq,el];omega),iG];have b:∀i,i<12->((gr 1 []).1++t).getD i 0=(gr 1 []).1.getD i 0:=by intro i f;simp(disch:=omega)[bE]
   simp only[au];rw[b a J,b (a+1) J,b (a+2) J,b (a+3) J]
  have c:eK ((gr 1 []).1++t) 0=1:=(g 0 J).trans (by decide+kernel);have d:eK ((gr 1 []).1++t) 4=0:=(g 4 J).trans (by decide+kernel);unfold jA;rw[d,aI (by rw[aq,el];omega)];unfold aol;have t1:(((gr 1 []).1++t).take (8+(0:Int).toNat)).drop 8=[]:=by rfl
  have t2:((gr 1 []).1++t).take (12+(0:Int).toNat)=(gr 1 []).1:=by simp_all
  rw[t1,t2,c];have o:(gr 1 []).2=true:=by decide+kernel
  rw[o,iI];rfl
 simp_all[jG,jC];omega
theorem aqc (h:Cu c):Ends (NB c) λr=>L7 r.1/\Cu r.2:=by
 refine Ends.FZ (λx=>0<=x.1/\x.1<=4/\Cu x.2) (λx=>(4-x.1).toNat) ⟨aD,aD,h⟩ aD λx K A w=>?_;obtain⟨L,M,q⟩:=A;refine Ends.cond (λk=>?_) λk=>?_;have k:=cw k;exact aBm ⟨J,J⟩ q (λs m=>w _ ⟨J,J,m⟩ J) λs y m d=>Ends.pure ⟨d,m⟩;have el:(gr 1 []).1.length=12:=by decide+kernel
 simp only[X9 1 [] aD,aa];rw[el,aj J J];refine(Rh _ 255).bind λi D=>Ends.room J ((Rh 96 255).bind λl E=>?_);simp only[afw,aa];refine(Rh 16 5).bind λa F=>?_;have p:I1 (([]),replicate 8 (0,(0,0,0,0,0),0),a,[0]):=⟨aD,aD,by show a.length=16;omega,aD⟩
 have o:∀(j:Nat)(b:dY),([((2,G,([])),0,0,0),((4,G,([])),0,0,0)])[j]?=I b->alk (2*((j)+1)) b:=by intro j b g;match j with|0=>have e:=bu g;rw[<-e];exact⟨rfl,Or.inr rfl,⟨eR,eR⟩,eR,eR⟩|1=>have e:=bu g;rw[<-e];exact⟨rfl,Or.inr rfl,⟨eR,eR⟩,eR,eR⟩|j+2=>simp at g
 have g:=aly (t:=i) (u:=l) J J;rw[abg p o aD rfl];have e:∃x,Dh ([((2,G,([])),0,0,0),((4,G,([])),0,0,0)]) (([]),replicate 8 (0,(0,0,0,0,0),0),a,[0]) O (100,2000,1000) [(gr 1 []).1++i,l] 1048576=I (x,O):=by
  unfold Dh;have B:(cK [((2,G,([])),0,0,0),((4,G,([])),0,0,0)]).2=true:=by decide+kernel
  have C:mr (100,2000,1000)=true:=by decide+kernel
  have H:wA (0,0,1048576,0)=true:=by decide+kernel
  rw[B,C,H,aw g];refine akG _ _ _ _ _ _ λy f=>?_;have n:=aiv (k:=a) J;have z:(wB 1 2).2=true:=by decide+kernel
  have v:gu y.1=true:=by rcases bW.1 f with e|f;rw[e];decide+kernel;rw[aY.1 f];decide+kernel
  unfold pa;rw[v,n,z];rfl
 obtain⟨x,e⟩:=e;rw[e,aa];refine Ends.pure ⟨aaJ p o ⟨rfl,?_⟩ e,q⟩;intro y f;rcases bW.1 f with e|f;rw[e,aq,el];omega;rw[aY.1 f];omega
abbrev asj:bQ:=(0,0,0,0,0,0,0,0,0,0,0,0,0,0,0,([]:Bytes))
structure xx (n:Int) (a:dX):Prop where
 kind:0<=a.1/\a.1<=2
 fn:0<=a.2.1/\a.2.1<n
 act:atc a.2.2.1
 ok:IW a.2.2.1=O
 msg:0<=a.2.2.2.1.1/\a.2.2.2.1.1<=6
 img:a.2.2.2.2.1.length<=96
 part:0<=a.2.2.2.2.2/\a.2.2.2.2.2<=100
theorem xx.put {n}(h:xx n a){x}(b:atc x)(c:IW x=O):xx n (a.1,a.2.1,x,a.2.2.2):=⟨h.kind,h.fn,b,c,h.msg,h.img,h.part⟩
theorem alp p s c:IW (0,p,s,c,([]:Bytes),0)=true:=rfl
theorem VP b:IW (5,asj,0,0,([]:Bytes),b)=true:=rfl
theorem alo {f}(h:f.length<=600):IW (2,asj,0,0,f,0)=true:=by grind[IW,aoJ,aa,aR]
theorem B4 (h:k=1\/k=3\/k=4\/k=6\/k=0):IW (k,asj,0,0,([]:Bytes),0)=true:=by rcases h with rfl|rfl|rfl|rfl|rfl<;>rfl
theorem wa {b}(h:0<=k/\k<=6):atc (k,asj,0,0,([]:Bytes),b):=⟨aD,aD,h.1,h.2⟩
theorem Um (h:Cu c)p{n}(e:0<=n/\n<=100):Ends (yl c p n) λr=>((0<=r.1.1/\r.1.1<=281474976710655)/\(r.1.2.1=99\/r.1.2.1=2*(n+1))/\r.1.2.2=p.2.2)/\Cu r.2:=by unfold yl;rw[aj (n:=n+1) J J,aj (n:=2*(n+1)) J J];refine(yV h 12).bind λf b=>Ends.cond (λ_=>(mD (P:=λx=>0<=x/\x<=281474976710655) b eR eR).bind λd a=>Ends.pure ⟨⟨a.1,Or.inl rfl,rfl⟩,a.2⟩) λ_=>(mD (P:=λx=>0<=x/\x<=281474976710655) b eR eR).bind λd a=>Ends.pure ⟨⟨a.1,Or.inr rfl,rfl⟩,a.2⟩
theorem aiG (h:Cu c):Ends (Bx c) λr=>(0<=r.1.1/\r.1.1<=6)/\Cu r.2:=by unfold Bx;refine(jy h eR).bind λe a=>(mD (P:=λ_=>True) a.2 eR aD).bind λf b=>(mD (P:=λ_=>True) b.2 eR aD).bind λg d=>Ends.pure ⟨?_,d.2⟩;grind
theorem VT {n}(h:xx n a):∀y∈l++[a],y∈l\/xx n y:=by grind
theorem c25 {Q}{o:Z dX->ZD->dX->aS R}{g t u}(V:l.length<=1000)(C:∀p∈Y,Plain p)(v:0<=S/\S<(Y.length:Int))(n:0<=g/\g<=100)(f:Cu c)(b:xx T a)(w:∀q e d,q.length<=l.length+1->(∀y∈q,y∈l\/xx T y)->Cu e->xx T d->Ends (o q e d) Q):Ends (me o T M l Y S g t u c a) Q:=by have same:∀e d,Cu e->xx T d->Ends (o l e d) Q:=λe d z A=>w l e d J (λy D=>Or.inl D) z A;unfold me;refine Ends.cond (λ_=>?_) λ_=>?_;refine Ends.idx v.1 v.2 λB=>(Um f _ n).bind λU x=>(jy x.2 eR).bind λX E=>(mD (P:=λ_=>True) E.2 eR aD).bind λF r=>Ends.room (by simp;omega) ?_;refine w _ _ _ aD (VT (b.put ⟨?_,aD,aD,aD⟩ (alp ..))) r.2 (b.put (wa J) (B4 J));show U.1.2.2.2.2.2.2.2.2.2.2.2.2.2.2.2.length<=1000;rw[x.1.2.2];have:=(C _ (az B)).2;omega;refine Ends.cond (λ_=>same _ _ f (b.put (wa J) (B4 J))) λ_=>?_;refine Ends.cond (λ_=>(jy f eR).bind λH s=>same _ _ s.2 (b.put (wa J) (VP _))) λ_=>?_;refine Ends.cond (λ_=>same _ _ f (b.put (wa J) (B4 J))) λ_=>?_;refine Ends.cond (λ_=>(aiG f).bind λK h=>same _ _ h.2 ⟨aD,b.fn,b.act,b.ok,h.1,b.img,b.part⟩) λ_=>?_;refine Ends.cond (λ_=>(yV f 2).bind λL i=>Ends.cond (λ_=>?_) λ_=>same _ _ i (b.put (wa J) (B4 J))) λ_=>same _ _ f b;refine(WY i).bind λN j=>(jy j.2 eR).bind λm k=>same _ _ k.2 ⟨aD,b.fn,wa J,B4 J,b.msg,j.1,?_⟩;have:=k.1;show 0<=m.1/\m.1<=100;omega
theorem c19 {Q}{s:Z dX->ZD->dX->aS R}{d m o}(i:l.length<=1000)(j:∀p∈Y,Plain p)(e:0<=S/\S<(Y.length:Int))(b:0<=d/\d<=100)(g:Cu c)(f:xx T a)(h:∀k r q,k.length<=l.length+1->(∀y∈k,y∈l\/xx T y)->Cu r->xx T q->Ends (s k r q) Q):Ends (oI s T M l Y S d m o c a) Q:=by unfold oI;refine Ends.cond (λ_=>?_) λ_=>?_;refine Ends.idx e.1 e.2 λx=>(Um g _ (n:=5) J).bind λw v=>?_;have t:=Ej w.1;rw[Ou,aa];exact h l _ _ J (λy u=>Or.inl u) v.2 (f.put ⟨aD,t,aD,aD⟩ (alo J));exact Ends.cond (λ_=>c25 i j e b g f h) λ_=>Ends.cond (λ_=>c25 i j e b g f h) λ_=>Ends.cond (λ_=>c25 i j e b g f h) λ_=>c25 i j e b g f h
theorem c37 {Q}{k:Z dX->ZD->aS R}(p:l.length<=1000)(h:0<T)(m:Cu c)(i:xx T a)(j:∀f g,f.length<=l.length+3->(∀y∈f,y∈l\/xx T y)->Cu g->Ends (k f g) Q):Ends (oJ k T M l Y S c a) Q:=by unfold oJ;refine Ends.room (by simp;omega) ((yV m 2).bind λn d=>Ends.cond (λ_=>(jy d h).bind λo e=>Ends.room (by simp;omega) (Ends.room (by simp;omega) (j _ _ aD ?_ e.2))) λ_=>j _ _ aD (VT i) d);intro y b;rcases aB.1 b with b|b;rcases aB.1 b with b|b;exact VT i y b;rw[aY.1 b];exact Or.inr ⟨aD,e.1,wa J,VP _,aD,aD,aD⟩;rw[aY.1 b];exact Or.inr ⟨aD,⟨aD,h⟩,wa J,B4 J,aD,aD,aD⟩
theorem c6 {Q}{d:Z dX->Int->ZD->aS R}(j:l.length<=900)(e:0<T/\T<=3)(m:∀p∈Y,Plain p)(h:0<=S/\S<(Y.length:Int))(k:Y.length<=1000)(f:Cu c)(i:∀a b,a.length<=l.length+4->(∀y∈a,y∈l\/xx T y)->Cu b->Ends (d a (S+1) b) Q):Ends (BB d T M l Y S c) Q:=by unfold BB;refine(jy f e.1).bind λo g=>(jy g.2 eR).bind λq n=>?_;grind[xx,wa,B4,aj,vU,c19,c37]
theorem alr (h:Cu c){n}(M:0<n/\n<=3)b:Ends (Hw c n b) λr=>(r.1.length<=32/\∀a∈r.1,xx n a)/\Cu r.2:=by
 unfold Hw;refine(ar9 h (m:=8) J J).bind λo t=>?_;have h8:=t.1.2.2;refine Ends.FZ (λx=>0<=x.2.1/\x.2.1<=(o.1.length:Int)/\(x.1.length:Int)<=4*x.2.1/\(∀a∈x.1,xx n a)/\Cu x.2.2) (λx=>((o.1.length:Int)-x.2.1).toNat) ⟨aD,aD,aD,aD,t.2⟩ (by simp;omega) λx nx N s=>?_;obtain⟨l,i,C⟩:=x;obtain⟨B,T,U,u,v⟩:=N;simp only at B T U u v;unfold Gt;refine Ends.cond (λk=>?_) λk=>?_;have k:=cw k;simp only at k⊢;refine c6 J M t.1.1 ⟨B,k⟩ J v λR X Y F H=>s _ ⟨by show 0<=i+1;omega,by show i+1<=_;omega,by show(R.length:Int)<=4*(i+1);omega,?_,H⟩ (by show((o.1.length:Int)-(i+1)).toNat<((o.1.length:Int)-i).toNat;omega);intro a p;rcases F a p with g|g;exact u a g;exact g;simp only;have hl:l.length<=32:=J;refine Ends.FZ (λy=>0<=y.2/\y.2<=(y.1.length:Int)/\y.1.length=l.length/\∀a∈y.1,xx n a) (λy=>((y.1.length:Int)-y.2).toNat) ⟨aD,aD,rfl,u⟩ (by simp;omega) λy S Q L=>?_;obtain⟨q,j⟩:=y;obtain⟨e,V,w,f⟩:=Q;simp only at e V w f;unfold EO;refine Ends.cond (λk2=>?_) λk2=>Ends.pure ⟨⟨by show q.length<=32;omega,f⟩,v⟩;have k2:=cw k2;simp only at k2⊢;unfold EM;have step:∀d:Z dX,d.length=l.length->(∀a∈d,xx n a)->Ends (zQ (λA=>S (d,A)) d j C) (λr=>(r.1.length<=32/\∀a∈r.1,xx n a)/\Cu r.2):=by intro d D E;unfold zQ;rw[aj (n:=j+1) J J];exact L _ ⟨by show 0<=j+1;omega,by show j+1<=(d.length:Int);omega,D,E⟩ (by show((d.length:Int)-(j+1)).toNat<((q.length:Int)-j).toNat;omega)
 refine Ends.bind (P:=λ_=>True) ?_ λz _=>?_;exact Ends.idx e k2 λ_=>Ends.cond (λ_=>Ends.idx e k2 λ_=>Ends.cond (λ_=>Ends.idx e k2 λ_=>Ends.pure trivial) λ_=>Ends.pure trivial) λ_=>Ends.pure trivial;unfold EN;refine Ends.cond (λ_=>Ends.idx e k2 λK=>Ends.idx e k2 λ_=>step _ (by rw[aC];exact w) ?_) λ_=>step q w f;intro a p;rcases cG p with g|g;exact f a g;rw[g];exact(f _ (az K)).put (wa J) (B4 J)
theorem adR {c}(d:L7 c):B0 2000 c:=by
 have p:=EC d.Dl;obtain⟨m,_,k⟩:=d.fns;have f:∀h∈c.1,Mq h:=by intro h f;obtain⟨i,g⟩:=eM f;obtain⟨l,_⟩:=aA.1 g;exact(d.host i h _ g (ah (by rw[<-d.len];exact l))).1
 refine⟨⟨⟨by have:=d.len;omega,λh a=>(f h a).sz.z⟩,⟨by rw[k,Ls];omega,λ_ _=>⟨B,B,⟨B,B,B⟩,B,B,B⟩⟩,⟨J,λb j=>?_⟩,⟨by have:=d.flash.1;omega,λx a=>by show x.length<=2000;rw[d.flash.2 x a];omega⟩,⟨B,B,B,B⟩,?_,?_⟩,λh a=>(f h a).sz⟩;obtain⟨i,g⟩:=eM j;have q:=(d.box i b g).vl;refine⟨⟨B,B,?_,λ_ _=>trivial⟩,B,B,B⟩;show b.1.2.2.length<=2000;rcases q with e|e<;>rw[e]<;>simp;rw[show c.2.2.2.2.2.1=[] from congrArg (·.1) d.rest];exact⟨cg _,λ_ _=>trivial⟩;rw[show c.2.2.2.2.2.2=[] from congrArg (·.2) d.rest];exact⟨cg _,λx a=>by cases a⟩
def Qu (f:cL):=if jA (f.getD 0 [])<0/\jA (f.getD 1 [])<0 then-1 else if jA (f.getD 1 [])>jA (f.getD 0 []) then jA (f.getD 1 []) else jA (f.getD 0 [])
theorem amc (h:jC f=O):sD f=I (Qu f):=by obtain⟨e,c,d⟩:=B8 h;unfold sD;rw[WZ,aa];unfold jG Qu;rw[h,ae];generalize f.getD 0 []=x at e c d⊢;generalize f.getD 1 []=y at e c d⊢;subst e;by_cases a:jA x<0/\jA y<0;rw[aI a,aI a];rfl;rw[aK a,aK a];by_cases b:jA y>jA x;rw[aI b,aI b,ga,ab,show idx [x,y] 1=I y from rfl,aa,Q4 y];rfl;rw[aK b,aK b,ga,ab,show idx [x,y] 0=I x from rfl,aa,Q4 x];rfl
theorem anM (h:jC f=O):tq f=I (Qu f):=by obtain⟨e,c,d⟩:=B8 h;unfold tq;rw[RL,aa];unfold jG Qu;rw[h,ae];generalize f.getD 0 []=x at e c d⊢;generalize f.getD 1 []=y at e c d⊢;subst e;by_cases a:jA x<0/\jA y<0;rw[aI a,aI a];rfl;rw[aK a,aK a];by_cases b:jA y>jA x;rw[aI b,aI b,ga,ab,show idx [x,y] 1=I y from rfl,aa,VG y J];rfl;rw[aK b,aK b,ga,ab,show idx [x,y] 0=I x from rfl,aa,VG x J];rfl
theorem Pv (h:¬jG f<0):jC f=true:=by grind[jG]
def asS f g:=jC g=O/\∀i:Nat,(i:Int)=jG f->g.getD i []=f.getD i []
theorem air {g}(h:¬jG f<0)(k:asS f g):¬jG g<0/\Qu f<=Qu g/\0<=Qu f:=by have c:=Pv h;obtain⟨k1,k2⟩:=k;unfold jG at h k2;rw[c,ae]at h k2;unfold jG Qu;rw[k1,ae];by_cases a:jA (f.getD 0 [])<0/\jA (f.getD 1 [])<0;rw[aI a]at h;omega;rw[aK a]at h k2⊢;by_cases b:jA (f.getD 1 [])>jA (f.getD 0 []);rw[aI b]at k2⊢;have e:=k2 1 rfl;rw[e];have n:¬(jA (g.getD 0 [])<0/\jA (f.getD 1 [])<0):=J;rw[aK n,aK n];split<;>refine⟨J,J,J⟩;rw[aK b]at k2⊢;have e:=k2 0 rfl;rw[e];have n:¬(jA (f.getD 0 [])<0/\jA (g.getD 1 [])<0):=J;rw[aK n,aK n];split<;>refine⟨J,J,J⟩
theorem alV (h:jC f=O)(g:0<=k/\k<=1)(a:s.length=96):jC (f.set k.toNat s)=O/\∀i:Nat,(i:Int)≠k->(f.set k.toNat s).getD i []=f.getD i []:=by obtain⟨e,b,c⟩:=B8 h;refine⟨?_,λi d=>?_⟩;rw[e];rcases(by omega:k=0\/k=1)with rfl|rfl;unfold jC;show((((2:Nat):Int)==2)&&(((s.length:Int)==96)&&(((f.getD 1 []).length:Int)==96)))=O;rw[a,c];rfl;unfold jC;show((((2:Nat):Int)==2)&&((((f.getD 0 []).length:Int)==96)&&((s.length:Int)==96)))=O;rw[a,b];rfl;rw[bH,bH,aJ J]
theorem alf (h:¬jA s<0):12<=s.length:=by grind[jA]
theorem YO {b}(h:mr b=O)n:mr (Ly b n)=true:=by
 unfold Ly;cases c:mr b&&dF n 0 1000000 with
 |false=>exact h
 |true=>
  simp only[af,aR]at c;have a:=h;unfold mr at a;simp only[af,aR]at a;have d:0<=b.1*n/\b.1*n<=10000000000:=⟨Int.mul_nonneg a.1.1 c.2.1,by have:=Int.mul_le_mul a.1.2 c.2.2 c.2.1 (by omega:(0:Int)<=10000);omega⟩
  grind[aj,mr,aR]
theorem ai9 (K:Int->dv->aS R)b a(X:Z bc×Z dY×cL×rn×dw×cL)(f:a.length<=1000)(z:∀h∈a,Co 90000000 h):aQ (vw K (a.length:Int) b) fuel (0,a,X)=K (a.length:Int) (a.map kI,X):=by refine bJ (λi=>((i:Int),GH kI a i,X)) a.length J (λi e c=>?_) (λe=>?_);simp only[vw];have d:=z _ (az c);rw[iG,Ey _ c,aj J J];simp only[ae,aa,O1 _ (d.sz) (d.z.mono),au];rw[<-Ez _ c];rfl;simp only[vw];rw[ga,ab,Ew]
theorem aoi (K:Int->dv->aS R)b a(X:Z bc×Z dY×cL×rn×dw×cL)(f:a.length<=1000)(z:∀h∈a,Co 90000000 h):aQ (vx K (a.length:Int) b) fuel (0,a,X)=K (a.length:Int) (a.map kX,X):=by refine bJ (λi=>((i:Int),GH kX a i,X)) a.length J (λi e c=>?_) (λe=>?_);simp only[vx];have d:=z _ (az c);rw[iG,Ey _ c,aj J J];simp only[ae,aa,W9 _ (d.sz) (d.z.mono),au];rw[<-Ez _ c];rfl;simp only[vx];rw[ga,ab,Ew]
theorem akb {N M}(g:N<=M){c}(z:B0 N c){f}(d:∀h∈c.1,Co M (f h)):B0 M (c.1.map f,c.2):=by have e:=z.mono g;refine⟨⟨⟨by show(c.1.map f).length<=M;rw[bt];exact e.z.1.1,λx b=>?_⟩,e.z.2⟩,λx b=>?_⟩;obtain⟨h,a,rfl⟩:=cX.1 b;exact(d h a).z;obtain⟨h,a,rfl⟩:=cX.1 b;exact d h a
theorem afT (K:Int->dv->aS R)d a(Y X:Z bc×Z dY×cL×rn×dw×cL)(f:a.length<=1000)(z:∀h∈a,Co 90000000 h):aQ (qb K (a,Y) d) fuel (0,a,X)=K (a.length:Int) (a.map kI,X):=by refine bJ (λi=>((i:Int),GH kI a i,X)) a.length J (λi e b=>?_) (λe=>?_);simp only[qb,Cf];have c:=z _ (az b);rw[iG,Ey _ b,aP b,aj J J];simp only[ae,aa,Pb _ (c.sz) (c.z.mono),au];rw[<-Ez _ b];rfl;simp only[qb,Cf];rw[ga,ab,Ew]
theorem ajO (K:Int->dv->aS R)d a(Y X:Z bc×Z dY×cL×rn×dw×cL)(f:a.length<=1000)(z:∀h∈a,Co 90000000 h):aQ (qc K (a,Y) d) fuel (0,a,X)=K (a.length:Int) (a.map kX,X):=by refine bJ (λi=>((i:Int),GH kX a i,X)) a.length J (λi e b=>?_) (λe=>?_);simp only[qc,Cf];have c:=z _ (az b);rw[iG,Ey _ b,aP b,aj J J];simp only[ae,aa,Yf _ (c.sz) (c.z.mono),au];rw[<-Ez _ b];rfl;simp only[qc,Cf];rw[ga,ab,Ew]
def HX:Nat->Bytes->Bytes
 |0,s=>s
 |j+1,s=>(HX j s).set j 255
theorem K6 (s:Bytes):∀n,(HX n s).length=s.length
 |0=>rfl
 |n+1=>by rw[HX,aC,K6 s n]
theorem SF (s:Bytes):∀n,n<=s.length->HX n s=replicate n 255++s.drop n
 |0,_=>rfl
 |n+1,h=>by rw[HX,SF s n J,List.set_append_right _ _ aD,List.length_replicate,kz,bZ J,List.set_cons_zero,List.replicate_succ',aH];rfl
theorem ints_set (s:Bytes)i x:(dU s).set i (x.toNat:Int)=dU (s.set i x):=(List.map_set ..).symm
theorem Xc {i}(h:i<s.length):idx (dU s) (i:Int)=I (((s[i].toNat:Nat)):Int):=by grind[aP,dU]
theorem agn (n:Nat)(h:n<=1000000):gO (n:Int) 255=I (replicate n 255):=by
 unfold gO;rw[zip,aU J,au];have b:replicate n (0)=dU (replicate n 0):=by simp[dU]
 rw[b];refine bJ (λi=>(dU (HX i (replicate n 0)),(i:Int))) n J (λi a c=>?_) (λa=>?_);have d:i<(HX i (replicate n 0)).length:=by rw[K6];simpa using c
 simp only[nB];rw[iG,ae,Xc d,aa,aa,aj J J,au];exact congrArg (λz=>a (z,((i+1)))) (ints_set _ i 255);simp only[nB];rw[ga,ab,Ed,SF _ _ aD];simp
def Ss (d:Bytes)(a:Nat):Nat->Bytes->Bytes
 |0,s=>s
 |j+1,s=>(Ss d a j s).set (a+j) ((Ss d a j s).getD (a+j) 0&&&d.getD j 0)
theorem My (d:Bytes)(a:Nat)(s:Bytes):∀n,(Ss d a n s).length=s.length
 |0=>rfl
 |n+1=>by rw[Ss,aC,My d a s n]
theorem aui (x y:UInt8):iQ (BitVec.toNat (BitVec.ofInt (IntKind.bits .u8) (x.toNat:Int)&&&BitVec.ofInt (IntKind.bits .u8) (y.toNat:Int)):Int)=(((x&&&y).toNat:Nat):Int):=by
 have e:BitVec.toNat (BitVec.ofInt 8 (x.toNat)&&&BitVec.ofInt 8 (y.toNat))=(x&&&y).toNat:=by simp_all
 show((BitVec.toNat (BitVec.ofInt 8 (x.toNat)&&&BitVec.ofInt 8 (y.toNat))):Int)%256=_;omega
theorem asn {a:Nat}(h:a<s.length)x:wC s (a:Int) [x]=s.set a x:=by grind[wC,gG,List.set_eq_take_append_cons_drop]
def DW (x:iz):=dF x.2.1 0 1&&(bif x.1==0 then(x.2.2.1==0)&&(x.2.2.2==([]:Bytes)) else(x.1==1)&&(dF (x.2.2.2.length:Int) 1 8&&dF x.2.2.1 0 (V (96-(x.2.2.2.length:Int)))))
theorem aic x:yA x=I (DW x):=by unfold yA DW;grind[cP,aa]
theorem ajy x:zk x=I (DW x):=by unfold zk DW;grind[cz,aa]
def EB (a b:Int):=if a<b then a else b
def NF f x part:=
 bif !jC f||(!DW x||decide (part<0)) then f else
 f.set x.2.1.toNat (bif x.1==0 then HX (EB 96 part).toNat (f.getD x.2.1.toNat []) else Ss x.2.2.2 x.2.2.1.toNat (EB (x.2.2.2.length:Int) part).toNat (f.getD x.2.1.toNat []))
theorem an8 f x part:(NF f x part).length=f.length:=by grind[NF]
theorem OE {x}(h:DW x=O):(0<=x.2.1/\x.2.1<=1)/\((x.1==0)=G->x.2.2.2.length<=8/\0<=x.2.2.1/\x.2.2.1+(x.2.2.2.length:Int)<=96):=by grind[DW,aR,aj]
theorem SI (h:jC f=O)(c:0<=k/\k<=1):∃n:Nat,k=(n:Int)/\∃d:n<f.length,f[n]=f.getD n []/\(f.getD n []).length=96:=by obtain⟨e,a,b⟩:=B8 h;grind
theorem ae3 f x part(b:f.length<=10^9):sH f x part=I (NF f x part):=by
 unfold sH NF;rw[oY,pW f b,aa,aa,SR,aa,aic,aa];cases q:jC f;rfl;cases w:DW x;rfl;cases l:decide (part<0);case true=>rfl
 have l:=eS l;obtain⟨p,v⟩:=OE w;obtain⟨n,m,u,h,e⟩:=SI q p;simp only[ak,ab,aa,bL,m,aP u,au];rw[aU (by rw[h];omega),h];generalize f.getD n []=s at e;cases t:x.1==0 with
 |true=>
  rw[ae,ae];have g:0<=EB 96 part/\EB 96 part<=96:=by unfold EB;split<;>omega
  have c:(if(96)<part then 96 else part)=(((EB 96 part).toNat)):=by unfold EB at g⊢;omega
  refine bJ (λi=>(dU (HX i s),(i:Int))) (EB 96 part).toNat J (λi d r=>?_) (λd=>?_);have b:i<(HX i s).length:=by rw[K6];omega
  simp only[rH];rw[c,iG,ae,Xc b,aa,aa,aj J J,au];exact congrArg (λz=>d (z,((i+1)))) (ints_set _ i 255);simp only[rH];rw[c,ga,ab,Ed]
 |false=>
  obtain⟨y,o,A⟩:=v t;obtain⟨a,j⟩:=ar o;rw[ab,ab,j,au];have g:0<=EB (x.2.2.2.length) part/\EB (x.2.2.2.length) part<=(x.2.2.2.length):=by unfold EB;split<;>omega
  have c:(if(x.2.2.2.length)<part then(x.2.2.2.length:Int) else part)=(((EB (x.2.2.2.length) part).toNat):Int):=by unfold EB at g⊢;omega
  refine bJ (λi=>(dU (Ss x.2.2.2 a i s),(i:Int))) (EB (x.2.2.2.length) part).toNat J (λi d r=>?_) (λd=>?_);have b:a+i<(Ss x.2.2.2 a i s).length:=by rw[My];omega
  have k:i<x.2.2.2.length:=J;simp only[qq];rw[c,iG,ae,j,aj J J,(J:(a:Int)+(i)=((a+i:Nat))),Xc b,aP k,aa,aa,aa,aa,aj J J,au,aui];rw[ints_set,Ss,cU b,cU k];rfl;simp only[qq];rw[c,ga,ab,Ed]
theorem agw f x part(b:f.length<=10^9):tu f x part=I (NF f x part):=by
 unfold tu NF;rw[fi b,Ot,aa,ajy,aa];cases q:jC f;rfl;cases v:DW x;rfl;cases k:decide (part<0);case true=>rfl
 have k:=eS k;obtain⟨p,u⟩:=OE v;obtain⟨n,m,t,l,d⟩:=SI q p;simp only[ak,ab,aa,bL,m,aP t,au,bF];rw[l];generalize f.getD n []=s at d;cases r:x.1==0 with
 |true=>
  rw[ae,ae];have g:0<=EB 96 part/\EB 96 part<=96:=by unfold EB;split<;>omega
  have c:(if(96)<part then 96 else part)=(((EB 96 part).toNat)):=by unfold EB at g⊢;omega
  rw[c,agn _ J,aa,Hf _ _ _ J,aa];have e:wC s 0 (replicate (EB 96 part).toNat 255)=HX (EB 96 part).toNat s:=by rw[SF _ _ J];unfold wC gG;rw[ax (by rw[List.length_replicate];omega),ae];simp
  rw[e]
 |false=>
  obtain⟨y,o,z⟩:=u r;obtain⟨a,h⟩:=ar o;rw[ab,ab,h,au];have g:0<=EB (x.2.2.2.length) part/\EB (x.2.2.2.length) part<=(x.2.2.2.length):=by unfold EB;split<;>omega
  have c:(if(x.2.2.2.length)<part then(x.2.2.2.length:Int) else part)=(((EB (x.2.2.2.length) part).toNat):Int):=by unfold EB at g⊢;omega
  refine bJ (λi=>(Ss x.2.2.2 a i s,(i:Int))) (EB (x.2.2.2.length) part).toNat J (λi w A=>?_) (λw=>?_);have b:a+i<(Ss x.2.2.2 a i s).length:=by rw[My];omega
  have j:i<x.2.2.2.length:=J;simp only[rV];rw[c,iG,ae,h,aj J J,(J:(a:Int)+(i)=((a+i:Nat))),aP b,aP j,aa,aa,aui,Hf _ _ _ (by rw[My];omega),aa,aj J J];have e:aZ [(((((Ss x.2.2.2 a i s)[a+i]&&&x.2.2.2[i]).toNat)))]=[(Ss x.2.2.2 a i s)[a+i]&&&x.2.2.2[i]]:=Ed [_];rw[e,asn b,Ss,cU b,cU j];rfl;simp only[rV];rw[c,ga,ab]
def auY:iz:=(0,0,0,([]:Bytes))
def yt (s:Bytes)(b:Int):Nat->Z iz
 |0=>[(0,b,0,([]:Bytes))]
 |i+1=>yt s b i++[(1,b,((8+8*i:Nat):Int),(s.drop (8+8*i)).take 8)]
theorem B6 (s:Bytes)(b:Int):∀i,(yt s b i).length=i+1
 |0=>rfl
 |i+1=>by rw[yt,aq,B6 s b i];rfl
def BW f s:=
 bif !jC f||(ay ((s.length:Int)>96)||decide (jA s<0)) then [] else
 yt s (bif jG f==0 then 1 else 0) ((s.length-1)/8)++[(1,(bif jG f==0 then 1 else 0),0,s.take 8)]
theorem Yl f s:(BW f s).length<=14:=by
 unfold BW;cases a: !jC f||(ay ((s.length:Int)>96)||decide (jA s<0));case true=>exact cg _
 rw[ab,aq,B6];grind
theorem abw {a}(h:a<=s.length){j}(b:j=if(s.length:Int)<((a+8:Nat):Int) then(s.length:Int) else((a+8:Nat):Int)):sub s (a:Int) j=I ((s.drop a).take 8):=by grind[sub,au,List.drop_take]
theorem amw f s(j:s.length<=10^9):yO f s=I (BW f s):=by
 unfold yO BW;rw[SR,aa,Q4 s j,aa];cases l:jC f;rfl;cases h:decide ((s.length:Int)>96);case true=>rfl
 cases k:decide (jA s<0);case true=>rfl
 have g:=alf (eS k);have a:∀b:Int,aQ (lE (λe n=>U (sub s 0 (if(s.length:Int)<8 then(s.length) else 8)) λd=>room (List.length e+List.length [((1,b,0,d))]) (I (e++[(1,b,0,d)]))) s b) fuel ([(0,b,0,([]))],8)=I (yt s b ((s.length-1)/8)++[(1,b,0,s.take 8)]):=by intro b;refine bJ (λi=>(yt s b i,((8+8*i:Nat):Int))) ((s.length-1)/8) J (λi c m=>?_) (λc=>?_);simp only[lE];rw[iG,ae,aj J J,abw J (by rfl),aa,aU (by rw[B6,aO];omega),yt];exact congrArg (λz=>c (yt s b i++[(1,b,((8+8*i):Int),(s.drop (8+8*i)).take 8)],z)) J;simp only[lE];rw[ga,ab,nQ,FJ J J,aa,aU (by rw[B6,aO];omega)];rfl
 simp only[ak,ab,aa,bL,WZ];cases jG f==0;exact a 0;exact a 1
theorem anZ f s(j:s.length<=10^9):zL f s=I (BW f s):=by
 unfold zL BW;rw[Ot,aa,VG s j,aa];cases l:jC f;rfl;cases h:decide ((s.length:Int)>96);case true=>rfl
 cases k:decide (jA s<0);case true=>rfl
 have g:=alf (eS k);have a:∀b:Int,room (List.length ([]:Z iz)+List.length [((0,b,0,([]:Bytes)))]) (aQ (lH (λe n=>U (sub s 0 8) λd=>room (List.length e+List.length [((1,b,0,d))]) (I (e++[(1,b,0,d)]))) s b) fuel (([])++[(0,b,0,([]))],8))=I (yt s b ((s.length-1)/8)++[(1,b,0,s.take 8)]):=by intro b;refine bJ (λi=>(yt s b i,((8+8*i:Nat):Int))) ((s.length-1)/8) J (λi c m=>?_) (λc=>?_);simp only[lH];rw[iG,ae,aj J J,abw J J,aa,aU (by rw[B6,aO];omega),yt];exact congrArg (λz=>c (yt s b i++[(1,b,((8+8*i):Int),(s.drop (8+8*i)).take 8)],z)) J;simp only[lH];rw[ga,ab,FJ J J,aa,aU (by rw[B6,aO];omega)];rfl
 simp only[ak,ab,aa,bL,RL];cases jG f==0;exact a 0;exact a 1
def Vi (f:cL)(l:Z iz)(n part:Int):Nat->cL
 |0=>f
 |i+1=>NF (Vi f l n part i) (l.getD i auY) (if(i:Int)<n then 96 else part)
theorem NL (f:cL)(l:Z iz)(n part:Int):∀i,(Vi f l n part i).length=f.length
 |0=>rfl
 |i+1=>by rw[Vi,an8,NL f l n part i]
def aoj f l n part:=Vi f l n part (min l.length (n.toNat+1))
theorem aif f l n part(hf:f.length<=10^9)(j:l.length<=1000)(hn:0<=n/\n<=1000)(m:0<=part):CY f l n part=I (aoj f l n part):=by
 unfold CY aoj;rw[oY,pW f hf,aa,aa,ga,ab,ga,aa,ab];refine bJ (λi=>((i:Int),Vi f l n part i)) (min l.length n.toNat) J (λi d g=>?_) (λd=>?_);have a:i<l.length:=J;simp only[wR];rw[iG,ae,iG,aa,ae,aP a,aa,ae3 _ _ _ (by rw[NL];exact hf),aa,aj J J,Vi,cU a,zip];rfl;simp only[wR];have e:(cond (ay ((((min l.length n.toNat:Nat)):Int)<(l.length))) (I (ay ((((min l.length n.toNat)))<n))) (I G))=I false:=by by_cases h:(((min l.length n.toNat:Nat)):Int)<(l.length);rw[ax h,ae,ga];rw[aw h];rfl
 rw[e,aa,ab];by_cases h:n<(l.length);obtain⟨k,c⟩:=ar hn.1;subst c;have b:k<l.length:=J;rw[ax h,ae,aP b,aa,au,lB J,ae3 _ _ _ (by rw[NL];exact hf),aa,lB J,Vi,cU b,nQ];rw[aw h,ab,jF J,jF J]
theorem ajA f l n part(hf:f.length<=10^9)(d:l.length<=1000)(hn:0<=n/\n<=1000)(g:0<=part):DL f l n part=I (aoj f l n part):=by
 unfold DL aoj;rw[fi hf,ga,ab,ga,aa,ab,bF];refine bJ (λi=>((i:Int),Vi f l n part i)) (min l.length (n.toNat+1)) J (λi b c=>?_) (λb=>?_);have a:i<l.length:=J;simp only[xo];rw[iG,ae,iG,aa,ae,aj J J,aP a,Vi,cU a];by_cases h:(i)<n;rw[ax h,ae,aa,agw _ _ _ (by rw[NL];exact hf),aa,aI h];rfl;rw[aw h,ab,aa,agw _ _ _ (by rw[NL];exact hf),aa,aK h];rfl;simp only[xo];have e:(cond (ay ((((min l.length (n.toNat+1):Nat)):Int)<(l.length))) (I (ay ((((min l.length (n.toNat+1))))<=n))) (I G))=I false:=by by_cases h:(((min l.length (n.toNat+1):Nat)):Int)<(l.length);rw[ax h,ae,ga];rw[aw h];rfl
 rw[e,aa,ab]
theorem agB (h:jC f=O)x part:jC (NF f x part)=true:=by
 unfold NF;cases c: !jC f||(!DW x||decide (part<0));case true=>exact h
 simp only[dj,eH]at c;obtain⟨b,_⟩:=OE c.2.1;obtain⟨n,d,g,e,a⟩:=SI h b;refine(alV h b ?_).1;rw[d,au];cases x.1==0;rw[ab,My];exact a;rw[ae,K6];exact a
theorem IS (h:jC f=O)(l:Z iz)(n part:Int):∀i,jC (Vi f l n part i)=O
 |0=>h
 |i+1=>agB (IS h l n part i) _ _
def WG (k:rn)n:=(V (k.1+V (n-(if k.2.2.2<n then k.2.2.2 else n))),k.2.1,k.2.2.1,V (k.2.2.2-(if k.2.2.2<n then k.2.2.2 else n)))
theorem aop a b c:V (V (a+b)-c)=V (a+V (b-c)):=by simp only[V,iQ,IntKind.wrap,IntKind.bits,IntKind.signed];simp;omega
def ag5 k n:=
 bif !wA k|| !dF n 0 1000000 then k else
 bif !wA ((WG k (V (Int.tdiv (V (k.2.1+V (k.2.2.1*n))) 1048576))).1,Int.tmod (V (k.2.1+V (k.2.2.1*n))) 1048576,(WG k (V (Int.tdiv (V (k.2.1+V (k.2.2.1*n))) 1048576))).2.2) then k else
 ((WG k (V (Int.tdiv (V (k.2.1+V (k.2.2.1*n))) 1048576))).1,Int.tmod (V (k.2.1+V (k.2.2.1*n))) 1048576,(WG k (V (Int.tdiv (V (k.2.1+V (k.2.2.1*n))) 1048576))).2.2)
theorem aeM (k:rn)n:wH k n=I (ag5 k n):=by grind[SZ,WG,wH,ag5,aai,cP,aa,dF]
theorem aga (k:rn)n:xb k n=I (ag5 k n):=by
 have a:∀m,Hv k m=I (WG k m):=λm=>by unfold Hv WG;rw[aop]
 grind[xb,ag5,Oq,cz,aa]
end
end Go.Pu
section
namespace Go.Pu
open Go.Dn
open List (replicate)
set_option linter.unusedVariables false
set_option linter.unusedSimpArgs false
set_option maxRecDepth 100000
set_option maxHeartbeats 4000000
end Go.Pu
end
namespace Go.Pu
open Go.Dn
open List (replicate)
set_option linter.unusedSimpArgs false
set_option linter.unusedVariables false
noncomputable section
variable {c:dv} {h:Host} {s:JE} {R α:Type} {f:cL}
theorem Sx {a m n}(hn:8<=n)(z:cJ n xz c):cJ n xz (il c a m).1:=by have d:=HT c.2.2.1 a.toNat m hn (λb d=>(z.2.2.1.2 b d).1.2.2.1);have l:=Ah c.2.2.1 a.toNat m;unfold il;cases gY c&&dF a 0 ((c.2.2.1.length:Int)-1);exact z;simp only[ae];split;rename_i h b j k;have i:=aF k;have f:=aF j;refine⟨⟨?_,λx e=>?_⟩,z.2.1,⟨?_,λx e=>?_⟩,z.2.2.2⟩;show(c.1.set _ _).length<=n;rw[aC];exact z.1.1;rcases Lq e with g|rfl;exact z.1.2 _ g;obtain⟨o,p,q,r,s,t,u,w,v⟩:=z.1.2 _ f;exact⟨o,p,q,r,s,t,u,⟨B,B,⟨d _ i,λ_ _=>trivial⟩⟩,v⟩;show(lX c.2.2.1 a.toNat m).1.length<=n;rw[l];exact z.2.2.1.1;exact⟨⟨B,B,⟨d _ e,λ_ _=>trivial⟩⟩,B,B,B⟩;exact z
def okC (c:dv)(a:dX):=IW a.2.2.1&&(dF a.2.1 0 ((c.2.1.length:Int)-1)&&(dF a.1 0 2&&dF a.2.2.2.2.2 0 100))
noncomputable def Zy (c:dv)(a:dX):=aoj c.2.2.2.1 (BW c.2.2.2.1 a.2.2.2.2.1) a.2.2.2.2.2 3
noncomputable def lR c a:=
 bif !gY c|| !okC c a then(c, -1) else
 bif a.1==1 then il c a.2.1 a.2.2.2.1 else
 bif a.1==2 then((c.1.map kI,c.2.1,c.2.2.1,Zy c a,c.2.2.2.2),Qu (Zy c a)) else
 bif a.2.2.1.1==1 then(wG c a.2.1,0) else
 bif a.2.2.1.1==2 then(qE c a.2.2.1.2.2.2.2.1,0) else
 bif a.2.2.1.1==4 then((c.1.map kX,c.2.1.map (Sc 1),c.2.2.1,c.2.2.2.1,ag5 c.2.2.2.2.1 1,c.2.2.2.2.2),0) else
 match c.1[a.2.1.toNat]? with
 |some h=>((c.1.set a.2.1.toNat (Mx h a.2.2.1).1,c.2),(Mx h a.2.2.1).2)
 |none=>(c, -1)
theorem Vp (h:gY c=O):(c.1.length=c.2.1.length/\c.1.length<=3)/\jC c.2.2.2.1=O/\∀x∈c.1,eJ x=true:=by have a:=(ui h).2.2;unfold gY at h;simp only[af,aW,cp]at h;have e:=Ev h.2.1;refine⟨⟨J,a⟩,Pv h.2.2.2.1.1,λx d=>?_⟩;obtain⟨i,b,rfl⟩:=fP d;have:=aL.1 h.2.2.2.2.1 i (bK.2 b);grind[K1]
theorem aaa (h:jC f=O):f.length=2:=by rw[(B8 h).1];rfl
theorem aeS c a(z:B0 50000000 c)(l:a.2.2.1.2.2.2.2.1.length<=10^9)(j:a.2.2.2.2.1.length<=10^9):Jf c a=I (lR c a):=by
 have m:cJ 1000000000 xz c:=z.z.mono;have o:∀h∈c.1,Co 90000000 h:=λh i=>(z.h h i).mono;unfold Jf lR;rw[uj c m,aa,CD c (z.sz),aa];cases g:gY c;rfl;obtain⟨⟨q,p⟩,d,_⟩:=Vp g;have b:C5 a (c.2.1.length:Int)=I (okC c a):=by unfold C5 okC;simp only[ako,cP,aa];rw[aj (n:=(c.2.1.length:Int)-1) J J];cases IW a.2.2.1<;>cases dF a.2.1 0 ((c.2.1.length:Int)-1)<;>cases dF a.1 0 2<;>rfl
 simp only[ak,ab,b,aa,cq];cases e:okC c a;rfl;simp only[ak,ab];unfold okC at e;simp only[af,aR]at e;cases a.1==1;case true=>rw[U0 c _ _ (z.z.mono) (z.sz)];rfl
 cases a.1==2 with
 |true=>simp only[ae,ab];have k:=IS d (BW c.2.2.2.1 a.2.2.2.2.1) a.2.2.2.2.2 3 (min (BW c.2.2.2.1 a.2.2.2.2.1).length (a.2.2.2.2.2.toNat+1));rw[amw _ _ j,aa,aif _ _ _ _ (by rw[aaa d];omega) (bf (Yl ..) J) J J,aa,ai9 _ _ c.1 _ J o];show U (sD (Zy c a)) _=_;rw[amc (f:=Zy c a) k];rfl
 |false=>
  simp only[ab];cases a.2.2.1.1==1;case true=>rw[ah0 c _ (z.mono)];rfl
  cases a.2.2.1.1==2;case true=>rw[U2 c _ (z.mono) l];rfl
  cases a.2.2.1.1==4 with|true=>grind[aoi,ae5,aa,aeM]|false=>grind[aP,aa,ame]
theorem agf c a(z:B0 50000000 c)(n:a.2.2.1.2.2.2.2.1.length<=10^9)(l:a.2.2.2.2.1.length<=10^9)(k:a.2.2.2.1.1<=9223372036854775807):Jx c a=I (lR c a):=by
 have r:cJ 1000000000 xz c:=z.z.mono;have g:∀h∈c.1,Co 90000000 h:=λh j=>(z.h h j).mono;unfold Jx lR;rw[uL c r,aa,F8 c (z.sz),aa];cases i:gY c;rfl;obtain⟨⟨t,s⟩,d,_⟩:=Vp i;have b:(U (BS a.2.2.1) λo=>cond (!o) (I O) (cond (ay (a.2.1<0)) (I O) (cond (ay (a.2.1>=(c.1.length:Int))) (I O) (U (aN a.1 0 2) λp=>cond (!p) (I O) (U (aN a.2.2.2.2.2 0 100) λq=>I (!q))))))=I (!okC c a):=by unfold okC;rw[ac3,aa,cz,cz,show dF a.2.1 0 ((c.2.1.length:Int)-1)=(!decide (a.2.1<0)&& !decide (a.2.1>=(c.1.length:Int))) from by grind[aR]];cases IW a.2.2.1<;>cases decide (a.2.1<0)<;>cases decide (a.2.1>=(c.1.length:Int))<;>cases dF a.1 0 2<;>cases dF a.2.2.2.2.2 0 100<;>rfl
 simp only[ak,ab,b,aa,cq];cases e:okC c a;rfl;simp only[ak,ab];unfold okC at e;simp only[af,aR]at e;cases a.1==1;case true=>rw[Vc c _ _ (z.z.mono) (z.sz) k];rfl
 cases a.1==2 with
 |true=>simp only[ae,ab];have m:=IS d (BW c.2.2.2.1 a.2.2.2.2.1) a.2.2.2.2.2 3 (min (BW c.2.2.2.1 a.2.2.2.2.1).length (a.2.2.2.2.2.toNat+1));rw[anZ _ _ l,aa,ajA _ _ _ _ (by rw[aaa d];omega) (bf (Yl ..) J) J J,aa];show aQ (qb _ (c.1,c.2) _) fuel (0,c.1,_)=_;rw[afT _ _ c.1 _ _ J g];show U (tq (Zy c a)) _=_;rw[anM (f:=Zy c a) m];rfl
 |false=>
  simp only[ab];cases a.2.2.1.1==1;case true=>rw[ajl c _ (z.mono)];rfl
  cases a.2.2.1.1==2;case true=>rw[Vd c _ (z.mono) n];rfl
  cases a.2.2.1.1==4 with|true=>simp only[ae,ab];show aQ (qc _ (c.1,c.2) _) fuel (0,c.1,c.2)=_;rw[ajO _ _ c.1 _ _ J g];grind[UK,aa,aga]|false=>grind[aP,aa,anN]
def J7 (c:dv):=∀h∈c.1,So h
theorem Wq (f:J7 c){k}(a:So h):J7 (X1 c k h):=λx b=>by rcases cG b with e|e;exact f x e;rw[e];exact a
theorem ape x(f:So h):So (gn h x):=by
 have c:∀a b c d,So (qV h a b c d):=λ_ _ _ _=>⟨f.pl,f.w⟩
 unfold gn;cases !eJ h;case true=>exact f
 cases (cM x).2 !=0;case true=>exact c _ _ _ _
 cases !kJ h.2.2.2.2.2.2.2.1 (cM x).1;case true=>exact c _ _ _ _
 cases ji h.2.2.2.2.2.2.2.2.1 (h.2.2.2.1.length:Int) (cM x).1== -1;case true=>exact c _ _ _ _
 simp only[ab];cases h.2.2.2.1[(ji h.2.2.2.2.2.2.2.2.1 (h.2.2.2.1.length:Int) (cM x).1).toNat]? with|none=>exact f|some q=>exact QG (c _ _ _ _) (JB (adJ ..))
theorem ahD Y v p j(f:J7 c):J7 (dM Y v p c j):=by unfold dM;cases j==0 with|true=>exact f|false=>simp only[ab];cases a:c.1[j-1]? with|none=>exact f|some h=>exact Wq f (ape _ (f h (aF a)))
theorem ZV (Y:Z Port)(v:Int)(p:bQ):∀(l:gw){c:dv},J7 c->J7 (OJ Y v p c l)
 |[],c,f=>f
 |j::l,c,f=>ZV Y v p l (ahD Y v p j f)
theorem OQ e p(f:J7 c):J7 (nP c e p):=by grind[nP,ZV]
theorem Wp (Y:Z Port)(k:Int):∀(l:cL){c:dv},J7 c->J7 (Iw Y k c l)
 |[],c,f=>f
 |x::l,c,f=>by refine Wp Y k l (c:=F7 Y k c x) ?_;grind[F7,J7,sk,OQ]
theorem arJ k(f:J7 c):J7 (wG c k):=by unfold wG;cases gY c&&(!decide (k<0)&& !decide (k>=(c.1.length:Int)));exact f;simp only[ae];cases a:c.1[k.toNat]? with|none=>exact f|some h=>exact Wp _ _ _ (Wq f (QH (f h (aF a))))
theorem ab8 x(f:J7 c):J7 (qE c x):=by
 unfold qE;cases !gY c;case true=>exact f
 cases (cM x).2==0 with|true=>exact OQ _ _ (c:=IG c) f|false=>exact f
theorem akE {a m x}(d:x∈(il c a m).1.1):x∈c.1\/∃h f,h∈c.1/\x=yo h f:=by unfold il at d;cases g:gY c&&dF a 0 ((c.2.2.1.length:Int)-1)with|false=>rw[g]at d;exact Or.inl d|true=>rw[g]at d;simp only[ae]at d;split at d;rename_i h b i j;rcases cG d with e|e;exact Or.inl e;exact Or.inr ⟨h,b.1,aF i,e⟩;exact Or.inl d
theorem arB c a m:(il c a m).1.1.length=c.1.length:=by unfold il;grind
theorem Wh {N}(j:1000<=N)a(z:B0 N c)(f:J7 c):B0 (N+645000) (lR c a).1/\(lR c a).1.1.length=c.1.length/\J7 (lR c a).1:=by
 have k:B0 (N+645000) c:=z.mono;unfold lR;cases o: !gY c|| !okC c a;case true=>exact⟨k,rfl,f⟩
 simp only[dj,eH]at o;obtain⟨⟨E,C⟩,y,D⟩:=Vp o.1;simp only[ab];cases a.1==1 with
 |true=>have q:=Sx (a:=a.2.1) (m:=a.2.2.2.1) (J:8<=N+645000) k.z;refine⟨⟨q,λx b=>⟨q.1.2 x b,?_⟩⟩,arB ..,λx b=>?_⟩;rcases akE b with e|⟨h,g,l,rfl⟩;exact(k.h x e).t;exact(k.h h l).t;rcases akE b with e|⟨h,g,l,rfl⟩;exact f x e;exact⟨(f h l).pl,(f h l).w⟩
 |false=>
  simp only[ab];cases a.1==2 with
  |true=>
   have d:=akb (M:=N+645000) J z (f:=kI) λh i=>(Tp j (z.h h i) (f h i)).1;have n:=IS y (BW c.2.2.2.1 a.2.2.2.2.1) a.2.2.2.2.2 3 (min (BW c.2.2.2.1 a.2.2.2.2.1).length (a.2.2.2.2.2.toNat+1));have n:jC (Zy c a)=true:=n;obtain⟨u,f0,f1⟩:=B8 n;have v:cJ (N+645000) (.sl .str) (Zy c a):=by rw[u];refine⟨by show 2<=N+645000;omega,λx b=>?_⟩;rcases bW.1 b with e|b;rw[e];show((Zy c a).getD 0 []).length<=_;omega;rw[aY.1 b];show((Zy c a).getD 1 []).length<=_;omega
   refine⟨⟨⟨d.z.1,d.z.2.1,d.z.2.2.1,v,d.z.2.2.2.2⟩,d.h⟩,bt ..,λx b=>?_⟩;obtain⟨h,i,rfl⟩:=cX.1 b;exact(Tp j (z.h h i) (f h i)).2
  |false=>
   simp only[ab]
   cases a.2.2.1.1==1;case true=>
    have s:=ahn j a.2.1 z
    exact⟨s.1.mono,s.2,arJ _ f⟩
   cases a.2.2.1.1==2;case true=>
    have r:=afS j a.2.2.1.2.2.2.2.1 z
    exact⟨r.1.mono,r.2,ab8 _ f⟩
   cases a.2.2.1.1==4 with
   |true=>have d:=akb (M:=N+645000) J z (f:=kX) λh i=>(NI j (z.h h i)).mono;refine⟨⟨⟨d.z.1,⟨?_,λ_ _=>⟨B,B,⟨B,B,B⟩,B,B,B⟩⟩,d.z.2.2.1,d.z.2.2.2.1,⟨B,B,B,B⟩,d.z.2.2.2.2.2⟩,d.h⟩,bt ..,λx b=>?_⟩;show(c.2.1.map (Sc 1)).length<=_;rw[bt];exact d.z.2.1.1;obtain⟨h,i,rfl⟩:=cX.1 b;exact ad4 (f h i)
   |false=>simp only[ab];cases A:c.1[a.2.1.toNat]? with|none=>exact⟨k,rfl,f⟩|some h=>have p:=aF A;have e:=aoK j a.2.2.1 (z.h h p) (f h p);exact⟨RI k e.1,aC ..,Wq f e.2⟩
theorem ab7 (h:gY c=O):J7 c:=λx a=>apd ((Vp h).2.2 x a)
structure WS (c:dv) (w:dD):Prop where
 n1:w.1.length=c.1.length
 n2:w.2.1.length=c.1.length
 fns:w.2.2.1=c.2.1
 box:w.2.2.2.1=c.2.2.1
 up:w.2.2.2.2=c.2.2.2.2.2.2
 hs:∀(i:Nat)(h:Host)(s:JE)(q:List Bytes),c.1[i]?=I h->w.1[i]?=I s->w.2.1[i]?=I q->HS h s q
theorem WS.at {w:dD}(k:WS c w){i:Nat}(d:c.1[i]?=I h):∃s q,w.1[i]?=I s/\w.2.1[i]?=I q/\HS h s q:=by
 obtain⟨e,_⟩:=aA.1 d;have a:i<w.1.length:=by rw[k.n1];exact e
 have b:i<w.2.1.length:=by rw[k.n2];exact e
 exact⟨_,_,ah a,ah b,k.hs i _ _ _ d (ah a) (ah b)⟩
theorem WS.ok {n:Int}{w:dD}(g:gx n c)(k:WS c w):oQ w=true:=by
 unfold oQ;rw[k.box,k.fns,g.Dl,g.fns,bg,bg,af,af,aL,aL];have d:=g.len;have f:=k.n1;have l:=k.n2;refine⟨?_,λi a=>?_,λi a=>g.place i (by rw[<-f];exact bK.1 a)⟩;unfold Na;rw[k.box,k.fns,f,l,d.1,d.2];simp;have a:=bK.1 a;have j:i<w.2.2.2.1.length:=by rw[k.box];omega
 have e:i<c.1.length:=J;rw[SO i a j];obtain⟨s,q,b,_,hs⟩:=k.at (ah e)
 rw[ah a]at b;have b:=bu b;have q:=g.host i _ _ (ah e) (ah J);have h:w.2.2.2.1[i]=c.2.2.1[i]'J:=by simp only[k.box]
 rw[b,hs.as9 q.1,h,MI (hs.oB.trans q.2)];rfl
theorem WS.set {w:dD}(k:WS c w){i:Nat}{q:cL}(hs:HS h s q):WS (c.1.set i h,c.2) (w.1.set i s,w.2.1.set i q,w.2.2):=by refine⟨by simp only[aC];exact k.n1,by simp only[aC];exact k.n2,k.fns,k.box,k.up,λj f l g a b d=>?_⟩;by_cases e:i=j;subst e;rw[bX]at a b d;simp only[dm]at a b d;split at a<;>cases a;split at b<;>cases b;split at d<;>cases d;exact hs;rw[aJ e]at a b d;exact k.hs j _ _ _ a b d
theorem WS.soft {w:dD}(k:WS c w){i:Nat}{q:cL}(a:w.2.1[i]?=I q)(hs:HS h s q):WS (c.1.set i h,c.2) (w.1.set i s,w.2):=by have:=k.set (i:=i) hs;obtain⟨b,e⟩:=aA.1 a;rw[<-e,List.set_getElem_self]at this;exact this
theorem WS.queue {w:dD}(k:WS c w){i:Nat}{q:cL}(a:w.1[i]?=I s)(hs:HS h s q):WS (c.1.set i h,c.2) (w.1,w.2.1.set i q,w.2.2):=by have:=k.set (i:=i) hs;obtain⟨b,e⟩:=aA.1 a;rw[<-e,List.set_getElem_self]at this;exact this
theorem WS.host {w:dD}(k:WS c w){i:Nat}{q:cL}(a:w.1[i]?=I s)(b:w.2.1[i]?=I q)(hs:HS h s q):WS (c.1.set i h,c.2) w:=by have:=k.queue (i:=i) a hs;obtain⟨d,e⟩:=aA.1 b;rw[<-e,List.set_getElem_self]at this;exact this
theorem asQ {n:Int}(hn:n<=400000000000){w:dD}(g:gx n c)(k:WS c w)(Y:Z Port)(v:Int)(p:bQ){j:Nat}(f:j<=c.1.length):WS (dM Y v p c j) (II Y v p w j):=by
 unfold dM II;cases b:j==0 with
 |true=>exact⟨k.n1,k.n2,k.fns,k.box,by rw[ae,ae];exact congrArg (·++_) k.up,k.hs⟩
 |false=>
  have b:j≠0:=by simpa using b
  have a:j-1<c.1.length:=J;obtain⟨s,q,d,e,hs⟩:=k.at (ah a)
  rw[ab,ab,ah a,bH,d];exact k.soft e (ahV hn (g.at (ah a)) hs _)
theorem arl (Y:Z Port)(v:Int)(p:bQ):∀(l:gw){n:Int}{c:dv}{w:dD},n+641*(l.length:Int)<=400000000000->(∀j∈l,j<=c.1.length)->gx n c->WS c w->WS (OJ Y v p c l) (KH Y v p w l)
 |[],_,_,_,_,_,_,k=>k
 |j::l,n,c,w,hn,a,g,k=>by simp only[bj]at hn;exact arl Y v p l (n:=n+641) J (λi b=>by rw[(Xg Y v p c j).len];exact a i (by simp[b])) (WN J g Y v p j) (asQ J g k Y v p (a j aD))
theorem YF {n:Int}(hn:n<=390000000000){w:dD}(g:gx n c)(k:WS c w)(e:Int){p:bQ}(b:eU p=O):WS (nP c e p) (jc w e p):=by have ok:=k.ok g;have d:=(VB ok).1;have i:=k.n1;unfold jc nP;rw[ok,b,k.box];rw[k.box]at d;cases decide (jg (cK c.2.2.1).1 e p<0)with|true=>exact k|false=>have f:=uf (cK c.2.2.1).1 e p;have h:=(aaT c.2.2.1).1;exact arl _ _ _ _ J (λj a=>by have:=Ck j a;omega) g k
theorem aoq {n:Int}(hn:n<=390000000000){w:dD}(g:gx n c)(k:WS c w)(e:Int)(p:bQ):WS (sk c e p) (jc w e p):=by unfold sk;rw[g.ok J,bg];cases a:eU p with|true=>exact YF hn g k e a|false=>unfold jc;rw[a,ij];exact k
theorem asP {n:Int}(hn:n<=380000000000){w:dD}(g:gx n c)(k:WS c w){i:Nat}(d:i<=1000)(x:Bytes):WS (F7 (cK c.2.2.1).1 (i:Int) c x) (Pf (cK c.2.2.1).1 (i:Int) w x):=by
 unfold Pf;cases b:(cM x).2==0 with
 |false=>rw[af2 b];exact k
 |true=>
  have q:=WL J g (i:Int) (cM x).1;have a:WS (c.1,(ox c.2.1 (cK c.2.2.1).1 (i:Int) (cM x).1).1,c.2.2) (w.1,w.2.1,(ox c.2.1 (cK c.2.2.1).1 (i:Int) (cM x).1).1,w.2.2.2):=⟨k.n1,k.n2,rfl,k.box,k.up,k.hs⟩
  rw[k.fns,ae];unfold F7;rw[aj J J];cases (ox c.2.1 (cK c.2.2.1).1 (i:Int) (cM x).1).2.2 with|true=>exact aoq J q a _ _|false=>exact a
theorem agX {i:Nat}(a:i<=1000)(Y:Z Port):∀(l:cL){n:Int}{c:dv}{w:dD},n+2565*(l.length:Int)<=380000000000->Y=(cK c.2.2.1).1->gx n c->WS c w->WS (Iw Y (i:Int) c l) (XT Y (i:Int) w l)
 |[],_,_,_,_,_,_,k=>k
 |x::l,n,c,w,hn,b,g,k=>by simp only[bj]at hn;have s:=WJ J g (i:Int) x;have t:=asP J g k a x;rw[<-b]at s t;exact agX a Y l (n:=n+2565) J (by rw[(Xf Y i c x).boxes];exact b) s t
theorem agY {n:Int}(hn:n<=300000000000){w:dD}(g:gx n c)(k:WS c w){i:Nat}(a:i<c.1.length)(j:c.1.length<=1000):WS (wG c (i:Int)) (HN w i):=by
 obtain⟨s,q,d,e,hs⟩:=k.at (ah a)
 have b:=g.at (ah a)
 obtain⟨h,f⟩:=aeE J b hs;have l:=Kz c.1[i];unfold wG HN;rw[g.ok J,ga,ga,au,ah a,bH,e,k.box];simp only[bS,bR,ae,gj];rw[<-f];exact agX J _ _ (n:=n) (c:=X1 c i (cS c.1[i])) (w:=(w.1,w.2.1.set i [],w.2.2)) J rfl (N8 g (gH n) (ah a) (JK b) (K9 _)) (k.queue d h)
theorem ajV {n:Int}(hn:n<=390000000000){w:dD}(g:gx n c)(k:WS c w)(x:Bytes):WS (qE c x) (bif (cM x).2==0 then jc w 0 (cM x).1 else w):=by
 have a:WS (IG c) w:=⟨k.n1,k.n2,k.fns,k.box,k.up,k.hs⟩
 unfold qE;rw[g.ok J,ak,ab];cases b:(cM x).2==0 with|true=>exact YF hn (MU g) a 0 (XO b)|false=>exact a
theorem WS.map {w:dD}(k:WS c w){f:Host->Host}{Q:cL->cL}(hf:∀h s q,h∈c.1->HS h s q->HS (f h) s (Q q)):WS (c.1.map f,c.2) (w.1,w.2.1.map Q,w.2.2):=by refine⟨by simp only[bt];exact k.n1,by simp only[bt];exact k.n2,k.fns,k.box,k.up,λi h s q a g b=>?_⟩;have a:(c.1.map f)[i]?=I h:=a;have b:(w.2.1.map Q)[i]?=I q:=b;rw[gz]at a b;cases d:c.1[i]? with|none=>rw[d]at a;cases a|some j=>cases e:w.2.1[i]? with|none=>rw[e]at b;cases b|some l=>rw[d]at a;rw[e]at b;cases a;cases b;exact hf _ _ _ (aF d) (k.hs i _ _ _ d g e)
theorem ajU {n:Int}(hn:n<=390000000000){w:dD}(g:gx n c)(k:WS c w){i:Nat}(a:i<c.1.length)(m:J6):WS (il c (i:Int) m).1 (MD w i m):=by
 have f:=g.len;obtain⟨s,q,d,e,hs⟩:=k.at (ah a)
 unfold il MD;rw[g.ok J,aR.2 ⟨J,J⟩,au,k.box,d,ah a];simp only[bR,ae];cases (lX c.2.2.1 i m).1[i]? with|none=>exact k|some b=>have:=k.soft e (al7 hs b.1);exact⟨this.n1,this.n2,this.fns,rfl,this.up,this.hs⟩
theorem atR {n:Int}{w:dD}(g:gx n c)(k:WS c w)(a:dX):okI w a=okC c a:=by have b:=g.len;unfold okI okC;rw[k.ok g,k.n1,bg,(J:(c.1.length:Int)=(c.2.1.length:Int))]
theorem at5 {n:Int}(hn:n<=300000000000){w:dD}(g:gx n c)(k:WS c w){a:dX}(B:0<=a.2.2.1.1/\a.2.2.1.1<=6):WS (lR c a).1 (Cx w a (lR c a).2):=by
 have y:=g.len;have A:=(ui (g.ok J)).2.2;unfold Cx;rw[atR g k];unfold lR;rw[g.ok J];cases t:okC c a with
 |false=>exact k
 |true=>
  unfold okC at t;simp only[af,aR]at t;obtain⟨x,v,z,_⟩:=t;obtain⟨i,e⟩:=ar v.1;have l:i<c.1.length:=J;simp only[ak,bL,ab,ae];unfold aoH;rw[e,au];cases a.1==1;case true=>exact ajU J g k l _
  cases a.1==2;case true=>
   have:=k.map (f:=kI) (Q:=λ_=>[]) λh s q p hs=>by obtain⟨j,r⟩:=eM p;exact aeD J (g.at r) hs
   exact⟨this.n1,this.n2,this.fns,this.box,this.up,this.hs⟩
  simp only[ab];obtain⟨s,q,b,m,hs⟩:=k.at (ah l)
  have d:=g.at (ah l)
  cases t1:a.2.2.1.1==1;case true=>
   rw[show(a.2.2.1.1==0)=G by simp at t1⊢;omega]
   exact agY hn g k l J
  cases t2:a.2.2.1.1==2;case true=>
   rw[show(a.2.2.1.1==0)=G by simp at t2⊢;omega]
   exact ajV J g k _
  cases t4:a.2.2.1.1==4;case true=>
   rw[show(a.2.2.1.1==0)=G by simp at t4⊢;omega]
   have:=k.map (f:=kX) (Q:=λq=>q) λh s q p hs=>by obtain⟨j,r⟩:=eM p;exact akl J (g.at r) hs
   rw[List.map_id']at this
   exact⟨this.n1,this.n2,congrArg (List.map (Sc 1)) k.fns,this.box,this.up,this.hs⟩
  simp only[ab,ah l];unfold Mx;rw[d.ok J,x];simp only[ak,bL,ab,t1,t2,t4];cases t0:a.2.2.1.1==0 with
  |true=>rw[show(a.2.2.1.1==6)=G by simp at t0⊢;omega];have o:=arU d hs a.2.2.1.2.1 a.2.2.1.2.2.1 a.2.2.1.2.2.2.1;unfold auR akV;cases u:(pP c.1[i] a.2.2.1.2.1 a.2.2.1.2.2.1 a.2.2.1.2.2.2.1).2 with|true=>rw[u]at o;simp only[ae,iI,bH,m,gj];exact k.queue b o|false=>rw[u,ab,bm]at o;exact k.host b m o
  |false=> ?_
  simp only[ab]
  cases t3:a.2.2.1.1==3;case true=>
   rw[show(a.2.2.1.1==6)=G by simp at t3⊢;omega]
   exact k.host b m (aeC J d hs)
  cases t5:a.2.2.1.1==5;case true=>
   rw[show(a.2.2.1.1==6)=G by simp at t5⊢;omega]
   exact k.host b m (WX J d hs _)
  have t6:(a.2.2.1.1==6)=true:=by simp at t0 t1 t2 t3 t4 t5⊢;omega
  rw[t6];exact k.queue b (aeD J d hs)
theorem ajH {x:iz}{part:Int}{i:Nat}(c:(i:Int)≠x.2.1):(NF f x part).getD i []=f.getD i []:=by
 unfold NF;cases a: !jC f||(!DW x||decide (part<0));case true=>rfl
 simp only[dj,eH]at a;have b:=(OE a.2.1).1;rw[ab,bH,aJ J,bH]
theorem abB {l:Z iz}{n part b:Int}(a:∀x∈l,x.2.1=b){j:Nat}(c:(j:Int)≠b):∀i,i<=l.length->(Vi f l n part i).getD j []=f.getD j []
 |0,_=>rfl
 |i+1,d=>by rw[Vi,cU (J:i<l.length),ajH (by rw[a _ (az _)];exact c),abB a c i J]
theorem TR {s:Bytes}{b:Int}:∀i,∀x∈yt s b i,x.2.1=b
 |0,x,a=>by rw[aY.1 a]
 |i+1,x,a=>by rcases aB.1 a with h|h;exact TR i x h;rw[aY.1 h]
theorem arb (h:jC f=O)(s:Bytes)(n:Int):asS f (aoj f (BW f s) n 3):=by
 refine⟨IS h _ _ _ _,λi d=>abB (b:=bif jG f==0 then 1 else 0) (λx a=>?_) ?_ _ (Nat.min_le_left ..)⟩;unfold BW at a;cases c: !jC f||(ay ((s.length:Int)>96)||decide (jA s<0))with|true=>rw[c]at a;cases a|false=>rw[c]at a;rcases aB.1 a with e|e;exact TR _ x e;rw[aY.1 e]
 rw[d];cases e:jG f==0 with
 |true=>
  have:jG f=0:=by simpa using e
  rw[this];decide
 |false=>simpa using e
theorem ahO {n:Int}(g:gx n c):gx n (c.1,c.2.1.map (Sc 1),c.2.2):=by refine aeu g (gH n) (bt ..) (λi a=>?_) λf hf=>?_;have q:=((acf.1 g.fns).2 i a).1;rw[cU a]at q⊢;rw[cU (by rw[bt];exact a),List.getElem_map];have w:=MR.1 q;exact⟨rfl,rfl,MR.2 ⟨w.1,w.2.1,YO w.2.2.1 1,w.2.2.2.1,w.2.2.2.2⟩⟩;obtain⟨x,b,rfl⟩:=cX.1 hf;exact g.fnn x b
theorem aer {n:Int}(hn:n<=10000000000)(g:gx n c)(a:dX):gx (n+14000000) (lR c a).1:=by
 have same:gx (n+14000000) c:=g.mono;have y:=g.len;unfold lR;rw[g.ok J];cases o:okC c a with
 |false=>exact same
 |true=>
  unfold okC at o;simp only[af,aR]at o;obtain⟨_,t,_⟩:=o;obtain⟨k,e⟩:=ar t.1;have u:k<c.1.length:=J;have d:=ah (l:=c.2.2.1) (i:=k) J;simp only[ak,bL,ab];rw[e,au]
  cases a.1==1;case true=>
   rw[ae]
   by_cases p:a.2.2.2.1.1=c.2.2.1[k].2.1+1
   ·obtain⟨h,v,w,b,_,_,_,s⟩:=adT g J d (m:=a.2.2.2.1) p
    rw[b];exact s.mono
   ·have b:∃x,lX c.2.2.1 k a.2.2.2.1=(c.2.2.1,x):=by
     by_cases r:a.2.2.2.1.1=c.2.2.1[k].2.1
     ·exact⟨_,ahi g.Dl d r⟩
     ·exact⟨_,adN g.Dl d r p⟩
    obtain⟨x,b⟩:=b
    rw[adU g J d b];exact same
  cases a.1==2;case true=>
   have q:=(SN g (J:n<=n+640) (f:=kI) (λh q=>PU J q) SJ).mono (J:n+640<=n+14000000)
   exact⟨q.Dl,q.len,q.fns,(air g.Sv (arb (Pv g.Sv) _ _)).1,q.clock,q.host,q.place,q.YN,q.fnn⟩
  cases a.2.2.1.1==1;case true=>exact arQ J g _
  cases a.2.2.1.1==2;case true=>exact(YW J g _).mono
  cases a.2.2.1.1==4;case true=>
   have q:=(SN (ahO g) (J:n<=n) (f:=kX) (λh q=>Kj q) WC).mono (J:n<=n+14000000)
   refine⟨q.Dl,q.len,q.fns,q.Sv,?_,q.host,q.place,q.YN,q.fnn⟩
   show wA (ag5 c.2.2.2.2.1 1)=O
   have z:=g.clock
   grind [ag5]
  have j:=ah u;simp only[ab,j];exact(N8 g (J:n<=n+641) j (apq J (g.at j) a.2.2.1) (arK ..)).mono
def ak7 (s:dv×dw)a:=((lR s.1 a).1,s.2++[(lR s.1 a).2])
def RB c(l:Z dX):=l.foldl ak7 (c,[])
theorem Tt c(l:Z dX)i a:RB c (l.take (i+1))=ak7 (RB c (l.take i)) l[i]:=by rw[aM a,RB,List.foldl_append];rfl
theorem XV {n:Nat}(hn:1000<=n)(k:B0 n c)(f:J7 c)(l:Z dX):∀i,i<=l.length->B0 (n+645000*i) (RB c (l.take i)).1/\(RB c (l.take i)).1.1.length=c.1.length/\J7 (RB c (l.take i)).1/\(RB c (l.take i)).2.length=i
 |0,_=>⟨k,rfl,f,rfl⟩
 |i+1,a=>by have g:=XV hn k f l i J;have e:=Wh J (l[i]'J) g.1 g.2.2.1;rw[Tt c l i J];refine⟨e.1.mono,e.2.1.trans g.2.1,e.2.2,?_⟩;show(_++[_]).length=_;grind
def KG c l:=bif !gY c||decide ((l.length:Int)>40) then(c,[]) else RB c l
def aou (l:Z dX):=∀a∈l,a.2.2.1.2.2.2.2.1.length<=10^9/\a.2.2.2.2.1.length<=10^9/\a.2.2.2.1.1<=9223372036854775807
theorem acx c l(k:B0 20000000 c)(f:aou l):G3 c l=I (KG c l):=by
 have d:=dB;unfold G3 KG;rw[uj c (k.z.mono),aa,CD c (k.sz),aa];cases b:gY c;rfl;cases e:decide ((l.length:Int)>40);case true=>rfl
 rw[cp]at e;simp only[ak,ab,aa,bL];refine bJ (λi=>((RB c (l.take i)).2,(i:Int),(RB c (l.take i)).1)) l.length J (λi h a=>?_) (λh=>?_);have g:=XV J k (ab7 b) l i J;have x:=f _ (az a);rw[Tt c l i a];generalize RB c (l.take i)=s at g⊢;simp only[AY];rw[iG,ae,aP a,aa,aeS _ _ (g.1.mono) x.1 x.2.1,aa,aU (by rw[g.2.2.2,aO];omega),aj J J];rfl;simp only[AY];rw[ga,ab,bB]
theorem adb c l(k:B0 20000000 c)(f:aou l):Hm c l=I (KG c l):=by
 have d:=dB;unfold Hm KG;rw[uL c (k.z.mono),aa,F8 c (k.sz),aa];cases b:gY c;rfl;cases e:decide ((l.length:Int)>40);case true=>rfl
 rw[cp]at e;simp only[ak,ab,aa,bL];refine bJ (λi=>((RB c (l.take i)).2,(i:Int),(RB c (l.take i)).1)) l.length J (λi h a=>?_) (λh=>?_);have g:=XV J k (ab7 b) l i J;have x:=f _ (az a);rw[Tt c l i a];generalize RB c (l.take i)=s at g⊢;simp only[Bn];rw[iG,ae,aP a,aa,agf _ _ (g.1.mono) x.1 x.2.1 x.2.2,aa,aU (by rw[g.2.2.2,aO];omega),aj J J];rfl;simp only[Bn];rw[ga,ab,bB]
def aoG:dX:=(0,0,aAN,(0,0,0),([]:Bytes),0)
def U8 (l:Z dX)(v:dw)(w:dD):Nat->dD
 |0=>w
 |i+1=>Cx (U8 l v w i) (l.getD i aoG) (v.getD i 0)
theorem XS {l:Z dX}{v:dw}{w:dD}{N:Nat}(h:YL N w):∀i,YL (N+412542*i) (U8 l v w i)
 |0=>h
 |i+1=>by have:=ab2 (a:=l.getD i aoG) (v:=v.getD i 0) (XS (l:=l) (v:=v) h i);rw[(J:N+412542*(i+1)=N+412542*i+412542)];exact this
def Ok (w:dD)(l:Z dX)(v:dw):dD:=
 bif !oQ w||(ay ((l.length:Int)>40)||((v.length:Int) !=(l.length:Int))) then w else U8 l v w l.length
theorem ade (w:dD)(l:Z dX)(v:dw)(h:YL 63000000 w)(g:cJ 1000000000 (.sl Mt) l)(j:∀a∈l,a.2.2.2.1.1<=9223372036854775807):FB w l v=I (Ok w l v):=by
 obtain⟨n,_,z,_⟩:=id h;have f:cJ 1000000000 iZ w:=z.mono;unfold FB Ok;simp only[JU w f,TB w (Ld f),aa];cases oQ w;rfl;by_cases b:(l.length:Int)>40;rw[ax b];rfl;rw[aw b];cases e:((v.length:Int) !=(l.length:Int));case true=>rfl
 have e:v.length=l.length:=by simp at e;omega
 simp only[ak,ab,aa,bL];refine bJ (λi=>((i:Int),U8 l v w i)) l.length J (λi k d=>?_) (λk=>?_);have c:i<v.length:=J;simp only[zD];rw[iG,aP d,aP c,aj J J];simp only[ae,aa,agh _ l[i] v[i] _ (XS (l:=l) (v:=v) h i) J (g.2 _ (az d)) (j _ (az d)),U8,cU d,cU c];rfl;simp only[zD];rw[ga,ab]
theorem YP (d:L7 c){k:Nat}(j:k<c.1.length){s:Z Stream}(l:s.length<=2000)(m:∀x∈s,x.2.2.1=[]):L7 (c.1.set k (Cm c.1[k] s),c.2):=by
 have g:∀(i:Nat)(h:Host)(b:dY),(c.1.set k (Cm c.1[k] s))[i]?=I h->c.2.2.1[i]?=I b->(Mq h/\h.2.2.2.2.2.2.2.1=b.1)/\h.2.2.2.1.length=1:=λi h b a e=>by by_cases f:i=k;subst f;rw[bn j]at a;have q:=d.host i _ b (ah j) e;rw[<-bu a];exact⟨⟨YV q.1 l m,q.2⟩,show c.1[i].2.2.2.1.length=1 from d.one i _ b (ah j) e⟩;rw[aJ (cI f)]at a;exact⟨d.host i h b a e,d.one i h b a e⟩
 exact⟨d.Dl,d.box,by rw[aC];exact d.len,λi h b a e=>(g i h b a e).1,d.fns,d.flash,d.Sv,d.clock,d.rest,λi h b a e=>(g i h b a e).2⟩
theorem aiS {Q:R->Prop}{l:Z dX}(y:l.length<=32)(o:∀a∈l,a.2.2.1.2.2.2.2.1.length<=382){K:Z bQ->Int->aS R}{f N:dv}{g:ZD}(r:∀Y i,Y.length<=64->Ends (K Y i) Q):Ends (aQ (xe K l f N g) fuel (([]:Z bQ),0)) Q:=by
 refine Ends.FZ (λx=>0<=x.2/\x.2<=(l.length:Int)/\(x.1.length:Int)<=2*x.2) (λx=>((l.length:Int)-x.2).toNat) ⟨aD,aD,aD⟩ (by simp;omega) λx m t s=>?_;obtain⟨Y,i⟩:=x;obtain⟨d,u,v⟩:=t;simp only at d u v;unfold xe;refine Ends.cond (λk=>?_) λk=>r _ _ (by show Y.length<=64;omega);have k:=cw k;simp only at k⊢;have c:∀b:Z bQ,b.length<=Y.length+2->Ends (m (b,V (i+1))) Q:=by intro b h;rw[aj (n:=i+1) J J];exact s _ ⟨by show 0<=i+1;omega,by show i+1<=_;omega,by show(b.length:Int)<=2*(i+1);omega⟩ (by show((l.length:Int)-(i+1)).toNat<((l.length:Int)-i).toNat;omega)
 have j10:∀b:Z bQ,b.length<=Y.length+1->Ends (uQ (λe=>xd (λj=>m (e,j)) l e i f N g) l b i f N g) Q:=by intro b h;unfold uQ xd;refine Ends.idx d k λp=>?_;have w:=o _ (az p);rw[EI _ J,aa];exact Ends.cond (λ_=>Ends.room (by simp;omega) (c _ (by simp;omega))) λ_=>c _ J
 unfold Dy;refine Ends.bind (P:=λ_=>True) ?_ λq _=>?_;exact Ends.idx d k λ_=>Ends.cond (λ_=>Ends.idx d k λ_=>Ends.pure trivial) λ_=>Ends.pure trivial;unfold Dz;exact Ends.cond (λ_=>Ends.idx d k λ_=>Ends.room (by simp;omega) (j10 _ aD)) λ_=>j10 _ J
theorem ari {a:dw}(f:a.length<=1048576):Ends (Dx a) λr=>L7 r.1/\r.2.length<=32/\∀x∈r.2,xx (r.1.1.length:Int) x:=by
 unfold Dx;refine(atO f).bind λD v=>(aqc v).bind λy h=>(jy h.2 eR).bind λE w=>?_;have p:=EC h.1.Dl;have B:=h.1.len;refine(alr w.2 ⟨J,J⟩ _).bind λF l=>?_;have d:=l.1.1;refine aiS d (λa f=>(l.1.2 a f).act.2.1) λY i t=>?_;refine Ends.FZ (λx=>0<=x.1/\x.1<=(x.2.1.1.length:Int)/\L7 x.2.1/\x.2.1.1.length=y.1.1.length/\Cu x.2.2) (λx=>((x.2.1.1.length:Int)-x.1).toNat) ⟨aD,aD,h.1,rfl,l.2⟩ (by simp;omega) λx C u hn=>?_;obtain⟨j,c,cu⟩:=x;obtain⟨z,A,m,o,s⟩:=u;simp only at z A m o s;unfold BU;refine Ends.cond (λk=>?_) λk=>Ends.pure ⟨m,d,λa f=>by show xx (c.1.length:Int) a;rw[o];exact l.1.2 a f⟩;have k:=cw k;simp only at k⊢;unfold BT;refine(ash s J).bind λb g=>?_;obtain⟨j,rfl⟩:∃n:Nat,j=n:=⟨j.toNat,J⟩
 have q:j<c.1.length:=J;rw[aP q,aa,aa,aj (n:=(j:Int)+1) J J,au];have e:(List.set c.1 j (Cm c.1[j] b.1)).length=c.1.length:=aC ..;refine hn _ ⟨by show 0<=(j:Int)+1;omega,?_,YP m q J g.1.2,e.trans o,g.2⟩ ?_;show(j:Int)+1<=((List.set c.1 j (Cm c.1[j] b.1)).length:Int)
 rw[e];omega;show(((List.set c.1 j (Cm c.1[j] b.1)).length:Int)-((j:Int)+1)).toNat<((c.1.length:Int)-(j:Int)).toNat;rw[e];omega
theorem agP (f:α->α)(l:Z α)(i:Nat)(h:i<l.length):((l.take i).map f++l.drop i).set i (f l[i])=(l.take (i+1)).map f++l.drop (i+1):=by
 have e:((l.take i).map f).length=i:=by simp;omega
 rw[List.set_append_right _ _ J,e,kz,bZ h,List.set_cons_zero,aM h,df,aH];rfl
theorem agO (f:α->α)(l:Z α)(i:Nat)(h:i<l.length)(a:i<((l.take i).map f++l.drop i).length):((l.take i).map f++l.drop i)[i]=l[i]:=by grind
theorem Yz (f:α->α)(l:Z α)(i:Nat)(h:i<=l.length:=by omega):((l.take i).map f++l.drop i).length=l.length:=by simp;omega
theorem ahZ (K:Int->Host->aS R)(b:Int)(r:Nat)(m:r<=200)(h:Host)(z:Co 200000000 h)(k a c:Int)(e f:dv): aQ (sE K b (r:Int) k a c e f) fuel (0,h)=K (r:Int) (BJ b r h):=by have g:=dB;refine bJ (λi=>((i:Int),BJ b i h)) r J (λi j l=>?_) (λj=>?_);have d:=NY b J z i;have z2:=NI J d;simp only[sE];rw[iG,ae,W9 _ (d.sz) (d.z.mono),aa,Uf _ b (z2.mono),aa,aj J J];rfl;simp only[sE];rw[ga,ab]
theorem ajk (K:Int->Host->aS R)(b:Int)(r:Nat)(l:r<=200)(h:Host)(z:Co 200000000 h)(j:Int)(c d e:dv): aQ (tr K b (r:Int) j c d e) fuel (0,h)=K (r:Int) (BJ b r h):=by have f:=dB;refine bJ (λi=>((i:Int),BJ b i h)) r J (λi g k=>?_) (λg=>?_);have a:=NY b J z i;have z2:=NI J a;simp only[tr];rw[iG,ae,Yf _ (a.sz) (a.z.mono),aa,UI _ b (z2.mono),aa,aj J J];rfl;simp only[tr];rw[ga,ab]
def qh (b:Int)(r:Nat)(h:Host):Host:=BJ b r (jR h)
def Qy (c:dv)(b r:Int):dv:=bif gY c&&(dF b 1 1000&&dF r 0 200) then(c.1.map (qh b r.toNat),c.2) else c
theorem apD (c:dv)(b r:Int)(k:B0 200000000 c):EY c b r=I (Qy c b r):=by have m:=dB;unfold EY Qy;rw[uj c (k.z.mono),aa,CD c (k.sz),cP,cP];simp only[aa];cases l:gY c;rfl;cases n:dF b 1 1000;rfl;cases d:dF r 0 200;rfl;have p:=aR.1 d;obtain⟨r,rfl⟩:=ar p.1;have s:=(ui l).2.2;simp only[ak,ab,aa,bR,ae,au];refine bJ (λi=>((i:Int),((c.1.take i).map (qh b r)++c.1.drop i,c.2))) c.1.length J (λi q a=>?_) (λq=>?_);have o:=Yz (qh b r) c.1 i;have e:=agO (qh b r) c.1 i a;have f:=agP (qh b r) c.1 i a;have g:=k.h _ (az a);generalize (c.1.take i).map (qh b r)++c.1.drop i=W at o e f⊢;have j:i<W.length:=J;simp only[yv];rw[iG,ae,aP j,aa,e,W2 _ (g.mono),aa,ahZ _ b r J _ (N3 J g)];simp only[aa,au];rw[aj J J,show BJ b r (jR c.1[i])=qh b r c.1[i] from rfl,f];rfl;simp only[yv];rw[ga,ab,bB,gW,bm]
theorem aqO (c:dv)(b r:Int)(k:B0 200000000 c):Fm c b r=I (Qy c b r):=by have l:=dB;unfold Fm Qy;rw[uL c (k.z.mono),aa,F8 c (k.sz),cz,cz];simp only[aa];cases j:gY c;rfl;cases n:dF b 1 1000;rfl;cases d:dF r 0 200;rfl;have p:=aR.1 d;obtain⟨r,rfl⟩:=ar p.1;have s:=(ui j).2.2;simp only[ak,ab,aa,bR,ae,au];refine bJ (λi=>((i:Int),((c.1.take i).map (qh b r)++c.1.drop i,c.2))) c.1.length J (λi q a=>?_) (λq=>?_);have o:=Yz (qh b r) c.1 i;have m:=agO (qh b r) c.1 i a;have e:=agP (qh b r) c.1 i a;have f:=k.h _ (az a);generalize (c.1.take i).map (qh b r)++c.1.drop i=W at o m e⊢;have g:i<W.length:=J;simp only[yZ];rw[iG,ae,aP a,aa,X6 _ (f.mono),aa,ajk _ b r J _ (N3 J f),aP g];simp only[aa,au];rw[aj J J,show BJ b r (jR c.1[i])=qh b r c.1[i] from rfl,e];rfl;simp only[yZ];rw[aw (by rw[Yz _ _ _ (bq _)];omega),ab,bB,gW,bm]
theorem aoT {n:Nat}(hn:1000<=n)(b:Int)(r:Nat)(a:r<=200)(z:Co n h):Co (n+128800000) (qh b r h):=(NY b hn (N3 hn z) r).mono
theorem aoU {n:Nat}(hn:1000<=n)(b r:Int)(z:B0 n c):B0 (n+128800000) (Qy c b r)/\(Qy c b r).1.length=c.1.length:=by
 unfold Qy;cases d:gY c&&(dF b 1 1000&&dF r 0 200);exact⟨z.mono,rfl⟩;simp only[af]at d;have i:=aR.1 d.2.2;have e:∀x∈c.1.map (qh b r.toNat),Co (n+128800000) x:=by intro x a;obtain⟨y,g,rfl⟩:=cX.1 a;exact aoT hn b r.toNat J (z.h y g)
 have f:=z.mono (J:n<=n+128800000);refine⟨⟨⟨⟨?_,λx a=>(e x a).z⟩,f.z.2⟩,e⟩,bt ..⟩;show(c.1.map (qh b r.toNat)).length<=_;rw[bt];exact f.z.1.1
theorem Ends.and {o:aS α}{P Q:α->Prop}(h:Ends o P)(k:Ends o Q):Ends o λx=>P x/\Q x:=by obtain⟨x,e,b⟩:=h;obtain⟨y,a,c⟩:=k;rw[e]at a;have a:=bu a;subst a;exact⟨x,e,b,c⟩
theorem alD {n:Int}(hn:n<=300000000000)(g:Good n h){Q:Nat->Z UX->dq->Vector->Bool->Prop}(f:Live Q h){c r:Nat}(t:1<=c/\c<=1000)(H:7<=r):Good (n+640) (qh (c:Int) r h)/\∀q∈(qh (c:Int) r h).2.2.2.1,q.2.2.2.2.1=G/\N9 (qh (c:Int) r h).2.1 (qh (c:Int) r h).1 0 q=false:=by
 have e:=H5 J g;have m:=Xk J g f;have j:=B9 (c:Int) e r;have a:=Ug J e t (amM e m) r;rw[(J:7-r=0)]at a;refine⟨j,λq i=>?_⟩;have i:q∈(BJ (c:Int) r (jR h)).2.2.2.1:=i;obtain⟨k,l⟩:=eM i;obtain⟨u,_⟩:=aA.1 l;have D:=tX j;obtain⟨K,p,v,b,d,z,A,B,E,x,P,C,F,s,L,M,N,y,R⟩:=a.rx k u;rw[l]at d;have d:=bu d;subst d;have o:C=[]:=by simp_all
 subst o;have w:=Te a.mem (b:=jO k+64) (by unfold jO;omega) s.com;refine⟨y,?_⟩;show N9 (BJ (c:Int) r (jR h)).2.1 (BJ (c:Int) r (jR h)).1 0 q=G;unfold N9;rw[a.maps,s.ZS,w,ij]
theorem aoV (b:Int)(r:Nat)(h:Host):oB (qh b r h)=oB h:=by unfold qh;induction r with|zero=>exact aac h|succ k a=>exact((T1 _ b).trans (WC _)).trans a
def att (a b:bc):Bool:=(a.1==b.1)&&((a.2.1==b.2.1)&&((a.2.2.1.1==b.2.2.1.1)&&((a.2.2.1.2.1==b.2.2.1.2.1)&&((a.2.2.1.2.2==b.2.2.1.2.2)&&((a.2.2.2.1==b.2.2.2.1)&&((a.2.2.2.2.1==b.2.2.2.2.1)&&((a.2.2.2.2.2==b.2.2.2.2.2)&&O)))))))
theorem apj (x y:bc):att x y=O↔x=y:=by grind[att]
theorem arX (a b:Z bc)(h:a.length<=10^9):kB a b=I (Wm a b):=by unfold kB;refine akd att apj a b h (λf i d c e=>?_) (λe=>?_);simp only[jE];rw[iG,aP d,aP c,aj J J];rfl;simp only[jE];rw[ga];rfl
def aqF (a b:Z Stream):Bool:=a.all (λs=>HR a b s.1)&&b.all (λs=>HR a b s.1)
def auA:Host:=(([]:cL),([]:Z cE),((0,0,0,0),(0,0,0,([]:dw)),([]:Z xw),0),([]:Z dq),([]:Z gL),([]:Z Vector),([]:Z Bool),(0,G,([]:dw)),(([]:Z IV),([]:Z Slot),([]:Bytes),([]:dw)),([]:Z Stream),G,([]:cL),([]:dw),([]:dw),0,0,0,0,0)
def sameAt (c:dv)(s:dD)(i:Nat):Bool:=aqF (c.1.getD i auA).2.2.2.2.2.2.2.2.2.1 (s.1.getD i aqM).2.2.2.1
def adu (c:dv)(s:dD):Bool:=gY c&&(oQ s&&(Wm c.2.1 s.2.2.1&&(Wm c.2.2.2.2.2.2 s.2.2.2.2&&(List.range c.1.length).all (sameAt c s))))
structure arq (c:dv) (s:dD):Prop where
 zc:Po c
 zs:Vj s
 u:c.2.2.2.2.2.2.length<=10^9
 a:∀h∈c.1,h.2.2.2.2.2.2.2.2.2.1.length<=10^9
 b:∀x∈s.1,x.2.2.2.1.length<=10^9
theorem alE (h:gY c=O):c.1.length=c.2.1.length:=by grind[gY,Ev]
theorem ahW {s:dD}(h:oQ s=O):s.1.length=s.2.2.1.length:=by grind[oQ,Re]
theorem atJ {β:Type}{a:Z α}{b:Z β}(h:((a.length:Int) !=(b.length:Int))=G):a.length=b.length:=by grind
theorem amD (c:dv)(s:dD)(z:arq c s):CZ c s=I (adu c s):=by
 unfold CZ adu;simp only[CD c z.zc,amj s z.zs,BO,arX _ _ z.zc.f0,aa,cD,cT];cases k:gY c;rfl;cases m:oQ s;rfl;have lc:=alE k;have t:=ahW m;have f0:=z.zc.f0;have v:=z.u;cases l:Wm c.2.1 s.2.2.1 with
 |false=>rfl
 |true=>
  have r:c.2.1.length=s.2.2.1.length:=by rw[K5.1 l]
  cases g:((c.2.2.2.2.2.2.length:Int) !=(s.2.2.2.2.length:Int))with
  |true=>rw[ZU (a:=c.2.2.2.2.2.2) (b:=s.2.2.2.2) (λe=>by rw[e]at g;simp at g)];simp only[ak,cq,kv,ae,iR,ij]
  |false=>
   have o:=atJ g;simp only[ak,cq,Bool.or_false,ab,bg];rw[ad1 (hit:=some G) (fin:=some ((List.range c.1.length).all (sameAt c s))) (λx y=>y==x) (λx y=>by rw[bw];exact eq_comm) c.2.2.2.2.2.2 s.2.2.2.2 o z.u (λi d h=>?_) (λh=>?_)];cases Wm c.2.2.2.2.2.2 s.2.2.2.2<;>rfl;simp only[wS];rw[iG,aP d,aP (J:i<s.2.2.2.2.length),aj J J];rfl;simp only[wS];rw[ga];simp only[ab];rw[iK (hit:=some G) (fin:=some O) (sameAt c s) c.1.length J (λi h d=>?_) (λh=>?_)];cases (List.range c.1.length).all (sameAt c s)<;>rfl;have q4:i<s.1.length:=J;have p:=z.a _ (az d);have q:=z.b _ (az q4);simp only[uA];rw[iG,aP d,aP q4,aj (n:=(i:Int)+1) J J];have j:sameAt c s i=aqF c.1[i].2.2.2.2.2.2.2.2.2.1 s.1[i].2.2.2.1:=by unfold sameAt;rw[cU d,cU q4]
   have f:=apR c.1[i].2.2.2.2.2.2.2.2.2.1 s.1[i].2.2.2.1 J J;simp only[ae,aa,f];rw[j];rfl;simp only[uA];rw[ga];rfl
theorem afg l(f:ON)(h:l.length<=10^9):idx l (FP f l 0)=jI l f:=by have e:FP f l 0=R7 l f:=bu ((SU l f J).symm.trans (ae4 l f h));rw[e];unfold R7 jI;rw[List.find?_eq_bind_findIdx?_getElem?];cases l.findIdx? (atF f)with|none=>rfl|some i=>exact Oa l i
theorem alv {a b}(d:a.length<=10^9)(e:b.length<=10^9)(h:∀f,jI a f=jI b f):(a.all (λs=>HR a b s.1)&&b.all (λs=>HR a b s.1))=true:=by
 have i:∀(l:Z Stream),(∀f,jI a f=jI l f)->∀s∈l,HR a b s.1=true:=λl g s hs=>by unfold HR;rw[afg a _ d,afg b _ e,<-h];cases c:jI a s.1 with|none=>rw[g]at c;have:=List.find?_eq_none.1 c s hs;grind[atF]|some x=>simp
 grind
theorem ahx {n}(hn:n<=1000000000000)(g:Good n h):0<=fN h/\fN h<=2000000000000:=by
 have e:=tX g;have d:∀q∈h.2.2.2.1,0<=q.2.2.2.2.2/\q.2.2.2.2.2<=1000000000000:=λq f=>by have:=(g.rx q f).drop;omega
 unfold fN;generalize h.2.2.2.1=l at e d;clear g;rcases l with _|⟨a,l⟩;exact⟨gH _,eR⟩;have i:=d a aD;rcases l with _|⟨b,l⟩;show 0<=V (0+a.2.2.2.2.2)/\V (0+a.2.2.2.2.2)<=2000000000000;rw[aj J J];omega;have j:=d b aD;rcases l with _|⟨c,l⟩;show 0<=V (V (0+a.2.2.2.2.2)+b.2.2.2.2.2)/\V (V (0+a.2.2.2.2.2)+b.2.2.2.2.2)<=2000000000000;rw[aj (n:=0+a.2.2.2.2.2) J J,aj J J];omega;simp only[bj]at e;omega
theorem arT {n:Int}(hn:n<=1000000000000){w:cL}(g:Good n h)(k:HS h s w)(d:∀q∈h.2.2.2.1,q.2.2.2.2.1=G/\N9 h.2.1 h.1 0 q=G):0<fN h\/∀f,jI (IK h) f=jI s.2.2.2.1 f:=by
 have j:=k.one;obtain⟨q,p,D,d1,d2,⟨⟨l,x,P,F,r⟩,ct⟩,d4⟩:=k.flow 0 J;have a:=aF d1;obtain⟨q1,q2⟩:=d q a;rcases d4.2.2 with e|e;exact Or.inl (ad0 hn g a e);refine Or.inr λf=>?_;have c:D=[]:=by cases D with|nil=>rfl|cons z D=>have i:=Td k.live.mem (b:=jO 0+64) (by unfold jO;omega) r.com;unfold N9 at q2;rw[k.live.maps,r.ZS,i.1,(g.rx q a).rx hn]at q2;cases q2
 have e:=e f rfl;unfold vE Ak at e;rw[c,q1]at e;exact e
def MB:dv->Z dX->dv
 |c,[]=>c
 |c,a::l=>MB (lR c a).1 l
def Kb:dv->Z dX->dw
 |_,[]=>[]
 |c,a::l=>(lR c a).2::Kb (lR c a).1 l
theorem WE:∀(l:Z dX)(c:dv)(s:dw),l.foldl ak7 (c,s)=(MB c l,s++Kb c l)
 |[],c,s=>by show(c,s)=(c,s++[]);rw[bm]
 |a::l,c,s=>by show l.foldl ak7 ((lR c a).1,s++[(lR c a).2])=_;rw[WE l,aH];rfl
theorem adE:∀(l:Z dX)(c:dv),(Kb c l).length=l.length
 |[],_=>rfl
 |a::l,c=>by show(Kb _ l).length+1=l.length+1;rw[adE l]
theorem aa4 (a:dX)(l:Z dX)(v:Int)(b:dw)(w:dD):∀i,U8 (a::l) (v::b) w (i+1)=U8 l b (Cx w a v) i
 |0=>rfl
 |i+1=>by show Cx (U8 (a::l) (v::b) w (i+1)) ((a::l).getD (i+1) aoG) ((v::b).getD (i+1) 0)=_;rw[aa4 a l v b w i];rfl
theorem ali:∀(l:Z dX){n:Int}{N:Nat}{c:dv}{w:dD},n+14000000*(l.length:Int)<=10^9->1000<=N->N+645000*l.length<=40000000->gx n c->B0 N c->WS c w->(∀a∈l,0<=a.2.2.1.1/\a.2.2.1.1<=6)->gx (n+14000000*(l.length:Int)) (MB c l)/\B0 (N+645000*l.length) (MB c l)/\(MB c l).1.length=c.1.length/\WS (MB c l) (U8 l (Kb c l) w l.length)
 |[],n,N,c,w,_,_,_,g,z,k,_=>⟨g.mono aD,z.mono aD,rfl,k⟩
 |a::l,n,N,c,w,hn,e,m,g,z,k,o=>by
  simp only[bj]at hn m;have d:=Wh e a z (ab7 (g.ok J));have f:n+14000000+14000000*(l.length:Int)<=10^9:=J;have h:1000<=N+645000:=Nat.le_add_right_of_le e;have j:N+645000+645000*l.length<=40000000:=by clear hn f e h;omega
  have i:=ali l f h j (aer J g a) d.1 (at5 J g k (o a aD)) λb p=>o b (by simp[p]);refine⟨i.1.mono (by simp only[bj];omega),i.2.1.mono (by clear hn f e h m j;simp only[bj];omega),i.2.2.1.trans d.2.1,?_⟩;show WS _ (U8 (a::l) ((lR c a).2::Kb (lR c a).1 l) w (l.length+1));rw[aa4];exact i.2.2.2
theorem at6 (d:L7 c):WS c (vp c)/\YL 63000000 (vp c):=by
 have g:=d.apo;have z:=acm c (adR d).z;have e:vp c=(c.1.map KM,replicate c.1.length ([]:cL),c.2.1,c.2.2.1,c.2.2.2.2.2.2):=by unfold vp;rw[g.ok J];rfl
 have x:=(ui (g.ok J)).2.2;rw[e]at z⊢;refine⟨⟨bt ..,List.length_replicate ..,rfl,rfl,rfl,λi h s q a b k=>?_⟩,2000,J,z,?_⟩;have b:(c.1.map KM)[i]?=I s:=b;have k:(replicate c.1.length ([]:cL))[i]?=I q:=k;obtain⟨u,_⟩:=aA.1 a;rw[gz,a]at b;rw[dZ,aI u]at k;have n:=ah (l:=c.2.2.1) (i:=i) (by have:=d.len;omega);have f:=(d.host i h _ a n).1;have o:=d.one i h _ a n;have w:=(asu (g.at a) J).1;have m:=al1 f;rw[<-bu b,w,<-bu k];refine⟨m.D7 λ_ _ _ _ _ _ _=>trivial,o,?_,rfl,rfl,by show(h.2.2.2.1.length:Int)=1;rw[o];rfl,aeg m (λ_=>0) λj q v=>((g.at a).rx q (aF v)).drop.1⟩;obtain⟨r,L,t⟩:=m.tx;have p:L=[]:=List.length_eq_zero_iff.1 (t.Gy.trans (by rw[f.led.1];rfl));subst p;rw[bm];exact abG ⟨r,t⟩ f.led.1;show 2000+1288*(((replicate c.1.length ([]:cL)).map λq=>q.countP zX).sum)<=63000000;rw[List.map_replicate];simp
theorem abT {n:Int}(hn:n<=1000000000000)(i:c.1.length<=3)(g:∀h∈c.1,Good n h)(b:h∈c.1)(d:0<fN h):0<B5 c:=by
 have a:∀h∈c.1,0<=fN h/\fN h<=2000000000000:=λh b=>ahx hn (g h b);unfold B5;generalize c.1=l at i b a;clear g;rcases l with _|⟨x,l⟩;cases b;have k:=a x aD;rcases l with _|⟨y,l⟩;rw[aY.1 b]at d;show 0<V (0+fN x);rw[aj J J];omega;have m:=a y aD;have f:V (V (0+fN x)+fN y)=fN x+fN y:=by rw[aj (n:=0+fN x) J J,aj J J];omega
 rcases l with _|⟨v,l⟩;show 0<V (V (0+fN x)+fN y);rw[f];rcases bW.1 b with e|e;rw[e]at d;omega;rw[aY.1 e]at d;omega;have j:=a v aD;rcases l with _|⟨u,l⟩;show 0<V (V (V (0+fN x)+fN y)+fN v);rw[f,aj J J];rcases bW.1 b with e|e;rw[e]at d;omega;rcases bW.1 e with e|e;rw[e]at d;omega;rw[aY.1 e]at d;omega;simp only[bj]at i;omega
theorem aq7 (a:dw)(ha:alm (.sl (.int .u8)) a):P6 a=I true:=by
 refine Ends.true ?_;unfold P6;refine atk rfl λhl=>?_;rw[ab];refine(ari hl).bind λr2 p2=>?_;obtain⟨c,l⟩:=r2;simp only at p2⊢;obtain⟨d,hn,m⟩:=p2;have g:=d.apo;have z:=adR d;obtain⟨w0,iv⟩:=at6 d;have hz:aou l:=λx o=>⟨by have:=(m x o).act.2.1;omega,by have:=(m x o).img;omega,by have:=(m x o).msg;omega⟩
 have er:KG c l=(MB c l,Kb c l):=by unfold KG;rw[g.ok J,ga];exact WE l c []
 have S:=acx c l (z.mono) hz;have T:=adb c l (z.mono) hz;rw[er]at S T;obtain⟨u,R,ly,V⟩:=ali l J J J g z w0 λx o=>(m x o).act.2.2;have al:=adE l c;have Z:cJ 1000000000 (.sl Mt) l:=⟨by show l.length<=_;omega,λx o=>by have k:=m x o;exact⟨B,B,⟨B,⟨B,B,B,B,B,B,B,B,B,B,B,B,B,B,B,bf k.act.1 J⟩,B,B,bf k.act.2.1 J,B⟩,⟨B,B,B⟩,bf k.img J,B⟩⟩
 have X:=ade (vp c) l (Kb c l) iv Z λx o=>by have:=(m x o).msg;omega
 have e5:Ok (vp c) l (Kb c l)=U8 l (Kb c l) (vp c) l.length:=by unfold Ok;rw[w0.ok g,ga,al,bne_self_eq_false];rfl
 rw[e5]at X;obtain⟨N,_,zi,_⟩:=XS (l:=l) (v:=Kb c l) iv l.length;have h3:=(ui (g.ok J)).2.2;generalize U8 l (Kb c l) (vp c) l.length=w at X V zi;generalize MB c l=y at S T u R ly V;generalize Kb c l=Y at S T X al;obtain⟨v,hv,hv2⟩:=auj ha hl (i:=0) J J;have t0:=Int.tmod_nonneg 3 hv2.1;have t1:=Int.tmod_lt_of_pos v (b:=3) J;obtain⟨b,hb⟩:=ar (J:0<=1+Int.tmod v 3);have u:=u.mono (J:4+14000000*(l.length:Int)<=10^9);have e:Qy y (b:Int) 30=(y.1.map (qh (b:Int) 30),y.2):=by unfold Qy;rw[u.ok J,aR.2 ⟨J,J⟩];rfl
 have E:=(aoU J (b:Int) 30 R).1;have gc:gx (1000000000+640) (y.1.map (qh (b:Int) 30),y.2):=SN u J (λh g=>B9 (b:Int) (H5 J g) 30) (aoV (b:Int) 30);have D:WS (y.1.map (qh (b:Int) 30),y.2) w:=by
  have:=V.map (f:=qh (b:Int) 30) (Q:=λq=>q) λh s q p hs=>by obtain⟨j,U⟩:=eM p;exact arS J (u.at U) hs b 30
  rw[List.map_id']at this;exact this
 have t:∀h∈y.1.map (qh (b:Int) 30),Good (1000000000+640) h/\∀q∈h.2.2.2.1,q.2.2.2.2.1=G/\N9 h.2.1 h.1 0 q=false:=by intro h p;obtain⟨x,o,rfl⟩:=cX.1 p;obtain⟨j,U⟩:=eM o;obtain⟨s,q,_,_,hs⟩:=V.at U;exact alD J (u.at U) hs.live (c:=b) (r:=30) J J
 have K:(y.1.map (qh (b:Int) 30)).length=c.1.length:=by rw[bt];exact ly
 rw[S,aa];simp only;rw[hv,aa,aj J J,hb];refine Ends.ifn eR ?_;rw[apD y _ _ (R.mono),aa,T,aa];simp only;rw[aa,aj J J,hb];refine Ends.ifn eR ?_;rw[aqO y _ _ (R.mono),aa];rw[e]at E⊢;generalize hW:y.1.map (qh (b:Int) 30)=W at E gc D t K⊢;have zh:∀h∈(W,y.2).1,h.2.2.2.1.length<=10^9:=λh p=>bf (E.h h p).z.2.2.2.1.1 J;have F:(W,y.2).1.length<=10^9:=by show W.length<=_;omega
 have hu:y.2.2.2.2.2.2.length<=10^9:=bf R.z.2.2.2.2.2.2.1 J;have M:=D.box;have P:=D.fns;have ku:=D.up;have hw:=D.ok gc;have wl:=zi.mono (J:N<=10^9);rw[Mi _ F zh,aa,agl c (z.z.mono) (z.sz),aa,X,aa,O8 Y J,aa,U1 _ F zh,aa,ku,M,P];simp only[ak,ab,aa,bne_self_eq_false];have hst:xR (W,y.2).2.2.2.2.2.2 (W,y.2).2.2.2.2.2.2=I true:=XW _ hu;rw[hst,aa];simp only[ak,ab,bne_self_eq_false,aa];have gl1:W.length=y.2.2.1.length:=gc.len.1;have gl2:y.2.1.length=y.2.2.1.length:=gc.len.2;have wb3:w.2.2.2.1.length<=3:=by rw[M];show y.2.2.1.length<=3;omega
 have z9:cJ 1000000000 xz (W,y.2):=E.z.mono;refine Ends.FZ (λx=>0<=x/\x<=(w.2.2.2.1.length:Int)) (λx=>((w.2.2.2.1.length:Int)-x).toNat) ⟨aD,aD⟩ (by simp;omega) λx nx o C=>?_;unfold Ij;refine Ends.cond (λk=>?_) λ_=>?_;have k:x<(w.2.2.2.1.length:Int):=cw k;obtain⟨j,rfl⟩:∃k:Nat,x=k:=⟨x.toNat,by have:=o.1;omega⟩
 have M:w.2.2.2.1=y.2.2.1:=M;have P:w.2.2.1=y.2.1:=P;rw[M]at k C⊢;rw[P];have j1:j<y.2.1.length:=J;have j2:j<y.2.2.1.length:=J;have hv:(y.2.2.1[j]).1.2.2.length<=10^9:=(z9.2.2.1.2 _ (az j2)).1.2.2.1;simp only[aP j1,aP j2,aa,iI,bR,ak,ab,bne_self_eq_false,O8 _ hv];rw[aj J J];exact C _ ⟨J,J⟩ J;have L:=CD (W,y.2) (E.sz);rw[gc.ok J]at L;rw[L,aa,ae];by_cases hd:B5 (W,y.2)>0;rw[ax hd];exact Ends.pure rfl;rw[aw hd,ab];have hs:∀h∈W,(IK h).length<=10^9:=λh p=>(z9.1.2 h p).2.2.2.2.2.2.2.2.2.1.1;have ht:∀s∈w.1,s.2.2.2.1.length<=10^9:=λs p=>(wl.1.2 s p).2.2.2.1.1;rw[amD (W,y.2) w ⟨E.sz,Ld wl,hu,hs,ht⟩];have wb:adu (W,y.2) w=true:=by
  unfold adu;rw[gc.ok J,hw,P,ku,MI rfl,MI rfl];simp only[bg,aL];intro i H;have H:i<W.length:=bK.1 H;have n1:w.1.length=W.length:=D.n1;have A:i<w.1.length:=J;unfold sameAt aqF;rw[cU (l:=(W,y.2).1) H,cU A];obtain⟨s,q,e1,_,ks⟩:=D.at (ah (l:=(W,y.2).1) H)
  rw[ah A]at e1;have C:=az (l:=W) H;rcases arT J (t _ C).1 ks (t _ C).2 with e|e;exact absurd (abT (c:=(W,y.2)) (n:=10^9+640) J (by show W.length<=3;omega) (λh p=>(t h p).1) C e) hd;rw[<-bu e1]at e;exact alv (hs _ C) (ht _ (az A)) e
 rw[wb];exact Ends.pure rfl
end
end Go.Pu
