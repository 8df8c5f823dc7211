import Derived.KernelRfl
import Derived.Test.YtnmppgnbjfdffaaGreatPuX1
namespace Go.Pu
open Go.Dn
open BitVec (toNat)
open Int (tmod)
set_option linter.unusedSimpArgs false
set_option linter.unusedVariables false
noncomputable section
variable {s x:Bytes} {h:Host} {d:Int} {a b hd i k n:Nat} {g:Nat->Host->Host} {p:aQ} {q:bC} {t:eM} {R α:Type} {l:ay aG} {m:cg} {f:cg×bC} {r:mR}
/- Copies of hosts and of their parts are what was copied. -/
theorem KT (l:cg)(h:l.length<=10^9):lA l=some l:=by simp only[lA,og h,cC]
theorem ME (f:Filter)(h:f.2.2.length<=10^9):tJ f=some f:=by simp only[tJ,mu _ h,ae]
theorem NG (f:Filter)(h:f.2.2.length<=10^9):zu f=some f:=by simp only[zu,og h,cC]
theorem yk (l:ay Stream)(h:l.length<=10^9:=by omega):lz l=some l:=by simp only[lz,og h,cC]
theorem Oz (t:ay Slot)(h:t.length<=10^9):vw t=some t:=by simp only[vw,og h,cC]
theorem MF (s:mT)(h:s.2.length<=10^9):tK s=some s:=by simp only[tK,mu _ h,ae]
theorem Oy (s:cV)(h1:s.1.length<=10^9)(h2:s.2.1.length<=10^9)(h3:s.2.2.2.length<=10^9):qy s=some s:=by simp only[qy,og h1,Oz _ h2,MF _ h3,ae,cC]
theorem F0 (t:ay Slot)(h:t.length<=10^9):vX t=some t:=by simp only[vX,og h,cC]
theorem OR (s:cV)(h1:s.1.length<=10^9)(h2:s.2.1.length<=10^9)(h3:s.2.2.2.length<=10^9):zk s=some s:=by simp only[zk,og h1,F0 _ h2,og h3,ae,cC]
theorem acw (l:ay oJ)(i:Nat)(hi:i<l.length):l.take i++[(l[i].1,l[i].2.1,l[i].2.2)]=l.take (i+1):=(bV hi).symm
theorem Ht (l:ay oJ)(h:l.length<=10^9)(hx:∀x∈l,x.2.2.length<=10^9):sY l=some l:=by unfold sY;refine(fW (λi=>(l.take i,(i:Int))) l.length (by omega) (λi nx hi=>?_) (λnx=>?_));simp only[rX];rw[mh,bS hi,al];simp only[ah,ae,mu _ (hx _ (bE hi))];rw[bg (by simp;omega),acw l i hi];rfl;simp only[rX];rw[du,eF];rfl
structure agm (t:eM):Prop where
 p:t.2.1.2.2.2.length<=10^9
 w:t.2.2.1.length<=10^9
 x:∀x∈t.2.2.1,x.2.2.length<=10^9
theorem Gm (t:eM)(z:agm t):qV t=some t:=by simp only[qV,uo _ z.p,Ht _ z.w z.x,ae]
theorem alO (z:eI 1000000000 gI h):agm h.2.2.1:=⟨z.2.2.1.2.1.2.2.2.1,z.2.2.1.2.2.1.1,λx hx=>(z.2.2.1.2.2.1.2 x hx).2.2.1⟩
theorem jR (h:Host)(z:eI 1000000000 gI h):gM h=some h:=by have hp:h.2.2.2.2.1.length<=10^9:=z.2.2.2.2.1.1;have hm:h.1.length<=10^9:=z.1.1;unfold gM;simp only[gK _ (show h.1.length<=1073741824 by omega),vu,og z.2.1.1,Gm _ (alO z),og z.2.2.2.1.1,ae,cC];refine(fW (λi=>((i:Int),h.1,h.2.1,h.2.2.1,h.2.2.2.1,h.2.2.2.2.1.take i,h.2.2.2.2.2)) h.2.2.2.2.1.length (by omega) (λi nx hi=>?_) (λnx=>?_));simp only[rV];rw[mh,bS hi,al];simp only[ah,ae,uo _ (z.2.2.2.2.1.2 _ (bE hi)).2.2.2.1];rw[bg (by simp;omega),<-bV hi];rfl;simp only[rV];rw[du,eF];simp only[af,og z.2.2.2.2.2.1.1,og z.2.2.2.2.2.2.1.1,ME _ z.2.2.2.2.2.2.2.1.2.2.1,Oy _ z.2.2.2.2.2.2.2.2.1.1.1 z.2.2.2.2.2.2.2.2.1.2.1.1 z.2.2.2.2.2.2.2.2.1.2.2.2.1,yk _ z.2.2.2.2.2.2.2.2.2.1.1,KT _ z.2.2.2.2.2.2.2.2.2.2.2.1.1,mu _ z.2.2.2.2.2.2.2.2.2.2.2.2.1.1,mu _ z.2.2.2.2.2.2.2.2.2.2.2.2.2.1.1,ae,cC]
theorem YX:∀l:ay oJ,(bI l).length<=V3 (.sl jW) l
 |[]=>by simp[bI]
 |x::l=>by have:=YX l;simp only[bI,V3,List.flatMap_cons,aj,cZ,List.sum_cons,aS]at this⊢;omega
def Wf (f:AB)(s:Stream):Bool:=decide (s.1=f)
def OW (l:ay Stream)(f:AB):Int:=match l.findIdx? (Wf f)with|some i=>(i:Int)|none=> -1
theorem afH (l:ay Stream)(f:AB)(h:l.length<=10^9):se l f=some (OW l f):=by
 unfold se OW;rw[E5 (p:=Wf f) (hit:=λi=>some i) (fin:=some (-1)) l (by omega) (λi hi nx=>?hs) (λnx=>?hf)]
 case hs=>
  simp only[nG]
  rw[mh,bS hi,al]
  simp only[ah,ae,E8,Wf];rfl
 case hf=>
  simp only[nG]
  rw[du];rfl
 cases l.findIdx? (Wf f)<;>rfl
theorem Uk (l:ay Stream)(f:AB)(h:l.length<=10^9):jd l f=some (OW l f):=by
 unfold jd OW;rw[E5 (p:=Wf f) (hit:=λi=>some i) (fin:=some (-1)) l (by omega) (λi hi nx=>?hs) (λnx=>?hf)]
 case hs=>
  simp only[jy]
  rw[mh,bS hi,al]
  simp only[ah,ae,E8,Wf];rfl
 case hf=>
  simp only[jy]
  rw[du];rfl
 cases l.findIdx? (Wf f)<;>rfl
def Sx:Stream:=((0,0,0,0,0),0,([]:Bytes),false)
def body (p:aQ):Bytes:=p.2.2.2.2.2.2.2.2.2.2.2.2.2.2.2
def udp (p:aQ):Bytes:=aU ((body p).length:Int)++body p
def oD (p:aQ)(b:Int):Bool:=au (toNat (ia p.2.2.2.2.2.2.2.2.2.2.2.2.2.1&&&ia b)) !=0
def fM (s:Stream)(p:aQ):Int:=(s.2.1-p.2.2.2.2.2.2.2.2.2.2.2.1)%4294967296
def SH (s:Stream)(p:aQ):Stream:=(s.1,(s.2.1+((body p).length:Int)-fM s p)%4294967296,s.2.2.1++(body p).drop (fM s p).toNat,oD p 1)
def lI (l:ay Stream)(p:aQ):ay Stream:=
 bif !cD p then l else
 match l.findIdx? (Wf (dm p))with
 |none=>
  bif p.2.2.2.2.2.2.2.2.1==17 then l++[(dm p,0,udp p,false)] else
  bif oD p 2 then l++[(dm p,tmod (au (p.2.2.2.2.2.2.2.2.2.2.2.1+1)) 4294967296,([]:Bytes),false)] else l
 |some i=>
  bif p.2.2.2.2.2.2.2.2.1==17 then l.set i ((l.getD i Sx).1,(l.getD i Sx).2.1,(l.getD i Sx).2.2.1++udp p,(l.getD i Sx).2.2.2) else
  bif oD p 2 then l else
  bif (l.getD i Sx).2.2.2||oD p 4 then l else
  bif decide (fM (l.getD i Sx) p<=((body p).length:Int)) then l.set i (SH (l.getD i Sx) p) else l
theorem SX (s:Stream)(p:aQ):0<=fM s p/\fM s p<4294967296:=by unfold fM;omega
theorem ajW (x:Int):au (toNat (ia x&&&ia 4294967295))=x%4294967296:=by have:=DK x 32;rw[show((2:Int)^32-1)=4294967295 from rfl,show((2:Int)^32)=4294967296 from rfl]at this;rw[this,al]
theorem aiK (x:Int):au x%4294967296=x%4294967296:=by have:=Cw x 32;rwa[show((2:Int)^32)=4294967296 from rfl]at this
theorem So (l:ay α)(x y:α):(l++[x]).set l.length y=l++[y]:=by rw[List.set_append_right _ _ (aV _),mi,List.set_cons_zero]
theorem agP {l:ay α}(h:i<l.length)(x:α):idx (l.set i x) (i:Int)=some x:=by rw[Lj,bD h]
theorem Hr (l:ay α)(x:α):idx (l++[x]) (l.length:Int)=some x:=by rw[Lj,bz (aV _),mi];rfl
theorem S6 (h:cD p=true):(body p).length<=320:=Dd h
theorem RS (l:ay Stream)(p:aQ)(h:eI 900000000 (.sl dK) l):yO l p=some (lI l p):=by
 have hl:l.length<=900000000:=h.1;unfold yO lI;simp only[yk l,pS,ae,MH,Uk l _ (show l.length<=10^9 by omega),lK];cases hs:cD p;rfl;have hb:=S6 hs;have hw:=bN ((body p).length:Int);simp only[ak,af];rw[show p.2.2.2.2.2.2.2.2.2.2.2.2.2.2.2=body p from rfl];cases hf:l.findIdx? (Wf (dm p))with
 |none=>
  have e1:OW l (dm p)= -1:=by rw[OW,hf]
  simp only[e1,show decide ((-1:Int)<0)=true from rfl,ah];cases p.2.2.2.2.2.2.2.2.1==17 with|true=>simp only[ah];rw[bg (by simp;omega),Hr,ae];simp only;rw[bg,bg (by simp only[aj,dv];omega),ae,aA];simp only[ae,Hr,So,cC];rfl|false=>simp only[af];rw[show(au (toNat (ia p.2.2.2.2.2.2.2.2.2.2.2.2.2.1&&&ia 2)) !=0)=oD p 2 from rfl];cases oD p 2 with|true=>simp only[ah];rw[kl,bg (by simp;omega)]|false=>rfl
 |some i=>
  obtain⟨hi,_⟩:=List.findIdx?_eq_some_iff_getElem.1 hf;have hd:(l[i].2.2.1).length<=900000000:=(h.2 _ (bE hi)).2.2.1;have e1:OW l (dm p)=(i:Int):=by rw[OW,hf]
  simp only[e1,ar (show¬(i:Int)<0 by omega),af,bS hi,ae,de hi,aA];cases p.2.2.2.2.2.2.2.2.1==17 with
  |true=>simp only[ah];rw[bg,bg (by simp only[aj];omega)];rfl
  |false=>
   simp only[af];rw[show(au (toNat (ia p.2.2.2.2.2.2.2.2.2.2.2.2.2.1&&&ia 2)) !=0)=oD p 2 from rfl,show(au (toNat (ia p.2.2.2.2.2.2.2.2.2.2.2.2.2.1&&&ia 4)) !=0)=oD p 4 from rfl,show(au (toNat (ia p.2.2.2.2.2.2.2.2.2.2.2.2.2.1&&&ia 1)) !=0)=oD p 1 from rfl];cases oD p 2;case true=>rfl
   simp only[af];rw[show(aa (cond l[i].2.2.2 (some true) (some (oD p 4))):(Bool->aC (ay Stream))->aC (ay Stream))=λK=>K (l[i].2.2.2||oD p 4) from by funext K;cases l[i].2.2.2<;>rfl];simp only;cases l[i].2.2.2||oD p 4;case true=>rfl
   simp only[af,Jf _ 4294967296,ae,aiK];rw[show(l[i].2.1-p.2.2.2.2.2.2.2.2.2.2.2.1)%4294967296=fM l[i] p from rfl];have ha:=SX l[i] p;by_cases hq:fM l[i] p<=((body p).length:Int)
   rw[aq hq,wg (l:=body p) (fM l[i] p).toNat (by omega) (by omega)];simp only[ah,ae];rw[bg (by rw[aP];omega)];simp only[agP hi,ae,List.set_set];refine congrArg some (congrArg (l.set i) ?_);simp only[SH];rw[show(au (l[i].2.1+((body p).length:Int))-fM l[i] p)%4294967296=(l[i].2.1+((body p).length:Int)-fM l[i] p)%4294967296 from by rw[Int.sub_emod,aiK,<-Int.sub_emod]];rw[ar hq];rfl
theorem Rp {l:ay Stream}(h:eI n (.sl dK) l):eI (n+322) (.sl dK) (lI l p):=by
 have h':eI (n+322) (.sl dK) l:=h.mono;unfold lI;cases hs:cD p;exact h';have hb:=S6 hs;have hw:=bN ((body p).length:Int);have hu:(udp p).length<=322:=by simp only[udp,aj];omega
 simp only[ak,af];have app:∀x:Stream,x.2.2.1.length<=n+322->eI (n+322) (.sl dK) (l++[x]):=by intro x hx;refine⟨?_,λy hy=>?_⟩;have:l.length<=n:=h.1;simp only[aj,bB];omega;rcases ax.1 hy with g|g;exact h'.2 y g;rw[bn.1 g];exact⟨⟨dq,dq,dq,dq,dq⟩,dq,hx,dq⟩
 have put:∀(i:Nat)(x:Stream),x.2.2.1.length<=n+322->eI (n+322) (.sl dK) (l.set i x):=by intro i x hx;refine⟨?_,λy hy=>?_⟩;show(l.set i x).length<=_;rw[aK];exact h'.1;rcases List.mem_or_eq_of_mem_set hy with g|rfl;exact h'.2 y g;exact⟨⟨dq,dq,dq,dq,dq⟩,dq,hx,dq⟩
 split;cases p.2.2.2.2.2.2.2.2.1==17 with|true=>exact app _ (show(udp p).length<=_ by omega)|false=>cases oD p 2 with|true=>exact app _ (cq _)|false=>exact h'
 ·rename_i i hf;obtain⟨hi,_⟩:=List.findIdx?_eq_some_iff_getElem.1 hf;have hd:(l[i].2.2.1).length<=n:=(h.2 _ (bE hi)).2.2.1;simp only[de hi];cases p.2.2.2.2.2.2.2.2.1==17 with
  |true=>exact put _ _ (by simp only[aj];omega)
  |false=>
   cases oD p 2;case true=>exact h'
   cases l[i].2.2.2||oD p 4;case true=>exact h'
   cases decide (fM l[i] p<=((body p).length:Int))with|false=>exact h'|true=>exact put _ _ (by simp only[SH,aj,aP];omega)
theorem agw (p:cX)(i:Int):nn p i= -1\/(0<=nn p i/\nn p i<=200000):=by unfold nn;cases hp:dz p;exact .inl rfl;cases hi:dF i 0 (p.2.2.1-1);exact .inl rfl;have h:=Bi hp;have h2:=aX.1 hi;have h3:0<=i*p.2.1:=Int.mul_nonneg h2.1 (by omega);have h4:i*p.2.1<=16*512:=Int.mul_le_mul (by omega) (by omega) (by omega) (by omega);simp only[ak,bG,af];exact .inr (by omega)
def agH (l:ay aG)(m:cg)(d a n:Int):Bool:=(pq l m d a n).2&&((jE (pq l m d a n).1).2==0)
def vH (l:ay aG)(m:cg)(d:Int)(s:ay Stream×bC×cX):ay Stream×bC×cX:=
 ((bif agH l m d (nn s.2.2 (ll l m d s.2.1.2.2.1).1.1) (ll l m d s.2.1.2.2.1).1.2.1 then lI s.1 (jE (pq l m d (nn s.2.2 (ll l m d s.2.1.2.2.1).1.1) (ll l m d s.2.1.2.2.1).1.2.1).1).1 else s.1),
   (s.2.1.1,s.2.1.2.1,(ll l m d s.2.1.2.2.1).2.1,s.2.1.2.2.2),(Aa s.2.2 [(ll l m d s.2.1.2.2.1).1.1]).1)
def iT (l:ay aG)(m:cg)(d:Int):Nat->ay Stream×bC×cX->Nat×(ay Stream×bC×cX)
 |0,s=>(0,s)
 |k+1,s=>bif !(ll l m d s.2.1.2.2.1).2.2 then(0,s) else((iT l m d k (vH l m d s)).1+1,(iT l m d k (vH l m d s)).2)
structure IE (n:Nat) (s:List Stream×bC×cX):Prop where
 st:eI n (.sl dK) s.1
 pl:s.2.2.2.2.2.length<=n
theorem TL (p:cX)(l:dB):(Aa p l).1.2.2.2.length<=p.2.2.2.length+l.length:=by unfold Aa;cases Ab p l with|false=>show p.2.2.2.length<=_;omega|true=>simp[gZ]
theorem Nn {s:ay Stream×bC×cX}(h:IE n s):IE (n+322) (vH l m d s):=by
 refine⟨?_,?_⟩;unfold vH;cases agH l m d (nn s.2.2 (ll l m d s.2.1.2.2.1).1.1) (ll l m d s.2.1.2.2.1).1.2.1 with|false=>exact h.st.mono|true=>exact Rp h.st
 have:=TL s.2.2 [(ll l m d s.2.1.2.2.1).1.1];have h2:=h.pl;show(Aa s.2.2 [(ll l m d s.2.1.2.2.1).1.1]).1.2.2.2.length<=_;simp only[bB]at this;omega
theorem Hy (K:ay Stream->Int->bC->cX->aC R)(l:ay aG)(m:cg)(d:Int)(N:Nat)(hN:N<=1000)(B1:cg)(B2:bC)(B3:cX)(hl:l.length<=10^9)(hm:m.length<=10^9):∀(k i:Nat)(s:ay Stream×bC×cX)(f:Nat),i+k=N->k<f->IE (500000000+322*i) s->
 bt (mE K l d (N:Int) B1 B2 B3 m) f (s.1,(i:Int),s.2.1,s.2.2)=K (iT l m d k s).2.1 ((i+(iT l m d k s).1:Nat):Int) (iT l m d k s).2.2.1 (iT l m d k s).2.2.2
 |k,i,s,0,_,hf,_=>by omega
 |0,i,s,f+1,hi,hf,z=>by rw[bt];simp only[mE];rw[du,af];rfl
 |k+1,i,s,f+1,hi,hf,z=>by have nt:eI 900000000 (.sl dK) s.1:=z.st.mono;have DE:s.2.2.2.2.2.length<=900000000:=bT z.pl (by omega);rw[bt];simp only[mE];rw[mh];simp only[ah,Ud l m d _ hl hm,ae,iT];cases hnx:(ll l m d s.2.1.2.2.1).2.2 with|false=>rfl|true=>have key:=Hy K l m d N hN B1 B2 B3 hl hm k (i+1) (vH l m d s) f (by omega) (by omega) ((Nn z).st.mono|>λa=>⟨a,bT (Nn z).pl (by omega)⟩);rw[show i+1+(iT l m d k (vH l m d s)).1=i+((iT l m d k (vH l m d s)).1+1) by omega]at key;simp only[ak,af];rw[<-key];unfold vH;generalize ll l m d s.2.1.2.2.1=c;have ha:=agw s.2.2 c.1.1;have hd:=L0 l m d (nn s.2.2 c.1.1) c.1.2.1;simp only[Hs _ _ (show s.2.2.2.2.2.length<=10^9 by omega),Bb l m d _ c.1.2.1 hl hm (show nn s.2.2 c.1.1<=9223372036854775807 by omega),ae,Fh _ (bT hd (by omega)),RS _ _ nt,MJ s.2.2 [c.1.1] (show s.2.2.2.2.2.length+1<=10^9 by omega)];rw[al (n:=(i:Int)+1),show((i+1:Nat):Int)=(i:Int)+1 by omega];unfold agH;cases (pq l m d (nn s.2.2 c.1.1) c.1.2.1).2<;>cases (jE (pq l m d (nn s.2.2 c.1.1) c.1.2.1).1).2==0<;>rfl
theorem Nl {l:ay aG}{m:cg}{d:Int}:∀(k:Nat){s:ay Stream×bC×cX}{n:Nat},IE n s->IE (n+322*k) (iT l m d k s).2
 |0,s,n,h=>h
 |k+1,s,n,h=>by rw[iT];cases (ll l m d s.2.1.2.2.1).2.2 with|false=>exact⟨h.st.mono,bT h.pl (by omega)⟩|true=>have:=Nl (l:=l) (m:=m) (d:=d) k (Nn (l:=l) (m:=m) (d:=d) h);exact⟨this.st.mono,bT this.pl (by omega)⟩
def gJ (l:ay aG)(m:cg)(d:Int)(rx:bC)(pl:cX)(st:ay Stream)(n:Int):cg×bC×cX×ay Stream×Int:=
 bif !BP rx||(!dz pl|| !dF n 0 1000) then(m,rx,pl,st,0) else
 ((oH l m d (iT l m d n.toNat (st,rx,pl)).2.2.1.1 (iT l m d n.toNat (st,rx,pl)).2.2.2).1,
   ((oH l m d (iT l m d n.toNat (st,rx,pl)).2.2.1.1 (iT l m d n.toNat (st,rx,pl)).2.2.2).2.1,(iT l m d n.toNat (st,rx,pl)).2.2.1.2),
   (oH l m d (iT l m d n.toNat (st,rx,pl)).2.2.1.1 (iT l m d n.toNat (st,rx,pl)).2.2.2).2.2.1,(iT l m d n.toNat (st,rx,pl)).2.1,((iT l m d n.toNat (st,rx,pl)).1:Int))
theorem aeD (l:ay aG)(m:cg)(d:Int)(rx:bC)(pl:cX)(st:ay Stream)(n:Int)(hl:l.length<=10^9)(hm:m.length<=10^9)(hp:pl.2.2.2.length<=500000000)(hs:eI 500000000 (.sl dK) st):vi l m d rx pl st n=some (gJ l m d rx pl st n):=by
 have B9:=eS;have ZB:st.length<=500000000:=hs.1;unfold vi gJ;simp only[gK m (show m.length<=1073741824 by omega),uo pl (show pl.2.2.2.length<=10^9 by omega),yk st,MM,xK pl (show pl.2.2.2.length<=10^9 by omega),dw,ae];cases BP rx;rfl;cases dz pl;rfl;cases hn:dF n 0 1000;rfl;have h:=aX.1 hn;obtain⟨n,rfl⟩:=az h.1;simp only[ak,af,ae,bG,aA];have z:IE (500000000+322*0) (st,rx,pl):=⟨hs,hp⟩
 have hz:=Nl (l:=l) (m:=m) (d:=d) n z;refine(Hy _ l m d n (by omega) _ _ _ hl hm n 0 (st,rx,pl) fuel (by omega) (by omega) z).trans ?_;rw[cK];simp only[aew l m d _ _ hl hm (show(iT l m d n (st,rx,pl)).2.2.2.2.2.2.length<=10^9 from bT hz.pl (by omega)),ae]
def lF (i:Nat):Int:=1280+(i:Int)*1792
theorem ags (h:i<=8):au (1280+au ((i:Int)*1792))=lF i:=by rw[al (n:=(i:Int)*1792),al];rfl
theorem CY (a b n:Int)(h:n<=1000:=by omega):(kM a b n).1.2.2.2.length<=1000:=by unfold kM;cases dz (a,b,n,[])with|false=>simp|true=>simp[upto];omega
def N1:eM:=((0,16,0,0),(kM 256 128 8).1,([]:ay oJ),0)
theorem acE:xG=some N1:=by rw[xG,Ks];rfl
def qB (l:ay aG)(m:cg)(i:Nat):cg×mR×cX×Int:=
 oH l (gT l m 0 (lF i) (wD 128) false).1 0 (lF i,4,0,0) (kM (lF i+128) 384 4).1
def Kh (h:Host)(i:Nat):Host:=
 ((qB h.2.1 h.1 i).1,h.2.1,h.2.2.1,h.2.2.2.1.set i ((qB h.2.1 h.1 i).2.1,(lF i+64,4,0),(lF i+64,4,0),((0,0,0,0,0,0,0,0,0,0,0,0,0,0,0,([]:Bytes)),0,0),false,(match h.2.2.2.1[i]? with|some x=>x.2.2.2.2.2|none=>0)),h.2.2.2.2.1.set i (qB h.2.1 h.1 i).2.2.1,h.2.2.2.2.2)
theorem afF (h:Host)(i:Nat)(hi:i<=8)(h1:i<h.2.2.2.1.length)(h2:i<h.2.2.2.2.1.length)(hl:h.2.1.length<=10^9)(hm:h.1.length<=10^9):wb h (i:Int)=some ((),Kh h i):=by have hb:lF i=1280+(i:Int)*1792:=rfl;have hz:ju 128 0=some (wD 128):=NH 128;have hf:=afC h.2.1 (gT h.2.1 h.1 0 (lF i) (wD 128) false).1 0 (lF i,4,0,0) (kM (lF i+128) 384 4).1 hl (by rw[lR];exact hm) (bT (CY (lF i+128) 384 4) (by omega));unfold wb;simp only[ags hi];rw[al (n:=lF i+128),al (n:=lF i+64),Ks,hz];simp only[bS h1,bS h2,ae,OS h.2.1 h.1 0 (lF i) (wD 128) hl hm (by omega),hf,aA,Kh,qB,aw h1]
def ake (h:Host)(i:Nat)(n:Int):Int×Host:=
 match h.2.2.2.1[i]?,h.2.2.2.2.1[i]? with
 |some rx,some pl=>
  ((gJ h.2.1 h.1 0 rx pl h.2.2.2.2.2.2.2.2.2.1 n).2.2.2.2,(gJ h.2.1 h.1 0 rx pl h.2.2.2.2.2.2.2.2.2.1 n).1,h.2.1,h.2.2.1,h.2.2.2.1.set i (gJ h.2.1 h.1 0 rx pl h.2.2.2.2.2.2.2.2.2.1 n).2.1,h.2.2.2.2.1.set i (gJ h.2.1 h.1 0 rx pl h.2.2.2.2.2.2.2.2.2.1 n).2.2.1,h.2.2.2.2.2.1,h.2.2.2.2.2.2.1,h.2.2.2.2.2.2.2.1,h.2.2.2.2.2.2.2.2.1,(gJ h.2.1 h.1 0 rx pl h.2.2.2.2.2.2.2.2.2.1 n).2.2.2.1,h.2.2.2.2.2.2.2.2.2.2)
 |_,_=>(0,h)
theorem Ch {t:CT}{l:ay t.D}{x:t.D}(z:eI n (.sl t) l)(hx:eI n t x):eI n (.sl t) (l.set i x):=by refine⟨?_,λy hy=>?_⟩;show(l.set i x).length<=n;rw[aK];exact z.1;rcases List.mem_or_eq_of_mem_set hy with h|h;exact z.2 y h;rw[h];exact hx
theorem Qe (hn:128<=n)(h:CZ m):eI n (.sl .str) m:=⟨bT h.2 (by omega),λx hx=>bT (Nat.le_of_eq (h.1 x hx)) hn⟩
theorem VS (hn:128<=n)(z:eI n (.sl .str) m)(a:Int)(s:Bytes):eI n (.sl .str) (mQ m a s).1:=by unfold mQ;cases hw:iz m a (s.length:Int);exact z;simp only[iz,ab,aE]at hw;exact Qe hn (zE s.length (od.1 hw.1) (by omega)).1
theorem U7 (hn:128<=n):∀(q:ay (Int×Int)){m:cg}(s:Bytes),eI n (.sl .str) m->eI n (.sl .str) (FF q m s)
 |[],m,s,z=>z
 |p::q,m,s,z=>U7 hn q _ (VS hn z _ _)
theorem H4 (hn:128<=n)(z:eI n (.sl .str) m)(l:ay aG)(d a:Int)(s:Bytes)(w:Bool):eI n (.sl .str) (gT l m d a s w).1:=by unfold gT;cases (kO l m d a (s.length:Int) w).2 with|false=>exact z|true=>exact U7 hn _ _ z
theorem H5 (hn:128<=n)(z:eI n (.sl .str) m)(l:ay aG)(d:Int)(r:mR)(s:Bytes):eI n (.sl .str) (cR l m d r s).1:=by
 unfold cR;cases (mx r==0)||((s.length:Int) !=16);case true=>exact z
 cases (gT l m d (lp r r.2.2.2) s true).2 with|false=>exact z|true=>exact H4 hn z ..
theorem Po (hn:128<=n)(l:ay aG)(d:Int)(p:cX):∀(q:dB){m:cg}(r:mR),eI n (.sl .str) m->eI n (.sl .str) (kb l d p q m r).2.1
 |[],m,r,z=>z
 |b::q,m,r,z=>by rw[kb];cases (cR l m d r (fu p b)).2.2 with|false=>exact z|true=>exact Po hn l d p q _ (H5 hn z ..)
theorem aaC (hn:128<=n)(z:eI n (.sl .str) m)(l:ay aG)(d:Int)(r:mR)(p:cX):eI n (.sl .str) (oH l m d r p).1:=by unfold oH;cases !dx r|| !dz p with|true=>exact z|false=>exact Po hn _ _ _ _ _ z
theorem Zp (l:ay aG)(m:cg)(d:Int)(r:mR)(p:cX):(oH l m d r p).1.length=m.length:=by unfold oH;cases !dx r|| !dz p with|true=>rfl|false=>exact(IQ ..).1
theorem Ma (l:ay aG)(m:cg)(d:Int)(r:mR)(p:cX):(oH l m d r p).2.2.1.2.2.2.length<=p.2.2.2.length:=by unfold oH;cases !dx r|| !dz p with|true=>exact aV _|false=>show(p.2.2.2.drop _).length<=_;rw[aP];omega
theorem U0 (l:ay aG)(m:cg)(d:Int):∀(k:Nat)(s:ay Stream×bC×cX),(iT l m d k s).2.2.1.2.2.2=s.2.1.2.2.2/\(iT l m d k s).1<=k
 |0,s=>⟨rfl,aV _⟩
 |k+1,s=>by rw[iT];cases (ll l m d s.2.1.2.2.1).2.2 with|false=>exact⟨rfl,cq _⟩|true=>have:=U0 l m d k (vH l m d s);simp only[ak,af];exact⟨this.1,by omega⟩
theorem ab6 (hn:128<=n){rx:bC}{pl:cX}{st:ay Stream}(c:Int)(zm:eI n (.sl .str) m)(zr:eI n dZ rx)(zp:eI n jM pl)(zs:eI n (.sl dK) st): eI n (.sl .str) (gJ l m d rx pl st c).1/\eI n dZ (gJ l m d rx pl st c).2.1/\eI (n+322000) jM (gJ l m d rx pl st c).2.2.1/\eI (n+322000) (.sl dK) (gJ l m d rx pl st c).2.2.2.1/\0<=(gJ l m d rx pl st c).2.2.2.2/\(gJ l m d rx pl st c).2.2.2.2<=1000:=by
 unfold gJ;cases hc: !BP rx||(!dz pl|| !dF c 0 1000)with
 |true=>exact⟨zm,zr,zp.mono,zs.mono,eT _,by show(0:Int)<=1000;omega⟩
 |false=>
  have hi:dF c 0 1000=true:=by cases h:dF c 0 1000 with|true=>rfl|false=>rw[h]at hc;simp at hc
  have h:=aX.1 hi;have z:=Nl (l:=l) (m:=m) (d:=d) c.toNat (s:=(st,rx,pl)) (n:=n) ⟨zs,zp.2.2.2.1⟩;have hx:=U0 l m d c.toNat (st,rx,pl);refine⟨aaC hn zm ..,⟨?_,?_,?_,?_⟩,⟨dq,dq,dq,?_,λ_ _=>trivial⟩,z.st.mono,by show(0:Int)<=((iT l m d c.toNat (st,rx,pl)).1:Int);omega,by show((iT l m d c.toNat (st,rx,pl)).1:Int)<=1000;omega⟩;exact⟨dq,dq,dq,dq⟩;exact⟨dq,dq,dq⟩;exact⟨dq,dq,dq⟩;have e:=congrArg (λq=>eI n dZ (rx.1,rx.2.1,rx.2.2.1,q)) hx.1;exact(e.mpr zr).2.2.2;have:=Ma l m d (iT l m d c.toNat (st,rx,pl)).2.2.1.1 (iT l m d c.toNat (st,rx,pl)).2.2.2;have h2:=z.pl;show(oH l m d (iT l m d c.toNat (st,rx,pl)).2.2.1.1 (iT l m d c.toNat (st,rx,pl)).2.2.2).2.2.1.2.2.2.length<=_;omega
theorem map_take {β:Type}(f:α->β)(l:ay α)(i:Nat)(hi:i<l.length):(l.take i).map f++[f l[i]]=(l.take (i+1)).map f:=by rw[bV hi,cp];rfl
def KY (n:Nat):cg:=List.replicate n (wD 128)
theorem abB (n:Nat):KY (n+1)=KY n++[wD 128]:=List.replicate_succ'
theorem Yu (n:Nat)(h:n<=64):rk (n:Int)=some (KY n):=by have hz:ju 128 0=some (wD 128):=NH 128;unfold rk;refine fW (λi=>((i:Int),KY i)) n (by omega) (λi nx hi=>?_) (λnx=>?_);simp only[qE];rw[aq (show(i:Int)<n by omega),ah,mh,ae,ah,hz,ae,bg (by simp[KY];omega),al,abB];rfl;simp only[qE];rw[ar (show¬(n:Int)<n by omega),af,ae,af]
def vE (a b:Int):Vector×Bool:=bif dU (a,b,0,0,false,false) then((a,b,0,0,false,false),true) else((0,0,0,0,false,false),false)
theorem NI (a b:Int):rl a b=some (vE a b):=by unfold rl vE;rw[GF,ae];cases dU (a,b,0,0,false,false)<;>rfl
def bJ (i:Nat):ay aG:=(List.range i).map λ(p:Nat)=>(0,(p:Int),37-(p:Int), !dF (p:Int) 2 9)
theorem XV (i:Nat):bJ (i+1)=bJ i++[(0,(i:Int),37-(i:Int), !dF (i:Int) 2 9)]:=by simp[bJ,List.range_succ]
theorem Jd (i:Nat):(bJ i).length=i:=by simp[bJ]
def T1 (f:Filter)(s:cV)(c:Bool)(i:Nat):Host:=(KY 38,bJ i,N1,([]:ay bC),([]:ay cX),([]:ay Vector),([]:ay Bool),f,s,([]:ay Stream),c,([]:cg),([]:dB),([]:dB),0,0,0,0,0)
def mB (m:cg)(i:Nat):UInt8:=(m.getD (37-i/128) []).getD (i%128) 0
theorem ahh:gq (bJ 38)=true:=by decide+kernel
structure fE (m:List Bytes):Prop where
 pg:∀x∈m,x.length=128
 ln:m.length=38
theorem fE.ok (h:fE m):df m=true:=od.2 ⟨h.pg,by have:=h.ln;omega⟩
theorem fE.of (h:df m=true)(hl:m.length=38):fE m:=⟨(od.1 h).1,hl⟩
theorem ab1:∀p:Fin 38,∀w:Bool,re (bJ 38) 0 ((p.val:Nat):Int) w=if w=true/\2<=p.val/\p.val<=9 then-1 else 37-(p.val:Int):=by decide+kernel
theorem aho {p:Nat}(hp:p<38){w:Bool}(hw:w=true->p<2\/9<p):re (bJ 38) 0 (p:Int) w=((37-p:Nat):Int):=by have:=ab1 ⟨p,hp⟩ w;simp only at this;rw[this,aH (by rintro⟨h1,h2,h3⟩;have:=hw h1;omega)];omega
def ti (m:cg)(a n:Nat):Bytes:=(List.range n).map λj=>mB m (a+j)
theorem H7 (m:cg)(a n:Nat):(ti m a n).length=n:=by simp[ti]
theorem afq (m:cg)(a n j:Nat)(h:j<n):(ti m a n).getD j 0=mB m (a+j):=by rw[de (by rw[H7];exact h)];simp[ti]
theorem afp (m:cg)(a c r:Nat):ti m a (c+r)=ti m a c++ti m (a+c) r:=by unfold ti;rw[List.range_add,cp,List.map_map];congr 1;refine List.map_congr_left λj _=>?_;show mB m (a+(c+j))=mB m (a+c+j);rw[fV]
theorem Yc (hm:fE m){c:Nat}(h1:a+c<=4864)(h2:a%128+c<=128)(h0:0<c):oe m (((37-a/128:Nat):Int)*128+((a%128:Nat):Int),(c:Int))=ti m a c:=by
 have hl:=hm.ln;have hp:37-a/128<m.length:=by omega
 unfold oe;rw[Dj hm.ok (by omega) h0,mh,ah];show Bl m ((((37-a/128:Nat):Int)*128+((a%128:Nat):Int)).toNat) ((c:Int)).toNat=_;rw[aA,<-Ns hm.ok hp h2 (by omega)];have hx:=hm.pg _ (bE hp);refine List.ext_getElem (by rw[H7,aY,aP];omega) λj g1 g2=>?_;rw[H7]at g2;simp only[List.getElem_take,List.getElem_drop,ti,List.getElem_map,List.getElem_range,mB];have e1:(a+j)/128=a/128:=by omega
 have e2:(a+j)%128=a%128+j:=by omega
 rw[e1,e2,de hp,de (by omega)]
theorem ae6 {t:Bytes}{o:Nat}(h:o+t.length<=x.length)(j:Nat):(yE x o t).getD j 0=if o<=j/\j<o+t.length then t.getD (j-o) 0 else x.getD j 0:=by
 unfold yE;rw[bc,bc,bc];have hl:(x.take o).length=o:=by rw[aY];omega
 rcases bW j o with g|g;rw[bp (by omega),dE g,kl];rw[bz (by omega),hl];rcases bW (j-o) t.length with g2|g2;rw[bp g2,zip];rw[bz g2,bK,kl];congr 2;omega
theorem UY (hm:fE m){t:Bytes}(h1:a+t.length<=4864)(h2:a%128+t.length<=128)(h0:0<t.length):fE (mQ m (((37-a/128:Nat):Int)*128+((a%128:Nat):Int)) t).1/\∀i,i<4864->mB (mQ m (((37-a/128:Nat):Int)*128+((a%128:Nat):Int)) t).1 i=if a<=i/\i<a+t.length then t.getD (i-a) 0 else mB m i:=by
 have hl:=hm.ln;have hp:37-a/128<m.length:=by omega
 have hx:=hm.pg _ (bE hp);have e:(mQ m (((37-a/128:Nat):Int)*128+((a%128:Nat):Int)) t).1=m.set (37-a/128) (yE m[37-a/128] (a%128) t):=by
  unfold mQ;rw[Dj hm.ok (by omega) h0,mh,ah];have e1:(((37-a/128:Nat):Int)*128+((a%128:Nat):Int)).toNat=(37-a/128)*128+a%128:=by omega
  show wj t.length m (((37-a/128:Nat):Int)*128+((a%128:Nat):Int)).toNat t=_;rw[e1];obtain⟨n,hn⟩:∃n,t.length=n+1:=⟨t.length-1,by omega⟩
  rw[hn,wj,kl];have e2:((37-a/128)*128+a%128)/128=37-a/128:=by omega
  have e3:((37-a/128)*128+a%128)%128=a%128:=by omega
  rw[e2,e3,de hp,bU (by omega),cB (by omega)];cases n with|zero=>rfl|succ n=>rw[wj];rfl
 rw[e];have hov:(yE m[37-a/128] (a%128) t).length=128:=by rw[Qc (by omega),hx]
 refine⟨⟨λx AG=>?_,by rw[aK];exact hl⟩,λi hi=>?_⟩;rcases List.mem_or_eq_of_mem_set AG with g|g;exact hm.pg x g;rw[g];exact hov;unfold mB;by_cases hq:i/128=a/128;have e5:(m.set (37-a/128) (yE m[37-a/128] (a%128) t)).getD (37-a/128) []=yE m[37-a/128] (a%128) t:=by rw[bc,bD hp];rfl
 rw[hq,e5,ae6 (by omega)];have hg:m.getD (37-a/128) []=m[37-a/128]:=de hp _;rw[hg];by_cases hc:a<=i/\i<a+t.length;rw[aF hc,zip];congr 1;omega;rw[aH hc,kl];rw[kl];congr 1;rw[bc,bc,aJ (by omega)]
theorem Nh (hl:m.length=38){w:Bool}:∀(n a r:Nat),r<=n->a+r<=4864->(w=true->a+r<=256\/1280<=a)->∃q,kX (bJ 38) m 0 w n a r=some q/\
 (∀m',fE m'->q.flatMap (oe m')=ti m' a r)/\
 ∀m' s,fE m'->s.length=r->fE (FF q m' s)/\∀i,i<4864->mB (FF q m' s) i=if a<=i/\i<a+r then s.getD (i-a) 0 else mB m' i
 |0,a,r,hr,_,_=>by
  have:r=0:=by omega
  subst this;exact⟨[],rfl,λm' _=>rfl,λm' s hm _=>⟨hm,λi _=>by rw[kl];rfl⟩⟩
 |n+1,a,r,hr,ha,hw=>by
  rw[kX];by_cases h0:r=0;rw[aF h0];subst h0;exact⟨[],rfl,λm' _=>rfl,λm' s hm _=>⟨hm,λi _=>by rw[kl];rfl⟩⟩;rw[aH h0];have hp:a/128<38:=by omega
  rw[aho hp (λe=>by have:=hw e;omega),zip];generalize hc:min (128-a%128) r=c;have SO:0<c:=by omega
  have hc1:a%128+c<=128:=by omega
  have VW:c<=r:=by omega
  obtain⟨q,e,rd,wr⟩:=Nh (w:=w) hl n (a+c) (r-c) (by omega) (by omega) (λe=>by have:=hw e;omega);refine⟨_,by rw[e];rfl,λm' hm=>?_,λm' s hm hs=>?_⟩;rw[List.flatMap_cons,rd m' hm,Yc hm (by omega) hc1 SO,<-afp,show c+(r-c)=r by omega];have ht:(s.take c).length=c:=by rw[aY];omega
  have p1:=UY hm (a:=a) (t:=s.take c) (by omega) (by omega) (by omega);rw[FF];simp only[aA];have p2:=wr _ (s.drop c) p1.1 (by rw[aP];omega);refine⟨p2.1,λi hi=>?_⟩;rw[p2.2 i hi];by_cases g1:a+c<=i/\i<a+c+(r-c)
  rw[aF g1,zip,bc,bc,bK];congr 2;omega;rw[aH g1,p1.2 i hi,ht];by_cases g2:a<=i/\i<a+c;rw[aF g2,zip,bc,bc,dE (by omega)];rw[aH g2,kl]
theorem Qs (hm:fE m){w:Bool}{r:Nat}(hr:r<=4096)(ha:a+r<=4864)(hw:w=true->a+r<=256\/1280<=a):∃q,kO (bJ 38) m 0 (a:Int) (r:Int) w=(q,true)/\ (∀m',fE m'->q.flatMap (oe m')=ti m' a r)/\ ∀m' s,fE m'->s.length=r->fE (FF q m' s)/\∀i,i<4864->mB (FF q m' s) i=if a<=i/\i<a+r then s.getD (i-a) 0 else mB m' i:=by unfold kO;rw[ahh,hm.ok,aX.2 ⟨by omega,by omega⟩];simp only[cY,ah];by_cases h0:r=0;subst h0;exact⟨[],rfl,λm' _=>rfl,λm' s hm _=>⟨hm,λi _=>by rw[kl];rfl⟩⟩;rw[show((r:Int)==0)=false from by rw[cu];omega,af,du,af,aA,aA];obtain⟨q,e,rd,wr⟩:=Nh (w:=w) hm.ln r a r (aV r) ha hw;rw[e];exact⟨q,rfl,rd,wr⟩
theorem G9 (hm:fE m){r:Nat}(hr:r<=4096:=by omega)(ha:a+r<=4864:=by omega):pq (bJ 38) m 0 (a:Int) (r:Int)=(ti m a r,true):=by obtain⟨q,e,rd,_⟩:=Qs (w:=false) hm hr ha (by simp);unfold pq;rw[e,ah,rd m hm]
theorem Co (hm:fE m){w:Bool}(hr:s.length<=4096)(ha:a+s.length<=4864)(hw:w=true->a+s.length<=256\/1280<=a):(gT (bJ 38) m 0 (a:Int) s w).2=true/\fE (gT (bJ 38) m 0 (a:Int) s w).1/\∀i,i<4864->mB (gT (bJ 38) m 0 (a:Int) s w).1 i=if a<=i/\i<a+s.length then s.getD (i-a) 0 else mB m i:=by obtain⟨q,e,_,wr⟩:=Qs (w:=w) hm hr ha hw;unfold gT;rw[e,ah];have h:=wr m s hm rfl;exact⟨rfl,h.1,h.2⟩
def bq (l:ay aG)(m:cg)(d:Int)(r:mR):Bytes×mR×Bool:=
 bif !dx r||(bL r==0) then([],r,false) else
 bif !(pq l m d (lp r r.2.2.1) 16).2 then([],r,false) else
 ((pq l m d (lp r r.2.2.1) 16).1,(r.1,r.2.1,tmod (r.2.2.1+1) (2*r.2.1),r.2.2.2),true)
theorem HD (l:ay aG)(m:cg)(d:Int)(r:mR)(hl:l.length<=10^9)(hm:m.length<=10^9):sX l m d r=some (bq l m d r):=by
 have hA:=EE r r.2.2.1;unfold sX bq;simp only[xL,Af,ae,PN,Bb l m d _ 16 hl hm (show lp r r.2.2.1<=9223372036854775807 by omega)];cases hb:dx r;rfl;have h:=ma hb;cases bL r==0;case true=>rfl
 simp only[ak,af,ae,bG];cases (pq l m d (lp r r.2.2.1) 16).2;rfl;simp only[ak,af];rw[al (n:=2*r.2.1),kl,al (n:=r.2.2.1+1)]
theorem F4 (l:ay aG)(m:cg)(d:Int)(r:mR):(bq l m d r).1.length<=100000000:=by
 unfold bq;cases !dx r||(bL r==0);case true=>exact cq _
 cases (pq l m d (lp r r.2.2.1) 16).2 with|false=>exact cq _|true=>exact L0 ..
theorem EL (h:(bq l m d r).2.2=true): dx (bq l m d r).2.1=true/\bL (bq l m d r).2.1=bL r-1/\(bq l m d r).2.1.1=r.1/\(bq l m d r).2.1.2.1=r.2.1/\(bq l m d r).2.1.2.2.2=r.2.2.2:=by
 unfold bq at h⊢;cases hb:dx r with|false=>rw[hb]at h;cases h|true=>?_
 cases hu:bL r==0 with|true=>rw[hb,hu]at h;cases h|false=>?_
 cases hd:(pq l m d (lp r r.2.2.1) 16).2 with|false=>rw[hb,hu,hd]at h;cases h|true=>?_
 simp only[ak,bG,af];have hr:=ma hb;have hq:=hb;simp only[dx,ab,aE]at hq;have h1:=hq.2.2.2.2;have hs:=hq.2.1;have RP:bL r≠0:=by simpa using hu
 have e:tmod (r.2.2.1+1) (2*r.2.1)=(r.2.2.1+1)%(2*r.2.1):=dr (by omega);rw[e];unfold bL at h1 RP⊢;simp only[hs,cc]at h1 RP⊢;have key:(r.2.2.2-(r.2.2.1+1)%(2*r.2.1))%(2*r.2.1)=(r.2.2.2-r.2.2.1)%(2*r.2.1)-1/\0<=(r.2.2.1+1)%(2*r.2.1)/\(r.2.2.1+1)%(2*r.2.1)<=2*r.2.1-1:=by rcases hr.2.2.1 with hn|hn|hn|hn<;>rw[hn]at h1 RP hr⊢<;>omega
 refine⟨?_,key.1,dq,dq,dq⟩;simp only[dx,bL,hs,cc,ab,aE,aX];refine⟨by omega,dq,by omega,by omega,?_⟩;rw[key.1];omega
theorem xY (h:dx r=true):0<=bL r/\bL r<=16:=by have hr:=ma h;have hq:=h;simp only[dx,ab,aE]at hq;refine⟨?_,by have:=hq.2.2.2.2;omega⟩;unfold bL;rw[hq.2.1,aF rfl];exact fF _ (by omega)
def JW:Dm:=(0,0,0,0,0,0)
def CB (s:Bytes):Dm:=((bO s 0:Int),(bO s 1:Int),cl s 2,fP s 4,cl s 8,cl s 10)
def cJ (s:Bytes):Dm×Bool:=
 bif ((s.length:Int) !=16) then(JW,false) else bif !(jc (CB s)==s) then(JW,false) else(CB s,true)
theorem Ua (s:Bytes)(h:s.length<=10^9):px s=some (cJ s):=by
 unfold px cJ;cases hn:(s.length:Int) !=16;case true=>rfl
 have hl:s.length=16:=by
  have:((s.length:Int)==16)=true:=by simpa using hn
  have:=bw this;omega
 have b0:=ns (s[0]'(by omega));have b1:=ns (s[1]'(by omega));have i0:idx s 0=some (s[0]'(by omega)):=bS (i:=0) (by omega);have i1:idx s 1=some (s[1]'(by omega)):=bS (i:=1) (by omega);have e:(((s[0]'(by omega)).toNat:Int),((s[1]'(by omega)).toNat:Int),cl s 2,fP s 4,cl s 8,cl s 10)=CB s:=by simp only[CB,bO,de (show 0<s.length by omega),de (show 1<s.length by omega)]
 simp only[af,i0,i1,ae,wH s _ h,zJ s _ h];rw[iU (n:=(s[0]'(by omega)).toNat),iU (n:=(s[1]'(by omega)).toNat),e,RT,ae];cases jc (CB s)==s<;>rfl
theorem WU (h:(cJ s).2=true):oG (cJ s).1=true:=by
 unfold cJ at h⊢;cases hn:(s.length:Int) !=16 with|true=>rw[hn]at h;cases h|false=>?_
 cases he:jc (CB s)==s with|false=>rw[hn,he]at h;cases h|true=>?_
 simp only[af,ak];cases hd:oG (CB s)with
 |true=>rfl
 |false=>
  have:jc (CB s)=[]:=by unfold jc;rw[hd];rfl
  rw[this]at he;cases s with|nil=>simp at hn|cons x y=>cases he
def FB (x:Dm):Bool:=bif x.1==1 then(au (toNat (ia x.2.1&&&ia 1))) !=0 else false
def qN (l:ay aG)(m:cg)(d:Int):Nat->ay Dm->mR->ay Dm×mR×Bool
 |0,acc,r=>(acc,r,true)
 |n+1,acc,r=>
  bif !(bq l m d r).2.2|| !(cJ (bq l m d r).1).2 then([],(r.1,r.2.1,r.2.2.2,r.2.2.2),false) else
  bif FB (cJ (bq l m d r).1).1 then(acc++[(cJ (bq l m d r).1).1],(bq l m d r).2.1,true) else
  qN l m d n (acc++[(cJ (bq l m d r).1).1]) (bq l m d r).2.1
def dg (l:ay aG)(m:cg)(d:Int)(r:mR):ay Dm×mR×Bool:=
 bif !dx r||(bL r==0) then([],r,false) else qN l m d (bL r).toNat [] r
theorem FP (k0:ay Dm->mR->aC R)(k1:ay Dm->Bool->ay Dm->mR->mR->aC R)(K:ay Dm×mR×Bool->aC R)
 (h0:∀a r,k0 a r=K (a,r,true)) (l:ay aG) (m:cg) (d:Int) (B E:mR) (h1:∀a r,k1 [] false a r E=K ([],E,false)) (hl:l.length<=10^9) (hm:m.length<=10^9):∀(n:Nat)(acc:ay Dm)(r:mR)(f:Nat),
 n<f->dx r=true->(bL r).toNat=n->acc.length+n<=1000->E=(r.1,r.2.1,r.2.2.2,r.2.2.2)->bt (mF k0 k1 l d ([]:ay Dm) false m B E) f (acc,r)=K (qN l m d n acc r)
 |n,acc,r,0,hf,_,_,_,_=>by omega
 |0,acc,r,f+1,hf,hb,hu,ha,hE=>by rw[bt];simp only[mF,Af,ae];rw[du,af,h0];rfl
 |n+1,acc,r,f+1,hf,hb,hu,ha,hE=>by
  have hlen:=F4 l m d r;have hk:=EL (l:=l) (m:=m) (d:=d) (r:=r);rw[bt];simp only[mF,Af,ae];rw[mh,ah,HD l m d r hl hm,ae,qN];generalize bq l m d r=t at hlen hk⊢;cases ht:t.2.2 with
  |false=>simp only[bQ,ah,iM,<-hE,h1]
  |true=>
   have hk:=hk ht;simp only[ak,af,cd];rw[Ua _ (show t.1.length<=10^9 by omega),ae];generalize cJ t.1=x;cases x.2 with
   |false=>simp only[bQ,ah,<-hE,h1]
   |true=>
    simp only[ak,af];rw[bg (by rw[bB];omega)];have e:(aa (cond (x.1.1==1) (some ((au (toNat (ia x.1.2.1&&&ia 1))) !=0)) (some false)):(Bool->aC R)->aC R)=λK=>K (FB x.1):=by funext K;unfold FB;cases x.1.1==1<;>rfl
    rw[e];cases FB x.1 with|true=>simp only[ah,h0]|false=>simp only[af];exact FP k0 k1 K h0 l m d B E h1 hl hm n _ _ f (by omega) hk.1 (by omega) (by simp;omega) (by rw[hE,hk.2.2.1,hk.2.2.2.1,hk.2.2.2.2])
theorem OA (l:ay aG)(m:cg)(d:Int)(r:mR)(hl:l.length<=10^9)(hm:m.length<=10^9):vp l m d r=some (dg l m d r):=by
 have B9:=eS;unfold vp dg;simp only[xL,Af,ae];cases hb:dx r;rfl;cases bL r==0;case true=>rfl
 have hu:=xY hb;simp only[ak,af,ae,bG];exact FP _ _ (λx=>some x) (λ_ _=>rfl) l m d _ _ (λ_ _=>rfl) hl hm _ [] r fuel (by omega) hb rfl (by simp;omega) rfl
def CC (v:Vector):Bool:=bif decide (v.2.2.1>=1) then(bif decide (v.2.2.1>=v.1) then true else decide (v.2.2.2.1>=v.2.1)) else false
theorem agS (v:Vector):Cf v=some (CC v):=by unfold Cf CC;cases decide (v.2.2.1>=1);rfl;cases decide (v.2.2.1>=v.1)<;>rfl
theorem ahE (v:Vector):uF v=some (CC v):=by unfold uF CC;cases decide (v.2.2.1>=1);rfl;cases decide (v.2.2.1>=v.1)<;>rfl
def sC (v:Vector):Vector:=bif CC v&& !v.2.2.2.2.1 then(v.1,v.2.1,v.2.2.1,v.2.2.2.1,v.2.2.2.2.1,true) else v
theorem I0 (v:Vector):oV v=some (sC v):=by unfold oV sC;rw[agS,ae];cases CC v;rfl;cases v.2.2.2.2.1<;>rfl
def Lt (n:Int):Int:=if 1000000<au (n+1) then 1000000 else au (n+1)
def evV (v:Vector):Vector:=bif dU v then sC (v.1,v.2.1,Lt v.2.2.1,v.2.2.2) else v
theorem aaY (v:Vector):xb v=some (evV v):=by unfold xb evV;rw[Ag,ae,I0,ae];cases dU v<;>rfl
def yb (v:Vector):Vector:=bif dU v then(bif decide (v.2.2.1>0) then sC (v.1,v.2.1,v.2.2.1,Lt v.2.2.2.1,v.2.2.2.2) else sC v) else v
theorem abi (v:Vector):tI v=some (yb v):=by unfold tI yb;simp only[Ag,ae,I0];cases dU v;rfl;cases decide (v.2.2.1>0)<;>rfl
def qH (v:Vector):Vector×Bool:=bif dU v&&v.2.2.2.2.2 then((v.1,v.2.1,0,0,true,false),true) else(v,false)
theorem abh (v:Vector):oU v=some (qH v):=by unfold oU qH;rw[Ag,ae];cases dU v;rfl;cases v.2.2.2.2.2<;>rfl
def zB (v:Vector):Vector:=bif dU v then sC (v.1,v.2.1,v.2.2.1,v.2.2.2.1,false,v.2.2.2.2.2) else v
theorem MO (v:Vector):xN v=some (zB v):=by unfold xN zB;rw[Ag,ae,I0,ae];cases dU v<;>rfl
structure lE (k:Nat) (a b:Host):Prop where
 mem:b.1.length=a.1.length
 maps:b.2.1=a.2.1
 tx:b.2.2.1=a.2.2.1
 rx:b.2.2.2.1.length=a.2.2.2.1.length
 rxs:∀j,k<=j->b.2.2.2.1[j]?=a.2.2.2.1[j]?
 pl:b.2.2.2.2.1.length=a.2.2.2.2.1.length
 vec:b.2.2.2.2.2.1.length=a.2.2.2.2.2.1.length
 agc:∀j,k<=j->b.2.2.2.2.2.1[j]?=a.2.2.2.2.2.1[j]?
 pol:b.2.2.2.2.2.2.1.length=a.2.2.2.2.2.2.1.length
 GO:b.2.2.2.2.2.2.2.1=a.2.2.2.2.2.2.2.1
 JJ:b.2.2.2.2.2.2.2.2.1=a.2.2.2.2.2.2.2.2.1
theorem lE.refl (k:Nat)(a:Host):lE k a a:=⟨rfl,rfl,rfl,rfl,λ_ _=>rfl,rfl,rfl,λ_ _=>rfl,rfl,rfl,rfl⟩
theorem lE.trans {a b c:Host}(h:lE k a b)(g:lE k b c):lE k a c:=⟨g.mem.trans h.mem,g.maps.trans h.maps,g.tx.trans h.tx,g.rx.trans h.rx,λj hj=>(g.rxs j hj).trans (h.rxs j hj),g.pl.trans h.pl,g.vec.trans h.vec,λj hj=>(g.agc j hj).trans (h.agc j hj),g.pol.trans h.pol,g.GO.trans h.GO,g.JJ.trans h.JJ⟩
theorem lE.up {m:Nat}{a b:Host}(h:lE k a b)(hk:k<=m):lE m a b:=⟨h.mem,h.maps,h.tx,h.rx,λj hj=>h.rxs j (by omega),h.pl,h.vec,λj hj=>h.agc j (by omega),h.pol,h.GO,h.JJ⟩
def fT (g:Nat->Host->Host):Nat->Host->Host
 |0,h=>h
 |k+1,h=>g k (fT g k h)
theorem oz (hg:∀k h,lE (k+1) h (g k h))(h:Host):∀k,lE k h (fT g k h)
 |0=>lE.refl 0 h
 |k+1=>((oz hg h k).up (by omega)).trans (hg k _)
theorem Db {d:Nat}(hn:1000<=n)(hg:∀k h m,1000<=m->eI m gI h->eI (m+d) gI (g k h))(z:eI n gI h):∀k,eI (n+d*k) gI (fT g k h)
 |0=>z
 |k+1=>(hg k _ _ (by omega) (Db hn hg z k)).mono (by rw[Nat.mul_add];omega)
def jv (i:Nat)(h:Host):Host:=
 match h.2.2.2.2.2.1[i]? with
 |some v=>(h.1,h.2.1,h.2.2.1,h.2.2.2.1,h.2.2.2.2.1,h.2.2.2.2.2.1.set i (yb v),h.2.2.2.2.2.2)
 |none=>h
theorem wX (i:Nat)(h:Host):lE (i+1) h (jv i h):=by unfold jv;cases h.2.2.2.2.2.1[i]? with|none=>exact lE.refl _ _|some v=>exact⟨rfl,rfl,rfl,rfl,λ_ _=>rfl,rfl,aK ..,λj hj=>aJ (by omega),rfl,rfl,rfl⟩
theorem Lu {l:ay Vector}{v:Vector}(z:eI n (.sl gG) l):eI n (.sl gG) (l.set i v):=Ch z ⟨dq,dq,dq,dq,dq,dq⟩
theorem acQ (i:Nat)(h:Host)(n:Nat)(hn:1000<=n)(z:eI n gI h):eI (n+0) gI (jv i h):=by unfold jv;cases h.2.2.2.2.2.1[i]? with|none=>exact z|some v=>exact⟨z.1,z.2.1,z.2.2.1,z.2.2.2.1,z.2.2.2.2.1,Lu z.2.2.2.2.2.1,z.2.2.2.2.2.2⟩
def sA (h:Host):Host:=bif fU h then fT jv h.2.2.2.2.2.1.length h else h
theorem af6 (hn:1000<=n)(z:eI n gI h):eI n gI (sA h)/\(sA h).2.2.1=h.2.2.1:=by unfold sA;cases fU h with|false=>exact⟨z,rfl⟩|true=>exact⟨(Db hn acQ z _).mono,(oz wX h _).tx⟩
theorem Ul (h:Host)(k:QP h)(z:eI 1000000000 gI h):sS h=some (sA h):=by
 have B9:=eS;unfold sS sA;rw[jR h z,ae,sO h k,ae];cases hb:fU h;rfl;have hv:h.2.2.2.2.2.1.length<=10^9:=z.2.2.2.2.2.1.1;simp only[ak,af,ah];refine fW (λi=>((i:Int),fT jv i h)) h.2.2.2.2.2.1.length (by omega) (λi nx hi=>?_) (λnx=>?_);have kk:=oz wX h i;have i1:i<(fT jv i h).2.2.2.2.2.1.length:=by rw[kk.vec];exact hi
 rw[show fT jv (i+1) h=jv i (fT jv i h) from rfl];generalize fT jv i h=s at i1⊢;simp only[rF,jv];rw[mh,ah,aw i1];simp only[bS i1,ae,abi,aA];rw[al];rfl;simp only[rF];rw[du,af]
def qb (x:AB):Bool:=dF x.1 0 65535&&(dF x.2.1 0 65535&&(dF x.2.2.1 0 65535&&(dF x.2.2.2.1 0 65535&&dF x.2.2.2.2 0 4294967295)))
theorem PH (x:AB):mA x=some (qb x):=by simp only[mA,dw,ae,cA,cF,qb]
def Ha (x:AB)(p:Int):Bytes:=bif qb x&&dF p 0 1 then((((aU x.1++aU x.2.1)++aU x.2.2.1)++aU x.2.2.2.1)++dT x.2.2.2.2)++dT p else []
theorem aev (x:AB)(p:Int):lX x p=some (Ha x p):=by have h1:=bN x.1;have h2:=bN x.2.1;have h3:=bN x.2.2.1;have h4:=bN x.2.2.2.1;have h5:=eQ x.2.2.2.2;have h6:=eQ p;unfold lX Ha;simp only[PH,dw,ae,lK,Ah];cases qb x;rfl;cases dF p 0 1;rfl;simp only[ak,af,ae,cY,ah];rw[bg,bg (by simp only[aj];omega),bg (by simp only[aj];omega),bg (by simp only[aj];omega),bg (by simp only[aj];omega)]
def rf (l:ay aG)(m:cg)(d:Int)(q:K7)(x:AB):cg×K7×Bool:=
 bif !gw q|| !qb x then(m,q,false) else
 bif !(gT l m d (rj q) (Ha x (ym q)) true).2 then(m,q,false) else
 ((gT l m d (rj q) (Ha x (ym q)) true).1,(q.1,q.2.1,tmod (q.2.2+1) (2*q.2.1)),true)
theorem aeE (l:ay aG)(m:cg)(d:Int)(q:K7)(x:AB)(hl:l.length<=10^9)(hm:m.length<=10^9):oP l m d q x=some (rf l m d q x):=by unfold oP rf;simp only[I3,PH,ae,gK m (show m.length<=1073741824 by omega),PK,aev];cases hq:gw q;rfl;have h:=vK hq;have hs:=Sp hq;cases qb x;rfl;simp only[ak,af,ae,bG,PO q hq,CJ l m d _ _ hl hm (show rj q<=9223372036854775807 by unfold rj;omega)];cases hp:(gT l m d (rj q) (Ha x (ym q)) true).2 with|false=>simp only[bQ,ah,Jt hp]|true=>simp only[ak,af];rw[al (n:=2*q.2.1),kl,al (n:=q.2.2+1)]
theorem acd (hn:128<=n)(z:eI n (.sl .str) m)(l:ay aG)(d:Int)(q:K7)(x:AB):eI n (.sl .str) (rf l m d q x).1/\(rf l m d q x).1.length=m.length:=by
 unfold rf;cases !gw q|| !qb x;case true=>exact⟨z,rfl⟩
 cases (gT l m d (rj q) (Ha x (ym q)) true).2 with|false=>exact⟨z,rfl⟩|true=>exact⟨H4 hn z ..,lR ..⟩
theorem ZU {q:K7}{x:AB}(h:gw q=true):gw (rf l m d q x).2.1=true/\(rf l m d q x).2.1.1=q.1/\(rf l m d q x).2.1.2.1=q.2.1:=by
 have hq:=vK h;unfold rf;cases !gw q|| !qb x;case true=>exact⟨h,rfl,rfl⟩
 cases (gT l m d (rj q) (Ha x (ym q)) true).2 with|false=>exact⟨h,rfl,rfl⟩|true=>refine⟨?_,rfl,rfl⟩;have e:=SI (a:=q.2.2+1) (b:=2*q.2.1);simp only[af,ak,gw,ab,aX]at h⊢;refine⟨h.1,h.2.1,?_⟩;rw[wL h.2.1];omega
def gh (l:ay aG)(m:cg)(d:Int)(q:bC)(k:Bytes)(s:Bytes):cg×K7×Bool:=
 bif !(cJ s).2||(((cJ s).1.1 !=3)||decide ((cJ s).1.2.2.1<((cQ q.2.2.2.1.1).1.length:Int))) then(m,q.2.1,false) else
 bif !(gT l m d (cJ s).1.2.2.2.1 (cQ q.2.2.2.1.1).1 true).2 then(m,q.2.1,false) else
 rf l (gT l m d (cJ s).1.2.2.2.1 (cQ q.2.2.2.1.1).1 true).1 d q.2.1 ((cJ s).1.2.2.2.2.2,((cQ q.2.2.2.1.1).1.length:Int),q.2.2.2.1.2.1,q.2.2.2.1.2.2,sL k (oK (dm q.2.2.2.1.1)))
theorem abf (l:ay aG)(m:cg)(d:Int)(q:bC)(k s:Bytes)(hl:l.length<=10^9)(hm:m.length<=10^9)(hs:s.length<=10^9)(hh:cD q.2.2.2.1.1=true):∃b,vB l m d q k s=some (b,gh l m d q k s)/\(b=false->gh l m d q k s=(m,q.2.1,false)):=by
 unfold vB gh;have oC:=WU (s:=s);simp only[Ua s hs,Fg,ae,Ff hh];generalize cJ s=x at oC⊢;cases hx:x.2;exact⟨false,rfl,λ_=>rfl⟩;have hd:=oC hx;simp only[oG,ab,aX]at hd;cases x.1.1 !=3;case true=>exact⟨false,rfl,λ_=>rfl⟩
 cases decide (x.1.2.2.1<((cQ q.2.2.2.1.1).1.length:Int));case true=>exact⟨false,rfl,λ_=>rfl⟩
 simp only[ak,af,ae,bG,CJ l m d _ _ hl hm (show x.1.2.2.2.1<=9223372036854775807 by omega)];cases (gT l m d x.1.2.2.2.1 (cQ q.2.2.2.1.1).1 true).2;exact⟨false,rfl,λ_=>rfl⟩;simp only[ak,af,MH,ae,Hv,aeE l _ d _ _ hl (show(gT l m d x.1.2.2.2.1 (cQ q.2.2.2.1.1).1 true).1.length<=10^9 by rw[lR];exact hm)];exact⟨true,rfl,λh=>by cases h⟩
theorem Qz (hn:128<=n){k:Bytes}(z:eI n (.sl .str) m)(hq:gw q.2.1=true): eI n (.sl .str) (gh l m d q k s).1/\(gh l m d q k s).1.length=m.length/\gw (gh l m d q k s).2.1=true/\(gh l m d q k s).2.1.1=q.2.1.1/\(gh l m d q k s).2.1.2.1=q.2.1.2.1:=by
 unfold gh;cases !(cJ s).2||(((cJ s).1.1 !=3)||decide ((cJ s).1.2.2.1<((cQ q.2.2.2.1.1).1.length:Int)));case true=>exact⟨z,rfl,hq,rfl,rfl⟩
 cases (gT l m d (cJ s).1.2.2.2.1 (cQ q.2.2.2.1.1).1 true).2;exact⟨z,rfl,hq,rfl,rfl⟩;have h1:=H4 hn z l d (cJ s).1.2.2.2.1 (cQ q.2.2.2.1.1).1 true;have h2:=lR l m d (cJ s).1.2.2.2.1 (cQ q.2.2.2.1.1).1 true;generalize (gT l m d (cJ s).1.2.2.2.1 (cQ q.2.2.2.1.1).1 true).1=w at h1 h2;have h3:=acd hn h1 l d q.2.1 ((cJ s).1.2.2.2.2.2,((cQ q.2.2.2.1.1).1.length:Int),q.2.2.2.1.2.1,q.2.2.2.1.2.2,sL k (oK (dm q.2.2.2.1.1)));have h4:=ZU (l:=l) (m:=w) (d:=d) (x:=((cJ s).1.2.2.2.2.2,((cQ q.2.2.2.1.1).1.length:Int),q.2.2.2.1.2.1,q.2.2.2.1.2.2,sL k (oK (dm q.2.2.2.1.1)))) hq;exact⟨h3.1,h3.2.trans h2,h4⟩
def gz (l:ay aG)(m:cg)(d:Int)(q:bC)(k:Bytes):cg×bC:=
 bif !BP q||(!q.2.2.2.2.1||((k.length:Int) !=16)) then(m,q) else
 bif (bq l m d q.1).2.2&&(gh l m d q k (bq l m d q.1).1).2.2 then
  ((gh l m d q k (bq l m d q.1).1).1,(bq l m d q.1).2.1,(gh l m d q k (bq l m d q.1).1).2.1,q.2.2.1,acM,false,q.2.2.2.2.2)
 else(m,(bq l m d q.1).2.1,q.2.1,q.2.2.1,acM,false,au (q.2.2.2.2.2+q.2.2.2.1.2.2))
theorem VF (h:(bq l m d r).2.2=false):(bq l m d r).2.1=r:=by
 unfold bq at h⊢;cases hc: !dx r||(bL r==0);case true=>rfl
 cases hd:(pq l m d (lp r r.2.2.1) 16).2 with|false=>rfl|true=>rw[hc,hd]at h;cases h
theorem Cq (h:BP q=true):gw q.2.1=true/\(q.2.2.2.2.1=true->cD q.2.2.2.1.1=true):=by unfold BP at h;simp only[ab]at h;refine⟨h.1.2.1,λhh=>?_⟩;have h2:=h.2;rw[hh]at h2;simp only[ah,ab]at h2;exact h2.1
theorem I1 (l:ay aG)(m:cg)(d:Int)(q:bC)(k:Bytes)(hl:l.length<=10^9)(hm:m.length<=10^9):nQ l m d q k=some (gz l m d q k):=by
 have ht:=F4 l m d q.1;have GR:=VF (l:=l) (m:=m) (d:=d) (r:=q.1);unfold nQ gz;simp only[MM,ae,gK m (show m.length<=1073741824 by omega),HD l m d q.1 hl hm];cases hr:BP q;rfl;cases hh:q.2.2.2.2.1;rfl;cases (k.length:Int) !=16;case true=>rfl
 obtain⟨b,hb,Oa⟩:=abf l m d q k (bq l m d q.1).1 hl hm (by omega) ((Cq hr).2 hh);simp only[ak,af,ae,bG,hb];generalize gh l m d q k (bq l m d q.1).1=s at hb Oa⊢;cases hk:(bq l m d q.1).2.2 with|false=>rw[GR hk];rfl|true=>?_
 cases b with|true=>cases hs:s.2.2<;>rfl|false=>rw[Oa rfl];rfl
theorem E9 (hn:128<=n){k:Bytes}(z:eI n (.sl .str) m)(zq:eI n dZ q): eI n (.sl .str) (gz l m d q k).1/\(gz l m d q k).1.length=m.length/\eI n dZ (gz l m d q k).2/\(BP q=true->gw (gz l m d q k).2.2.1=true/\(gz l m d q k).2.2.1.2.1=q.2.1.2.1):=by
 unfold gz;cases hc: !BP q||(!q.2.2.2.2.1||((k.length:Int) !=16));case true=>exact⟨z,rfl,zq,λh=>⟨(Cq h).1,rfl⟩⟩
 simp only[cj,dV]at hc;have hq:=(Cq hc.1).1;have hs:=Qz hn (l:=l) (d:=d) (k:=k) (s:=(bq l m d q.1).1) z hq;have e0:eI n dZ ((bq l m d q.1).2.1,(gh l m d q k (bq l m d q.1).1).2.1,q.2.2.1,acM,false,q.2.2.2.2.2):=⟨⟨dq,dq,dq,dq⟩,⟨dq,dq,dq⟩,⟨dq,dq,dq⟩,⟨⟨dq,dq,dq,dq,dq,dq,dq,dq,dq,dq,dq,dq,dq,dq,dq,cq _⟩,dq,dq⟩,dq,dq⟩
 cases (bq l m d q.1).2.2&&(gh l m d q k (bq l m d q.1).1).2.2 with|true=>exact⟨hs.1,hs.2.1,e0,λ_=>⟨hs.2.2.1,hs.2.2.2.2⟩⟩|false=>exact⟨z,rfl,⟨⟨dq,dq,dq,dq⟩,⟨dq,dq,dq⟩,⟨dq,dq,dq⟩,⟨⟨dq,dq,dq,dq,dq,dq,dq,dq,dq,dq,dq,dq,dq,dq,dq,cq _⟩,dq,dq⟩,dq,dq⟩,λ_=>⟨hq,rfl⟩⟩
theorem wJ {m':cg}(h:∀j,j<n->mB m' (a+j)=mB m (a+j)):ti m' a n=ti m a n:=List.map_congr_left λj hj=>h j (cy.1 hj)
theorem Nv (h:∀j,j<s.length->mB m (a+j)=s.getD j 0):ti m a s.length=s:=by refine List.ext_getElem (H7 ..) λj g1 g2=>?_;have e:=afq m a s.length j g2;rw[de g1,h j g2,de g2]at e;exact e
def fA (b S hd n:Nat):mR:=((b:Int),(S:Int),((hd%(2*S):Nat):Int),(((hd+n)%(2*S):Nat):Int))
theorem th {S:Nat}(hS:S=4\/S=16)(hb:b<=130944:=by omega)(hn:n<=S:=by omega):dx (fA b S hd n)=true/\bL (fA b S hd n)=(n:Int):=by
 have hs:jf (S:Int)=true:=il.2 (by omega);have hu:bL (fA b S hd n)=(n:Int):=by unfold bL fA;simp only[hs,cc];rcases hS with rfl|rfl<;>omega
 refine⟨?_,hu⟩;have e:dx (fA b S hd n)=(dF (b:Int) 0 130944&&(jf (S:Int)&&(dF ((hd%(2*S):Nat):Int) 0 (2*(S:Int)-1)&&(dF (((hd+n)%(2*S):Nat):Int) 0 (2*(S:Int)-1)&&decide (bL (fA b S hd n)<=(S:Int)))))):=rfl;rw[e,hu,hs];clear e hu;simp only[ab,aX,aE,true_and];rcases hS with rfl|rfl<;>omega
theorem aiw {S c:Nat}(hS:S=4\/S=16)(hb:b<=130944)(hn:n<=S):lp (fA b S hd n) ((c%(2*S):Nat):Int)=((b+16*(c%S):Nat):Int):=by unfold lp;rw[(th hS hb hn).1,du];show(b:Int)+tmod ((c%(2*S):Nat):Int) (S:Int)*16=_;rw[EN];rcases hS with rfl|rfl<;>omega
structure su (m:List Bytes) (b S hd:Nat) (E:List Bytes):Prop where
 len:E.length<=S
 get:∀j,j<E.length->ti m (b+16*((hd+j)%S)) 16=E.getD j []
theorem su.frame {m':cg}{S:Nat}{E:cg}(r:su m b S hd E)(hS:S=4\/S=16)(h:∀i,b<=i->i<b+16*S->mB m' i=mB m i):su m' b S hd E:=⟨r.len,λj hj=>by rw[wJ λi hi=>h _ (by omega) (by rcases hS with rfl|rfl<;>omega)];exact r.get j hj⟩
theorem Ft (hm:fE m){S:Nat}{e:Bytes}{E:cg}(hS:S=4\/S=16)(hb:b+16*S<=4864)(r:su m b S hd (e::E)):bq (bJ 38) m 0 (fA b S hd (E.length+1))=(e,fA b S (hd+1) E.length,true)/\su m b S (hd+1) E:=by
 have hl:E.length+1<=S:=r.len;have v:=th (hd:=hd) hS (show b<=130944 by omega) hl;have sl:=aiw (b:=b) (hd:=hd) (n:=E.length+1) (c:=hd) hS (by omega) hl;have g0:ti m (b+16*(hd%S)) 16=e:=r.get 0 (by simp);have d:=G9 hm (a:=b+16*(hd%S)) (r:=16) (by omega) (by rcases hS with rfl|rfl<;>omega);refine⟨?_,⟨by omega,λj hj=>?_⟩⟩;unfold bq;rw[v.1,v.2,show(((E.length+1:Nat):Int)==0)=false from by rw[cu];omega];show(bif false then _ else bif !(pq (bJ 38) m 0 (lp (fA b S hd (E.length+1)) ((hd%(2*S):Nat):Int)) 16).2 then _ else _)=_;rw[af];show(bif !(pq (bJ 38) m 0 (lp (fA b S hd (E.length+1)) ((hd%(2*S):Nat):Int)) 16).2 then _ else((pq (bJ 38) m 0 (lp (fA b S hd (E.length+1)) ((hd%(2*S):Nat):Int)) 16).1,((b:Int),(S:Int),tmod (((hd%(2*S):Nat):Int)+1) (2*(S:Int)),(((hd+(E.length+1))%(2*S):Nat):Int)),true))=_;rw[sl,show((16:Int))=((16:Nat):Int) from rfl,d,g0];simp only[ak,af];have e1:tmod (((hd%(2*S):Nat):Int)+1) (2*(S:Int))=(((hd+1)%(2*S):Nat):Int):=by rw[show((hd%(2*S):Nat):Int)+1=((hd%(2*S)+1:Nat):Int) by omega,show(2*(S:Int))=((2*S:Nat):Int) by omega,EN];rcases hS with rfl|rfl<;>omega
 rw[e1,show hd+(E.length+1)=hd+1+E.length by omega];rfl;have:=r.get (j+1) (by simp;omega);rw[show hd+(j+1)=hd+1+j by omega]at this;exact this
theorem QE {S:Nat}(hS:S=4\/S=16)(hb:b<=130944:=by omega):bq (bJ 38) m 0 (fA b S hd 0)=([],fA b S hd 0,false):=by have v:=th (hd:=hd) hS hb (cq S);unfold bq;rw[v.1,v.2];rfl
theorem U8 (hm:fE m){S:Nat}{E:cg}(hS:S=4\/S=16)(hb:b+16*S<=256\/1280<=b/\b+16*S<=4864)(r:su m b S hd E)(hn:E.length<S)(hs:s.length=16): (cR (bJ 38) m 0 (fA b S hd E.length) s).2=(fA b S hd (E.length+1),true)/\fE (cR (bJ 38) m 0 (fA b S hd E.length) s).1/\su (cR (bJ 38) m 0 (fA b S hd E.length) s).1 b S hd (E++[s])/\∀i,i<4864->(i<b\/b+16*S<=i)->mB (cR (bJ 38) m 0 (fA b S hd E.length) s).1 i=mB m i:=by
 have hl:E.length<=S:=r.len;have im:b<=130944:=by omega
 have v:=th (hd:=hd) hS im hl;have sl:=aiw (b:=b) (hd:=hd) (n:=E.length) (c:=hd+E.length) hS im hl;have p:=Co hm (a:=b+16*((hd+E.length)%S)) (s:=s) (w:=true) (by omega) (by rcases hS with rfl|rfl<;>omega) (λ_=>by rcases hS with rfl|rfl<;>omega);have fr:mx (fA b S hd E.length)=((S-E.length:Nat):Int):=by unfold mx;rw[v.1,v.2,ah];show au ((S:Int)-(E.length:Int))=_;rw[al];omega
 have e:cR (bJ 38) m 0 (fA b S hd E.length) s=((gT (bJ 38) m 0 ((b+16*((hd+E.length)%S):Nat):Int) s true).1,fA b S hd (E.length+1),true):=by
  unfold cR;rw[fr,hs,show(((S-E.length:Nat):Int)==0)=false from by rw[cu];omega];show(bif !(gT (bJ 38) m 0 (lp (fA b S hd E.length) (((hd+E.length)%(2*S):Nat):Int)) s true).2 then _ else((gT (bJ 38) m 0 (lp (fA b S hd E.length) (((hd+E.length)%(2*S):Nat):Int)) s true).1,((b:Int),(S:Int),((hd%(2*S):Nat):Int),tmod ((((hd+E.length)%(2*S):Nat):Int)+1) (2*(S:Int))),true))=_;rw[sl,p.1];simp only[ak,af];have e1:tmod ((((hd+E.length)%(2*S):Nat):Int)+1) (2*(S:Int))=(((hd+(E.length+1))%(2*S):Nat):Int):=by rw[show(((hd+E.length)%(2*S):Nat):Int)+1=(((hd+E.length)%(2*S)+1:Nat):Int) by omega,show(2*(S:Int))=((2*S:Nat):Int) by omega,EN];rcases hS with rfl|rfl<;>omega
  rw[e1];rfl
 rw[e];have p3:=p.2.2;rw[hs]at p3;generalize (gT (bJ 38) m 0 ((b+16*((hd+E.length)%S):Nat):Int) s true).1=m' at p p3⊢;refine⟨rfl,p.2.1,⟨by simp;omega,λj hj=>?_⟩,λi hi ho=>?_⟩;simp only[aj,bB]at hj;rcases bW j E.length with g|g;rw[bc,bp g,<-bc,<-r.get j g];refine wJ λi hi=>?_;rw[p3 _ (by rcases hS with rfl|rfl<;>omega),aH (by rcases hS with rfl|rfl<;>omega)];have hj:j=E.length:=by omega
 subst hj;have e2:(E++[s]).getD E.length []=s:=by simp
 rw[e2];have:=Nv (m:=m') (a:=b+16*((hd+E.length)%S)) (s:=s) λi hi=>by rw[p3 _ (by rcases hS with rfl|rfl<;>omega),zip,Nat.add_sub_cancel_left]
 rw[hs]at this;exact this;rw[p3 i hi,aH (by rcases hS with rfl|rfl<;>omega)]
def phN (x:Nat):Int:=if x%8<4 then 1 else 0
def wu (b x:Nat):K7:=((b:Int),4,((x%8:Nat):Int))
theorem Q3 {x:Nat}(hb:b<=130944:=by omega):gw (wu b x)=true/\rj (wu b x)=((b+16*(x%4):Nat):Int)/\ym (wu b x)=phN x/\tmod ((wu b x).2.2+1) (2*(wu b x).2.1)=(((x+1)%8:Nat):Int):=by refine⟨?_,?_,?_,?_⟩;unfold gw wu;simp only[ab,aX];refine⟨by omega,by decide,?_⟩;rw[wL (by decide)];omega;show(b:Int)+tmod ((x%8:Nat):Int) ((4:Nat):Int)*16=_;rw[EN];omega;unfold phN;show(bif decide (((x%8:Nat):Int)<4) then(1:Int) else 0)=_;by_cases h:x%8<4;rw[aF h,mh];rfl;rw[aH h,du];rfl;show tmod (((x%8:Nat):Int)+1) (2*4)=_;rw[show((x%8:Nat):Int)+1=((x%8+1:Nat):Int) by omega,show((2:Int)*4)=((8:Nat):Int) from rfl,EN];omega
abbrev Fx:=AB
variable {C:ay Fx}
structure Lv (m:List Bytes) (b x:Nat) (C:List Fx):Prop where
 len:C.length<=4
 get:∀j,j<C.length->ry (ti m (b+16*((x+j)%4)) 16)=(C.getD j (0,0,0,0,0),phN (x+j),true)
 R8:∀j,C.length<=j->j<4->(ry (ti m (b+16*((x+j)%4)) 16)).2.1≠phN (x+j)
theorem Lv.frame {m':cg}{x:Nat}(r:Lv m b x C)(h:∀i,b<=i->i<b+64->mB m' i=mB m i):Lv m' b x C:=by have e:∀j,ti m' (b+16*((x+j)%4)) 16=ti m (b+16*((x+j)%4)) 16:=λj=>wJ λi hi=>h _ (by omega) (by omega);exact⟨r.len,λj hj=>by rw[e];exact r.get j hj,λj h1 h2=>by rw[e];exact r.R8 j h1 h2⟩
theorem akc (x:Nat):phN x≠phN (x+4):=by unfold phN;by_cases h:x%8<4;rw[aF h,kl];decide;rw[aH h,zip];decide
theorem Ji (hm:fE m){x:Nat}{c:Fx}(hb:b+64<=4864)(r:Lv m b x (c::C)):ll (bJ 38) m 0 (wu b x)=(c,wu b (x+1),true)/\Lv m b (x+1) C:=by have v:=Q3 (b:=b) (x:=x);have d:=G9 hm (a:=b+16*(x%4)) (r:=16);have g0:=r.get 0 (by simp);rw[dX]at g0;have hl:C.length+1<=4:=r.len;refine⟨?_,⟨by omega,λj hj=>?_,λj h1 h2=>?_⟩⟩;unfold ll HV;rw[v.1,v.2.1,show((16:Int))=((16:Nat):Int) from rfl,d,g0,v.2.2.1];simp only[bF,fO,ah];unfold ae0;rw[v.2.2.2];rfl;have:=r.get (j+1) (by simp;omega);rw[show x+(j+1)=x+1+j by omega]at this;exact this;by_cases h3:j=3;subst h3;rw[show(x+1+3)%4=x%4 by omega,g0,show x+1+3=x+4 by omega];exact akc x;have:=r.R8 (j+1) (by simp;omega) (by omega);rw[show x+(j+1)=x+1+j by omega]at this;exact this
theorem Jj (hm:fE m){x:Nat}(hb:b+64<=4864)(r:Lv m b x []):ll (bJ 38) m 0 (wu b x)=((0,0,0,0,0),wu b x,false):=by have v:=Q3 (b:=b) (x:=x);have d:=G9 hm (a:=b+16*(x%4)) (r:=16);have g0:=r.R8 0 (by simp) (by omega);rw[dX]at g0;unfold ll HV;rw[v.1,v.2.1,show((16:Int))=((16:Nat):Int) from rfl,d,v.2.2.1,show((ry (ti m (b+16*(x%4)) 16)).2.1==phN x)=false from by rw[cu];exact g0];simp only[ee,af]
theorem AA (x:Int):gF x=x%256:=by simp only[au,gF,IntKind.wrap,IntKind.bits,IntKind.signed];simp
theorem ER (h:k=n%256:=by omega):(UInt8.ofNat n).toNat=k:=by rw[h];simp
theorem uG {v:Nat}(h:v<=65535:=by omega):∃a b:UInt8,aU (v:Int)=[a,b]/\a.toNat=v/256/\b.toNat=v%256:=by
 have e:aU (v:Int)=aO [gF (Int.fdiv (v:Int) (2^(nk 8))),gF (v:Int)]:=by unfold aU dA;rw[eU,aX.2 ⟨by omega,by omega⟩];rfl
 have e8:((2:Int)^(nk 8))=256:=by decide
 rw[e8,Int.fdiv_eq_ediv_of_nonneg _ (by omega),AA,AA]at e;exact⟨_,_,e,ER,ER⟩
theorem Cv {v:Nat}(h:v<=4294967295:=by omega):∃a b c d:UInt8,dT (v:Int)=[a,b,c,d]/\a.toNat=v/16777216/\b.toNat=v/65536%256/\c.toNat=v/256%256/\d.toNat=v%256:=by
 have e:dT (v:Int)=aO [gF (Int.fdiv (v:Int) (2^(nk 24))),gF (Int.fdiv (v:Int) (2^(nk 16))),gF (Int.fdiv (v:Int) (2^(nk 8))),gF (v:Int)]:=by unfold dT gD;rw[eU,aX.2 ⟨by omega,by omega⟩];rfl
 have e8:((2:Int)^(nk 8))=256:=by decide
 have e16:((2:Int)^(nk 16))=65536:=by decide
 have e24:((2:Int)^(nk 24))=16777216:=by decide
 rw[e8,e16,e24,Int.fdiv_eq_ediv_of_nonneg _ (by omega),Int.fdiv_eq_ediv_of_nonneg _ (by omega),Int.fdiv_eq_ediv_of_nonneg _ (by omega),AA,AA,AA,AA]at e;exact⟨_,_,_,_,e,ER,ER,ER,ER⟩
theorem wG {d:Dm}(h:oG d=true):(jc d).length=16/\cJ (jc d)=(d,true):=by
 have hb:=h;unfold oG at hb;simp only[ab,aX]at hb;obtain⟨o,f,l,a,s,c⟩:=d;simp only at hb;obtain⟨h1,h2,h3,h4,h5,h6⟩:=hb;obtain⟨o,rfl⟩:=az h1.1;obtain⟨f,rfl⟩:=az h2.1;obtain⟨l,rfl⟩:=az h3.1;obtain⟨s,rfl⟩:=az h4.1;obtain⟨c,rfl⟩:=az h5.1;obtain⟨a,rfl⟩:=az h6.1;obtain⟨l1,l2,el,el1,el2⟩:=uG (v:=l);obtain⟨s1,s2,es,es1,es2⟩:=uG (v:=s);obtain⟨c1,c2,ec,ec1,ec2⟩:=uG (v:=c);obtain⟨a1,a2,a3,a4,ea,ea1,ea2,ea3,ea4⟩:=Cv (v:=a);obtain⟨z1,z2,z3,z4,ez,_⟩:=Cv (v:=0);have ez:dT 0=[z1,z2,z3,z4]:=ez;have e:jc ((o:Int),(f:Int),(l:Int),(a:Int),(s:Int),(c:Int))=[UInt8.ofNat o,UInt8.ofNat f,l1,l2,a1,a2,a3,a4,s1,s2,c1,c2,z1,z2,z3,z4]:=by unfold jc;rw[h,ah];simp only[el,es,ec,ea,ez];rw[AA,AA,show(o:Int)%256=(o:Int) by omega,show(f:Int)%256=(f:Int) by omega];rfl
 have da:CB (jc ((o:Int),(f:Int),(l:Int),(a:Int),(s:Int),(c:Int)))=((o:Int),(f:Int),(l:Int),(a:Int),(s:Int),(c:Int)):=by rw[e];show(((UInt8.ofNat o).toNat:Int),((UInt8.ofNat f).toNat:Int),((l1.toNat*256+l2.toNat:Nat):Int),(((a1.toNat*256+a2.toNat)*65536+(a3.toNat*256+a4.toNat):Nat):Int),((s1.toNat*256+s2.toNat:Nat):Int),((c1.toNat*256+c2.toNat:Nat):Int))=_;rw[ER (n:=o) (k:=o),ER (n:=f) (k:=f),el1,el2,es1,es2,ec1,ec2,ea1,ea2,ea3,ea4];simp only[Prod.mk.injEq];refine⟨dq,dq,by omega,by omega,by omega,by omega⟩
 refine⟨by rw[e];rfl,?_⟩;unfold cJ;rw[da,fO];have hl:(jc ((o:Int),(f:Int),(l:Int),(a:Int),(s:Int),(c:Int))).length=16:=by rw[e];rfl
 rw[hl];rfl
theorem adg {x:Fx}(h:qb x=true){p:Nat}(hp:p<=1):(Ha x (p:Int)).length=16/\ry (Ha x (p:Int))=(x,(p:Int),true):=by
 have hb:=h;unfold qb at hb;simp only[ab,aX]at hb;obtain⟨c,l,s,n,k⟩:=x;simp only at hb;obtain⟨h1,h2,h3,h4,h5⟩:=hb;obtain⟨c,rfl⟩:=az h1.1;obtain⟨l,rfl⟩:=az h2.1;obtain⟨s,rfl⟩:=az h3.1;obtain⟨n,rfl⟩:=az h4.1;obtain⟨k,rfl⟩:=az h5.1;obtain⟨c1,c2,ec,ec1,ec2⟩:=uG (v:=c);obtain⟨l1,l2,el,el1,el2⟩:=uG (v:=l);obtain⟨s1,s2,es,es1,es2⟩:=uG (v:=s);obtain⟨n1,n2,en,en1,en2⟩:=uG (v:=n);obtain⟨k1,k2,k3,k4,ek,ek1,ek2,ek3,ek4⟩:=Cv (v:=k);obtain⟨p1,p2,p3,p4,ep,ep1,ep2,ep3,ep4⟩:=Cv (v:=p);have e:Ha ((c:Int),(l:Int),(s:Int),(n:Int),(k:Int)) (p:Int)=[c1,c2,l1,l2,s1,s2,n1,n2,k1,k2,k3,k4,p1,p2,p3,p4]:=by unfold Ha;rw[h,aX.2 ⟨by omega,by omega⟩];simp only[cY,ah,ec,el,es,en,ek,ep];rfl
 have g:∀q:Nat,q<=1->p1.toNat=0->p2.toNat=0->p3.toNat=0->p4.toNat=q->fP [c1,c2,l1,l2,s1,s2,n1,n2,k1,k2,k3,k4,p1,p2,p3,p4] 12=(q:Int):=by intro q _ g1 g2 g3 g4;show(((p1.toNat*256+p2.toNat)*65536+(p3.toNat*256+p4.toNat):Nat):Int)=_;rw[g1,g2,g3,g4];omega
 have g12:=g p hp (by omega) (by omega) (by omega) (by omega);refine⟨by rw[e];rfl,?_⟩;unfold ry;rw[e,g12,du];show(bif (((16:Nat):Int) !=16)||false then _ else((((c1.toNat*256+c2.toNat:Nat):Int),((l1.toNat*256+l2.toNat:Nat):Int),((s1.toNat*256+s2.toNat:Nat):Int),((n1.toNat*256+n2.toNat:Nat):Int),(((k1.toNat*256+k2.toNat)*65536+(k3.toNat*256+k4.toNat):Nat):Int)),(p:Int),true))=_;rw[ec1,ec2,el1,el2,es1,es2,en1,en2,ek1,ek2,ek3,ek4];show((_,_,_,_,_),_,_)=_;simp only[Prod.mk.injEq];refine⟨⟨by omega,by omega,by omega,by omega,by omega⟩,dq⟩
theorem akb (x:Nat):∃p:Nat,p<=1/\phN x=(p:Int):=by unfold phN;split;exact⟨1,by omega,rfl⟩;exact⟨0,by omega,rfl⟩
theorem Qk (hm:fE m){x:Nat}(hb:1280<=b/\b+64<=4864)(r:Lv m b x C)(hn:C.length<4){c:Fx}(hc:qb c=true): (rf (bJ 38) m 0 (wu b (x+C.length)) c).2=(wu b (x+C.length+1),true)/\fE (rf (bJ 38) m 0 (wu b (x+C.length)) c).1/\Lv (rf (bJ 38) m 0 (wu b (x+C.length)) c).1 b x (C++[c])/\∀i,i<4864->(i<b\/b+64<=i)->mB (rf (bJ 38) m 0 (wu b (x+C.length)) c).1 i=mB m i:=by
 have v:=Q3 (b:=b) (x:=x+C.length);obtain⟨p,hp,ep⟩:=akb (x+C.length);have bk:=adg hc hp;rw[<-ep]at bk;generalize hs:Ha c (phN (x+C.length))=s at bk;have q:=Co hm (a:=b+16*((x+C.length)%4)) (s:=s) (w:=true) (by omega) (by omega) (λ_=>by omega);have e:rf (bJ 38) m 0 (wu b (x+C.length)) c=((gT (bJ 38) m 0 ((b+16*((x+C.length)%4):Nat):Int) s true).1,wu b (x+C.length+1),true):=by unfold rf;rw[v.1,hc,v.2.2.1,hs,v.2.1,q.1,v.2.2.2];rfl
 rw[e];have q3:=q.2.2;rw[bk.1]at q3;generalize (gT (bJ 38) m 0 ((b+16*((x+C.length)%4):Nat):Int) s true).1=m' at q q3⊢;have row:ti m' (b+16*((x+C.length)%4)) 16=s:=by
  have:=Nv (m:=m') (a:=b+16*((x+C.length)%4)) (s:=s) λi hi=>by rw[q3 _ (by omega),zip,Nat.add_sub_cancel_left]
  rw[bk.1]at this;exact this
 have apart:∀j,j<4->j≠C.length->ti m' (b+16*((x+j)%4)) 16=ti m (b+16*((x+j)%4)) 16:=λj hj Cy=>wJ λi hi=>by rw[q3 _ (by omega),kl]
 refine⟨rfl,q.2.1,⟨by simp;omega,λj hj=>?_,λj h1 h2=>?_⟩,λi hi ho=>?_⟩;simp only[aj,bB]at hj;by_cases g:j=C.length;subst g;rw[row,bk.2];simp;rw[apart j (by omega) g,r.get j (by omega),bc,bc,bp (by omega)];simp only[aj,bB]at h1;rw[apart j h2 (by omega)];exact r.R8 j (by omega) h2;rw[q3 i hi,kl]
def Ap (x:Int×Int):Bool:=decide (x.1<0)|| !dF x.2 0 4096
def nD (l:ay (Int×Int)):Bool:= !l.any Ap&&decide ((l.length:Int)<=16)
theorem Yd (l:ay (Int×Int)):(bif l.any Ap then some false else some (decide ((l.length:Int)<=16)))=some (nD l):=by unfold nD;cases l.any Ap<;>rfl
theorem MK (l:ay (Int×Int))(h:l.length<=10^9):sV l=some (nD l):=by
 unfold sV;rw[<-Yd];refine Lz Ap l (by omega) (λi hi nx=>?_) (λnx=>?_);simp only[rH];rw[mh,ah,bS hi,ae,dw,al];unfold Ap;cases decide (l[i].1<0)with|true=>rfl|false=>simp only[af,ae,cd];rfl
 simp only[rH];rw[du,af]
theorem Jp {l:ay (Int×Int)}(h:nD l=true):l.length<=16/\∀x∈l,0<=x.1/\0<=x.2/\x.2<=4096:=by unfold nD at h;simp only[ab,aE,aN]at h;refine⟨by omega,λx hx=>?_⟩;have:=List.any_eq_false.1 h.1 x hx;unfold Ap at this;simp only[cH,aE,aN,not_or,Bool.not_eq_false,aX]at this;omega
def dsc (n:Nat)(c:Int)(i:Nat)(x:Int×Int):Dm:=(1,(if i+1=n then 1 else 0),x.2,x.1,0,c)
def nM (ps:ay (Int×Int))(c:Int):Nat->ay Dm
 |0=>[]
 |i+1=>nM ps c i++[dsc ps.length c i (ps.getD i (0,0))]
theorem BT (ps:ay (Int×Int))(c:Int):∀i,(nM ps c i).length=i
 |0=>rfl
 |i+1=>by rw[nM,aj,BT ps c i];rfl
theorem IK (ps:ay (Int×Int))(c:Int)(q:Dm->Bool):∀i,(nM ps c i).all q=(List.range i).all (λj=>q (dsc ps.length c j (ps.getD j (0,0))))
 |0=>rfl
 |i+1=>by rw[nM,List.all_append,IK ps c q i,List.range_succ,List.all_append];rfl
def kq (ps:ay (Int×Int))(z c:Int):ay Dm:=
 bif ((ps.length:Int)==0)||(!nD ps|| !dF z 1 128) then [] else
 bif ([(2,0,0,0,z,c)]++nM ps c ps.length).all oG then [(2,0,0,0,z,c)]++nM ps c ps.length else []
theorem CI (ps:ay (Int×Int))(z c:Int)(h:ps.length<=10^9:=by omega):∃b,jx ps z c=some (b,kq ps z c)/\(b=false->kq ps z c=[]):=by
 unfold jx kq;rw[MK ps h,dw];simp only[ae];cases ((ps.length:Int)==0);case true=>exact⟨false,rfl,λ_=>rfl⟩
 cases nD ps;exact⟨false,rfl,λ_=>rfl⟩;cases dF z 1 128;exact⟨false,rfl,λ_=>rfl⟩;simp only[ak,af,ae,bG];refine⟨([(2,0,0,0,z,c)]++nM ps c ps.length).all oG,?_,λhb=>by rw[hb];rfl⟩;refine fW (λi=>(([(2,0,0,0,z,c)]++nM ps c i,(i:Int)):ay Dm×Int)) ps.length (by omega) (λi nx hi=>?_) (λnx=>?_);have hl:=BT ps c i;simp only[kV];rw[mh,ah,bS hi,ae,al (n:=(ps.length:Int)-1),al];have e:[(2,0,0,0,z,c)]++nM ps c (i+1)=([(2,0,0,0,z,c)]++nM ps c i)++[dsc ps.length c i ps[i]]:=by rw[nM,de hi,aD]
 rw[e];unfold dsc;by_cases hc:i+1=ps.length;rw[show((i:Int)==(ps.length:Int)-1)=true from by rw[bm];omega,aF hc];simp only[ah];rw[bg (by simp only[aj,bB];omega)];rfl;rw[show((i:Int)==(ps.length:Int)-1)=false from by rw[cu];omega,aH hc];simp only[af];rw[bg (by simp only[aj,bB];omega)];rfl;simp only[kV];rw[du,af];have hl:=BT ps c ps.length;generalize hq:[(2,0,0,0,z,c)]++nM ps c ps.length=q;have hn:q.length<=1000000001:=by rw[<-hq];simp only[aj,bB];omega
 rw[pP (fin:=some (true,q)) (hit:=some (false,[])) oG q (by omega) (λi hi nx=>?_) (λnx=>?_)];cases q.all oG<;>rfl;simp only[kv];rw[mh,ah,bS hi,ae,Ub,ae,al];rfl;simp only[kv];rw[du,af]
def Nz (x y:Dm):Bool:=(x.1==y.1)&&((x.2.1==y.2.1)&&((x.2.2.1==y.2.2.1)&&((x.2.2.2.1==y.2.2.2.1)&&((x.2.2.2.2.1==y.2.2.2.2.1)&&((x.2.2.2.2.2==y.2.2.2.2.2)&&true)))))
def JB (a b:ay Dm):Bool:=((a.length:Int)==(b.length:Int))&&(List.range a.length).all λi=>Nz (a.getD i JW) (b.getD i JW)
def lQ (l:ay Dm):ay (Int×Int):=(l.drop 1).map λx=>(x.2.2.2.1,x.2.2.1)
def fC (l:ay Dm):ay (Int×Int)×Int×Int×Bool:=
 match l with
 |h::x::r=>bif JB (kq (lQ l) h.2.2.2.2.1 h.2.2.2.2.2) l then(lQ l,h.2.2.2.2.1,h.2.2.2.2.2,true) else([],0,0,false)
 |_=>([],0,0,false)
theorem aax (ps:ay (Int×Int))(z c:Int):(kq ps z c).length<=ps.length+1:=by
 unfold kq;cases ((ps.length:Int)==0)||(!nD ps|| !dF z 1 128);case true=>simp
 cases ([(2,0,0,0,z,c)]++nM ps c ps.length).all oG with|false=>simp|true=>simp only[af,ah,aj,bB,BT];omega
theorem RX (l:ay Dm)(hl:l.length<=10^9):oO l=some (fC l):=by
 unfold oO;match l,hl with
 |[],_=>rfl
 |[h],_=>rfl
 |h::y::r,hl=>
  generalize hq:y::r=q;have hq1:1<=q.length:=by rw[<-hq];simp
  have hlen:q.length+1<=10^9:=by rw[<-hq];simpa using hl
  have i0:idx (h::q) 0=some h:=rfl;have s0:sub (h::q) 1 (((h::q).length:Nat):Int)=some q:=wg (l:=h::q) 1 (by simp) (a:=1) rfl;rw[ar (by simp only[aS];omega),af,s0,ae];refine fW (λi=>(((q.take i).map (λx=>(x.2.2.2.1,x.2.2.1)),(i:Int)):ay (Int×Int)×Int)) q.length (by omega) (λi nx hi=>?_) (λnx=>?_);simp only[lY];rw[mh,ah,bS hi,ae,bg (by simp only[cI,aY,bB];omega),al,bV hi,cp];rfl;simp only[lY];rw[du,af,eF];have hp:q.map (λx=>(x.2.2.2.1,x.2.2.1))=lQ (h::q):=rfl;have DE:(lQ (h::q)).length=q.length:=by rw[<-hp,cI]
  rw[hp];have hdl:=aax (lQ (h::q)) h.2.2.2.2.1 h.2.2.2.2.2;obtain⟨b,hd,hb⟩:=CI (lQ (h::q)) h.2.2.2.2.1 h.2.2.2.2.2;have hR:fC (h::q)=bif JB (kq (lQ (h::q)) h.2.2.2.2.1 h.2.2.2.2.2) (h::q) then(lQ (h::q),h.2.2.2.2.1,h.2.2.2.2.2,true) else([],0,0,false):=by rw[<-hq];rfl
  rw[hR];simp only[i0,ae,hd];have hlc:(((h::q).length:Nat):Int)=(q.length:Int)+1:=by simp only[aS];omega
  generalize kq (lQ (h::q)) h.2.2.2.2.1 h.2.2.2.2.2=w at hdl hb⊢
  have core:∀(K:aC (ay (Int×Int)×Int×Int×Bool))(w':ay Dm),w'=w->(bif ((w'.length:Nat):Int) !=(((h::q).length:Nat):Int) then some (([]:ay (Int×Int)),(0:Int),(0:Int),false) else
   bt (iu (λEV=>some (lQ (h::q),h.2.2.2.2.1,h.2.2.2.2.2,true)) (λEW IB Iz GN JO=>some (EW,IB,Iz,GN)) (h::q) (lQ (h::q)) h.2.2.2.2.1 h.2.2.2.2.2 w' ((w'.length:Nat):Int)) fuel 0)=some (bif JB w (h::q) then(lQ (h::q),h.2.2.2.2.1,h.2.2.2.2.2,true) else([],0,0,false)):=by
   intro K w' e
   subst e
   unfold JB
   cases hl:((w'.length:Int)==(((h::q).length:Nat):Int))with
   |false=>simp only[bne,hl,bQ,ah,eZ,af]
   |true=>
    have hn:w'.length=(h::q).length:=by have:=bw hl;omega
    simp only[bne,hl,ak,af,bF]
    rw[rr (fin:=some (lQ (h::q),h.2.2.2.2.1,h.2.2.2.2.2,true)) (hit:=some ([],0,0,false)) (λi=>Nz (w'.getD i JW) ((h::q).getD i JW)) w'.length (by omega) (λi nx hi=>?_) (λnx=>?_)]
    ·cases (List.range w'.length).all (λi=>Nz (w'.getD i JW) ((h::q).getD i JW))<;>rfl
    ·have hi2:i<(h::q).length:=by omega
     simp only[iu]
     rw[mh,ah,bS hi,bS hi2,ae,ae,al,de hi,de hi2];rfl
    ·simp only[iu]
     rw[du,af]
  cases b with|true=>exact core none w rfl|false=>exact core none [] (hb rfl).symm
theorem UZ {l:ay Dm}(h:(fC l).2.2.2=true):nD (fC l).1=true/\∀p∈(fC l).1,p.1<=4294967295:=by match l,h with|hd::x::r,h=>unfold fC at h⊢;simp only at h⊢;cases hs:JB (kq (lQ (hd::x::r)) hd.2.2.2.2.1 hd.2.2.2.2.2) (hd::x::r)with|false=>rw[hs]at h;cases h|true=>simp only[ah];generalize hw:lQ (hd::x::r)=ps at hs⊢;unfold JB at hs;simp only[ab]at hs;have hn:=bw hs.1;unfold kq at hn;cases hc:((ps.length:Int)==0)||(!nD ps|| !dF hd.2.2.2.2.1 1 128)with|true=>rw[hc]at hn;simp at hn;omega|false=>rw[hc]at hn;cases ha:([(2,0,0,0,hd.2.2.2.2.1,hd.2.2.2.2.2)]++nM ps hd.2.2.2.2.2 ps.length).all oG with|false=>rw[ha]at hn;simp at hn;omega|true=>simp only[cj,dV]at hc;refine⟨hc.2.1,λp hp=>?_⟩;rw[List.all_append,IK,ab]at ha;obtain⟨i,hi,rfl⟩:=fX hp;have:=aL.1 ha.2 i (cy.2 hi);rw[de hi]at this;simp only[oG,dsc,ab,aX]at this;omega
theorem IL (l:ay aG)(m:cg)(d a n:Int):(pq l m d a n).1.length<=33554432:=by have hL:=JA l m d a n false;have h1:=vL m (kO l m d a n false).1;unfold pq;cases (kO l m d a n false).2 with|false=>simp|true=>simp only[ah];omega
def CF (l:ay aG)(m:cg)(d:Int):ay (Int×Int)->Bytes->Bytes×Bool
 |[],acc=>(acc,true)
 |p::ps,acc=>bif (pq l m d p.1 p.2).2 then CF l m d ps (acc++(pq l m d p.1 p.2).1) else([],false)
def kT (l:ay aG)(m:cg)(d:Int)(ps:ay (Int×Int)):Bytes×Bool:=bif nD ps then CF l m d ps [] else([],false)
def Hg (l:ay aG)(m:cg)(d:Int)(p:Int×Int)(s:Bytes):Except (aC (Bytes×Bool)) Bytes:=
 if(pq l m d p.1 p.2).2=true then .ok (s++(pq l m d p.1 p.2).1) else .error (some ([],false))
theorem Ml (l:ay aG)(m:cg)(d:Int):∀(ps:ay (Int×Int))(s:Bytes),Sk (Hg l m d) (λs=>some (s,true)) ps s=some (CF l m d ps s)
 |[],s=>rfl
 |p::ps,s=>by rw[Sk,CF];unfold Hg;cases hd:(pq l m d p.1 p.2).2 with|false=>rfl|true=>rw[aF rfl];exact Ml l m d ps _
theorem J2 (l:ay aG)(m:cg)(d:Int):∀(ps:ay (Int×Int))(s:Bytes),(CF l m d ps s).1.length<=s.length+33554432*ps.length
 |[],s=>by simp[CF]
 |p::ps,s=>by have h1:=IL l m d p.1 p.2;rw[CF];cases (pq l m d p.1 p.2).2 with|false=>simp|true=>have:=J2 l m d ps (s++(pq l m d p.1 p.2).1);rw[aj]at this;simp only[ah,aS,Nat.mul_add];omega
theorem TI (l:ay aG)(m:cg)(d:Int)(ps:ay (Int×Int)):(kT l m d ps).1.length<=10^9:=by unfold kT;cases hp:nD ps with|false=>simp|true=>have:=(Jp hp).1;have:=J2 l m d ps [];simp only[dv]at this;simp only[ah];omega
theorem Xs (l:ay aG)(m:cg)(d:Int)(ps:ay (Int×Int))(hl:l.length<=10^9)(hm:m.length<=10^9)(hn:ps.length<=10^9)(ha:∀p∈ps,p.1<=9223372036854775807):qp l m d ps=some (kT l m d ps):=by
 unfold qp kT;rw[MK ps hn,ae];cases hp:nD ps;rfl;have SM:=(Jp hp).1;simp only[ak,af,ah];rw[<-Ml];refine H8 ps (λs i=>(s,(i:Int))) (λi s=>s.length<=33554432*i) (Hg l m d) _ (by omega) (λi hi s nx hI=>?_) (λi hi s s' hI he=>?_) (λs nx hI=>?_) [] (by simp);have h1:=IL l m d ps[i].1 ps[i].2;simp only[mC];rw[mh,ah,bS hi,ae,Bb l m d _ _ hl hm (ha _ (bE hi)),ae];unfold Hg;cases hd:(pq l m d ps[i].1 ps[i].2).2 with|false=>rfl|true=>rw[aF rfl,bg,al];rfl
 have h1:=IL l m d ps[i].1 ps[i].2;unfold Hg at he;split at he;injection he with he;rw[<-he,aj];omega;cases he;simp only[mC];rw[du,af]
theorem jY {y:Bytes}(h:i<x.length):bO (x++y) i=bO x i:=by unfold bO;rw[bc,bc,bp h]
theorem uk {y:Bytes}(h:x.length<=i):bO (x++y) i=bO y (i-x.length):=by unfold bO;rw[bc,bc,bz h]
theorem Tb (h:i<n):bO (x.take n) i=bO x i:=by unfold bO;rw[bc,bc,dE h]
theorem mq:bO (x.drop n) i=bO x (n+i):=by unfold bO;rw[bc,bc,bK]
theorem Se {p:Bytes}(h:i<a\/a+p.length<=i:=by omega):bO (vJ s (a:Int) p) i=bO s i:=by
 unfold vJ fz;by_cases hw:(0:Int)<=a/\(a:Int)+(p.length:Int)<=(s.length:Int)
 rw[aq hw,ah,aA];have ht:(s.take a).length=a:=by rw[aY];omega
 rcases h with h|h;rw[jY (by rw[aj];omega),jY (by omega),Tb h];rw[uk (by rw[aj];omega),mq,aj,ht];congr 1;omega;rw[ar hw];rfl
theorem ZT {p:Bytes}{j:Nat}(hw:a+p.length<=s.length)(hj:j<p.length:=by omega):bO (vJ s (a:Int) p) (a+j)=bO p j:=by
 unfold vJ fz;rw[aq ⟨by omega,by omega⟩,ah,aA];have ht:(s.take a).length=a:=by rw[aY];omega
 rw[jY (by rw[aj];omega),uk (by omega),ht];congr 1;omega
theorem uq:cl s (a:Int)=bif decide (a+2<=s.length) then((bO s a*256+bO s (a+1):Nat):Int) else-1:=by unfold cl fz;rw[aA,show decide ((0:Int)<=a/\(a:Int)+2<=(s.length:Int))=decide (a+2<=s.length) from decide_eq_decide.2 (by omega)]
theorem D5 {t:Bytes}(hl:s.length=t.length)(h0:bO s a=bO t a)(h1:bO s (a+1)=bO t (a+1)):cl s (a:Int)=cl t (a:Int):=by rw[uq,uq,hl,h0,h1]
theorem Mm:cl (s.drop k) (a:Int)=cl s ((k+a:Nat):Int):=by rw[uq,uq,mq,mq,aP,show k+(a+1)=k+a+1 by omega,show decide (a+2<=s.length-k)=decide (k+a+2<=s.length) from decide_eq_decide.2 (by omega)]
theorem Fa:fP s (a:Int)=bif decide (a+4<=s.length) then(((bO s a*256+bO s (a+1))*65536+(bO s (a+2)*256+bO s (a+3)):Nat):Int) else-1:=by unfold fP fz;rw[aA,show decide ((0:Int)<=a/\(a:Int)+4<=(s.length:Int))=decide (a+4<=s.length) from decide_eq_decide.2 (by omega)]
theorem Mn:fP (s.drop k) (a:Int)=fP s ((k+a:Nat):Int):=by rw[Fa,Fa,mq,mq,mq,mq,aP,show k+(a+1)=k+a+1 by omega,show k+(a+2)=k+a+2 by omega,show k+(a+3)=k+a+3 by omega,show decide (a+4<=s.length-k)=decide (k+a+4<=s.length) from decide_eq_decide.2 (by omega)]
theorem TJ {t:Bytes}(hl:s.length=t.length)(h:∀j,j<4->bO s (a+j)=bO t (a+j)):fP s (a:Int)=fP t (a:Int):=by rw[Fa,Fa,hl,show bO s a=bO t a from h 0 (by omega),h 1 (by omega),h 2 (by omega),h 3 (by omega)]
def dM (s:Bytes):Nat:=bif cl s 12==33024 then 18 else 14
def lj (s:Bytes):Nat:=bO s (dM s+9)
def NM (k:Nat):Nat:=bif (k:Int)==6 then 16 else 6
def BK (s:Bytes):Nat:=dM s+10
def zy (s:Bytes):Nat:=dM s+20+NM (lj s)
theorem Ik (k:Nat):NM k=16/\k=6\/NM k=6/\k≠6:=by unfold NM;by_cases h:k=6;subst h;exact .inl ⟨rfl,rfl⟩;exact .inr ⟨by rw[show((k:Int)==6)=false from by rw[cu];omega];rfl,h⟩
theorem LI (s:Bytes):dM s=18/\(cl s 12==33024)=true\/dM s=14/\(cl s 12==33024)=false:=by unfold dM;cases cl s 12==33024 with|true=>exact .inl ⟨rfl,rfl⟩|false=>exact .inr ⟨rfl,rfl⟩
theorem I4 (k:Nat)(h:k<256):gn (k:Int)=some (NM k:Int):=by unfold gn NM;cases (k:Int)==6<;>rfl
theorem HC (s:Bytes)(h:s.length<=10^9):qZ s=some ((BK s:Int),(zy s:Int)):=by
 unfold qZ;rw[wH s 12 h,ae];have hk:=fB s (dM s+9)
 have core:∀o:Nat,dM s=o->(o=18\/o=14)->(bif decide (au ((o:Int)+9)<(s.length:Int)) then
  aa (idx s (au ((o:Int)+9))) λx2=>aa (gn (au ((UInt8.toNat x2:Int)))) λr3=>some (au ((o:Int)+10),au ((au ((o:Int)+20))+r3))
  else aa (gn 0) λr4=>some (au ((o:Int)+10),au ((au ((o:Int)+20))+r4)))=some ((BK s:Int),(zy s:Int)):=by
  intro o ho h2
  have hs:=Ik (lj s)
  rw[al (n:=(o:Int)+9),al (n:=(o:Int)+10),al (n:=(o:Int)+20)]
  unfold BK zy
  rw[ho]
  by_cases hl:o+9<s.length
  ·obtain⟨x,hx,ex⟩:=my hl
   rw[mh,ah,show(o:Int)+9=((o+9:Nat):Int) by omega,hx,ae,ex,iU (by rw[<-ho];omega),I4 _ (by rw[<-ho];exact hk),ae,show bO s (o+9)=lj s by unfold lj;rw[ho],al]
   congr 1
  ·have hz:lj s=0:=by unfold lj;rw[ho];exact Gb
   have h0:gn 0=some (NM 0:Int):=I4 0 (by omega)
   rw[du,af,h0,ae,<-hz,al]
   congr 1
 rcases LI s with⟨h1,h2⟩|⟨h1,h2⟩;rw[h2,ah];exact core 18 h1 (.inl rfl);rw[h2,af];exact core 14 h1 (.inr rfl)
theorem ZN {a:Int}(h:dF a 0 281474976710655=true):(Gt a).length=6:=by
 have ha:=aX.1 h;have e:Gt a=aU (Int.fdiv a (2^(nk 32)))++dT (au (toNat (ia a&&&ia 4294967295))):=by unfold Gt iS;rw[kl];simp only[na,oY,ae];have h1:=bN (Int.fdiv a (2^(nk 32)));have h2:=eQ (au (toNat (ia a&&&ia 4294967295)));rw[bg];rfl
 have e2:(2:Int)^(nk 32)=4294967296:=rfl;rw[e,aj,Dk,GL,ajW,e2];rw[show dF (Int.fdiv a 4294967296) 0 65535=true from aX.2 (by rw[Int.fdiv_eq_ediv_of_nonneg _ (by omega)];omega),show dF (a%4294967296) 0 4294967295=true from aX.2 (by omega)];rfl
theorem T7 (h:cD p=true):dM (cQ p).1+46<=(cQ p).1.length:=by
 have hh:nN p=true:=by simp only[cD,ab]at h;exact h.1
 have hp:=Lm (PU p).1;have hi:=Ff h;unfold cQ adZ Rr at hi⊢;rw[h,ah]at hi⊢;cases he:pt (p.1,p.2.1,p.2.2.1,2048,pad (PU p).1)with|false=>rw[he]at hi;cases hi|true=>?_
 simp only[ah];simp only[nN,ab]at hh;have m1:=ZN hh.1;have m2:=ZN hh.2.1;have hv:=aX.1 hh.2.2.1;have w1:(aU 33024).length=2:=rfl;have w3:(aU 2048).length=2:=rfl;generalize pad (PU p).1=bd at hp⊢;unfold Dv;simp only;generalize Gt p.1=M1 at m1⊢;generalize Gt p.2.1=M2 at m2⊢;by_cases hc:p.2.2.1>=0;have w2:(aU p.2.2.1).length=2:=by rw[Dk,aX.2 (by omega)];rfl
 rw[aq hc,ah];have hb:dM (((((M1++M2)++aU 33024)++aU p.2.2.1)++aU 2048)++bd)=18:=by
  unfold dM;have e12:cl (((((M1++M2)++aU 33024)++aU p.2.2.1)++aU 2048)++bd) ((12:Nat):Int)=33024:=by rw[uq,aq (by simp only[aj];omega),ah];rw[jY (by simp only[aj];omega),jY (by simp only[aj];omega),jY (by simp only[aj];omega),uk (by simp only[aj];omega)];rw[jY (by simp only[aj];omega),jY (by simp only[aj];omega),jY (by simp only[aj];omega),uk (by simp only[aj];omega)];rw[aj,m1,m2];rfl
  rw[show(12:Int)=((12:Nat):Int) from rfl,e12];rfl
 rw[hb];simp only[aj];omega;rw[ar hc,af];have hb:dM (((M1++M2)++aU 2048)++bd)=14:=by
  unfold dM;have e12:cl (((M1++M2)++aU 2048)++bd) ((12:Nat):Int)=2048:=by rw[uq,aq (by simp only[aj];omega),ah];rw[jY (by simp only[aj];omega),uk (by simp only[aj];omega)];rw[jY (by simp only[aj];omega),uk (by simp only[aj];omega)];rw[aj,m1,m2];rfl
  rw[show(12:Int)=((12:Nat):Int) from rfl,e12];rfl
 rw[hb];simp only[aj];omega
def mK (t:Bytes)(x y:Bytes):Bytes:=vJ (vJ t (BK t:Int) x) (zy t:Int) y
theorem Ew (t x y:Bytes):(mK t x y).length=t.length:=by unfold mK;rw[xX,xX]
def lg (p:aQ):Bytes×Bool:=bif cD p then(mK (cQ p).1 (aU 0) (aU 0),true) else([],false)
theorem aes (h:cD p=false):cQ p=([],false):=by unfold cQ;rw[h];rfl
theorem PT (p:aQ):mW p=some (lg p):=by have hl:=nO p;have w0:=bN 0;unfold mW lg mK;rw[Fg,ae];cases h:cD p with|false=>rw[aes h];rfl|true=>rw[Ff h];simp only[ak,af,ah,HC _ (show(cQ p).1.length<=10^9 by omega),ae,lK,CL _ _ _ (show(cQ p).1.length<=10^9 by omega) (show(aU 0).length<=10^9 by omega),CL _ _ _ (show(vJ (cQ p).1 (BK (cQ p).1:Int) (aU 0)).length<=10^9 by rw[xX];omega) (show(aU 0).length<=10^9 by omega)]
def Dp (s t:Bytes):Prop:=s.length=t.length/\∀i,i<BK t\/(BK t+2<=i/\i<zy t)\/zy t+2<=i->bO s i=bO t i
theorem Aq (t:Bytes):(dM t=14\/dM t=18)/\BK t=dM t+10/\dM t+26<=zy t/\zy t<=dM t+36/\(zy t=dM t+36/\lj t=6\/zy t=dM t+26/\lj t≠6):=by have h1:=LI t;have h2:=Ik (lj t);unfold BK zy;omega
theorem FY (t:Bytes){y:Bytes}(hx:x.length<=2)(hy:y.length<=2):Dp (mK t x y) t:=by have:=Aq t;refine⟨Ew t x y,λi hi=>?_⟩;unfold mK;rw[Se,Se]
theorem Dp.body {t:Bytes}(h:Dp s t):dM s=dM t:=by have:=Aq t;unfold dM;have e:cl s ((12:Nat):Int)=cl t ((12:Nat):Int):=D5 h.1 (h.2 _ (by omega)) (h.2 _ (by omega));rw[show(12:Int)=((12:Nat):Int) from rfl,e]
theorem Dp.kind {t:Bytes}(h:Dp s t):lj s=lj t:=by have:=Aq t;unfold lj;rw[h.body,h.2 _ (by omega)]
theorem Dp.akd {t:Bytes}(h:Dp s t):BK s=BK t/\zy s=zy t:=by unfold BK zy;rw[h.body,h.kind];exact⟨rfl,rfl⟩
theorem Dp.alN {t:Bytes}(h:Dp s t):cl s ((dM t+2:Nat):Int)=cl t ((dM t+2:Nat):Int):=by have:=Aq t;exact D5 h.1 (h.2 _ (by omega)) (h.2 _ (by omega))
structure TOk (t:Bytes):Prop where
 eth:(gb t).2=true
 bd:(gb t).1.2.2.2.2=t.drop (dM t)
 l1:dM t+46<=t.length
 n1:20+NM (lj t)+2<=cl t ((dM t+2:Nat):Int)
 n2:cl t ((dM t+2:Nat):Int)<=(t.length:Int)-(dM t:Int)
theorem Jo (h:(gb s).2=true):(gb s).1.2.2.2.2=s.drop (dM s)/\18<=s.length/\46<=s.length-dM s/\s.length-dM s<=400:=by
 unfold gb at h⊢;by_cases h8:(s.length:Int)<18;rw[aq h8]at h;cases h;rw[ar h8]at h⊢;simp only[af]at h⊢;rcases LI s with⟨h1,h2⟩|⟨h1,h2⟩;rw[h2]at h⊢;simp only[ah]at h⊢;cases he:pt (DV s)with|false=>rw[he]at h;cases h|true=>rw[h1];simp only[pt,ab,aX,DV,aP]at he;simp only[ah,DV];refine⟨dq,by omega,by omega,by omega⟩
 rw[h2]at h⊢;simp only[af]at h⊢;cases he:pt (uT s)with|false=>rw[he]at h;cases h|true=>rw[h1];simp only[pt,ab,aX,uT,aP]at he;simp only[ah,uT];refine⟨dq,by omega,by omega,by omega⟩
theorem Nr (h:(jE s).2=0):(gb s).2=true/\(ky (gb s).1.2.2.2.2).2=true/\cD (jE s).1=true/\ (mJ (ky (gb s).1.2.2.2.2).1.2.2.2.2.1 (ky (gb s).1.2.2.2.2).1.2.2.2.2.2.1 (ky (gb s).1.2.2.2.2).1.2.2.2.1 (ky (gb s).1.2.2.2.2).1.2.2.2.2.2.2).2=true:=by
 unfold jE at h⊢;simp only at h⊢;generalize gb s=e at h⊢;cases h1: !e.2||(e.1.2.2.2.1 !=2048)with|true=>rw[h1]at h;cases h|false=>?_
 rw[h1]at h;simp only[af]at h⊢;generalize ky e.1.2.2.2.2=i at h⊢;cases h2:i.2 with|false=>rw[h2]at h;cases h|true=>?_
 rw[h2]at h;simp only[ak,af]at h⊢;generalize mJ i.1.2.2.2.2.1 i.1.2.2.2.2.2.1 i.1.2.2.2.1 i.1.2.2.2.2.2.2=g at h⊢;cases h3:g.2 with|false=>rw[h3]at h;cases h|true=>?_
 rw[h3]at h;simp only[ak,af]at h⊢;cases h4:cD (e.1.1,e.1.2.1,e.1.2.2.1,i.1.1,i.1.2.1,i.1.2.2.1,i.1.2.2.2.2.1,i.1.2.2.2.2.2.1,g.1)with|false=>rw[h4]at h;cases h|true=>?_
 simp only[cj,dV]at h1;exact⟨h1.1,dq,h4,dq⟩
theorem afd {b:Bytes}(h:(ky b).2=true):20<=cl b 2/\cl b 2<=(b.length:Int)/\(ky b).1=BG b:=by
 unfold ky at h⊢;cases h1:decide ((b.length:Int)<20)||(decide (cl b 2<20)||decide (cl b 2>(b.length:Int)))with|true=>rw[h1]at h;cases h|false=>?_
 rw[h1]at h;simp only[af]at h⊢;cases h2:(OB (BG b)).2&&((OB (BG b)).1==b.take (cl b 2).toNat)with|false=>rw[h2]at h;cases h|true=>?_
 simp only[cj,cP]at h1;exact⟨by omega,by omega,rfl⟩
theorem ab2 {a b k:Int}(h:(mJ a b k s).2=true):k=6/\20<=s.length\/k=17/\8<=s.length:=by unfold mJ at h;cases h1:(k==6)&&decide ((s.length:Int)>=20)with|true=>simp only[ab,bm,aE]at h1;exact .inl ⟨h1.1,by omega⟩|false=>rw[h1]at h;simp only[af]at h;cases h2:(k==17)&&decide ((s.length:Int)>=8)with|true=>simp only[ab,bm,aE]at h2;exact .inr ⟨h2.1,by omega⟩|false=>rw[h2]at h;cases h
theorem aaz {t:Bytes}(hl:s.length=t.length)(h:∀i,i<18->bO s i=bO t i)(hs:(gb s).2=true):(gb t).2=true:=by
 have g16:∀a,a+2<=18->cl s ((a:Nat):Int)=cl t ((a:Nat):Int):=λa ha=>D5 hl (h _ (by omega)) (h _ (by omega));have g32:∀a,a+4<=18->fP s ((a:Nat):Int)=fP t ((a:Nat):Int):=λa ha=>TJ hl (λj hj=>h _ (by omega));have e0:yC s 0=yC t 0:=by unfold yC;rw[show(0:Int)=((0:Nat):Int) from rfl,g16 0 (by omega),show((0:Nat):Int)+2=((2:Nat):Int) from rfl,g32 2 (by omega)]
 have e6:yC s 6=yC t 6:=by unfold yC;rw[show(6:Int)=((6:Nat):Int) from rfl,g16 6 (by omega),show((6:Nat):Int)+2=((8:Nat):Int) from rfl,g32 8 (by omega)]
 have e12:cl s 12=cl t 12:=g16 12 (by omega);have e14:cl s 14=cl t 14:=g16 14 (by omega);have e16:cl s 16=cl t 16:=g16 16 (by omega);have b1:pt (DV s)=pt (DV t):=by unfold pt DV;rw[e0,e6,e14,e16];simp only[aP,hl]
 have b2:pt (uT s)=pt (uT t):=by unfold pt uT;rw[e0,e6,e12];simp only[aP,hl]
 unfold gb at hs⊢;rw[hl,e12,b1,b2]at hs;cases h8:decide ((t.length:Int)<18)with|true=>rw[h8]at hs;cases hs|false=>?_
 rw[h8]at hs;cases h12:cl t 12==33024 with
 |true=>rw[h12]at hs;cases hb:pt (DV t)with|true=>rfl|false=>rw[hb]at hs;cases hs
 |false=>rw[h12]at hs;cases hb:pt (uT t)with|true=>rfl|false=>rw[hb]at hs;cases hs
theorem akm {t:Bytes}(ha:Dp s t)(h:(jE s).2=0):TOk t:=by
 have hp:=Aq t;obtain⟨h1,h2,_,h4⟩:=Nr h;have he:=Jo h1;rw[he.1]at h2 h4;have hi:=afd h2;have hs:=ab2 h4;rw[hi.2.2]at hs;have e1:(gb t).2=true:=aaz ha.1 (λi hi=>ha.2 i (by omega)) h1;have e2:=Jo e1;have en:cl (s.drop (dM s)) 2=cl t ((dM t+2:Nat):Int):=by have:cl (s.drop (dM s)) ((2:Nat):Int)=cl s ((dM s+2:Nat):Int):=Mm;rw[show(2:Int)=((2:Nat):Int) from rfl,this,ha.body,ha.alN]
 have ek:(BG (s.drop (dM s))).2.2.2.1=(lj t:Int):=by show(bO (s.drop (dM s)) 9:Int)=_;rw[mq,<-ha.kind];rfl
 have eg:(BG (s.drop (dM s))).2.2.2.2.2.2.length=(cl t ((dM t+2:Nat):Int)).toNat-20:=by show(((s.drop (dM s)).take (cl (s.drop (dM s)) 2).toNat).drop 20).length=_;rw[en,aP,aY];have:=hi.2.1;rw[en]at this;omega
 rw[ek,eg]at hs;rw[en]at hi;have hn:=hi.2.1;rw[aP,ha.1,ha.body]at hn;have hk:=Ik (lj t);exact⟨e1,e2.1,by omega,by omega,by omega⟩
theorem acL {t:Bytes}(h:(lg p).1=t)(hs:cD p=true)(ht:TOk t):cl t (BK t:Int)=0/\cl t (zy t:Int)=0:=by
 unfold lg at h;rw[hs]at h;simp only[ah]at h;have w0:(aU 0).length=2:=rfl;have ha:Dp (mK (cQ p).1 (aU 0) (aU 0)) (cQ p).1:=FY _ (by omega) (by omega);rw[h]at ha;have hp:=Aq t;have DE:=ha.akd;have hl:=ht.l1;have zI:=ha.1;have IX:=ht.n1;have DJ:=ht.n2;have hk:=Ik (lj t);have hB:zy t+2<=t.length:=by omega
 have b0:bO (aU 0) 0=0:=rfl;have b1:bO (aU 0) 1=0:=rfl;rw[uq,uq,mh,aq hB,ah,ah];have eB:∀j,j<2->bO t (zy t+j)=bO (aU 0) j:=by intro j hj;rw[<-h];unfold mK;rw[show zy (vJ (vJ (cQ p).1 (BK (cQ p).1:Int) (aU 0)) (zy (cQ p).1:Int) (aU 0))=zy (cQ p).1 from by have:=DE.2;rw[<-h]at this;exact this];exact ZT (by rw[xX,w0];omega)
 have eA:∀j,j<2->bO t (BK t+j)=bO (aU 0) j:=by intro j hj;rw[<-h];unfold mK;rw[show BK (vJ (vJ (cQ p).1 (BK (cQ p).1:Int) (aU 0)) (zy (cQ p).1:Int) (aU 0))=BK (cQ p).1 from by have:=DE.1;rw[<-h]at this;exact this];rw[Se];exact ZT (by rw[w0];omega)
 have a0:=eA 0 (by omega);have a1:=eA 1 (by omega);have c0:=eB 0 (by omega);have c1:=eB 1 (by omega);rw[dX]at a0 c0;rw[a0,a1,c0,c1,b0,b1];exact⟨rfl,rfl⟩
def AH (t:Bytes):Int:=cl t ((dM t+2:Nat):Int)
def OX (t:Bytes):Int:=KO ((t.take (dM t+20)).drop (dM t))
def Ym (t:Bytes):Bytes:=(t.take (dM t+(AH t).toNat)).drop (dM t+20)
def agI (t:Bytes):Bytes:=vI (fP t ((dM t+12:Nat):Int)) (fP t ((dM t+16:Nat):Int)) (lj t:Int) (AH t-20)
def JM (t:Bytes):Int:=bif ((lj t:Int)==17)&&(KO (agI t++Ym t)==0) then 65535 else KO (agI t++Ym t)
def Zq (t s:Bytes):Bytes×Bool:=bif ((jE s).2==0)&&((lg (jE s).1).1==t) then cQ (jE s).1 else([],false)
def wz (t:Bytes):Bytes×Bool:=Zq t (mK t (aU (OX t)) (aU (JM t)))
theorem Ld {t:Bytes}(h:¬(TOk t/\cl t (BK t:Int)=0/\cl t (zy t:Int)=0)):wz t=([],false):=by
 have ha:Dp (mK t (aU (OX t)) (aU (JM t))) t:=FY t (bN _) (bN _);unfold wz Zq;generalize mK t (aU (OX t)) (aU (JM t))=s at ha⊢;cases h1:(jE s).2==0;rfl;have N9:(jE s).2=0:=by simpa using h1
 cases h2:(lg (jE s).1).1==t;rfl;have SN:(lg (jE s).1).1=t:=eq_of_beq h2;have ht:=akm ha N9;exact absurd ⟨ht,acL SN (Nr N9).2.2.1 ht⟩ h
theorem Iq (t:Bytes)(o n:Nat):(t.drop o).take n=(t.take (o+n)).drop o:=by rw[List.drop_take];congr 1;omega
theorem U3 {t:Bytes}(h1:dM t+20<=t.length)(h2:20<=AH t)(h3:AH t<=(t.length:Int))(h4:t.length<=10^9):xt (fP t ((dM t+12:Nat):Int)) (fP t ((dM t+16:Nat):Int)) (lj t:Int) (AH t-20)=true:=by have a1:=B0 (s:=t) (a:=((dM t+12:Nat):Int));have a2:=B0 (s:=t) (a:=((dM t+16:Nat):Int));have a3:=fB t (dM t+9);have a4:=D6 (s:=t) (a:=((dM t+2:Nat):Int));unfold xt;rw[aX.2 a1,aX.2 a2,aX.2 (show 0<=(lj t:Int)/\(lj t:Int)<=255 by unfold lj;omega),aX.2 (show 0<=AH t-20/\AH t-20<=65535 by unfold AH at*;omega)];rfl
theorem aa3 (t:Bytes)(hl:t.length<=10^9):xe t=some (wz t):=by
 have hp:=Aq t
 have hk:=Ik (lj t)
 have Xf:lj t<256:=fB t (dM t+9)
 have Ea:=C0 t
 unfold xe
 rw[Hx t hl,ae,wH _ _ (by omega),ae]
 cases h1:(gb t).2 with
 |false=>rw[Ld λh=>by have:=h.1.eth;rw[h1]at this;cases this];rfl
 |true=>
 have he:=Jo h1
 rw[he.1]
 simp only[ak,af,ae]
 have en:cl (t.drop (dM t)) 2=AH t:=Mm (a:=2)
 rw[en]
 by_cases h4:AH t<20
 ·rw[aq h4,Ld λh=>by have:=h.1.n1;unfold AH at h4;omega];rfl
 rw[ar h4]
 simp only[af,ae]
 by_cases h5:AH t>((t.drop (dM t)).length:Int)
 ·rw[aq h5,Ld λh=>by have:=h.1.n2;unfold AH at h5;rw[aP]at h5;omega];rfl
 rw[ar h5]
 rw[aP]at h5
 have hdl:(t.drop (dM t)).length=t.length-dM t:=aP ..
 obtain⟨n,hn⟩:=az (show 0<=AH t by omega)
 obtain⟨x,hx,ex⟩:=my (s:=t.drop (dM t)) (i:=9)
 have hx9:idx (t.drop (dM t)) 9=some x:=hx
 have s1:sub (t.drop (dM t)) 0 20=some ((t.take (dM t+20)).drop (dM t)):=by rw[zx,<-Iq];rfl
 have s2:sub (t.drop (dM t)) 20 (AH t)=some (Ym t):=by rw[SA (l:=t.drop (dM t)) 20 (a:=20) rfl,hn,aA,Iq,eO];unfold Ym;rw[hn];rfl
 have hps:=Js (fP t ((dM t+12:Nat):Int)) (fP t ((dM t+16:Nat):Int)) (lj t:Int) (AH t-20)
 have aeq:((Ym t).length:Int)=AH t-20:=by unfold Ym;rw[aP,aY,hn];omega
 have Zy:au ((UInt8.toNat x:Int))=(lj t:Int):=by rw[ex,mq,iU (show bO t (dM t+9)<9223372036854775808 by unfold lj at Xf;omega)];rfl
 have g12:fP (t.drop (dM t)) 12=fP t ((dM t+12:Nat):Int):=Mn (a:=12)
 have g16:fP (t.drop (dM t)) 16=fP t ((dM t+16:Nat):Int):=Mn (a:=16)
 have hw:au ((NM (lj t):Int)+2)=(NM (lj t):Int)+2:=by rw[al]
 simp only[af,ae,HC t hl,s1,s2,hx9,zJ _ _ (show(t.drop (dM t)).length<=10^9 by omega),Zy,ML,aeq,g12,g16,U3 (show dM t+20<=t.length by omega) (show 20<=AH t by omega) (show AH t<=(t.length:Int) by omega) hl,ah,ak,I4 _ Xf,hw]
 rw[show vI (fP t ((dM t+12:Nat):Int)) (fP t ((dM t+16:Nat):Int)) (lj t:Int) (AH t-20)=agI t from rfl]at hps⊢
 by_cases h6:(NM (lj t):Int)+2>AH t-20
 ·rw[aq h6,Ld λh=>by have:=h.1.n1;unfold AH at h6;omega];rfl
 rw[ar h6]
 simp only[af]
 have hck:((t.take (dM t+20)).drop (dM t)).length<=10^9:=by rw[aP,aY];omega
 rw[bg,Lk _ (by rw[aj];omega),ae]
 have qJ:∀y:Int,JM t=y->(aa (jS ((t.take (dM t+20)).drop (dM t))) λr25=>aa (cx r25) λr26=>aa (gB t (BK t:Int) r26) λr27=>aa (cx y) λr28=>aa (gB r27 (zy t:Int) r28) λr29=>aa (jr r29) λZW=>aa (mW ZW.1) λr31=>
  aa (bif ZW.2 !=0 then some true else bif !r31.2 then some true else some (!(r31.1==t))) λq32=>bif q32 then some (([]:Bytes),false) else aa (iQ ZW.1) λr33=>some r33)=some (wz t):=by
  intro y hy
  subst hy
  have b1:=bN (OX t)
  have b2:=bN (JM t)
  rw[Lk _ hck,ae,show KO ((t.take (dM t+20)).drop (dM t))=OX t from rfl]
  rw[lK,ae,CL t _ _ hl,ae,lK,ae,CL _ _ _ (by rw[xX];exact hl),ae]
  have hlen:=Ew t (aU (OX t)) (aU (JM t))
  unfold wz
  rw[show vJ (vJ t (BK t:Int) (aU (OX t))) (zy t:Int) (aU (JM t))=mK t (aU (OX t)) (aU (JM t)) from rfl]
  generalize mK t (aU (OX t)) (aU (JM t))=s at hlen⊢
  simp only[Fh s (by omega),ae,PT,Fg,Zq,bne]
  cases h1:(jE s).2==0;rfl
  have ZA:=(Nr (show(jE s).2=0 by simpa using h1)).2.2.1
  have h2:(lg (jE s).1).2=true:=by unfold lg;rw[ZA];rfl
  rw[h2]
  cases (lg (jE s).1).1==t<;>rfl
 cases h8:(lj t:Int)==17 with
 |false=>exact qJ _ (by unfold JM;rw[h8];rfl)
 |true=>
  simp only[ah,ae]
  cases h7:KO (agI t++Ym t)==0 with
  |false=>exact qJ _ (by unfold JM;rw[h7,ee];rfl)
  |true=>exact qJ _ (by unfold JM;rw[h7,h8];rfl)
theorem aaD (t:Bytes):(wz t).1.length<=378:=by unfold wz Zq;generalize mK t (aU (OX t)) (aU (JM t))=s;cases ((jE s).2==0)&&((lg (jE s).1).1==t)with|false=>exact cq _|true=>exact nO _
theorem LO (l:ay aG)(m:cg)(d:Int):∀(n:Nat)(acc:ay Dm)(r:mR),(qN l m d n acc r).1.length<=acc.length+n
 |0,acc,r=>aV _
 |n+1,acc,r=>by
  rw[qN];cases !(bq l m d r).2.2|| !(cJ (bq l m d r).1).2;case true=>exact cq _
  cases FB (cJ (bq l m d r).1).1 with|true=>simp only[af,ah,aj,bB];omega|false=>have:=LO l m d n (acc++[(cJ (bq l m d r).1).1]) (bq l m d r).2.1;simp only[aj,bB]at this;simp only[af];omega
theorem Yk (h:dx r=true):dx (r.1,r.2.1,r.2.2.2,r.2.2.2)=true/\bL (r.1,r.2.1,r.2.2.2,r.2.2.2)=0:=by
 have hr:=ma h;have hq:=h;simp only[dx,ab,aE]at hq;have hu:bL (r.1,r.2.1,r.2.2.2,r.2.2.2)=0:=by unfold bL;simp only[Int.sub_self,Int.zero_emod,ite_self]
 refine⟨?_,hu⟩;simp only[dx,ab,aE,aX,hu,hq.2.1,true_and];omega
theorem JV (l:ay aG)(m:cg)(d:Int):∀(n:Nat)(acc:ay Dm)(r:mR),dx r=true->(bL r).toNat=n->
 dx (qN l m d n acc r).2.1=true/\bL (qN l m d n acc r).2.1<=bL r/\(0<bL r->bL (qN l m d n acc r).2.1<bL r)
 |0,acc,r,hb,hu=>⟨hb,eT _,λh=>by omega⟩
 |n+1,acc,r,hb,hu=>by have hk:=EL (l:=l) (m:=m) (d:=d) (r:=r);have he:=Yk hb;rw[qN];cases hc: !(bq l m d r).2.2|| !(cJ (bq l m d r).1).2 with|true=>exact⟨he.1,by show bL (r.1,r.2.1,r.2.2.2,r.2.2.2)<=_;rw[he.2];omega,λ_=>by show bL (r.1,r.2.1,r.2.2.2,r.2.2.2)<_;rw[he.2];omega⟩|false=>simp only[cj,dV]at hc;have hk:=hk hc.1;cases FB (cJ (bq l m d r).1).1 with|true=>exact⟨hk.1,by show bL (bq l m d r).2.1<=_;omega,λ_=>by show bL (bq l m d r).2.1<_;omega⟩|false=>have:=JV l m d n (acc++[(cJ (bq l m d r).1).1]) (bq l m d r).2.1 hk.1 (by omega);simp only[af];exact⟨this.1,by omega,λ_=>by omega⟩
def hU (l:ay aG)(m:cg)(d:Int)(r:mR):mR×cg×Int:=
 bif !dx r||(bL r==0) then(r,[],0) else
 bif !(dg l m d r).2.2|| !(fC (dg l m d r).1).2.2.2 then((dg l m d r).2.1,[],2) else
 bif !(kT l m d (fC (dg l m d r).1).1).2||(!(wz (kT l m d (fC (dg l m d r).1).1).1).2||((jE (wz (kT l m d (fC (dg l m d r).1).1).1).1).2 !=0)) then((dg l m d r).2.1,[],2) else
 ((dg l m d r).2.1,Vm (jE (wz (kT l m d (fC (dg l m d r).1).1).1).1).1 (fC (dg l m d r).1).2.1,1)
theorem Xw (l:ay aG)(m:cg)(d:Int)(r:mR)(hl:l.length<=10^9)(hm:m.length<=10^9):qw l m d r=some (hU l m d r):=by
 unfold qw hU;simp only[xL,Af,ae,OA l m d r hl hm];cases hb:dx r;rfl;cases bL r==0;case true=>rfl
 have hu:=xY hb;have hcl:(dg l m d r).1.length<=16:=by unfold dg;cases !dx r||(bL r==0)with|true=>exact cq _|false=>have:=LO l m d (bL r).toNat [] r;simp only[dv]at this;show(qN l m d (bL r).toNat [] r).1.length<=16;omega
 simp only[ak,af,ae,bG];generalize dg l m d r=c at hcl⊢;cases c.2.2;rfl;simp only[ak,af,ae,cd,RX c.1 (show c.1.length<=10^9 by omega)];have hpo:=UZ (l:=c.1);generalize fC c.1=p at hpo⊢;cases hp:p.2.2.2;rfl;have hpo:=hpo hp;have SM:=(Jp hpo.1).1;have hg:=TI l m d p.1;simp only[ak,af,ae,cd,Xs l m d p.1 hl hm (show p.1.length<=10^9 by omega) (λq hq=>Int.le_trans (hpo.2 q hq) (by omega))];generalize kT l m d p.1=g at hg⊢;cases g.2;rfl;have hf:=aaD g.1;simp only[ak,af,ae,cd,aa3 g.1 hg];generalize wz g.1=f at hf⊢;cases f.2;rfl;simp only[ak,af,ae,cd,Fh f.1 (show f.1.length<=10^9 by omega)];generalize jE f.1=i;cases i.2 !=0;case true=>rfl
 simp only[af,aeJ,ae]
theorem P9 (l:ay aG)(m:cg)(d:Int)(r:mR): ((hU l m d r).2.2=0->(hU l m d r).1=r)/\((hU l m d r).2.2≠0->0<bL r/\dx r=true/\dx (hU l m d r).1=true/\bL (hU l m d r).1<bL r)/\(hU l m d r).2.1.length<=320/\(∀x∈(hU l m d r).2.1,x.length<=382)/\((hU l m d r).2.2=0\/(hU l m d r).2.2=1\/(hU l m d r).2.2=2):=by
 unfold hU;cases hc: !dx r||(bL r==0)with
 |true=>exact⟨λ_=>rfl,λh=>absurd rfl h,cq _,(λx hx=>by cases hx),.inl rfl⟩
 |false=>
  simp only[cj,dV,cu]at hc;have hu:=xY hc.1;have hch:dx (dg l m d r).2.1=true/\bL (dg l m d r).2.1<bL r:=by have:=JV l m d (bL r).toNat [] r hc.1 rfl;unfold dg;rw[show(!dx r||(bL r==0))=false from by rw[hc.1];simpa using hc.2];exact⟨this.1,this.2.2 (by omega)⟩
  cases !(dg l m d r).2.2|| !(fC (dg l m d r).1).2.2.2 with|true=>exact⟨(λh=>by cases h),λ_=>⟨by omega,hc.1,hch⟩,cq _,(λx hx=>by cases hx),.inr (.inr rfl)⟩|false=>cases !(kT l m d (fC (dg l m d r).1).1).2||(!(wz (kT l m d (fC (dg l m d r).1).1).1).2||((jE (wz (kT l m d (fC (dg l m d r).1).1).1).1).2 !=0))with|true=>exact⟨(λh=>by cases h),λ_=>⟨by omega,hc.1,hch⟩,cq _,(λx hx=>by cases hx),.inr (.inr rfl)⟩|false=>have hs:=acs (jE (wz (kT l m d (fC (dg l m d r).1).1).1).1).1 (fC (dg l m d r).1).2.1;exact⟨(λh=>by cases h),λ_=>⟨by omega,hc.1,hch⟩,hs.1,hs.2,.inr (.inl rfl)⟩
def ng (l:ay aG)(m:cg)(d:Int):Nat->cg->Nat->Nat->mR->mR×cg×Int×Int
 |0,fr,dn,bd,r=>(r,fr,(dn:Int),(bd:Int))
 |n+1,fr,dn,bd,r=>
  bif (hU l m d r).2.2==0 then(r,fr,(dn:Int),(bd:Int)) else
  bif (hU l m d r).2.2==1 then ng l m d n (fr++(hU l m d r).2.1) (dn+1) bd (hU l m d r).1 else
  ng l m d n (fr++(hU l m d r).2.1) dn (bd+1) (hU l m d r).1
def rn (l:ay aG)(m:cg)(d:Int)(r:mR):mR×cg×Int×Int:=ng l m d 17 [] 0 0 r
theorem Gp (l:ay aG)(m:cg)(d:Int)(hl:l.length<=10^9)(hm:m.length<=10^9):∀(n:Nat)(fr:cg)(dn bd:Nat)(r:mR)(f:Nat),n<f->(dx r=true->bL r<n)->0<n->fr.length+320*n<=10000->dn+bd+n<=1000->
 bt (nz (λy2 y3 y4 _ _ _ _ y9=>some (y9,y2,y3,y4)) l d ([]:cg) 0 0 m (0,0,0,0)) f (fr,(dn:Int),(bd:Int),r)=some (ng l m d n fr dn bd r)
 |0,fr,dn,bd,r,f,_,_,h0,_,_=>by omega
 |n+1,fr,dn,bd,r,0,hf,_,_,_,_=>by omega
 |n+1,fr,dn,bd,r,f+1,hf,hr,_,jQ,hc=>by have ok:=P9 l m d r;rw[bt,ng];simp only[nz,Xw l m d r hl hm,ae];generalize hU l m d r=x at ok⊢;cases h0:x.2.2==0 with|true=>simp only[ah,ok.1 (by simpa using h0)]|false=>have hk:=ok.2.1 (by simpa using h0);have hu:=hr hk.2.1;have hu2:=(xY hk.2.2.1).1;simp only[af];cases x.2.2==1 with|true=>simp only[ah];rw[bg,al];exact Gp l m d hl hm n _ (dn+1) bd _ f (by omega) (λ_=>by omega) (by omega) (by rw[aj];omega) (by omega)|false=>simp only[af];rw[bg,al];exact Gp l m d hl hm n _ dn (bd+1) _ f (by omega) (λ_=>by omega) (by omega) (by rw[aj];omega) (by omega)
theorem abj (l:ay aG)(m:cg)(d:Int)(r:mR)(hl:l.length<=10^9)(hm:m.length<=10^9):rR l m d r=some (rn l m d r):=by have B9:=eS;unfold rR;exact Gp l m d hl hm 17 [] 0 0 r fuel (by omega) (λh=>by have:=(xY h).2;omega) (by omega) (by simp) (by omega)
theorem Fv (l:ay aG)(m:cg)(d:Int):∀(n:Nat)(fr:cg)(dn bd:Nat)(r:mR),(∀x∈fr,x.length<=382)->
 (ng l m d n fr dn bd r).2.1.length<=fr.length+320*n/\(∀x∈(ng l m d n fr dn bd r).2.1,x.length<=382)/\0<=(ng l m d n fr dn bd r).2.2.1/\(ng l m d n fr dn bd r).2.2.1<=(dn+n:Nat)/\0<=(ng l m d n fr dn bd r).2.2.2/\(ng l m d n fr dn bd r).2.2.2<=(bd+n:Nat)
 |0,fr,dn,bd,r,h=>⟨aV _,h,by show(0:Int)<=(dn:Int);omega,by show(dn:Int)<=_;omega,by show(0:Int)<=(bd:Int);omega,by show(bd:Int)<=_;omega⟩
 |n+1,fr,dn,bd,r,h=>by
  have ok:=P9 l m d r;rw[ng];generalize hU l m d r=x at ok⊢;have h2:∀y∈fr++x.2.1,y.length<=382:=λy hy=>by rcases ax.1 hy with g|g;exact h y g;exact ok.2.2.2.1 y g
  cases x.2.2==0 with|true=>exact⟨by show fr.length<=_;omega,h,by show(0:Int)<=(dn:Int);omega,by show(dn:Int)<=_;omega,by show(0:Int)<=(bd:Int);omega,by show(bd:Int)<=_;omega⟩|false=>cases x.2.2==1 with|true=>have i:=Fv l m d n (fr++x.2.1) (dn+1) bd x.1 h2;rw[aj]at i;simp only[af,ah];exact⟨by omega,i.2.1,i.2.2.1,by omega,i.2.2.2.2.1,by omega⟩|false=>have i:=Fv l m d n (fr++x.2.1) dn (bd+1) x.1 h2;rw[aj]at i;simp only[af,ah];exact⟨by omega,i.2.1,i.2.2.1,by omega,i.2.2.2.2.1,by omega⟩
structure AI (n:Nat) (h:Host):Prop where
 z:eI n gI h
 t:h.2.2.1.2.1.2.2.2.length+(bI h.2.2.1.2.2.1).length<=n
theorem AI.mono {m:Nat}(k:AI n h)(hn:n<=m:=by omega):AI m h:=⟨k.z.mono hn,bT k.t hn⟩
theorem AI.sz (k:AI n h)(hn:n<=10^9):QP h:=by have z:eI 1000000000 gI h:=k.z.mono hn;exact⟨z.1.1,z.2.1.1,z.2.2.1.2.2.1.1,bT k.t hn,z.2.2.2.2.2.2.2.1.2.2.1,z.2.2.2.2.2.2.2.2.1.1.1,z.2.2.2.2.2.2.2.2.1.2.1.1,z.2.2.2.2.2.2.2.2.1.2.2.2.1,λp hp=>(z.2.2.2.2.1.2 p hp).2.2.2.1⟩
theorem AI.of (k:V3 gI h<=1048576):AI 1048576 h:=by
 refine⟨Lr k,?_⟩;have hb:=YX h.2.2.1.2.2.1;have h1:V3 nJ h.2.2.1<=V3 gI h:=by simp only[V3];omega
 have hp:h.2.2.1.2.1.2.2.2.length+V3 (.sl jW) h.2.2.1.2.2.1<=V3 nJ h.2.2.1:=by simp only[V3];omega
 omega
def nj (p:cX):ay oJ->cX
 |[]=>p
 |x::l=>nj (Aa p x.2.2).1 l
theorem IU:∀(l:ay oJ)(p:cX),(nj p l).2.2.2.length<=p.2.2.2.length+(bI l).length
 |[],p=>by simp[nj]
 |x::l,p=>by have h1:=TL p x.2.2;have h2:=IU l (Aa p x.2.2).1;simp only[nj,bI,List.flatMap_cons,aj]at h2⊢;omega
theorem PA:∀(l:ay oJ)(p:cX)(x:oJ),nj p (l++[x])=(Aa (nj p l) x.2.2).1
 |[],p,x=>rfl
 |y::l,p,x=>by rw[gO,nj,nj,PA l]
theorem S8 (a b:ay oJ):(bI (a++b)).length=(bI a).length+(bI b).length:=by simp only[bI,List.flatMap_append,aj]
theorem S9 (l:ay oJ)(n:Nat):(bI (l.take n)).length+(bI (l.drop n)).length=(bI l).length:=by rw[<-S8,cz]
def lu (t:eM)(n:Int):eM×dB:=
 bif Od t&&dF n 0 (t.2.2.1.length:Int) then((t.1,nj t.2.1 (t.2.2.1.take n.toNat),t.2.2.1.drop n.toNat,t.2.2.2),(t.2.2.1.take n.toNat).map (·.1)) else(t,[])
theorem ahB {l:ay oJ}(h:(bI l).length<=10^9):∀x∈l,x.2.2.length<=10^9:=by intro x hx;induction l with|nil=>cases hx|cons y l ih=>simp only[bI,List.flatMap_cons,aj]at h;rcases cw.1 hx with rfl|g;omega;exact ih (by simp only[bI];omega) g
theorem RR (t:eM)(n:Int)(hw:t.2.2.1.length<=10^9)(hs:t.2.1.2.2.2.length+(bI t.2.2.1).length<=10^9):mz t n=some (lu t n):=by
 have hx:=ahB (l:=t.2.2.1) (by omega);unfold mz lu;rw[Gm t ⟨by omega,hw,hx⟩,ae,XA t hw hs];simp only[ae,dw];cases Od t;rfl;cases hn:dF n 0 (t.2.2.1.length:Int);rfl;have h:=aX.1 hn;obtain⟨n,rfl⟩:=az h.1;have hl:n<=t.2.2.1.length:=by omega
 simp only[ak,af,ae,cY,ah,aA];rw[zx,ae,aA];have htl:(t.2.2.1.take n).length=n:=by rw[aY];omega
 rw[htl];refine fW (λi=>(((t.2.2.1.take i).map (·.1),(i:Int),t.1,nj t.2.1 (t.2.2.1.take i),t.2.2):dB×Int×eM)) n (by omega) (λi nx hi=>?_) (λnx=>?_);have hi2:i<(t.2.2.1.take n).length:=by omega
 have hi3:i<t.2.2.1.length:=by omega
 have e1:(t.2.2.1.take n)[i]=t.2.2.1[i]:=List.getElem_take ..;have g1:=IU (t.2.2.1.take i) t.2.1;have g2:=S9 t.2.2.1 (i+1);have g3:(bI (t.2.2.1.take (i+1))).length=(bI (t.2.2.1.take i)).length+t.2.2.1[i].2.2.length:=by rw[bV hi3,S8];simp[bI]
 simp only[ku];rw[mh,ah,bS hi2,e1,ae,MJ _ _ (by omega),ae,bg (by simp only[cI,aY,bB];omega),al,bV hi3,PA,cp];rfl;simp only[ku];rw[du,af,wg (l:=t.2.2.1) n hl rfl,ae,Ht _ (by rw[aP];omega) (λx AG=>hx x (List.mem_of_mem_drop AG)),ae]
theorem Pd (n:Int):∀l:ay oJ,l.all (oX n)=true->(l.length:Int)<=eG l
 |[],_=>by simp[eG]
 |x::l,h=>by simp only[cv,ab]at h;have:=Pd n l h.2;have hx:=h.1;unfold oX at hx;simp only[ab,aX]at hx;simp only[eG,cZ,List.sum_cons,aS]at this⊢;omega
theorem N2 (h:Od t=true):t.2.2.1.length<=16:=by unfold Od at h;simp only[ab,aE]at h;have h1:=Pd _ _ h.2.2.2.1;have h2:=(ma h.1).2.2.1;have h3:=h.2.2.2.2.2;omega
theorem G4 (n:Int)(z:eI k nJ t)(hs:t.2.1.2.2.2.length+(bI t.2.2.1).length<=k): eI k nJ (lu t n).1/\(lu t n).1.2.1.2.2.2.length+(bI (lu t n).1.2.2.1).length<=k/\(lu t n).2.length<=16:=by unfold lu;cases h:Od t&&dF n 0 (t.2.2.1.length:Int)with|false=>exact⟨z,hs,cq _⟩|true=>simp only[ab]at h;have SM:=N2 h.1;have g1:=IU (t.2.2.1.take n.toNat) t.2.1;have g2:=S9 t.2.2.1 n.toNat;have hw:t.2.2.1.length<=k:=z.2.2.1.1;refine⟨⟨z.1,⟨dq,dq,dq,?_,λ_ _=>trivial⟩,⟨?_,λx hx=>z.2.2.1.2 x (List.mem_of_mem_drop hx)⟩,z.2.2.2⟩,?_,?_⟩;show(nj t.2.1 (t.2.2.1.take n.toNat)).2.2.2.length<=k;omega;show(t.2.2.1.drop n.toNat).length<=k;rw[aP];omega;show(nj t.2.1 (t.2.2.1.take n.toNat)).2.2.2.length+(bI (t.2.2.1.drop n.toNat)).length<=k;omega;show((t.2.2.1.take n.toNat).map (·.1)).length<=16;rw[cI,aY];omega
theorem I9 {t:CT}{l q:ay t.D}(z:eI n (.sl t) l)(hq:∀y∈q,eI n t y)(hk:q.length<=k):eI (n+k) (.sl t) (l++q):=by refine⟨?_,λy hy=>?_⟩;show(l++q).length<=n+k;have:=z.1;rw[aj];omega;rcases ax.1 hy with h|h;exact(z.2 y h).mono;exact(hq y h).mono
def dH (h:Host):Host:=bif fU h then
    (h.1,h.2.1,(lu ((rn h.2.1 h.1 0 h.2.2.1.1).1,h.2.2.1.2) (if(h.2.2.1.2.2.1.length:Int)<au ((rn h.2.1 h.1 0 h.2.2.1.1).2.2.1+(rn h.2.1 h.1 0 h.2.2.1.1).2.2.2) then(h.2.2.1.2.2.1.length:Int) else au ((rn h.2.1 h.1 0 h.2.2.1.1).2.2.1+(rn h.2.1 h.1 0 h.2.2.1.1).2.2.2))).1,
      h.2.2.2.1,h.2.2.2.2.1,h.2.2.2.2.2.1,h.2.2.2.2.2.2.1,h.2.2.2.2.2.2.2.1,h.2.2.2.2.2.2.2.2.1,h.2.2.2.2.2.2.2.2.2.1,h.2.2.2.2.2.2.2.2.2.2.1,h.2.2.2.2.2.2.2.2.2.2.2.1++(rn h.2.1 h.1 0 h.2.2.1.1).2.1,
      h.2.2.2.2.2.2.2.2.2.2.2.2.1++(lu ((rn h.2.1 h.1 0 h.2.2.1.1).1,h.2.2.1.2) (if(h.2.2.1.2.2.1.length:Int)<au ((rn h.2.1 h.1 0 h.2.2.1.1).2.2.1+(rn h.2.1 h.1 0 h.2.2.1.1).2.2.2) then(h.2.2.1.2.2.1.length:Int) else au ((rn h.2.1 h.1 0 h.2.2.1.1).2.2.1+(rn h.2.1 h.1 0 h.2.2.1.1).2.2.2))).2,h.2.2.2.2.2.2.2.2.2.2.2.2.2) else h
theorem HE (h:Host)(k:AI 900000000 h):mD h=some (dH h):=by have z:eI 1000000000 gI h:=k.z.mono;have hz:=k.sz (by omega);have hm:h.1.length<=900000000:=k.z.1.1;have hl:h.2.1.length<=900000000:=k.z.2.1.1;have hw:h.2.2.1.2.2.1.length<=900000000:=k.z.2.2.1.2.2.1.1;have hwi:h.2.2.2.2.2.2.2.2.2.2.2.1.length<=900000000:=k.z.2.2.2.2.2.2.2.2.2.2.2.1.1;have hco:h.2.2.2.2.2.2.2.2.2.2.2.2.1.length<=900000000:=k.z.2.2.2.2.2.2.2.2.2.2.2.2.1.1;have hA:=Fv h.2.1 h.1 0 17 [] 0 0 h.2.2.1.1 (λx hx=>by cases hx);unfold mD dH;rw[jR h z,ae,sO h hz,ae];cases fU h;rfl;simp only[ak,af,ah,abj h.2.1 h.1 0 _ (show h.2.1.length<=10^9 by omega) (show h.1.length<=10^9 by omega),ae];rw[show ng h.2.1 h.1 0 17 [] 0 0 h.2.2.1.1=rn h.2.1 h.1 0 h.2.2.1.1 from rfl]at hA;generalize rn h.2.1 h.1 0 h.2.2.1.1=x at hA⊢;simp only[dv]at hA;have hC:=G4 (k:=900000000) (t:=(x.1,h.2.2.1.2)) (if(h.2.2.1.2.2.1.length:Int)<au (x.2.2.1+x.2.2.2) then(h.2.2.1.2.2.1.length:Int) else au (x.2.2.1+x.2.2.2)) ⟨⟨dq,dq,dq,dq⟩,k.z.2.2.1.2⟩ k.t;rw[bg,RR (x.1,h.2.2.1.2) _ (by show h.2.2.1.2.2.1.length<=_;omega) (bT k.t (by omega)),ae,bg]
theorem Dh (hn:400<=n)(k:AI n h):AI (n+5440) (dH h):=by have k':AI (n+5440) h:=k.mono;have hA:=Fv h.2.1 h.1 0 17 [] 0 0 h.2.2.1.1 (λx hx=>by cases hx);unfold dH;cases fU h;exact k';rw[show ng h.2.1 h.1 0 17 [] 0 0 h.2.2.1.1=rn h.2.1 h.1 0 h.2.2.1.1 from rfl]at hA;generalize rn h.2.1 h.1 0 h.2.2.1.1=x at hA⊢;simp only[dv]at hA;generalize (if(h.2.2.1.2.2.1.length:Int)<au (x.2.2.1+x.2.2.2) then(h.2.2.1.2.2.1.length:Int) else au (x.2.2.1+x.2.2.2))=q;have hC:=G4 (k:=n) (t:=(x.1,h.2.2.1.2)) q ⟨⟨dq,dq,dq,dq⟩,k.z.2.2.1.2⟩ k.t;have z:=k'.z;refine⟨⟨z.1,z.2.1,hC.1.mono,z.2.2.2.1,z.2.2.2.2.1,z.2.2.2.2.2.1,z.2.2.2.2.2.2.1,z.2.2.2.2.2.2.2.1,z.2.2.2.2.2.2.2.2.1,z.2.2.2.2.2.2.2.2.2.1,dq,?_,?_,z.2.2.2.2.2.2.2.2.2.2.2.2.2⟩,bT hC.2.1 (by omega)⟩;exact I9 (t:=.str) (n:=n) (k:=5440) k.z.2.2.2.2.2.2.2.2.2.2.2.1 (λy hy=>by show y.length<=_;have:=hA.2.1 y hy;omega) (by omega);exact(I9 (t:=.int .i64) (n:=n) (k:=16) k.z.2.2.2.2.2.2.2.2.2.2.2.2.1 (λ_ _=>trivial) hC.2.2).mono
def evS (k:Nat)(h:Host):Host:=
 match h.2.2.2.2.2.1[k]? with
 |some v=>(h.1,h.2.1,h.2.2.1,h.2.2.2.1,h.2.2.2.2.1,h.2.2.2.2.2.1.set k (evV v),h.2.2.2.2.2.2)
 |none=>h
def WZ (k:Nat):Nat->Host->Host
 |0,h=>h
 |i+1,h=>evS k (WZ k i h)
theorem ad2 (k:Nat)(h:Host):lE (k+1) h (evS k h):=by unfold evS;cases h.2.2.2.2.2.1[k]? with|none=>exact lE.refl _ _|some v=>exact⟨rfl,rfl,rfl,rfl,λ_ _=>rfl,rfl,aK ..,λj hj=>aJ (by omega),rfl,rfl,rfl⟩
theorem L6 (k:Nat)(h:Host):∀i,lE (k+1) h (WZ k i h)
 |0=>lE.refl _ _
 |i+1=>(L6 k h i).trans (ad2 k _)
theorem agE (k:Nat)(z:eI n gI h):eI n gI (evS k h):=by unfold evS;cases h.2.2.2.2.2.1[k]? with|none=>exact z|some v=>exact⟨z.1,z.2.1,z.2.2.1,z.2.2.2.1,z.2.2.2.2.1,Lu z.2.2.2.2.2.1,z.2.2.2.2.2.2⟩
theorem Zm (k:Nat)(z:eI n gI h):∀i,eI n gI (WZ k i h)
 |0=>z
 |i+1=>agE k (Zm k z i)
theorem Xm (h:Host)(k:Nat)(b:Int)(h1:k<h.2.2.2.1.length)(h2:k<h.2.2.2.2.2.1.length)(hq:gw h.2.2.2.1[k].2.1=true)(hb:0<=b/\b<=31):lO h (k:Int) b=some ((),WZ k ((h.2.2.2.1[k].2.1.2.2-b)%(2*h.2.2.2.1[k].2.1.2.1)).toNat h):=by
 have B9:=eS;have q:=vK hq;unfold lO;rw[bS h1,ae];generalize h.2.2.2.1[k]=x at q⊢;rw[al (n:=x.2.1.2.2-b),al (n:=2*x.2.1.2.1),Jf _ _,ae];have hm:0<=(x.2.1.2.2-b)%(2*x.2.1.2.1)/\(x.2.1.2.2-b)%(2*x.2.1.2.1)<32:=by have g1:=fF (x.2.1.2.2-b) (show 2*x.2.1.2.1≠0 by omega);have g2:=fH (x.2.1.2.2-b) (show 0<2*x.2.1.2.1 by omega);omega
 generalize (x.2.1.2.2-b)%(2*x.2.1.2.1)=c at hm⊢;obtain⟨c,rfl⟩:=az hm.1;rw[aA];have e0:((c:Int),h)=(((c:Int)-((0:Nat):Int)),WZ k 0 h):=by simp[WZ]
 rw[e0];refine fW (λi=>((c:Int)-(i:Int),WZ k i h)) c (by omega) (λi nx hi=>?_) (λnx=>?_);have kk:=L6 k h i;have i1:k<(WZ k i h).2.2.2.2.2.1.length:=by rw[kk.vec];exact h2
 rw[show WZ k (i+1) h=evS k (WZ k i h) from rfl];generalize WZ k i h=s at i1⊢;simp only[qx,evS];rw[mh,ah,aw i1];simp only[bS i1,ae,aaY,aA];rw[al,show(c:Int)-(i:Int)-1=(c:Int)-((i+1:Nat):Int) by omega];simp only[qx];rw[du,af]
def Ev (h:Host)(k:Nat)(f:cg×bC):Host:=(f.1,h.2.1,h.2.2.1,h.2.2.2.1.set k f.2,h.2.2.2.2)
def wi (h:Host)(k:Nat)(b:Int)(f:cg×bC):Host:=WZ k ((f.2.2.1.2.2-b)%(2*f.2.2.1.2.1)).toNat (Ev h k f)
def gS (k:Nat)(h:Host):Host:=
 match h.2.2.2.1[k]? with
 |some x=>wi h k x.2.1.2.2 (gz h.2.1 h.1 0 x h.2.2.2.2.2.2.2.2.1.2.2.1)
 |none=>h
theorem ET {b:Int}(hf:f.1.length=h.1.length):lE (k+1) h (wi h k b f):=by
 have a:lE (k+1) h (Ev h k f):=⟨hf,rfl,rfl,aK ..,λj hj=>aJ (by omega),rfl,rfl,λ_ _=>rfl,rfl,rfl,rfl⟩
 exact a.trans (L6 k (Ev h k f) _)
theorem N7 {b:Int}(z:eI n gI h)(h1:eI n (.sl .str) f.1)(h2:eI n dZ f.2):eI n gI (wi h k b f):=by
 have a:eI n gI (Ev h k f):=⟨h1,z.2.1,z.2.2.1,Ch z.2.2.2.1 h2,z.2.2.2.2⟩
 exact Zm k a _
theorem TF {k:Bytes}:(gz l m d q k).1.length=m.length:=by
 have hs:(gh l m d q k (bq l m d q.1).1).1.length=m.length:=by
  unfold gh;cases !(cJ (bq l m d q.1).1).2||(((cJ (bq l m d q.1).1).1.1 !=3)||decide ((cJ (bq l m d q.1).1).1.2.2.1<((cQ q.2.2.2.1.1).1.length:Int)));case true=>rfl
  cases (gT l m d (cJ (bq l m d q.1).1).1.2.2.2.1 (cQ q.2.2.2.1.1).1 true).2;rfl;have h2:=lR l m d (cJ (bq l m d q.1).1).1.2.2.2.1 (cQ q.2.2.2.1.1).1 true;simp only[af,ak];unfold rf;cases !gw q.2.1|| !qb ((cJ (bq l m d q.1).1).1.2.2.2.2.2,((cQ q.2.2.2.1.1).1.length:Int),q.2.2.2.1.2.1,q.2.2.2.1.2.2,sL k (oK (dm q.2.2.2.1.1)));case true=>exact h2
  cases (gT l (gT l m d (cJ (bq l m d q.1).1).1.2.2.2.1 (cQ q.2.2.2.1.1).1 true).1 d (rj q.2.1) (Ha ((cJ (bq l m d q.1).1).1.2.2.2.2.2,((cQ q.2.2.2.1.1).1.length:Int),q.2.2.2.1.2.1,q.2.2.2.1.2.2,sL k (oK (dm q.2.2.2.1.1))) (ym q.2.1)) true).2 with|false=>exact h2|true=>exact(lR ..).trans h2
 unfold gz;cases !BP q||(!q.2.2.2.2.1||((k.length:Int) !=16));case true=>rfl
 cases (bq l m d q.1).2.2&&(gh l m d q k (bq l m d q.1).1).2.2 with|true=>exact hs|false=>rfl
theorem qQ (k:Nat)(h:Host):lE (k+1) h (gS k h):=by unfold gS;cases h.2.2.2.1[k]? with|none=>exact lE.refl _ _|some x=>exact ET TF
theorem Mk (k:Nat)(h:Host)(n:Nat)(hn:1000<=n)(z:eI n gI h):eI (n+0) gI (gS k h):=by unfold gS;cases hx:h.2.2.2.1[k]? with|none=>exact z|some x=>have hf:=E9 (show 128<=n by omega) (l:=h.2.1) (d:=0) (k:=h.2.2.2.2.2.2.2.2.1.2.2.1) z.1 (z.2.2.2.1.2 _ (aZ hx));exact N7 z hf.1 hf.2.2.1
def kR (h:Host):Host:=bif fU h then fT gS h.2.2.2.1.length h else h
theorem IS (hn:1000<=n)(k:AI n h):AI n (kR h):=by unfold kR;cases fU h with|false=>exact k|true=>refine⟨(Db hn Mk k.z _).mono,?_⟩;simp only[ah];rw[(oz qQ h _).tx];exact k.t
theorem Gk (hb:fU h=true):∀i (hi:i<h.2.2.2.1.length),BP h.2.2.2.1[i]=true:=by simp only[fU,Ve,ab]at hb;exact λi hi=>aL.1 hb.2.2.2.2.2.2.1.1 _ (bE hi)
theorem KL {b:Int}(h1:k<h.2.2.2.1.length)(h2:k<h.2.2.2.2.2.1.length)(hq:gw f.2.2.1=true)(hb:0<=b/\b<=31:=by omega): lO (f.1,h.2.1,h.2.2.1,h.2.2.2.1.set k f.2,h.2.2.2.2) (k:Int) b=some ((),wi h k b f):=by
 have h3:k<(Ev h k f).2.2.2.1.length:=by show k<(h.2.2.2.1.set k f.2).length;rw[aK];exact h1
 have e:(Ev h k f).2.2.2.1[k]=f.2:=List.getElem_set_self _;have a:=Xm (Ev h k f) k b h3 h2 (by rw[e];exact hq) hb;rw[e]at a;exact a
theorem MI (h:Host)(k:AI 900000000 h):qT h=some (kR h):=by
 have B9:=eS;unfold qT kR;rw[jR h (k.z.mono),ae,sO h (k.sz (by omega)),ae];cases hb:fU h;rfl;have hl:=vD (by simp only[fU,ab]at hb;exact hb.2.2.2.2.1:tc h=true);have hr:=Gk hb;simp only[ak,af,ah];refine fW (λi=>((i:Int),fT gS i h)) h.2.2.2.1.length (by omega) (λi nx hi=>?_) (λnx=>?_);have kk:=oz qQ h i;have zz:eI 900000000 gI (fT gS i h):=(Db (by omega) Mk k.z i).mono;have i1:i<(fT gS i h).2.2.2.1.length:=by rw[kk.rx];exact hi
 have i2:i<(fT gS i h).2.2.2.2.2.1.length:=by rw[kk.vec];omega
 have e1:(fT gS i h).2.2.2.1[i]=h.2.2.2.1[i]:=by have:=kk.rxs i (aV _);rw[aw i1,aw hi]at this;exact cb this
 rw[show fT gS (i+1) h=gS i (fT gS i h) from rfl];generalize fT gS i h=s at zz i1 i2 e1⊢;have z1:s.1.length<=900000000:=zz.1.1;have z2:s.2.1.length<=900000000:=zz.2.1.1;have hrx:=hr i hi;rw[<-e1]at hrx;have hqd:=vK (Cq hrx).1;have hf:=E9 (show 128<=900000000 by omega) (l:=s.2.1) (d:=0) (k:=s.2.2.2.2.2.2.2.2.1.2.2.1) zz.1 (zz.2.2.2.1.2 _ (bE i1));have ev:=KL (h:=s) (k:=i) (b:=s.2.2.2.1[i].2.1.2.2) (f:=gz s.2.1 s.1 0 s.2.2.2.1[i] s.2.2.2.2.2.2.2.2.1.2.2.1) i1 i2 (hf.2.2.2 hrx).1;simp only[qs,gS];rw[mh,ah,aw i1];simp only[bS i1,bS hi,ae,I1 s.2.1 s.1 0 _ _ (show s.2.1.length<=10^9 by omega) (show s.1.length<=10^9 by omega),aA,<-e1,ev];rw[al];rfl;simp only[qs];rw[du,af]
def Qh (a b:aQ):Bool:=(a.1==b.1)&&((a.2.1==b.2.1)&&((a.2.2.1==b.2.2.1)&&((a.2.2.2.1==b.2.2.2.1)&&((a.2.2.2.2.2.1==b.2.2.2.2.2.1)&&((a.2.2.2.2.2.2.1==b.2.2.2.2.2.2.1)&&((a.2.2.2.2.2.2.2.1==b.2.2.2.2.2.2.2.1)&&((a.2.2.2.2.2.2.2.2.1==b.2.2.2.2.2.2.2.2.1)&&((a.2.2.2.2.2.2.2.2.2.1==b.2.2.2.2.2.2.2.2.2.1)&&((a.2.2.2.2.2.2.2.2.2.2.1==b.2.2.2.2.2.2.2.2.2.2.1)&&((a.2.2.2.2.2.2.2.2.2.2.2.2.1==b.2.2.2.2.2.2.2.2.2.2.2.2.1)&&((a.2.2.2.2.2.2.2.2.2.2.2.2.2.2.1==b.2.2.2.2.2.2.2.2.2.2.2.2.2.2.1))))))))))))
theorem aeC (a b:aQ):xm a b=some (Qh a b):=by unfold xm Qh;simp only[fO,bF,ja]
def ahC (s:ni)(p:aQ):Bool:=(p.2.2.2.2.2.2.2.2.2.2.2.1==tmod (au (s.1.2.2.2.2.2.2.2.2.2.2.2.1+(s.1.2.2.2.2.2.2.2.2.2.2.2.2.2.2.2.length:Int))) 4294967296)&&(p.2.2.2.2.1==tmod (au (s.1.2.2.2.2.1+s.2.2)) 65536)
def Vq (s:ni)(p:aQ):Bool:=decide (1<=s.2.1)&&(dF s.2.2 1 320&&(decide ((s.1.2.2.2.2.2.2.2.2.2.2.2.2.2.2.2.length:Int)=s.2.1*s.2.2)&&(dF (p.2.2.2.2.2.2.2.2.2.2.2.2.2.2.2.length:Int) 1 s.2.1&&decide ((s.1.2.2.2.2.2.2.2.2.2.2.2.2.2.2.2.length:Int)+(p.2.2.2.2.2.2.2.2.2.2.2.2.2.2.2.length:Int)<=320))))
def Zw (s:ni)(p:aQ):Bool:=cD s.1&&(fZ p&&(Qh s.1 p&&((p.2.2.2.2.2.2.2.2.1==6)&&((s.1.2.2.2.2.2.2.2.2.2.2.2.2.2.1==16)&&zV p.2.2.2.2.2.2.2.2.2.2.2.2.2.1))))
def DD (s:ni)(p:aQ):Bool:=Zw s p&&(Vq s p&&ahC s p)
theorem HY (h:fZ p=true)(h6:(p.2.2.2.2.2.2.2.2.1==6)=true):dF p.2.2.2.2.2.2.2.2.2.2.2.2.2.1 0 31=true:=by simp only[fZ,cD,ab]at h;exact Fp (uX h.1.1) h6
theorem Gz (h:fZ p=true):p.2.2.2.2.2.2.2.2.2.2.2.2.2.2.2.length<=128:=by simp only[fZ,ab,aE]at h;omega
theorem ZE (s:ni)(p:aQ):vc s p=some (DD s p):=by
 unfold vc DD Zw;rw[pS,ae,CK,ae,aeC,ae];cases hs:cD s.1;rfl;cases hp:fZ p;rfl;cases Qh s.1 p;rfl;cases h6:p.2.2.2.2.2.2.2.2.1==6 with|false=>simp only[bne,h6];rfl|true=>?_
 cases SM:s.1.2.2.2.2.2.2.2.2.2.2.2.2.2.1==16 with|false=>simp only[bne,h6,SM];rfl|true=>?_
 have hf:=HY hp h6;have ZB:=Dd hs;have DE:=Gz hp;simp only[bne,h6,SM,ak,af,ae,Md _ hf,bF];cases zV p.2.2.2.2.2.2.2.2.2.2.2.2.2.1;rfl;simp only[ak,af,dw,ae,bF];rw[aH (show¬(4294967296:Nat)=0 by omega),aH (show¬(65536:Nat)=0 by omega)];simp only[cA,cF];rw[show((p.2.2.2.2.2.2.2.2.2.2.2.1==tmod (au (s.1.2.2.2.2.2.2.2.2.2.2.2.1+(s.1.2.2.2.2.2.2.2.2.2.2.2.2.2.2.2.length:Int))) 4294967296)&&(p.2.2.2.2.1==tmod (au (s.1.2.2.2.2.1+s.2.2)) 65536))=ahC s p from rfl];unfold Vq;generalize ahC s p=q;generalize s.1.2.2.2.2.2.2.2.2.2.2.2.2.2.2.2.length=n at ZB⊢;generalize p.2.2.2.2.2.2.2.2.2.2.2.2.2.2.2.length=m at DE⊢;rw[al (n:=(n:Int)+(m:Int))];by_cases h1:s.2.1<1;rw[aq h1,ar (show¬1<=s.2.1 by omega)];rfl;rw[ar h1,aq (show 1<=s.2.1 by omega)];cases h2:dF s.2.2 1 320;rfl;have SN:=aX.1 h2;simp only[ak,af,ae,bF];rw[kl,kl];have e1:tmod (n:Int) s.2.2=(n:Int)%s.2.2:=dr (by omega);have e2:Int.tdiv (n:Int) s.2.2=(n:Int)/s.2.2:=Int.tdiv_eq_ediv_of_nonneg (by omega);have hdm:=Int.emod_add_mul_ediv (n:Int) s.2.2;have hq0:0<=(n:Int)/s.2.2:=Int.ediv_nonneg (by omega) (by omega);have hq1:(n:Int)/s.2.2<=(n:Int):=Int.ediv_le_self _ (by omega);rw[e1,e2,al (n:=(n:Int)/s.2.2)];by_cases h3:(n:Int)=s.2.1*s.2.2;have h4:(n:Int)%s.2.2=0:=by rw[h3];exact Int.mul_emod_left ..
 have h5:(n:Int)/s.2.2=s.2.1:=by rw[h3];exact Int.mul_ediv_cancel _ (by omega)
 rw[h4,h5,aq h3];simp only[fO,ak,af,ae,bF];cases dF (m:Int) 1 s.2.1;rfl;cases decide ((n:Int)+(m:Int)<=320)<;>rfl;rw[ar h3];cases h4:(n:Int)%s.2.2==0 with
 |false=>rfl
 |true=>
  have h4':(n:Int)%s.2.2=0:=by simpa using h4
  have h5:((n:Int)/s.2.2==s.2.1)=false:=by rw[cu];intro h5;rw[h4',h5]at hdm;exact h3 (by rw[Int.mul_comm];omega)
  simp only[ak,af,h5,bQ,ae,ah];rfl
def sv (s:ni)(p:aQ):ni:=bif DD s p then((s.1.1,s.1.2.1,s.1.2.2.1,s.1.2.2.2.1,s.1.2.2.2.2.1,s.1.2.2.2.2.2.1,s.1.2.2.2.2.2.2.1,s.1.2.2.2.2.2.2.2.1,s.1.2.2.2.2.2.2.2.2.1,s.1.2.2.2.2.2.2.2.2.2.1,s.1.2.2.2.2.2.2.2.2.2.2.1,s.1.2.2.2.2.2.2.2.2.2.2.2.1,s.1.2.2.2.2.2.2.2.2.2.2.2.2.1,p.2.2.2.2.2.2.2.2.2.2.2.2.2.1,s.1.2.2.2.2.2.2.2.2.2.2.2.2.2.2.1,s.1.2.2.2.2.2.2.2.2.2.2.2.2.2.2.2++p.2.2.2.2.2.2.2.2.2.2.2.2.2.2.2),s.2.1,au (s.2.2+1)) else s
theorem Q1 {s:ni}(h:DD s p=true):s.1.2.2.2.2.2.2.2.2.2.2.2.2.2.2.2.length+p.2.2.2.2.2.2.2.2.2.2.2.2.2.2.2.length<=320:=by simp only[DD,Vq,ab,aE]at h;have:=h.2.1.2.2.2.2;omega
theorem aeB (s:ni)(p:aQ):Fi s p=some (sv s p):=by unfold Fi sv;rw[ZE,ae];cases h:DD s p;rfl;have:=Q1 h;simp only[ak,af,ah];rw[bg]
def jw (p:aQ):ni:=(p,(p.2.2.2.2.2.2.2.2.2.2.2.2.2.2.2.length:Int),1)
theorem Xy (p:aQ):En p=some (jw p):=rfl
def Eb (q:bC)(s:ni):bC:=(q.1,q.2.1,q.2.2.1,s,true,q.2.2.2.2.2)
def jl (l:ay aG)(m:cg)(d:Int)(q:bC)(k:Bytes)(p:aQ)(c:Bool):cg×bC:=
 bif !BP q||(!fZ p||((k.length:Int) !=16)) then(m,q) else
 bif c&&(q.2.2.2.2.1&&DD q.2.2.2.1 p) then(m,q.1,q.2.1,q.2.2.1,sv q.2.2.2.1 p,q.2.2.2.2) else
 bif c then((gz l m d q k).1,Eb (gz l m d q k).2 (jw p)) else gz l (gz l m d q k).1 d (Eb (gz l m d q k).2 (jw p)) k
theorem Xn (l:ay aG)(m:cg)(d:Int)(q:bC)(k:Bytes)(p:aQ)(c:Bool)(hl:l.length<=10^9)(hm:m.length<=10^9):oR l m d q k p c=some (jl l m d q k p c):=by
 unfold oR jl Eb;simp only[MM,CK,ae,gK m (show m.length<=1073741824 by omega),ZE,aeB,I1 l m d q k hl hm,Xy,I1 l (gz l m d q k).1 d _ k hl (show(gz l m d q k).1.length<=10^9 by rw[TF];exact hm)];cases BP q;rfl;cases fZ p;rfl;cases (k.length:Int) !=16;case true=>rfl
 cases c;rfl;cases q.2.2.2.2.1;rfl;cases DD q.2.2.2.1 p<;>rfl
theorem TG {k:Bytes}(h:gw q.2.1=true):gw (gz l m d q k).2.2.1=true:=by
 unfold gz;cases !BP q||(!q.2.2.2.2.1||((k.length:Int) !=16));case true=>exact h
 have hs:gw (gh l m d q k (bq l m d q.1).1).2.1=true:=by
  unfold gh;cases !(cJ (bq l m d q.1).1).2||(((cJ (bq l m d q.1).1).1.1 !=3)||decide ((cJ (bq l m d q.1).1).1.2.2.1<((cQ q.2.2.2.1.1).1.length:Int)));case true=>exact h
  cases (gT l m d (cJ (bq l m d q.1).1).1.2.2.2.1 (cQ q.2.2.2.1.1).1 true).2;exact h;exact(ZU h).1
 cases (bq l m d q.1).2.2&&(gh l m d q k (bq l m d q.1).1).2.2 with|true=>exact hs|false=>exact h
theorem aaR {s:ni}(h:s.1.2.2.2.2.2.2.2.2.2.2.2.2.2.2.2.length<=n):eI n dZ (Eb q s):=⟨⟨dq,dq,dq,dq⟩,⟨dq,dq,dq⟩,⟨dq,dq,dq⟩,⟨⟨dq,dq,dq,dq,dq,dq,dq,dq,dq,dq,dq,dq,dq,dq,dq,h⟩,dq,dq⟩,dq,dq⟩
theorem LB (hn:1000<=n){k:Bytes}{c:Bool}(z:eI n (.sl .str) m)(zq:eI n dZ q)(hq:gw q.2.1=true): eI n (.sl .str) (jl l m d q k p c).1/\(jl l m d q k p c).1.length=m.length/\eI n dZ (jl l m d q k p c).2/\gw (jl l m d q k p c).2.2.1=true:=by
 unfold jl;cases hc: !BP q||(!fZ p||((k.length:Int) !=16));case true=>exact⟨z,rfl,zq,hq⟩
 simp only[cj,dV]at hc;have hp:=Gz hc.2.1;cases hj:c&&(q.2.2.2.2.1&&DD q.2.2.2.1 p)with|true=>simp only[ab]at hj;have:=Q1 hj.2.2;refine⟨z,rfl,⟨⟨dq,dq,dq,dq⟩,⟨dq,dq,dq⟩,⟨dq,dq,dq⟩,⟨?_,dq,dq⟩,dq,dq⟩,hq⟩;refine⟨dq,dq,dq,dq,dq,dq,dq,dq,dq,dq,dq,dq,dq,dq,dq,?_⟩;unfold sv;rw[hj.2.2];show List.length (q.2.2.2.1.1.2.2.2.2.2.2.2.2.2.2.2.2.2.2.2++p.2.2.2.2.2.2.2.2.2.2.2.2.2.2.2)<=n;rw[aj];omega|false=>have hf:=E9 (show 128<=n by omega) (l:=l) (d:=d) (k:=k) z zq;have hfq:=TG (l:=l) (m:=m) (d:=d) (k:=k) hq;have hh:eI n dZ (Eb (gz l m d q k).2 (jw p)):=aaR (by show p.2.2.2.2.2.2.2.2.2.2.2.2.2.2.2.length<=n;omega);cases c with|true=>exact⟨hf.1,hf.2.1,hh,hfq⟩|false=>have B8:=E9 (show 128<=n by omega) (l:=l) (d:=d) (k:=k) hf.1 hh;exact⟨B8.1,B8.2.1.trans hf.2.1,B8.2.2.1,TG (q:=Eb (gz l m d q k).2 (jw p)) hfq⟩
theorem Vg {r:km}(h:Bm r=true):0<=r.2.2.2.2.2.2.2.2:=by
 by_cases h0:0<=r.2.2.2.2.2.2.2.2;exact h0;exfalso;have e:∀b:Int,dF r.2.2.2.2.2.2.2.2 0 b=false:=λb=>by rw[Bool.eq_false_iff];intro hc;have:=aX.1 hc;omega
 have e1:(r.2.2.2.2.2.2.2.2==0)=false:=by rw[cu];omega
 revert h;unfold Bm;have z:∀c:Bool,(bif c then false else false)=false:=by intro c;cases c<;>rfl
 simp only[mN,eU,ae,cA,e,e1,gy,z,af];intro h;cases h
theorem JK {s:cV}{q:Int}:iy s q p= -1\/∃n:Nat,iy s q p=(n:Int)/\(n:Int)<q:=by
 unfold iy;cases hb: !gA s q|| !cD p;case true=>exact .inl rfl
 simp only[cj,dV]at hb;have hs:=hb.1;simp only[gA,ab]at hs;simp only[af];cases hd:decide (BW s.1 p>=0)with
 |true=>obtain⟨n,hn,hl⟩:=Tv s.1 p (bw hd);simp only[ah,hn,aA,de hl];cases s.1[n].2.2.2.2.2.2.2.1==1 with|true=>exact .inl rfl|false=>have h1:=aL.1 hs.1.2 _ (bE hl);have h2:=hs.1.1.1.1;simp only[yn,ab]at h2;have h3:=Vg (aL.1 h2.1 _ (bE hl));simp only[aN,cP]at h1;exact .inr ⟨s.1[n].2.2.2.2.2.2.2.2.toNat,by simp only[af];omega,by omega⟩
 |false=>
  simp only[af];cases Mr:decide (findF s.2.1 (dm p)>=0)with
  |true=>obtain⟨n,hn,hl⟩:=Tu s.2.1 (dm p) (bw Mr);simp only[ah,hn,aA,de hl];have h1:=aL.1 hs.2 _ (bE hl);have h2:=hs.1.1.1.2;simp only[pn,ab,bm]at h2;have h3:=aL.1 h2.2 n (cy.2 (by omega));unfold om Qv at h3;rw[wN hl]at h3;simp only[ab,aX]at h3;simp only[aN,cP]at h1;exact .inr ⟨s.2.1[n].2.2.toNat,by omega,by omega⟩
  |false=>
   simp only[af];unfold Lq;cases hc: !qG s.2.2 q||decide (CE s.2.2 (dm p)<0);case true=>exact .inl rfl
   simp only[cj,dV,cP]at hc;obtain⟨n,hn,hl⟩:=Pn s.2.2 (dm p) hc.2;have h1:=hc.1;simp only[qG,ab]at h1;have h2:=aX.1 (aL.1 h1.2 _ (bE hl));simp only[af,hn,aA,de hl];exact .inr ⟨s.2.2.2[n].toNat,by omega,by omega⟩
def sD (h:Host)(a b c d:Int):Host:=(h.1,h.2.1,h.2.2.1,h.2.2.2.1,h.2.2.2.2.1,h.2.2.2.2.2.1,h.2.2.2.2.2.2.1,h.2.2.2.2.2.2.2.1,h.2.2.2.2.2.2.2.2.1,h.2.2.2.2.2.2.2.2.2.1,h.2.2.2.2.2.2.2.2.2.2.1,h.2.2.2.2.2.2.2.2.2.2.2.1,h.2.2.2.2.2.2.2.2.2.2.2.2.1,h.2.2.2.2.2.2.2.2.2.2.2.2.2.1,au (h.2.2.2.2.2.2.2.2.2.2.2.2.2.2.1+1),a,b,c,d)
def lS (h:Host)(x:Bytes):Host:=
 bif !fU h then h else
 bif (gR x).2 !=0 then sD h (au (h.2.2.2.2.2.2.2.2.2.2.2.2.2.2.2.1+1)) h.2.2.2.2.2.2.2.2.2.2.2.2.2.2.2.2.1 h.2.2.2.2.2.2.2.2.2.2.2.2.2.2.2.2.2.1 h.2.2.2.2.2.2.2.2.2.2.2.2.2.2.2.2.2.2 else
 bif !sH h.2.2.2.2.2.2.2.1 (gR x).1 then sD h h.2.2.2.2.2.2.2.2.2.2.2.2.2.2.2.1 (au (h.2.2.2.2.2.2.2.2.2.2.2.2.2.2.2.2.1+1)) h.2.2.2.2.2.2.2.2.2.2.2.2.2.2.2.2.2.1 h.2.2.2.2.2.2.2.2.2.2.2.2.2.2.2.2.2.2 else
 bif iy h.2.2.2.2.2.2.2.2.1 (h.2.2.2.1.length:Int) (gR x).1== -1 then sD h h.2.2.2.2.2.2.2.2.2.2.2.2.2.2.2.1 h.2.2.2.2.2.2.2.2.2.2.2.2.2.2.2.2.1 (au (h.2.2.2.2.2.2.2.2.2.2.2.2.2.2.2.2.2.1+1)) h.2.2.2.2.2.2.2.2.2.2.2.2.2.2.2.2.2.2 else
 match h.2.2.2.1[(iy h.2.2.2.2.2.2.2.2.1 (h.2.2.2.1.length:Int) (gR x).1).toNat]? with
 |some q=>wi (sD h h.2.2.2.2.2.2.2.2.2.2.2.2.2.2.2.1 h.2.2.2.2.2.2.2.2.2.2.2.2.2.2.2.2.1 h.2.2.2.2.2.2.2.2.2.2.2.2.2.2.2.2.2.1 (au (h.2.2.2.2.2.2.2.2.2.2.2.2.2.2.2.2.2.2+1))) (iy h.2.2.2.2.2.2.2.2.1 (h.2.2.2.1.length:Int) (gR x).1).toNat q.2.1.2.2 (jl h.2.1 h.1 0 q h.2.2.2.2.2.2.2.2.1.2.2.1 (gR x).1 h.2.2.2.2.2.2.2.2.2.2.1)
 |none=>h
theorem RY (h:Host)(x:Bytes)(k:AI 900000000 h)(hx:x.length<=10^9):rE h x=some (lS h x):=by
 have z:=k.z;have z1:h.1.length<=900000000:=z.1.1;have z2:h.2.1.length<=900000000:=z.2.1.1;have zf:h.2.2.2.2.2.2.2.1.2.2.length<=900000000:=z.2.2.2.2.2.2.2.1.2.2.1;have s1:h.2.2.2.2.2.2.2.2.1.1.length<=900000000:=z.2.2.2.2.2.2.2.2.1.1.1;have s2:h.2.2.2.2.2.2.2.2.1.2.1.length<=900000000:=z.2.2.2.2.2.2.2.2.1.2.1.1;have s3:h.2.2.2.2.2.2.2.2.1.2.2.2.length<=900000000:=z.2.2.2.2.2.2.2.2.1.2.2.2.1;unfold rE lS;rw[jR h (z.mono),ae,sO h (k.sz (by omega)),ae];cases hb:fU h;rfl;have hl:=vD (by simp only[fU,ab]at hb;exact hb.2.2.2.2.1:tc h=true);have hr:=Gk hb;simp only[ak,af,aa9 x hx,ae,T8 h.2.2.2.2.2.2.2.1 _ (show h.2.2.2.2.2.2.2.1.2.2.length<=10^9 by omega),abe h.2.2.2.2.2.2.2.2.1 _ _ (show h.2.2.2.2.2.2.2.2.1.1.length<=10^9 by omega) (show h.2.2.2.2.2.2.2.2.1.2.1.length<=10^9 by omega) (show h.2.2.2.2.2.2.2.2.1.2.2.2.length<=10^9 by omega)];generalize gR x=f;cases f.2 !=0;case true=>rfl
 cases sH h.2.2.2.2.2.2.2.1 f.1;rfl;simp only[ak,af];have nt:=JK (s:=h.2.2.2.2.2.2.2.2.1) (q:=(h.2.2.2.1.length:Int)) (p:=f.1);generalize iy h.2.2.2.2.2.2.2.2.1 (h.2.2.2.1.length:Int) f.1=r at nt⊢;rcases nt with rfl|⟨n,rfl,hn⟩;rfl;have i1:n<h.2.2.2.1.length:=by omega
 have i2:n<h.2.2.2.2.2.1.length:=by omega
 have hq:=(Cq (hr n i1)).1;have hqi:=vK hq;have ha:=LB (show 1000<=900000000 by omega) (l:=h.2.1) (d:=0) (k:=h.2.2.2.2.2.2.2.2.1.2.2.1) (p:=f.1) (c:=h.2.2.2.2.2.2.2.2.2.2.1) z.1 (z.2.2.2.1.2 _ (bE i1)) hq;have ev:=KL (h:=sD h h.2.2.2.2.2.2.2.2.2.2.2.2.2.2.2.1 h.2.2.2.2.2.2.2.2.2.2.2.2.2.2.2.2.1 h.2.2.2.2.2.2.2.2.2.2.2.2.2.2.2.2.2.1 (au (h.2.2.2.2.2.2.2.2.2.2.2.2.2.2.2.2.2.2+1))) (k:=n) (b:=h.2.2.2.1[n].2.1.2.2) (f:=jl h.2.1 h.1 0 h.2.2.2.1[n] h.2.2.2.2.2.2.2.2.1.2.2.1 f.1 h.2.2.2.2.2.2.2.2.2.2.1) i1 i2 ha.2.2.2;rw[show((n:Int)== -1)=false from by rw[cu];omega,aA,aw i1];simp only[af,bS i1,ae,Xn h.2.1 h.1 0 _ _ _ _ (show h.2.1.length<=10^9 by omega) (show h.1.length<=10^9 by omega)];rw[show(lO ((jl h.2.1 h.1 0 h.2.2.2.1[n] h.2.2.2.2.2.2.2.2.1.2.2.1 f.1 h.2.2.2.2.2.2.2.2.2.2.1).1,h.2.1,h.2.2.1,h.2.2.2.1.set n (jl h.2.1 h.1 0 h.2.2.2.1[n] h.2.2.2.2.2.2.2.2.1.2.2.1 f.1 h.2.2.2.2.2.2.2.2.2.2.1).2,h.2.2.2.2.1,h.2.2.2.2.2.1,h.2.2.2.2.2.2.1,h.2.2.2.2.2.2.2.1,h.2.2.2.2.2.2.2.2.1,h.2.2.2.2.2.2.2.2.2.1,h.2.2.2.2.2.2.2.2.2.2.1,h.2.2.2.2.2.2.2.2.2.2.2.1,h.2.2.2.2.2.2.2.2.2.2.2.2.1,h.2.2.2.2.2.2.2.2.2.2.2.2.2.1,au (h.2.2.2.2.2.2.2.2.2.2.2.2.2.2.1+1),h.2.2.2.2.2.2.2.2.2.2.2.2.2.2.2.1,h.2.2.2.2.2.2.2.2.2.2.2.2.2.2.2.2.1,h.2.2.2.2.2.2.2.2.2.2.2.2.2.2.2.2.2.1,au (h.2.2.2.2.2.2.2.2.2.2.2.2.2.2.2.2.2.2+1)) (n:Int) h.2.2.2.1[n].2.1.2.2)=_ from ev,ae]
theorem Vc (hn:1000<=n)(x:Bytes)(k:AI n h):AI n (lS h x)/\(lS h x).2.2.1=h.2.2.1/\(lS h x).2.2.2.2.1.length=h.2.2.2.2.1.length:=by
 have z:=k.z;have zc:∀a b c d,AI n (sD h a b c d):=λa b c d=>⟨⟨z.1,z.2.1,z.2.2.1,z.2.2.2.1,z.2.2.2.2.1,z.2.2.2.2.2.1,z.2.2.2.2.2.2.1,z.2.2.2.2.2.2.2.1,z.2.2.2.2.2.2.2.2.1,z.2.2.2.2.2.2.2.2.2.1,z.2.2.2.2.2.2.2.2.2.2.1,z.2.2.2.2.2.2.2.2.2.2.2.1,z.2.2.2.2.2.2.2.2.2.2.2.2.1,z.2.2.2.2.2.2.2.2.2.2.2.2.2.1,dq,dq,dq,dq,dq⟩,k.t⟩
 unfold lS;cases hb:fU h;exact⟨k,rfl,rfl⟩;have hr:=Gk hb;generalize gR x=f;cases f.2 !=0;case true=>exact⟨zc ..,rfl,rfl⟩
 cases sH h.2.2.2.2.2.2.2.1 f.1;exact⟨zc ..,rfl,rfl⟩;simp only[ak,af];generalize iy h.2.2.2.2.2.2.2.2.1 (h.2.2.2.1.length:Int) f.1=r;cases r== -1;case true=>exact⟨zc ..,rfl,rfl⟩
 simp only[af];rcases hq:h.2.2.2.1[r.toNat]? with _|q;exact⟨k,rfl,rfl⟩;obtain⟨hi,hqe⟩:=aB.1 hq;have hqd:=(Cq (hr _ hi)).1;rw[hqe]at hqd;have ha:=LB hn (l:=h.2.1) (d:=0) (k:=h.2.2.2.2.2.2.2.2.1.2.2.1) (p:=f.1) (c:=h.2.2.2.2.2.2.2.2.2.2.1) z.1 (z.2.2.2.1.2 _ (aZ hq)) hqd;have zc':=zc h.2.2.2.2.2.2.2.2.2.2.2.2.2.2.2.1 h.2.2.2.2.2.2.2.2.2.2.2.2.2.2.2.2.1 h.2.2.2.2.2.2.2.2.2.2.2.2.2.2.2.2.2.1 (au (h.2.2.2.2.2.2.2.2.2.2.2.2.2.2.2.2.2.2+1));have kk:=ET (h:=sD h h.2.2.2.2.2.2.2.2.2.2.2.2.2.2.2.1 h.2.2.2.2.2.2.2.2.2.2.2.2.2.2.2.2.1 h.2.2.2.2.2.2.2.2.2.2.2.2.2.2.2.2.2.1 (au (h.2.2.2.2.2.2.2.2.2.2.2.2.2.2.2.2.2.2+1))) (k:=r.toNat) (b:=q.2.1.2.2) (f:=jl h.2.1 h.1 0 q h.2.2.2.2.2.2.2.2.1.2.2.1 f.1 h.2.2.2.2.2.2.2.2.2.2.1) ha.2.1;exact⟨⟨N7 zc'.z ha.1 ha.2.2.1,by rw[kk.tx];exact k.t⟩,kk.tx,kk.pl⟩
theorem ahq (l:ay aG)(m:cg)(d:Int)(rx:bC)(pl:cX)(st:ay Stream)(c:Int):(gJ l m d rx pl st c).1.length=m.length:=by unfold gJ;cases !BP rx||(!dz pl|| !dF c 0 1000)with|true=>rfl|false=>exact Zp ..
def wK (b:Int)(k:Nat)(s:Int×Host):Int×Host:=
 match s.2.2.2.2.2.2.1[k]?,s.2.2.2.2.2.2.2.1[k]?,s.2.2.2.2.1[k]?,s.2.2.2.2.2.1[k]? with
 |some v,some p,some x,some pl=>
  bif p||(qH v).2 then
   (au (s.1+(gJ s.2.2.1 s.2.1 0 x pl s.2.2.2.2.2.2.2.2.2.2.1 b).2.2.2.2),
    (gJ s.2.2.1 s.2.1 0 x pl s.2.2.2.2.2.2.2.2.2.2.1 b).1,s.2.2.1,s.2.2.2.1,s.2.2.2.2.1.set k (gJ s.2.2.1 s.2.1 0 x pl s.2.2.2.2.2.2.2.2.2.2.1 b).2.1,s.2.2.2.2.2.1.set k (gJ s.2.2.1 s.2.1 0 x pl s.2.2.2.2.2.2.2.2.2.2.1 b).2.2.1,
    s.2.2.2.2.2.2.1.set k (bif decide ((gJ s.2.2.1 s.2.1 0 x pl s.2.2.2.2.2.2.2.2.2.2.1 b).2.2.2.2<b) then zB (qH v).1 else(qH v).1),
    s.2.2.2.2.2.2.2.1.set k (!decide ((gJ s.2.2.1 s.2.1 0 x pl s.2.2.2.2.2.2.2.2.2.2.1 b).2.2.2.2<b)),s.2.2.2.2.2.2.2.2.1,s.2.2.2.2.2.2.2.2.2.1,(gJ s.2.2.1 s.2.1 0 x pl s.2.2.2.2.2.2.2.2.2.2.1 b).2.2.2.1,s.2.2.2.2.2.2.2.2.2.2.2)
  else(s.1,s.2.1,s.2.2.1,s.2.2.2.1,s.2.2.2.2.1,s.2.2.2.2.2.1,s.2.2.2.2.2.2.1.set k (qH v).1,s.2.2.2.2.2.2.2.1.set k false,s.2.2.2.2.2.2.2.2)
 |_,_,_,_=>s
theorem EB (b:Int)(k:Nat)(s:Int×Host):lE (k+1) s.2 (wK b k s).2:=by unfold wK;rcases s.2.2.2.2.2.2.1[k]? with _|v;exact lE.refl _ _;rcases s.2.2.2.2.2.2.2.1[k]? with _|p;exact lE.refl _ _;rcases s.2.2.2.2.1[k]? with _|x;exact lE.refl _ _;rcases s.2.2.2.2.2.1[k]? with _|pl;exact lE.refl _ _;simp only;cases p||(qH v).2 with|true=>exact⟨ahq ..,rfl,rfl,aK ..,λj hj=>aJ (by omega),aK ..,aK ..,λj hj=>aJ (by omega),aK ..,rfl,rfl⟩|false=>exact⟨rfl,rfl,rfl,rfl,λ_ _=>rfl,rfl,aK ..,λj hj=>aJ (by omega),aK ..,rfl,rfl⟩
theorem Yn (b:Int)(k:Nat)(s:Int×Host)(hn:1000<=n)(z:eI n gI s.2):eI (n+322000) gI (wK b k s).2:=by have z':eI (n+322000) gI s.2:=z.mono;unfold wK;rcases s.2.2.2.2.2.2.1[k]? with _|v;exact z';rcases s.2.2.2.2.2.2.2.1[k]? with _|p;exact z';rcases h1:s.2.2.2.2.1[k]? with _|x;exact z';rcases h2:s.2.2.2.2.2.1[k]? with _|pl;exact z';simp only;cases p||(qH v).2 with|true=>have hp:=ab6 (by omega) (l:=s.2.2.1) (d:=0) b z.1 (z.2.2.2.1.2 _ (aZ h1)) (z.2.2.2.2.1.2 _ (aZ h2)) z.2.2.2.2.2.2.2.2.2.1;exact⟨hp.1.mono,z'.2.1,z'.2.2.1,Ch z'.2.2.2.1 (hp.2.1.mono),Ch z'.2.2.2.2.1 hp.2.2.1,Lu z'.2.2.2.2.2.1,Ch z'.2.2.2.2.2.2.1 trivial,z'.2.2.2.2.2.2.2.1,z'.2.2.2.2.2.2.2.2.1,hp.2.2.2.1,z'.2.2.2.2.2.2.2.2.2.2⟩|false=>exact⟨z'.1,z'.2.1,z'.2.2.1,z'.2.2.2.1,z'.2.2.2.2.1,Lu z'.2.2.2.2.2.1,Ch z'.2.2.2.2.2.2.1 trivial,z'.2.2.2.2.2.2.2⟩
def ki (b:Int):Nat->Host->Int×Host
 |0,h=>(0,h)
 |k+1,h=>wK b k (ki b k h)
theorem zN (b:Int)(h:Host):∀k,lE k h (ki b k h).2
 |0=>lE.refl 0 h
 |k+1=>((zN b h k).up (by omega)).trans (EB b k _)
theorem GB (b:Int)(hn:1000<=n)(z:eI n gI h):∀k,eI (n+322000*k) gI (ki b k h).2
 |0=>z
 |k+1=>(Yn b k _ (by omega) (GB b hn z k)).mono
def iD (h:Host)(b:Int):Host×Int:=bif fU h&&dF b 1 1000 then((ki b h.2.2.2.1.length h).2,(ki b h.2.2.2.1.length h).1) else(h,0)
theorem Kr (hn:1000<=n)(b:Int)(k:AI n h):AI (n+644000) (iD h b).1:=by unfold iD;cases hb:fU h&&dF b 1 1000 with|false=>exact k.mono|true=>simp only[ab]at hb;have hl:=vD (by have:=hb.1;simp only[fU,ab]at this;exact this.2.2.2.2.1:tc h=true);refine⟨(GB b hn k.z _).mono,?_⟩;simp only[ah];rw[(zN b h _).tx];exact bT k.t (by omega)
theorem Kb (h:Host)(b:Int)(k:AI 400000000 h):nT h b=some (iD h b):=by
 have B9:=eS;unfold nT iD;rw[jR h (k.z.mono),ae,sO h (k.sz (by omega)),ae,dw];cases hb:fU h;rfl;cases hi0:dF b 1 1000;rfl;have hl:=vD (by simp only[fU,ab]at hb;exact hb.2.2.2.2.1:tc h=true);simp only[ak,af,ae,cY,ah];refine fW (λi=>((ki b i h).1,(i:Int),(ki b i h).2)) h.2.2.2.1.length (by omega) (λi nx hi=>?_) (λnx=>?_);have kk:=zN b h i;have zz:eI 500000000 gI (ki b i h).2:=(GB b (by omega) k.z i).mono;have i1:i<(ki b i h).2.2.2.2.1.length:=by rw[kk.rx];exact hi
 have i2:i<(ki b i h).2.2.2.2.2.1.length:=by rw[kk.pl];omega
 have i3:i<(ki b i h).2.2.2.2.2.2.1.length:=by rw[kk.vec];omega
 have i4:i<(ki b i h).2.2.2.2.2.2.2.1.length:=by rw[kk.pol];omega
 rw[show ki b (i+1) h=wK b i (ki b i h) from rfl];generalize ki b i h=s at zz i1 i2 i3 i4⊢;have gp:∀(V:ay Vector)(P:ay Bool),pW (s.2.1,s.2.2.1,s.2.2.2.1,s.2.2.2.2.1,s.2.2.2.2.2.1,V,P,s.2.2.2.2.2.2.2.2) (i:Int) b=some ((gJ s.2.2.1 s.2.1 0 s.2.2.2.2.1[i] s.2.2.2.2.2.1[i] s.2.2.2.2.2.2.2.2.2.2.1 b).2.2.2.2,(gJ s.2.2.1 s.2.1 0 s.2.2.2.2.1[i] s.2.2.2.2.2.1[i] s.2.2.2.2.2.2.2.2.2.2.1 b).1,s.2.2.1,s.2.2.2.1,s.2.2.2.2.1.set i (gJ s.2.2.1 s.2.1 0 s.2.2.2.2.1[i] s.2.2.2.2.2.1[i] s.2.2.2.2.2.2.2.2.2.2.1 b).2.1,s.2.2.2.2.2.1.set i (gJ s.2.2.1 s.2.1 0 s.2.2.2.2.1[i] s.2.2.2.2.2.1[i] s.2.2.2.2.2.2.2.2.2.2.1 b).2.2.1,V,P,s.2.2.2.2.2.2.2.2.1,s.2.2.2.2.2.2.2.2.2.1,(gJ s.2.2.1 s.2.1 0 s.2.2.2.2.1[i] s.2.2.2.2.2.1[i] s.2.2.2.2.2.2.2.2.2.2.1 b).2.2.2.1,s.2.2.2.2.2.2.2.2.2.2.2):=by intro V P;have DE:s.2.2.2.2.2.1[i].2.2.2.length<=500000000:=(zz.2.2.2.2.1.2 _ (bE i2)).2.2.2.1;have hm:s.2.1.length<=500000000:=zz.1.1;have hp:s.2.2.1.length<=500000000:=zz.2.1.1;unfold pW;simp only[bS i1,bS i2,ae,aeD s.2.2.1 s.2.1 0 _ _ _ b (show s.2.2.1.length<=10^9 by omega) (show s.2.1.length<=10^9 by omega) DE zz.2.2.2.2.2.2.2.2.2.1,aA]
 have Eh:∀V:Vector,s.2.2.2.2.2.2.1.set i V=s.2.2.2.2.2.2.1.set i V:=λ_=>rfl;unfold wK;rw[aw i1,aw i2,aw i3,aw i4];simp only[nv];rw[mh,ah];simp only[bS i3,bS i4,ae,abh,aA,gp];generalize qH s.2.2.2.2.2.2.1[i]=w;generalize gJ s.2.2.1 s.2.1 0 s.2.2.2.2.1[i] s.2.2.2.2.2.1[i] s.2.2.2.2.2.2.2.2.2.2.1 b=pr;have i5:∀V:Vector,i<(s.2.2.2.2.2.2.1.set i V).length:=λV=>by rw[aK];exact i3
 have i6:∀q:Bool,i<(s.2.2.2.2.2.2.2.1.set i q).length:=λq=>by rw[aK];exact i4
 have e5:∀V:Vector,idx (s.2.2.2.2.2.2.1.set i V) (i:Int)=some V:=λV=>by rw[bS (i5 V),List.getElem_set_self]
 have e6:∀q:Bool,idx (s.2.2.2.2.2.2.2.1.set i q) (i:Int)=some q:=λq=>by rw[bS (i6 q),List.getElem_set_self]
 rw[al (n:=(i:Int)+1)];have Ba:s.2.2.2.2.2.2.2.1.set i (s.2.2.2.2.2.2.2.1[i])=s.2.2.2.2.2.2.2.1:=List.set_getElem_self ..;generalize hp:s.2.2.2.2.2.2.2.1[i]=p at Ba⊢;cases hw:w.2 with
 |true=>simp only[jA,ah,e6,e5,ae,ak,af,MO,List.set_set];cases decide (pr.2.2.2.2<b)<;>rfl
 |false=>
  simp only[Bool.or_false,af];cases p with
  |false=>rw[Ba];rfl
  |true=>
   have e7:idx s.2.2.2.2.2.2.2.1 (i:Int)=some true:=by rw[bS i4,hp]
   simp only[ah,ak,af,e5,e7,ae,MO,List.set_set];cases decide (pr.2.2.2.2<b)with|true=>rfl|false=>simp only[af,bQ,Ba];rfl
 simp only[nv];rw[du,af]
def uS (b:Int):Nat->Host->Host
 |0,h=>h
 |k+1,h=>(iD (sA (uS b k h)) b).1
theorem NY (hn:1000<=n)(k:AI n h):AI n (sA h):=by have:=af6 hn k.z;exact⟨this.1,by rw[this.2];exact k.t⟩
theorem IM (b:Int)(hn:1000<=n)(z:AI n h):∀k,AI (n+644000*k) (uS b k h)
 |0=>z
 |k+1=>(Kr (by omega) b (NY (by omega) (IM b hn z k))).mono
def lJ (h:Host)(b r:Int):Host:=bif fU h&&(dF b 1 1000&&dF r 0 200) then uS b r.toNat (kR (dH h)) else h
theorem aay (hn:1000<=n)(b r:Int)(z:AI n h):AI (n+128805440) (lJ h b r):=by unfold lJ;cases hb:fU h&&(dF b 1 1000&&dF r 0 200)with|false=>exact z.mono|true=>simp only[ab]at hb;have hr:=aX.1 hb.2.2;exact(IM b (by omega) (IS (by omega) (Dh (by omega) z)) r.toNat).mono
theorem aa0 (h:Host)(b r:Int)(k:AI 200000000 h):kf h b r=some (lJ h b r):=by have B9:=eS;unfold kf lJ;rw[jR h (k.z.mono),ae,sO h (k.sz (by omega)),dw,dw];simp only[ae];cases hb:fU h;rfl;cases hi0:dF b 1 1000;rfl;cases hi1:dF r 0 200;rfl;have hr:=aX.1 hi1;obtain⟨r,rfl⟩:=az hr.1;have zt:=Dh (by omega) k;have zf:=IS (by omega) zt;simp only[ak,af,ae,cY,ah,HE h (k.mono),MI _ (zt.mono),aA];refine fW (λi=>((i:Int),uS b i (kR (dH h)))) r (by omega) (λi nx hi=>?_) (λnx=>?_);have zi:=IM b (by omega) zf i;have z2:=NY (by omega) zi;simp only[qo];rw[mh,ah,Ul _ (zi.sz (by omega)) (zi.z.mono),ae,Kb _ b (z2.mono),ae,al];rfl;simp only[qo];rw[du,af]
def kj (p:cX)(n:Int):cX×dB×Bool:=bif dz p&&dF n 0 (p.2.2.2.length:Int) then((p.1,p.2.1,p.2.2.1,p.2.2.2.drop n.toNat),p.2.2.2.take n.toNat,true) else(p,[],false)
theorem abg (p:cX)(n:Int)(h:p.2.2.2.length<=10^9):rQ p n=some (kj p n):=by unfold rQ kj;rw[uo p h,ae,xK p h,ae,dw];cases dz p;rfl;cases hi:dF n 0 (p.2.2.2.length:Int);rfl;have hn:=aX.1 hi;obtain⟨n,rfl⟩:=az hn.1;simp only[ak,af,ae,cY,ah,aA];rw[VC _ n (by omega),ae,mu _ (by simp;omega),ae,show sub p.2.2.2 0 (n:Int)=some (p.2.2.2.take n) from by rw[zx (by omega) hn.2,aA],ae,mu _ (by simp;omega),ae]
theorem DM:∀l:ay oJ,(∀x∈l,0<=x.2.1/\x.2.1<=16)->0<=eG l/\eG l<=16*(l.length:Int)
 |[],_=>by simp[eG]
 |y::l,h=>by have h1:=DM l (λx hx=>h x (dS _ hx));have h2:=h y (List.mem_cons_self ..);simp only[eG,cZ,List.sum_cons,aS]at h1⊢;omega
theorem Wu (l:ay oJ)(i:Nat)(hi:i<l.length):eG (l.take (i+1))=eG (l.take i)+l[i].2.1:=by rw[bV hi];simp only[eG,cp,List.sum_append,cZ,List.map_nil,List.sum_cons,List.sum_nil,Int.add_zero]
theorem abc (t:eM)(h:t.2.2.1.length<=1000000)(hs:∀x∈t.2.2.1,0<=x.2.1/\x.2.1<=16):qz t=some (eG t.2.2.1):=by
 have B9:=eS;unfold qz;refine fW (λi=>(eG (t.2.2.1.take i),(i:Int))) t.2.2.1.length (by omega) (λi nx hi=>?_) (λnx=>?_);have hb:=DM (t.2.2.1.take i) (λx hx=>hs x (List.mem_of_mem_take hx));have hc:=hs _ (bE hi);have hl:(t.2.2.1.take i).length<=1000000:=by rw[aY];omega
 rw[Wu _ _ hi];simp only[mG];rw[mh,ah,bS hi,ae,al (n:=(i:Int)+1),al];rfl;simp only[mG];rw[du,af,eF]
def tM (l:ay aG)(d:Int):cg->cg->mR->aC (cg×mR)
 |[],m,r=>some (m,r)
 |s::q,m,r=>bif (cR l m d r s).2.2 then tM l d q (cR l m d r s).1 (cR l m d r s).2.1 else none
def aiu (m:cg)(r:mR):aC (cg×mR)->cg×mR×Bool
 |some x=>(x.1,x.2,true)
 |none=>(m,r,false)
def tN (l:ay aG)(m:cg)(d:Int)(r:mR)(q:cg):cg×mR×Bool:=aiu m r (tM l d q m r)
theorem Ej (l:ay aG)(d:Int)(M:cg)(A B2:mR)(B1:cg)(hl:l.length<=10^9)(hM:M.length<=10^9):∀(rest pre:cg)(m:cg)(r:mR)(f:Nat),rest.length<f->(pre++rest).length<=10^9->m.length<=10^9->
 bt (lN (λ_ y6 y7=>some (y6,y7,true)) (λy8 _ EV EW _ _=>some (EV,EW,y8)) l d false (pre++rest) ((pre++rest).length:Int) M A B1 B2) f ((pre.length:Int),m,r)=some (aiu M A (tM l d rest m r))
 |rest,pre,m,r,0,hf,_,_=>by omega
 |[],pre,m,r,f+1,_,_,_=>by rw[bt];simp only[lN];rw[ar (by simp),af];rfl
 |s::q,pre,m,r,f+1,hf,hn,hm=>by
  simp only[aS,aj]at hf hn;have hi:pre.length<(pre++s::q).length:=by simp
  have hb:(pre++s::q)[pre.length]=s:=by simp
  rw[bt];simp only[lN];rw[aq (by simp;omega),bS hi,hb];simp only[ah,ae,Ka l m d r _ hl hm];rw[tM];cases hq:(cR l m d r s).2.2 with
  |false=>simp only[bQ,ah,af,gK M,ae];rfl
  |true=>
   simp only[ak,af,ah];rw[al (n:=(pre.length:Int)+1)];have key:=Ej l d M A B2 B1 hl hM q (pre++[s]) (cR l m d r s).1 (cR l m d r s).2.1 f (by omega) (by simp;omega) (by rw[yU];exact hm);have el:((pre++[s]).length:Int)=(pre.length:Int)+1:=by simp
   rw[aD,gk,el]at key;exact key
theorem Xx (l:ay aG)(m:cg)(d:Int)(r:mR)(q:cg)(hl:l.length<=10^9)(hm:m.length<=10^9)(hq:q.length<=10^9):kD l m d r q=some (tN l m d r q):=by have B9:=eS;unfold kD tN;rw[gK m,ae];exact Ej l d m r _ _ hl hm q [] m r fuel (by omega) (by simpa using hq) hm
def uV (l:ay aG)(d:Int)(p:cX)(z:Nat):dB->Bytes->cg->ay gV->aC (ay gV×cg)
 |[],_,m,a=>some (a,m)
 |b::q,s,m,a=>bif (gT l m d (nn p b) (s.take z) false).2 then uV l d p z q (s.drop z) (gT l m d (nn p b) (s.take z) false).1 (a++[(nn p b,((s.take z).length:Int))]) else none
theorem Hd (l:ay aG)(d:Int)(p:cX)(z:Nat):∀(q:dB)(s:Bytes)(m:cg)(a:ay gV){x},uV l d p z q s m a=some x->
 x.2.length=m.length/\x.1.length=a.length+q.length/\∀y∈x.1,y∈a\/((∃b∈q,y.1=nn p b)/\0<=y.2/\y.2<=(z:Int))
 |[],s,m,a,x,h=>by cases h;exact⟨rfl,rfl,λy hy=>Or.inl hy⟩
 |b::q,s,m,a,x,h=>by rw[uV]at h;cases hq:(gT l m d (nn p b) (s.take z) false).2 with|false=>rw[hq]at h;cases h|true=>rw[hq]at h;obtain⟨h1,h2,h3⟩:=Hd l d p z q _ _ _ h;rw[lR]at h1;rw[aj,bB]at h2;refine⟨h1,by rw[aS];omega,λy hy=>?_⟩;rcases h3 y hy with g|⟨⟨b',im,g⟩,g2⟩;rcases ax.1 g with g|g;exact Or.inl g;rw[bn.1 g];refine Or.inr ⟨⟨b,List.mem_cons_self ..,rfl⟩,?_,?_⟩;show(0:Int)<=((s.take z).length:Int);omega;show((s.take z).length:Int)<=(z:Int);rw[aY];omega;exact Or.inr ⟨⟨b',dS _ im,g⟩,g2⟩
theorem QZ (p:cX)(i:Int): -1<=nn p i/\nn p i<=139136:=by unfold nn;cases hb: !dz p|| !dF i 0 (p.2.2.1-1)with|true=>exact⟨eT _,show(-1:Int)<=139136 by omega⟩|false=>simp only[cj,dV]at hb;have h:=Bi hb.1;have h2:=aX.1 hb.2;have h3:0<=i*p.2.1:=Int.mul_nonneg h2.1 (by omega);have h4:i*p.2.1<=16*512:=Int.mul_le_mul (by omega) (by omega) (by omega) (by omega);simp only[af];omega
theorem adf {p:cX}(hp:dz p=true){b:Int}(hb:b∈p.2.2.2):0<=nn p b:=by obtain⟨i,hi,rfl⟩:=fX hb;have hq:=hp;simp only[dz,ab]at hq;have:=aL.1 hq.2.2.2 i (cy.2 hi);simp only[BZ,ab,de hi]at this;have hn:=this.1;have h:=Bi hp;have h2:=aX.1 hn;have h3:0<=p.2.2.2[i]*p.2.1:=Int.mul_nonneg h2.1 (by omega);unfold nn;rw[hp,hn];show 0<=p.1+p.2.2.2[i]*p.2.1;omega
theorem VI (s:Bytes)(z:Nat):sub s 0 (if(s.length:Int)<(z:Int) then(s.length:Int) else(z:Int))=some (s.take z):=by by_cases h:(s.length:Int)<(z:Int);rw[aF h,zx,aA,eF,bU (by omega)];rw[aH h,zx,aA]
theorem To (s:Bytes)(z:Nat):sub s ((s.take z).length:Int) (s.length:Int)=some (s.drop z):=by rw[VC _ _ (by rw[aY];omega),aY];by_cases h:z<=s.length;rw[iX h];rw[Nat.min_eq_right (by omega),gx,List.drop_eq_nil_of_le (by omega)]
def acV:aC (ay gV×cg)->aC (Bool×cg×ay gV×Bool)->Prop
 |some x,r=>r=some (true,x.2,x.1,true)
 |none,r=>∃c m,r=some (c,m,[],false)
theorem FQ (l:ay aG)(d:Int)(p:cX)(z:Nat)(B:cg)(hp:p.2.2.2.length<=10^9)(hl:l.length<=10^9):∀(rest pre:dB)(s:Bytes)(m:cg)(a:ay gV)(f:Nat),rest.length<f->(pre++rest).length<=1000000->a.length+rest.length<=1000000->m.length<=10^9->
 acV (uV l d p z rest s m a) (bt (kL (λ_ GN _ KM=>some (true,KM,GN,true)) (λ_ QK YM _ _ _ y23=>some (true,y23,QK,YM)) l d (z:Int) ([]:ay gV) false (pre++rest) ((pre++rest).length:Int) p B) f (s,a,(pre.length:Int),m))
 |rest,pre,s,m,a,0,hf,_,_,_=>by omega
 |[],pre,s,m,a,f+1,_,_,_,_=>by rw[bt];simp only[kL];rw[ar (by simp),af];rfl
 |b::q,pre,s,m,a,f+1,hf,hn,ha,hm=>by
  simp only[aS,aj]at hf hn ha;have hi:pre.length<(pre++b::q).length:=by simp
  have hb:(pre++b::q)[pre.length]=b:=by simp
  have hA:=QZ p b;rw[bt];simp only[kL];rw[aq (by simp;omega),bS hi,hb];simp only[ah,ae,VI,To,Hs p b hp,FR l m d (nn p b) (s.take z) hl hm];rw[uV];cases hq:(gT l m d (nn p b) (s.take z) false).2 with
  |false=>exact⟨_,_,rfl⟩
  |true=>
   simp only[ak,af,ah];rw[al (n:=(pre.length:Int)+1),bg (by simp only[bB];omega)];have key:=FQ l d p z B hp hl q (pre++[b]) (s.drop z) (gT l m d (nn p b) (s.take z) false).1 (a++[(nn p b,((s.take z).length:Int))]) f (by omega) (by simp;omega) (by simp;omega) (by rw[lR];exact hm);have el:((pre++[b]).length:Int)=(pre.length:Int)+1:=by simp
   rw[aD,gk,el]at key;exact key
theorem aa2 (l:ay aG)(m:cg)(d:Int)(p:cX)(q:dB)(s:Bytes)(z:Nat)(hp:p.2.2.2.length<=10^9)(hl:l.length<=10^9)(hm:m.length<=10^9)(hq:q.length<=1000)(h0:0<q.length): acV (uV l d p z q s m []) (nV l m d p q s (z:Int)):=by have B9:=eS;cases q with|nil=>cases h0|cons b q=>simp only[aS]at hq;have hA:=QZ p b;have hi:idx (b::q) 0=some b:=rfl;unfold nV;rw[aq (by simp),ah,hi];simp only[ae,VI,To,Hs p b hp,FR l m d (nn p b) (s.take z) hl hm];rw[uV];cases Li:(gT l m d (nn p b) (s.take z) false).2 with|false=>exact⟨_,_,rfl⟩|true=>simp only[ak,af,ah];rw[bg (by simp),show au (0+1)=1 from rfl];exact FQ l d p z _ hp hl q [b] (s.drop z) (gT l m d (nn p b) (s.take z) false).1 [(nn p b,((s.take z).length:Int))] fuel (by omega) (by simp;omega) (by simp;omega) (by rw[lR];exact hm)
theorem Tm {ps:ay gV}{z c:Int}(h0:0<ps.length)(SM:ps.length<=16)(hp:∀x∈ps,0<=x.1/\x.1<=200000/\0<=x.2/\x.2<=4096)(hz:dF z 1 128=true)(hc:dF c 0 65535=true):(kq ps z c).length=ps.length+1:=by
 have hz2:=aX.1 hz;have VW:=aX.1 hc;have e1:nD ps=true:=by unfold nD;rw[ab,aN,aE];refine⟨List.any_eq_false.2 λx hx=>?_,by omega⟩;have:=hp x hx;unfold Ap;rw[du,cd,aN,Bool.eq_false_iff];intro h;exact h (aX.2 (by omega))
 have e2:([((2:Int),(0:Int),(0:Int),(0:Int),z,c)]++nM ps c ps.length).all oG=true:=by rw[List.all_append,ab];constructor;simp only[cv,List.all_nil,ja,oG,ab,aX];omega;rw[IK];refine aL.2 λj hj=>?_;have hj:=cy.1 hj;have:=hp _ (bE hj);simp only[dsc,de hj,oG,ab,aX];refine⟨by omega,?_,by omega,by omega,by omega,by omega⟩;by_cases hq:j+1=ps.length;rw[aF hq];omega;rw[aH hq];omega
 unfold kq;rw[e1,hz,e2,show((ps.length:Int)==0)=false from by rw[cu];omega];simp only[ak,bG,af,ah,aj,bB,BT];omega
theorem Uc (K:cg->Int->aC R)(l:ay aG)(d:Int)(q:dB)(ds ds2:ay qa)(t1 t2 t3 t4:eM)(m1 m2 m3:cg)(h:ds.length<=1000): bt (gQ K l d q ds2 ds (ds.length:Int) t1 m1 t2 m2 t3 t4 m3) fuel (([]:cg),0)=K (ds.map jc) (ds.length:Int):=by
 have B9:=eS;refine fW (λi=>((ds.take i).map jc,(i:Int))) ds.length (by omega) (λi nx hi=>?_) (λnx=>?_);have e:((ds.take i).map jc).length<=1000:=by simp;omega
 rw[bV hi,cp];simp only[gQ];rw[mh,ah,bS hi,ae,RT,ae,bg (by simp only[bB];omega),al];rfl;simp only[gQ];rw[du,af,eF]
def yH (p:aQ)(z:Nat):Nat:=((lg p).1.length+z-1)/z
def NC (l:ay aG)(m:cg)(d:Int)(t:eM)(c:Int)(n:Nat)(x:ay gV×cg):cg×eM×Bool:=
 bif (tN l x.2 d t.1 ((kq x.1 c t.2.2.2).map jc)).2.2 then
  ((tN l x.2 d t.1 ((kq x.1 c t.2.2.2).map jc)).1,((tN l x.2 d t.1 ((kq x.1 c t.2.2.2).map jc)).2.1,(kj t.2.1 (n:Int)).1,t.2.2.1++[(t.2.2.2,(n:Int)+1,(kj t.2.1 (n:Int)).2.1)],tmod (t.2.2.2+1) 65536),true)
 else(m,t,false)
def He (t:eM)(n:Nat):Bool:=(kj t.2.1 (n:Int)).2.2&&(!decide ((n:Int)>16)&&(!decide ((n:Int)+1>mx t.1)&& !decide (eG t.2.2.1+(n:Int)+1>t.1.2.1)))
def ug (l:ay aG)(m:cg)(d:Int)(t:eM)(p:aQ)(c z:Int):cg×eM×Bool:=
 bif Od t&&(cD p&&(dF z 1 t.2.1.2.1&&dF c 1 128)) then
  bif He t (yH p z.toNat) then
   match uV l d t.2.1 z.toNat (kj t.2.1 (yH p z.toNat:Int)).2.1 (lg p).1 m []with
   |some x=>NC l m d t c (yH p z.toNat) x
   |none=>(m,t,false)
  else(m,t,false)
 else(m,t,false)
theorem NX (h:cD p=true):0<(lg p).1.length/\(lg p).1.length<=378:=by have hl:=nO p;have hs:=T7 h;unfold lg;rw[h];show 0<(mK (cQ p).1 (aU 0) (aU 0)).length/\(mK (cQ p).1 (aU 0) (aU 0)).length<=378;rw[Ew];omega
theorem ai4 (len z:Nat)(h:len<=1000)(hz:z<=1000)(h0:0<z):au (Int.tdiv (au (au ((len:Int)+(z:Int))-1)) (z:Int))=(((len+z-1)/z:Nat):Int):=by have hd:(len+z-1)/z<=len+z-1:=Nat.div_le_self ..;rw[al (n:=(len:Int)+(z:Int)),al (n:=(len:Int)+(z:Int)-1),show(len:Int)+(z:Int)-1=((len+z-1:Nat):Int) by omega,show Int.tdiv ((len+z-1:Nat):Int) (z:Int)=(((len+z-1)/z:Nat):Int) from rfl];generalize (len+z-1)/z=N at hd⊢;rw[al]
theorem VE {p:cX}(h:(kj p (n:Int)).2.2=true):dz p=true/\n<=p.2.2.2.length/\(kj p (n:Int)).2.1=p.2.2.2.take n:=by unfold kj at h⊢;cases hq:dz p&&dF (n:Int) 0 (p.2.2.2.length:Int)with|false=>rw[hq]at h;cases h|true=>simp only[ab,aX]at hq;exact⟨hq.1,by omega,rfl⟩
theorem aaE {c:Int}{z:Nat}{x:ay gV×cg}(ht:Od t=true)(hz:z<=512)(hc:dF c 1 128=true)(h0:0<n)(SM:n<=16)(hk:(kj t.2.1 (n:Int)).2.2=true)(hx:uV l d t.2.1 z (kj t.2.1 (n:Int)).2.1 s m []=some x):x.2.length=m.length/\(kq x.1 c t.2.2.2).length=n+1:=by
 obtain⟨hp,hn,hb⟩:=VE hk;rw[hb]at hx;obtain⟨h1,h2,h3⟩:=Hd l d t.2.1 z _ _ _ _ hx;simp only[dv,aY,cK]at h2;have e:x.1.length=n:=by omega
 refine⟨h1,?_⟩;rw[Tm (by omega) (by omega) (λy hy=>?_) hc (by simp only[Od,ab]at ht;exact ht.2.2.1),e];rcases h3 y hy with g|⟨⟨b,im,g⟩,g2⟩;cases g;have q1:=adf hp (List.mem_of_mem_take im);have q2:=QZ t.2.1 b;rw[g];omega
theorem abb (l:ay aG)(m:cg)(d:Int)(t:eM)(p:aQ)(c z:Int)(hl:l.length<=10^9)(hm:m.length<=10^9)(ht:agm t)(h1:t.2.2.1.length<=10^9)(h2:t.2.1.2.2.2.length+(bI t.2.2.1).length<=10^9):tG l m d t p c z=some (ug l m d t p c z):=by
 have B9:=eS;unfold tG ug;rw[gK m,ae,Gm t ht,ae,XA t h1 h2,ae,pS,dw,dw];simp only[ae];cases hb:Od t;rfl;cases hp:cD p;rfl;cases hz:dF z 1 t.2.1.2.1;rfl;cases hc:dF c 1 128;rfl;have hT:=NX hp;have hz2:=aX.1 hz;have hq:=hb;simp only[Od,ab]at hq;have DE:=Bi hq.2.1;have SM:=N2 hb;have VZ:=ma hq.1;have hnx:=aX.1 hq.2.2.1;obtain⟨z,rfl⟩:=az (by omega:0<=z);have hzn:¬(z:Int)=0:=by omega
 have hS:∀x∈t.2.2.1,0<=x.2.1/\x.2.1<=16:=λx hx=>by have:=aL.1 hq.2.2.2.1 x hx;simp only[oX,ab,aX]at this;omega
 have hcb:=DM _ hS;have hN:yH p z<=1000:=by have:yH p z<=(lg p).1.length+z-1:=Nat.div_le_self ..;omega
 have hN0:0<yH p z:=Nat.div_pos (by omega) (by omega);have hce:=ai4 (lg p).1.length z (by omega) (by omega) (by omega);rw[show((lg p).1.length+z-1)/z=yH p z from rfl]at hce;simp only[ak,af,ae,cY,ah,aA,PT,aH hzn,hce,abg _ _ (show t.2.1.2.2.2.length<=10^9 by omega),PJ,abc t (by omega) hS,He];rw[al (n:=(yH p z:Int)+1),al (n:=eG t.2.2.1+(yH p z:Int)),al (n:=eG t.2.2.1+(yH p z:Int)+1)];by_cases g1:(yH p z:Int)>16;rw[aq g1];simp only[ah,ae,ak,eZ,ee,af];rw[ar g1];simp only[bQ,af,bF];cases decide ((yH p z:Int)+1>mx t.1)with|true=>simp only[ah,ae,ak,eZ,ee,af]|false=> ?_
 simp only[bQ,af,bF,ae];cases decide (eG t.2.2.1+(yH p z:Int)+1>t.1.2.1)with|true=>simp only[ah,ae,ak,eZ,ee,af]|false=> ?_
 simp only[bQ,af,ja,ae];cases hk:(kj t.2.1 (yH p z:Int)).2.2;rfl;simp only[ak,af,ah,gK m (show m.length<=1073741824 by omega),ae];obtain⟨_,hkn,Xf⟩:=VE hk;have Zz:(kj t.2.1 (yH p z:Int)).2.1.length=yH p z:=by rw[Xf,aY];omega
 have key:=aa2 l m d t.2.1 (kj t.2.1 (yH p z:Int)).2.1 (lg p).1 z (by omega) hl hm (by omega) (by omega);cases hx:uV l d t.2.1 z (kj t.2.1 (yH p z:Int)).2.1 (lg p).1 m []with
 |none=>rw[hx]at key;obtain⟨a,b,e⟩:=key;obtain⟨f,g,_⟩:=CI [] c t.2.2.2 (by simp);rw[e,ae];simp only[g,ae];cases a<;>cases f<;>rfl
 |some x=>
  rw[hx]at key;have key:nV _ _ _ _ _ _ _=_:=key;obtain⟨x1,x2⟩:=aaE hb (by omega) hc hN0 (by omega) hk hx;obtain⟨_,x3,_⟩:=Hd l d t.2.1 z _ _ _ _ hx;simp only[dv]at x3;obtain⟨f,g,hf⟩:=CI x.1 c t.2.2.2;have hft:f=true:=by cases f with|true=>rfl|false=>have:=hf rfl;rw[this]at x2;cases x2
  subst hft;simp only[key,g,ae,ah,ak,af,aH (show¬(kq x.1 c t.2.2.2).length=0 by omega),NC];rw[Uc _ _ _ _ _ _ _ _ _ _ _ _ _ (by omega)];simp only[Xx l x.2 d t.1 _ hl (by omega) (show((kq x.1 c t.2.2.2).map jc).length<=10^9 by rw[cI];omega),ae];cases (tN l x.2 d t.1 ((kq x.1 c t.2.2.2).map jc)).2.2 with|false=>rfl|true=>simp only[ak,af,ae,ah];rw[bg (by simp only[bB];omega),kl,al,x2];rfl
def YB (g:Nat->Host->Host):Nat->Host->Host
 |0,h=>h
 |k+1,h=>g k (YB g k h)
structure O4 (a b:Host):Prop where
 maps:b.2.1=a.2.1
 tx:b.2.2.1=a.2.2.1
 rx:b.2.2.2.1.length=a.2.2.2.1.length
 pl:b.2.2.2.2.1.length=a.2.2.2.2.1.length
 vec:b.2.2.2.2.2.1=a.2.2.2.2.2.1
 pol:b.2.2.2.2.2.2.1=a.2.2.2.2.2.2.1
 ret:b.2.2.2.2.2.2.2.2.2.2.2.2.2.1=a.2.2.2.2.2.2.2.2.2.2.2.2.2.1
theorem O4.refl (a:Host):O4 a a:=⟨rfl,rfl,rfl,rfl,rfl,rfl,rfl⟩
theorem O4.trans {a b c:Host}(h:O4 a b)(k:O4 b c):O4 a c:=⟨k.1.trans h.1,k.2.trans h.2,k.3.trans h.3,k.4.trans h.4,k.5.trans h.5,k.6.trans h.6,k.7.trans h.7⟩
def ahp (h:Host)(k:Nat):Host:=YB (λi s=>(ake s i 1000).2) k h
def alY (h:Host)(l:dB):Host:=(h.1,h.2.1,h.2.2.1,h.2.2.2.1,h.2.2.2.2.1,h.2.2.2.2.2.1,h.2.2.2.2.2.2.1,h.2.2.2.2.2.2.2.1,h.2.2.2.2.2.2.2.2.1,h.2.2.2.2.2.2.2.2.2.1,h.2.2.2.2.2.2.2.2.2.2.1,h.2.2.2.2.2.2.2.2.2.2.2.1,h.2.2.2.2.2.2.2.2.2.2.2.2.1,h.2.2.2.2.2.2.2.2.2.2.2.2.2.1++l,h.2.2.2.2.2.2.2.2.2.2.2.2.2.2)
theorem abT (l:ay aG)(m:cg)(i:Nat):(qB l m i).1.length=m.length:=by unfold qB;rw[Zp,lR]
def aqb (W:ay oJ)(i:Nat)(s:Host):Host:=match W[i]? with|some x=>alY s [x.1]|none=>s
def polled (h:Host):Host:=ahp h h.2.2.2.1.length
def returned (h:Host)(k:Nat):Host:=YB (aqb h.2.2.1.2.2.1) k (polled h)
def txt (_:Int):Bytes:=[]
def Bx:(t:CT)->t.D->Nat
 | .int _,_=>1
 | .bool,_=>1
 | .str,_=>1
 | .sl e,xs=>(xs.map (Bx e)).sum
 | .pair a b,x=>Bx a x.1+Bx b x.2
def mkL (f:α->Int->α)(c:α->Nat):ay α->Int->ay α
 |[],_=>[]
 |x::xs,k=>f x k::mkL f c xs (k+c x)
def mk:(t:CT)->t.D->Int->t.D
 | .int _,_,k=>k
 | .bool,_,k=>tmod k 3==0
 | .str,_,k=>txt k
 | .sl e,xs,k=>mkL (mk e) (Bx e) xs k
 | .pair a b,x,k=>(mk a x.1 k,mk b x.2 (k+Bx a x.1))
def wt:CT->Nat
 | .sl e=>wt e
 | .pair a b=>wt a+wt b
 |_=>1
def ago (a:Act):aC Bool:=
 aa (aa (some (dF a.1 0 6)) λr1=>cond (!r1) (some true) (some (decide ((a.2.2.2.2.1.length:Int)>600)))) λq2=>
 cond q2 (some false) (
 aa (cond (a.1 !=0) (cond (!((a.2.1.1==0)&&((a.2.1.2.1==0)&&((a.2.1.2.2.1==0)&&((a.2.1.2.2.2.1==0)&&((a.2.1.2.2.2.2.1==0)&&((a.2.1.2.2.2.2.2.1==0)&&((a.2.1.2.2.2.2.2.2.1==0)&&((a.2.1.2.2.2.2.2.2.2.1==0)&&((a.2.1.2.2.2.2.2.2.2.2.1==0)&&((a.2.1.2.2.2.2.2.2.2.2.2.1==0)&&((a.2.1.2.2.2.2.2.2.2.2.2.2.1==0)&&((a.2.1.2.2.2.2.2.2.2.2.2.2.2.1==0)&&((a.2.1.2.2.2.2.2.2.2.2.2.2.2.2.1==0)&&((a.2.1.2.2.2.2.2.2.2.2.2.2.2.2.2.1==0)&&((a.2.1.2.2.2.2.2.2.2.2.2.2.2.2.2.2.1==0)&&((a.2.1.2.2.2.2.2.2.2.2.2.2.2.2.2.2.2==([]:Bytes))&&true))))))))))))))))) (some true) (cond (a.2.2.1 !=0) (some true) (some (a.2.2.2.1 !=0)))) (some false)) λq3=>
 cond q3 (some false) (
 aa (cond (a.1==2) (cond (a.1==5) (some true) (some (a.2.2.2.2.2==0))) (cond (a.2.2.2.2.1==([]:Bytes)) (cond (a.1==5) (some true) (some (a.2.2.2.2.2==0))) (some false))) λq4=>some q4))
theorem aai (a:Act):∃b,ago a=some b:=by simp only[ago,cA,ae];exact⟨_,rfl⟩
def QR (a:Act):Bool:=(ago a).getD false
theorem agp (a:Act):ago a=some (QR a):=by obtain⟨b,hb⟩:=aai a;simp[QR,hb]
theorem agQ (a:Act):CM a=some (QR a):=by rw[<-agp];unfold CM;rw[dw];rfl
theorem AI.tx (k:AI n h)(hn:n<=10^9):agm h.2.2.1:=
 have z:eI 1000000000 gI h:=k.z.mono hn
 ⟨z.2.2.1.2.1.2.2.2.1,z.2.2.1.2.2.1.1,λx hx=>(z.2.2.1.2.2.1.2 x hx).2.2.1⟩
def Au (h:Host)(p:aQ)(c z:Int):Host×Bool:=
 bif fU h then(((ug h.2.1 h.1 0 h.2.2.1 p c z).1,h.2.1,(ug h.2.1 h.1 0 h.2.2.1 p c z).2.1,h.2.2.2),(ug h.2.1 h.1 0 h.2.2.1 p c z).2.2) else(h,false)
theorem aba (h:Host)(p:aQ)(c z:Int)(k:AI 900000000 h):xj h p c z=some (Au h p c z):=by have zz:eI 1000000000 gI h:=k.z.mono;unfold xj Au;rw[jR h zz,ae,sO h (k.sz (by omega)),ae];cases fU h;rfl;simp only[ak,af,ah,abb _ _ _ _ _ _ _ zz.2.1.1 zz.1.1 (k.tx (by omega)) zz.2.2.1.2.2.1.1 (bT k.t (by omega)),ae]
theorem Pp (hn:128<=n)(l:ay aG)(d:Int)(p:cX)(z:Nat):∀(q:dB)(s:Bytes)(m:cg)(a:ay gV){x},eI n (.sl .str) m->uV l d p z q s m a=some x->eI n (.sl .str) x.2
 |[],s,m,a,x,hm,h=>by cases h;exact hm
 |b::q,s,m,a,x,hm,h=>by rw[uV]at h;cases hq:(gT l m d (nn p b) (s.take z) false).2 with|false=>rw[hq]at h;cases h|true=>rw[hq]at h;exact Pp hn l d p z q _ _ _ (H4 hn hm ..) h
theorem Km (hn:128<=n)(l:ay aG)(d:Int):∀(q:cg)(m:cg)(r:mR){x},eI n (.sl .str) m->tM l d q m r=some x->eI n (.sl .str) x.1
 |[],m,r,x,hm,h=>by cases h;exact hm
 |s::q,m,r,x,hm,h=>by rw[tM]at h;cases hq:(cR l m d r s).2.2 with|false=>rw[hq]at h;cases h|true=>rw[hq]at h;exact Km hn l d q _ _ (H5 hn hm ..) h
theorem U4 (hn:128<=n){q:cg}(hm:eI n (.sl .str) m):eI n (.sl .str) (tN l m d r q).1:=by unfold tN;cases hx:tM l d q m r with|none=>exact hm|some x=>exact Km hn l d q m r hm hx
theorem acO (p:cX)(n:Int):(kj p n).1.2.2.2.length+(kj p n).2.1.length=p.2.2.2.length:=by unfold kj;cases dz p&&dF n 0 (p.2.2.2.length:Int)with|false=>rfl|true=>simp only[ah,aP,aY];omega
theorem aaq (a:ay oJ)(x:oJ):(bI (a++[x])).length=(bI a).length+x.2.2.length:=by simp[bI]
theorem Vn:∀l:ay oJ,(∀x∈l,1<=x.2.1)->(l.length:Int)<=eG l
 |[],_=>by simp[eG]
 |y::l,h=>by have h1:=Vn l (λx hx=>h x (dS _ hx));have h2:=h y (List.mem_cons_self ..);simp only[eG,cZ,List.sum_cons,aS]at h1⊢;omega
structure ahZ (n:Nat) (m:List Bytes) (t:eM) (r:List Bytes×eM×Bool):Prop where
 mem:eI n (.sl .str) r.1
 tx:eI (n+1) nJ r.2.1
 sum:r.2.1.2.1.2.2.2.length+(bI r.2.1.2.2.1).length<=n
 w:r.2.1.2.2.1.length<=16\/r.2.1.2.2.1=t.2.2.1
theorem acr (hn:128<=n){c z:Int}(d:Int)(hm:eI n (.sl .str) m)(ht:eI n nJ t)(hs:t.2.1.2.2.2.length+(bI t.2.2.1).length<=n):ahZ n m t (ug l m d t p c z):=by
 have R8:ahZ n m t (m,t,false):=⟨hm,ht.mono,hs,Or.inr rfl⟩
 unfold ug;cases hg:Od t&&(cD p&&(dF z 1 t.2.1.2.1&&dF c 1 128));exact R8;simp only[ab]at hg;simp only[ah];generalize yH p z.toNat=k;cases hk:He t k;exact R8;simp only[ah];rcases hx:uV l d t.2.1 z.toNat (kj t.2.1 (k:Int)).2.1 (lg p).1 m []with _|x;exact R8;simp only;unfold NC;have hpm:=U4 (n:=n) hn (l:=l) (d:=d) (q:=(kq x.1 c t.2.2.2).map jc) (r:=t.1) (Pp hn l d t.2.1 z.toNat _ _ _ _ hm hx);generalize tN l x.2 d t.1 ((kq x.1 c t.2.2.2).map jc)=w at hpm⊢;cases w.2.2;exact R8;have hl:=acO t.2.1 (k:Int);have hb:=aaq t.2.2.1 (t.2.2.2,(k:Int)+1,(kj t.2.1 (k:Int)).2.1);have hb:(bI (t.2.2.1++[(t.2.2.2,(k:Int)+1,(kj t.2.1 (k:Int)).2.1)])).length=(bI t.2.2.1).length+(kj t.2.1 (k:Int)).2.1.length:=hb;refine⟨hpm,⟨⟨dq,dq,dq,dq⟩,⟨dq,dq,dq,?_,λ_ _=>trivial⟩,?_,dq⟩,?_,Or.inl ?_⟩;show(kj t.2.1 (k:Int)).1.2.2.2.length<=n+1;omega;exact I9 (t:=jW) (k:=1) ht.2.2.1 (λy hy=>by rw[bn.1 hy];exact⟨dq,dq,by show(kj t.2.1 (k:Int)).2.1.length<=n;omega,λ_ _=>trivial⟩) (by simp);show(kj t.2.1 (k:Int)).1.2.2.2.length+(bI (t.2.2.1++[(t.2.2.2,(k:Int)+1,(kj t.2.1 (k:Int)).2.1)])).length<=n;omega;show(t.2.2.1++[_]).length<=16;have hq:=hg.1;simp only[Od,ab]at hq;have VZ:=ma hq.1;have hc:=Vn t.2.2.1 (λx hx=>by have:=aL.1 hq.2.2.2.1 x hx;simp only[oX,ab,aX]at this;omega);unfold He at hk;simp only[ab,aN,cP]at hk;rw[aj,bB];omega
theorem afx (hn:1000<=n)(p:aQ)(c z:Int)(k:AI n h):AI (n+1) (Au h p c z).1:=by unfold Au;cases fU h;exact k.mono;have zz:=k.z;have s:=acr (by omega) (l:=h.2.1) (p:=p) (c:=c) (z:=z) 0 zz.1 zz.2.2.1 k.t;have z1:eI (n+1) gI h:=zz.mono;exact⟨⟨s.mem.mono,z1.2.1,s.tx,z1.2.2.2⟩,bT s.sum (by omega)⟩
def xJ (f:iV):ay Stream->Int->Int
 |[],_=> -1
 |s::r,i=>if s.1=f then i else xJ f r (i+1)
theorem XD {T:(Int->aC Int)->Int->aC Int}(a:ay Stream)(f:iV)(h:a.length<=1073741824)(hs:∀i (hi:i<a.length) nx,T nx (i:Int)=cond (decide (a[i].1=f)) (some (i:Int)) (nx ((i+1:Nat):Int)))(hf:∀nx,T nx (a.length:Int)=some (-1)): bt T fuel 0=some (xJ f a 0):=by
 have B9:=eS;have key:∀n i,i<=a.length->a.length-i<n->bt T n (i:Int)=some (xJ f (a.drop i) i):=by
  intro n;induction n with
  |zero=>intro i _ h;omega
  |succ n ih=>
   intro i hi hn;rw[bt];rcases bW i a.length with ir|zH;rw[hs i ir,ca ir,xJ];by_cases hq:a[i].1=f;simp[hq];simp only[hq,decide_false,af,cn];exact ih (i+1) (by omega) (by omega);have:i=a.length:=by omega
   subst this;rw[hf,gx];rfl
 exact key fuel 0 (by omega) (by omega)
theorem I2 (a:ay Stream)(f:iV)(h:a.length<=1073741824):jd a f=some (xJ f a 0):=by unfold jd;refine XD a f h (λi hi nx=>?_) (λnx=>?_);simp only[jy];rw[mh,bS hi,al];simp only[ah,ae,E8];rfl;simp only[jy];rw[du];rfl
theorem Mc (f:iV):∀(a:ay Stream)(i:Int),(xJ f a i= -1/\∀s∈a,s.1≠f)\/∃n:Nat,n<a.length/\xJ f a i=i+n/\∃s∈a,s.1=f
 |[],_=> .inl ⟨rfl,by simp⟩
 |s::r,i=>by unfold xJ;by_cases h:s.1=f;rw[aF h];exact .inr ⟨0,by simp,by simp,s,by simp,h⟩;rw[aH h];rcases Mc f r (i+1)with⟨h1,h2⟩|⟨n,h1,h2,s',h3,h4⟩;exact .inl ⟨h1,by intro t ht;rcases cw.1 ht with rfl|ht;exact h;exact h2 t ht⟩;exact .inr ⟨n+1,by simp;omega,by rw[h2];push_cast;omega,s',by simp[h3],h4⟩
theorem Pt (f:iV)(a:ay Stream):(xJ f a 0= -1/\∀s∈a,s.1≠f)\/∃x,0<=xJ f a 0/\idx a (xJ f a 0)=some x:=by rcases Mc f a 0 with h|⟨n,h1,h2,_⟩;exact .inl h;refine .inr ⟨a[n],by rw[h2];omega,?_⟩;rw[h2,Int.zero_add];exact bS h1
theorem acK (p q:Stream):((p.1.1==q.1.1)&&((p.1.2.1==q.1.2.1)&&((p.1.2.2.1==q.1.2.2.1)&&((p.1.2.2.2.1==q.1.2.2.2.1)&&((p.1.2.2.2.2==q.1.2.2.2.2)&&((p.2.1==q.2.1)&&((p.2.2.1==q.2.2.1)&&((p.2.2.2==q.2.2.2)&&true))))))))=decide (p=q):=by obtain⟨⟨a,b,c,d,e⟩,x,y,z⟩:=p;obtain⟨⟨a',b',c',d',e'⟩,x',y',z'⟩:=q;rw[dN];simp[and_assoc]
def zQ (a b:ay Stream)(f:iV):Bool:=
 match idx a (xJ f a 0),idx b (xJ f b 0)with
 |some x,some y=>decide (x=y)
 |_,_=>false
theorem H9 (a b:ay Stream)(f:iV)(ha:a.length<=1073741824)(hb:b.length<=1073741824):qX a b f=some (zQ a b f):=by unfold qX zQ;rw[I2 a f ha,I2 b f hb];simp only[ae,acK];rcases Pt f a with⟨h1,_⟩|⟨x,h1,h2⟩;rw[h1];rfl;rw[aq (show xJ f a 0>=0 from h1),h2];rcases Pt f b with⟨k1,_⟩|⟨y,k1,k2⟩;rw[k1];rfl;rw[aq (show xJ f b 0>=0 from k1),k2];simp
theorem SY {T:(Int->aC Bool)->Int->aC Bool}{fin:aC Bool}(p:Stream->Bool)(a:ay Stream)(h:a.length<=1073741824)(hs:∀i (hi:i<a.length) nx,T nx (i:Int)=cond (!(p a[i])) (some false) (nx ((i+1:Nat):Int)))(hf:∀nx,T nx (a.length:Int)=fin): bt T fuel 0=cond (a.all p) fin (some false):=by
 have B9:=eS;have key:∀n i,i<=a.length->a.length-i<n->bt T n (i:Int)=cond ((a.drop i).all p) fin (some false):=by
  intro n;induction n with
  |zero=>intro i _ h;omega
  |succ n ih=>
   intro i hi hn;rw[bt];rcases bW i a.length with ir|zH;rw[hs i ir,ca ir,cv];cases hq:p a[i]with|false=>rfl|true=>exact ih (i+1) (by omega) (by omega)
   have:i=a.length:=by omega
   subst this;rw[hf,gx];rfl
 exact key fuel 0 (by omega) (by omega)
theorem aeI (a b:ay Stream)(ha:a.length<=1073741824)(hb:b.length<=1073741824):mV a b=some (a.all (λs=>zQ a b s.1)&&b.all (λs=>zQ a b s.1)):=by
 unfold mV;rw[SY (λs=>zQ a b s.1) a ha (λi hi nx=>?hs) (λnx=>?hf)]
 case hs=>
  simp only[rK]
  rw[mh,bS hi,al]
  simp only[ah,ae,H9 _ _ _ ha hb]
  rfl
 case hf=>
  simp only[rK]
  rw[du]
  simp only[af]
  rfl
 rw[SY (λs=>zQ a b s.1) b hb (λi hi nx=>?hs) (λnx=>?hf)]
 case hs=>
  simp only[rL]
  rw[mh,bS hi,al]
  simp only[ah,ae,H9 _ _ _ ha hb]
  rfl
 case hf=>
  simp only[rL]
  rw[du]
  simp only[af]
  rfl
 cases a.all (λs=>zQ a b s.1)<;>cases b.all (λs=>zQ a b s.1)<;>rfl
def ic (h:Host):Int:=h.2.2.2.1.foldl (λn q=>au (n+q.2.2.2.2.2)) 0
theorem KU (h:Host)(hl:h.2.2.2.1.length<=10^9):lx h=some (ic h):=by unfold lx ic;refine fold_iter h.2.2.2.1 (λ(s:Int) i=>(s,(i:Int))) (λn q=>au (n+q.2.2.2.2.2)) (λs=>some s) (by omega) (λi hi s nx=>?_) (λs nx=>?_) 0;simp only[nu];rw[mh,bS hi,al (n:=(i:Int)+1)];rfl;simp only[nu];rw[du];rfl
def ap9 (b:Bool):Int:=bif b then 1 else 0
theorem XZ (h:df m=true)(a:Int)(s:Bytes):df (mQ m a s).1=true:=by unfold mQ;cases hw:iz m a (s.length:Int);exact h;simp only[iz,ab,aE]at hw;exact od.2 (zE s.length (od.1 hw.1) (by omega)).1
theorem UJ:∀(q:ay (Int×Int)){m:cg}(s:Bytes),df m=true->df (FF q m s)=true
 |[],_,_,h=>h
 |p::q,m,s,h=>by rw[FF];exact UJ q _ (XZ h _ _)
theorem Es (h:df m=true)(l:ay aG)(d a:Int)(s:Bytes)(w:Bool):df (gT l m d a s w).1=true:=by unfold gT;cases (kO l m d a (s.length:Int) w).2 with|false=>exact h|true=>exact UJ _ _ h
theorem Kf (h:df m=true)(l:ay aG)(d:Int)(r:mR)(s:Bytes):df (cR l m d r s).1=true:=by
 unfold cR;cases (mx r==0)||((s.length:Int) !=16);case true=>exact h
 cases (gT l m d (lp r r.2.2.2) s true).2 with|false=>exact h|true=>exact Es h ..
theorem Ey {b n x y:Int}(hb:0<=b/\b<=130944:=by omega)(hn:n=2\/n=4\/n=8\/n=16:=by omega)(hx:0<=x/\x<=2*n-1:=by omega)(hy:0<=y/\y<=2*n-1:=by omega)(hu:(y-x)%(2*n)<=n:=by omega):dx (b,n,x,y)=true:=by have hs:jf n=true:=il.2 hn;simp only[dx,bL,hs,aX.2 hb,aX.2 hx,aX.2 hy,cc,bF,aE];exact hu
theorem Fm (h:dx r=true):bL r=(r.2.2.2-r.2.2.1)%(2*r.2.1)/\0<=bL r/\bL r<=r.2.1:=by
 have k:=ma h;have e:bL r=(r.2.2.2-r.2.2.1)%(2*r.2.1):=by unfold bL;rw[aF (il.2 k.2.2.1)]
 simp only[dx,ab,aE]at h;exact⟨e,by rw[e];exact fF _ (by omega),h.2.2.2.2⟩
theorem JN {x n:Int}(hn:0<n:=by omega)(hx:0<=x/\x<=n-1:=by omega):tmod (x+1) n=if x+1=n then 0 else x+1:=by rw[dr (by omega)];split;rename_i h;rw[h];exact Int.emod_self;exact Int.emod_eq_of_lt (by omega) (by omega)
theorem aci (h:dx r=true)(hf:bL r<r.2.1):dx (r.1,r.2.1,r.2.2.1,tmod (r.2.2.2+1) (2*r.2.1))=true/\bL (r.1,r.2.1,r.2.2.1,tmod (r.2.2.2+1) (2*r.2.1))=bL r+1:=by
 have k:=ma h;have u:=Fm h;have e:=JN (x:=r.2.2.2) (n:=2*r.2.1);have u2:(tmod (r.2.2.2+1) (2*r.2.1)-r.2.2.1)%(2*r.2.1)=bL r+1:=by
  have h1:(tmod (r.2.2.2+1) (2*r.2.1)-r.2.2.1)%(2*r.2.1)=(r.2.2.2+1-r.2.2.1)%(2*r.2.1):=by rw[e];split;rename_i hh;rw[<-hh,show(r.2.2.2+1-r.2.2.1)=(0-r.2.2.1)+(r.2.2.2+1) by omega,Int.add_emod_right];rfl
  rw[h1,show r.2.2.2+1-r.2.2.1=(r.2.2.2-r.2.2.1)+1 by omega];have h0:=u.1;generalize r.2.2.2-r.2.2.1=d at h0⊢;rw[Int.add_emod,<-h0,Int.emod_eq_of_lt (a:=1) (by omega) (by omega),Int.emod_eq_of_lt (by omega) (by omega)]
 refine⟨Ey ⟨k.1,k.2.1⟩ k.2.2.1 ⟨k.2.2.2.1,k.2.2.2.2.1⟩ (by rw[e];split<;>omega) (by rw[u2];omega),?_⟩;unfold bL;rw[aF (il.2 k.2.2.1)];exact u2
theorem afm (h:dx r=true)(hf:bL r≠0):dx (r.1,r.2.1,tmod (r.2.2.1+1) (2*r.2.1),r.2.2.2)=true/\bL (r.1,r.2.1,tmod (r.2.2.1+1) (2*r.2.1),r.2.2.2)=bL r-1:=by
 have k:=ma h;have u:=Fm h;have e:=JN (x:=r.2.2.1) (n:=2*r.2.1);have u2:(r.2.2.2-tmod (r.2.2.1+1) (2*r.2.1))%(2*r.2.1)=bL r-1:=by
  have h1:(r.2.2.2-tmod (r.2.2.1+1) (2*r.2.1))%(2*r.2.1)=(r.2.2.2-(r.2.2.1+1))%(2*r.2.1):=by rw[e];split;rename_i hh;rw[<-hh,show(r.2.2.2-0)=(r.2.2.2-(r.2.2.1+1))+(r.2.2.1+1) by omega,Int.add_emod_right];rfl
  rw[h1,show r.2.2.2-(r.2.2.1+1)=(r.2.2.2-r.2.2.1)-1 by omega];have h0:=u.1;generalize r.2.2.2-r.2.2.1=d at h0⊢;rw[Int.sub_emod,<-h0,Int.emod_eq_of_lt (a:=1) (by omega) (by omega),Int.emod_eq_of_lt (by omega) (by omega)]
 refine⟨Ey ⟨k.1,k.2.1⟩ k.2.2.1 (by rw[e];split<;>omega) ⟨k.2.2.2.2.2.1,k.2.2.2.2.2.2⟩ (by rw[u2];omega),?_⟩;unfold bL;rw[aF (il.2 k.2.2.1)];exact u2
theorem aaK (h:dx r=true):mx r=r.2.1-bL r:=by have k:=ma h;have u:=Fm h;unfold mx;rw[h,ah,al]
theorem Vd (h:dx r=true)(l:ay aG)(m:cg)(d:Int)(s:Bytes):dx (cR l m d r s).2.1=true/\(cR l m d r s).2.1.2.1=r.2.1:=by
 unfold cR;cases hc:(mx r==0)||((s.length:Int) !=16);case true=>exact⟨h,rfl⟩
 cases (gT l m d (lp r r.2.2.2) s true).2 with
 |false=>exact⟨h,rfl⟩
 |true=>
  simp only[cj]at hc;have h1:mx r≠0:=by simpa using hc.1
  rw[aaK h]at h1;have u:=Fm h;exact⟨(aci h (by omega)).1,rfl⟩
theorem Qn (h:dx r=true)(l:ay aG)(m:cg)(d:Int):dx (bq l m d r).2.1=true/\(bq l m d r).2.1.2.1=r.2.1:=by
 unfold bq;cases hc: !dx r||(bL r==0);case true=>exact⟨h,rfl⟩
 cases (pq l m d (lp r r.2.2.1) 16).2 with|false=>exact⟨h,rfl⟩|true=>simp only[cj]at hc;exact⟨(afm h (by simpa using hc.2)).1,rfl⟩
theorem ad8 {n:Int}{l:dB}:(List.range l.length).all (BZ n l)=true↔(∀x∈l,0<=x/\x<=n-1)/\l.Nodup:=by
 rw[aL];constructor;intro h;have k:∀i (hi:i<l.length),(0<=l[i]/\l[i]<=n-1)/\l[i]∉l.take i:=by intro i hi;have:=h i (cy.2 hi);unfold BZ at this;rw[de hi,ab,aX]at this;exact⟨this.1,by simpa using this.2⟩
 refine⟨λx hx=>?_,?_⟩;obtain⟨i,hi,rfl⟩:=fX hx;exact(k i hi).1;rw[List.Nodup,List.pairwise_iff_getElem];intro i j hi hj hij he;refine(k j hj).2 ?_;rw[<-he];exact List.mem_take_iff_getElem.2 ⟨i,by omega,rfl⟩;rintro⟨h1,h2⟩ i hi;have hi:=cy.1 hi;unfold BZ;rw[de hi,ab,aX];refine⟨h1 _ (bE hi),?_⟩;have:l[i]∉l.take i:=by intro hm;obtain⟨j,hj,he⟩:=List.mem_take_iff_getElem.1 hm;rw[List.Nodup,List.pairwise_iff_getElem]at h2;exact h2 j i (by omega) hi (by omega) he
 simpa using this
theorem Cn {p:cX}:dz p=true↔(0<=p.1/\p.1<=130944)/\(1<=p.2.1/\p.2.1<=512)/\(0<=p.2.2.1/\p.2.2.1<=16)/\(∀x∈p.2.2.2,0<=x/\x<=p.2.2.1-1)/\p.2.2.2.Nodup:=by unfold dz;simp only[ab,aX,ad8]
theorem Eu {p:cX}(h:dz p=true){l:dB}(hl:l.Sublist p.2.2.2):dz (p.1,p.2.1,p.2.2.1,l)=true:=by have k:=Cn.1 h;exact Cn.2 ⟨k.1,k.2.1,k.2.2.1,λx hx=>k.2.2.2.1 x (hl.subset hx),k.2.2.2.2.sublist hl⟩
theorem ab9 {p:cX}(h:dz p=true)(l:dB):dz (Aa p l).1=true:=by unfold Aa;cases hg:Ab p l with|false=>exact h|true=>unfold Ab at hg;simp only[ab]at hg;exact hg.2
theorem Ib {n:Int}{s:oJ}:oX n s=true↔(1<=s.2.1/\s.2.1<=n)/\0<=s.1/\s.1<=65535:=by unfold oX;simp only[ab,aX]
structure Fy (t:eM):Prop where
 ring:dx t.1=true
 next:0<=t.2.2.2/\t.2.2.2<=65535
 sent:∀x∈t.2.2.1,(1<=x.2.1/\x.2.1<=t.1.2.1)/\0<=x.1/\x.1<=65535
 pool:dz (gZ t.2.1 (bI t.2.2.1))=true
 Bx:eG t.2.2.1<=t.1.2.1
theorem Fy.free (h:Fy t):dz t.2.1=true:=Eu h.pool (List.sublist_append_left _ _)
theorem af8:Od t=true↔Fy t:=by constructor;intro h;unfold Od at h;simp only[ab,aX,aL,Ib,aE]at h;obtain⟨h1,h2,h3,h4,h5,h6⟩:=h;unfold Ab at h5;simp only[ab]at h5;exact⟨h1,h3,h4,h5.2,h6⟩;·intro h;unfold Od Ab;simp only[ab,aX,aL,Ib,aE];exact⟨h.ring,h.free,h.next,h.sent,⟨h.free,h.pool⟩,h.Bx⟩
theorem JU (a b:ay oJ):bI (a++b)=bI a++bI b:=by simp[bI]
theorem Pc (a b:ay oJ):eG (a++b)=eG a+eG b:=by simp[eG]
theorem Pz:∀(l:ay oJ)(p:cX),dz (gZ p (bI l))=true->nj p l=gZ p (bI l)
 |[],p,_=>by simp[nj,bI,gZ]
 |x::l,p,h=>by
  have e:bI (x::l)=x.2.2++bI l:=by simp[bI]
  rw[e]at h;have h1:dz (gZ p x.2.2)=true:=Eu (p:=gZ p (x.2.2++bI l)) h (by show(p.2.2.2++x.2.2).Sublist (p.2.2.2++(x.2.2++bI l));rw[<-aD];exact List.sublist_append_left _ _);have h0:dz p=true:=Eu (p:=gZ p x.2.2) h1 (List.sublist_append_left _ _);have hg:(Aa p x.2.2).1=gZ p x.2.2:=by unfold Aa Ab;rw[h0,h1];rfl
  have ea:gZ (gZ p x.2.2) (bI l)=gZ p (x.2.2++bI l):=by simp[gZ]
  rw[nj,hg,Pz l _ (by rw[ea];exact h),ea,e]
theorem ahS (h:Fy t)(hr:dx r=true)(hn:r.2.1=t.1.2.1):Fy (r,t.2):=
 ⟨hr,h.next,λx hx=>by show(1<=x.2.1/\x.2.1<=r.2.1)/\_;rw[hn];exact h.sent x hx,h.pool,by show eG t.2.2.1<=r.2.1;rw[hn];exact h.Bx⟩
theorem VL (h:Fy t)(n:Int):Fy (lu t n).1:=by
 unfold lu;cases hc:Od t&&dF n 0 (t.2.2.1.length:Int);exact h;simp only[ab,aX]at hc;have hs:t.2.2.1.take n.toNat++t.2.2.1.drop n.toNat=t.2.2.1:=cz _ _;have hb:bI t.2.2.1=bI (t.2.2.1.take n.toNat)++bI (t.2.2.1.drop n.toNat):=by rw[<-JU,hs]
 have hp:dz (gZ t.2.1 (bI (t.2.2.1.take n.toNat)))=true:=Eu (p:=gZ t.2.1 (bI t.2.2.1)) h.pool (by show(t.2.1.2.2.2++_).Sublist (t.2.1.2.2.2++_);rw[hb];exact(List.sublist_append_left _ _).append_left _);have hg:=Pz _ _ hp;refine⟨h.ring,h.next,λx hx=>h.sent x (List.mem_of_mem_drop hx),?_,?_⟩;show dz (gZ (nj t.2.1 (t.2.2.1.take n.toNat)) (bI (t.2.2.1.drop n.toNat)))=true;rw[hg,show gZ (gZ t.2.1 (bI (t.2.2.1.take n.toNat))) (bI (t.2.2.1.drop n.toNat))=gZ t.2.1 (bI t.2.2.1) by rw[hb];simp[gZ]];exact h.pool;show eG (t.2.2.1.drop n.toNat)<=t.1.2.1;have h1:eG t.2.2.1=eG (t.2.2.1.take n.toNat)+eG (t.2.2.1.drop n.toNat):=by rw[<-Pc,hs]
 have h2:0<=eG (t.2.2.1.take n.toNat):=yI t.1.2.1 _ (by rw[aL];exact λx hx=>Ib.2 (h.sent x (List.mem_of_mem_take hx)));have:=h.Bx;omega
theorem LQ (l:ay aG)(m:cg)(d:Int):∀(n:Nat)(acc:ay Dm)(r:mR),dx r=true->dx (qN l m d n acc r).2.1=true/\(qN l m d n acc r).2.1.2.1=r.2.1
 |0,acc,r,h=>⟨h,rfl⟩
 |n+1,acc,r,h=>by have k:=ma h;have ht:=Qn h l m d;rw[qN];cases !(bq l m d r).2.2|| !(cJ (bq l m d r).1).2 with|true=>exact⟨Ey ⟨k.1,k.2.1⟩ k.2.2.1 ⟨k.2.2.2.2.2.1,k.2.2.2.2.2.2⟩ ⟨k.2.2.2.2.2.1,k.2.2.2.2.2.2⟩ (by rw[Int.sub_self,Int.zero_emod];omega),rfl⟩|false=>cases FB (cJ (bq l m d r).1).1 with|true=>exact ht|false=>have:=LQ l m d n (acc++[(cJ (bq l m d r).1).1]) _ ht.1;exact⟨this.1,this.2.trans ht.2⟩
theorem Ws (h:dx r=true)(l:ay aG)(m:cg)(d:Int):dx (dg l m d r).2.1=true/\(dg l m d r).2.1.2.1=r.2.1:=by unfold dg;cases !dx r||(bL r==0)with|true=>exact⟨h,rfl⟩|false=>exact LQ l m d _ _ _ h
theorem UU (h:dx r=true)(l:ay aG)(m:cg)(d:Int):dx (hU l m d r).1=true/\(hU l m d r).1.2.1=r.2.1:=by
 have hc:=Ws h l m d;unfold hU;cases !dx r||(bL r==0);case true=>exact⟨h,rfl⟩
 cases !(dg l m d r).2.2|| !(fC (dg l m d r).1).2.2.2;case true=>exact hc
 cases !(kT l m d (fC (dg l m d r).1).1).2||(!(wz (kT l m d (fC (dg l m d r).1).1).1).2||((jE (wz (kT l m d (fC (dg l m d r).1).1).1).1).2 !=0))with|true=>exact hc|false=>exact hc
theorem EP (l:ay aG)(m:cg)(d:Int):∀(n:Nat)(fr:cg)(dn bd:Nat)(r:mR),dx r=true->dx (ng l m d n fr dn bd r).1=true/\(ng l m d n fr dn bd r).1.2.1=r.2.1
 |0,fr,dn,bd,r,h=>⟨h,rfl⟩
 |n+1,fr,dn,bd,r,h=>by
  have k:=UU h l m d;rw[ng];cases (hU l m d r).2.2==0;case true=>exact⟨h,rfl⟩
  cases (hU l m d r).2.2==1 with|true=>have:=EP l m d n (fr++(hU l m d r).2.1) (dn+1) bd _ k.1;exact⟨this.1,this.2.trans k.2⟩|false=>have:=EP l m d n (fr++(hU l m d r).2.1) dn (bd+1) _ k.1;exact⟨this.1,this.2.trans k.2⟩
theorem H3 (l:ay aG)(d:Int):∀(q:cg)(m:cg)(r:mR){x},tM l d q m r=some x->(dx r=true->dx x.2=true/\x.2.2.1=r.2.1)/\(df m=true->df x.1=true)
 |[],m,r,x,h=>by cases h;exact⟨λh=>⟨h,rfl⟩,λh=>h⟩
 |s::q,m,r,x,h=>by rw[tM]at h;cases hq:(cR l m d r s).2.2 with|false=>rw[hq]at h;cases h|true=>rw[hq]at h;have k:=H3 l d q _ _ h;refine⟨λhr=>?_,λhm=>k.2 (Kf hm ..)⟩;have hp:=Vd hr l m d s;have:=k.1 hp.1;exact⟨this.1,this.2.trans hp.2⟩
theorem P5 (l:ay aG)(d:Int)(p:cX)(z:Nat):∀(q:dB)(s:Bytes)(m:cg)(a:ay gV){x},uV l d p z q s m a=some x->df m=true->df x.2=true
 |[],s,m,a,x,h,hm=>by cases h;exact hm
 |b::q,s,m,a,x,h,hm=>by rw[uV]at h;cases hq:(gT l m d (nn p b) (s.take z) false).2 with|false=>rw[hq]at h;cases h|true=>rw[hq]at h;exact P5 l d p z q _ _ _ h (Es hm ..)
theorem aca {p:cX}(h:dz p=true){l:dB}(hl:l.Perm p.2.2.2):dz (p.1,p.2.1,p.2.2.1,l)=true:=by have k:=Cn.1 h;exact Cn.2 ⟨k.1,k.2.1,k.2.2.1,λx hx=>k.2.2.2.1 x (hl.mem_iff.1 hx),hl.nodup_iff.2 k.2.2.2.2⟩
theorem acv (h:Fy t)(hm:df m=true)(l:ay aG)(d c:Int)(hf:He t n=true)(x:ay gV×cg)(hx:df x.2=true):df (NC l m d t c n x).1=true/\Fy (NC l m d t c n x).2.1:=by
 unfold NC tN;cases hp:tM l d ((kq x.1 c t.2.2.2).map jc) x.2 t.1 with
 |none=>exact⟨hm,h⟩
 |some y=>
  have k:=H3 l d _ _ _ hp;have kr:=k.1 h.ring;refine⟨k.2 hx,?_⟩;unfold He at hf;simp only[ab,aN,cP]at hf;have ht:kj t.2.1 (n:Int)=((t.2.1.1,t.2.1.2.1,t.2.1.2.2.1,t.2.1.2.2.2.drop n),t.2.1.2.2.2.take n,true):=by have h1:=hf.1;unfold kj at h1⊢;cases hc:dz t.2.1&&dF (n:Int) 0 (t.2.1.2.2.2.length:Int)with|false=>rw[hc]at h1;cases h1|true=>simp only[ah,aA]
  have h0:0<=eG t.2.2.1:=yI t.1.2.1 _ (by rw[aL];exact λx hx=>Ib.2 (h.sent x hx));show Fy (y.2,(kj t.2.1 (n:Int)).1,t.2.2.1++[(t.2.2.2,(n:Int)+1,(kj t.2.1 (n:Int)).2.1)],tmod (t.2.2.2+1) 65536);rw[ht];have hn:=h.next
  refine⟨kr.1,?_,?_,?_,?_⟩;have:=JN (x:=t.2.2.2) (n:=65536);show 0<=tmod (t.2.2.2+1) 65536/\tmod (t.2.2.2+1) 65536<=65535;rw[this];split<;>omega;intro s hs;show(1<=s.2.1/\s.2.1<=y.2.2.1)/\0<=s.1/\s.1<=65535;rw[kr.2];rcases ax.1 hs with hs|hs;exact h.sent s hs;rw[bn.1 hs];show(1<=(n:Int)+1/\(n:Int)+1<=t.1.2.1)/\0<=t.2.2.2/\t.2.2.2<=65535;omega;refine aca (p:=gZ t.2.1 (bI t.2.2.1)) h.pool ?_;show(t.2.1.2.2.2.drop n++bI (t.2.2.1++[_])).Perm (t.2.1.2.2.2++bI t.2.2.1);rw[JU,show bI [(t.2.2.2,(n:Int)+1,t.2.1.2.2.2.take n)]=t.2.1.2.2.2.take n by simp[bI]];refine(List.perm_append_comm_assoc _ _ _).trans ?_;refine(List.perm_append_comm).trans ?_;exact((List.perm_append_comm.trans (by rw[cz])).append_right _);show eG (t.2.2.1++[_])<=y.2.2.1;rw[Pc,kr.2,show eG [(t.2.2.2,(n:Int)+1,t.2.1.2.2.2.take n)]=(n:Int)+1 by simp[eG]];omega
theorem acu (h:Fy t)(hm:df m=true)(l:ay aG)(d:Int)(p:aQ)(c z:Int):df (ug l m d t p c z).1=true/\Fy (ug l m d t p c z).2.1:=by unfold ug;cases Od t&&(cD p&&(dF z 1 t.2.1.2.1&&dF c 1 128));exact⟨hm,h⟩;cases hf:He t (yH p z.toNat);exact⟨hm,h⟩;simp only[ah];cases hw:uV l d t.2.1 z.toNat (kj t.2.1 (yH p z.toNat:Int)).2.1 (lg p).1 m []with|none=>exact⟨hm,h⟩|some x=>exact acv h hm l d c hf x (P5 l d _ _ _ _ _ _ hw hm)
end
end Go.Pu
