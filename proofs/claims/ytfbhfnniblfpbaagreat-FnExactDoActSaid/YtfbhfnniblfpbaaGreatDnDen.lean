import Derived.Test.YtfbhfnniblfpbaaGreatDnCall
/- The soundness of the abstract semantics: operations, regions, loops, functions. -/
namespace Go.Dn
open Go.RowKit
variable {P:Program} {C:Ctx} {st:AS} {a:Act} {w:World} {R:Type} {r:R}
variable {an:An} {Γ:xO} {d:Nat} {x:Operand}
theorem acC:∀(os ss:ar AC){r:ar AC},mQ os ss=some r->r.all AC.Yu=true/\r.map AC.strip=r:=by
 intro os;induction os with
 |nil=>intro ss r h;cases ss with|nil=>simp[mQ]at h;subst h;exact⟨rfl,rfl⟩|cons _ _=>simp[mQ]at h
 |cons o os ih=>
  intro ss r h;cases ss with
  |nil=>unfold mQ at h;split at h<;>first|contradiction|cases h
  |cons s ss=>
   unfold mQ at h;split at h;contradiction;rename_i h1 h2;injection h1 with h1 Om;subst Om;injection h2 with h2 Un;subst Un;rw[Bool.cond_eq_ite]at h;split at h;obtain⟨r',hr,h⟩:=aL.1 h;cases h;obtain⟨k1,k2⟩:=ih _ hr;exact⟨by simp[AC.Yu,k1],by simp[AC.strip,k2]⟩;cases h
   all_goals first
    |cases h
    |(rename_i h1 h2
      injection h1 with h1 Om;subst Om
      injection h2 with h2 Un;subst Un
      obtain⟨r',hr,h⟩:=aL.1 h
      cases h
      obtain⟨k1,k2⟩:=ih _ hr
      exact⟨by simp[AC.Yu,AC.gu,k1],by simp[AC.strip,k2]⟩)
theorem aag:∀{cs:ar AC},cs.all AC.Yu=true->∀{c:RC}{A:Rg}{hw:Nat->Nat}{w:World}{vs:ic}{fp:dV},bn (eQ A hw w) vs cs fp->c.w=w->c.hw=hw->bn c vs (cs.map AC.strip) fp
 |[],_,c,A,hw,w,vs,fp,h,_,_=>by cases vs with|nil=>exact h|cons _ _=>exact h.elim
 |x::cs,ko,c,A,hw,w,vs,fp,h,MT,BU=>by
  cases vs with
  |nil=>exact h.elim
  |cons v vs=>
   obtain⟨f1,f2,rfl,h1,h2⟩:=h;simp only[bN,ah]at ko;refine⟨f1,f2,rfl,?_,aag ko.2 h2 MT BU⟩;cases x with
   |sl fl e xs=>cases fl with|own t=>exact⟨by rw[MT,BU];exact h1.1,by simp⟩|arg _=>cases ko.1|loc _ _=>cases ko.1|nest _ _ _ _ _ _=>cases ko.1|part _ _ _ _=>cases ko.1|fe _ _ _=>cases ko.1
   |int k n=>exact h1
   |bool b=>exact h1
   |str s=>exact h1
   |fn f=>exact h1
   |jw=>cases ko.1
   |ptr s off=>cases ko.1
   |C1 fl e y i off=>cases ko.1
   |un=>cases ko.1
   |bot=>cases ko.1
theorem dw.ahn {g:Gh}(h:dw C g st a w []){v:AV}{st':AS}(hc:SI st x=some (v,st')):∃g',(∀s,g'.β s=g.β s)/\dw C g' st' a w [(a.eval x,v)]:=by
 unfold SI at hc;have JZ:=h.rd x;split at hc;rename_i gg cs hx;rw[hx]at JZ;obtain⟨vs0,ee,GY⟩:=JZ;split at hc;rename_i rt j Ou;split at hc;rename_i DW eR;split at hc;rename_i na GZ;cases hc;have S5:=IJ _ _ GZ;have JX:=acC _ _ GZ
 have core:∀(o:jc)(Zs:AS){vs:ic}{fp:dV},bn (cy C g st w) vs DW fp->fp.Nodup->(∀b∈fp,g.dJ b=some o)->Zs.ep=st.ep->Zs.iss=st.iss->(∀s,gx st s->gx Zs s)->
  ∃f1 f2 f3,fp=f1++f2++f3/\(∀b∈f1++f3,b∉f2)/\
   (cy C g st w).Le (cy C {g with dJ:=λb=>if b∈f2 then some (.hand 0) else g.dJ b} Zs w)/\
   bn (cy C {g with dJ:=λb=>if b∈f2 then some (.hand 0) else g.dJ b} Zs w) vs (da DW (rt.pos-j) (aR st.ep ((DW.drop (rt.pos-j)).take cs.length))) (f1++f3)/\(f1++f3).Nodup/\
   K4 C {g with dJ:=λb=>if b∈f2 then some (.hand 0) else g.dJ b} Zs w 0 (a.eval x) (.val gg na):=by
  intro o Zs vs fp hr hn hl xQ Gv qR
  obtain⟨f1,f2,f3,rfl,r1,r2,r3⟩:=hr.mid (rt.pos-j) cs.length
  have BZ:=hn
  rw[aN]at BZ
  have n1:=aB.1 BZ
  have n2:=aB.1 n1.2.1
  have hle:(cy C g st w).Le (cy C {g with dJ:=λb=>if b∈f2 then some (.hand 0) else g.dJ b} Zs w):=
   ⟨rfl,λt ht=>⟨by show lI Zs t;have Up:lI st t:=ht;simpa[lI,Gv]using Up,rfl⟩,λ_ _ _ _ _ hu=>hu,by show st.ep<=Zs.ep;omega,λs hs=>⟨qR s hs,rfl⟩,λ_ b o u ho hu=>⟨ho,hu⟩⟩
  refine⟨f1,f2,f3,rfl,?_,hle,?_,?_,?_⟩
  ·intro b hb h2
   rcases az.1 hb with hb|hb
   ·exact n1.2.2 b hb b (bg _ h2) rfl
   ·exact n2.2.2 b h2 b hb rfl
  ·have J1:=Jv (c':=cy C {g with dJ:=λb=>if b∈f2 then some (.hand 0) else g.dJ b} Zs w) (seg:=aR st.ep ((DW.drop (rt.pos-j)).take cs.length)) rfl (by rw[r2.length];exact S5)
    (r1.mono hle (λb _=>⟨rfl,rfl⟩)) ((r2.aR).mono hle (by simp)) (r3.mono hle (λb _=>⟨rfl,rfl⟩))
   rw[bp]at J1
   exact J1
  ·refine aB.2 ⟨n1.1,n2.2.1,?_⟩
   rintro b hb c hc rfl
   exact n1.2.2 b hb b (ba _ hc) rfl
  ·have ahO:=Pm (A:=λ_ _ _=>False) _ _ GZ GY r2
   have uu:=aag JX.1 (c:=cy C g st w) ahO rfl rfl
   rw[JX.2]at uu
   refine⟨f2,⟨vs0,ee,uu.mono hle (λb _=>⟨rfl,rfl⟩)⟩,n2.1,λb hb=>?_⟩
   show(if b∈f2 then _ else _)=_
   rw[aG hb]
 have OP:∀(f2:dV)(o:jc),(∀b∈f2,g.dJ b=some o)->∀b y,(if b∈f2 then some (jc.hand 0) else g.dJ b)=some y->b<w.heap.size/\(C.w0.heap.size<=b\/C.M b):=by intro f2 o hf b y hy;by_cases hm:b∈f2;exact h.fA b _ (hf b hm);rw[aF hm]at hy;exact h.fA b y hy
 have Yz:∀(f2:dV)(o:jc),(∀b∈f2,g.dJ b=some o)->∀b y,y≠o->g.dJ b=some y->(if b∈f2 then some (jc.hand 0) else g.dJ b)=some y:=by intro f2 o hf b y hyo hb;rw[aF (λhm=>hyo (by have:=hf b hm;rw[hb]at this;simpa using this))];exact hb
 have hh1:∀{g2:Gh}{Zs:AS},K4 C g2 Zs w 0 (a.eval x) (.val gg na)->∀k u bv,[(a.eval x,AV.val gg na)][k]?=some (u,bv)->K4 C g2 Zs w k u bv:=by
  intro g2 Zs hh k u bv hk;cases k with
  |zero=>simp only[cq,aZ,Prod.mk.injEq]at hk;obtain⟨rfl,rfl⟩:=hk;exact hh
  |succ k=>simp at hk
 cases rt with
 |slot s j0=>
  simp only[AS.tZ]at eR;cases hg:st.get s with
  |vQ ts=>rw[hg]at eR;cases eR
  |val g1 cs1=>
   rw[hg]at eR;cases eR;have lE:∀Gy,st.qb (.slot s j0) Gy={st with slots:=st.slots.set s (.val g1 Gy)}:=λGy=>by simp only[AS.qb,hg,AS.put,eV]
   obtain⟨fp,hr,hn,hl⟩:=h.slot s;rw[hg]at hr;obtain⟨vs,JV,hr⟩:=hr;obtain⟨f1,f2,f3,rfl,Ap,hle,J1,Jg,GU⟩:=core (.slot s) (st.qb (.slot s j0) (da DW (kq.pos (.slot s j0)-j) (aR st.ep ((DW.drop (kq.pos (.slot s j0)-j)).take cs.length)))) hr hn hl (by rw[lE]) (by rw[lE]) (λ_ q=>by rw[lE];exact q);have HM:∀b∈f2,g.dJ b=some (.slot s):=λb hb=>hl b (by simp[hb]);refine⟨{g with dJ:=λb=>if b∈f2 then some (.hand 0) else g.dJ b},λ_=>rfl,h.step (λy=>y≠ .slot s) hle h.defers ?_ ?_ h.frame (OP f2 _ HM) (λb y hk hb=>⟨Yz f2 _ HM b y hk hb,rfl,rfl⟩) ?_ ?_ (λk u bv hk=> .inr (hh1 GU k u bv hk)) (.inl ⟨by simp,by rw[lE]⟩)⟩;rw[lE];simpa using h.size;rw[lE];simpa using h.bsize;intro i bv hi;rw[lE]at hi;have rF:(st.slots.set s (.val g1 _))[i]?=some bv:=hi;by_cases X6:i=s;subst X6;rw[bk]at rF;simp only[bL]at rF;split at rF;simp at rF;subst rF;refine .inr ⟨f1++f3,⟨vs,JV,J1⟩,Jg,λb hb=>?_⟩;show(if b∈f2 then _ else _)=_;rw[aF (Ap b hb)];exact hl b (by rcases az.1 hb with k|k<;>simp[k]);cases rF;rw[aO (cG X6)]at rF;exact .inl ⟨by simpa using X6,rF,rfl⟩;intro t Gy hb;rw[lE]at hb;exact .inl ⟨by simp,hb,rfl⟩
 |box s j0=>
  have jA:st.boxes[s]?=some (some DW):=by simp only[AS.tZ,dA]at eR;cases hb:st.boxes[s]? with|none=>simp[hb]at eR|some q=>rw[hb]at eR;simp at eR;rw[eR]
  have xW:s<st.boxes.length:=(aD.1 jA).1;have lE:∀Gy,st.qb (.box s j0) Gy={st with boxes:=st.boxes.set s (some Gy)}:=λGy=>by simp only[AS.qb,AS.eD,eV]
  obtain⟨arr,T,fr,fp,jr,qS,hr,hn,tc,hl,Ih,Ix⟩:=h.boxes s DW jA;obtain⟨f1,f2,f3,rfl,Ap,hle,J1,Jg,GU⟩:=core (.box s) (st.qb (.box s j0) (da DW (kq.pos (.box s j0)-j) (aR st.ep ((DW.drop (kq.pos (.box s j0)-j)).take cs.length)))) hr hn hl (by rw[lE]) (by rw[lE]) (λt ht=>by rw[lE];obtain⟨c0,Xa⟩:=ht;by_cases qT:s=t;subst qT;exact⟨_,by simp[xW];rfl⟩;exact⟨c0,by rw[aO qT];exact Xa⟩);have HM:∀b∈f2,g.dJ b=some (.box s):=λb hb=>hl b (by simp[hb]);refine⟨{g with dJ:=λb=>if b∈f2 then some (.hand 0) else g.dJ b},λ_=>rfl,h.step (λy=>y≠ .box s) hle h.defers ?_ ?_ h.frame (OP f2 _ HM) (λb y hk hb=>⟨Yz f2 _ HM b y hk hb,rfl,rfl⟩) ?_ ?_ (λk u bv hk=> .inr (hh1 GU k u bv hk)) (.inl ⟨by simp,by rw[lE]⟩)⟩;rw[lE];exact h.size;rw[lE];simpa using h.bsize;intro i bv hi;rw[lE]at hi;exact .inl ⟨by simp,hi,rfl⟩;intro t Gy hb;rw[lE]at hb;have gH:(st.boxes.set s (some _))[t]?=some (some Gy):=hb;by_cases qT:t=s;subst qT;rw[bk]at gH;simp only[bL,xW]at gH;simp at gH;subst gH;have Ji:g.β t∉f2:=λhm=>tc (by simp[hm]);refine .inr ⟨arr,T,fr,f1++f3,jr,qS,J1,Jg,λhm=>tc (by rcases az.1 hm with k|k<;>simp[k]),λb hb=>?_,?_,Ix⟩;show(if b∈f2 then _ else _)=_;rw[aF (Ap b hb)];exact hl b (by rcases az.1 hb with k|k<;>simp[k]);show(if g.β t∈f2 then _ else _)=_;rw[aF Ji];exact Ih;rw[aO (cG qT)]at gH;exact .inl ⟨by simpa using qT,gH,rfl⟩
 |io j0=>simp only[AS.tZ,aZ]at eR;subst eR;obtain⟨fp,hr,hn,hl⟩:=h.io;obtain⟨f1,f2,f3,rfl,Ap,hle,J1,Jg,GU⟩:=core .io (st.qb (.io j0) (da st.io (kq.pos (.io j0)-j) (aR st.ep ((st.io.drop (kq.pos (.io j0)-j)).take cs.length)))) hr hn hl rfl rfl (λ_ q=>q);have HM:∀b∈f2,g.dJ b=some .io:=λb hb=>hl b (by simp[hb]);refine⟨{g with dJ:=λb=>if b∈f2 then some (.hand 0) else g.dJ b},λ_=>rfl,h.step (λy=>y≠ .io) hle h.defers h.size h.bsize h.frame (OP f2 _ HM) (λb y hk hb=>⟨Yz f2 _ HM b y hk hb,rfl,rfl⟩) (λi bv hi=> .inl ⟨by simp,hi,rfl⟩) (λt Gy hb=> .inl ⟨by simp,hb,rfl⟩) (λk u bv hk=> .inr (hh1 GU k u bv hk)) (.inr ⟨f1++f3,J1,Jg,λb hb=>?_⟩)⟩;show(if b∈f2 then _ else _)=_;rw[aF (Ap b hb)];exact hl b (by rcases az.1 hb with k|k<;>simp[k])
 cases hc;cases hc;cases hc;cases hc
theorem abS {o:Oper}(ho:o.op=.assign x)(h:nt C st a w){K:AS->aw R}(hk:RE o x st K=some r):mZ P C o a w K r:=by
 have dI:(execOp a.eval o).run P w=.ok (.value (a.eval x)) w:=by simp[execOp,ho]
 obtain⟨g,hg⟩:=h;unfold RE at hk;split at hk;rename_i v st' hc;obtain⟨g',_,mY⟩:=hg.ahn hc;exact⟨_,_,_,.inl dI,dw.Fs mY o.dst,hk⟩;cases hk
theorem PF {E:Env}(hE:jm P E.ty){o:Oper}{T:TypeId}{p:Operand}(hd:o.dst=none)(ho:o.op=.store T p x)(h:nt C st a w){K:AS->aw R}(hk:yp E T p x st K=some r):mZ P C o a w K r:=by obtain⟨g,hg⟩:=h;unfold yp at hk;split at hk;rename_i sh s off hT hp;have vO:=hg.rd p;rw[hp]at vO;have vO:=Dv vO;split at hk;rename_i gg vs st' hc;obtain⟨g',Ji,mY⟩:=hg.ahn hc;split at hk;rename_i cs jA;split at hk;rename_i hlen;split at hk;rename_i gF;exact IS hE hd ho hT (by rw[Ji];exact vO) mY jA hlen.1 hlen.2 gF hk;cases hk;cases hk;cases hk;cases hk;cases hk
structure Sound (P:Program) (E:Env) (Γ:xO):Prop where
 ty:jm P E.ty
 eqs:Uv P E.eqs
 fts:ZL P E.fts
 fns:∀f,kV P f (Γ f)
 mixed:P.follows .mixedOrders=true
theorem mZ.wp {o:Oper}{K:AS->aw R}(h:mZ P C o a w K r)(next:Act->World->Prop)(Q:Exit->Act->World->Prop)(fO:∀st' a' w',nt C st' a' w'->K st'=some r->next a' w'):o.wp P a w next Q:=by obtain⟨v,w',st',dI,hs,hk⟩:=h;unfold Oper.wp;rcases dI with dI|⟨rfl,dI⟩;rw[dI];exact fO _ _ _ hs hk;rw[dI];exact fO _ _ _ hs hk
theorem aaD {E:Env}(hS:Sound P E Γ){o:Oper}(h:nt C st a w){K:AS->aw R}(hk:db E Γ an o st K=some r)(next:Act->World->Prop)(Q:Exit->Act->World->Prop)(fO:∀st' a' w',nt C st' a' w'->K st'=some r->next a' w'):o.wp P a w next Q:=by
 unfold db at hk;split at hk;·rename_i x ho;exact(ab0 ho h hk).wp next Q fO
 ·rename_i x ho;split at hk;·exact(abS ho h hk).wp next Q fO
  ·exact(UD ho h hk).wp next Q fO
 ·rename_i c x y ho;exact(acu ho h hk).wp next Q fO
 ·rename_i T ho;exact(Xo hS.ty ho h hk).wp next Q fO
 ·rename_i T x ho;exact(adq ho h hk).wp next Q fO
 ·rename_i T p ho;exact(abW hS.ty ho h hk).wp next Q fO
 ·rename_i T p x ho;split at hk
  ·rename_i hd;split at hk;·exact(PF hS.ty hd ho h hk).wp next Q fO
   ·exact(Zv hS.ty hd ho h hk).wp next Q fO
  cases hk
 ·rename_i x ho;split at hk;·rename_i s off hx;exact(QD ho h hx hk).wp next Q fO
  ·rename_i fl e y i off hx;exact(LC ho h hx hk).wp next Q fO
  cases hk
 ·rename_i op T x y T' ho;exact(ado hS.ty hS.eqs ho h hk).wp next Q fO
 ·rename_i op T x ho;exact(ahe ho h hk).wp next Q fO
 ·rename_i S p f ho;exact(XU hS.ty ho h hk).wp next Q fO
 ·rename_i T x i ho;exact(OL hS.ty ho h hk).wp next Q fO
 ·rename_i T x i ho;exact(Yr hS.ty ho h hk).wp next Q fO
 ·rename_i T parts ho;exact(Xz hS.ty ho h hk).wp next Q fO
 ·rename_i T len parts ho;exact(MR hS.ty ho h hk).wp next Q fO
 ·rename_i T n c ho;exact(OU hS.ty ho h hk).wp next Q fO
 ·rename_i T x lo hi ho;exact(Zc hS.ty ho h hk).wp next Q fO
 ·rename_i S t f ho;exact(UY hS.ty hS.fts ho h hk).wp next Q fO
 ·rename_i args ts ho;exact(aaW hS.ty ho h hk).wp next Q fO
 ·rename_i src dst x ho;exact(SK hS.ty ho h hk).wp next Q fO
 ·rename_i t i ho;exact(SU ho h hk).wp next Q fO
 ·rename_i args ts ho;exact(aeN hS.ty ho h hk).wp next Q fO
 ·rename_i args ts ho;exact(aeT ho h hk).wp next Q fO
 ·rename_i args ts ho;exact(aeS ho h hk).wp next Q fO
 ·rename_i args ts ho;exact(UA hS.ty ho h hk).wp next Q fO
 ·rename_i f args ts ho;exact af3 hS.fns ho h hk next Q fO
 cases hk
theorem nt.forget (h:nt C st a w)(d:aw Nat):nt C (st.put d (.one .un)) (a.put d undef) w:=h.put d (λ_ _=>mN ⟨rfl,rfl⟩)
theorem nt.known (h:nt C st a w){b:Bool}(hg:st.get d=.val false [.bool b]):a.tmps.getD d undef=.bool b:=by obtain⟨g,mY⟩:=h;obtain⟨fp,hr,_⟩:=mY.slot d;rw[hg]at hr;exact xg hr
theorem TM:a.put (some d) (a.tmps.getD d undef)=a:=by cases a with|mk tmps defers=>simp only[Act.put];congr 1;apply Array.ext_getElem?;intro i;rw[Array.getElem?_setIfInBounds];by_cases h:d=i;subst h;by_cases hs:d<tmps.size;simp[hs,Array.getD];simp[hs];simp[h]
theorem nt.refine(h:nt C st a w){b:Bool}(hg:st.get d=.val false [.bool b]):nt C (st.put (some d) (.one (.bool b))) a w:=by have hk:=h.known hg;have:=h.put (some d) (v:=.bool b) (av:=.one (.bool b)) (λ_ _=>mN ⟨rfl,rfl⟩);rw[<-hk,TM]at this;exact this
theorem Va {E:Env}(hS:Sound P E Γ){ops:Array Oper}{o:Oper}(h:nt C st a w){K:AS->aw R}(hk:gy E Γ an ops.toList o st K=some r)(next:Act->World->Prop)(Q:Exit->Act->World->Prop)(fO:∀st' a' w',nt C st' a' w'->K st'=some r->next a' w'): if Region.wanted o (yielded ops a.tmps) then o.wp P a w next Q\/(o.asks P a w/\LetsOut Q) else next (a.put o.dst undef) w:=by
 unfold gy at hk;split at hk;·rename_i hgd;rw[aG (by simp[Region.wanted,hgd])];exact .inl (aaD hS h hk next Q fO)
 ·rename_i j JA hgd;split at hk
  ·rename_i d abh;have ahq:(ops[j]?).bind (·.dst)=some d:=by rw[dA]at abh;simpa using abh
   split at hk
   ·rename_i b hb;have hkn:=h.known hb;have hdl:d<a.tmps.size:=by rcases bQ d a.tmps.size with gV|BD;exact gV;simp[Array.getD,Nat.not_lt.2 BD,undef]at hkn
    have hy:yielded ops a.tmps j=some b:=by
     unfold yielded;rw[ahq];have:a.tmps[d]?=some (.bool b):=by rw[Array.getElem?_eq_getElem hdl];simp[Array.getD,hdl]at hkn;rw[hkn]
     simp[this]
    have hr:=h.refine hb
    have main:∀t,b=t->(if t==JA then db E Γ an o (st.put (some d) (.one (.bool t))) K else K ((st.put (some d) (.one (.bool t))).put o.dst (.one .un)))=some r->
     if Region.wanted o (yielded ops a.tmps) then o.wp P a w next Q\/(o.asks P a w/\LetsOut Q) else next (a.put o.dst undef) w:=by
     rintro t rfl hk
     have hw:Region.wanted o (yielded ops a.tmps)=(b==JA):=by simp only[Region.wanted,hgd,hy];cases b<;>cases JA<;>rfl
     rw[hw]
     cases hbw:(b==JA)with
     |true=>
      rw[hbw]at hk
      simp only[bL]at hk⊢
      exact .inl (aaD hS hr hk next Q fO)
     |false=>
      rw[hbw]at hk
      simp only[aY,cc]at hk⊢
      exact fO _ _ _ (hr.forget o.dst) hk
    cases b with|true=>exact main true rfl hk|false=>exact main false rfl hk
   rename_i hb;obtain⟨g,hg⟩:=id h;obtain⟨fp,hr,_⟩:=hg.slot d;rw[hb]at hr;have hun:=(dQ hr).1;have hy:yielded ops a.tmps j=none:=by
    unfold yielded;rw[ahq];simp only[eu];rcases bQ d a.tmps.size with gV|BD;have:a.tmps[d]?=some undef:=by rw[Array.getElem?_eq_getElem gV];simp[Array.getD,gV]at hun;rw[hun]
    rw[this];rfl;rw[Array.getElem?_eq_none BD]
   have hw:Region.wanted o (yielded ops a.tmps)=false:=by simp only[Region.wanted,hgd,hy];cases JA<;>rfl
   rw[hw];exact fO _ _ _ (h.forget o.dst) hk;cases hk
  cases hk
theorem ae4 {E:Env}(hS:Sound P E Γ){ops:Array Oper}{Q:Exit->Act->World->Prop}{K:AS->aw R}
 (hq:∀st' a' w',nt C st' a' w'->K st'=some r->Q .normal a' w'):∀(n i:Nat)(st:AS)(a:Act)(w:World),i+n=ops.size->nt C st a w->TF E Γ an ops.toList (ops.toList.drop i) st K=some r->
  wpOps P ops Q ((List.range' i n)) a w
 |0,i,st,a,w,hi,h,hk=>by rw[cQ (by simp;omega)]at hk;exact hq st a w h hk
 |n+1,i,st,a,w,hi,h,hk=>by
  have Ov:i<ops.toList.length:=by simp;omega
  rw[cl Ov]at hk;have ho:ops[i]?=some ops.toList[i]:=by rw[<-cg];exact al Ov
  rw[List.range'_succ,wpOps,ho];simp only;have:=Va hS (ops:=ops) h hk (wpOps P ops Q (List.range' (i+1) n)) Q (λst' a' w' hs GV=>ae4 hS hq n (i+1) st' a' w' (by omega) hs GV);exact this
end Go.Dn
