import Derived.Test.YtgbaemfepmabgaaGreatPuX3
namespace Go.Pu
open Go.Dn
set_option linter.unusedSimpArgs false
set_option linter.unusedVariables false
noncomputable section
/- FnStamps, the plain law. -/
def px (a:dj):Bool:=(a.1==0)&&(a.2.2.1.1==2)
structure D8 (n:Nat) (t:Int) (l:List Int):Prop where
 len:l.length=n
 up:∀i x y,l[i]?=some x->l[i+1]?=some y->x<=y
 le:∀x∈l,x<=t
theorem D8.ahq {n:Nat}{t u:Int}{l:bN}(s:D8 n t l)(h:t<=u):D8 n u l:=⟨s.len,s.up,λx hx=>by have:=s.le x hx;omega⟩
theorem D8.add {n:Nat}{t:Int}{l:bN}(s:D8 n t l):D8 (n+1) t (l++[t]):=by
 refine⟨by simp[s.len],λi x y h1 h2=>?_,λx hx=>?_⟩;rcases bV (i+1) l.length with h|h;rw[List.getElem?_append_left (by omega)]at h1;rw[List.getElem?_append_left h]at h2;exact s.up i x y h1 h2;obtain⟨hi,e⟩:=List.getElem?_eq_some_iff.1 h2;have e0:i+1=l.length:=by simp at hi;omega
 rw[List.getElem?_append_left (by omega)]at h1;have h3:=s.le x (List.mem_of_getElem? h1);rw[List.getElem?_append_right h,e0,gK]at h2;have:t=y:=bM h2;omega;rcases ay.1 hx with h|h;exact s.le x h;rw[bu.1 h];exact cu _
theorem UC (a:bN)(ha:abS (.sl (.int .u8)) a):zP a=some true:=by
 refine Ends.true ?_;unfold zP;refine air rfl λhl=>?_;rw[af];refine(Zw hl).bind λr2 p2=>?_;obtain⟨c0,l⟩:=r2;simp only at p2⊢;obtain⟨d,hn,hact⟩:=p2;have s0:c0.2.2.2.2.2.1=[]:=congrArg (·.1) d.rest;refine(W3 d (by omega) hact (λi c=>D8 ((l.take i).countP px) c.2.2.2.2.1.1 c.2.2.2.2.2.1/\c0.2.2.2.2.1.1<=c.2.2.2.2.1.1) ⟨⟨by rw[s0];rfl,by rw[s0];intro i x y h;simp at h,by rw[s0];intro x h;simp at h⟩,cu _⟩ λi c r hi p q dn=>?_).bind λr3 p3=>?_;refine⟨?_,by have:=dn.clock;have:=p.2;omega⟩;rw[dn.stamps,aW hi,List.countP_append];by_cases h:l[i].1=0/\l[i].2.2.1.1=2;have e:px l[i]=true:=by unfold px;rw[h.1,h.2];rfl
 rw[aF h,List.countP_singleton,e];exact(p.1.add).ahq dn.clock;have e:px l[i]=false:=by unfold px;rw[Bool.and_eq_false_iff,bP,bP];omega
 rw[aD h,bw,List.countP_singleton,e];exact p.1.ahq dn.clock;obtain⟨run,⟨st,ck⟩,len⟩:=p3;rw[cm]at st;have hcl:l.countP px<=l.length:=List.countP_le_length;refine Ends.uN (λx=>0<=x.2/\x.2<=(l.length:Int)/\x.1=((l.take x.2.toNat).countP px:Int)) (λx=>((l.length:Int)-x.2).toNat) ⟨by simp,by simp,by simp⟩ (by simp;omega) λx nx hx hn2=>?_;obtain⟨n,i⟩:=x;obtain⟨x1,x2,x3⟩:=hx;simp only at x1 x2 x3;obtain⟨i,rfl⟩:∃k:Nat,i=k:=⟨i.toNat,by omega⟩
 rw[ax]at x3;have hc:(l.take i).countP px<=l.length:=bm List.countP_le_length (by rw[aO];omega);unfold uZ;refine Ends.cond (λk=>?_) λk=>?_;have k:=bn k;simp only at k⊢;have hi:i<l.length:=by omega
 have e:aq ((i:Int)+1)=(i:Int)+1:=ak;have go:∀m,m=n+(bif px l[i] then 1 else 0)->Ends (nx (m,(i:Int)+1)) (λb=>b=true):=by
  intro m hm;refine hn2 _ ⟨by show 0<=(i:Int)+1;omega,by show(i:Int)+1<=_;omega,?_⟩ (by show((l.length:Int)-((i:Int)+1)).toNat<((l.length:Int)-(i:Int)).toNat;omega);show m=((l.take ((i:Int)+1).toNat).countP px:Int)
  rw[show((i:Int)+1).toNat=i+1 by omega,aW hi,List.countP_append,List.countP_singleton,hm,x3];cases px l[i]<;>simp
 rw[bp hi,ab,e];refine Ends.cond (λk1=>?_) λk1=>?_;rw[ab,XC,ab];have e2:px l[i]=(l[i].2.2.1.1==2):=by unfold px;rw[k1];rfl
 rw[<-e2];rw[ak (by unfold WH;cases px l[i]<;>simp<;>omega) (by unfold WH;cases px l[i]<;>simp<;>omega)];exact go _ rfl;rw[XC,ab];have e2:px l[i]=false:=by unfold px;rw[k1];rfl
 rw[ak (by unfold WH;simp;omega) (by unfold WH;simp;omega)];exact go _ (by rw[e2];rfl);have k:=of_decide_eq_false k;simp only at k⊢;have e:i=l.length:=by omega
 subst e;rw[cm]at x3;have hlen:=st.len;refine Ends.uN (λy=>1<=y/\y<=1+(r3.1.2.2.2.2.2.1.length:Int)) (λy=>((r3.1.2.2.2.2.2.1.length:Int)+1-y).toNat) ⟨by omega,by omega⟩ (by omega) λy ny hy hm=>?_;unfold um;refine Ends.cond (λk1=>?_) λ_=>?_;have k1:=bn k1;obtain⟨j,rfl⟩:∃k:Nat,y=(k:Int)+1:=⟨(y-1).toNat,by omega⟩
 have h1:j<r3.1.2.2.2.2.2.1.length:=by omega
 have h2:j+1<r3.1.2.2.2.2.2.1.length:=by omega
 rw[ak (n:=(j:Int)+1-1),ak (n:=(j:Int)+1+1)];rw[show((j:Int)+1)=((j+1:Nat):Int) by omega,bp h2,ab,show((j+1:Nat):Int)-1=(j:Int) by omega,bp h1,ab];have up:=st.up j _ _ (List.getElem?_eq_getElem h1) (List.getElem?_eq_getElem h2);rw[gT,af];exact hm _ ⟨by omega,by omega⟩ (by omega);rw[s0,x3,hlen,len];rw[ak (by simp<;>omega) (by simp<;>omega)];simp only[du,Int.ofNat_zero,Int.zero_add,beq_self_eq_true,ah,ab,Int.natCast_zero];exact Ends.pure (ar ck)
end
end Go.Pu
