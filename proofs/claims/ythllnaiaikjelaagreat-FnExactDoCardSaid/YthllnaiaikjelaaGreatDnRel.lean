import Derived.Test.YthllnaiaikjelaaGreatDnBase
import Derived.Below
import Derived.Laws.StructEq
import Derived.Orders
/- What the abstract values mean in the model's memory, and how that meaning lasts while memory grows. -/
namespace Go.Dn
open Go.RowKit
variable {hw:Nat->Nat} {α:Type} {fp:ec}
theorem dV (l:ar α)(i:Nat):nth l i=l[i]?:=by induction l generalizing i with|nil=>simp[nth]|cons a l ih=>cases i<;>simp[nth,ih]
theorem fD (l:ar α)(i:Nat)(v:α):iO l i v=l.set i v:=by induction l generalizing i with|nil=>simp[iO]|cons a l ih=>cases i<;>simp[iO,ih]
def Zk (w:World)(S:Nat->Nat->Prop)(b o:Nat)(vs:iU):Prop:=
 ∀j v,vs[j]?=some v->S b (o+j)/\w.cell? ⟨b,o+j,none⟩=some v
def kg (w:World)(S:Nat->Nat->Prop):(e:CT)->iU->e.D->Prop
 | .int k,vs,n=>vs=[.int k n]
 | .bool,vs,b=>vs=[.bool b]
 | .str,vs,s=>vs=[.string ⟨s.toArray⟩]
 | .sl e,vs,xs=>∃v,vs=[v]/\(((∃a,v=.slice a 0 0)/\xs=[])\/
  ∃b o cap,v=.slice (some ⟨b,o,none⟩) xs.length cap/\xs.length<=cap/\
   ∀i x,xs[i]?=some x->∃cs,Zk w S b (o+i*e.size) cs/\kg w S e cs x)
 | .pair a b,vs,x=>∃v1 v2,vs=v1++v2/\kg w S a v1 x.1/\kg w S b v2 x.2
def tk (arr:Array Value)(fr:Nat×Nat):Prop:=∀j,j<arr.size->¬(fr.1<=j/\j<fr.2)
def eS (hw:Nat->Nat)(w:World):(e:CT)->iU->e.D->ec->Prop
 | .int k,vs,n,fp=>vs=[.int k n]/\fp=[]
 | .bool,vs,b,fp=>vs=[.bool b]/\fp=[]
 | .str,vs,s,fp=>vs=[.string ⟨s.toArray⟩]/\fp=[]
 | .sl e,vs,xs,fp=>∃v,vs=[v]/\(((∃a,v=.slice a 0 0)/\xs=[]/\fp=[])\/
  ∃b o0 cap arr T fr fps,v=.slice (some ⟨b,o0,none⟩) xs.length cap/\w.heap[b]?=some (.cells arr T fr)/\tk arr fr/\
   arr.size=o0+cap*e.size/\xs.length<=cap/\hw b=o0+xs.length*e.size/\fp=b::List.flatten fps/\fps.length=xs.length/\
   ∀i x f,xs[i]?=some x->fps[i]?=some f->eS hw w e ((arr.toList.drop (o0+i*e.size)).take e.size) x f)
 | .pair a b,vs,x,fp=>∃v1 v2 f1 f2,vs=v1++v2/\fp=f1++f2/\eS hw w a v1 x.1 f1/\eS hw w b v2 x.2 f2
theorem kg.length {w:World}{S:Nat->Nat->Prop}:∀{e:CT}{vs:iU}{x:e.D},kg w S e vs x->vs.length=e.size
 | .int _,_,_,h=>by simp[kg]at h;simp[h,CT.size]
 | .bool,_,_,h=>by simp[kg]at h;simp[h,CT.size]
 | .str,_,_,h=>by simp[kg]at h;simp[h,CT.size]
 | .sl _,_,_,h=>by obtain⟨v,rfl,_⟩:=h;simp[CT.size]
 | .pair a b,_,_,h=>by obtain⟨v1,v2,rfl,h1,h2⟩:=h;simp[CT.size,kg.length h1,kg.length h2]
theorem eS.length {w:World}:∀{e:CT}{vs:iU}{x:e.D}{fp:ec},eS hw w e vs x fp->vs.length=e.size
 | .int _,_,_,_,h=>by simp[eS]at h;simp[h,CT.size]
 | .bool,_,_,_,h=>by simp[eS]at h;simp[h,CT.size]
 | .str,_,_,_,h=>by simp[eS]at h;simp[h,CT.size]
 | .sl _,_,_,_,h=>by obtain⟨v,rfl,_⟩:=h;simp[CT.size]
 | .pair a b,_,_,_,h=>by obtain⟨v1,v2,f1,f2,rfl,rfl,h1,h2⟩:=h;simp[CT.size,eS.length h1,eS.length h2]
theorem CT.size_pos:∀e:CT,0<e.size
 | .int _=>by simp[CT.size]
 | .bool=>by simp[CT.size]
 | .str=>by simp[CT.size]
 | .sl _=>by simp[CT.size]
 | .pair a b=>by have:=CT.size_pos a;simp[CT.size];omega
theorem kg.mono {w w':World}{S S':Nat->Nat->Prop}(h:∀b o v,S b o->w.cell? ⟨b,o,none⟩=some v->S' b o/\w'.cell? ⟨b,o,none⟩=some v):
 ∀{e:CT}{vs:iU}{x:e.D},kg w S e vs x->kg w' S' e vs x
 | .int _,_,_,r=>r
 | .bool,_,_,r=>r
 | .str,_,_,r=>r
 | .sl e,_,_,r=>by obtain⟨v,rfl,r⟩:=r;refine⟨v,rfl,?_⟩;rcases r with r|⟨b,o,cap,rfl,hc,r⟩;exact .inl r;refine .inr ⟨b,o,cap,rfl,hc,λi x hx=>?_⟩;obtain⟨cs,Rn,hr⟩:=r i x hx;exact⟨cs,λj u hu=>h _ _ _ (Rn j u hu).1 (Rn j u hu).2,kg.mono h hr⟩
 | .pair a b,_,_,r=>by obtain⟨v1,v2,rfl,r1,r2⟩:=r;exact⟨v1,v2,rfl,kg.mono h r1,kg.mono h r2⟩
theorem eS.mono {hw':Nat->Nat}{w w':World}:∀{e:CT}{vs:iU}{x:e.D}{fp:ec},eS hw w e vs x fp->
 (∀b∈fp,w'.heap[b]?=w.heap[b]?/\hw' b=hw b)->eS hw' w' e vs x fp
 | .int _,_,_,_,r,_=>r
 | .bool,_,_,_,r,_=>r
 | .str,_,_,_,r,_=>r
 | .sl e,_,_,_,r,h=>by obtain⟨v,rfl,r⟩:=r;refine⟨v,rfl,?_⟩;rcases r with r|⟨b,o0,cap,arr,T,fr,fps,rfl,hb,uG,hs,hc,hh,rfl,hl,r⟩;exact .inl r;have h0:=h b (by simp);refine .inr ⟨b,o0,cap,arr,T,fr,fps,rfl,h0.1.trans hb,uG,hs,hc,h0.2.trans hh,rfl,hl,λi x f hx hf=>?_⟩;exact eS.mono (r i x f hx hf) λb' ib=>h b' (dJ _ (List.mem_flatten.2 ⟨f,bK hf,ib⟩))
 | .pair a b,_,_,_,r,h=>by obtain⟨v1,v2,f1,f2,rfl,rfl,r1,r2⟩:=r;exact⟨v1,v2,f1,f2,rfl,rfl,eS.mono r1 λb hb=>h b (br _ hb),eS.mono r2 λb hb=>h b (bh _ hb)⟩
theorem oU {w:World}{b:Nat}{arr:Array Value}{T:TypeId}{fr:Nat×Nat}(h:w.heap[b]?=some (.cells arr T fr))(o:Nat): w.cell? ⟨b,o,none⟩=arr[o]?:=by simp[World.cell?,h]
theorem eS.rep {w:World}{S:Nat->Nat->Prop}(hS:∀b o,o<hw b->S b o):∀{e:CT}{vs:iU}{x:e.D}{fp:ec},
 eS hw w e vs x fp->kg w S e vs x
 | .int _,_,_,_,r=>r.1
 | .bool,_,_,_,r=>r.1
 | .str,_,_,_,r=>r.1
 | .sl e,_,xs,_,r=>by obtain⟨v,rfl,r⟩:=r;refine⟨v,rfl,?_⟩;rcases r with r|⟨b,o0,cap,arr,T,fr,fps,rfl,hb,uG,hs,hc,hh,rfl,hl,r⟩;exact .inl ⟨r.1,r.2.1⟩;refine .inr ⟨b,o0,cap,rfl,hc,λi x hx=>?_⟩;have hi:i<xs.length:=(aJ.1 hx).1;have hf:fps[i]?=some fps[i]:=al (by omega);refine⟨_,λj u hu=>?_,eS.rep hS (r i x _ hx hf)⟩;rw[dk]at hu;split at hu;rename_i hj;rw[bQ,cm]at hu;have hm:(i+1)*e.size<=xs.length*e.size:=cC _ hi;rw[cw,eF]at hm;exact⟨hS _ _ (by rw[hh];omega),by rw[oU hb];exact hu⟩;cases hu
 | .pair a b,_,_,_,r=>by obtain⟨v1,v2,f1,f2,rfl,rfl,r1,r2⟩:=r;exact⟨v1,v2,rfl,eS.rep hS r1,eS.rep hS r2⟩
def akO (hw:Nat->Nat)(w:World)(e:CT)(v:Value)(xs:ar e.D)(k:Nat)(fp:ec):Prop:=
 ∃b o0 cap arr T fr fps,v=.slice (some ⟨b,o0,none⟩) xs.length cap/\w.heap[b]?=some (.cells arr T fr)/\tk arr fr/\
  arr.size=o0+cap*e.size/\xs.length<=cap/\hw b=o0+xs.length*e.size/\fp=b::List.flatten fps/\fps.length=xs.length/\
  k<xs.length/\fps[k]?=some []/\∀i x f,i≠k->xs[i]?=some x->fps[i]?=some f->eS hw w e ((arr.toList.drop (o0+i*e.size)).take e.size) x f
theorem akO.mono {hw':Nat->Nat}{w w':World}{e:CT}{v:Value}{xs:ar e.D}{k:Nat}(r:akO hw w e v xs k fp)(h:∀b∈fp,w'.heap[b]?=w.heap[b]?/\hw' b=hw b):akO hw' w' e v xs k fp:=by obtain⟨b,o0,cap,arr,T,fr,fps,rfl,hb,uG,hs,hc,hh,rfl,hl,hk,hf,r⟩:=r;have h0:=h b (by simp);refine⟨b,o0,cap,arr,T,fr,fps,rfl,h0.1.trans hb,uG,hs,hc,h0.2.trans hh,rfl,hl,hk,hf,λi x f hi hx hf=>?_⟩;exact eS.mono (r i x f hi hx hf) λb' ib=>h b' (dJ _ (List.mem_flatten.2 ⟨f,bK hf,ib⟩))
abbrev Rg:=Bool->Nat->Nat->Prop
structure RC where
 hw:Nat->Nat
 β:Nat->Nat
 A:Rg
 hdr:Nat->Value
 iss:Nat->Prop
 ep:Nat
 Qn:Nat->Prop
 w:World
variable {c c':RC}
def RC.S (c:RC)(b o:Nat):Prop:=(∃k,c.A k b o)\/o<c.hw b
def iA (c:RC)(v:Value):AC->ec->Prop
 | .int k n,fp=>v=.int k n/\fp=[]
 | .bool b,fp=>v=.bool b/\fp=[]
 | .str s,fp=>v=.string ⟨s.toArray⟩/\fp=[]
 | .sl (.own tag) e xs,fp=>eS c.hw c.w (.sl e) [v] xs fp/\∀t,tag=some t->c.iss t/\v=c.hdr t
 | .sl (.loc ep pv) e xs,fp=>fp=[]/\ep<=c.ep/\(∃o n k,v=.slice o n k/\n=xs.length)/\(ep=c.ep->kg c.w c.S (.sl e) [v] xs)/\
  ∀r t,pv=some (r,t)->c.iss t/\v=c.hdr t
 | .sl (.arg k) e xs,fp=>fp=[]/\kg c.w (c.A k) (.sl e) [v] xs
 | .sl (.nest ep _ t e' i off) _ xs,fp=>fp=[]/\ep<=c.ep/\(∃o n k,v=.slice o n k/\n=xs.length)/\
  (ep=c.ep->c.iss t/\∃n b o0 len cap:Nat,i=n/\c.hdr t=.slice (some ⟨b,o0,none⟩) len cap/\n<len/\c.S b (o0+n*e'.size+off)/\c.w.cell? ⟨b,o0+n*e'.size+off,none⟩=some v)
 | .sl (.part ep _ t lo) e xs,fp=>fp=[]/\ep<=c.ep/\(∃o n k,v=.slice o n k/\n=xs.length)/\
  (ep=c.ep->c.iss t/\(xs=[]\/∃n b o0 len cap k:Nat,lo=n/\c.hdr t=.slice (some ⟨b,o0,none⟩) len cap/\n+xs.length<=len/\v=.slice (some ⟨b,o0+n*e.size,none⟩) xs.length k))
 | .sl (.fK tag i ep) e xs,fp=>(∀q,ep=some q->q<=c.ep/\(q=c.ep->kg c.w c.S (.sl e) [v] xs))/\(∃k:Nat,i=k/\akO c.hw c.w e v xs k fp)/\∀t,tag=some t->c.iss t/\v=c.hdr t
 | .kL,fp=>v=.slice none 0 0/\fp=[]
 | .ptr s off,fp=>v=.pointer (some ⟨c.β s,off,none⟩)/\c.Qn s/\fp=[]
 | .Hy (.own _) _ _ _ _,_=>False
 | .Hy (.nest ..) _ _ _ _,_=>False
 | .Hy (.part ..) _ _ _ _,_=>False
 | .Hy (.fK ..) _ _ _ _,_=>False
 | .Hy (.loc ep pv) e x i off,fp=>fp=[]/\∃b o,v=.pointer (some ⟨b,o+off,none⟩)/\ep<=c.ep/\
  (ep=c.ep->∃cs,Zk c.w c.S b o cs/\kg c.w c.S e cs x)/\
  ∀r t,pv=some (r,t)->c.iss t/\∃n o0 len cap:Nat,i=n/\c.hdr t=.slice (some ⟨b,o0,none⟩) len cap/\n<len/\o=o0+n*e.size
 | .Hy (.arg k) e x _ off,fp=>fp=[]/\∃b o,v=.pointer (some ⟨b,o+off,none⟩)/\∃cs,Zk c.w (c.A k) b o cs/\kg c.w (c.A k) e cs x
 | .fn f,fp=>v=.func (.func f) #[] #[]/\fp=[]
 | .un,fp=>v=undef/\fp=[]
 | .bot,fp=>fp=[]
def bD (c:RC):iU->ar AC->ec->Prop
 |[],[],fp=>fp=[]
 |v::vs,x::xs,fp=>∃f1 f2,fp=f1++f2/\iA c v x f1/\bD c vs xs f2
 |_,_,_=>False
def Cut (g:Bool)(v:Value)(vs:iU):Prop:=if g then v=.agg vs.toArray else vs=[v]
def gi (c:RC)(v:Value):AV->ec->Prop
 | .val g cs,fp=>∃vs,Cut g v vs/\bD c vs cs fp
 | .zU ts,fp=>∃ws:iU,v=.tuple ws.toArray/\uw ws ts fp
 where
 uw:iU->ar (Bool×ar AC)->ec->Prop
  |[],[],fp=>fp=[]
  |w::ws,t::ts,fp=>∃f1 f2,fp=f1++f2/\(∃vs,Cut t.1 w vs/\bD c vs t.2 f1)/\uw ws ts f2
  |_,_,_=>False
structure RC.Le (c c':RC):Prop where
 A:c'.A=c.A
 hdr:∀t,c.iss t->c'.iss t/\c'.hdr t=c.hdr t
 abm:∀k b o v,c.A k b o->c.w.cell? ⟨b,o,none⟩=some v->c'.w.cell? ⟨b,o,none⟩=some v
 ep:c.ep<=c'.ep
 Qn:∀s,c.Qn s->c'.Qn s/\c'.β s=c.β s
 ajV:c'.ep=c.ep->∀b o v,o<c.hw b->c.w.cell? ⟨b,o,none⟩=some v->o<c'.hw b/\c'.w.cell? ⟨b,o,none⟩=some v
theorem RC.Le.S (h:c.Le c')(he:c'.ep=c.ep)(b o:Nat)(v:Value)(hs:c.S b o)(hv:c.w.cell? ⟨b,o,none⟩=some v): c'.S b o/\c'.w.cell? ⟨b,o,none⟩=some v:=by rcases hs with hs|hs;obtain⟨k,hs⟩:=hs;exact⟨.inl ⟨k,by rw[h.A];exact hs⟩,h.abm _ _ _ _ hs hv⟩;exact⟨.inr (h.ajV he _ _ _ hs hv).1,(h.ajV he _ _ _ hs hv).2⟩
theorem RC.Le.A' (h:c.Le c')(k:Bool)(b o:Nat)(v:Value)(hs:c.A k b o)(hv:c.w.cell? ⟨b,o,none⟩=some v): c'.A k b o/\c'.w.cell? ⟨b,o,none⟩=some v:=⟨by rw[h.A];exact hs,h.abm _ _ _ _ hs hv⟩
theorem iA.mono (h:c.Le c'){v:Value}{x:AC}(r:iA c v x fp)(Hp:∀b∈fp,c'.w.heap[b]?=c.w.heap[b]?/\c'.hw b=c.hw b):iA c' v x fp:=by
 cases x with
 |int k n=>exact r
 |bool b=>exact r
 |str s=>exact r
 |kL=>exact r
 |fn f=>exact r
 |un=>exact r
 |bot=>exact r
 |ptr s off=>exact⟨by rw[(h.Qn s r.2.1).2];exact r.1,(h.Qn s r.2.1).1,r.2.2⟩
 |sl fl e xs=>
  cases fl with
  |own tag=>exact⟨eS.mono r.1 Hp,λt ht=>⟨(h.hdr t (r.2 t ht).1).1,by rw[(h.hdr t (r.2 t ht).1).2];exact(r.2 t ht).2⟩⟩
  |arg k=>exact⟨r.1,kg.mono (h.A' k) r.2⟩
  |nest ep rt t e' i off=>
   obtain⟨h1,h2,h3,h4⟩:=r;refine⟨h1,aF h2 h.ep,h3,λhe=>?_⟩;have Ck:c'.ep=c.ep:=by have:=h.ep;omega
   obtain⟨k1,n,b,o0,len,cap,e1,e2,e3,e4,e5⟩:=h4 (by omega);have hS:=h.S Ck _ _ _ e4 e5;exact⟨(h.hdr t k1).1,n,b,o0,len,cap,e1,by rw[(h.hdr t k1).2];exact e2,e3,hS.1,hS.2⟩
  |part ep rt t lo=>obtain⟨h1,h2,h3,h4⟩:=r;refine⟨h1,aF h2 h.ep,h3,λhe=>?_⟩;obtain⟨k1,k2⟩:=h4 (by have:=h.ep;omega);exact⟨(h.hdr t k1).1,by rw[(h.hdr t k1).2];exact k2⟩
  |fK tag i ep=>obtain⟨h1,⟨k,hk,h3⟩,h4⟩:=r;refine⟨λq hq=>⟨aF (h1 q hq).1 h.ep,λhe=>?_⟩,⟨k,hk,h3.mono Hp⟩,λt ht=>⟨(h.hdr t (h4 t ht).1).1,by rw[(h.hdr t (h4 t ht).1).2];exact(h4 t ht).2⟩⟩;have hle:=(h1 q hq).1;have hce:=h.ep;exact kg.mono (h.S (by omega)) ((h1 q hq).2 (by omega))
  |loc ep pv=>
   obtain⟨h1,h2,h3,h4,h5⟩:=r;refine⟨h1,aF h2 h.ep,h3,λhe=>?_,λr t hr=>?_⟩;have:c'.ep=c.ep:=by have:=h.ep;omega
   exact kg.mono (h.S this) (h4 (by omega));obtain⟨k1,k2⟩:=h5 r t hr;exact⟨(h.hdr t k1).1,by rw[(h.hdr t k1).2];exact k2⟩
 |Hy fl e y i off=>
  cases fl with
  |own tag=>exact r
  |nest _ _ _ _ _ _=>exact r.elim
  |part _ _ _ _=>exact r.elim
  |fK _ _ _=>exact r.elim
  |arg k=>obtain⟨h1,b,o,hv,cs,hc,hr⟩:=r;exact⟨h1,b,o,hv,cs,λj u hu=>h.A' k _ _ _ (hc j u hu).1 (hc j u hu).2,kg.mono (h.A' k) hr⟩
  |loc ep pv=>
   obtain⟨h1,b,o,hv,h2,h4,h5⟩:=r;refine⟨h1,b,o,hv,aF h2 h.ep,λhe=>?_,λr t hr=>?_⟩;have:c'.ep=c.ep:=by have:=h.ep;omega
   obtain⟨cs,hc,hr⟩:=h4 (by omega);exact⟨cs,λj u hu=>h.S this _ _ _ (hc j u hu).1 (hc j u hu).2,kg.mono (h.S this) hr⟩;obtain⟨k1,n,o0,len,cap,hi,hrt,hn⟩:=h5 r t hr;exact⟨(h.hdr t k1).1,n,o0,len,cap,hi,by rw[(h.hdr t k1).2];exact hrt,hn⟩
theorem bD.mono (h:c.Le c'):∀{vs:iU}{xs:ar AC}{fp:ec},bD c vs xs fp->
 (∀b∈fp,c'.w.heap[b]?=c.w.heap[b]?/\c'.hw b=c.hw b)->bD c' vs xs fp
 |[],[],_,r,_=>r
 |_::_,_::_,_,r,hf=>by obtain⟨f1,f2,rfl,r1,r2⟩:=r;exact⟨f1,f2,rfl,r1.mono h (λb hb=>hf b (br _ hb)),bD.mono h r2 (λb hb=>hf b (bh _ hb))⟩
 |[],_::_,_,r,_=>r.elim
 |_::_,[],_,r,_=>r.elim
theorem uw.mono (h:c.Le c'):∀{vs:iU}{xs:ar (Bool×ar AC)}{fp:ec},gi.uw c vs xs fp->
 (∀b∈fp,c'.w.heap[b]?=c.w.heap[b]?/\c'.hw b=c.hw b)->gi.uw c' vs xs fp
 |[],[],_,r,_=>r
 |_::_,_::_,_,r,hf=>by obtain⟨f1,f2,rfl,⟨vs,hv,r1⟩,r2⟩:=r;exact⟨f1,f2,rfl,⟨vs,hv,r1.mono h (λb hb=>hf b (br _ hb))⟩,uw.mono h r2 (λb hb=>hf b (bh _ hb))⟩
 |[],_::_,_,r,_=>r.elim
 |_::_,[],_,r,_=>r.elim
theorem gi.mono (h:c.Le c'){v:Value}{x:AV}(r:gi c v x fp)(Hp:∀b∈fp,c'.w.heap[b]?=c.w.heap[b]?/\c'.hw b=c.hw b):gi c' v x fp:=by
 cases x with
 |val g cs=>obtain⟨vs,hv,r⟩:=r;exact⟨vs,hv,r.mono h Hp⟩
 |zU ts=>obtain⟨ws,hv,r⟩:=r;exact⟨ws,hv,uw.mono h r Hp⟩
theorem bD.length:∀{vs:iU}{xs:ar AC}{fp:ec},bD c vs xs fp->vs.length=xs.length
 |[],[],_,_=>rfl
 |_::_,_::_,_,r=>by obtain⟨f1,f2,rfl,r1,r2⟩:=r;simp[bD.length r2]
 |[],_::_,_,r=>r.elim
 |_::_,[],_,r=>r.elim
theorem bD.append:∀{vs:iU}{xs:ar AC}{fp:ec}{vs':iU}{WI:ar AC}{jg:ec},
 bD c vs xs fp->bD c vs' WI jg->bD c (vs++vs') (xs++WI) (fp++jg)
 |[],[],_,_,_,_,r,r'=>by cases r;simpa using r'
 |_::_,_::_,_,_,_,_,r,r'=>by obtain⟨f1,f2,rfl,r1,r2⟩:=r;exact⟨f1,f2++_,by simp,r1,bD.append r2 r'⟩
 |[],_::_,_,_,_,_,r,_=>r.elim
 |_::_,[],_,_,_,_,r,_=>r.elim
theorem bD.split:∀(n:Nat){vs:iU}{xs:ar AC}{fp:ec},bD c vs xs fp->
 ∃f1 f2,fp=f1++f2/\bD c (vs.take n) (xs.take n) f1/\bD c (vs.drop n) (xs.drop n) f2
 |0,vs,xs,fp,r=>⟨[],fp,rfl,by simp[bD],by simpa using r⟩
 |n+1,[],[],_,r=>by cases r;exact⟨[],[],rfl,by simp[bD],by simp[bD]⟩
 |n+1,_::_,_::_,_,r=>by obtain⟨f1,f2,rfl,r1,r2⟩:=r;obtain⟨g1,g2,rfl,s1,s2⟩:=bD.split n r2;exact⟨f1++g1,g2,by simp,⟨f1,g1,rfl,r1,s1⟩,s2⟩
 |n+1,[],_::_,_,r=>r.elim
 |n+1,_::_,[],_,r=>r.elim
theorem bD.get:∀{vs:iU}{xs:ar AC}{fp:ec},bD c vs xs fp->∀(i:Nat)(x:AC),xs[i]?=some x->
 ∃v f,vs[i]?=some v/\iA c v x f/\∀b∈f,b∈fp
 |[],[],_,_,i,x,h=>by simp at h
 |v::_,_::_,_,r,0,x,h=>by obtain⟨f1,f2,rfl,r1,r2⟩:=r;simp at h;subst h;exact⟨v,f1,rfl,r1,λb hb=>br _ hb⟩
 |_::_,_::_,_,r,i+1,x,h=>by obtain⟨f1,f2,rfl,r1,r2⟩:=r;obtain⟨v,f,hv,hr,hf⟩:=bD.get r2 i x (by simpa using h);exact⟨v,f,by simpa using hv,hr,λb hb=>bh _ (hf b hb)⟩
 |[],_::_,_,r,_,_,_=>r.elim
 |_::_,[],_,r,_,_,_=>r.elim
end Go.Dn
