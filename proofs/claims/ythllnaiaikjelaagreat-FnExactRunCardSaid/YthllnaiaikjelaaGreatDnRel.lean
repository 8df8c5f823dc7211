import Derived.Test.YthllnaiaikjelaaGreatDnBase
import Derived.Below
import Derived.Laws.StructEq
import Derived.Orders
/- What the abstract values mean in the model's memory, and how that meaning lasts while memory grows. -/
namespace Go.Dn
open Go.RowKit
variable {hw:Nat->Nat} {α:Type} {fp:ei}
theorem dY (l:ar α)(i:Nat):nth l i=l[i]?:=by induction l generalizing i with|nil=>simp[nth]|cons a l ih=>cases i<;>simp[nth,ih]
theorem fE (l:ar α)(i:Nat)(v:α):iQ l i v=l.set i v:=by induction l generalizing i with|nil=>simp[iQ]|cons a l ih=>cases i<;>simp[iQ,ih]
def ZG (w:World)(S:Nat->Nat->Prop)(b o:Nat)(vs:iW):Prop:=
 ∀j v,vs[j]?=some v->S b (o+j)/\w.cell? ⟨b,o+j,none⟩=some v
def km (w:World)(S:Nat->Nat->Prop):(e:CT)->iW->e.D->Prop
 | .int k,vs,n=>vs=[.int k n]
 | .bool,vs,b=>vs=[.bool b]
 | .str,vs,s=>vs=[.string ⟨s.toArray⟩]
 | .sl e,vs,xs=>∃v,vs=[v]/\(((∃a,v=.slice a 0 0)/\xs=[])\/
  ∃b o cap,v=.slice (some ⟨b,o,none⟩) xs.length cap/\xs.length<=cap/\
   ∀i x,xs[i]?=some x->∃cs,ZG w S b (o+i*e.size) cs/\km w S e cs x)
 | .pair a b,vs,x=>∃v1 v2,vs=v1++v2/\km w S a v1 x.1/\km w S b v2 x.2
def tp (arr:Array Value)(fr:Nat×Nat):Prop:=∀j,j<arr.size->¬(fr.1<=j/\j<fr.2)
def eU (hw:Nat->Nat)(w:World):(e:CT)->iW->e.D->ei->Prop
 | .int k,vs,n,fp=>vs=[.int k n]/\fp=[]
 | .bool,vs,b,fp=>vs=[.bool b]/\fp=[]
 | .str,vs,s,fp=>vs=[.string ⟨s.toArray⟩]/\fp=[]
 | .sl e,vs,xs,fp=>∃v,vs=[v]/\(((∃a,v=.slice a 0 0)/\xs=[]/\fp=[])\/
  ∃b o0 cap arr T fr fps,v=.slice (some ⟨b,o0,none⟩) xs.length cap/\w.heap[b]?=some (.cells arr T fr)/\tp arr fr/\
   arr.size=o0+cap*e.size/\xs.length<=cap/\hw b=o0+xs.length*e.size/\fp=b::List.flatten fps/\fps.length=xs.length/\
   ∀i x f,xs[i]?=some x->fps[i]?=some f->eU hw w e ((arr.toList.drop (o0+i*e.size)).take e.size) x f)
 | .pair a b,vs,x,fp=>∃v1 v2 f1 f2,vs=v1++v2/\fp=f1++f2/\eU hw w a v1 x.1 f1/\eU hw w b v2 x.2 f2
theorem km.length {w:World}{S:Nat->Nat->Prop}:∀{e:CT}{vs:iW}{x:e.D},km w S e vs x->vs.length=e.size
 | .int _,_,_,h=>by simp[km]at h;simp[h,CT.size]
 | .bool,_,_,h=>by simp[km]at h;simp[h,CT.size]
 | .str,_,_,h=>by simp[km]at h;simp[h,CT.size]
 | .sl _,_,_,h=>by obtain⟨v,rfl,_⟩:=h;simp[CT.size]
 | .pair a b,_,_,h=>by obtain⟨v1,v2,rfl,h1,h2⟩:=h;simp[CT.size,km.length h1,km.length h2]
theorem eU.length {w:World}:∀{e:CT}{vs:iW}{x:e.D}{fp:ei},eU hw w e vs x fp->vs.length=e.size
 | .int _,_,_,_,h=>by simp[eU]at h;simp[h,CT.size]
 | .bool,_,_,_,h=>by simp[eU]at h;simp[h,CT.size]
 | .str,_,_,_,h=>by simp[eU]at h;simp[h,CT.size]
 | .sl _,_,_,_,h=>by obtain⟨v,rfl,_⟩:=h;simp[CT.size]
 | .pair a b,_,_,_,h=>by obtain⟨v1,v2,f1,f2,rfl,rfl,h1,h2⟩:=h;simp[CT.size,eU.length h1,eU.length h2]
theorem CT.size_pos:∀e:CT,0<e.size
 | .int _=>by simp[CT.size]
 | .bool=>by simp[CT.size]
 | .str=>by simp[CT.size]
 | .sl _=>by simp[CT.size]
 | .pair a b=>by have:=CT.size_pos a;simp[CT.size];omega
theorem km.mono {w w':World}{S S':Nat->Nat->Prop}(h:∀b o v,S b o->w.cell? ⟨b,o,none⟩=some v->S' b o/\w'.cell? ⟨b,o,none⟩=some v):
 ∀{e:CT}{vs:iW}{x:e.D},km w S e vs x->km w' S' e vs x
 | .int _,_,_,r=>r
 | .bool,_,_,r=>r
 | .str,_,_,r=>r
 | .sl e,_,_,r=>by obtain⟨v,rfl,r⟩:=r;refine⟨v,rfl,?_⟩;rcases r with r|⟨b,o,cap,rfl,hc,r⟩;exact .inl r;refine .inr ⟨b,o,cap,rfl,hc,λi x hx=>?_⟩;obtain⟨cs,RJ,hr⟩:=r i x hx;exact⟨cs,λj u hu=>h _ _ _ (RJ j u hu).1 (RJ j u hu).2,km.mono h hr⟩
 | .pair a b,_,_,r=>by obtain⟨v1,v2,rfl,r1,r2⟩:=r;exact⟨v1,v2,rfl,km.mono h r1,km.mono h r2⟩
theorem eU.mono {hw':Nat->Nat}{w w':World}:∀{e:CT}{vs:iW}{x:e.D}{fp:ei},eU hw w e vs x fp->
 (∀b∈fp,w'.heap[b]?=w.heap[b]?/\hw' b=hw b)->eU hw' w' e vs x fp
 | .int _,_,_,_,r,_=>r
 | .bool,_,_,_,r,_=>r
 | .str,_,_,_,r,_=>r
 | .sl e,_,_,_,r,h=>by obtain⟨v,rfl,r⟩:=r;refine⟨v,rfl,?_⟩;rcases r with r|⟨b,o0,cap,arr,T,fr,fps,rfl,hb,uI,hs,hc,hh,rfl,hl,r⟩;exact .inl r;have h0:=h b (by simp);refine .inr ⟨b,o0,cap,arr,T,fr,fps,rfl,h0.1.trans hb,uI,hs,hc,h0.2.trans hh,rfl,hl,λi x f hx hf=>?_⟩;exact eU.mono (r i x f hx hf) λb' ig=>h b' (dK _ (List.mem_flatten.2 ⟨f,bM hf,ig⟩))
 | .pair a b,_,_,_,r,h=>by obtain⟨v1,v2,f1,f2,rfl,rfl,r1,r2⟩:=r;exact⟨v1,v2,f1,f2,rfl,rfl,eU.mono r1 λb hb=>h b (br _ hb),eU.mono r2 λb hb=>h b (bh _ hb)⟩
theorem oX {w:World}{b:Nat}{arr:Array Value}{T:TypeId}{fr:Nat×Nat}(h:w.heap[b]?=some (.cells arr T fr))(o:Nat): w.cell? ⟨b,o,none⟩=arr[o]?:=by simp[World.cell?,h]
theorem eU.rep {w:World}{S:Nat->Nat->Prop}(hS:∀b o,o<hw b->S b o):∀{e:CT}{vs:iW}{x:e.D}{fp:ei},
 eU hw w e vs x fp->km w S e vs x
 | .int _,_,_,_,r=>r.1
 | .bool,_,_,_,r=>r.1
 | .str,_,_,_,r=>r.1
 | .sl e,_,xs,_,r=>by obtain⟨v,rfl,r⟩:=r;refine⟨v,rfl,?_⟩;rcases r with r|⟨b,o0,cap,arr,T,fr,fps,rfl,hb,uI,hs,hc,hh,rfl,hl,r⟩;exact .inl ⟨r.1,r.2.1⟩;refine .inr ⟨b,o0,cap,rfl,hc,λi x hx=>?_⟩;have hi:i<xs.length:=(aJ.1 hx).1;have hf:fps[i]?=some fps[i]:=al (by omega);refine⟨_,λj u hu=>?_,eU.rep hS (r i x _ hx hf)⟩;rw[dp]at hu;split at hu;rename_i hj;rw[bR,cp]at hu;have hm:(i+1)*e.size<=xs.length*e.size:=cD _ hi;rw[cx,eH]at hm;exact⟨hS _ _ (by rw[hh];omega),by rw[oX hb];exact hu⟩;cases hu
 | .pair a b,_,_,_,r=>by obtain⟨v1,v2,f1,f2,rfl,rfl,r1,r2⟩:=r;exact⟨v1,v2,rfl,eU.rep hS r1,eU.rep hS r2⟩
def ald (hw:Nat->Nat)(w:World)(e:CT)(v:Value)(xs:ar e.D)(k:Nat)(fp:ei):Prop:=
 ∃b o0 cap arr T fr fps,v=.slice (some ⟨b,o0,none⟩) xs.length cap/\w.heap[b]?=some (.cells arr T fr)/\tp arr fr/\
  arr.size=o0+cap*e.size/\xs.length<=cap/\hw b=o0+xs.length*e.size/\fp=b::List.flatten fps/\fps.length=xs.length/\
  k<xs.length/\fps[k]?=some []/\∀i x f,i≠k->xs[i]?=some x->fps[i]?=some f->eU hw w e ((arr.toList.drop (o0+i*e.size)).take e.size) x f
theorem ald.mono {hw':Nat->Nat}{w w':World}{e:CT}{v:Value}{xs:ar e.D}{k:Nat}(r:ald hw w e v xs k fp)(h:∀b∈fp,w'.heap[b]?=w.heap[b]?/\hw' b=hw b):ald hw' w' e v xs k fp:=by obtain⟨b,o0,cap,arr,T,fr,fps,rfl,hb,uI,hs,hc,hh,rfl,hl,hk,hf,r⟩:=r;have h0:=h b (by simp);refine⟨b,o0,cap,arr,T,fr,fps,rfl,h0.1.trans hb,uI,hs,hc,h0.2.trans hh,rfl,hl,hk,hf,λi x f hi hx hf=>?_⟩;exact eU.mono (r i x f hi hx hf) λb' ig=>h b' (dK _ (List.mem_flatten.2 ⟨f,bM hf,ig⟩))
abbrev Rg:=Bool->Nat->Nat->Prop
structure RC where
 hw:Nat->Nat
 β:Nat->Nat
 A:Rg
 hdr:Nat->Value
 iss:Nat->Prop
 ep:Nat
 QF:Nat->Prop
 w:World
variable {c c':RC}
def RC.S (c:RC)(b o:Nat):Prop:=(∃k,c.A k b o)\/o<c.hw b
def iD (c:RC)(v:Value):AC->ei->Prop
 | .int k n,fp=>v=.int k n/\fp=[]
 | .bool b,fp=>v=.bool b/\fp=[]
 | .str s,fp=>v=.string ⟨s.toArray⟩/\fp=[]
 | .sl (.own tag) e xs,fp=>eU c.hw c.w (.sl e) [v] xs fp/\∀t,tag=some t->c.iss t/\v=c.hdr t
 | .sl (.loc ep pv) e xs,fp=>fp=[]/\ep<=c.ep/\(∃o n k,v=.slice o n k/\n=xs.length)/\(ep=c.ep->km c.w c.S (.sl e) [v] xs)/\
  ∀r t,pv=some (r,t)->c.iss t/\v=c.hdr t
 | .sl (.arg k) e xs,fp=>fp=[]/\km c.w (c.A k) (.sl e) [v] xs
 | .sl (.nest ep _ t e' i off) _ xs,fp=>fp=[]/\ep<=c.ep/\(∃o n k,v=.slice o n k/\n=xs.length)/\
  (ep=c.ep->c.iss t/\∃n b o0 len cap:Nat,i=n/\c.hdr t=.slice (some ⟨b,o0,none⟩) len cap/\n<len/\c.S b (o0+n*e'.size+off)/\c.w.cell? ⟨b,o0+n*e'.size+off,none⟩=some v)
 | .sl (.part ep _ t lo) e xs,fp=>fp=[]/\ep<=c.ep/\(∃o n k,v=.slice o n k/\n=xs.length)/\
  (ep=c.ep->c.iss t/\(xs=[]\/∃n b o0 len cap k:Nat,lo=n/\c.hdr t=.slice (some ⟨b,o0,none⟩) len cap/\n+xs.length<=len/\v=.slice (some ⟨b,o0+n*e.size,none⟩) xs.length k))
 | .sl (.fL tag i ep) e xs,fp=>(∀q,ep=some q->q<=c.ep/\(q=c.ep->km c.w c.S (.sl e) [v] xs))/\(∃k:Nat,i=k/\ald c.hw c.w e v xs k fp)/\∀t,tag=some t->c.iss t/\v=c.hdr t
 | .kS,fp=>v=.slice none 0 0/\fp=[]
 | .ptr s off,fp=>v=.pointer (some ⟨c.β s,off,none⟩)/\c.QF s/\fp=[]
 | .HM (.own _) _ _ _ _,_=>False
 | .HM (.nest ..) _ _ _ _,_=>False
 | .HM (.part ..) _ _ _ _,_=>False
 | .HM (.fL ..) _ _ _ _,_=>False
 | .HM (.loc ep pv) e x i off,fp=>fp=[]/\∃b o,v=.pointer (some ⟨b,o+off,none⟩)/\ep<=c.ep/\
  (ep=c.ep->∃cs,ZG c.w c.S b o cs/\km c.w c.S e cs x)/\
  ∀r t,pv=some (r,t)->c.iss t/\∃n o0 len cap:Nat,i=n/\c.hdr t=.slice (some ⟨b,o0,none⟩) len cap/\n<len/\o=o0+n*e.size
 | .HM (.arg k) e x _ off,fp=>fp=[]/\∃b o,v=.pointer (some ⟨b,o+off,none⟩)/\∃cs,ZG c.w (c.A k) b o cs/\km c.w (c.A k) e cs x
 | .fn f,fp=>v=.func (.func f) #[] #[]/\fp=[]
 | .un,fp=>v=undef/\fp=[]
 | .bot,fp=>fp=[]
def bE (c:RC):iW->ar AC->ei->Prop
 |[],[],fp=>fp=[]
 |v::vs,x::xs,fp=>∃f1 f2,fp=f1++f2/\iD c v x f1/\bE c vs xs f2
 |_,_,_=>False
def Cut (g:Bool)(v:Value)(vs:iW):Prop:=if g then v=.agg vs.toArray else vs=[v]
def gj (c:RC)(v:Value):AV->ei->Prop
 | .val g cs,fp=>∃vs,Cut g v vs/\bE c vs cs fp
 | .Af ts,fp=>∃ws:iW,v=.tuple ws.toArray/\uy ws ts fp
 where
 uy:iW->ar (Bool×ar AC)->ei->Prop
  |[],[],fp=>fp=[]
  |w::ws,t::ts,fp=>∃f1 f2,fp=f1++f2/\(∃vs,Cut t.1 w vs/\bE c vs t.2 f1)/\uy ws ts f2
  |_,_,_=>False
structure RC.Le (c c':RC):Prop where
 A:c'.A=c.A
 hdr:∀t,c.iss t->c'.iss t/\c'.hdr t=c.hdr t
 abI:∀k b o v,c.A k b o->c.w.cell? ⟨b,o,none⟩=some v->c'.w.cell? ⟨b,o,none⟩=some v
 ep:c.ep<=c'.ep
 QF:∀s,c.QF s->c'.QF s/\c'.β s=c.β s
 akj:c'.ep=c.ep->∀b o v,o<c.hw b->c.w.cell? ⟨b,o,none⟩=some v->o<c'.hw b/\c'.w.cell? ⟨b,o,none⟩=some v
theorem RC.Le.S (h:c.Le c')(he:c'.ep=c.ep)(b o:Nat)(v:Value)(hs:c.S b o)(hv:c.w.cell? ⟨b,o,none⟩=some v): c'.S b o/\c'.w.cell? ⟨b,o,none⟩=some v:=by rcases hs with hs|hs;obtain⟨k,hs⟩:=hs;exact⟨.inl ⟨k,by rw[h.A];exact hs⟩,h.abI _ _ _ _ hs hv⟩;exact⟨.inr (h.akj he _ _ _ hs hv).1,(h.akj he _ _ _ hs hv).2⟩
theorem RC.Le.A' (h:c.Le c')(k:Bool)(b o:Nat)(v:Value)(hs:c.A k b o)(hv:c.w.cell? ⟨b,o,none⟩=some v): c'.A k b o/\c'.w.cell? ⟨b,o,none⟩=some v:=⟨by rw[h.A];exact hs,h.abI _ _ _ _ hs hv⟩
theorem iD.mono (h:c.Le c'){v:Value}{x:AC}(r:iD c v x fp)(HD:∀b∈fp,c'.w.heap[b]?=c.w.heap[b]?/\c'.hw b=c.hw b):iD c' v x fp:=by
 cases x with
 |int k n=>exact r
 |bool b=>exact r
 |str s=>exact r
 |kS=>exact r
 |fn f=>exact r
 |un=>exact r
 |bot=>exact r
 |ptr s off=>exact⟨by rw[(h.QF s r.2.1).2];exact r.1,(h.QF s r.2.1).1,r.2.2⟩
 |sl fl e xs=>
  cases fl with
  |own tag=>exact⟨eU.mono r.1 HD,λt ht=>⟨(h.hdr t (r.2 t ht).1).1,by rw[(h.hdr t (r.2 t ht).1).2];exact(r.2 t ht).2⟩⟩
  |arg k=>exact⟨r.1,km.mono (h.A' k) r.2⟩
  |nest ep rt t e' i off=>
   obtain⟨h1,h2,h3,h4⟩:=r;refine⟨h1,aF h2 h.ep,h3,λhe=>?_⟩;have Cw:c'.ep=c.ep:=by have:=h.ep;omega
   obtain⟨k1,n,b,o0,len,cap,e1,e2,e3,e4,e5⟩:=h4 (by omega);have hS:=h.S Cw _ _ _ e4 e5;exact⟨(h.hdr t k1).1,n,b,o0,len,cap,e1,by rw[(h.hdr t k1).2];exact e2,e3,hS.1,hS.2⟩
  |part ep rt t lo=>obtain⟨h1,h2,h3,h4⟩:=r;refine⟨h1,aF h2 h.ep,h3,λhe=>?_⟩;obtain⟨k1,k2⟩:=h4 (by have:=h.ep;omega);exact⟨(h.hdr t k1).1,by rw[(h.hdr t k1).2];exact k2⟩
  |fL tag i ep=>obtain⟨h1,⟨k,hk,h3⟩,h4⟩:=r;refine⟨λq hq=>⟨aF (h1 q hq).1 h.ep,λhe=>?_⟩,⟨k,hk,h3.mono HD⟩,λt ht=>⟨(h.hdr t (h4 t ht).1).1,by rw[(h.hdr t (h4 t ht).1).2];exact(h4 t ht).2⟩⟩;have hle:=(h1 q hq).1;have hce:=h.ep;exact km.mono (h.S (by omega)) ((h1 q hq).2 (by omega))
  |loc ep pv=>
   obtain⟨h1,h2,h3,h4,h5⟩:=r;refine⟨h1,aF h2 h.ep,h3,λhe=>?_,λr t hr=>?_⟩;have:c'.ep=c.ep:=by have:=h.ep;omega
   exact km.mono (h.S this) (h4 (by omega));obtain⟨k1,k2⟩:=h5 r t hr;exact⟨(h.hdr t k1).1,by rw[(h.hdr t k1).2];exact k2⟩
 |HM fl e y i off=>
  cases fl with
  |own tag=>exact r
  |nest _ _ _ _ _ _=>exact r.elim
  |part _ _ _ _=>exact r.elim
  |fL _ _ _=>exact r.elim
  |arg k=>obtain⟨h1,b,o,hv,cs,hc,hr⟩:=r;exact⟨h1,b,o,hv,cs,λj u hu=>h.A' k _ _ _ (hc j u hu).1 (hc j u hu).2,km.mono (h.A' k) hr⟩
  |loc ep pv=>
   obtain⟨h1,b,o,hv,h2,h4,h5⟩:=r;refine⟨h1,b,o,hv,aF h2 h.ep,λhe=>?_,λr t hr=>?_⟩;have:c'.ep=c.ep:=by have:=h.ep;omega
   obtain⟨cs,hc,hr⟩:=h4 (by omega);exact⟨cs,λj u hu=>h.S this _ _ _ (hc j u hu).1 (hc j u hu).2,km.mono (h.S this) hr⟩;obtain⟨k1,n,o0,len,cap,hi,hrt,hn⟩:=h5 r t hr;exact⟨(h.hdr t k1).1,n,o0,len,cap,hi,by rw[(h.hdr t k1).2];exact hrt,hn⟩
theorem bE.mono (h:c.Le c'):∀{vs:iW}{xs:ar AC}{fp:ei},bE c vs xs fp->
 (∀b∈fp,c'.w.heap[b]?=c.w.heap[b]?/\c'.hw b=c.hw b)->bE c' vs xs fp
 |[],[],_,r,_=>r
 |_::_,_::_,_,r,hf=>by obtain⟨f1,f2,rfl,r1,r2⟩:=r;exact⟨f1,f2,rfl,r1.mono h (λb hb=>hf b (br _ hb)),bE.mono h r2 (λb hb=>hf b (bh _ hb))⟩
 |[],_::_,_,r,_=>r.elim
 |_::_,[],_,r,_=>r.elim
theorem uy.mono (h:c.Le c'):∀{vs:iW}{xs:ar (Bool×ar AC)}{fp:ei},gj.uy c vs xs fp->
 (∀b∈fp,c'.w.heap[b]?=c.w.heap[b]?/\c'.hw b=c.hw b)->gj.uy c' vs xs fp
 |[],[],_,r,_=>r
 |_::_,_::_,_,r,hf=>by obtain⟨f1,f2,rfl,⟨vs,hv,r1⟩,r2⟩:=r;exact⟨f1,f2,rfl,⟨vs,hv,r1.mono h (λb hb=>hf b (br _ hb))⟩,uy.mono h r2 (λb hb=>hf b (bh _ hb))⟩
 |[],_::_,_,r,_=>r.elim
 |_::_,[],_,r,_=>r.elim
theorem gj.mono (h:c.Le c'){v:Value}{x:AV}(r:gj c v x fp)(HD:∀b∈fp,c'.w.heap[b]?=c.w.heap[b]?/\c'.hw b=c.hw b):gj c' v x fp:=by
 cases x with
 |val g cs=>obtain⟨vs,hv,r⟩:=r;exact⟨vs,hv,r.mono h HD⟩
 |Af ts=>obtain⟨ws,hv,r⟩:=r;exact⟨ws,hv,uy.mono h r HD⟩
theorem bE.length:∀{vs:iW}{xs:ar AC}{fp:ei},bE c vs xs fp->vs.length=xs.length
 |[],[],_,_=>rfl
 |_::_,_::_,_,r=>by obtain⟨f1,f2,rfl,r1,r2⟩:=r;simp[bE.length r2]
 |[],_::_,_,r=>r.elim
 |_::_,[],_,r=>r.elim
theorem bE.append:∀{vs:iW}{xs:ar AC}{fp:ei}{vs':iW}{W2:ar AC}{ji:ei},
 bE c vs xs fp->bE c vs' W2 ji->bE c (vs++vs') (xs++W2) (fp++ji)
 |[],[],_,_,_,_,r,r'=>by cases r;simpa using r'
 |_::_,_::_,_,_,_,_,r,r'=>by obtain⟨f1,f2,rfl,r1,r2⟩:=r;exact⟨f1,f2++_,by simp,r1,bE.append r2 r'⟩
 |[],_::_,_,_,_,_,r,_=>r.elim
 |_::_,[],_,_,_,_,r,_=>r.elim
theorem bE.split:∀(n:Nat){vs:iW}{xs:ar AC}{fp:ei},bE c vs xs fp->
 ∃f1 f2,fp=f1++f2/\bE c (vs.take n) (xs.take n) f1/\bE c (vs.drop n) (xs.drop n) f2
 |0,vs,xs,fp,r=>⟨[],fp,rfl,by simp[bE],by simpa using r⟩
 |n+1,[],[],_,r=>by cases r;exact⟨[],[],rfl,by simp[bE],by simp[bE]⟩
 |n+1,_::_,_::_,_,r=>by obtain⟨f1,f2,rfl,r1,r2⟩:=r;obtain⟨g1,g2,rfl,s1,s2⟩:=bE.split n r2;exact⟨f1++g1,g2,by simp,⟨f1,g1,rfl,r1,s1⟩,s2⟩
 |n+1,[],_::_,_,r=>r.elim
 |n+1,_::_,[],_,r=>r.elim
theorem bE.get:∀{vs:iW}{xs:ar AC}{fp:ei},bE c vs xs fp->∀(i:Nat)(x:AC),xs[i]?=some x->
 ∃v f,vs[i]?=some v/\iD c v x f/\∀b∈f,b∈fp
 |[],[],_,_,i,x,h=>by simp at h
 |v::_,_::_,_,r,0,x,h=>by obtain⟨f1,f2,rfl,r1,r2⟩:=r;simp at h;subst h;exact⟨v,f1,rfl,r1,λb hb=>br _ hb⟩
 |_::_,_::_,_,r,i+1,x,h=>by obtain⟨f1,f2,rfl,r1,r2⟩:=r;obtain⟨v,f,hv,hr,hf⟩:=bE.get r2 i x (by simpa using h);exact⟨v,f,by simpa using hv,hr,λb hb=>bh _ (hf b hb)⟩
 |[],_::_,_,r,_,_,_=>r.elim
 |_::_,[],_,r,_,_,_=>r.elim
end Go.Dn
