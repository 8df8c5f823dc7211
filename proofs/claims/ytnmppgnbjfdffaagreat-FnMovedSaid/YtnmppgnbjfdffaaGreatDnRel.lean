import Derived.Test.YtnmppgnbjfdffaaGreatDnBase
import Derived.Below
import Derived.Laws.StructEq
import Derived.Orders
/- What the abstract values mean in the model's memory, and how that meaning lasts while memory grows. -/
namespace Go.Dn
open Go.RowKit
variable {hw:Nat->Nat} {α:Type} {v:Value} {fp:fw}
theorem dJ (l:aw α)(i:Nat):nth l i=l[i]?:=by induction l generalizing i with|nil=>simp[nth]|cons a l ih=>cases i<;>simp[nth,ih]
theorem ft (l:aw α)(i:Nat)(v:α):gK l i v=l.set i v:=by induction l generalizing i with|nil=>simp[gK]|cons a l ih=>cases i<;>simp[gK,ih]
def Oh (w:World)(S:Nat->Nat->Prop)(b o:Nat)(vs:iq):Prop:=
 ∀j v,vs[j]?=some v->S b (o+j)/\w.cell? ⟨b,o+j,none⟩=some v
def iT (w:World)(S:Nat->Nat->Prop):(e:CT)->iq->e.D->Prop
 | .int k,vs,n=>vs=[.int k n]
 | .bool,vs,b=>vs=[.bool b]
 | .str,vs,s=>vs=[.string ⟨s.toArray⟩]
 | .sl e,vs,xs=>∃v,vs=[v]/\(((∃a,v=.slice a 0 0)/\xs=[])\/
  ∃b o cap,v=.slice (some ⟨b,o,none⟩) xs.length cap/\xs.length<=cap/\
   ∀i x,xs[i]?=some x->∃cs,Oh w S b (o+i*e.size) cs/\iT w S e cs x)
 | .pair a b,vs,x=>∃v1 v2,vs=v1++v2/\iT w S a v1 x.1/\iT w S b v2 x.2
def oR (arr:Array Value)(fr:Nat×Nat):Prop:=∀j,j<arr.size->¬(fr.1<=j/\j<fr.2)
def ff (hw:Nat->Nat)(w:World):(e:CT)->iq->e.D->fw->Prop
 | .int k,vs,n,fp=>vs=[.int k n]/\fp=[]
 | .bool,vs,b,fp=>vs=[.bool b]/\fp=[]
 | .str,vs,s,fp=>vs=[.string ⟨s.toArray⟩]/\fp=[]
 | .sl e,vs,xs,fp=>∃v,vs=[v]/\(((∃a,v=.slice a 0 0)/\xs=[]/\fp=[])\/
  ∃b o0 cap arr T fr fps,v=.slice (some ⟨b,o0,none⟩) xs.length cap/\w.heap[b]?=some (.cells arr T fr)/\oR arr fr/\
   arr.size=o0+cap*e.size/\xs.length<=cap/\hw b=o0+xs.length*e.size/\fp=b::List.flatten fps/\fps.length=xs.length/\
   ∀i x f,xs[i]?=some x->fps[i]?=some f->ff hw w e ((arr.toList.drop (o0+i*e.size)).take e.size) x f)
 | .pair a b,vs,x,fp=>∃v1 v2 f1 f2,vs=v1++v2/\fp=f1++f2/\ff hw w a v1 x.1 f1/\ff hw w b v2 x.2 f2
theorem iT.length {w:World}{S:Nat->Nat->Prop}:∀{e:CT}{vs:iq}{x:e.D},iT w S e vs x->vs.length=e.size
 | .int _,_,_,h=>by simp[iT]at h;simp[h,CT.size]
 | .bool,_,_,h=>by simp[iT]at h;simp[h,CT.size]
 | .str,_,_,h=>by simp[iT]at h;simp[h,CT.size]
 | .sl _,_,_,h=>by obtain⟨v,rfl,_⟩:=h;simp[CT.size]
 | .pair a b,_,_,h=>by obtain⟨v1,v2,rfl,h1,h2⟩:=h;simp[CT.size,iT.length h1,iT.length h2]
theorem ff.length {w:World}:∀{e:CT}{vs:iq}{x:e.D}{fp:fw},ff hw w e vs x fp->vs.length=e.size
 | .int _,_,_,_,h=>by simp[ff]at h;simp[h,CT.size]
 | .bool,_,_,_,h=>by simp[ff]at h;simp[h,CT.size]
 | .str,_,_,_,h=>by simp[ff]at h;simp[h,CT.size]
 | .sl _,_,_,_,h=>by obtain⟨v,rfl,_⟩:=h;simp[CT.size]
 | .pair a b,_,_,_,h=>by obtain⟨v1,v2,f1,f2,rfl,rfl,h1,h2⟩:=h;simp[CT.size,ff.length h1,ff.length h2]
theorem CT.size_pos:∀e:CT,0<e.size
 | .int _=>by simp[CT.size]
 | .bool=>by simp[CT.size]
 | .str=>by simp[CT.size]
 | .sl _=>by simp[CT.size]
 | .pair a b=>by have:=CT.size_pos a;simp[CT.size];omega
theorem iT.mono {w w':World}{S S':Nat->Nat->Prop}(h:∀b o v,S b o->w.cell? ⟨b,o,none⟩=some v->S' b o/\w'.cell? ⟨b,o,none⟩=some v):
 ∀{e:CT}{vs:iq}{x:e.D},iT w S e vs x->iT w' S' e vs x
 | .int _,_,_,r=>r
 | .bool,_,_,r=>r
 | .str,_,_,r=>r
 | .sl e,_,_,r=>by obtain⟨v,rfl,r⟩:=r;refine⟨v,rfl,?_⟩;rcases r with r|⟨b,o,cap,rfl,hc,r⟩;exact .inl r;refine .inr ⟨b,o,cap,rfl,hc,λi x hx=>?_⟩;obtain⟨cs,Hd,hr⟩:=r i x hx;exact⟨cs,λj u hu=>h _ _ _ (Hd j u hu).1 (Hd j u hu).2,iT.mono h hr⟩
 | .pair a b,_,_,r=>by obtain⟨v1,v2,rfl,r1,r2⟩:=r;exact⟨v1,v2,rfl,iT.mono h r1,iT.mono h r2⟩
theorem ff.mono {hw':Nat->Nat}{w w':World}:∀{e:CT}{vs:iq}{x:e.D}{fp:fw},ff hw w e vs x fp->
 (∀b∈fp,w'.heap[b]?=w.heap[b]?/\hw' b=hw b)->ff hw' w' e vs x fp
 | .int _,_,_,_,r,_=>r
 | .bool,_,_,_,r,_=>r
 | .str,_,_,_,r,_=>r
 | .sl e,_,_,_,r,h=>by obtain⟨v,rfl,r⟩:=r;refine⟨v,rfl,?_⟩;rcases r with r|⟨b,o0,cap,arr,T,fr,fps,rfl,hb,qZ,hs,hc,hh,rfl,hl,r⟩;exact .inl r;have h0:=h b (by simp);refine .inr ⟨b,o0,cap,arr,T,fr,fps,rfl,h0.1.trans hb,qZ,hs,hc,h0.2.trans hh,rfl,hl,λi x f hx hf=>?_⟩;exact ff.mono (r i x f hx hf) λb' gM=>h b' (ec _ (List.mem_flatten.2 ⟨f,bn hf,gM⟩))
 | .pair a b,_,_,_,r,h=>by obtain⟨v1,v2,f1,f2,rfl,rfl,r1,r2⟩:=r;exact⟨v1,v2,f1,f2,rfl,rfl,ff.mono r1 λb hb=>h b (bt _ hb),ff.mono r2 λb hb=>h b (bj _ hb)⟩
theorem nU {w:World}{b:Nat}{arr:Array Value}{T:TypeId}{fr:Nat×Nat}(h:w.heap[b]?=some (.cells arr T fr))(o:Nat): w.cell? ⟨b,o,none⟩=arr[o]?:=by simp[World.cell?,h]
theorem ff.rep {w:World}{S:Nat->Nat->Prop}(hS:∀b o,o<hw b->S b o):∀{e:CT}{vs:iq}{x:e.D}{fp:fw},
 ff hw w e vs x fp->iT w S e vs x
 | .int _,_,_,_,r=>r.1
 | .bool,_,_,_,r=>r.1
 | .str,_,_,_,r=>r.1
 | .sl e,_,xs,_,r=>by obtain⟨v,rfl,r⟩:=r;refine⟨v,rfl,?_⟩;rcases r with r|⟨b,o0,cap,arr,T,fr,fps,rfl,hb,qZ,hs,hc,hh,rfl,hl,r⟩;exact .inl ⟨r.1,r.2.1⟩;refine .inr ⟨b,o0,cap,rfl,hc,λi x hx=>?_⟩;have hi:i<xs.length:=(aF.1 hx).1;have hf:fps[i]?=some fps[i]:=al (by omega);refine⟨_,λj u hu=>?_,ff.rep hS (r i x _ hx hf)⟩;rw[dA]at hu;split at hu;rename_i hj;rw[bI,cj]at hu;have hm:(i+1)*e.size<=xs.length*e.size:=cu _ hi;rw[cy,fb]at hm;exact⟨hS _ _ (by rw[hh];omega),by rw[nU hb];exact hu⟩;cases hu
 | .pair a b,_,_,_,r=>by obtain⟨v1,v2,f1,f2,rfl,rfl,r1,r2⟩:=r;exact⟨v1,v2,rfl,ff.rep hS r1,ff.rep hS r2⟩
def aaN (hw:Nat->Nat)(w:World)(e:CT)(v:Value)(xs:aw e.D)(k:Nat)(fp:fw):Prop:=
 ∃b o0 cap arr T fr fps,v=.slice (some ⟨b,o0,none⟩) xs.length cap/\w.heap[b]?=some (.cells arr T fr)/\oR arr fr/\
  arr.size=o0+cap*e.size/\xs.length<=cap/\hw b=o0+xs.length*e.size/\fp=b::List.flatten fps/\fps.length=xs.length/\
  k<xs.length/\fps[k]?=some []/\∀i x f,i≠k->xs[i]?=some x->fps[i]?=some f->ff hw w e ((arr.toList.drop (o0+i*e.size)).take e.size) x f
theorem aaN.mono {hw':Nat->Nat}{w w':World}{e:CT}{xs:aw e.D}{k:Nat}(r:aaN hw w e v xs k fp)(h:∀b∈fp,w'.heap[b]?=w.heap[b]?/\hw' b=hw b):aaN hw' w' e v xs k fp:=by obtain⟨b,o0,cap,arr,T,fr,fps,rfl,hb,qZ,hs,hc,hh,rfl,hl,hk,hf,r⟩:=r;have h0:=h b (by simp);refine⟨b,o0,cap,arr,T,fr,fps,rfl,h0.1.trans hb,qZ,hs,hc,h0.2.trans hh,rfl,hl,hk,hf,λi x f hi hx hf=>?_⟩;exact ff.mono (r i x f hi hx hf) λb' gM=>h b' (ec _ (List.mem_flatten.2 ⟨f,bn hf,gM⟩))
abbrev Rg:=Bool->Nat->Nat->Prop
structure RC where
 hw:Nat->Nat
 β:Nat->Nat
 A:Rg
 hdr:Nat->Value
 iss:Nat->Prop
 ep:Nat
 Gl:Nat->Prop
 w:World
variable {c c':RC}
def RC.S (c:RC)(b o:Nat):Prop:=(∃k,c.A k b o)\/o<c.hw b
def gA (c:RC)(v:Value):AC->fw->Prop
 | .int k n,fp=>v=.int k n/\fp=[]
 | .bool b,fp=>v=.bool b/\fp=[]
 | .str s,fp=>v=.string ⟨s.toArray⟩/\fp=[]
 | .sl (.own tag) e xs,fp=>ff c.hw c.w (.sl e) [v] xs fp/\∀t,tag=some t->c.iss t/\v=c.hdr t
 | .sl (.loc ep pv) e xs,fp=>fp=[]/\ep<=c.ep/\(∃o n k,v=.slice o n k/\n=xs.length)/\(ep=c.ep->iT c.w c.S (.sl e) [v] xs)/\
  ∀r t,pv=some (r,t)->c.iss t/\v=c.hdr t
 | .sl (.arg k) e xs,fp=>fp=[]/\iT c.w (c.A k) (.sl e) [v] xs
 | .sl (.nest ep _ t e' i off) _ xs,fp=>fp=[]/\ep<=c.ep/\(∃o n k,v=.slice o n k/\n=xs.length)/\
  (ep=c.ep->c.iss t/\∃n b o0 len cap:Nat,i=n/\c.hdr t=.slice (some ⟨b,o0,none⟩) len cap/\n<len/\c.S b (o0+n*e'.size+off)/\c.w.cell? ⟨b,o0+n*e'.size+off,none⟩=some v)
 | .sl (.part ep _ t lo) e xs,fp=>fp=[]/\ep<=c.ep/\(∃o n k,v=.slice o n k/\n=xs.length)/\
  (ep=c.ep->c.iss t/\(xs=[]\/∃n b o0 len cap k:Nat,lo=n/\c.hdr t=.slice (some ⟨b,o0,none⟩) len cap/\n+xs.length<=len/\v=.slice (some ⟨b,o0+n*e.size,none⟩) xs.length k))
 | .sl (.fg tag i ep) e xs,fp=>(∀q,ep=some q->q<=c.ep/\(q=c.ep->iT c.w c.S (.sl e) [v] xs))/\(∃k:Nat,i=k/\aaN c.hw c.w e v xs k fp)/\∀t,tag=some t->c.iss t/\v=c.hdr t
 | .jm,fp=>v=.slice none 0 0/\fp=[]
 | .ptr s off,fp=>v=.pointer (some ⟨c.β s,off,none⟩)/\c.Gl s/\fp=[]
 | .zM (.own _) _ _ _ _,_=>False
 | .zM (.nest ..) _ _ _ _,_=>False
 | .zM (.part ..) _ _ _ _,_=>False
 | .zM (.fg ..) _ _ _ _,_=>False
 | .zM (.loc ep pv) e x i off,fp=>fp=[]/\∃b o,v=.pointer (some ⟨b,o+off,none⟩)/\ep<=c.ep/\
  (ep=c.ep->∃cs,Oh c.w c.S b o cs/\iT c.w c.S e cs x)/\
  ∀r t,pv=some (r,t)->c.iss t/\∃n o0 len cap:Nat,i=n/\c.hdr t=.slice (some ⟨b,o0,none⟩) len cap/\n<len/\o=o0+n*e.size
 | .zM (.arg k) e x _ off,fp=>fp=[]/\∃b o,v=.pointer (some ⟨b,o+off,none⟩)/\∃cs,Oh c.w (c.A k) b o cs/\iT c.w (c.A k) e cs x
 | .fn f,fp=>v=.func (.func f) #[] #[]/\fp=[]
 | .un,fp=>v=undef/\fp=[]
 | .bot,fp=>fp=[]
def bB (c:RC):iq->aw AC->fw->Prop
 |[],[],fp=>fp=[]
 |v::vs,x::xs,fp=>∃f1 f2,fp=f1++f2/\gA c v x f1/\bB c vs xs f2
 |_,_,_=>False
def Cut (g:Bool)(v:Value)(vs:iq):Prop:=if g then v=.agg vs.toArray else vs=[v]
def fR (c:RC)(v:Value):AV->fw->Prop
 | .val g cs,fp=>∃vs,Cut g v vs/\bB c vs cs fp
 | .uF ts,fp=>∃ws:iq,v=.tuple ws.toArray/\pF ws ts fp
 where
 pF:iq->aw (Bool×aw AC)->fw->Prop
  |[],[],fp=>fp=[]
  |w::ws,t::ts,fp=>∃f1 f2,fp=f1++f2/\(∃vs,Cut t.1 w vs/\bB c vs t.2 f1)/\pF ws ts f2
  |_,_,_=>False
structure RC.Le (c c':RC):Prop where
 A:c'.A=c.A
 hdr:∀t,c.iss t->c'.iss t/\c'.hdr t=c.hdr t
 QT:∀k b o v,c.A k b o->c.w.cell? ⟨b,o,none⟩=some v->c'.w.cell? ⟨b,o,none⟩=some v
 ep:c.ep<=c'.ep
 Gl:∀s,c.Gl s->c'.Gl s/\c'.β s=c.β s
 ZX:c'.ep=c.ep->∀b o v,o<c.hw b->c.w.cell? ⟨b,o,none⟩=some v->o<c'.hw b/\c'.w.cell? ⟨b,o,none⟩=some v
theorem RC.Le.S (h:c.Le c')(he:c'.ep=c.ep)(b o:Nat)(v:Value)(hs:c.S b o)(hv:c.w.cell? ⟨b,o,none⟩=some v): c'.S b o/\c'.w.cell? ⟨b,o,none⟩=some v:=by rcases hs with hs|hs;obtain⟨k,hs⟩:=hs;exact⟨.inl ⟨k,by rw[h.A];exact hs⟩,h.QT _ _ _ _ hs hv⟩;exact⟨.inr (h.ZX he _ _ _ hs hv).1,(h.ZX he _ _ _ hs hv).2⟩
theorem RC.Le.A' (h:c.Le c')(k:Bool)(b o:Nat)(v:Value)(hs:c.A k b o)(hv:c.w.cell? ⟨b,o,none⟩=some v): c'.A k b o/\c'.w.cell? ⟨b,o,none⟩=some v:=⟨by rw[h.A];exact hs,h.QT _ _ _ _ hs hv⟩
theorem gA.mono (h:c.Le c'){x:AC}(r:gA c v x fp)(BM:∀b∈fp,c'.w.heap[b]?=c.w.heap[b]?/\c'.hw b=c.hw b):gA c' v x fp:=by
 cases x with
 |int k n=>exact r
 |bool b=>exact r
 |str s=>exact r
 |jm=>exact r
 |fn f=>exact r
 |un=>exact r
 |bot=>exact r
 |ptr s off=>exact⟨by rw[(h.Gl s r.2.1).2];exact r.1,(h.Gl s r.2.1).1,r.2.2⟩
 |sl fl e xs=>
  cases fl with
  |own tag=>exact⟨ff.mono r.1 BM,λt ht=>⟨(h.hdr t (r.2 t ht).1).1,by rw[(h.hdr t (r.2 t ht).1).2];exact(r.2 t ht).2⟩⟩
  |arg k=>exact⟨r.1,iT.mono (h.A' k) r.2⟩
  |nest ep rt t e' i off=>
   obtain⟨h1,h2,h3,h4⟩:=r;refine⟨h1,bw h2 h.ep,h3,λhe=>?_⟩;have wN:c'.ep=c.ep:=by have:=h.ep;omega
   obtain⟨k1,n,b,o0,len,cap,e1,e2,e3,e4,e5⟩:=h4 (by omega);have hS:=h.S wN _ _ _ e4 e5;exact⟨(h.hdr t k1).1,n,b,o0,len,cap,e1,by rw[(h.hdr t k1).2];exact e2,e3,hS.1,hS.2⟩
  |part ep rt t lo=>obtain⟨h1,h2,h3,h4⟩:=r;refine⟨h1,bw h2 h.ep,h3,λhe=>?_⟩;obtain⟨k1,k2⟩:=h4 (by have:=h.ep;omega);exact⟨(h.hdr t k1).1,by rw[(h.hdr t k1).2];exact k2⟩
  |fg tag i ep=>obtain⟨h1,⟨k,hk,h3⟩,h4⟩:=r;refine⟨λq hq=>⟨bw (h1 q hq).1 h.ep,λhe=>?_⟩,⟨k,hk,h3.mono BM⟩,λt ht=>⟨(h.hdr t (h4 t ht).1).1,by rw[(h.hdr t (h4 t ht).1).2];exact(h4 t ht).2⟩⟩;have hle:=(h1 q hq).1;have hce:=h.ep;exact iT.mono (h.S (by omega)) ((h1 q hq).2 (by omega))
  |loc ep pv=>
   obtain⟨h1,h2,h3,h4,h5⟩:=r;refine⟨h1,bw h2 h.ep,h3,λhe=>?_,λr t hr=>?_⟩;have:c'.ep=c.ep:=by have:=h.ep;omega
   exact iT.mono (h.S this) (h4 (by omega));obtain⟨k1,k2⟩:=h5 r t hr;exact⟨(h.hdr t k1).1,by rw[(h.hdr t k1).2];exact k2⟩
 |zM fl e y i off=>
  cases fl with
  |own tag=>exact r
  |nest _ _ _ _ _ _=>exact r.elim
  |part _ _ _ _=>exact r.elim
  |fg _ _ _=>exact r.elim
  |arg k=>obtain⟨h1,b,o,hv,cs,hc,hr⟩:=r;exact⟨h1,b,o,hv,cs,λj u hu=>h.A' k _ _ _ (hc j u hu).1 (hc j u hu).2,iT.mono (h.A' k) hr⟩
  |loc ep pv=>
   obtain⟨h1,b,o,hv,h2,h4,h5⟩:=r;refine⟨h1,b,o,hv,bw h2 h.ep,λhe=>?_,λr t hr=>?_⟩;have:c'.ep=c.ep:=by have:=h.ep;omega
   obtain⟨cs,hc,hr⟩:=h4 (by omega);exact⟨cs,λj u hu=>h.S this _ _ _ (hc j u hu).1 (hc j u hu).2,iT.mono (h.S this) hr⟩;obtain⟨k1,n,o0,len,cap,hi,hrt,hn⟩:=h5 r t hr;exact⟨(h.hdr t k1).1,n,o0,len,cap,hi,by rw[(h.hdr t k1).2];exact hrt,hn⟩
theorem bB.mono (h:c.Le c'):∀{vs:iq}{xs:aw AC}{fp:fw},bB c vs xs fp->
 (∀b∈fp,c'.w.heap[b]?=c.w.heap[b]?/\c'.hw b=c.hw b)->bB c' vs xs fp
 |[],[],_,r,_=>r
 |_::_,_::_,_,r,hf=>by obtain⟨f1,f2,rfl,r1,r2⟩:=r;exact⟨f1,f2,rfl,r1.mono h (λb hb=>hf b (bt _ hb)),bB.mono h r2 (λb hb=>hf b (bj _ hb))⟩
 |[],_::_,_,r,_=>r.elim
 |_::_,[],_,r,_=>r.elim
theorem pF.mono (h:c.Le c'):∀{vs:iq}{xs:aw (Bool×aw AC)}{fp:fw},fR.pF c vs xs fp->
 (∀b∈fp,c'.w.heap[b]?=c.w.heap[b]?/\c'.hw b=c.hw b)->fR.pF c' vs xs fp
 |[],[],_,r,_=>r
 |_::_,_::_,_,r,hf=>by obtain⟨f1,f2,rfl,⟨vs,hv,r1⟩,r2⟩:=r;exact⟨f1,f2,rfl,⟨vs,hv,r1.mono h (λb hb=>hf b (bt _ hb))⟩,pF.mono h r2 (λb hb=>hf b (bj _ hb))⟩
 |[],_::_,_,r,_=>r.elim
 |_::_,[],_,r,_=>r.elim
theorem fR.mono (h:c.Le c'){x:AV}(r:fR c v x fp)(BM:∀b∈fp,c'.w.heap[b]?=c.w.heap[b]?/\c'.hw b=c.hw b):fR c' v x fp:=by
 cases x with
 |val g cs=>obtain⟨vs,hv,r⟩:=r;exact⟨vs,hv,r.mono h BM⟩
 |uF ts=>obtain⟨ws,hv,r⟩:=r;exact⟨ws,hv,pF.mono h r BM⟩
theorem bB.length:∀{vs:iq}{xs:aw AC}{fp:fw},bB c vs xs fp->vs.length=xs.length
 |[],[],_,_=>rfl
 |_::_,_::_,_,r=>by obtain⟨f1,f2,rfl,r1,r2⟩:=r;simp[bB.length r2]
 |[],_::_,_,r=>r.elim
 |_::_,[],_,r=>r.elim
theorem bB.append:∀{vs:iq}{xs:aw AC}{fp:fw}{vs':iq}{Ma:aw AC}{jK:fw},
 bB c vs xs fp->bB c vs' Ma jK->bB c (vs++vs') (xs++Ma) (fp++jK)
 |[],[],_,_,_,_,r,r'=>by cases r;simpa using r'
 |_::_,_::_,_,_,_,_,r,r'=>by obtain⟨f1,f2,rfl,r1,r2⟩:=r;exact⟨f1,f2++_,by simp,r1,bB.append r2 r'⟩
 |[],_::_,_,_,_,_,r,_=>r.elim
 |_::_,[],_,_,_,_,r,_=>r.elim
theorem bB.split:∀(n:Nat){vs:iq}{xs:aw AC}{fp:fw},bB c vs xs fp->
 ∃f1 f2,fp=f1++f2/\bB c (vs.take n) (xs.take n) f1/\bB c (vs.drop n) (xs.drop n) f2
 |0,vs,xs,fp,r=>⟨[],fp,rfl,by simp[bB],by simpa using r⟩
 |n+1,[],[],_,r=>by cases r;exact⟨[],[],rfl,by simp[bB],by simp[bB]⟩
 |n+1,_::_,_::_,_,r=>by obtain⟨f1,f2,rfl,r1,r2⟩:=r;obtain⟨g1,g2,rfl,s1,s2⟩:=bB.split n r2;exact⟨f1++g1,g2,by simp,⟨f1,g1,rfl,r1,s1⟩,s2⟩
 |n+1,[],_::_,_,r=>r.elim
 |n+1,_::_,[],_,r=>r.elim
theorem bB.get:∀{vs:iq}{xs:aw AC}{fp:fw},bB c vs xs fp->∀(i:Nat)(x:AC),xs[i]?=some x->
 ∃v f,vs[i]?=some v/\gA c v x f/\∀b∈f,b∈fp
 |[],[],_,_,i,x,h=>by simp at h
 |v::_,_::_,_,r,0,x,h=>by obtain⟨f1,f2,rfl,r1,r2⟩:=r;simp at h;subst h;exact⟨v,f1,rfl,r1,λb hb=>bt _ hb⟩
 |_::_,_::_,_,r,i+1,x,h=>by obtain⟨f1,f2,rfl,r1,r2⟩:=r;obtain⟨v,f,hv,hr,hf⟩:=bB.get r2 i x (by simpa using h);exact⟨v,f,by simpa using hv,hr,λb hb=>bj _ (hf b hb)⟩
 |[],_::_,_,r,_,_,_=>r.elim
 |_::_,[],_,r,_,_,_=>r.elim
end Go.Dn
