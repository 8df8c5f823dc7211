import Derived.Test.YtfbhfnniblfpbaaGreatDnBase
import Derived.Below
import Derived.Laws.StructEq
import Derived.Orders
/- What the abstract values mean in the model's memory, and how that meaning lasts while memory grows. -/
namespace Go.Dn
open Go.RowKit
variable {hw:Nat->Nat} {α:Type} {fp:fi}
theorem eV (l:ax α)(i:Nat):nth l i=l[i]?:=by induction l generalizing i with|nil=>simp[nth]|cons a l ih=>cases i<;>simp[nth,ih]
theorem gB (l:ax α)(i:Nat)(v:α):jm l i v=l.set i v:=by induction l generalizing i with|nil=>simp[jm]|cons a l ih=>cases i<;>simp[jm,ih]
def Vs (w:World)(S:Nat->Nat->Prop)(b o:Nat)(vs:jI):Prop:=
 ∀j v,vs[j]?=some v->S b (o+j)/\w.cell? ⟨b,o+j,none⟩=some v
def kE (w:World)(S:Nat->Nat->Prop):(e:CT)->jI->e.D->Prop
 | .int k,vs,n=>vs=[.int k n]
 | .bool,vs,b=>vs=[.bool b]
 | .str,vs,s=>vs=[.string ⟨s.toArray⟩]
 | .sl e,vs,xs=>∃v,vs=[v]/\(((∃a,v=.slice a 0 0)/\xs=[])\/
  ∃b o cap,v=.slice (some ⟨b,o,none⟩) xs.length cap/\xs.length<=cap/\
   ∀i x,xs[i]?=some x->∃cs,Vs w S b (o+i*e.size) cs/\kE w S e cs x)
 | .pair a b,vs,x=>∃v1 v2,vs=v1++v2/\kE w S a v1 x.1/\kE w S b v2 x.2
def sE (arr:Array Value)(fr:Nat×Nat):Prop:=∀j,j<arr.size->¬(fr.1<=j/\j<fr.2)
def fZ (hw:Nat->Nat)(w:World):(e:CT)->jI->e.D->fi->Prop
 | .int k,vs,n,fp=>vs=[.int k n]/\fp=[]
 | .bool,vs,b,fp=>vs=[.bool b]/\fp=[]
 | .str,vs,s,fp=>vs=[.string ⟨s.toArray⟩]/\fp=[]
 | .sl e,vs,xs,fp=>∃v,vs=[v]/\(((∃a,v=.slice a 0 0)/\xs=[]/\fp=[])\/
  ∃b o0 cap arr T fr fps,v=.slice (some ⟨b,o0,none⟩) xs.length cap/\w.heap[b]?=some (.cells arr T fr)/\sE arr fr/\
   arr.size=o0+cap*e.size/\xs.length<=cap/\hw b=o0+xs.length*e.size/\fp=b::List.flatten fps/\fps.length=xs.length/\
   ∀i x f,xs[i]?=some x->fps[i]?=some f->fZ hw w e ((arr.toList.drop (o0+i*e.size)).take e.size) x f)
 | .pair a b,vs,x,fp=>∃v1 v2 f1 f2,vs=v1++v2/\fp=f1++f2/\fZ hw w a v1 x.1 f1/\fZ hw w b v2 x.2 f2
theorem kE.length {w:World}{S:Nat->Nat->Prop}:∀{e:CT}{vs:jI}{x:e.D},kE w S e vs x->vs.length=e.size
 | .int _,_,_,h=>by simp[kE]at h;simp[h,CT.size]
 | .bool,_,_,h=>by simp[kE]at h;simp[h,CT.size]
 | .str,_,_,h=>by simp[kE]at h;simp[h,CT.size]
 | .sl _,_,_,h=>by obtain⟨v,rfl,_⟩:=h;simp[CT.size]
 | .pair a b,_,_,h=>by obtain⟨v1,v2,rfl,h1,h2⟩:=h;simp[CT.size,kE.length h1,kE.length h2]
theorem fZ.length {w:World}:∀{e:CT}{vs:jI}{x:e.D}{fp:fi},fZ hw w e vs x fp->vs.length=e.size
 | .int _,_,_,_,h=>by simp[fZ]at h;simp[h,CT.size]
 | .bool,_,_,_,h=>by simp[fZ]at h;simp[h,CT.size]
 | .str,_,_,_,h=>by simp[fZ]at h;simp[h,CT.size]
 | .sl _,_,_,_,h=>by obtain⟨v,rfl,_⟩:=h;simp[CT.size]
 | .pair a b,_,_,_,h=>by obtain⟨v1,v2,f1,f2,rfl,rfl,h1,h2⟩:=h;simp[CT.size,fZ.length h1,fZ.length h2]
theorem CT.size_pos:∀e:CT,0<e.size
 | .int _=>by simp[CT.size]
 | .bool=>by simp[CT.size]
 | .str=>by simp[CT.size]
 | .sl _=>by simp[CT.size]
 | .pair a b=>by have:=CT.size_pos a;simp[CT.size];omega
theorem kE.mono {w w':World}{S S':Nat->Nat->Prop}(h:∀b o v,S b o->w.cell? ⟨b,o,none⟩=some v->S' b o/\w'.cell? ⟨b,o,none⟩=some v):
 ∀{e:CT}{vs:jI}{x:e.D},kE w S e vs x->kE w' S' e vs x
 | .int _,_,_,r=>r
 | .bool,_,_,r=>r
 | .str,_,_,r=>r
 | .sl e,_,_,r=>by obtain⟨v,rfl,r⟩:=r;refine⟨v,rfl,?_⟩;rcases r with r|⟨b,o,cap,rfl,hc,r⟩;exact .inl r;refine .inr ⟨b,o,cap,rfl,hc,λi x hx=>?_⟩;obtain⟨cs,MX,hr⟩:=r i x hx;exact⟨cs,λj u hu=>h _ _ _ (MX j u hu).1 (MX j u hu).2,kE.mono h hr⟩
 | .pair a b,_,_,r=>by obtain⟨v1,v2,rfl,r1,r2⟩:=r;exact⟨v1,v2,rfl,kE.mono h r1,kE.mono h r2⟩
theorem fZ.mono {hw':Nat->Nat}{w w':World}:∀{e:CT}{vs:jI}{x:e.D}{fp:fi},fZ hw w e vs x fp->
 (∀b∈fp,w'.heap[b]?=w.heap[b]?/\hw' b=hw b)->fZ hw' w' e vs x fp
 | .int _,_,_,_,r,_=>r
 | .bool,_,_,_,r,_=>r
 | .str,_,_,_,r,_=>r
 | .sl e,_,_,_,r,h=>by obtain⟨v,rfl,r⟩:=r;refine⟨v,rfl,?_⟩;rcases r with r|⟨b,o0,cap,arr,T,fr,fps,rfl,hb,vx,hs,hc,hh,rfl,hl,r⟩;exact .inl r;have h0:=h b (by simp);refine .inr ⟨b,o0,cap,arr,T,fr,fps,rfl,h0.1.trans hb,vx,hs,hc,h0.2.trans hh,rfl,hl,λi x f hx hf=>?_⟩;exact fZ.mono (r i x f hx hf) λb' iq=>h b' (cc _ (List.mem_flatten.2 ⟨f,aX hf,iq⟩))
 | .pair a b,_,_,_,r,h=>by obtain⟨v1,v2,f1,f2,rfl,rfl,r1,r2⟩:=r;exact⟨v1,v2,f1,f2,rfl,rfl,fZ.mono r1 λb hb=>h b (aU _ hb),fZ.mono r2 λb hb=>h b (bj _ hb)⟩
theorem rb {w:World}{b:Nat}{arr:Array Value}{T:TypeId}{fr:Nat×Nat}(h:w.heap[b]?=some (.cells arr T fr))(o:Nat): w.cell? ⟨b,o,none⟩=arr[o]?:=by simp[World.cell?,h]
theorem fZ.rep {w:World}{S:Nat->Nat->Prop}(hS:∀b o,o<hw b->S b o):∀{e:CT}{vs:jI}{x:e.D}{fp:fi},
 fZ hw w e vs x fp->kE w S e vs x
 | .int _,_,_,_,r=>r.1
 | .bool,_,_,_,r=>r.1
 | .str,_,_,_,r=>r.1
 | .sl e,_,xs,_,r=>by obtain⟨v,rfl,r⟩:=r;refine⟨v,rfl,?_⟩;rcases r with r|⟨b,o0,cap,arr,T,fr,fps,rfl,hb,vx,hs,hc,hh,rfl,hl,r⟩;exact .inl ⟨r.1,r.2.1⟩;refine .inr ⟨b,o0,cap,rfl,hc,λi x hx=>?_⟩;have hi:i<xs.length:=(aD.1 hx).1;have hf:fps[i]?=some fps[i]:=ay (by omega);refine⟨_,λj u hu=>?_,fZ.rep hS (r i x _ hx hf)⟩;rw[eJ]at hu;split at hu;rename_i hj;rw[cj,cK]at hu;have hm:(i+1)*e.size<=xs.length*e.size:=dw _ hi;rw[dg,fT]at hm;exact⟨hS _ _ (by rw[hh];omega),by rw[rb hb];exact hu⟩;cases hu
 | .pair a b,_,_,_,r=>by obtain⟨v1,v2,f1,f2,rfl,rfl,r1,r2⟩:=r;exact⟨v1,v2,rfl,fZ.rep hS r1,fZ.rep hS r2⟩
def agD (hw:Nat->Nat)(w:World)(e:CT)(v:Value)(xs:ax e.D)(k:Nat)(fp:fi):Prop:=
 ∃b o0 cap arr T fr fps,v=.slice (some ⟨b,o0,none⟩) xs.length cap/\w.heap[b]?=some (.cells arr T fr)/\sE arr fr/\
  arr.size=o0+cap*e.size/\xs.length<=cap/\hw b=o0+xs.length*e.size/\fp=b::List.flatten fps/\fps.length=xs.length/\
  k<xs.length/\fps[k]?=some []/\∀i x f,i≠k->xs[i]?=some x->fps[i]?=some f->fZ hw w e ((arr.toList.drop (o0+i*e.size)).take e.size) x f
theorem agD.mono {hw':Nat->Nat}{w w':World}{e:CT}{v:Value}{xs:ax e.D}{k:Nat}(r:agD hw w e v xs k fp)(h:∀b∈fp,w'.heap[b]?=w.heap[b]?/\hw' b=hw b):agD hw' w' e v xs k fp:=by obtain⟨b,o0,cap,arr,T,fr,fps,rfl,hb,vx,hs,hc,hh,rfl,hl,hk,hf,r⟩:=r;have h0:=h b (by simp);refine⟨b,o0,cap,arr,T,fr,fps,rfl,h0.1.trans hb,vx,hs,hc,h0.2.trans hh,rfl,hl,hk,hf,λi x f hi hx hf=>?_⟩;exact fZ.mono (r i x f hi hx hf) λb' iq=>h b' (cc _ (List.mem_flatten.2 ⟨f,aX hf,iq⟩))
abbrev Rg:=Bool->Nat->Nat->Prop
structure RC where
 hw:Nat->Nat
 β:Nat->Nat
 A:Rg
 hdr:Nat->Value
 iss:Nat->Prop
 ep:Nat
 LQ:Nat->Prop
 w:World
variable {c c':RC}
def RC.S (c:RC)(b o:Nat):Prop:=(∃k,c.A k b o)\/o<c.hw b
def je (c:RC)(v:Value):AC->fi->Prop
 | .int k n,fp=>v=.int k n/\fp=[]
 | .bool b,fp=>v=.bool b/\fp=[]
 | .str s,fp=>v=.string ⟨s.toArray⟩/\fp=[]
 | .sl (.own tag) e xs,fp=>fZ c.hw c.w (.sl e) [v] xs fp/\∀t,tag=some t->c.iss t/\v=c.hdr t
 | .sl (.loc ep pv) e xs,fp=>fp=[]/\ep<=c.ep/\(∃o n k,v=.slice o n k/\n=xs.length)/\(ep=c.ep->kE c.w c.S (.sl e) [v] xs)/\
  ∀r t,pv=some (r,t)->c.iss t/\v=c.hdr t
 | .sl (.arg k) e xs,fp=>fp=[]/\kE c.w (c.A k) (.sl e) [v] xs
 | .sl (.nest ep _ t e' i off) _ xs,fp=>fp=[]/\ep<=c.ep/\(∃o n k,v=.slice o n k/\n=xs.length)/\
  (ep=c.ep->c.iss t/\∃n b o0 len cap:Nat,i=n/\c.hdr t=.slice (some ⟨b,o0,none⟩) len cap/\n<len/\c.S b (o0+n*e'.size+off)/\c.w.cell? ⟨b,o0+n*e'.size+off,none⟩=some v)
 | .sl (.part ep _ t lo) e xs,fp=>fp=[]/\ep<=c.ep/\(∃o n k,v=.slice o n k/\n=xs.length)/\
  (ep=c.ep->c.iss t/\(xs=[]\/∃n b o0 len cap k:Nat,lo=n/\c.hdr t=.slice (some ⟨b,o0,none⟩) len cap/\n+xs.length<=len/\v=.slice (some ⟨b,o0+n*e.size,none⟩) xs.length k))
 | .sl (.gr tag i ep) e xs,fp=>(∀q,ep=some q->q<=c.ep/\(q=c.ep->kE c.w c.S (.sl e) [v] xs))/\(∃k:Nat,i=k/\agD c.hw c.w e v xs k fp)/\∀t,tag=some t->c.iss t/\v=c.hdr t
 | .kS,fp=>v=.slice none 0 0/\fp=[]
 | .ptr s off,fp=>v=.pointer (some ⟨c.β s,off,none⟩)/\c.LQ s/\fp=[]
 | .Ef (.own _) _ _ _ _,_=>False
 | .Ef (.nest ..) _ _ _ _,_=>False
 | .Ef (.part ..) _ _ _ _,_=>False
 | .Ef (.gr ..) _ _ _ _,_=>False
 | .Ef (.loc ep pv) e x i off,fp=>fp=[]/\∃b o,v=.pointer (some ⟨b,o+off,none⟩)/\ep<=c.ep/\
  (ep=c.ep->∃cs,Vs c.w c.S b o cs/\kE c.w c.S e cs x)/\
  ∀r t,pv=some (r,t)->c.iss t/\∃n o0 len cap:Nat,i=n/\c.hdr t=.slice (some ⟨b,o0,none⟩) len cap/\n<len/\o=o0+n*e.size
 | .Ef (.arg k) e x _ off,fp=>fp=[]/\∃b o,v=.pointer (some ⟨b,o+off,none⟩)/\∃cs,Vs c.w (c.A k) b o cs/\kE c.w (c.A k) e cs x
 | .fn f,fp=>v=.func (.func f) #[] #[]/\fp=[]
 | .un,fp=>v=undef/\fp=[]
 | .bot,fp=>fp=[]
def bW (c:RC):jI->ax AC->fi->Prop
 |[],[],fp=>fp=[]
 |v::vs,x::xs,fp=>∃f1 f2,fp=f1++f2/\je c v x f1/\bW c vs xs f2
 |_,_,_=>False
def Cut (g:Bool)(v:Value)(vs:jI):Prop:=if g then v=.agg vs.toArray else vs=[v]
def gV (c:RC)(v:Value):AV->fi->Prop
 | .val g cs,fp=>∃vs,Cut g v vs/\bW c vs cs fp
 | .yY ts,fp=>∃ws:jI,v=.tuple ws.toArray/\tw ws ts fp
 where
 tw:jI->ax (Bool×ax AC)->fi->Prop
  |[],[],fp=>fp=[]
  |w::ws,t::ts,fp=>∃f1 f2,fp=f1++f2/\(∃vs,Cut t.1 w vs/\bW c vs t.2 f1)/\tw ws ts f2
  |_,_,_=>False
structure RC.Le (c c':RC):Prop where
 A:c'.A=c.A
 hdr:∀t,c.iss t->c'.iss t/\c'.hdr t=c.hdr t
 Xw:∀k b o v,c.A k b o->c.w.cell? ⟨b,o,none⟩=some v->c'.w.cell? ⟨b,o,none⟩=some v
 ep:c.ep<=c'.ep
 LQ:∀s,c.LQ s->c'.LQ s/\c'.β s=c.β s
 afH:c'.ep=c.ep->∀b o v,o<c.hw b->c.w.cell? ⟨b,o,none⟩=some v->o<c'.hw b/\c'.w.cell? ⟨b,o,none⟩=some v
theorem RC.Le.S (h:c.Le c')(he:c'.ep=c.ep)(b o:Nat)(v:Value)(hs:c.S b o)(hv:c.w.cell? ⟨b,o,none⟩=some v): c'.S b o/\c'.w.cell? ⟨b,o,none⟩=some v:=by rcases hs with hs|hs;obtain⟨k,hs⟩:=hs;exact⟨.inl ⟨k,by rw[h.A];exact hs⟩,h.Xw _ _ _ _ hs hv⟩;exact⟨.inr (h.afH he _ _ _ hs hv).1,(h.afH he _ _ _ hs hv).2⟩
theorem RC.Le.A' (h:c.Le c')(k:Bool)(b o:Nat)(v:Value)(hs:c.A k b o)(hv:c.w.cell? ⟨b,o,none⟩=some v): c'.A k b o/\c'.w.cell? ⟨b,o,none⟩=some v:=⟨by rw[h.A];exact hs,h.Xw _ _ _ _ hs hv⟩
theorem je.mono (h:c.Le c'){v:Value}{x:AC}(r:je c v x fp)(Ha:∀b∈fp,c'.w.heap[b]?=c.w.heap[b]?/\c'.hw b=c.hw b):je c' v x fp:=by
 cases x with
 |int k n=>exact r
 |bool b=>exact r
 |str s=>exact r
 |kS=>exact r
 |fn f=>exact r
 |un=>exact r
 |bot=>exact r
 |ptr s off=>exact⟨by rw[(h.LQ s r.2.1).2];exact r.1,(h.LQ s r.2.1).1,r.2.2⟩
 |sl fl e xs=>
  cases fl with
  |own tag=>exact⟨fZ.mono r.1 Ha,λt ht=>⟨(h.hdr t (r.2 t ht).1).1,by rw[(h.hdr t (r.2 t ht).1).2];exact(r.2 t ht).2⟩⟩
  |arg k=>exact⟨r.1,kE.mono (h.A' k) r.2⟩
  |nest ep rt t e' i off=>
   obtain⟨h1,h2,h3,h4⟩:=r;refine⟨h1,bF h2 h.ep,h3,λhe=>?_⟩;have BG:c'.ep=c.ep:=by have:=h.ep;omega
   obtain⟨k1,n,b,o0,len,cap,e1,e2,e3,e4,e5⟩:=h4 (by omega);have hS:=h.S BG _ _ _ e4 e5;exact⟨(h.hdr t k1).1,n,b,o0,len,cap,e1,by rw[(h.hdr t k1).2];exact e2,e3,hS.1,hS.2⟩
  |part ep rt t lo=>obtain⟨h1,h2,h3,h4⟩:=r;refine⟨h1,bF h2 h.ep,h3,λhe=>?_⟩;obtain⟨k1,k2⟩:=h4 (by have:=h.ep;omega);exact⟨(h.hdr t k1).1,by rw[(h.hdr t k1).2];exact k2⟩
  |gr tag i ep=>obtain⟨h1,⟨k,hk,h3⟩,h4⟩:=r;refine⟨λq hq=>⟨bF (h1 q hq).1 h.ep,λhe=>?_⟩,⟨k,hk,h3.mono Ha⟩,λt ht=>⟨(h.hdr t (h4 t ht).1).1,by rw[(h.hdr t (h4 t ht).1).2];exact(h4 t ht).2⟩⟩;have hle:=(h1 q hq).1;have hce:=h.ep;exact kE.mono (h.S (by omega)) ((h1 q hq).2 (by omega))
  |loc ep pv=>
   obtain⟨h1,h2,h3,h4,h5⟩:=r;refine⟨h1,bF h2 h.ep,h3,λhe=>?_,λr t hr=>?_⟩;have:c'.ep=c.ep:=by have:=h.ep;omega
   exact kE.mono (h.S this) (h4 (by omega));obtain⟨k1,k2⟩:=h5 r t hr;exact⟨(h.hdr t k1).1,by rw[(h.hdr t k1).2];exact k2⟩
 |Ef fl e y i off=>
  cases fl with
  |own tag=>exact r
  |nest _ _ _ _ _ _=>exact r.elim
  |part _ _ _ _=>exact r.elim
  |gr _ _ _=>exact r.elim
  |arg k=>obtain⟨h1,b,o,hv,cs,hc,hr⟩:=r;exact⟨h1,b,o,hv,cs,λj u hu=>h.A' k _ _ _ (hc j u hu).1 (hc j u hu).2,kE.mono (h.A' k) hr⟩
  |loc ep pv=>
   obtain⟨h1,b,o,hv,h2,h4,h5⟩:=r;refine⟨h1,b,o,hv,bF h2 h.ep,λhe=>?_,λr t hr=>?_⟩;have:c'.ep=c.ep:=by have:=h.ep;omega
   obtain⟨cs,hc,hr⟩:=h4 (by omega);exact⟨cs,λj u hu=>h.S this _ _ _ (hc j u hu).1 (hc j u hu).2,kE.mono (h.S this) hr⟩;obtain⟨k1,n,o0,len,cap,hi,hrt,hn⟩:=h5 r t hr;exact⟨(h.hdr t k1).1,n,o0,len,cap,hi,by rw[(h.hdr t k1).2];exact hrt,hn⟩
theorem bW.mono (h:c.Le c'):∀{vs:jI}{xs:ax AC}{fp:fi},bW c vs xs fp->
 (∀b∈fp,c'.w.heap[b]?=c.w.heap[b]?/\c'.hw b=c.hw b)->bW c' vs xs fp
 |[],[],_,r,_=>r
 |_::_,_::_,_,r,hf=>by obtain⟨f1,f2,rfl,r1,r2⟩:=r;exact⟨f1,f2,rfl,r1.mono h (λb hb=>hf b (aU _ hb)),bW.mono h r2 (λb hb=>hf b (bj _ hb))⟩
 |[],_::_,_,r,_=>r.elim
 |_::_,[],_,r,_=>r.elim
theorem tw.mono (h:c.Le c'):∀{vs:jI}{xs:ax (Bool×ax AC)}{fp:fi},gV.tw c vs xs fp->
 (∀b∈fp,c'.w.heap[b]?=c.w.heap[b]?/\c'.hw b=c.hw b)->gV.tw c' vs xs fp
 |[],[],_,r,_=>r
 |_::_,_::_,_,r,hf=>by obtain⟨f1,f2,rfl,⟨vs,hv,r1⟩,r2⟩:=r;exact⟨f1,f2,rfl,⟨vs,hv,r1.mono h (λb hb=>hf b (aU _ hb))⟩,tw.mono h r2 (λb hb=>hf b (bj _ hb))⟩
 |[],_::_,_,r,_=>r.elim
 |_::_,[],_,r,_=>r.elim
theorem gV.mono (h:c.Le c'){v:Value}{x:AV}(r:gV c v x fp)(Ha:∀b∈fp,c'.w.heap[b]?=c.w.heap[b]?/\c'.hw b=c.hw b):gV c' v x fp:=by
 cases x with
 |val g cs=>obtain⟨vs,hv,r⟩:=r;exact⟨vs,hv,r.mono h Ha⟩
 |yY ts=>obtain⟨ws,hv,r⟩:=r;exact⟨ws,hv,tw.mono h r Ha⟩
theorem bW.length:∀{vs:jI}{xs:ax AC}{fp:fi},bW c vs xs fp->vs.length=xs.length
 |[],[],_,_=>rfl
 |_::_,_::_,_,r=>by obtain⟨f1,f2,rfl,r1,r2⟩:=r;simp[bW.length r2]
 |[],_::_,_,r=>r.elim
 |_::_,[],_,r=>r.elim
theorem bW.append:∀{vs:jI}{xs:ax AC}{fp:fi}{vs':jI}{SE:ax AC}{kZ:fi},
 bW c vs xs fp->bW c vs' SE kZ->bW c (vs++vs') (xs++SE) (fp++kZ)
 |[],[],_,_,_,_,r,r'=>by cases r;simpa using r'
 |_::_,_::_,_,_,_,_,r,r'=>by obtain⟨f1,f2,rfl,r1,r2⟩:=r;exact⟨f1,f2++_,by simp,r1,bW.append r2 r'⟩
 |[],_::_,_,_,_,_,r,_=>r.elim
 |_::_,[],_,_,_,_,r,_=>r.elim
theorem bW.split:∀(n:Nat){vs:jI}{xs:ax AC}{fp:fi},bW c vs xs fp->
 ∃f1 f2,fp=f1++f2/\bW c (vs.take n) (xs.take n) f1/\bW c (vs.drop n) (xs.drop n) f2
 |0,vs,xs,fp,r=>⟨[],fp,rfl,by simp[bW],by simpa using r⟩
 |n+1,[],[],_,r=>by cases r;exact⟨[],[],rfl,by simp[bW],by simp[bW]⟩
 |n+1,_::_,_::_,_,r=>by obtain⟨f1,f2,rfl,r1,r2⟩:=r;obtain⟨g1,g2,rfl,s1,s2⟩:=bW.split n r2;exact⟨f1++g1,g2,by simp,⟨f1,g1,rfl,r1,s1⟩,s2⟩
 |n+1,[],_::_,_,r=>r.elim
 |n+1,_::_,[],_,r=>r.elim
theorem bW.get:∀{vs:jI}{xs:ax AC}{fp:fi},bW c vs xs fp->∀(i:Nat)(x:AC),xs[i]?=some x->
 ∃v f,vs[i]?=some v/\je c v x f/\∀b∈f,b∈fp
 |[],[],_,_,i,x,h=>by simp at h
 |v::_,_::_,_,r,0,x,h=>by obtain⟨f1,f2,rfl,r1,r2⟩:=r;simp at h;subst h;exact⟨v,f1,rfl,r1,λb hb=>aU _ hb⟩
 |_::_,_::_,_,r,i+1,x,h=>by obtain⟨f1,f2,rfl,r1,r2⟩:=r;obtain⟨v,f,hv,hr,hf⟩:=bW.get r2 i x (by simpa using h);exact⟨v,f,by simpa using hv,hr,λb hb=>bj _ (hf b hb)⟩
 |[],_::_,_,r,_,_,_=>r.elim
 |_::_,[],_,r,_,_,_=>r.elim
end Go.Dn
