import Derived.Test.YtehfjiddofkdnaaGreatDnBase
import Derived.Below
import Derived.Laws.StructEq
import Derived.Orders
/- What abstract values mean in memory. -/
open Option renaming none->W,some->I
namespace Go.Dn
open Go.RowKit
variable {hw:Nat->Nat} {α:Type} {fp:gw}
theorem fJ (l:Z α)i:nth l i=l[i]?:=by induction l generalizing i with|nil=>simp[nth]|cons a l b=>cases i<;>simp[nth,b]
theorem iA l i(v:α):kA l i v=l.set i v:=by induction l generalizing i with|nil=>simp[kA]|cons a l b=>cases i<;>simp[kA,b]
def abJ (w:World)(S:Nat->Nat->Prop)b o(a:oz):=
 ∀j v,a[j]?=I v->S b (o+j)/\w.cell? ⟨b,o+j,W⟩=I v
def mq (w:World)(S:Nat->Nat->Prop):(e:CT)->oz->e.D->Prop
 | .int k,c,n=>c=[.int k n]
 | .bool,c,b=>c=[.bool b]
 | .str,c,s=>c=[.string ⟨s.toArray⟩]
 | .sl e,c,f=>∃v,c=[v]/\(((∃a,v=.slice a 0 0)/\f=[])\/
  ∃b o d,v=.slice (I ⟨b,o,W⟩) f.length d/\f.length<=d/\
   ∀i x,f[i]?=I x->∃g,abJ w S b (o+i*e.size) g/\mq w S e g x)
 | .pair a b,c,x=>∃h j,c=h++j/\mq w S a h x.1/\mq w S b j x.2
def wE (a:Array Value)(b:Nat×Nat):=∀j,j<a.size->¬(b.1<=j/\j<b.2)
def gX (hw:Nat->Nat)(w:World):(e:CT)->oz->e.D->gw->Prop
 | .int k,d,n,fp=>d=[.int k n]/\fp=[]
 | .bool,d,b,fp=>d=[.bool b]/\fp=[]
 | .str,d,s,fp=>d=[.string ⟨s.toArray⟩]/\fp=[]
 | .sl e,d,j,fp=>∃v,d=[v]/\(((∃a,v=.slice a 0 0)/\j=[]/\fp=[])\/
  ∃b l g c T m h,v=.slice (I ⟨b,l,W⟩) j.length g/\w.heap[b]?=I (.cells c T m)/\wE c m/\
   c.size=l+g*e.size/\j.length<=g/\hw b=l+j.length*e.size/\fp=b::List.flatten h/\h.length=j.length/\
   ∀i x f,j[i]?=I x->h[i]?=I f->gX hw w e ((c.toList.drop (l+i*e.size)).take e.size) x f)
 | .pair a b,d,x,fp=>∃o p f1 f2,d=o++p/\fp=f1++f2/\gX hw w a o x.1 f1/\gX hw w b p x.2 f2
theorem mq.length {w:World}{S:Nat->Nat->Prop}:∀{e:CT}{c:oz}{x:e.D},mq w S e c x->c.length=e.size
 | .int _,_,_,h=>by simp[mq]at h;simp[h,CT.size]
 | .bool,_,_,h=>by simp[mq]at h;simp[h,CT.size]
 | .str,_,_,h=>by simp[mq]at h;simp[h,CT.size]
 | .sl _,_,_,h=>by obtain⟨v,rfl,_⟩:=h;simp[CT.size]
 | .pair a b,_,_,h=>by obtain⟨g,i,rfl,d,f⟩:=h;simp[CT.size,mq.length d,mq.length f]
theorem gX.length {w:World}:∀{e:CT}{c:oz}{x:e.D}{fp:gw},gX hw w e c x fp->c.length=e.size
 | .int _,_,_,_,h=>by simp[gX]at h;simp[h,CT.size]
 | .bool,_,_,_,h=>by simp[gX]at h;simp[h,CT.size]
 | .str,_,_,_,h=>by simp[gX]at h;simp[h,CT.size]
 | .sl _,_,_,_,h=>by obtain⟨v,rfl,_⟩:=h;simp[CT.size]
 | .pair a b,_,_,_,h=>by obtain⟨g,i,f1,f2,rfl,rfl,d,f⟩:=h;simp[CT.size,gX.length d,gX.length f]
theorem CT.size_pos:∀e:CT,0<e.size
 | .int _=>by simp[CT.size]
 | .bool=>by simp[CT.size]
 | .str=>by simp[CT.size]
 | .sl _=>by simp[CT.size]
 | .pair a b=>by have:=CT.size_pos a;simp[CT.size];omega
theorem mq.mono {w l:World}{S f:Nat->Nat->Prop}(h:∀b o v,S b o->w.cell? ⟨b,o,W⟩=I v->f b o/\l.cell? ⟨b,o,W⟩=I v):
 ∀{e:CT}{k:oz}{x:e.D},mq w S e k x->mq l f e k x
 | .int _,_,_,r=>r
 | .bool,_,_,r=>r
 | .str,_,_,r=>r
 | .sl e,_,_,r=>by obtain⟨v,rfl,r⟩:=r;refine⟨v,rfl,?_⟩;rcases r with r|⟨b,o,d,rfl,n,r⟩;exact .inl r;refine .inr ⟨b,o,d,rfl,n,λi x q=>?_⟩;obtain⟨m,c,p⟩:=r i x q;exact⟨m,λj u g=>h _ _ _ (c j u g).1 (c j u g).2,mq.mono h p⟩
 | .pair a b,_,_,r=>by obtain⟨y,z,rfl,s,t⟩:=r;exact⟨y,z,rfl,mq.mono h s,mq.mono h t⟩
theorem gX.mono {d:Nat->Nat}{w p:World}:∀{e:CT}{o:oz}{x:e.D}{fp:gw},gX hw w e o x fp->
 (∀b∈fp,p.heap[b]?=w.heap[b]?/\d b=hw b)->gX d p e o x fp
 | .int _,_,_,_,r,_=>r
 | .bool,_,_,_,r,_=>r
 | .str,_,_,_,r,_=>r
 | .sl e,_,_,_,r,h=>by obtain⟨v,rfl,r⟩:=r;refine⟨v,rfl,?_⟩;rcases r with r|⟨b,C,j,g,T,s,k,rfl,c,A,z,t,u,rfl,y,r⟩;exact .inl r;have m:=h b aD;refine .inr ⟨b,C,j,g,T,s,k,rfl,m.1.trans c,A,z,t,m.2.trans u,rfl,y,λi x f B n=>?_⟩;exact gX.mono (r i x f B n) λq l=>h q (cy _ (List.mem_flatten.2 ⟨f,aF n,l⟩))
 | .pair a b,_,_,_,r,h=>by obtain⟨H,J,f1,f2,rfl,rfl,E,F⟩:=r;exact⟨H,J,f1,f2,rfl,rfl,gX.mono E λb c=>h b (bh _ c),gX.mono F λb c=>h b (bC _ c)⟩
theorem vi {w:World}{b:Nat}{a:Array Value}{T:TypeId}{c:Nat×Nat}(h:w.heap[b]?=I (.cells a T c))(o:Nat): w.cell? ⟨b,o,W⟩=a[o]?:=by simp[World.cell?,h]
theorem gX.rep {w:World}{S:Nat->Nat->Prop}(f:∀b o,o<hw b->S b o):∀{e:CT}{k:oz}{x:e.D}{fp:gw},
 gX hw w e k x fp->mq w S e k x
 | .int _,_,_,_,r=>r.1
 | .bool,_,_,_,r=>r.1
 | .str,_,_,_,r=>r.1
 | .sl e,_,l,_,r=>by obtain⟨v,rfl,r⟩:=r;refine⟨v,rfl,?_⟩;rcases r with r|⟨b,y,g,m,T,E,c,rfl,n,K,hs,p,q,rfl,H,r⟩;exact .inl ⟨r.1,r.2.1⟩;refine .inr ⟨b,y,g,rfl,p,λi x h=>?_⟩;have s:i<l.length:=(aA.1 h).1;have hf:c[i]?=I c[i]:=ah J;refine⟨_,λj u d=>?_,gX.rep f (r i x _ h hf)⟩;rw[fA]at d;split at d;rename_i F;rw[cA,du]at d;have t:(i+1)*e.size<=l.length*e.size:=dN _ s;rw[dA,gJ]at t;exact⟨f _ _ (by rw[q];omega),by rw[vi n];exact d⟩;cases d
 | .pair a b,_,_,_,r=>by obtain⟨B,C,f1,f2,rfl,rfl,z,A⟩:=r;exact⟨B,C,rfl,gX.rep f z,gX.rep f A⟩
def aoA hw w(e:CT)(v:Value)(g:Z e.D)k fp:=
 ∃b h d a T j c,v=.slice (I ⟨b,h,W⟩) g.length d/\w.heap[b]?=I (.cells a T j)/\wE a j/\
  a.size=h+d*e.size/\g.length<=d/\hw b=h+g.length*e.size/\fp=b::List.flatten c/\c.length=g.length/\
  k<g.length/\c[k]?=I []/\∀i x f,i≠k->g[i]?=I x->c[i]?=I f->gX hw w e ((a.toList.drop (h+i*e.size)).take e.size) x f
theorem aoA.mono {a w m e v n k}(r:aoA hw w e v n k fp)(h:∀b∈fp,m.heap[b]?=w.heap[b]?/\a b=hw b):aoA a m e v n k fp:=by obtain⟨b,C,d,c,T,p,g,rfl,q,A,hs,s,t,rfl,z,y,hf,r⟩:=r;have l:=h b aD;refine⟨b,C,d,c,T,p,g,rfl,l.1.trans q,A,hs,s,l.2.trans t,rfl,z,y,hf,λi x f u B hf=>?_⟩;exact gX.mono (r i x f u B hf) λo j=>h o (cy _ (List.mem_flatten.2 ⟨f,aF hf,j⟩))
abbrev Rg:=Bool->Nat->Nat->Prop
structure RC where
 hw:Nat->Nat
 β:Nat->Nat
 A:Rg
 hdr:Nat->Value
 iss:Nat->Prop
 ep:Nat
 Rv:Nat->Prop
 w:World
variable {c Y:RC}
def RC.S (c:RC)b o:=(∃k,c.A k b o)\/o<c.hw b
def kh (c:RC)(v:Value):AC->gw->Prop
 | .int k n,fp=>v=.int k n/\fp=[]
 | .bool b,fp=>v=.bool b/\fp=[]
 | .str s,fp=>v=.string ⟨s.toArray⟩/\fp=[]
 | .sl (.own l) e d,fp=>gX c.hw c.w (.sl e) [v] d fp/\∀t,l=I t->c.iss t/\v=c.hdr t
 | .sl (.loc g p) e d,fp=>fp=[]/\g<=c.ep/\(∃o n k,v=.slice o n k/\n=d.length)/\(g=c.ep->mq c.w c.S (.sl e) [v] d)/\
  ∀r t,p=I (r,t)->c.iss t/\v=c.hdr t
 | .sl (.arg k) e d,fp=>fp=[]/\mq c.w (c.A k) (.sl e) [v] d
 | .sl (.nest g _ t u i a) _ d,fp=>fp=[]/\g<=c.ep/\(∃o n k,v=.slice o n k/\n=d.length)/\
  (g=c.ep->c.iss t/\∃n b j len h:Nat,i=n/\c.hdr t=.slice (I ⟨b,j,W⟩) len h/\n<len/\c.S b (j+n*u.size+a)/\c.w.cell? ⟨b,j+n*u.size+a,W⟩=I v)
 | .sl (.part g _ t y) e d,fp=>fp=[]/\g<=c.ep/\(∃o n k,v=.slice o n k/\n=d.length)/\
  (g=c.ep->c.iss t/\(d=[]\/∃n b j len h k:Nat,y=n/\c.hdr t=.slice (I ⟨b,j,W⟩) len h/\n+d.length<=len/\v=.slice (I ⟨b,j+n*e.size,W⟩) d.length k))
 | .sl (.im l i g) e d,fp=>(∀q,g=I q->q<=c.ep/\(q=c.ep->mq c.w c.S (.sl e) [v] d))/\(∃k:Nat,i=k/\aoA c.hw c.w e v d k fp)/\∀t,l=I t->c.iss t/\v=c.hdr t
 | .mP,fp=>v=.slice W 0 0/\fp=[]
 | .ptr s a,fp=>v=.pointer (I ⟨c.β s,a,W⟩)/\c.Rv s/\fp=[]
 | .I7 (.own _) _ _ _ _,_=>False
 | .I7 (.nest ..) _ _ _ _,_=>False
 | .I7 (.part ..) _ _ _ _,_=>False
 | .I7 (.im ..) _ _ _ _,_=>False
 | .I7 (.loc g p) e x i a,fp=>fp=[]/\∃b o,v=.pointer (I ⟨b,o+a,W⟩)/\g<=c.ep/\
  (g=c.ep->∃m,abJ c.w c.S b o m/\mq c.w c.S e m x)/\
  ∀r t,p=I (r,t)->c.iss t/\∃n j len h:Nat,i=n/\c.hdr t=.slice (I ⟨b,j,W⟩) len h/\n<len/\o=j+n*e.size
 | .I7 (.arg k) e x _ a,fp=>fp=[]/\∃b o,v=.pointer (I ⟨b,o+a,W⟩)/\∃m,abJ c.w (c.A k) b o m/\mq c.w (c.A k) e m x
 | .fn f,fp=>v=.func (.func f) #[] #[]/\fp=[]
 | .un,fp=>v=undef/\fp=[]
 | .bot,fp=>fp=[]
def cv (c:RC):oz->Z AC->gw->Prop
 |[],[],fp=>fp=[]
 |v::a,x::b,fp=>∃f1 f2,fp=f1++f2/\kh c v x f1/\cv c a b f2
 |_,_,_=>False
def Cut (g:Bool)v(a:oz):=if g then v=.agg a.toArray else a=[v]
def iY (c:RC)(v:Value):AV->gw->Prop
 | .val g cs,fp=>∃vs,Cut g v vs/\cv c vs cs fp
 | .DZ ts,fp=>∃ws:oz,v=.tuple ws.toArray/\xy ws ts fp
 where
 xy:oz->Z (Bool×Z AC)->gw->Prop
  |[],[],fp=>fp=[]
  |w::ws,t::ts,fp=>∃f1 f2,fp=f1++f2/\(∃vs,Cut t.1 w vs/\cv c vs t.2 f1)/\xy ws ts f2
  |_,_,_=>False
structure RC.Le (c Y:RC):Prop where
 A:Y.A=c.A
 hdr:∀t,c.iss t->Y.iss t/\Y.hdr t=c.hdr t
 adS:∀k b o v,c.A k b o->c.w.cell? ⟨b,o,W⟩=I v->Y.w.cell? ⟨b,o,W⟩=I v
 ep:c.ep<=Y.ep
 Rv:∀s,c.Rv s->Y.Rv s/\Y.β s=c.β s
 anv:Y.ep=c.ep->∀b o v,o<c.hw b->c.w.cell? ⟨b,o,W⟩=I v->o<Y.hw b/\Y.w.cell? ⟨b,o,W⟩=I v
theorem RC.Le.S (h:c.Le Y)(e:Y.ep=c.ep)b o v(a:c.S b o)(d:c.w.cell? ⟨b,o,W⟩=I v): Y.S b o/\Y.w.cell? ⟨b,o,W⟩=I v:=by rcases a with a|a;obtain⟨k,a⟩:=a;exact⟨.inl ⟨k,by rw[h.A];exact a⟩,h.adS _ _ _ _ a d⟩;exact⟨.inr (h.anv e _ _ _ a d).1,(h.anv e _ _ _ a d).2⟩
theorem RC.Le.A' (h:c.Le Y)k b o v(a:c.A k b o)(d:c.w.cell? ⟨b,o,W⟩=I v): Y.A k b o/\Y.w.cell? ⟨b,o,W⟩=I v:=⟨by rw[h.A];exact a,h.adS _ _ _ _ a d⟩
theorem kh.mono (h:c.Le Y){v x}(r:kh c v x fp)(B:∀b∈fp,Y.w.heap[b]?=c.w.heap[b]?/\Y.hw b=c.hw b):kh Y v x fp:=by
 cases x with
 |int k n=>exact r
 |bool b=>exact r
 |str s=>exact r
 |mP=>exact r
 |fn f=>exact r
 |un=>exact r
 |bot=>exact r
 |ptr s D=>exact⟨by rw[(h.Rv s r.2.1).2];exact r.1,(h.Rv s r.2.1).1,r.2.2⟩
 |sl L e xs=>
  cases L with
  |own E=>exact⟨gX.mono r.1 B,λt z=>⟨(h.hdr t (r.2 t z).1).1,by rw[(h.hdr t (r.2 t z).1).2];exact(r.2 t z).2⟩⟩
  |arg k=>exact⟨r.1,mq.mono (h.A' k) r.2⟩
  |nest F rt t e' i D=>
   obtain⟨a,l,m,d⟩:=r;refine⟨a,bf l h.ep,m,λH=>?_⟩;have N:Y.ep=c.ep:=by have:=h.ep;omega
   obtain⟨k1,n,b,T,len,g,V,X,Z,e4,e5⟩:=d J;have U:=h.S N _ _ _ e4 e5;exact⟨(h.hdr t k1).1,n,b,T,len,g,V,by rw[(h.hdr t k1).2];exact X,Z,U.1,U.2⟩
  |part F rt t lo=>obtain⟨a,l,m,d⟩:=r;refine⟨a,bf l h.ep,m,λH=>?_⟩;obtain⟨k1,k2⟩:=d (by have:=h.ep;omega);exact⟨(h.hdr t k1).1,by rw[(h.hdr t k1).2];exact k2⟩
  |im E i F=>obtain⟨a,⟨k,hk,m⟩,d⟩:=r;refine⟨λq P=>⟨bf (a q P).1 h.ep,λH=>?_⟩,⟨k,hk,m.mono B⟩,λt z=>⟨(h.hdr t (d t z).1).1,by rw[(h.hdr t (d t z).1).2];exact(d t z).2⟩⟩;have hle:=(a q P).1;have hce:=h.ep;exact mq.mono (h.S J) ((a q P).2 J)
  |loc F pv=>
   obtain⟨a,l,m,d,M⟩:=r;refine⟨a,bf l h.ep,m,λH=>?_,λr t p=>?_⟩;have:Y.ep=c.ep:=by have:=h.ep;omega
   exact mq.mono (h.S this) (d J);obtain⟨k1,k2⟩:=M r t p;exact⟨(h.hdr t k1).1,by rw[(h.hdr t k1).2];exact k2⟩
 |I7 L e y i D=>
  cases L with
  |own E=>exact r
  |nest _ _ _ _ _ _=>exact r.elim
  |part _ _ _ _=>exact r.elim
  |im _ _ _=>exact r.elim
  |arg k=>obtain⟨a,b,o,R,K,A,p⟩:=r;exact⟨a,b,o,R,K,λj u C=>h.A' k _ _ _ (A j u C).1 (A j u C).2,mq.mono (h.A' k) p⟩
  |loc F pv=>
   obtain⟨a,b,o,R,l,d,M⟩:=r;refine⟨a,b,o,R,bf l h.ep,λH=>?_,λr t p=>?_⟩;have:Y.ep=c.ep:=by have:=h.ep;omega
   obtain⟨K,A,p⟩:=d J;exact⟨K,λj u C=>h.S this _ _ _ (A j u C).1 (A j u C).2,mq.mono (h.S this) p⟩;obtain⟨k1,n,T,len,g,hi,Q,hn⟩:=M r t p;exact⟨(h.hdr t k1).1,n,T,len,g,hi,by rw[(h.hdr t k1).2];exact Q,hn⟩
theorem cv.mono (h:c.Le Y):∀{e:oz}{f:Z AC}{fp:gw},cv c e f fp->
 (∀b∈fp,Y.w.heap[b]?=c.w.heap[b]?/\Y.hw b=c.hw b)->cv Y e f fp
 |[],[],_,r,_=>r
 |_::_,_::_,_,r,d=>by obtain⟨f1,f2,rfl,g,i⟩:=r;exact⟨f1,f2,rfl,g.mono h (λb a=>d b (bh _ a)),cv.mono h i (λb a=>d b (bC _ a))⟩
 |[],_::_,_,r,_=>r.elim
 |_::_,[],_,r,_=>r.elim
theorem xy.mono (h:c.Le Y):∀{a:oz}{f:Z (Bool×Z AC)}{fp:gw},iY.xy c a f fp->
 (∀b∈fp,Y.w.heap[b]?=c.w.heap[b]?/\Y.hw b=c.hw b)->iY.xy Y a f fp
 |[],[],_,r,_=>r
 |_::_,_::_,_,r,e=>by obtain⟨f1,f2,rfl,⟨a,g,i⟩,j⟩:=r;exact⟨f1,f2,rfl,⟨a,g,i.mono h (λb d=>e b (bh _ d))⟩,xy.mono h j (λb d=>e b (bC _ d))⟩
 |[],_::_,_,r,_=>r.elim
 |_::_,[],_,r,_=>r.elim
theorem iY.mono (h:c.Le Y){v x}(r:iY c v x fp)(a:∀b∈fp,Y.w.heap[b]?=c.w.heap[b]?/\Y.hw b=c.hw b):iY Y v x fp:=by
 cases x with
 |val g i=>obtain⟨e,d,r⟩:=r;exact⟨e,d,r.mono h a⟩
 |DZ j=>obtain⟨f,d,r⟩:=r;exact⟨f,d,xy.mono h r a⟩
theorem cv.length:∀{a:oz}{b:Z AC}{fp:gw},cv c a b fp->a.length=b.length
 |[],[],_,_=>rfl
 |_::_,_::_,_,r=>by obtain⟨f1,f2,rfl,e,d⟩:=r;simp[cv.length d]
 |[],_::_,_,r=>r.elim
 |_::_,[],_,r=>r.elim
theorem cv.append:∀{f:oz}{g:Z AC}{fp:gw}{b:oz}{d:Z AC}{a:gw},
 cv c f g fp->cv c b d a->cv c (f++b) (g++d) (fp++a)
 |[],[],_,_,_,_,r,e=>by cases r;simpa using e
 |_::_,_::_,_,_,_,_,r,e=>by obtain⟨f1,f2,rfl,h,i⟩:=r;exact⟨f1,f2++_,aD,h,cv.append i e⟩
 |[],_::_,_,_,_,_,r,_=>r.elim
 |_::_,[],_,_,_,_,r,_=>r.elim
theorem cv.split:∀(n:Nat){a:oz}{b:Z AC}{fp:gw},cv c a b fp->
 ∃f1 f2,fp=f1++f2/\cv c (a.take n) (b.take n) f1/\cv c (a.drop n) (b.drop n) f2
 |0,a,b,fp,r=>⟨[],fp,rfl,by simp[cv],by simpa using r⟩
 |n+1,[],[],_,r=>by cases r;exact⟨[],[],rfl,by simp[cv],by simp[cv]⟩
 |n+1,_::_,_::_,_,r=>by obtain⟨f1,f2,rfl,f,g⟩:=r;obtain⟨d,e,rfl,h,i⟩:=cv.split n g;exact⟨f1++d,e,aD,⟨f1,d,rfl,f,h⟩,i⟩
 |n+1,[],_::_,_,r=>r.elim
 |n+1,_::_,[],_,r=>r.elim
theorem cv.get:∀{g:oz}{j:Z AC}{fp:gw},cv c g j fp->∀(i:Nat)(x:AC),j[i]?=I x->
 ∃v f,g[i]?=I v/\kh c v x f/\∀b∈f,b∈fp
 |[],[],_,_,i,x,h=>by simp at h
 |v::_,_::_,_,r,0,x,h=>by obtain⟨f1,f2,rfl,d,e⟩:=r;simp at h;subst h;exact⟨v,f1,rfl,d,λb a=>bh _ a⟩
 |_::_,_::_,_,r,i+1,x,h=>by obtain⟨f1,f2,rfl,d,e⟩:=r;obtain⟨v,f,m,l,k⟩:=cv.get e i x (by simpa using h);exact⟨v,f,by simpa using m,l,λb a=>bC _ (k b a)⟩
 |[],_::_,_,r,_,_,_=>r.elim
 |_::_,[],_,r,_,_,_=>r.elim
end Go.Dn
