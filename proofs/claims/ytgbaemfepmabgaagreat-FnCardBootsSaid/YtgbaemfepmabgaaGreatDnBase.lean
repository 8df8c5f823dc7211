import Derived.Test.YtgbaemfepmabgaaGreatDnData
/- An abstract, heap-free semantics of the model's code, for functions that treat their data by value: definitions. -/
namespace Go.Dn
inductive kG where
 |slot (s j:Nat)|box (s j:Nat)|io (j:Nat)
 deriving DecidableEq
inductive qv where
 |own (tag:Option Nat)
 |loc (ep:Nat) (pv:Option (kG×Nat))
 |arg (k:Bool)
 |nest (ep:Nat) (r:kG) (t:Nat) (e:CT) (i:Int) (off:Nat)
 |part (ep:Nat) (r:kG) (t:Nat) (lo:Int)
 |holed (tag:Option Nat) (i:Int) (ep:Option Nat)
inductive AC where
 |int (k:IntKind) (n:Int)|bool (b:Bool)|str (s:List UInt8)
 |sl (fl:qv) (e:CT) (xs:List e.D)
 |nilsl
 |ptr (s off:Nat)
 |elt (fl:qv) (e:CT) (x:e.D) (i:Int) (off:Nat)
 |fn (f:Nat)
 |un
 |bot
inductive AV where
 |val (agg:Bool) (cs:List AC)
 |tup (vs:List (Bool×List AC))
abbrev AV.one (c:AC):AV:=.val false [c]
abbrev AV.bot:AV:=.val false [.bot]
structure AS where
 slots:List AV
 boxes:List (Option (List AC))
 ep:Nat
 iss:List Bool
 io:List AC
structure Shape where
 agg:Bool
 ct:CT
 offs:List (Nat×Nat):=[]
structure An where
 mask:Nat->List Nat:=λ_=>[]
 merge:Nat->Option Nat:=λ_=>none
 mv:List Nat:=[]
 nest:List Nat:=[]
 mb:Nat->Option Nat:=λ_=>none
 sb:Nat->Option Nat:=λ_=>none
 late:List Nat:=[]
 peel:List Nat:=[]
 nils:List Nat:=[]
 fm:List Nat:=[]
 eb:Nat->Option Nat:=λ_=>none
 es:Nat->Option Nat:=λ_=>none
 er:Nat->Option Nat:=λ_=>none
 cut:List Nat:=[]
def cellsOf:(t:CT)->qv->t.D->aw AC
 | .int k,_,n=>[.int k n]
 | .bool,_,b=>[.bool b]
 | .str,_,s=>[.str s]
 | .sl e,fl,xs=>[.sl fl e xs]
 | .pair a b,fl,x=>cellsOf a fl x.1++cellsOf b fl x.2
def lv:(t:CT)->aw AC->az (t.D×aw AC)
 | .int k,.int k' n::r=>if k'=k then some (n,r) else none
 | .bool,.bool b::r=>some (b,r)
 | .str,.str s::r=>some (s,r)
 | .sl e,.sl (.own _) e' xs::r=>if h:e'=e then some (h▸xs,r) else none
 | .sl _,.nilsl::r=>some ([],r)
 | .pair a b,cs=>(lv a cs).bind λx=>(lv b x.2).bind λy=>some ((x.1,y.1),y.2)
 |_,_=>none
def nth {α:Type}:aw α->Nat->az α
 |[],_=>none
 |a::_,0=>some a
 |_::l,n+1=>nth l n
def ir {α:Type}:aw α->Nat->α->aw α
 |[],_,_=>[]
 |_::l,0,v=>v::l
 |a::l,n+1,v=>a::ir l n v
def AS.get (st:AS)(i:Nat):AV:=(nth st.slots i).getD .bot
def AS.put (st:AS)(d:az Nat)(v:AV):AS:=
 match d with
 |some d=>{st with slots:=ir st.slots d v}
 |none=>st
def Hr (d j:Nat):Nat:=3*(4096*d+j)+2
def AS.ix (st:AS)(d:az Nat)(j:Nat):az Nat:=
 match d with
 |some d=>bif (nth st.iss d).getD true then none else bif Nat.ble 4096 j then none else some (Hr d j)
 |none=>none
def AS.fR (st:AS)(d:az Nat):AS:=
 match d with
 |some d=>{st with iss:=ir st.iss d true}
 |none=>st
def AS.pR (st:AS)(d:az Nat)(e:CT)(xs:aw e.D):AS:=
 (st.fR d).put d (.one (.sl (.own (st.ix d 0)) e xs))
def AC.borrow (ep:Nat)(rt:az kG):AC->AC
 | .sl (.own tag) e xs=> .sl (.loc ep (match rt,tag with|some r,some t=>some (r,t)|_,_=>none)) e xs
 | .sl (.holed tag _ (some ep0)) e xs=> .sl (.loc ep0 (match rt,tag with|some r,some t=>some (r,t)|_,_=>none)) e xs
 | .sl (.holed _ _ none) _ _=> .bot
 |c=>c
def iK (ep:Nat)(f:Nat->kG):Nat->aw AC->aw AC
 |_,[]=>[]
 |j,c::cs=>c.borrow ep (some (f j))::iK ep f (j+1) cs
def bc (ep:Nat)(cs:aw AC):aw AC:=cs.map (AC.borrow ep none)
def AV.borrow (ep:Nat)(f:Nat->kG):AV->AV
 | .val g cs=> .val g (iK ep f 0 cs)
 | .tup vs=> .tup (vs.map λx=>(x.1,bc ep x.2))
def AV.bc (ep:Nat):AV->AV
 | .val g cs=> .val g (Dn.bc ep cs)
 | .tup vs=> .tup (vs.map λx=>(x.1,Dn.bc ep x.2))
def ofConst:Value->AV
 | .int k n=> .one (.int k n)
 | .bool b=> .one (.bool b)
 | .string s=> .one (.str s.data.toList)
 | .slice none 0 0=> .one .nilsl
 |_=> .bot
def AS.rd (st:AS):Operand->AV
 | .tmp t=>(st.get t).borrow st.ep (.slot t)
 | .const v=>ofConst v
 | .func f=> .one (.fn f)
 | .global _=> .bot
def AS.take (st:AS):Operand->AV×AS
 | .tmp t=>(st.get t,st.put (some t) ((st.get t).bc st.ep))
 |x=>(st.rd x,st)
def AS.eZ (st:AS)(s:Nat)(b:az (aw AC)):AS:={st with boxes:=ir st.boxes s b}
def AC.asArg (ep:Nat):AC->AC
 | .int k n=> .int k n
 | .bool b=> .bool b
 | .str s=> .str s
 | .sl (.own _) e xs=> .sl (.arg false) e xs
 | .sl (.loc ep' _) e xs=>if ep'==ep then .sl (.arg false) e xs else .bot
 | .sl (.arg _) e xs=> .sl (.arg false) e xs
 | .nilsl=> .nilsl
 | .fn f=> .fn f
 |_=> .bot
def AV.asArg (ep:Nat):AV->AV
 | .val g cs=> .val g (cs.map (AC.asArg ep))
 | .tup _=> .bot
def AC.CP (ep:Nat)(tag:az Nat):AC->AC
 | .sl (.own _) e xs=> .sl (.own tag) e xs
 | .sl (.arg _) e xs=> .sl (.loc ep none) e xs
 | .sl (.loc _ _) _ _=> .bot
 | .sl (.nest ..) _ _=> .bot
 | .sl (.part ..) _ _=> .bot
 | .sl (.holed _ i _) e xs=> .sl (.holed none i none) e xs
 | .ptr _ _=> .bot
 | .elt _ _ _ _ _=> .bot
 |c=>c
def Hf (ep:Nat)(mk:Nat->az Nat):Nat->aw AC->aw AC
 |_,[]=>[]
 |j,c::cs=>c.CP ep (mk j)::Hf ep mk (j+1) cs
def X1 (ep:Nat)(mk:Nat->az Nat):Nat->aw (Bool×aw AC)->aw (Bool×aw AC)
 |_,[]=>[]
 |j,t::ts=>(t.1,Hf ep mk j t.2)::X1 ep mk (j+t.2.length) ts
def AV.CP (ep:Nat)(mk:Nat->az Nat):AV->AV
 | .val g cs=> .val g (Hf ep mk 0 cs)
 | .tup vs=> .tup (X1 ep mk 0 vs)
def AC.Gc:AC->Bool
 | .sl (.arg _) _ _=>true
 | .int ..=>true
 | .bool _=>true
 | .str _=>true
 | .fn _=>true
 |_=>false
structure bn where
 R:Type
 fn:List AV->Option R
 av:R->AV
 io:Bool:=false
 back:R->List AC:=λ_=>[]
 bx:Bool:=false
 pr:Bool:=false
 sel:R->Bool:=λ_=>true
 alt:R->AV:=λ_=> .val false [.bot]
 cur:Bool:=false
 hcur:cur=true->∀y,(back y).all AC.Gc=true:=by intro h;cases h
def bn.res (F:bn)(y:F.R):AV:=cond (F.sel y) (F.av y) (F.alt y)
abbrev dK:=Nat->bn
def bn.dead:bn:={R:=Unit,fn:=λ_=>none,av:=λ_=> .val false [.bot]}
def dK.calm (Γ:dK):dK:=λf=>bif (Γ f).io||(Γ f).bx||(Γ f).pr then bn.dead else Γ f
def dK.FZ (Γ:dK):dK:=λf=>bif (Γ f).io||(Γ f).pr||((Γ f).bx&& !(Γ f).cur) then bn.dead else Γ f
def GV {R:Type}(op:BinOp)(k:IntKind)(x y:Int)(K:AC->az R):az R:=
 match op with
 | .add=>K (.int k (k.wrap (x+y)))
 | .sub=>K (.int k (k.wrap (x-y)))
 | .mul=>K (.int k (k.wrap (x*y)))
 | .quo=>if y=0 then none else K (.int k (k.wrap (x.tdiv y)))
 | .rem=>if y=0 then none else K (.int k (x.tmod y))
 | .and=>K (.int k (k.wrap (BitVec.ofInt k.bits x&&&BitVec.ofInt k.bits y).toNat))
 | .or=>K (.int k (k.wrap (BitVec.ofInt k.bits x|||BitVec.ofInt k.bits y).toNat))
 | .xor=>K (.int k (k.wrap (BitVec.ofInt k.bits x^^^BitVec.ofInt k.bits y).toNat))
 | .andNot=>K (.int k (k.wrap (BitVec.ofInt k.bits x&&&~~~ BitVec.ofInt k.bits y).toNat))
 | .eql=>K (.bool (x==y))
 | .neq=>K (.bool (x !=y))
 | .lss=>K (.bool (decide (x<y)))
 | .leq=>K (.bool (decide (x<=y)))
 | .gtr=>K (.bool (decide (x>y)))
 | .geq=>K (.bool (decide (x>=y)))
 |_=>none
def JA {R:Type}(op:BinOp)(x y:aw UInt8)(K:AC->az R):az R:=
 match op with
 | .add=>room (x.length+y.length) (K (.str (x++y)))
 | .eql=>K (.bool (x==y))
 | .neq=>K (.bool (!(x==y)))
 | .lss=>K (.bool (Op.bytesLess x y))
 | .leq=>K (.bool (Op.bytesLess x y||x==y))
 | .gtr=>K (.bool (!(Op.bytesLess x y||x==y)))
 | .geq=>K (.bool (!(Op.bytesLess x y)))
 |_=>none
def uM:aw AC->aw AC->az Bool
 |[],[]=>some true
 | .int k x::r,.int k' y::r'=>if k=k' then(uM r r').bind λb=>some ((x==y)&&b) else none
 | .bool x::r,.bool y::r'=>(uM r r').bind λb=>some ((x==y)&&b)
 | .str x::r,.str y::r'=>(uM r r').bind λb=>some ((x==y)&&b)
 |_,_=>none
def EH {R:Type}(op:BinOp)(x y:AV)(K:AC->az R):az R:=
 match x,y with
 | .val false [.int k a],.val false [.int k' b]=>
   match op with
   | .shl=>if b<0 then none else K (.int k (k.wrap (a*2^(min b.toNat k.bits))))
   | .shr=>if b<0 then none else K (.int k (a.fdiv (2^(min b.toNat k.bits))))
   |_=>if k=k' then GV op k a b K else none
 | .val false [.str a],.val false [.str b]=>JA op a b K
 | .val false [.bool a],.val false [.bool b]=>
   match op with
   | .eql=>K (.bool (a==b))
   | .neq=>K (.bool (!(a==b)))
   |_=>none
 | .val true xs,.val true ys=>
   match op with
   | .eql=>aa (uM xs ys) λb=>K (.bool b)
   | .neq=>aa (uM xs ys) λb=>K (.bool (!b))
   |_=>none
 |_,_=>none
def unC {R:Type}(op:UnOp)(x:AV)(K:AC->az R):az R:=
 match op,x with
 | .not,.val false [.bool b]=>K (.bool (!b))
 | .neg,.val false [.int k n]=>K (.int k (k.wrap (0-n)))
 | .xor,.val false [.int k n]=>GV .xor k (if k.signed then-1 else k.max) n K
 |_,_=>none
def eQ (cs:aw AC)(off:Nat)(vs:aw AC):aw AC:=cs.take off++vs++cs.drop (off+vs.length)
def AS.fD (st:AS):kG->az AC
 | .slot s j=>match st.get s with| .val _ cs=>nth cs j|_=>none
 | .box s j=>((nth st.boxes s).getD none).bind λcs=>nth cs j
 | .io j=>nth st.io j
def AS.fH (st:AS)(r:kG)(c:AC):AS:=
 match r with
 | .slot s j=>match st.get s with| .val g cs=>st.put (some s) (.val g (ir cs j c))|_=>st
 | .box s j=>match (nth st.boxes s).getD none with|some cs=>st.eZ s (some (ir cs j c))|none=>st
 | .io j=>{st with io:=ir st.io j c}
def AS.fresh (st:AS):AC->AC
 | .sl (.loc ep (some (r,t))) e xs=>
   bif ep==st.ep then .sl (.loc ep (some (r,t))) e xs else
    match st.fD r with
    |some (.sl (.own (some t')) e' ys)=>if h:e'=e then bif t'==t then .sl (.loc st.ep (some (r,t))) e (h▸ys) else .sl (.loc ep (some (r,t))) e xs else .sl (.loc ep (some (r,t))) e xs
    |_=> .sl (.loc ep (some (r,t))) e xs
 |c=>c
def AV.fresh (st:AS):AV->AV
 | .val g cs=> .val g (cs.map st.fresh)
 | .tup vs=> .tup vs
def AC.now (ep:Nat):AC->Bool
 | .sl (.loc ep' (some _)) _ _=>ep'==ep
 |_=>true
def AS.pz {R:Type}(st:AS)(r:kG)(t:Nat)(e:CT)(i:Int)(off:Nat)(vs:aw AC)(K:AS->az R):az R:=
 match st.fD r with
 |some (.sl (.own (some t')) e' xs)=>
  if h:e'=e then
   if t'=t then
    aa (idx (h▸xs:aw e.D) i) λx=>
     match lv e (eQ (cellsOf e (.own none) x) off vs)with
     |some (x',[])=>K {st.fH r (.sl (.own (some t')) e ((h▸xs:aw e.D).set i.toNat x'))with ep:=st.ep+1}
     |_=>none
   else none
  else none
 |some (.sl (.holed (some t') i' _) e' xs)=>
  if h:e'=e then
   if t'=t/\off=0 then
    aa (aaQ (h▸xs:aw e.D) i' i) λ_=>
     match lv e vs with
     |some (x',[])=>K {st.fH r (.sl (.own (some t')) e ((h▸xs:aw e.D).set i.toNat x'))with ep:=st.ep+1}
     |_=>none
   else none
  else none
 |_=>none
def AV.cells:AV->aw AC
 | .val _ cs=>cs
 | .tup _=>[.bot]
def fE (st:AS):aw Operand->aw AV×AS
 |[]=>([],st)
 |x::xs=>let (v,st1):=st.take x;let (vs,st2):=fE st1 xs;(v::vs,st2)
def BJ (e:CT):aw (aw AC)->az (aw e.D)
 |[]=>some []
 |cs::r=>match lv e cs with
  |some (x,[])=>(BJ e r).bind λxs=>some (x::xs)
  |_=>none
def GS:Nat->aw (Nat×Operand)->Bool
 |_,[]=>true
 |n,(i,_)::r=>i==n&&GS (n+1) r
def AC.Hj:AC->Bool
 | .bot=>false
 | .un=>false
 |_=>true
def wb (offs:aw (Nat×Nat))(zero:aw AC):aw (Nat×aw AC)->az (aw AC)
 |[]=>some zero
 |(i,cs)::r=>match nth offs i with
  |some (off,n)=>if cs.length=n/\off+n<=zero.length/\cs.all AC.Hj then wb offs (eQ zero off cs) r else none
  |none=>none
inductive LK where
 |int|bool|str
 deriving DecidableEq
structure Env where
 ty:List (Nat×Shape)
 eqs:List (Nat×List LK):=[]
 fts:List ((Nat×Nat)×Nat):=[]
def OU (l:aw (Nat×aw LK))(t:Nat):az (aw LK):=
 match l with
 |[]=>none
 |(u,sh)::r=>bif u==t then some sh else OU r t
def fits:aw LK->aw AC->Bool
 |[],[]=>true
 | .int::ls,.int _ _::r=>fits ls r
 | .bool::ls,.bool _::r=>fits ls r
 | .str::ls,.str _::r=>fits ls r
 |_,_=>false
def UF (l:aw ((Nat×Nat)×Nat))(S f:Nat):az Nat:=
 match l with
 |[]=>none
 |((u,k),T)::r=>bif u==S&&k==f then some T else UF r S f
def jn (l:aw (Nat×Shape))(t:Nat):az Shape:=
 match l with
 |[]=>none
 |(u,sh)::r=>bif u==t then some sh else jn r t
def Env.sl (E:Env)(t:Nat):az CT:=
 match jn E.ty t with
 |some ⟨false,.sl e,_⟩=>some e
 |_=>none
def Env.str (E:Env)(t:Nat):Bool:=
 match jn E.ty t with
 |some ⟨false,.str,_⟩=>true
 |_=>false
def Env.bool (E:Env)(t:Nat):Bool:=
 match jn E.ty t with
 |some ⟨false,.bool,_⟩=>true
 |_=>false
def Env.bytes (E:Env)(t:Nat):Bool:=
 match jn E.ty t with
 |some ⟨false,.sl (.int .u8),[(te,_)]⟩=>match jn E.ty te with|some ⟨false,.int .u8,_⟩=>true|_=>false
 |_=>false
def qv.live (ep:Nat):qv->Bool
 | .loc ep' _=>ep'==ep
 | .arg _=>true
 | .own _=>false
 | .nest ..=>false
 | .part ..=>false
 | .holed ..=>false
def qv.qB (ep:Nat)(flat:Bool):qv->Bool
 | .loc ep' _=>ep'==ep&&flat
 | .arg _=>flat
 | .own _=>true
 | .nest ..=>false
 | .part ..=>false
 | .holed ..=>false
def qv.bare:qv->qv
 | .loc ep _=> .loc ep none
 |f=>f
def AC.jE:AC->Bool
 | .int _ _=>true
 | .bool _=>true
 | .str _=>true
 | .fn _=>true
 |_=>false
def tm:Operand->fu
 | .tmp t=>[t]
 |_=>[]
def N2 (l:aw Operand):fu:=l.flatMap tm
def D4 (an:An)(o:Oper):Bool:=
 match o.dst with
 |some d=>an.mv.contains d&&(an.mb d).isNone
 |none=>false
def ar5 (an:An)(o:Oper):Bool:=
 match o.dst with
 |some d=>an.nils.contains d
 |none=>false
def zT (an:An)(o:Oper):Bool:=
 match o.op with
 | .assign (.tmp s)=>an.late.contains s
 | .store _ _ (.tmp s)=>an.late.contains s
 |_=>false
def tmO:az Operand->fu
 |some x=>tm x
 |none=>[]
def dW (o:Oper):fu:=
 match o.op with
 | .move x=>tm x
 | .assign x=>tm x
 | .pick c a b=>tm c++tm a++tm b
 | .box _ x=>tm x
 | .load _ p=>tm p
 | .store _ p x=>tm p++tm x
 | .nilCheck x=>tm x
 | .binOp _ _ x y _=>tm x++tm y
 | .unOp _ _ x=>tm x
 | .fieldAddr _ p _=>tm p
 | .indexAddr _ x i=>tm x++tm i
 | .index _ x i=>tm x++tm i
 | .build _ parts=>N2 (parts.toList.map (·.2))
 | .buildSlice _ _ parts=>N2 (parts.toList.map (·.2))
 | .makeSlice _ n c=>tm n++tm c
 | .slice _ x lo hi none=>tm x++tmO lo++tmO hi
 | .convert _ _ x=>tm x
 | .extract (.tmp t) _=>[t]
 | .call {callee:=.builtin _,args,..}=>N2 args.toList
 | .call {callee:=.value f,args,..}=>tm f++N2 args.toList
 |_=>[]
def D3 (an:An)(o:Oper):Bool:=
 match o.op with
 | .move _=>match o.dst with|some d=>an.mv.contains d|none=>false
 | .assign _=>true
 | .box ..=>true
 | .build ..=>true
 | .buildSlice ..=>true
 | .store ..=>true
 | .extract ..=>match o.dst with|some d=>an.mv.contains d|none=>false
 | .call {callee:=.builtin .append,..}=>true
 |_=>false
def D1 (an:An)(o:Oper):Bool:=
 match o.op,o.dst,o.guard with
 | .load _ (.tmp q),some d,none=>an.mv.contains d&&(an.mb d).isNone&&(an.eb q).isSome
 |_,_,_=>false
def AQ (an:An)(o:Oper):Bool:=
 match o.op,o.dst,o.guard with
 | .load _ (.tmp q),some d,none=> !an.mv.contains d&& !an.fm.contains d&&(an.sb q).isSome
 |_,_,_=>false
def D6 (an:An)(o:Oper):fu:=
 match o.op with
 | .alloc _=>o.dst.toList
 | .box ..=>o.dst.toList
 | .load _ p=>match o.dst with|some d=>bif an.mv.contains d then(an.mb d).toList++(bif D1 an o then(match p with| .tmp q=>(an.eb q).toList|_=>[]) else []) else []|none=>[]
 | .store _ (.tmp p) _=>(an.sb p).toList
 | .call {callee:=.value _,args,..}=>(match args.toList with| .tmp q::_=>(an.sb q).toList|_=>[])
 |_=>[]
def nG (an:An)(o:Oper):Bool:=
 match o.op with
 | .move _=>true
 | .load ..=>(match o.dst with|some d=> !an.mv.contains d||(an.mb d).isSome|none=>false)||D1 an o
 | .extract (.tmp _) _=>true
 | .store _ (.tmp p) _=>(an.sb p).isSome&& !zT an o
 | .assign _=> !zT an o
 | .pick ..| .alloc _| .box ..| .nilCheck _| .binOp ..| .unOp ..| .fieldAddr ..| .indexAddr ..| .index ..| .build ..| .buildSlice ..| .makeSlice ..| .convert ..=>true
 | .slice _ _ _ _ none=> !D4 an o
 | .call {callee:=.builtin .len,..}| .call {callee:=.builtin .min,..}| .call {callee:=.builtin .max,..}| .call {callee:=.builtin .append,..}=>true
 | .call {callee:=.value _,..}=>true
 |_=>false
def writes (an:An)(o:Oper):fu:=o.dst.toList++(bif D3 an o then dW o else [])
def AV.now (ep:Nat):AV->Bool
 | .val _ cs=>cs.all (AC.now ep)
 | .tup _=>true
def AC.lj:AC->Bool
 | .int ..=>true
 | .bool _=>true
 | .str _=>true
 | .fn _=>true
 | .ptr ..=>true
 |_=>false
def AV.lj:AV->Bool
 | .val _ cs=>cs.all AC.lj
 | .tup _=>false
def Dm (E:Env)(T:TypeId)(st:AS)(s off:Nat):Bool:=
 match jn E.ty T,(nth st.boxes s).getD none with
 |some sh,some cs=>((cs.drop off).take sh.ct.size).all AC.lj
 |_,_=>false
def V1 (an:An)(o:Oper):Bool:=match o.dst with|some d=>an.fm.contains d|none=>false
def Bt (an:An)(o:Oper):Bool:=
 match o.op,o.dst,o.guard with
 | .load _ (.tmp _),some d,none=>an.mv.contains d&&(an.mb d).isSome
 |_,_,_=>false
def LB (an:An)(o:Oper):Bool:=
 match o.op,o.dst,o.guard with
 | .load _ (.tmp _),some d,none=> !an.mv.contains d&&an.fm.contains d
 |_,_,_=>false
def erS (an:An)(o:Oper):fu:=
 match o.op,o.dst with
 | .load ..,some d=>(an.er d).toList
 | .call {callee:=.value _,..},some d=>(an.er d).toList
 |_,_=>[]
def AC.aeJ (l:fu):AC->Bool
 | .sl (.loc _ (some (.slot b _,_))) _ _=>l.contains b
 | .sl (.loc _ _) _ _=>false
 |_=>true
def Hg (l:fu)(st:AS):Operand->Bool
 | .tmp t=>(match st.get t with| .val _ cs=>cs.all (AC.aeJ l)| .tup _=>true)
 |_=>true
def adh (an:An)(X l:fu)(st:AS)(xs:aw Operand)(q:Nat):AV->Bool
 | .val false [.ptr s _]=> !X.contains s&&an.sb q==some s&&(match (nth st.boxes s).getD none with|some cs=>cs.all AC.Gc|none=>true)&&xs.all (Hg l st)
 |_=>true
def AV.ZB:AV->Bool
 | .val false [.ptr _ _]=>false
 |_=>true
def tz (an:An)(X l:fu)(st:AS):aw Operand->Bool
 | .tmp q::xs=>adh an X l st xs q (st.rd (.tmp q))
 |x::_=>(st.rd x).ZB
 |[]=>true
def dM (E:Env)(an:An)(X:fu)(o:Oper)(st:AS):Bool:=
 match o.op with
 | .move x=> !V1 an o||(st.rd x).lj
 | .indexAddr _ x _=>(st.rd x).now st.ep||(match st.rd x with| .val _ [.sl (.loc _ (some (.box b _,_))) _ _]=> !X.contains b|_=>false)
 | .slice _ x _ _ none=>(st.rd x).now st.ep
 | .call {callee:=.value _,args,..}=>tz an X (erS an o) st args.toList&&args.toList.all λx=>(st.rd x).now st.ep
 | .load T p=>match st.rd p with
   | .val false [.ptr s off]=> !X.contains s&&(match o.dst with|some d=> !an.mv.contains d||an.mb d==some s|none=>true)&&(!V1 an o||Dm E T st s off)
   | .val false [.elt fl _ _ _ _]=>(fl.live st.ep||(match fl with
     | .loc _ (some (.slot b _,_))=>(erS an o).contains b
     | .loc _ (some (.box b _,_))=> !X.contains b
     |_=>false))&& !(V1 an o||Bt an o)&& !AQ an o&&(!D1 an o||(match p,fl with
     | .tmp q,.loc _ (some (.box b _,_))=>an.eb q==some b&& !X.contains b
     |_,_=>false))
   |_=> !(V1 an o||Bt an o)
 | .store _ (.tmp p) _=>((an.sb p).isNone&&(an.eb p).isNone&&(an.es p).isNone)||(match st.rd (.tmp p)with
   | .val false [.ptr s _]=> !X.contains s&&an.sb p==some s
   | .val false [.elt (.loc _ (some (.box b _,_))) _ _ _ _]=>an.eb p==some b&&(an.sb p).isNone&&(an.es p).isNone
   | .val false [.elt (.loc _ (some (.slot b _,_))) _ _ _ _]=>an.es p==some b&&(an.sb p).isNone&&(an.eb p).isNone
   |_=>false)
 | .extract (.tmp t) i=>match st.get t with
   | .tup vs=>match nth vs i with|some x=>x.2.all AC.jE||(match o.dst with|some d=>an.mv.contains d|none=>false)|none=>true
   |_=>true
 |_=>true
def Dt (an:An)(ops:aw Oper)(o:Oper):fu:=
 (match o.guard with
 |some (j,_)=>((nth ops j).bind (·.dst)).toList
 |none=>[])++erS an o
def meets (a b:fu):Bool:=a.any λx=>b.contains x
def V8 (an:An)(ops:aw Oper)(X Y:fu)(o p:Oper):Bool:=
 nG an o&&nG an p&& !meets (writes an o) (dW p++Dt an ops p++writes an p)&& !meets (writes an p) (dW o++Dt an ops o)&&
 (D6 an o).all (λd=>Y.contains d)&&(D6 an p).all (λd=>X.contains d)&& !meets (D6 an o) (p.dst.toList++D6 an p)&& !meets (D6 an p) o.dst.toList
def WG (o p:Oper):Bool:=
 match o.op,p.op,o.dst,p.dst,o.guard,p.guard with
 | .extract (.tmp t) i,.extract (.tmp t') j,some d,some d',none,none=>t==t'&& !(i==j)&& !(d==d')&& !(d==t)&& !(d'==t)
 |_,_,_,_,_,_=>false
def WC (an:An)(o p:Oper):Bool:=
 match p.op,p.dst,p.guard with
 | .store _ (.tmp q) (.tmp x),none,none=>((an.eb q).isSome&&(an.es q).isNone||(match an.es q with|some b=>(an.eb q).isNone&& !(b==x)&& !(b==q)&& !meets [b] (o.dst.toList++dW o)|none=>false))&&(an.sb q).isNone&& !zT an p&&(match o.op,o.dst,o.guard with
   | .move (.tmp t),some d,none=> !an.mv.contains d&&an.fm.contains d&& !(d==q)&& !(d==x)&& !(t==x)&& !(t==q)&& !(d==t)
   | .extract (.tmp t) _,some d,none=> !(d==q)&& !(d==x)&& !(t==x)&& !(t==q)&& !(d==t)
   |_,_,_=>false)
 |_,_,_=>false
def Xt (an:An)(o p:Oper):Bool:=
 (Bt an o&&LB an p||LB an o&&Bt an p)&& !meets o.dst.toList (p.dst.toList++dW p)&& !meets p.dst.toList (dW o)
def Wm (an:An)(o p:Oper):Bool:=AQ an o&&D1 an p&& !meets o.dst.toList (p.dst.toList++dW p)&& !meets p.dst.toList (dW o)
def aev (an:An)(o p:Oper):Bool:=WG o p||WC an o p||Xt an o p||Wm an o p
def KF (an:An)(ops:aw Oper)(X Y:fu)(o p:Oper):Bool:=aev an o p||V8 an ops X Y o p
def AR (o:Oper):fu:=(o.after.toList.filter (λe=>Region.binds .any e)).map (·.on)
def Sc (a b:fu):fu:=a.foldl (λs x=>bif s.contains x then s else x::s) b
def Sl:aw Oper->aw fu->aw fu
 |[],acc=>acc
 |o::r,acc=>Sl r (acc++[(AR o).foldl (λs j=>Sc (j::(nth acc j).getD []) s) []])
def abQ (A:aw fu)(i k:Nat):Bool:=((nth A i).getD []).contains k
def YB (an:An)(A:aw fu)(i:Nat)(fl pl:Bool):Nat->aw Oper->fu
 |_,[]=>[]
 |k,o::r=>(bif !abQ A i k&& !abQ A k i&& !(k==i)&& !(fl&&Bt an o)&& !(pl&&D1 an o) then D6 an o else [])++YB an A i fl pl (k+1) r
def sI (an:An)(A:aw fu)(i k:Nat)(ops:aw Oper):fu:=YB an A i (match nth ops i with|some o=>LB an o|none=>false) (match nth ops i with|some o=>AQ an o|none=>false) k ops
def Mu (an:An)(ops:aw Oper)(A:aw fu)(i:Nat)(oi:Oper):Nat->aw Oper->Bool
 |_,[]=>true
 |j,oj::r=>bif Nat.ble i j then true else(abQ A i j||KF an ops (sI an A j 0 ops) (sI an A i 0 ops) oj oi)&&Mu an ops A i oi (j+1) r
def RI (an:An)(ops:aw Oper)(A:aw fu):Nat->aw Oper->Bool
 |_,[]=>true
 |i,oi::r=>(AR oi).all (λk=>Nat.blt k i)&&Mu an ops A i oi 0 ops&&RI an ops A (i+1) r
def SY (an:An)(ops:aw Oper):Bool:=RI an ops (Sl ops []) 0 ops
inductive Ex where
 |normal|ret|exit (id:Nat)
inductive FK where
 |own (tag:Option Nat)|arg|arg0|loc|lio (j t:Nat)|nil
def FK.flag:FK->qv
 | .own t=> .own t
 | .arg=> .arg false
 | .arg0=> .arg true
 | .loc=> .loc 0 none
 | .lio j t=> .loc 0 (some (.io j,t))
 | .nil=> .arg false
def FK.isNil:FK->Bool
 | .nil=>true
 |_=>false
inductive FT where
 |int (k:IntKind)|bool|str|sl (fl:FK) (e:CT)|pair (a b:FT)
abbrev FT.ct:FT->CT
 | .int k=> .int k
 | .bool=> .bool
 | .str=> .str
 | .sl _ e=> .sl e
 | .pair a b=> .pair a.ct b.ct
def jC:(t:FT)->t.ct.D->aw AC
 | .int k,n=>[.int k n]
 | .bool,b=>[.bool b]
 | .str,s=>[.str s]
 | .sl fl e,xs=>[bif fl.isNil then .nilsl else .sl fl.flag e xs]
 | .pair a b,x=>jC a x.1++jC b x.2
def FK.fits:FK->qv->Bool
 | .own t,.own t'=>t==t'
 | .arg,.arg k=> !k
 | .arg0,.arg k=>k
 | .loc,.loc 0 none=>true
 | .lio j t,.loc 0 (some (.io j',t'))=>j==j'&&t==t'
 |_,_=>false
def Kn:(t:FT)->aw AC->az (t.ct.D×aw AC)
 | .int k,.int k' n::r=>if k'=k then some (n,r) else none
 | .bool,.bool b::r=>some (b,r)
 | .str,.str s::r=>some (s,r)
 | .sl fl e,.sl fl' e' xs::r=>if h:e'=e then bif fl.fits fl' then some (h▸xs,r) else none else none
 | .sl fl _,.nilsl::r=>bif fl.isNil then some ([],r) else none
 | .pair a b,cs=>(Kn a cs).bind λx=>(Kn b x.2).bind λy=>some ((x.1,y.1),y.2)
 |_,_=>none
inductive PD where
 |bot|ptr (s off:Nat)|fn (f:Nat)|data (g:Bool) (t:FT)
inductive IoD where
 |none|some (t:FT)|ptr
structure SD where
 slots:List PD
 boxes:List (Option FT)
 io:IoD:=.none
abbrev IL:aw PD->Type
 |[]=>Unit
 | .data _ t::r=>t.ct.D×IL r
 |_::r=>IL r
abbrev HM:aw (az FT)->Type
 |[]=>Unit
 |some t::r=>t.ct.D×HM r
 |none::r=>HM r
abbrev ioD:IoD->Type
 | .none=>Unit
 | .some t=>t.ct.D
 | .ptr=>Unit
abbrev SD.D (d:SD):Type:=IL d.slots×HM d.boxes×ioD d.io
def sK:(l:aw PD)->IL l->aw AV
 |[],_=>[]
 | .data g t::r,x=> .val g (jC t x.1)::sK r x.2
 | .bot::r,x=> .bot::sK r x
 | .ptr s off::r,x=> .one (.ptr s off)::sK r x
 | .fn f::r,x=> .one (.fn f)::sK r x
def Bw:(l:aw (az FT))->HM l->aw (az (aw AC))
 |[],_=>[]
 |some t::r,x=>some (jC t x.1)::Bw r x.2
 |none::r,x=>none::Bw r x
def adl:(o:IoD)->ioD o->aw AC
 | .none,_=>[]
 | .some t,x=>jC t x
 | .ptr,_=>[.ptr 0 0]
def SD.enc (d:SD)(x:d.D):AS:=⟨sK d.slots x.1,Bw d.boxes x.2.1,0,List.replicate d.slots.length false,adl d.io x.2.2⟩
def AV.Zr:AV->Bool
 | .val false [.bot]=>true
 |_=>false
def AV.Zs (s off:Nat):AV->Bool
 | .val false [.ptr s' off']=>s==s'&&off==off'
 |_=>false
def AV.abj (f:Nat):AV->Bool
 | .val false [.fn f']=>f==f'
 |_=>false
def ka:(l:aw PD)->aw AV->az (IL l)
 |[],[]=>some ()
 | .data g t::r,.val g' cs::vs=>bif g==g' then(match Kn t cs with|some (x,[])=>(ka r vs).bind λy=>some (x,y)|_=>none) else none
 | .bot::r,v::vs=>bif v.Zr then ka r vs else none
 | .ptr s off::r,v::vs=>bif v.Zs s off then ka r vs else none
 | .fn f::r,v::vs=>bif v.abj f then ka r vs else none
 |_,_=>none
def qy:(l:aw (az FT))->aw (az (aw AC))->az (HM l)
 |[],[]=>some ()
 |some t::r,some cs::bs=>match Kn t cs with|some (x,[])=>(qy r bs).bind λy=>some (x,y)|_=>none
 |none::r,none::bs=>qy r bs
 |_,_=>none
def Xm:aw AC->Bool
 |[.ptr 0 0]=>true
 |_=>false
def SW:(o:IoD)->aw AC->az (ioD o)
 | .none,[]=>some ()
 | .some t,cs=>match Kn t cs with|some (x,[])=>some x|_=>none
 | .ptr,cs=>bif Xm cs then some () else none
 |_,_=>none
def SD.dec (d:SD)(st:AS):az d.D:=
 bif st.ep==0&&st.iss==List.replicate d.slots.length false then
  (ka d.slots st.slots).bind λx=>(qy d.boxes st.boxes).bind λy=>(SW d.io st.io).bind λz=>some (x,y,z)
 else none
structure da where
 sd:SD
 run:{R:Type}->sd.D->(Ex->AS->Option R)->Option R
abbrev dY:=Nat->da
def da.go {R:Type}(l:da)(st:AS)(K:Ex->AS->az R):az R:=aa (l.sd.dec st) λx=>l.run x K
def da.none:da:=⟨⟨[],[],.none⟩,λ_ _=>Option.none⟩
def dY.nil:dY:=λ_=>da.none
def dY.add (Λ:dY)(k:Nat)(l:da):dY:=λj=>bif j==k then l else Λ j
section
variable {R:Type} (E:Env) (Γ:dK) (an:An)
def BM (o:Oper)(x:Operand)(st:AS)(K:AS->az R):az R:=
 match o.dst with
 |some d=>if an.mv.contains d then K ((st.take x).2.put o.dst (st.take x).1) else K (st.put o.dst (st.rd x))
 |none=>none
def uI (o:Oper)(x:Operand)(st:AS)(K:AS->az R):az R:=
 match st.take x with
 |(.val false [.nilsl],_)=>match E.sl o.type with
  |some e=>K (st.put o.dst (.one (bif ar5 an o then .nilsl else .sl (.own none) e [])))
  |none=>none
 |(v,st')=>K (st'.put o.dst v)
def DH (o:Oper)(c a b:Operand)(st:AS)(K:AS->az R):az R:=
 match st.rd c with
 | .val false [.bool t]=>match st.rd a,st.rd b with
   | .val false [.bool x],.val false [.bool y]=>K (st.put o.dst (.one (.bool (cond t x y))))
   |va,vb=>cond t (K (st.put o.dst va)) (K (st.put o.dst vb))
 |_=>none
def BZ (o:Oper)(T:TypeId)(st:AS)(K:AS->az R):az R:=
 match o.dst,jn E.ty T with
 |some d,some sh=>match nth st.boxes d with
  |some none=>K ((st.eZ d (some (cellsOf sh.ct (.own none) sh.ct.zero))).put o.dst (.one (.ptr d 0)))
  |_=>none
 |_,_=>none
def PW (o:Oper)(x:Operand)(st:AS)(K:AS->az R):az R:=
 match o.dst,st.take x with
 |some d,(.val _ cs,st')=>
  match nth st'.boxes d with
  |some none=>if cs.all AC.Hj then K ((st'.eZ d (some cs)).put o.dst (.one (.ptr d 0))) else none
  |_=>none
 |_,_=>none
def RD (ep:Nat)(r:kG)(t:Nat)(e:CT)(i:Int):Nat->aw AC->aw AC
 |_,[]=>[]
 |p,.sl _ e' xs::cs=> .sl (.nest ep r t e i p) e' xs::RD ep r t e i (p+1) cs
 |p,c::cs=>c::RD ep r t e i (p+1) cs
def aeg (o:Oper)(ep:Nat)(fl:qv)(e:CT)(i:Int)(off:Nat)(cs:aw AC):aw AC:=
 match fl,o.dst with
 | .loc _ (some (r,t)),some d=>bif an.nest.contains d then RD ep r t e i off cs else cs
 |_,_=>cs
def Cw (o:Oper)(sh:Shape)(fl:qv)(e:CT)(i:Int)(off:Nat)(st:AS)(K:AS->az R):az R:=
 match fl with
 | .loc _ (some (r,t))=>
   match st.fD r with
   |some (.sl (.own (some t')) e' ys)=>
    if h:e'=e then
     if t'=t/\off+sh.ct.size<=e.size then
      aa (idx (h▸ys:aw e.D) i) λy=>K (st.put o.dst (.val sh.agg (((cellsOf e (.loc st.ep none) y).drop off).take sh.ct.size)))
     else none
    else none
   |_=>none
 |_=>none
def xY (o:Oper)(sh:Shape)(fl:qv)(e:CT)(i:Int)(off:Nat)(st:AS)(K:AS->az R):az R:=
 match fl with
 | .loc _ (some (r,t))=>
   match st.fD r with
   |some (.sl (.own (some t')) e' ys)=>
    if h:e'=e then
     if t'=t/\off=0/\sh.ct=e then
      aa (idx (h▸ys:aw e.D) i) λy=>K ((st.fH r (.sl (.holed (some t) i (some st.ep)) e (h▸ys))).put o.dst (.val sh.agg (cellsOf e (.own none) y)))
     else none
    else none
   |_=>none
 |_=>none
def ph (o:Oper)(T:TypeId)(p:Operand)(st:AS)(K:AS->az R):az R:=
 match jn E.ty T,st.rd p with
 |some sh,.val false [.ptr s off]=>
  match (nth st.boxes s).getD none with
  |some cs=>
   if off+sh.ct.size<=cs.length then
    match o.dst with
    |some d=>
     if an.mv.contains d then
      K ((st.eZ s (some (eQ cs off (bc st.ep ((cs.drop off).take sh.ct.size))))).put o.dst (.val sh.agg ((cs.drop off).take sh.ct.size)))
     else K (st.put o.dst (.val sh.agg (iK st.ep (.box s) off ((cs.drop off).take sh.ct.size))))
    |none=>none
   else none
  |none=>none
 |some sh,.val false [.elt fl e x i off]=>
  if D4 an o then xY o sh fl e i off st K
  else if fl.live st.ep then
   if off+sh.ct.size<=e.size then K (st.put o.dst (.val sh.agg (aeg an o st.ep fl e i off (((cellsOf e fl.bare x).drop off).take sh.ct.size)))) else none
  else Cw o sh fl e i off st K
 |_,_=>none
def wK (T:TypeId)(p x:Operand)(st:AS)(K:AS->az R):az R:=
 match jn E.ty T,st.rd p with
 |some sh,.val false [.ptr s off]=>
  match st.take x with
  |(.val _ vs,st')=>
   match (nth st'.boxes s).getD none with
   |some cs=>
    if vs.length=sh.ct.size/\vs.all AC.Hj then
     if off+sh.ct.size<=cs.length then K (st'.eZ s (some (eQ cs off vs))) else none
    else none
   |none=>none
  |_=>none
 |some sh,.val false [.elt (.loc _ (some (r,t))) e _ i off]=>
  match st.take x with
  |(.val _ vs,st')=>
   if vs.length=sh.ct.size/\off+sh.ct.size<=e.size then st'.pz r t e i off vs K else none
  |_=>none
 |_,_=>none
def zH (o:Oper)(S:TypeId)(p:Operand)(f:Nat)(st:AS)(K:AS->az R):az R:=
 match jn E.ty S,st.rd p with
 |some ⟨true,_,offs⟩,.val false [.ptr s off]=>match nth offs f with|some (fo,_)=>K (st.put o.dst (.one (.ptr s (off+fo))))|none=>none
 |some ⟨true,_,offs⟩,.val false [.elt fl e x i off]=>match nth offs f with|some (fo,_)=>K (st.put o.dst (.one (.elt fl e x i (off+fo))))|none=>none
 |_,_=>none
def mE (o:Oper)(T:TypeId)(x i:Operand)(st:AS)(K:AS->az R):az R:=
 match E.sl T,(st.rd x).fresh st,st.rd i with
 |some e',.val false [.sl fl e xs],.val false [.int _ n]=>
  if e'=e/\fl.live st.ep then aa (idx xs n) λy=>K (st.put o.dst (.one (.elt fl e y n 0))) else none
 |_,_,_=>none
def Bm (o:Oper)(T:TypeId)(x i:Operand)(st:AS)(K:AS->az R):az R:=
 match st.rd x,st.rd i with
 | .val false [.str s],.val false [.int _ n]=>if E.str T then aa (idx s n) λb=>K (st.put o.dst (.one (.int .u8 b.toNat))) else none
 |_,_=>none
def Bh (o:Oper)(T:TypeId)(parts:aw (Nat×Operand))(st:AS)(K:AS->az R):az R:=
 match jn E.ty T with
 |some ⟨true,ct,offs⟩=>
  match fE st (parts.map (·.2))with
  |(vs,st')=>
   match wb offs (cellsOf ct (.own none) ct.zero) ((parts.map (·.1)).zip (vs.map AV.cells))with
   |some cs=>K (st'.put o.dst (.val true cs))
   |none=>none
 |_=>none
def lR (o:Oper)(T:TypeId)(len:Nat)(parts:aw (Nat×Operand))(st:AS)(K:AS->az R):az R:=
 match E.sl T with
 |some e=>
  if parts.length=len/\GS 0 parts/\len<=1000 then
   match fE st (parts.map (·.2))with
   |(vs,st')=>
    match BJ e (vs.map AV.cells)with
    |some xs=>K (st'.pR o.dst e xs)
    |none=>none
  else none
 |none=>none
def oG (o:Oper)(T:TypeId)(n c:Operand)(st:AS)(K:AS->az R):az R:=
 match E.sl T,st.rd n,st.rd c with
 |some e,.val false [.int .i64 len],.val false [.int .i64 cap]=>
  if 0<=len/\len<=cap then room cap.toNat (K (st.pR o.dst e (List.replicate len.toNat e.zero))) else none
 |_,_,_=>none
def mO (st:AS)(lo hi:az Operand)(n:Nat)(K:Int->Int->az R):az R:=
 match lo.map st.rd,hi.map st.rd with
 |none,none=>K 0 n
 |some (.val false [.int _ a]),none=>K a n
 |none,some (.val false [.int _ b])=>K 0 b
 |some (.val false [.int _ a]),some (.val false [.int _ b])=>K a b
 |_,_=>none
def wB (o:Oper)(T:TypeId)(x:Operand)(lo hi:az Operand)(st:AS)(K:AS->az R):az R:=
 match st.take x,lo.map st.rd,hi with
 |(.val false [.sl (.own _) e xs],st'),some (.val false [.int _ a]),none=>
  if E.sl T=some e then aa (sub xs a xs.length) λxs'=>K (st'.pR o.dst e xs') else none
 |_,_,_=>none
def Mv (o:Oper)(fl:qv)(a:Int):qv:=
 match fl,o.dst with
 | .loc ep (some (r,t)),some d=>bif an.nest.contains d then .part ep r t a else .loc ep none
 |fl,_=>fl.bare
def Af (o:Oper)(T:TypeId)(x:Operand)(lo hi:az Operand)(st:AS)(K:AS->az R):az R:=
 if D4 an o then wB E o T x lo hi st K else
 match (st.rd x).fresh st with
 | .val false [.str s]=>if E.str T then mO st lo hi s.length λa b=>aa (sub s a b) λs'=>K (st.put o.dst (.one (.str s'))) else none
 | .val false [.sl fl e xs]=>
   if E.sl T=some e/\fl.live st.ep then mO st lo hi xs.length λa b=>aa (sub xs a b) λxs'=>K (st.put o.dst (.one (.sl (Mv an o fl a) e xs'))) else none
 |_=>none
def lU (o:Oper)(src dst:TypeId)(x:Operand)(st:AS)(K:AS->az R):az R:=
 match jn E.ty src,jn E.ty dst,st.rd x with
 |some _,some ⟨false,.int k,_⟩,.val false [.int _ n]=>K (st.put o.dst (.one (.int k (k.wrap n))))
 |some ⟨false,.str,_⟩,some ⟨false,.str,_⟩,.val false [.str s]=>K (st.put o.dst (.one (.str s)))
 |some ⟨false,.str,_⟩,some _,.val false [.str s]=>
  if E.bytes dst then room s.length (K (st.pR o.dst (.int .u8) (du s))) else none
 |some _,some ⟨false,.str,_⟩,.val false [.sl fl (.int .u8) xs]=>
  if E.bytes src/\fl.live st.ep then K (st.put o.dst (.one (.str (aL xs)))) else none
 |_,_,_=>none
def lW (o:Oper)(t i:Nat)(st:AS)(K:AS->az R):az R:=
 match st.get t with
 | .tup vs=>match nth vs i with
   |some (g,cs)=>K ((st.put (some t) (.tup (ir vs i (g,bc 0 cs)))).put o.dst (.val g cs))
   |none=>none
 |_=>none
def Mg (o:Oper)(ts:aw TypeId)(args:aw Operand)(st:AS)(K:AS->az R):az R:=
 match ts,args.map st.rd with
 |[t],[.val false [.str s]]=>if E.str t then K (st.put o.dst (.one (.int .i64 s.length))) else none
 |[t],[.val false [.sl _ _ xs]]=>if(E.sl t).isSome then K (st.put o.dst (.one (.int .i64 xs.length))) else none
 |_,_=>none
def NJ (o:Oper)(args:aw Operand)(st:AS)(K:AS->az R):az R:=
 match args.map st.rd with
 |[.val false [.int k x],.val false [.int _ y]]=>K (st.put o.dst (.one (.int k (if y<x then y else x))))
 |_=>none
def NI (o:Oper)(args:aw Operand)(st:AS)(K:AS->az R):az R:=
 match args.map st.rd with
 |[.val false [.int k x],.val false [.int _ y]]=>K (st.put o.dst (.one (.int k (if y>x then y else x))))
 |_=>none
def N9 (o:Oper)(ts:aw TypeId)(args:aw Operand)(st:AS)(K:AS->az R):az R:=
 match ts,args.map st.rd with
 |[t,t'],[.val false [.sl (.part ep r tg lo) e xs],.val false [.str s]]=>
  match st.fD r with
  |some (.sl (.own (some tg')) e' ys)=>
   if h:e'=.int .u8 then
    if e=.int .u8/\E.sl t=some (.int .u8)/\E.str t'=true/\ep=st.ep/\tg'=tg then
     K ({st.fH r (.sl (.own (some tg)) (.int .u8) (BO (h▸ys:aw (CT.int .u8).D) lo.toNat (du (s.take xs.length))))with ep:=st.ep+1}.put o.dst (.one (.int .i64 (min xs.length s.length:Nat))))
    else none
   else none
  |_=>none
 |_,_=>none
def Eh (o:Oper)(S:TypeId)(t f:Nat)(st:AS)(K:AS->az R):az R:=
 match jn E.ty S,st.get t,UF E.fts S f with
 |some ⟨true,ct,offs⟩,.val true cs,some T=>
  match nth offs f,jn E.ty T with
  |some (fo,n),some sh=>
   if n=sh.ct.size/\cs.length=ct.size/\fo+n<=cs.length then
    K ((st.put (some t) (.val true (eQ cs fo (bc st.ep ((cs.drop fo).take n))))).put o.dst (.val sh.agg ((cs.drop fo).take n)))
   else none
  |_,_=>none
 |_,_,_=>none
def wO (o:Oper)(ts:aw TypeId)(args:aw Operand)(st:AS)(K:AS->az R):az R:=
 match ts,args with
 |[t,t'],[s,x]=>
  match st.take s with
  |(.val false [.sl (.own _) e xs],st1)=>
   match st1.take x with
   |(.val false [.sl fl e' ys],st2)=>
    if h:e'=e then
     if E.sl t=some e/\E.sl t'=some e/\fl.qB st.ep e.flat then
      room (xs.length+ys.length) (K (st2.pR o.dst e (xs++(h▸ys:aw e.D))))
     else none
    else none
   |(.val false [.str s],st2)=>
    if h:e=.int .u8 then
     if E.sl t=some e/\E.str t' then room (xs.length+s.length) (K (st2.pR o.dst (.int .u8) ((h▸xs:aw (CT.int .u8).D)++du s))) else none
    else none
   |_=>none
  |_=>none
 |_,_=>none
def Oo:Nat->aw AC->az (kG×Nat)
 |_,[]=>none
 |j,.sl (.loc _ (some (r,_))) _ _::_=>some (r,j)
 |j,_::cs=>Oo (j+1) cs
def kG.pos:kG->Nat
 | .slot _ j=>j
 | .box _ j=>j
 | .io j=>j
def AS.G6 (st:AS):kG->az (aw AC)
 | .slot s _=>match st.get s with| .val _ cs=>some cs|_=>none
 | .box s _=>(nth st.boxes s).getD none
 | .io _=>some st.io
def AS.DV (st:AS)(r:kG)(cs:aw AC):AS:=
 match r with
 | .slot s _=>match st.get s with| .val g _=>st.put (some s) (.val g cs)|_=>st
 | .box s _=>st.eZ s (some cs)
 | .io _=>{st with io:=cs}
def nK:aw AC->aw AC->az (aw AC)
 |[],[]=>some []
 | .sl (.loc _ (some (_,t))) _ _::os,.sl (.own (some t')) e xs::ss=>bif t'==t then(nK os ss).bind λr=>some (.sl (.own none) e xs::r) else none
 | .int k n::os,.int _ _::ss=>(nK os ss).bind λr=>some (.int k n::r)
 | .bool b::os,.bool _::ss=>(nK os ss).bind λr=>some (.bool b::r)
 | .str x::os,.str _::ss=>(nK os ss).bind λr=>some (.str x::r)
 |_,_=>none
def AV.jE:AV->Bool
 | .val _ cs=>cs.all AC.jE
 | .tup vs=>vs.all λx=>x.2.all AC.jE
def P1 (st:AS)(x:Operand):az (AV×AS):=
 match st.rd x with
 | .val g cs=>
   match Oo 0 cs with
   |some (r,j)=>
    match st.G6 r with
    |some csO=>
     match nK cs ((csO.drop (r.pos-j)).take cs.length)with
     |some cs'=>some (.val g cs',st.DV r (eQ csO (r.pos-j) (bc st.ep ((csO.drop (r.pos-j)).take cs.length))))
     |none=>none
    |none=>none
   |none=>none
 |_=>none
def OR (o:Oper)(x:Operand)(st:AS)(K:AS->az R):az R:=
 match P1 st x with
 |some (v,st')=>K (st'.put o.dst v)
 |none=>none
def wL (T:TypeId)(p x:Operand)(st:AS)(K:AS->az R):az R:=
 match jn E.ty T,st.rd p with
 |some sh,.val false [.ptr s off]=>
  match P1 st x with
  |some (.val _ vs,st')=>
   match (nth st'.boxes s).getD none with
   |some cs=>
    if vs.length=sh.ct.size/\vs.all AC.Hj then
     if off+sh.ct.size<=cs.length then K (st'.eZ s (some (eQ cs off vs))) else none
    else none
   |none=>none
  |_=>none
 |_,_=>none
def AC.strip:AC->AC
 | .sl (.own _) e xs=> .sl (.own none) e xs
 | .sl (.loc _ _) _ _=> .bot
 | .sl (.nest ..) _ _=> .bot
 | .sl (.part ..) _ _=> .bot
 | .sl (.holed _ i _) e xs=> .sl (.holed none i none) e xs
 | .ptr _ _=> .bot
 | .elt _ _ _ _ _=> .bot
 |c=>c
def AC.ahh:AC->Bool
 | .sl (.own _) _ _=>true
 |c=>c.jE
def AC.yk (k:Bool):AC->Bool
 | .sl (.own _) _ _=>true
 | .sl (.arg k') _ _=>k'==k
 |c=>c.jE
def AC.R6:AC->AC
 | .sl (.own _) e xs=> .sl (.own none) e xs
 | .sl (.arg _) e xs=> .sl (.arg true) e xs
 |c=>c.strip
def AC.ajl (k:Bool)(tag:az Nat):AC->AC
 | .sl (.own _) e xs=> .sl (.own tag) e xs
 | .sl (.arg _) e xs=> .sl (.arg k) e xs
 |c=>c
def pF (k:Bool)(mk:Nat->az Nat):Nat->aw AC->aw AC
 |_,[]=>[]
 |j,c::cs=>c.ajl k (mk j)::pF k mk (j+1) cs
def CO (cs:aw AC):Bool:=cs.any λc=>match c with| .sl (.arg k) _ _=>k|_=>false
def AC.HL:AC->Bool
 | .sl (.arg k) _ _=> !k
 |c=>c.jE
def AV.HL:AV->Bool
 | .val _ cs=>cs.all AC.HL
 | .tup _=>false
def AS.NH (st:AS):AC->AC
 | .sl (.own _) e xs=> .sl (.arg false) e xs
 | .sl (.arg _) e xs=> .sl (.arg false) e xs
 | .sl (.loc _ (some (.slot b j,t))) _ _=>match st.fD (.slot b j)with
   |some (.sl (.own (some t')) e' ys)=>if t'=t then .sl (.arg false) e' ys else .bot
   |_=> .bot
 | .int k n=> .int k n
 | .bool b=> .bool b
 | .str s=> .str s
 | .fn f=> .fn f
 |_=> .bot
def AP (st:AS):Operand->AV
 | .tmp t=>(match st.get t with| .val g cs=> .val g (cs.map st.NH)|v=>v)
 |x=>st.rd x
def BI (st:AS):Operand->Bool
 | .tmp t=>(match st.get t with| .val _ cs=>(cs.map st.NH).all AC.HL|_=>false)
 |x=>(st.rd x).jE
def AC.abF:AC->Bool
 | .sl (.own _) _ _=>true
 |c=>c.jE
def AV.abF:AV->Bool
 | .val _ cs=>cs.all AC.abF
 | .tup vs=>vs.all λx=>x.2.all AC.abF
def YA (st:AS)(s:Nat)(cs:aw AC):AS:={(st.eZ s (some cs)).fR (some s)with ep:=st.ep+1}
def uJ (o:Oper)(f:Nat)(args:aw Operand)(st:AS)(K:AS->az R):az R:=
 match args with
 |x0::xs=>
  match st.rd x0 with
  | .val false [.ptr s 0]=>
    match (nth st.boxes s).getD none with
    |some cs=>
     bif cs.all (AC.yk (CO cs))&&xs.all (BI st) then
      aa ((Γ f).fn (.val true (cs.map AC.R6)::xs.map (AP st))) λy=>
       bif ((Γ f).back y).all (AC.yk true)&&((Γ f).av y).abF then
        bif (Γ f).cur&&cs.all AC.Gc then
         K (((st.eZ s (some (pF (CO cs) (λ_=>none) 0 ((Γ f).back y)))).fR o.dst).put o.dst (((Γ f).av y).CP st.ep (st.ix o.dst)))
        else
        K (((YA st s (pF (CO cs) (st.ix (some s)) 0 ((Γ f).back y))).fR o.dst).put o.dst
          (((Γ f).av y).CP (st.ep+1) ((YA st s (pF (CO cs) (st.ix (some s)) 0 ((Γ f).back y))).ix o.dst)))
       else none
     else none
    |none=>none
  |_=>none
 |[]=>none
def abG (o:Oper)(f:Nat)(args:aw Operand)(st:AS)(K:AS->az R):az R:=
 match o.dst with
 |some d=>
  match nth st.boxes d with
  |some none=>
   bif args.all (λx=>(st.rd x).HL) then
    aa ((Γ f).fn (args.map st.rd)) λy=>
     bif ((Γ f).back y).all AC.HL then K ((st.eZ d (some ((Γ f).back y))).put (some d) (.one (.ptr d 0))) else none
   else none
  |_=>none
 |none=>none
def CR (o:Oper)(f:Operand)(args:aw Operand)(st:AS)(K:AS->az R):az R:=
 match st.rd f with
 | .val false [.fn f]=>
   bif (Γ f).bx then uJ Γ o f args st K else
   bif (Γ f).pr then abG Γ o f args st K else
   bif (Γ f).io then none
   else aa ((Γ f).fn (args.map λx=>((st.rd x).fresh st).asArg st.ep)) λr=>cond ((Γ f).sel r) (K ((st.fR o.dst).put o.dst (((Γ f).av r).CP st.ep (st.ix o.dst)))) (K ((st.fR o.dst).put o.dst (((Γ f).alt r).CP st.ep (st.ix o.dst))))
 |_=>none
def CS {R:Type}(op:BinOp)(b:Bool)(K:AC->az R):az R:=
 match op with
 | .eql=>K (.bool b)
 | .neq=>K (.bool (!b))
 |_=>none
def Ay (o:Oper)(op:BinOp)(T:TypeId)(x y:Operand)(st:AS)(K:AS->az R):az R:=
 match st.rd x,st.rd y with
 | .val false [.bool a],.val false [.bool b]=>if E.bool T then EH op (.one (.bool a)) (.one (.bool b)) λc=>K (st.put o.dst (.one c)) else none
 | .val true xs,.val true ys=>match OU E.eqs T with
   |some ls=>if fits ls xs then EH op (.val true xs) (.val true ys) λc=>K (st.put o.dst (.one c)) else none
   |none=>none
 | .val false [.sl fl _ xs],.val false [.nilsl]=>if(E.sl T).isSome/\fl.live st.ep then(if xs.length=0 then none else CS op false λc=>K (st.put o.dst (.one c))) else none
 | .val false [.nilsl],.val false [.nilsl]=>if(E.sl T).isSome then CS op true λc=>K (st.put o.dst (.one c)) else none
 |a,b=>EH op a b λc=>K (st.put o.dst (.one c))
def cW (o:Oper)(st:AS)(K:AS->az R):az R:=
 match o.op with
 | .move x=>BM an o x st K
 | .assign x=>if zT an o then OR o x st K else uI E an o x st K
 | .pick c a b=>DH o c a b st K
 | .alloc T=>BZ E o T st K
 | .box _ x=>PW o x st K
 | .load T p=>ph E an o T p st K
 | .store T p x=>match o.dst with|none=>(if zT an o then wL E T p x st K else wK E T p x st K)|some _=>none
 | .nilCheck x=>
   match st.rd x with
   | .val false [.ptr s off]=>K (st.put o.dst (.one (.ptr s off)))
   | .val false [.elt fl e y i off]=>K (st.put o.dst (.one (.elt fl e y i off)))
   |_=>none
 | .binOp op T x y _=>Ay E o op T x y st K
 | .unOp op _ x=>unC op (st.rd x) λc=>K (st.put o.dst (.one c))
 | .fieldAddr S p f=>zH E o S p f st K
 | .indexAddr T x i=>mE E o T x i st K
 | .index T x i=>Bm E o T x i st K
 | .build T parts=>Bh E o T parts.toList st K
 | .buildSlice T len parts=>lR E o T len parts.toList st K
 | .makeSlice T n c=>oG E o T n c st K
 | .slice T x lo hi none=>Af E an o T x lo hi st K
 | .field S (.tmp t) f=>Eh E o S t f st K
 | .call {callee:=.builtin .copy,args,argTypes}=>N9 E o argTypes.toList args.toList st K
 | .convert src dst x=>lU E o src dst x st K
 | .extract (.tmp t) i=>lW o t i st K
 | .call {callee:=.builtin .len,args,argTypes}=>Mg E o argTypes.toList args.toList st K
 | .call {callee:=.builtin .min,args,..}=>NJ o args.toList st K
 | .call {callee:=.builtin .max,args,..}=>NI o args.toList st K
 | .call {callee:=.builtin .append,args,argTypes}=>wO E o argTypes.toList args.toList st K
 | .call {callee:=.value f,args,..}=>CR Γ o f args.toList st K
 |_=>none
def gP (ops:aw Oper)(o:Oper)(st:AS)(K:AS->az R):az R:=
 match o.guard with
 |none=>cW E Γ an o st K
 |some (j,want)=>
  match (nth ops j).bind (·.dst)with
  |some d=>
   match st.get d with
   | .val false [.bool b]=>
     let go (t:Bool):az R:=
      if t==want then cW E Γ an o (st.put (some d) (.one (.bool t))) K else K ((st.put (some d) (.one (.bool t))).put o.dst (.one .un))
     cond b (go true) (go false)
   | .val false [.un]=>K (st.put o.dst (.one .un))
   |_=>none
  |none=>none
def RF (ops:aw Oper):aw Oper->AS->(AS->az R)->az R
 |[],st,K=>K st
 |o::r,st,K=>gP E Γ an ops o st λst'=>RF ops r st' K
def fX:Code->Nat
 | .region id _ _=>id
 | .seq a _=>fX a
 | .block _ c=>fX c
 | .loop c=>fX c
 | .cond _ a b=>match fX a with|0=>fX b|n=>n
 |_=>0
def C9 (c:Code):Nat:=1000000+2*fX c
def kT (l:fu):Code->aw Code
 | .seq a b=>kT l a++(bif l.contains (fX b) then b::kT l b else kT l b)
 | .cond _ a b=>kT l a++kT l b
 | .block _ c=>kT l c
 | .loop c=>kT l c
 |_=>[]
def lV (l:fu)(fn:Func)(k:Nat):Code:=(nth (kT l (fn.body.getD .skip)) k).getD .skip
def jw:Code->aw Code
 | .seq a b=>jw a++jw b
 | .cond _ a b=>jw a++jw b
 | .block _ c=>jw c
 | .loop c=>c::jw c
 |_=>[]
def aY (fn:Func)(k:Nat):Code:=(nth (jw (fn.body.getD .skip)) k).getD .skip
def Zq (j:Nat):Nat:=3*(4096*1000003+j)
def kG.DZ:kG->az Nat
 | .slot s j=>bif Nat.ble 4096 j then none else bif Nat.ble 1000000 s then none else some (3*(4096*s+j))
 | .box s j=>bif Nat.ble 4096 j then none else some (3*(4096*s+j)+1)
 | .io j=>bif Nat.ble 4096 j then none else some (Zq j)
def AC.ad4 (io:aw AC)(j t:Nat)(e:CT):az (aw e.D):=
 match nth io j with
 |some (.sl (.own (some t')) e' ys)=>if h:e'=e then bif t'==t then some (h▸ys) else none else none
 |_=>none
def AC.mask (keep:fu)(ep:Nat)(io:aw AC)(rt:kG):AC->AC
 | .ptr s off=>if keep.contains s then .ptr s off else .bot
 | .sl (.loc e pv) t xs=>
   match pv with
   |some (.io j,n)=>match AC.ad4 io j n t with
    |some ys=> .sl (.loc 0 ((kG.DZ (.io j)).map λq=>(.io j,q))) t ys
    |none=>if e==ep then .sl (.loc 0 none) t xs else .bot
   |_=>if e==ep then .sl (.loc 0 none) t xs else .bot
 | .sl (.own _) t xs=> .sl (.own rt.DZ) t xs
 | .sl (.nest ..) _ _=> .bot
 | .sl (.part ..) _ _=> .bot
 | .sl (.holed _ i _) e xs=> .sl (.holed none i none) e xs
 | .elt _ _ _ _ _=> .bot
 |c=>c
def Ij (keep:fu)(ep:Nat)(io:aw AC)(f:Nat->kG):Nat->aw AC->aw AC
 |_,[]=>[]
 |j,c::cs=>c.mask keep ep io (f j)::Ij keep ep io f (j+1) cs
def AV.mask (keep:fu)(ep:Nat)(io:aw AC)(s:Nat):AV->AV
 | .val g cs=> .val g (Ij keep ep io (.slot s) 0 cs)
 | .tup _=> .bot
def nE (keep:fu)(ep:Nat)(io:aw AC):Nat->aw AV->aw AV
 |_,[]=>[]
 |i,v::r=>(if keep.contains i then v.mask keep ep io i else .bot)::nE keep ep io (i+1) r
def nD (keep:fu)(ep:Nat)(io:aw AC):Nat->aw (az (aw AC))->aw (az (aw AC))
 |_,[]=>[]
 |i,b::r=>(if keep.contains i then b.map (Ij keep ep io (.box i) 0) else none)::nD keep ep io (i+1) r
def Xx (keep:fu):Nat->aw AC->aw AC
 |_,[]=>[]
 |j,c::cs=>(match c with| .sl (.own _) e xs=> .sl (.own (kG.DZ (.io j))) e xs| .sl (.holed _ i _) e xs=> .sl (.holed none i none) e xs| .ptr s off=>if keep.contains s then .ptr s off else .bot|c=>bif c.jE then c else .bot)::Xx keep (j+1) cs
def AS.mask (keep:fu)(st:AS):AS:=
 ⟨nE keep st.ep st.io 0 st.slots,nD keep st.ep st.io 0 st.boxes,0,List.replicate st.slots.length false,Xx keep 0 st.io⟩
def getBool (st:AS)(s:Nat):az Bool:=
 match st.get s with
 | .val false [.bool b]=>some b
 |_=>none
def gT (an:An)(ds:fu)(o:Oper):Bool:=
 match o.op with
 | .assign (.const _)=> !zT an o
 | .assign (.tmp t)=>ds.contains t&& !zT an o
 | .move _| .load ..=>match o.dst with|some d=> !an.mv.contains d|none=>false
 | .slice ..=> !D4 an o
 | .pick ..| .binOp ..| .unOp ..| .fieldAddr ..| .indexAddr ..| .index ..| .nilCheck _=>true
 | .build _ ps=>ps.isEmpty
 | .call {callee:=.builtin .len,..}| .call {callee:=.builtin .min,..}| .call {callee:=.builtin .max,..}=>true
 | .call {callee:=.value _,..}=>true
 |_=>false
def Fs (ops:aw Oper):fu:=ops.filterMap (·.dst)
def AS.AL (st:AS):fu->AS
 |[]=>st
 |d::r=>((st.put (some d) .bot).fR (some d)).AL r
def EJ (ops:aw Oper)(A:aw fu):Nat->aw Oper->AS->(AS->az R)->az R
 |_,[],st,K=>K st
 |i,o::r,st,K=>bif dM E an (sI an A i 0 ops) o st then gP E Γ an ops o st λst'=>EJ ops A (i+1) r st' K else none
def Dk (ops:aw Oper)(draw:Bool)(st:AS)(K:AS->az R):az R:=
 bif draw then(bif SY an ops then EJ E Γ.FZ an ops (Sl ops []) 0 ops st K else none) else RF E Γ an ops ops st K
def RO (id:Nat)(ops:aw Oper)(draw:Bool)(st:AS)(K:AS->az R):az R:=
 match an.merge id with
 |none=>Dk E Γ an ops draw st K
 |some s=>
  if ops.all (gT an (Fs ops)) then
   aa (Dk E Γ.calm an ops draw st λst'=>getBool st' s) λb=>K ((st.AL (Fs ops)).put (some s) (.one (.bool b)))
  else none
def CX (key:fu)(B:AS->(Ex->AS->az R)->az R):Nat->AS->(Ex->AS->az R)->az R
 |0,_,_=>none
 |m+1,st,K=>B st λe st'=>
  match e with
  | .normal=>CX key B m (st'.mask key) K
  |e=>K e (st'.mask key)
def den (Λ:dY):Code->AS->(Ex->AS->az R)->az R
 | .skip,st,K=>K .normal st
 | .region id ops draw,st,K=>RO E Γ an id ops.toList draw st (K .normal)
 | .seq a b,st,K=>den Λ a st λe st'=>match e with
   | .normal=>bif an.cut.contains (fX b) then(Λ (C9 b)).go (st'.mask (an.mask (C9 b))) K else den Λ b st' K
   |e=>K e st'
 | .cond c a b,st,K=>
   match st.rd c with
   | .val false [.bool t]=>cond t (den Λ a st K) (den Λ b st K)
   |_=>none
 | .block id c,st,K=>den Λ c st λe st'=>
   match e with
   | .exit j=>if j==id then K .normal st' else K (.exit j) st'
   |e=>K e st'
 | .loop c,st,K=>
   bif an.peel.contains (fX c) then den Λ c (st.mask (an.mask (fX c))) λe st'=>
    match e with
    | .normal=>(Λ (fX c)).go (st'.mask (an.mask (fX c))) K
    |e=>K e (st'.mask (an.mask (fX c)))
   else(Λ (fX c)).go (st.mask (an.mask (fX c))) K
 | .exit id,st,K=>K (.exit id) st
 | .ret,st,K=>K .ret st
 |_,_,_=>none
end
def MG (st:AS)(E:Env):ResultVar->az ((Bool×Nat)×Bool×aw AC)
 | .tmp t=>match st.get t with| .val g cs=>some ((false,t),g,cs.map AC.strip)|_=>none
 | .cell t T=>match jn E.ty T,st.get t with
   |some sh,.val false [.ptr s off]=>((nth st.boxes s).getD none).bind λcs=>
    if off+sh.ct.size<=cs.length then some ((true,s),sh.agg,((cs.drop off).take sh.ct.size).map AC.strip) else none
   |_,_=>none
def sC (st:AS)(E:Env):aw (Bool×Nat)->aw ResultVar->az (aw (Bool×aw AC))
 |_,[]=>some []
 |had,r::rs=>(MG st E r).bind λx=>if had.contains x.1 then none else(sC st E (x.1::had) rs).bind λxs=>some (x.2::xs)
def results (E:Env)(rs:aw ResultVar)(st:AS):az AV:=
 match sC st E [] rs with
 |some [(g,cs)]=>some (.val g cs)
 |some vs=>some (.tup vs)
 |none=>none
def start (fn:Func)(args:aw AV):AS:=⟨args++List.replicate (fn.ntmps-args.length) .bot,List.replicate (args.length+(fn.ntmps-args.length)) none,0,List.replicate fn.ntmps false,[]⟩
abbrev lE:aw (Bool×FT)->Type
 |[]=>Unit
 |[(_,t)]=>t.ct.D
 |(_,t)::r=>t.ct.D×lE r
def lC:(l:aw (Bool×FT))->aw (Bool×aw AC)->az (lE l)
 |[],[]=>some ()
 |[(g,t)],[(g',cs)]=>bif g==g' then(match Kn t cs with|some (x,[])=>some x|_=>none) else none
 |(g,t)::p::r,(g',cs)::vs=>bif g==g' then(match Kn t cs with|some (x,[])=>(lC (p::r) vs).bind λy=>some (x,y)|_=>none) else none
 |_,_=>none
def am1:(l:aw (Bool×FT))->lE l->aw (Bool×aw AC)
 |[],_=>[]
 |[(g,t)],x=>[(g,jC t x)]
 |(g,t)::p::r,x=>(g,jC t x.1)::am1 (p::r) x.2
def zA (l:aw (Bool×FT))(x:lE l):AV:=
 match am1 l x with
 |[(g,cs)]=> .val g cs
 |vs=> .tup vs
def Lw (E:Env)(Γ:dK)(an:An)(Λ:dY)(fn:Func)(rs:aw (Bool×FT))(args:aw AV):az (lE rs):=
 match fn.body with
 |some c=>if args.length=fn.params.size then den E Γ an Λ c (start fn args) λe st=>
  match e with
  | .exit _=>none
  |_=>aa (sC st E [] fn.results.toList) (lC rs)
  else none
 |none=>none
def evalAlt (E:Env)(Γ:dK)(an:An)(Λ:dY)(fn:Func)(rs rs2:aw (Bool×FT))(h:lE rs2=lE rs)(args:aw AV):az (Bool×lE rs):=
 match fn.body with
 |some c=>if args.length=fn.params.size then den E Γ an Λ c (start fn args) λe st=>
  match e with
  | .exit _=>none
  |_=>aa (sC st E [] fn.results.toList) λys=>
   match lC rs ys with
   |some y=>some (true,y)
   |none=>match lC rs2 ys with
    |some y=>some (false,cast h y)
    |none=>none
  else none
 |none=>none
def Ge:Nat->aw AC->aw AC
 |_,[]=>[]
 |j,.sl (.own _) e xs::cs=> .sl (.own (some (3*j+1))) e xs::Ge (j+1) cs
 |j,c::cs=>c::Ge (j+1) cs
def Al (fn:Func)(cs:aw AC)(args:aw AV):AS:=
 {start fn (.one (.ptr 0 0)::args)with boxes:=some (Ge 0 cs)::List.replicate (args.length+(fn.ntmps-(args.length+1))) none,io:=[.ptr 0 0]}
def Zc (E:Env)(Γ:dK)(an:An)(Λ:dY)(fn:Func)(rs:aw (Bool×FT))(t:FT)(args:aw AV):az (lE rs×t.ct.D):=
 match fn.body,args with
 |some c,.val true cs::xs=>if xs.length+1=fn.params.size/\cs.all (AC.yk true)=true then den E Γ an Λ c (Al fn cs xs) λe st=>
  match e with
  | .exit _=>none
  |_=>aa (aa (sC st E [(true,0)] fn.results.toList) (lC rs)) λr=>
   match st.io,st.boxes with
   |[.ptr 0 0],some cs'::_=>match Kn t (cs'.map AC.strip)with
    |some (x,[])=>some (r,x)
    |_=>none
   |_,_=>none
  else none
 |_,_=>none
def Q1 (E:Env)(Γ:dK)(an:An)(Λ:dY)(fn:Func)(t:FT)(args:aw AV):az t.ct.D:=
 match fn.body with
 |some c=>if args.length=fn.params.size then den E Γ an Λ c (start fn args) λe st=>
  match e with
  | .exit _=>none
  |_=>match fn.results.toList with
   |[.tmp i]=>match st.get i with
    | .val false [.ptr s 0]=>match (nth st.boxes s).getD none with
      |some cs=>if cs.all AC.HL=true then(match Kn t (cs.map AC.strip)with|some (x,[])=>some x|_=>none) else none
      |none=>none
    |_=>none
   |_=>none
  else none
 |none=>none
end Go.Dn
