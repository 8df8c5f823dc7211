import Derived.Test.YtjoicgadhgkphaaGreatDnData
/- An abstract, heap-free semantics of the model's code, for functions that treat their data by value: definitions. -/
namespace Go.Dn
inductive fR where
 |slot (s j:Nat)|box (s j:Nat)|io (j:Nat)
 deriving DecidableEq
inductive kH where
 |own (tag:Option Nat)
 |loc (ep:Nat) (pv:Option (fR×Nat))
 |arg (k:Bool)
 |nest (ep:Nat) (r:fR) (t:Nat) (e:CT) (i:Int) (off:Nat)
 |part (ep:Nat) (r:fR) (t:Nat) (lo:Int)
 |holed (tag:Option Nat) (i:Int) (ep:Option Nat)
inductive AC where
 |int (k:IntKind) (n:Int)|bool (b:Bool)|str (s:List UInt8)
 |sl (fl:kH) (e:CT) (xs:List e.D)
 |nilsl
 |ptr (s off:Nat)
 |elt (fl:kH) (e:CT) (x:e.D) (i:Int) (off:Nat)
 |fn (f:Nat)
 |un
 |bot
inductive AV where
 |val (agg:Bool) (cs:List AC)
 |tup (vs:List (Bool×List AC))
abbrev AV.one (c:AC):AV:=.val false [c]
abbrev AV.bot:AV:=.val false [.bot]
structure AS where
 slots:List AV
 boxes:List (Option (List AC))
 ep:Nat
 iss:List Bool
 io:List AC
structure Shape where
 agg:Bool
 ct:CT
 offs:List (Nat×Nat):=[]
structure An where
 mask:Nat→List Nat:=λ_=>[]
 merge:Nat→Option Nat:=λ_=>none
 mv:List Nat:=[]
 nest:List Nat:=[]
 mb:Nat→Option Nat:=λ_=>none
 sb:Nat→Option Nat:=λ_=>none
 late:List Nat:=[]
 peel:List Nat:=[]
 nils:List Nat:=[]
 fm:List Nat:=[]
 eb:Nat→Option Nat:=λ_=>none
 es:Nat→Option Nat:=λ_=>none
 er:Nat→Option Nat:=λ_=>none
 cut:List Nat:=[]
def cellsOf:(t:CT)→kH→t.D→List AC
 | .int k,_,n=>[.int k n]
 | .bool,_,b=>[.bool b]
 | .str,_,s=>[.str s]
 | .sl e,fl,xs=>[.sl fl e xs]
 | .pair a b,fl,x=>cellsOf a fl x.1++cellsOf b fl x.2
def eQ:(t:CT)→List AC→Option (t.D×List AC)
 | .int k,.int k' n::r=>if k'=k then some (n,r) else none
 | .bool,.bool b::r=>some (b,r)
 | .str,.str s::r=>some (s,r)
 | .sl e,.sl (.own _) e' xs::r=>if h:e'=e then some (h▸xs,r) else none
 | .sl _,.nilsl::r=>some ([],r)
 | .pair a b,cs=>(eQ a cs).bind λx=>(eQ b x.2).bind λy=>some ((x.1,y.1),y.2)
 |_,_=>none
def nth {α:Type}:List α→Nat→Option α
 |[],_=>none
 |a::_,0=>some a
 |_::l,n+1=>nth l n
def ew {α:Type}:List α→Nat→α→List α
 |[],_,_=>[]
 |_::l,0,v=>v::l
 |a::l,n+1,v=>a::ew l n v
def AS.get (st:AS)(i:Nat):AV:=(nth st.slots i).getD .bot
def AS.put (st:AS)(d:Option Nat)(v:AV):AS:=
 match d with
 |some d=>{st with slots:=ew st.slots d v}
 |none=>st
def yE (d j:Nat):Nat:=3*(4096*d+j)+2
def AS.eE (st:AS)(d:Option Nat)(j:Nat):Option Nat:=
 match d with
 |some d=>bif (nth st.iss d).getD true then none else bif Nat.ble 4096 j then none else some (yE d j)
 |none=>none
def AS.dg (st:AS)(d:Option Nat):AS:=
 match d with
 |some d=>{st with iss:=ew st.iss d true}
 |none=>st
def AS.kK (st:AS)(d:Option Nat)(e:CT)(xs:List e.D):AS:=
 (st.dg d).put d (.one (.sl (.own (st.eE d 0)) e xs))
def AC.borrow (ep:Nat)(rt:Option fR):AC→AC
 | .sl (.own tag) e xs=> .sl (.loc ep (match rt,tag with|some r,some t=>some (r,t)|_,_=>none)) e xs
 | .sl (.holed tag _ (some ep0)) e xs=> .sl (.loc ep0 (match rt,tag with|some r,some t=>some (r,t)|_,_=>none)) e xs
 | .sl (.holed _ _ none) _ _=> .bot
 |c=>c
def eJ (ep:Nat)(f:Nat→fR):Nat→List AC→List AC
 |_,[]=>[]
 |j,c::cs=>c.borrow ep (some (f j))::eJ ep f (j+1) cs
def aH (ep:Nat)(cs:List AC):List AC:=cs.map (AC.borrow ep none)
def AV.borrow (ep:Nat)(f:Nat→fR):AV→AV
 | .val g cs=> .val g (eJ ep f 0 cs)
 | .tup vs=> .tup (vs.map λx=>(x.1,aH ep x.2))
def AV.aH (ep:Nat):AV→AV
 | .val g cs=> .val g (Dn.aH ep cs)
 | .tup vs=> .tup (vs.map λx=>(x.1,Dn.aH ep x.2))
def ofConst:Value→AV
 | .int k n=> .one (.int k n)
 | .bool b=> .one (.bool b)
 | .string s=> .one (.str s.data.toList)
 | .slice none 0 0=> .one .nilsl
 |_=> .bot
def AS.rd (st:AS):Operand→AV
 | .tmp t=>(st.get t).borrow st.ep (.slot t)
 | .const v=>ofConst v
 | .func f=> .one (.fn f)
 | .global _=> .bot
def AS.take (st:AS):Operand→AV×AS
 | .tmp t=>(st.get t,st.put (some t) ((st.get t).aH st.ep))
 |x=>(st.rd x,st)
def AS.cW (st:AS)(s:Nat)(b:Option (List AC)):AS:={st with boxes:=ew st.boxes s b}
def AC.asArg (ep:Nat):AC→AC
 | .int k n=> .int k n
 | .bool b=> .bool b
 | .str s=> .str s
 | .sl (.own _) e xs=> .sl (.arg false) e xs
 | .sl (.loc ep' _) e xs=>if ep'==ep then .sl (.arg false) e xs else .bot
 | .sl (.arg _) e xs=> .sl (.arg false) e xs
 | .nilsl=> .nilsl
 | .fn f=> .fn f
 |_=> .bot
def AV.asArg (ep:Nat):AV→AV
 | .val g cs=> .val g (cs.map (AC.asArg ep))
 | .tup _=> .bot
def AC.uU (ep:Nat)(tag:Option Nat):AC→AC
 | .sl (.own _) e xs=> .sl (.own tag) e xs
 | .sl (.arg _) e xs=> .sl (.loc ep none) e xs
 | .sl (.loc _ _) _ _=> .bot
 | .sl (.nest ..) _ _=> .bot
 | .sl (.part ..) _ _=> .bot
 | .sl (.holed _ i _) e xs=> .sl (.holed none i none) e xs
 | .ptr _ _=> .bot
 | .elt _ _ _ _ _=> .bot
 |c=>c
def yq (ep:Nat)(mk:Nat→Option Nat):Nat→List AC→List AC
 |_,[]=>[]
 |j,c::cs=>c.uU ep (mk j)::yq ep mk (j+1) cs
def KW (ep:Nat)(mk:Nat→Option Nat):Nat→List (Bool×List AC)→List (Bool×List AC)
 |_,[]=>[]
 |j,t::ts=>(t.1,yq ep mk j t.2)::KW ep mk (j+t.2.length) ts
def AV.uU (ep:Nat)(mk:Nat→Option Nat):AV→AV
 | .val g cs=> .val g (yq ep mk 0 cs)
 | .tup vs=> .tup (KW ep mk 0 vs)
def AC.xJ:AC→Bool
 | .sl (.arg _) _ _=>true
 | .int ..=>true
 | .bool _=>true
 | .str _=>true
 | .fn _=>true
 |_=>false
structure aN where
 R:Type
 fn:List AV→Option R
 av:R→AV
 io:Bool:=false
 back:R→List AC:=λ_=>[]
 bx:Bool:=false
 pr:Bool:=false
 sel:R→Bool:=λ_=>true
 alt:R→AV:=λ_=> .val false [.bot]
 cur:Bool:=false
 hcur:cur=true→∀y,(back y).all AC.xJ=true:=by intro h;cases h
def aN.res (F:aN)(y:F.R):AV:=cond (F.sel y) (F.av y) (F.alt y)
abbrev bN:=Nat→aN
def aN.dead:aN:={R:=Unit,fn:=λ_=>none,av:=λ_=> .val false [.bot]}
def bN.calm (Γ:bN):bN:=λf=>bif (Γ f).io||(Γ f).bx||(Γ f).pr then aN.dead else Γ f
def bN.xF (Γ:bN):bN:=λf=>bif (Γ f).io||(Γ f).pr||((Γ f).bx&& !(Γ f).cur) then aN.dead else Γ f
def yd {R:Type}(op:BinOp)(k:IntKind)(x y:Int)(K:AC→Option R):Option R:=
 match op with
 | .add=>K (.int k (k.wrap (x+y)))
 | .sub=>K (.int k (k.wrap (x-y)))
 | .mul=>K (.int k (k.wrap (x*y)))
 | .quo=>if y=0 then none else K (.int k (k.wrap (x.tdiv y)))
 | .rem=>if y=0 then none else K (.int k (x.tmod y))
 | .and=>K (.int k (k.wrap (BitVec.ofInt k.bits x&&&BitVec.ofInt k.bits y).toNat))
 | .or=>K (.int k (k.wrap (BitVec.ofInt k.bits x|||BitVec.ofInt k.bits y).toNat))
 | .xor=>K (.int k (k.wrap (BitVec.ofInt k.bits x^^^BitVec.ofInt k.bits y).toNat))
 | .andNot=>K (.int k (k.wrap (BitVec.ofInt k.bits x&&&~~~ BitVec.ofInt k.bits y).toNat))
 | .eql=>K (.bool (x==y))
 | .neq=>K (.bool (x !=y))
 | .lss=>K (.bool (decide (x<y)))
 | .leq=>K (.bool (decide (x≤y)))
 | .gtr=>K (.bool (decide (x>y)))
 | .geq=>K (.bool (decide (x≥y)))
 |_=>none
def Ac {R:Type}(op:BinOp)(x y:List UInt8)(K:AC→Option R):Option R:=
 match op with
 | .add=>room (x.length+y.length) (K (.str (x++y)))
 | .eql=>K (.bool (x==y))
 | .neq=>K (.bool (!(x==y)))
 | .lss=>K (.bool (Op.bytesLess x y))
 | .leq=>K (.bool (Op.bytesLess x y||x==y))
 | .gtr=>K (.bool (!(Op.bytesLess x y||x==y)))
 | .geq=>K (.bool (!(Op.bytesLess x y)))
 |_=>none
def nU:List AC→List AC→Option Bool
 |[],[]=>some true
 | .int k x::r,.int k' y::r'=>if k=k' then(nU r r').bind λb=>some ((x==y)&&b) else none
 | .bool x::r,.bool y::r'=>(nU r r').bind λb=>some ((x==y)&&b)
 | .str x::r,.str y::r'=>(nU r r').bind λb=>some ((x==y)&&b)
 |_,_=>none
def wF {R:Type}(op:BinOp)(x y:AV)(K:AC→Option R):Option R:=
 match x,y with
 | .val false [.int k a],.val false [.int k' b]=>
   match op with
   | .shl=>if b<0 then none else K (.int k (k.wrap (a*2^(min b.toNat k.bits))))
   | .shr=>if b<0 then none else K (.int k (a.fdiv (2^(min b.toNat k.bits))))
   |_=>if k=k' then yd op k a b K else none
 | .val false [.str a],.val false [.str b]=>Ac op a b K
 | .val false [.bool a],.val false [.bool b]=>
   match op with
   | .eql=>K (.bool (a==b))
   | .neq=>K (.bool (!(a==b)))
   |_=>none
 | .val true xs,.val true ys=>
   match op with
   | .eql=>aa (nU xs ys) λb=>K (.bool b)
   | .neq=>aa (nU xs ys) λb=>K (.bool (!b))
   |_=>none
 |_,_=>none
def Rj {R:Type}(op:UnOp)(x:AV)(K:AC→Option R):Option R:=
 match op,x with
 | .not,.val false [.bool b]=>K (.bool (!b))
 | .neg,.val false [.int k n]=>K (.int k (k.wrap (0-n)))
 | .xor,.val false [.int k n]=>yd .xor k (if k.signed then-1 else k.max) n K
 |_,_=>none
def bR (cs:List AC)(off:Nat)(vs:List AC):List AC:=cs.take off++vs++cs.drop (off+vs.length)
def AS.c9 (st:AS):fR→Option AC
 | .slot s j=>match st.get s with| .val _ cs=>nth cs j|_=>none
 | .box s j=>((nth st.boxes s).getD none).bind λcs=>nth cs j
 | .io j=>nth st.io j
def AS.dc (st:AS)(r:fR)(c:AC):AS:=
 match r with
 | .slot s j=>match st.get s with| .val g cs=>st.put (some s) (.val g (ew cs j c))|_=>st
 | .box s j=>match (nth st.boxes s).getD none with|some cs=>st.cW s (some (ew cs j c))|none=>st
 | .io j=>{st with io:=ew st.io j c}
def AS.fresh (st:AS):AC→AC
 | .sl (.loc ep (some (r,t))) e xs=>
   bif ep==st.ep then .sl (.loc ep (some (r,t))) e xs else
    match st.c9 r with
    |some (.sl (.own (some t')) e' ys)=>if h:e'=e then bif t'==t then .sl (.loc st.ep (some (r,t))) e (h▸ys) else .sl (.loc ep (some (r,t))) e xs else .sl (.loc ep (some (r,t))) e xs
    |_=> .sl (.loc ep (some (r,t))) e xs
 |c=>c
def AV.fresh (st:AS):AV→AV
 | .val g cs=> .val g (cs.map st.fresh)
 | .tup vs=> .tup vs
def AC.now (ep:Nat):AC→Bool
 | .sl (.loc ep' (some _)) _ _=>ep'==ep
 |_=>true
def AS.kt {R:Type}(st:AS)(r:fR)(t:Nat)(e:CT)(i:Int)(off:Nat)(vs:List AC)(K:AS→Option R):Option R:=
 match st.c9 r with
 |some (.sl (.own (some t')) e' xs)=>
  if h:e'=e then
   if t'=t then
    aa (idx (h▸xs:List e.D) i) λx=>
     match eQ e (bR (cellsOf e (.own none) x) off vs)with
     |some (x',[])=>K {st.dc r (.sl (.own (some t')) e ((h▸xs:List e.D).set i.toNat x'))with ep:=st.ep+1}
     |_=>none
   else none
  else none
 |some (.sl (.holed (some t') i' _) e' xs)=>
  if h:e'=e then
   if t'=t∧off=0 then
    aa (Di (h▸xs:List e.D) i' i) λ_=>
     match eQ e vs with
     |some (x',[])=>K {st.dc r (.sl (.own (some t')) e ((h▸xs:List e.D).set i.toNat x'))with ep:=st.ep+1}
     |_=>none
   else none
  else none
 |_=>none
def AV.cells:AV→List AC
 | .val _ cs=>cs
 | .tup _=>[.bot]
def da (st:AS):List Operand→List AV×AS
 |[]=>([],st)
 |x::xs=>let (v,st1):=st.take x;let (vs,st2):=da st1 xs;(v::vs,st2)
def tN (e:CT):List (List AC)→Option (List e.D)
 |[]=>some []
 |cs::r=>match eQ e cs with
  |some (x,[])=>(tN e r).bind λxs=>some (x::xs)
  |_=>none
def yb:Nat→List (Nat×Operand)→Bool
 |_,[]=>true
 |n,(i,_)::r=>i==n&&yb (n+1) r
def AC.yy:AC→Bool
 | .bot=>false
 | .un=>false
 |_=>true
def pa (offs:List (Nat×Nat))(zero:List AC):List (Nat×List AC)→Option (List AC)
 |[]=>some zero
 |(i,cs)::r=>match nth offs i with
  |some (off,n)=>if cs.length=n∧off+n≤zero.length∧cs.all AC.yy then pa offs (bR zero off cs) r else none
  |none=>none
inductive LK where
 |int|bool|str
 deriving DecidableEq
structure Env where
 ty:List (Nat×Shape)
 eqs:List (Nat×List LK):=[]
 fts:List ((Nat×Nat)×Nat):=[]
def Eh (l:List (Nat×List LK))(t:Nat):Option (List LK):=
 match l with
 |[]=>none
 |(u,sh)::r=>bif u==t then some sh else Eh r t
def fits:List LK→List AC→Bool
 |[],[]=>true
 | .int::ls,.int _ _::r=>fits ls r
 | .bool::ls,.bool _::r=>fits ls r
 | .str::ls,.str _::r=>fits ls r
 |_,_=>false
def Io (l:List ((Nat×Nat)×Nat))(S f:Nat):Option Nat:=
 match l with
 |[]=>none
 |((u,k),T)::r=>bif u==S&&k==f then some T else Io r S f
def fb (l:List (Nat×Shape))(t:Nat):Option Shape:=
 match l with
 |[]=>none
 |(u,sh)::r=>bif u==t then some sh else fb r t
def Env.sl (E:Env)(t:Nat):Option CT:=
 match fb E.ty t with
 |some ⟨false,.sl e,_⟩=>some e
 |_=>none
def Env.str (E:Env)(t:Nat):Bool:=
 match fb E.ty t with
 |some ⟨false,.str,_⟩=>true
 |_=>false
def Env.bool (E:Env)(t:Nat):Bool:=
 match fb E.ty t with
 |some ⟨false,.bool,_⟩=>true
 |_=>false
def Env.bytes (E:Env)(t:Nat):Bool:=
 match fb E.ty t with
 |some ⟨false,.sl (.int .u8),[(te,_)]⟩=>match fb E.ty te with|some ⟨false,.int .u8,_⟩=>true|_=>false
 |_=>false
def kH.live (ep:Nat):kH→Bool
 | .loc ep' _=>ep'==ep
 | .arg _=>true
 | .own _=>false
 | .nest ..=>false
 | .part ..=>false
 | .holed ..=>false
def kH.D3 (ep:Nat)(flat:Bool):kH→Bool
 | .loc ep' _=>ep'==ep&&flat
 | .arg _=>flat
 | .own _=>true
 | .nest ..=>false
 | .part ..=>false
 | .holed ..=>false
def kH.bare:kH→kH
 | .loc ep _=> .loc ep none
 |f=>f
def AC.dR:AC→Bool
 | .int _ _=>true
 | .bool _=>true
 | .str _=>true
 | .fn _=>true
 |_=>false
def tm:Operand→List Nat
 | .tmp t=>[t]
 |_=>[]
def DJ (l:List Operand):List Nat:=l.flatMap tm
def vQ (an:An)(o:Oper):Bool:=
 match o.dst with
 |some d=>an.mv.contains d&&(an.mb d).isNone
 |none=>false
def abQ (an:An)(o:Oper):Bool:=
 match o.dst with
 |some d=>an.nils.contains d
 |none=>false
def rR (an:An)(o:Oper):Bool:=
 match o.op with
 | .assign (.tmp s)=>an.late.contains s
 | .store _ _ (.tmp s)=>an.late.contains s
 |_=>false
def tmO:Option Operand→List Nat
 |some x=>tm x
 |none=>[]
def cm (o:Oper):List Nat:=
 match o.op with
 | .move x=>tm x
 | .assign x=>tm x
 | .pick c a b=>tm c++tm a++tm b
 | .box _ x=>tm x
 | .load _ p=>tm p
 | .store _ p x=>tm p++tm x
 | .nilCheck x=>tm x
 | .binOp _ _ x y _=>tm x++tm y
 | .unOp _ _ x=>tm x
 | .fieldAddr _ p _=>tm p
 | .indexAddr _ x i=>tm x++tm i
 | .index _ x i=>tm x++tm i
 | .build _ parts=>DJ (parts.toList.map (·.2))
 | .buildSlice _ _ parts=>DJ (parts.toList.map (·.2))
 | .makeSlice _ n c=>tm n++tm c
 | .slice _ x lo hi none=>tm x++tmO lo++tmO hi
 | .convert _ _ x=>tm x
 | .extract (.tmp t) _=>[t]
 | .call {callee:=.builtin _,args,..}=>DJ args.toList
 | .call {callee:=.value f,args,..}=>tm f++DJ args.toList
 |_=>[]
def vP (an:An)(o:Oper):Bool:=
 match o.op with
 | .move _=>match o.dst with|some d=>an.mv.contains d|none=>false
 | .assign _=>true
 | .box ..=>true
 | .build ..=>true
 | .buildSlice ..=>true
 | .store ..=>true
 | .extract ..=>match o.dst with|some d=>an.mv.contains d|none=>false
 | .call {callee:=.builtin .append,..}=>true
 |_=>false
def vO (an:An)(o:Oper):Bool:=
 match o.op,o.dst,o.guard with
 | .load _ (.tmp q),some d,none=>an.mv.contains d&&(an.mb d).isNone&&(an.eb q).isSome
 |_,_,_=>false
def sZ (an:An)(o:Oper):Bool:=
 match o.op,o.dst,o.guard with
 | .load _ (.tmp q),some d,none=> !an.mv.contains d&& !an.fm.contains d&&(an.sb q).isSome
 |_,_,_=>false
def vR (an:An)(o:Oper):List Nat:=
 match o.op with
 | .alloc _=>o.dst.toList
 | .box ..=>o.dst.toList
 | .load _ p=>match o.dst with|some d=>bif an.mv.contains d then(an.mb d).toList++(bif vO an o then(match p with| .tmp q=>(an.eb q).toList|_=>[]) else []) else []|none=>[]
 | .store _ (.tmp p) _=>(an.sb p).toList
 | .call {callee:=.value _,args,..}=>(match args.toList with| .tmp q::_=>(an.sb q).toList|_=>[])
 |_=>[]
def jm (an:An)(o:Oper):Bool:=
 match o.op with
 | .move _=>true
 | .load ..=>(match o.dst with|some d=> !an.mv.contains d||(an.mb d).isSome|none=>false)||vO an o
 | .extract (.tmp _) _=>true
 | .store _ (.tmp p) _=>(an.sb p).isSome&& !rR an o
 | .assign _=> !rR an o
 | .pick ..| .alloc _| .box ..| .nilCheck _| .binOp ..| .unOp ..| .fieldAddr ..| .indexAddr ..| .index ..| .build ..| .buildSlice ..| .makeSlice ..| .convert ..=>true
 | .slice _ _ _ _ none=> !vQ an o
 | .call {callee:=.builtin .len,..}| .call {callee:=.builtin .min,..}| .call {callee:=.builtin .max,..}| .call {callee:=.builtin .append,..}=>true
 | .call {callee:=.value _,..}=>true
 |_=>false
def writes (an:An)(o:Oper):List Nat:=o.dst.toList++(bif vP an o then cm o else [])
def AV.now (ep:Nat):AV→Bool
 | .val _ cs=>cs.all (AC.now ep)
 | .tup _=>true
def AC.gD:AC→Bool
 | .int ..=>true
 | .bool _=>true
 | .str _=>true
 | .fn _=>true
 | .ptr ..=>true
 |_=>false
def AV.gD:AV→Bool
 | .val _ cs=>cs.all AC.gD
 | .tup _=>false
def vp (E:Env)(T:TypeId)(st:AS)(s off:Nat):Bool:=
 match fb E.ty T,(nth st.boxes s).getD none with
 |some sh,some cs=>((cs.drop off).take sh.ct.size).all AC.gD
 |_,_=>false
def Jy (an:An)(o:Oper):Bool:=match o.dst with|some d=>an.fm.contains d|none=>false
def tD (an:An)(o:Oper):Bool:=
 match o.op,o.dst,o.guard with
 | .load _ (.tmp _),some d,none=>an.mv.contains d&&(an.mb d).isSome
 |_,_,_=>false
def B4 (an:An)(o:Oper):Bool:=
 match o.op,o.dst,o.guard with
 | .load _ (.tmp _),some d,none=> !an.mv.contains d&&an.fm.contains d
 |_,_,_=>false
def Oi (an:An)(o:Oper):List Nat:=
 match o.op,o.dst with
 | .load ..,some d=>(an.er d).toList
 | .call {callee:=.value _,..},some d=>(an.er d).toList
 |_,_=>[]
def AC.PN (l:List Nat):AC→Bool
 | .sl (.loc _ (some (.slot b _,_))) _ _=>l.contains b
 | .sl (.loc _ _) _ _=>false
 |_=>true
def yv (l:List Nat)(st:AS):Operand→Bool
 | .tmp t=>(match st.get t with| .val _ cs=>cs.all (AC.PN l)| .tup _=>true)
 |_=>true
def OF (an:An)(X l:List Nat)(st:AS)(xs:List Operand)(q:Nat):AV→Bool
 | .val false [.ptr s _]=> !X.contains s&&an.sb q==some s&&(match (nth st.boxes s).getD none with|some cs=>cs.all AC.xJ|none=>true)&&xs.all (yv l st)
 |_=>true
def AV.Ml:AV→Bool
 | .val false [.ptr _ _]=>false
 |_=>true
def m9 (an:An)(X l:List Nat)(st:AS):List Operand→Bool
 | .tmp q::xs=>OF an X l st xs q (st.rd (.tmp q))
 |x::_=>(st.rd x).Ml
 |[]=>true
def cf (E:Env)(an:An)(X:List Nat)(o:Oper)(st:AS):Bool:=
 match o.op with
 | .move x=> !Jy an o||(st.rd x).gD
 | .indexAddr _ x _=>(st.rd x).now st.ep||(match st.rd x with| .val _ [.sl (.loc _ (some (.box b _,_))) _ _]=> !X.contains b|_=>false)
 | .slice _ x _ _ none=>(st.rd x).now st.ep
 | .call {callee:=.value _,args,..}=>m9 an X (Oi an o) st args.toList&&args.toList.all λx=>(st.rd x).now st.ep
 | .load T p=>match st.rd p with
   | .val false [.ptr s off]=> !X.contains s&&(match o.dst with|some d=> !an.mv.contains d||an.mb d==some s|none=>true)&&(!Jy an o||vp E T st s off)
   | .val false [.elt fl _ _ _ _]=>(fl.live st.ep||(match fl with
     | .loc _ (some (.slot b _,_))=>(Oi an o).contains b
     | .loc _ (some (.box b _,_))=> !X.contains b
     |_=>false))&& !(Jy an o||tD an o)&& !sZ an o&&(!vO an o||(match p,fl with
     | .tmp q,.loc _ (some (.box b _,_))=>an.eb q==some b&& !X.contains b
     |_,_=>false))
   |_=> !(Jy an o||tD an o)
 | .store _ (.tmp p) _=>((an.sb p).isNone&&(an.eb p).isNone&&(an.es p).isNone)||(match st.rd (.tmp p)with
   | .val false [.ptr s _]=> !X.contains s&&an.sb p==some s
   | .val false [.elt (.loc _ (some (.box b _,_))) _ _ _ _]=>an.eb p==some b&&(an.sb p).isNone&&(an.es p).isNone
   | .val false [.elt (.loc _ (some (.slot b _,_))) _ _ _ _]=>an.es p==some b&&(an.sb p).isNone&&(an.eb p).isNone
   |_=>false)
 | .extract (.tmp t) i=>match st.get t with
   | .tup vs=>match nth vs i with|some x=>x.2.all AC.dR||(match o.dst with|some d=>an.mv.contains d|none=>false)|none=>true
   |_=>true
 |_=>true
def vq (an:An)(ops:List Oper)(o:Oper):List Nat:=
 (match o.guard with
 |some (j,_)=>((nth ops j).bind (·.dst)).toList
 |none=>[])++Oi an o
def meets (a b:List Nat):Bool:=a.any λx=>b.contains x
def JF (an:An)(ops:List Oper)(X Y:List Nat)(o p:Oper):Bool:=
 jm an o&&jm an p&& !meets (writes an o) (cm p++vq an ops p++writes an p)&& !meets (writes an p) (cm o++vq an ops o)&&
 (vR an o).all (λd=>Y.contains d)&&(vR an p).all (λd=>X.contains d)&& !meets (vR an o) (p.dst.toList++vR an p)&& !meets (vR an p) o.dst.toList
def J3 (o p:Oper):Bool:=
 match o.op,p.op,o.dst,p.dst,o.guard,p.guard with
 | .extract (.tmp t) i,.extract (.tmp t') j,some d,some d',none,none=>t==t'&& !(i==j)&& !(d==d')&& !(d==t)&& !(d'==t)
 |_,_,_,_,_,_=>false
def JZ (an:An)(o p:Oper):Bool:=
 match p.op,p.dst,p.guard with
 | .store _ (.tmp q) (.tmp x),none,none=>((an.eb q).isSome&&(an.es q).isNone||(match an.es q with|some b=>(an.eb q).isNone&& !(b==x)&& !(b==q)&& !meets [b] (o.dst.toList++cm o)|none=>false))&&(an.sb q).isNone&& !rR an p&&(match o.op,o.dst,o.guard with
   | .move (.tmp t),some d,none=> !an.mv.contains d&&an.fm.contains d&& !(d==q)&& !(d==x)&& !(t==x)&& !(t==q)&& !(d==t)
   | .extract (.tmp t) _,some d,none=> !(d==q)&& !(d==x)&& !(t==x)&& !(t==q)&& !(d==t)
   |_,_,_=>false)
 |_,_,_=>false
def Kw (an:An)(o p:Oper):Bool:=
 (tD an o&&B4 an p||B4 an o&&tD an p)&& !meets o.dst.toList (p.dst.toList++cm p)&& !meets p.dst.toList (cm o)
def JP (an:An)(o p:Oper):Bool:=sZ an o&&vO an p&& !meets o.dst.toList (p.dst.toList++cm p)&& !meets p.dst.toList (cm o)
def PF (an:An)(o p:Oper):Bool:=J3 o p||JZ an o p||Kw an o p||JP an o p
def AY (an:An)(ops:List Oper)(X Y:List Nat)(o p:Oper):Bool:=PF an o p||JF an ops X Y o p
def s6 (o:Oper):List Nat:=(o.after.toList.filter (λe=>Region.binds .any e)).map (·.on)
def GU (a b:List Nat):List Nat:=a.foldl (λs x=>bif s.contains x then s else x::s) b
def G0:List Oper→List (List Nat)→List (List Nat)
 |[],acc=>acc
 |o::r,acc=>G0 r (acc++[(s6 o).foldl (λs j=>GU (j::(nth acc j).getD []) s) []])
def NK (A:List (List Nat))(i k:Nat):Bool:=((nth A i).getD []).contains k
def Lt (an:An)(A:List (List Nat))(i:Nat)(fl pl:Bool):Nat→List Oper→List Nat
 |_,[]=>[]
 |k,o::r=>(bif !NK A i k&& !NK A k i&& !(k==i)&& !(fl&&tD an o)&& !(pl&&vO an o) then vR an o else [])++Lt an A i fl pl (k+1) r
def mG (an:An)(A:List (List Nat))(i k:Nat)(ops:List Oper):List Nat:=Lt an A i (match nth ops i with|some o=>B4 an o|none=>false) (match nth ops i with|some o=>sZ an o|none=>false) k ops
def Cy (an:An)(ops:List Oper)(A:List (List Nat))(i:Nat)(oi:Oper):Nat→List Oper→Bool
 |_,[]=>true
 |j,oj::r=>bif Nat.ble i j then true else(NK A i j||AY an ops (mG an A j 0 ops) (mG an A i 0 ops) oj oi)&&Cy an ops A i oi (j+1) r
def Gl (an:An)(ops:List Oper)(A:List (List Nat)):Nat→List Oper→Bool
 |_,[]=>true
 |i,oi::r=>(s6 oi).all (λk=>Nat.blt k i)&&Cy an ops A i oi 0 ops&&Gl an ops A (i+1) r
def HA (an:An)(ops:List Oper):Bool:=Gl an ops (G0 ops []) 0 ops
inductive Ex where
 |normal|ret|exit (id:Nat)
inductive FK where
 |own (tag:Option Nat)|arg|arg0|loc|lio (j t:Nat)|nil
def FK.flag:FK→kH
 | .own t=> .own t
 | .arg=> .arg false
 | .arg0=> .arg true
 | .loc=> .loc 0 none
 | .lio j t=> .loc 0 (some (.io j,t))
 | .nil=> .arg false
def FK.isNil:FK→Bool
 | .nil=>true
 |_=>false
inductive FT where
 |int (k:IntKind)|bool|str|sl (fl:FK) (e:CT)|pair (a b:FT)
abbrev FT.ct:FT→CT
 | .int k=> .int k
 | .bool=> .bool
 | .str=> .str
 | .sl _ e=> .sl e
 | .pair a b=> .pair a.ct b.ct
def fw:(t:FT)→t.ct.D→List AC
 | .int k,n=>[.int k n]
 | .bool,b=>[.bool b]
 | .str,s=>[.str s]
 | .sl fl e,xs=>[bif fl.isNil then .nilsl else .sl fl.flag e xs]
 | .pair a b,x=>fw a x.1++fw b x.2
def FK.fits:FK→kH→Bool
 | .own t,.own t'=>t==t'
 | .arg,.arg k=> !k
 | .arg0,.arg k=>k
 | .loc,.loc 0 none=>true
 | .lio j t,.loc 0 (some (.io j',t'))=>j==j'&&t==t'
 |_,_=>false
def AE:(t:FT)→List AC→Option (t.ct.D×List AC)
 | .int k,.int k' n::r=>if k'=k then some (n,r) else none
 | .bool,.bool b::r=>some (b,r)
 | .str,.str s::r=>some (s,r)
 | .sl fl e,.sl fl' e' xs::r=>if h:e'=e then bif fl.fits fl' then some (h▸xs,r) else none else none
 | .sl fl _,.nilsl::r=>bif fl.isNil then some ([],r) else none
 | .pair a b,cs=>(AE a cs).bind λx=>(AE b x.2).bind λy=>some ((x.1,y.1),y.2)
 |_,_=>none
inductive PD where
 |bot|ptr (s off:Nat)|fn (f:Nat)|data (g:Bool) (t:FT)
inductive Xc where
 |none|some (t:FT)|ptr
structure SD where
 slots:List PD
 boxes:List (Option FT)
 io:Xc:=.none
abbrev zC:List PD→Type
 |[]=>Unit
 | .data _ t::r=>t.ct.D×zC r
 |_::r=>zC r
abbrev yS:List (Option FT)→Type
 |[]=>Unit
 |some t::r=>t.ct.D×yS r
 |none::r=>yS r
abbrev ioD:Xc→Type
 | .none=>Unit
 | .some t=>t.ct.D
 | .ptr=>Unit
abbrev SD.D (d:SD):Type:=zC d.slots×yS d.boxes×ioD d.io
def mI:(l:List PD)→zC l→List AV
 |[],_=>[]
 | .data g t::r,x=> .val g (fw t x.1)::mI r x.2
 | .bot::r,x=> .bot::mI r x
 | .ptr s off::r,x=> .one (.ptr s off)::mI r x
 | .fn f::r,x=> .one (.fn f)::mI r x
def tH:(l:List (Option FT))→yS l→List (Option (List AC))
 |[],_=>[]
 |some t::r,x=>some (fw t x.1)::tH r x.2
 |none::r,x=>none::tH r x
def OK:(o:Xc)→ioD o→List AC
 | .none,_=>[]
 | .some t,x=>fw t x
 | .ptr,_=>[.ptr 0 0]
def SD.enc (d:SD)(x:d.D):AS:=⟨mI d.slots x.1,tH d.boxes x.2.1,0,List.replicate d.slots.length false,OK d.io x.2.2⟩
def AV.Md:AV→Bool
 | .val false [.bot]=>true
 |_=>false
def AV.Me (s off:Nat):AV→Bool
 | .val false [.ptr s' off']=>s==s'&&off==off'
 |_=>false
def AV.Nm (f:Nat):AV→Bool
 | .val false [.fn f']=>f==f'
 |_=>false
def fT:(l:List PD)→List AV→Option (zC l)
 |[],[]=>some ()
 | .data g t::r,.val g' cs::vs=>bif g==g' then(match AE t cs with|some (x,[])=>(fT r vs).bind λy=>some (x,y)|_=>none) else none
 | .bot::r,v::vs=>bif v.Md then fT r vs else none
 | .ptr s off::r,v::vs=>bif v.Me s off then fT r vs else none
 | .fn f::r,v::vs=>bif v.Nm f then fT r vs else none
 |_,_=>none
def lg:(l:List (Option FT))→List (Option (List AC))→Option (yS l)
 |[],[]=>some ()
 |some t::r,some cs::bs=>match AE t cs with|some (x,[])=>(lg r bs).bind λy=>some (x,y)|_=>none
 |none::r,none::bs=>lg r bs
 |_,_=>none
def Ks:List AC→Bool
 |[.ptr 0 0]=>true
 |_=>false
def Hy:(o:Xc)→List AC→Option (ioD o)
 | .none,[]=>some ()
 | .some t,cs=>match AE t cs with|some (x,[])=>some x|_=>none
 | .ptr,cs=>bif Ks cs then some () else none
 |_,_=>none
def SD.dec (d:SD)(st:AS):Option d.D:=
 bif st.ep==0&&st.iss==List.replicate d.slots.length false then
  (fT d.slots st.slots).bind λx=>(lg d.boxes st.boxes).bind λy=>(Hy d.io st.io).bind λz=>some (x,y,z)
 else none
structure bU where
 sd:SD
 run:{R:Type}→sd.D→(Ex→AS→Option R)→Option R
abbrev cl:=Nat→bU
def bU.go {R:Type}(l:bU)(st:AS)(K:Ex→AS→Option R):Option R:=aa (l.sd.dec st) λx=>l.run x K
def bU.none:bU:=⟨⟨[],[],.none⟩,λ_ _=>Option.none⟩
def cl.nil:cl:=λ_=>bU.none
def cl.add (Λ:cl)(k:Nat)(l:bU):cl:=λj=>bif j==k then l else Λ j
section
variable {R:Type} (E:Env) (Γ:bN) (an:An)
def tR (o:Oper)(x:Operand)(st:AS)(K:AS→Option R):Option R:=
 match o.dst with
 |some d=>if an.mv.contains d then K ((st.take x).2.put o.dst (st.take x).1) else K (st.put o.dst (st.rd x))
 |none=>none
def nP (o:Oper)(x:Operand)(st:AS)(K:AS→Option R):Option R:=
 match st.take x with
 |(.val false [.nilsl],_)=>match E.sl o.type with
  |some e=>K (st.put o.dst (.one (bif abQ an o then .nilsl else .sl (.own none) e [])))
  |none=>none
 |(v,st')=>K (st'.put o.dst v)
def vC (o:Oper)(c a b:Operand)(st:AS)(K:AS→Option R):Option R:=
 match st.rd c with
 | .val false [.bool t]=>match st.rd a,st.rd b with
   | .val false [.bool x],.val false [.bool y]=>K (st.put o.dst (.one (.bool (cond t x y))))
   |va,vb=>cond t (K (st.put o.dst va)) (K (st.put o.dst vb))
 |_=>none
def tZ (o:Oper)(T:TypeId)(st:AS)(K:AS→Option R):Option R:=
 match o.dst,fb E.ty T with
 |some d,some sh=>match nth st.boxes d with
  |some none=>K ((st.cW d (some (cellsOf sh.ct (.own none) sh.ct.zero))).put o.dst (.one (.ptr d 0)))
  |_=>none
 |_,_=>none
def EZ (o:Oper)(x:Operand)(st:AS)(K:AS→Option R):Option R:=
 match o.dst,st.take x with
 |some d,(.val _ cs,st')=>
  match nth st'.boxes d with
  |some none=>if cs.all AC.yy then K ((st'.cW d (some cs)).put o.dst (.one (.ptr d 0))) else none
  |_=>none
 |_,_=>none
def Gf (ep:Nat)(r:fR)(t:Nat)(e:CT)(i:Int):Nat→List AC→List AC
 |_,[]=>[]
 |p,.sl _ e' xs::cs=> .sl (.nest ep r t e i p) e' xs::Gf ep r t e i (p+1) cs
 |p,c::cs=>c::Gf ep r t e i (p+1) cs
def Pv (o:Oper)(ep:Nat)(fl:kH)(e:CT)(i:Int)(off:Nat)(cs:List AC):List AC:=
 match fl,o.dst with
 | .loc _ (some (r,t)),some d=>bif an.nest.contains d then Gf ep r t e i off cs else cs
 |_,_=>cs
def uN (o:Oper)(sh:Shape)(fl:kH)(e:CT)(i:Int)(off:Nat)(st:AS)(K:AS→Option R):Option R:=
 match fl with
 | .loc _ (some (r,t))=>
   match st.c9 r with
   |some (.sl (.own (some t')) e' ys)=>
    if h:e'=e then
     if t'=t∧off+sh.ct.size≤e.size then
      aa (idx (h▸ys:List e.D) i) λy=>K (st.put o.dst (.val sh.agg (((cellsOf e (.loc st.ep none) y).drop off).take sh.ct.size)))
     else none
    else none
   |_=>none
 |_=>none
def qt (o:Oper)(sh:Shape)(fl:kH)(e:CT)(i:Int)(off:Nat)(st:AS)(K:AS→Option R):Option R:=
 match fl with
 | .loc _ (some (r,t))=>
   match st.c9 r with
   |some (.sl (.own (some t')) e' ys)=>
    if h:e'=e then
     if t'=t∧off=0∧sh.ct=e then
      aa (idx (h▸ys:List e.D) i) λy=>K ((st.dc r (.sl (.holed (some t) i (some st.ep)) e (h▸ys))).put o.dst (.val sh.agg (cellsOf e (.own none) y)))
     else none
    else none
   |_=>none
 |_=>none
def kj (o:Oper)(T:TypeId)(p:Operand)(st:AS)(K:AS→Option R):Option R:=
 match fb E.ty T,st.rd p with
 |some sh,.val false [.ptr s off]=>
  match (nth st.boxes s).getD none with
  |some cs=>
   if off+sh.ct.size≤cs.length then
    match o.dst with
    |some d=>
     if an.mv.contains d then
      K ((st.cW s (some (bR cs off (aH st.ep ((cs.drop off).take sh.ct.size))))).put o.dst (.val sh.agg ((cs.drop off).take sh.ct.size)))
     else K (st.put o.dst (.val sh.agg (eJ st.ep (.box s) off ((cs.drop off).take sh.ct.size))))
    |none=>none
   else none
  |none=>none
 |some sh,.val false [.elt fl e x i off]=>
  if vQ an o then qt o sh fl e i off st K
  else if fl.live st.ep then
   if off+sh.ct.size≤e.size then K (st.put o.dst (.val sh.agg (Pv an o st.ep fl e i off (((cellsOf e fl.bare x).drop off).take sh.ct.size)))) else none
  else uN o sh fl e i off st K
 |_,_=>none
def pj (T:TypeId)(p x:Operand)(st:AS)(K:AS→Option R):Option R:=
 match fb E.ty T,st.rd p with
 |some sh,.val false [.ptr s off]=>
  match st.take x with
  |(.val _ vs,st')=>
   match (nth st'.boxes s).getD none with
   |some cs=>
    if vs.length=sh.ct.size∧vs.all AC.yy then
     if off+sh.ct.size≤cs.length then K (st'.cW s (some (bR cs off vs))) else none
    else none
   |none=>none
  |_=>none
 |some sh,.val false [.elt (.loc _ (some (r,t))) e _ i off]=>
  match st.take x with
  |(.val _ vs,st')=>
   if vs.length=sh.ct.size∧off+sh.ct.size≤e.size then st'.kt r t e i off vs K else none
  |_=>none
 |_,_=>none
def rJ (o:Oper)(S:TypeId)(p:Operand)(f:Nat)(st:AS)(K:AS→Option R):Option R:=
 match fb E.ty S,st.rd p with
 |some ⟨true,_,offs⟩,.val false [.ptr s off]=>match nth offs f with|some (fo,_)=>K (st.put o.dst (.one (.ptr s (off+fo))))|none=>none
 |some ⟨true,_,offs⟩,.val false [.elt fl e x i off]=>match nth offs f with|some (fo,_)=>K (st.put o.dst (.one (.elt fl e x i (off+fo))))|none=>none
 |_,_=>none
def ij (o:Oper)(T:TypeId)(x i:Operand)(st:AS)(K:AS→Option R):Option R:=
 match E.sl T,(st.rd x).fresh st,st.rd i with
 |some e',.val false [.sl fl e xs],.val false [.int _ n]=>
  if e'=e∧fl.live st.ep then aa (idx xs n) λy=>K (st.put o.dst (.one (.elt fl e y n 0))) else none
 |_,_,_=>none
def tr (o:Oper)(T:TypeId)(x i:Operand)(st:AS)(K:AS→Option R):Option R:=
 match st.rd x,st.rd i with
 | .val false [.str s],.val false [.int _ n]=>if E.str T then aa (idx s n) λb=>K (st.put o.dst (.one (.int .u8 b.toNat))) else none
 |_,_=>none
def tj (o:Oper)(T:TypeId)(parts:List (Nat×Operand))(st:AS)(K:AS→Option R):Option R:=
 match fb E.ty T with
 |some ⟨true,ct,offs⟩=>
  match da st (parts.map (·.2))with
  |(vs,st')=>
   match pa offs (cellsOf ct (.own none) ct.zero) ((parts.map (·.1)).zip (vs.map AV.cells))with
   |some cs=>K (st'.put o.dst (.val true cs))
   |none=>none
 |_=>none
def gT (o:Oper)(T:TypeId)(len:Nat)(parts:List (Nat×Operand))(st:AS)(K:AS→Option R):Option R:=
 match E.sl T with
 |some e=>
  if parts.length=len∧yb 0 parts∧len≤1000 then
   match da st (parts.map (·.2))with
   |(vs,st')=>
    match tN e (vs.map AV.cells)with
    |some xs=>K (st'.kK o.dst e xs)
    |none=>none
  else none
 |none=>none
def jO (o:Oper)(T:TypeId)(n c:Operand)(st:AS)(K:AS→Option R):Option R:=
 match E.sl T,st.rd n,st.rd c with
 |some e,.val false [.int .i64 len],.val false [.int .i64 cap]=>
  if 0≤len∧len≤cap then room cap.toNat (K (st.kK o.dst e (List.replicate len.toNat e.zero))) else none
 |_,_,_=>none
def iw (st:AS)(lo hi:Option Operand)(n:Nat)(K:Int→Int→Option R):Option R:=
 match lo.map st.rd,hi.map st.rd with
 |none,none=>K 0 n
 |some (.val false [.int _ a]),none=>K a n
 |none,some (.val false [.int _ b])=>K 0 b
 |some (.val false [.int _ a]),some (.val false [.int _ b])=>K a b
 |_,_=>none
def pe (o:Oper)(T:TypeId)(x:Operand)(lo hi:Option Operand)(st:AS)(K:AS→Option R):Option R:=
 match st.take x,lo.map st.rd,hi with
 |(.val false [.sl (.own _) e xs],st'),some (.val false [.int _ a]),none=>
  if E.sl T=some e then aa (sub xs a xs.length) λxs'=>K (st'.kK o.dst e xs') else none
 |_,_,_=>none
def Cz (o:Oper)(fl:kH)(a:Int):kH:=
 match fl,o.dst with
 | .loc ep (some (r,t)),some d=>bif an.nest.contains d then .part ep r t a else .loc ep none
 |fl,_=>fl.bare
def sy (o:Oper)(T:TypeId)(x:Operand)(lo hi:Option Operand)(st:AS)(K:AS→Option R):Option R:=
 if vQ an o then pe E o T x lo hi st K else
 match (st.rd x).fresh st with
 | .val false [.str s]=>if E.str T then iw st lo hi s.length λa b=>aa (sub s a b) λs'=>K (st.put o.dst (.one (.str s'))) else none
 | .val false [.sl fl e xs]=>
   if E.sl T=some e∧fl.live st.ep then iw st lo hi xs.length λa b=>aa (sub xs a b) λxs'=>K (st.put o.dst (.one (.sl (Cz an o fl a) e xs'))) else none
 |_=>none
def gW (o:Oper)(src dst:TypeId)(x:Operand)(st:AS)(K:AS→Option R):Option R:=
 match fb E.ty src,fb E.ty dst,st.rd x with
 |some _,some ⟨false,.int k,_⟩,.val false [.int _ n]=>K (st.put o.dst (.one (.int k (k.wrap n))))
 |some ⟨false,.str,_⟩,some ⟨false,.str,_⟩,.val false [.str s]=>K (st.put o.dst (.one (.str s)))
 |some ⟨false,.str,_⟩,some _,.val false [.str s]=>
  if E.bytes dst then room s.length (K (st.kK o.dst (.int .u8) (dm s))) else none
 |some _,some ⟨false,.str,_⟩,.val false [.sl fl (.int .u8) xs]=>
  if E.bytes src∧fl.live st.ep then K (st.put o.dst (.one (.str (bytesOf xs)))) else none
 |_,_,_=>none
def gY (o:Oper)(t i:Nat)(st:AS)(K:AS→Option R):Option R:=
 match st.get t with
 | .tup vs=>match nth vs i with
   |some (g,cs)=>K ((st.put (some t) (.tup (ew vs i (g,aH 0 cs)))).put o.dst (.val g cs))
   |none=>none
 |_=>none
def Co (o:Oper)(ts:List TypeId)(args:List Operand)(st:AS)(K:AS→Option R):Option R:=
 match ts,args.map st.rd with
 |[t],[.val false [.str s]]=>if E.str t then K (st.put o.dst (.one (.int .i64 s.length))) else none
 |[t],[.val false [.sl _ _ xs]]=>if(E.sl t).isSome then K (st.put o.dst (.one (.int .i64 xs.length))) else none
 |_,_=>none
def Dr (o:Oper)(args:List Operand)(st:AS)(K:AS→Option R):Option R:=
 match args.map st.rd with
 |[.val false [.int k x],.val false [.int _ y]]=>K (st.put o.dst (.one (.int k (if y<x then y else x))))
 |_=>none
def Dq (o:Oper)(args:List Operand)(st:AS)(K:AS→Option R):Option R:=
 match args.map st.rd with
 |[.val false [.int k x],.val false [.int _ y]]=>K (st.put o.dst (.one (.int k (if y>x then y else x))))
 |_=>none
def DU (o:Oper)(ts:List TypeId)(args:List Operand)(st:AS)(K:AS→Option R):Option R:=
 match ts,args.map st.rd with
 |[t,t'],[.val false [.sl (.part ep r tg lo) e xs],.val false [.str s]]=>
  match st.c9 r with
  |some (.sl (.own (some tg')) e' ys)=>
   if h:e'=.int .u8 then
    if e=.int .u8∧E.sl t=some (.int .u8)∧E.str t'=true∧ep=st.ep∧tg'=tg then
     K ({st.dc r (.sl (.own (some tg)) (.int .u8) (yj (h▸ys:List (CT.int .u8).D) lo.toNat (dm (s.take xs.length))))with ep:=st.ep+1}.put o.dst (.one (.int .i64 (min xs.length s.length:Nat))))
    else none
   else none
  |_=>none
 |_,_=>none
def vX (o:Oper)(S:TypeId)(t f:Nat)(st:AS)(K:AS→Option R):Option R:=
 match fb E.ty S,st.get t,Io E.fts S f with
 |some ⟨true,ct,offs⟩,.val true cs,some T=>
  match nth offs f,fb E.ty T with
  |some (fo,n),some sh=>
   if n=sh.ct.size∧cs.length=ct.size∧fo+n≤cs.length then
    K ((st.put (some t) (.val true (bR cs fo (aH st.ep ((cs.drop fo).take n))))).put o.dst (.val sh.agg ((cs.drop fo).take n)))
   else none
  |_,_=>none
 |_,_,_=>none
def po (o:Oper)(ts:List TypeId)(args:List Operand)(st:AS)(K:AS→Option R):Option R:=
 match ts,args with
 |[t,t'],[s,x]=>
  match st.take s with
  |(.val false [.sl (.own _) e xs],st1)=>
   match st1.take x with
   |(.val false [.sl fl e' ys],st2)=>
    if h:e'=e then
     if E.sl t=some e∧E.sl t'=some e∧fl.D3 st.ep e.flat then
      room (xs.length+ys.length) (K (st2.kK o.dst e (xs++(h▸ys:List e.D))))
     else none
    else none
   |(.val false [.str s],st2)=>
    if h:e=.int .u8 then
     if E.sl t=some e∧E.str t' then room (xs.length+s.length) (K (st2.kK o.dst (.int .u8) ((h▸xs:List (CT.int .u8).D)++dm s))) else none
    else none
   |_=>none
  |_=>none
 |_,_=>none
def yW:Nat→List AC→Option (fR×Nat)
 |_,[]=>none
 |j,.sl (.loc _ (some (r,_))) _ _::_=>some (r,j)
 |j,_::cs=>yW (j+1) cs
def fR.pos:fR→Nat
 | .slot _ j=>j
 | .box _ j=>j
 | .io j=>j
def AS.mY (st:AS):fR→Option (List AC)
 | .slot s _=>match st.get s with| .val _ cs=>some cs|_=>none
 | .box s _=>(nth st.boxes s).getD none
 | .io _=>some st.io
def AS.kM (st:AS)(r:fR)(cs:List AC):AS:=
 match r with
 | .slot s _=>match st.get s with| .val g _=>st.put (some s) (.val g cs)|_=>st
 | .box s _=>st.cW s (some cs)
 | .io _=>{st with io:=cs}
def il:List AC→List AC→Option (List AC)
 |[],[]=>some []
 | .sl (.loc _ (some (_,t))) _ _::os,.sl (.own (some t')) e xs::ss=>bif t'==t then(il os ss).bind λr=>some (.sl (.own none) e xs::r) else none
 | .int k n::os,.int _ _::ss=>(il os ss).bind λr=>some (.int k n::r)
 | .bool b::os,.bool _::ss=>(il os ss).bind λr=>some (.bool b::r)
 | .str x::os,.str _::ss=>(il os ss).bind λr=>some (.str x::r)
 |_,_=>none
def s8:List AC→List AC→List AC→Option (List AC)
 |[],[],[]=>some []
 | .sl (.loc _ (some (_,t'))) _ _::os,.sl (.own (some t)) _ _::ss,.sl (.own _) e ys::bs=>bif t==t' then(s8 os ss bs).bind λr=>some (.sl (.own (some t)) e ys::r) else none
 | .int _ _::os,.int k n::ss,.int _ _::bs=>(s8 os ss bs).bind λr=>some (.int k n::r)
 | .bool _::os,.bool b::ss,.bool _::bs=>(s8 os ss bs).bind λr=>some (.bool b::r)
 | .str _::os,.str x::ss,.str _::bs=>(s8 os ss bs).bind λr=>some (.str x::r)
 |_,_,_=>none
def AV.dR:AV→Bool
 | .val _ cs=>cs.all AC.dR
 | .tup vs=>vs.all λx=>x.2.all AC.dR
def E1 (st:AS)(x:Operand):Option (AV×AS):=
 match st.rd x with
 | .val g cs=>
   match yW 0 cs with
   |some (r,j)=>
    match st.mY r with
    |some csO=>
     match il cs ((csO.drop (r.pos-j)).take cs.length)with
     |some cs'=>some (.val g cs',st.kM r (bR csO (r.pos-j) (aH st.ep ((csO.drop (r.pos-j)).take cs.length))))
     |none=>none
    |none=>none
   |none=>none
 |_=>none
def Ee (o:Oper)(x:Operand)(st:AS)(K:AS→Option R):Option R:=
 match E1 st x with
 |some (v,st')=>K (st'.put o.dst v)
 |none=>none
def pk (T:TypeId)(p x:Operand)(st:AS)(K:AS→Option R):Option R:=
 match fb E.ty T,st.rd p with
 |some sh,.val false [.ptr s off]=>
  match E1 st x with
  |some (.val _ vs,st')=>
   match (nth st'.boxes s).getD none with
   |some cs=>
    if vs.length=sh.ct.size∧vs.all AC.yy then
     if off+sh.ct.size≤cs.length then K (st'.cW s (some (bR cs off vs))) else none
    else none
   |none=>none
  |_=>none
 |_,_=>none
def Eo (o:Oper)(f:Nat)(g:Bool)(cs:List AC)(xs:List Operand)(st:AS)(K:AS→Option R):Option R:=
 match cs with
 |[.sl (.nest ep r t en i off) _ _]=>
  match st.mY r with
  |some csO=>
   match (csO.drop r.pos).take 1 with
   |[.sl (.own (some t')) e ys]=>
    bif (ep==st.ep)&&(t'==t)&&(en.size==e.size)&&xs.all (λx=>(st.rd x).dR) then
     aa (idx ys i) λx=>
      match ((cellsOf e (.own none) x).drop off).take 1 with
      |[.sl (.own _) e2 zs]=>
       aa ((Γ f).fn (.val g [.sl (.own none) e2 zs]::xs.map st.rd)) λy=>
        match (Γ f).back y with
        |[.sl (.own _) e3 zs']=>
         match eQ e (bR (cellsOf e (.own none) x) off [.sl (.own none) e3 zs'])with
         |some (x',[])=>bif ((Γ f).av y).dR then K ({st.kM r (bR csO r.pos [.sl (.own (some t)) e (ys.set i.toNat x')])with ep:=st.ep+1}.put o.dst ((Γ f).av y)) else none
         |_=>none
        |_=>none
      |_=>none
    else none
   |_=>none
  |none=>none
 |_=>none
def W6 (o:Oper)(f:Nat)(args:List Operand)(st:AS)(K:AS→Option R):Option R:=
 match args with
 |x0::xs=>
  match st.rd x0 with
  | .val g cs=>
    match yW 0 cs with
    |some (r,j)=>
     match st.mY r with
     |some csO=>
      match il cs ((csO.drop (r.pos-j)).take cs.length)with
      |some cs'=>
       bif xs.all (λx=>(st.rd x).dR) then
        aa ((Γ f).fn (.val g cs'::xs.map st.rd)) λy=>
         match s8 cs ((csO.drop (r.pos-j)).take cs.length) ((Γ f).back y)with
         |some seg=>bif ((Γ f).av y).dR then K ({st.kM r (bR csO (r.pos-j) seg)with ep:=st.ep+1}.put o.dst ((Γ f).av y)) else none
         |none=>none
       else none
      |none=>none
     |none=>none
    |none=>Eo Γ o f g cs xs st K
  |_=>none
 |[]=>none
def AC.strip:AC→AC
 | .sl (.own _) e xs=> .sl (.own none) e xs
 | .sl (.loc _ _) _ _=> .bot
 | .sl (.nest ..) _ _=> .bot
 | .sl (.part ..) _ _=> .bot
 | .sl (.holed _ i _) e xs=> .sl (.holed none i none) e xs
 | .ptr _ _=> .bot
 | .elt _ _ _ _ _=> .bot
 |c=>c
def AC.Ij:AC→Bool
 | .sl (.own _) _ _=>true
 |c=>c.dR
def AC.qJ (k:Bool):AC→Bool
 | .sl (.own _) _ _=>true
 | .sl (.arg k') _ _=>k'==k
 |c=>c.dR
def AC.GM:AC→AC
 | .sl (.own _) e xs=> .sl (.own none) e xs
 | .sl (.arg _) e xs=> .sl (.arg true) e xs
 |c=>c.strip
def AC.TV (k:Bool)(tag:Option Nat):AC→AC
 | .sl (.own _) e xs=> .sl (.own tag) e xs
 | .sl (.arg _) e xs=> .sl (.arg k) e xs
 |c=>c
def kx (k:Bool)(mk:Nat→Option Nat):Nat→List AC→List AC
 |_,[]=>[]
 |j,c::cs=>c.TV k (mk j)::kx k mk (j+1) cs
def uT (cs:List AC):Bool:=cs.any λc=>match c with| .sl (.arg k) _ _=>k|_=>false
def AC.yR:AC→Bool
 | .sl (.arg k) _ _=> !k
 |c=>c.dR
def AV.yR:AV→Bool
 | .val _ cs=>cs.all AC.yR
 | .tup _=>false
def AS.Dm (st:AS):AC→AC
 | .sl (.own _) e xs=> .sl (.arg false) e xs
 | .sl (.arg _) e xs=> .sl (.arg false) e xs
 | .sl (.loc _ (some (.slot b j,t))) _ _=>match st.c9 (.slot b j)with
   |some (.sl (.own (some t')) e' ys)=>if t'=t then .sl (.arg false) e' ys else .bot
   |_=> .bot
 | .int k n=> .int k n
 | .bool b=> .bool b
 | .str s=> .str s
 | .fn f=> .fn f
 |_=> .bot
def sX (st:AS):Operand→AV
 | .tmp t=>(match st.get t with| .val g cs=> .val g (cs.map st.Dm)|v=>v)
 |x=>st.rd x
def tM (st:AS):Operand→Bool
 | .tmp t=>(match st.get t with| .val _ cs=>(cs.map st.Dm).all AC.yR|_=>false)
 |x=>(st.rd x).dR
def AC.NF:AC→Bool
 | .sl (.own _) _ _=>true
 |c=>c.dR
def AV.NF:AV→Bool
 | .val _ cs=>cs.all AC.NF
 | .tup vs=>vs.all λx=>x.2.all AC.NF
def Ls (st:AS)(s:Nat)(cs:List AC):AS:={(st.cW s (some cs)).dg (some s)with ep:=st.ep+1}
def nQ (o:Oper)(f:Nat)(args:List Operand)(st:AS)(K:AS→Option R):Option R:=
 match args with
 |x0::xs=>
  match st.rd x0 with
  | .val false [.ptr s 0]=>
    match (nth st.boxes s).getD none with
    |some cs=>
     bif cs.all (AC.qJ (uT cs))&&xs.all (tM st) then
      aa ((Γ f).fn (.val true (cs.map AC.GM)::xs.map (sX st))) λy=>
       bif ((Γ f).back y).all (AC.qJ true)&&((Γ f).av y).NF then
        bif (Γ f).cur&&cs.all AC.xJ then
         K (((st.cW s (some (kx (uT cs) (λ_=>none) 0 ((Γ f).back y)))).dg o.dst).put o.dst (((Γ f).av y).uU st.ep (st.eE o.dst)))
        else
        K (((Ls st s (kx (uT cs) (st.eE (some s)) 0 ((Γ f).back y))).dg o.dst).put o.dst
          (((Γ f).av y).uU (st.ep+1) ((Ls st s (kx (uT cs) (st.eE (some s)) 0 ((Γ f).back y))).eE o.dst)))
       else none
     else none
    |none=>none
  |_=>none
 |[]=>none
def NG (o:Oper)(f:Nat)(args:List Operand)(st:AS)(K:AS→Option R):Option R:=
 match o.dst with
 |some d=>
  match nth st.boxes d with
  |some none=>
   bif args.all (λx=>(st.rd x).yR) then
    aa ((Γ f).fn (args.map st.rd)) λy=>
     bif ((Γ f).back y).all AC.yR then K ((st.cW d (some ((Γ f).back y))).put (some d) (.one (.ptr d 0))) else none
   else none
  |_=>none
 |none=>none
def uW (o:Oper)(f:Operand)(args:List Operand)(st:AS)(K:AS→Option R):Option R:=
 match st.rd f with
 | .val false [.fn f]=>
   bif (Γ f).bx then nQ Γ o f args st K else
   bif (Γ f).pr then NG Γ o f args st K else
   bif (Γ f).io then W6 Γ o f args st K
   else aa ((Γ f).fn (args.map λx=>((st.rd x).fresh st).asArg st.ep)) λr=>cond ((Γ f).sel r) (K ((st.dg o.dst).put o.dst (((Γ f).av r).uU st.ep (st.eE o.dst)))) (K ((st.dg o.dst).put o.dst (((Γ f).alt r).uU st.ep (st.eE o.dst))))
 |_=>none
def uY {R:Type}(op:BinOp)(b:Bool)(K:AC→Option R):Option R:=
 match op with
 | .eql=>K (.bool b)
 | .neq=>K (.bool (!b))
 |_=>none
def sD (o:Oper)(op:BinOp)(T:TypeId)(x y:Operand)(st:AS)(K:AS→Option R):Option R:=
 match st.rd x,st.rd y with
 | .val false [.bool a],.val false [.bool b]=>if E.bool T then wF op (.one (.bool a)) (.one (.bool b)) λc=>K (st.put o.dst (.one c)) else none
 | .val true xs,.val true ys=>match Eh E.eqs T with
   |some ls=>if fits ls xs then wF op (.val true xs) (.val true ys) λc=>K (st.put o.dst (.one c)) else none
   |none=>none
 | .val false [.sl fl _ xs],.val false [.nilsl]=>if(E.sl T).isSome∧fl.live st.ep then(if xs.length=0 then none else uY op false λc=>K (st.put o.dst (.one c))) else none
 | .val false [.nilsl],.val false [.nilsl]=>if(E.sl T).isSome then uY op true λc=>K (st.put o.dst (.one c)) else none
 |a,b=>wF op a b λc=>K (st.put o.dst (.one c))
def bS (o:Oper)(st:AS)(K:AS→Option R):Option R:=
 match o.op with
 | .move x=>tR an o x st K
 | .assign x=>if rR an o then Ee o x st K else nP E an o x st K
 | .pick c a b=>vC o c a b st K
 | .alloc T=>tZ E o T st K
 | .box _ x=>EZ o x st K
 | .load T p=>kj E an o T p st K
 | .store T p x=>match o.dst with|none=>(if rR an o then pk E T p x st K else pj E T p x st K)|some _=>none
 | .nilCheck x=>
   match st.rd x with
   | .val false [.ptr s off]=>K (st.put o.dst (.one (.ptr s off)))
   | .val false [.elt fl e y i off]=>K (st.put o.dst (.one (.elt fl e y i off)))
   |_=>none
 | .binOp op T x y _=>sD E o op T x y st K
 | .unOp op _ x=>Rj op (st.rd x) λc=>K (st.put o.dst (.one c))
 | .fieldAddr S p f=>rJ E o S p f st K
 | .indexAddr T x i=>ij E o T x i st K
 | .index T x i=>tr E o T x i st K
 | .build T parts=>tj E o T parts.toList st K
 | .buildSlice T len parts=>gT E o T len parts.toList st K
 | .makeSlice T n c=>jO E o T n c st K
 | .slice T x lo hi none=>sy E an o T x lo hi st K
 | .field S (.tmp t) f=>vX E o S t f st K
 | .call {callee:=.builtin .copy,args,argTypes}=>DU E o argTypes.toList args.toList st K
 | .convert src dst x=>gW E o src dst x st K
 | .extract (.tmp t) i=>gY o t i st K
 | .call {callee:=.builtin .len,args,argTypes}=>Co E o argTypes.toList args.toList st K
 | .call {callee:=.builtin .min,args,..}=>Dr o args.toList st K
 | .call {callee:=.builtin .max,args,..}=>Dq o args.toList st K
 | .call {callee:=.builtin .append,args,argTypes}=>po E o argTypes.toList args.toList st K
 | .call {callee:=.value f,args,..}=>uW Γ o f args.toList st K
 |_=>none
def dX (ops:List Oper)(o:Oper)(st:AS)(K:AS→Option R):Option R:=
 match o.guard with
 |none=>bS E Γ an o st K
 |some (j,want)=>
  match (nth ops j).bind (·.dst)with
  |some d=>
   match st.get d with
   | .val false [.bool b]=>
     let go (t:Bool):Option R:=
      if t==want then bS E Γ an o (st.put (some d) (.one (.bool t))) K else K ((st.put (some d) (.one (.bool t))).put o.dst (.one .un))
     cond b (go true) (go false)
   | .val false [.un]=>K (st.put o.dst (.one .un))
   |_=>none
  |none=>none
def Gj (ops:List Oper):List Oper→AS→(AS→Option R)→Option R
 |[],st,K=>K st
 |o::r,st,K=>dX E Γ an ops o st λst'=>Gj ops r st' K
def du:Code→Nat
 | .region id _ _=>id
 | .seq a _=>du a
 | .block _ c=>du c
 | .loop c=>du c
 | .cond _ a b=>match du a with|0=>du b|n=>n
 |_=>0
def vm (c:Code):Nat:=1000000+2*du c
def gx (l:List Nat):Code→List Code
 | .seq a b=>gx l a++(bif l.contains (du b) then b::gx l b else gx l b)
 | .cond _ a b=>gx l a++gx l b
 | .block _ c=>gx l c
 | .loop c=>gx l c
 |_=>[]
def acO (l:List Nat)(fn:Func)(k:Nat):Code:=(nth (gx l (fn.body.getD .skip)) k).getD .skip
def fi:Code→List Code
 | .seq a b=>fi a++fi b
 | .cond _ a b=>fi a++fi b
 | .block _ c=>fi c
 | .loop c=>c::fi c
 |_=>[]
def aF (fn:Func)(k:Nat):Code:=(nth (fi (fn.body.getD .skip)) k).getD .skip
def qY (j:Nat):Nat:=3*(4096*1000003+j)
def fR.vL:fR→Option Nat
 | .slot s j=>bif Nat.ble 4096 j then none else bif Nat.ble 1000000 s then none else some (3*(4096*s+j))
 | .box s j=>bif Nat.ble 4096 j then none else some (3*(4096*s+j)+1)
 | .io j=>bif Nat.ble 4096 j then none else some (qY j)
def AC.Pe (io:List AC)(j t:Nat)(e:CT):Option (List e.D):=
 match nth io j with
 |some (.sl (.own (some t')) e' ys)=>if h:e'=e then bif t'==t then some (h▸ys) else none else none
 |_=>none
def AC.mask (keep:List Nat)(ep:Nat)(io:List AC)(rt:fR):AC→AC
 | .ptr s off=>if keep.contains s then .ptr s off else .bot
 | .sl (.loc e pv) t xs=>
   match pv with
   |some (.io j,n)=>match AC.Pe io j n t with
    |some ys=> .sl (.loc 0 ((fR.vL (.io j)).map λq=>(.io j,q))) t ys
    |none=>if e==ep then .sl (.loc 0 none) t xs else .bot
   |_=>if e==ep then .sl (.loc 0 none) t xs else .bot
 | .sl (.own _) t xs=> .sl (.own rt.vL) t xs
 | .sl (.nest ..) _ _=> .bot
 | .sl (.part ..) _ _=> .bot
 | .sl (.holed _ i _) e xs=> .sl (.holed none i none) e xs
 | .elt _ _ _ _ _=> .bot
 |c=>c
def zj (keep:List Nat)(ep:Nat)(io:List AC)(f:Nat→fR):Nat→List AC→List AC
 |_,[]=>[]
 |j,c::cs=>c.mask keep ep io (f j)::zj keep ep io f (j+1) cs
def AV.mask (keep:List Nat)(ep:Nat)(io:List AC)(s:Nat):AV→AV
 | .val g cs=> .val g (zj keep ep io (.slot s) 0 cs)
 | .tup _=> .bot
def jl (keep:List Nat)(ep:Nat)(io:List AC):Nat→List AV→List AV
 |_,[]=>[]
 |i,v::r=>(if keep.contains i then v.mask keep ep io i else .bot)::jl keep ep io (i+1) r
def jk (keep:List Nat)(ep:Nat)(io:List AC):Nat→List (Option (List AC))→List (Option (List AC))
 |_,[]=>[]
 |i,b::r=>(if keep.contains i then b.map (zj keep ep io (.box i) 0) else none)::jk keep ep io (i+1) r
def Kz (keep:List Nat):Nat→List AC→List AC
 |_,[]=>[]
 |j,c::cs=>(match c with| .sl (.own _) e xs=> .sl (.own (fR.vL (.io j))) e xs| .sl (.holed _ i _) e xs=> .sl (.holed none i none) e xs| .ptr s off=>if keep.contains s then .ptr s off else .bot|c=>bif c.dR then c else .bot)::Kz keep (j+1) cs
def AS.mask (keep:List Nat)(st:AS):AS:=
 ⟨jl keep st.ep st.io 0 st.slots,jk keep st.ep st.io 0 st.boxes,0,List.replicate st.slots.length false,Kz keep 0 st.io⟩
def getBool (st:AS)(s:Nat):Option Bool:=
 match st.get s with
 | .val false [.bool b]=>some b
 |_=>none
def dZ (an:An)(ds:List Nat)(o:Oper):Bool:=
 match o.op with
 | .assign (.const _)=> !rR an o
 | .assign (.tmp t)=>ds.contains t&& !rR an o
 | .move _| .load ..=>match o.dst with|some d=> !an.mv.contains d|none=>false
 | .slice ..=> !vQ an o
 | .pick ..| .binOp ..| .unOp ..| .fieldAddr ..| .indexAddr ..| .index ..| .nilCheck _=>true
 | .build _ ps=>ps.isEmpty
 | .call {callee:=.builtin .len,..}| .call {callee:=.builtin .min,..}| .call {callee:=.builtin .max,..}=>true
 | .call {callee:=.value _,..}=>true
 |_=>false
def xf (ops:List Oper):List Nat:=ops.filterMap (·.dst)
def AS.sE (st:AS):List Nat→AS
 |[]=>st
 |d::r=>((st.put (some d) .bot).dg (some d)).sE r
def wK (ops:List Oper)(A:List (List Nat)):Nat→List Oper→AS→(AS→Option R)→Option R
 |_,[],st,K=>K st
 |i,o::r,st,K=>bif cf E an (mG an A i 0 ops) o st then dX E Γ an ops o st λst'=>wK ops A (i+1) r st' K else none
def vn (ops:List Oper)(draw:Bool)(st:AS)(K:AS→Option R):Option R:=
 bif draw then(bif HA an ops then wK E Γ.xF an ops (G0 ops []) 0 ops st K else none) else Gj E Γ an ops ops st K
def Gr (id:Nat)(ops:List Oper)(draw:Bool)(st:AS)(K:AS→Option R):Option R:=
 match an.merge id with
 |none=>vn E Γ an ops draw st K
 |some s=>
  if ops.all (dZ an (xf ops)) then
   aa (vn E Γ.calm an ops draw st λst'=>getBool st' s) λb=>K ((st.sE (xf ops)).put (some s) (.one (.bool b)))
  else none
def vg (key:List Nat)(B:AS→(Ex→AS→Option R)→Option R):Nat→AS→(Ex→AS→Option R)→Option R
 |0,_,_=>none
 |m+1,st,K=>B st λe st'=>
  match e with
  | .normal=>vg key B m (st'.mask key) K
  |e=>K e (st'.mask key)
def den (Λ:cl):Code→AS→(Ex→AS→Option R)→Option R
 | .skip,st,K=>K .normal st
 | .region id ops draw,st,K=>Gr E Γ an id ops.toList draw st (K .normal)
 | .seq a b,st,K=>den Λ a st λe st'=>match e with
   | .normal=>bif an.cut.contains (du b) then(Λ (vm b)).go (st'.mask (an.mask (vm b))) K else den Λ b st' K
   |e=>K e st'
 | .cond c a b,st,K=>
   match st.rd c with
   | .val false [.bool t]=>cond t (den Λ a st K) (den Λ b st K)
   |_=>none
 | .block id c,st,K=>den Λ c st λe st'=>
   match e with
   | .exit j=>if j==id then K .normal st' else K (.exit j) st'
   |e=>K e st'
 | .loop c,st,K=>
   bif an.peel.contains (du c) then den Λ c (st.mask (an.mask (du c))) λe st'=>
    match e with
    | .normal=>(Λ (du c)).go (st'.mask (an.mask (du c))) K
    |e=>K e (st'.mask (an.mask (du c)))
   else(Λ (du c)).go (st.mask (an.mask (du c))) K
 | .exit id,st,K=>K (.exit id) st
 | .ret,st,K=>K .ret st
 |_,_,_=>none
end
def CF (st:AS)(E:Env):ResultVar→Option ((Bool×Nat)×Bool×List AC)
 | .tmp t=>match st.get t with| .val g cs=>some ((false,t),g,cs.map AC.strip)|_=>none
 | .cell t T=>match fb E.ty T,st.get t with
   |some sh,.val false [.ptr s off]=>((nth st.boxes s).getD none).bind λcs=>
    if off+sh.ct.size≤cs.length then some ((true,s),sh.agg,((cs.drop off).take sh.ct.size).map AC.strip) else none
   |_,_=>none
def jQ (st:AS)(E:Env):List (Bool×Nat)→List ResultVar→Option (List (Bool×List AC))
 |_,[]=>some []
 |had,r::rs=>(CF st E r).bind λx=>if had.contains x.1 then none else(jQ st E (x.1::had) rs).bind λxs=>some (x.2::xs)
def results (E:Env)(rs:List ResultVar)(st:AS):Option AV:=
 match jQ st E [] rs with
 |some [(g,cs)]=>some (.val g cs)
 |some vs=>some (.tup vs)
 |none=>none
def start (fn:Func)(args:List AV):AS:=⟨args++List.replicate (fn.ntmps-args.length) .bot,List.replicate (args.length+(fn.ntmps-args.length)) none,0,List.replicate fn.ntmps false,[]⟩
abbrev gC:List (Bool×FT)→Type
 |[]=>Unit
 |[(_,t)]=>t.ct.D
 |(_,t)::r=>t.ct.D×gC r
def fO:(l:List (Bool×FT))→List (Bool×List AC)→Option (gC l)
 |[],[]=>some ()
 |[(g,t)],[(g',cs)]=>bif g==g' then(match AE t cs with|some (x,[])=>some x|_=>none) else none
 |(g,t)::p::r,(g',cs)::vs=>bif g==g' then(match AE t cs with|some (x,[])=>(fO (p::r) vs).bind λy=>some (x,y)|_=>none) else none
 |_,_=>none
def WX:(l:List (Bool×FT))→gC l→List (Bool×List AC)
 |[],_=>[]
 |[(g,t)],x=>[(g,fw t x)]
 |(g,t)::p::r,x=>(g,fw t x.1)::WX (p::r) x.2
def qM (l:List (Bool×FT))(x:gC l):AV:=
 match WX l x with
 |[(g,cs)]=> .val g cs
 |vs=> .tup vs
def B1 (E:Env)(Γ:bN)(an:An)(Λ:cl)(fn:Func)(rs:List (Bool×FT))(args:List AV):Option (gC rs):=
 match fn.body with
 |some c=>if args.length=fn.params.size then den E Γ an Λ c (start fn args) λe st=>
  match e with
  | .exit _=>none
  |_=>aa (jQ st E [] fn.results.toList) (fO rs)
  else none
 |none=>none
def evalAlt (E:Env)(Γ:bN)(an:An)(Λ:cl)(fn:Func)(rs rs2:List (Bool×FT))(h:gC rs2=gC rs)(args:List AV):Option (Bool×gC rs):=
 match fn.body with
 |some c=>if args.length=fn.params.size then den E Γ an Λ c (start fn args) λe st=>
  match e with
  | .exit _=>none
  |_=>aa (jQ st E [] fn.results.toList) λys=>
   match fO rs ys with
   |some y=>some (true,y)
   |none=>match fO rs2 ys with
    |some y=>some (false,cast h y)
    |none=>none
  else none
 |none=>none
def Kn:Nat→List AC→List AC
 |_,[]=>[]
 |j,.sl _ e xs::cs=> .sl (.own (some (qY j))) e xs::Kn (j+1) cs
 |j,c::cs=>c::Kn (j+1) cs
def rQ:Nat→List AC→List AC
 |_,[]=>[]
 |j,.sl _ e xs::cs=> .sl (.loc 0 (some (.io j,qY j))) e xs::rQ (j+1) cs
 |j,c::cs=>c::rQ (j+1) cs
def wB (fn:Func)(g:Bool)(cs:List AC)(args:List AV):AS:={start fn (.val g (rQ 0 cs)::args)with io:=Kn 0 cs}
def OV (E:Env)(Γ:bN)(an:An)(Λ:cl)(fn:Func)(rs:List (Bool×FT))(t:CT)(args:List AV):Option (gC rs×t.D):=
 match fn.body,args with
 |some c,.val g cs::xs=>if xs.length+1=fn.params.size∧cs.all AC.Ij=true then den E Γ an Λ c (wB fn g cs xs) λe st=>
  match e with
  | .exit _=>none
  |_=>aa (aa (jQ st E [] fn.results.toList) (fO rs)) λr=>
   match eQ t st.io with
   |some (x,[])=>some (r,x)
   |_=>none
  else none
 |_,_=>none
def xM:Nat→List AC→List AC
 |_,[]=>[]
 |j,.sl (.own _) e xs::cs=> .sl (.own (some (3*j+1))) e xs::xM (j+1) cs
 |j,c::cs=>c::xM (j+1) cs
def sz (fn:Func)(cs:List AC)(args:List AV):AS:=
 {start fn (.one (.ptr 0 0)::args)with boxes:=some (xM 0 cs)::List.replicate (args.length+(fn.ntmps-(args.length+1))) none,io:=[.ptr 0 0]}
def L2 (E:Env)(Γ:bN)(an:An)(Λ:cl)(fn:Func)(rs:List (Bool×FT))(t:FT)(args:List AV):Option (gC rs×t.ct.D):=
 match fn.body,args with
 |some c,.val true cs::xs=>if xs.length+1=fn.params.size∧cs.all (AC.qJ true)=true then den E Γ an Λ c (sz fn cs xs) λe st=>
  match e with
  | .exit _=>none
  |_=>aa (aa (jQ st E [(true,0)] fn.results.toList) (fO rs)) λr=>
   match st.io,st.boxes with
   |[.ptr 0 0],some cs'::_=>match AE t (cs'.map AC.strip)with
    |some (x,[])=>some (r,x)
    |_=>none
   |_,_=>none
  else none
 |_,_=>none
def FU (E:Env)(Γ:bN)(an:An)(Λ:cl)(fn:Func)(t:FT)(args:List AV):Option t.ct.D:=
 match fn.body with
 |some c=>if args.length=fn.params.size then den E Γ an Λ c (start fn args) λe st=>
  match e with
  | .exit _=>none
  |_=>match fn.results.toList with
   |[.tmp i]=>match st.get i with
    | .val false [.ptr s 0]=>match (nth st.boxes s).getD none with
      |some cs=>if cs.all AC.yR=true then(match AE t (cs.map AC.strip)with|some (x,[])=>some x|_=>none) else none
      |none=>none
    |_=>none
   |_=>none
  else none
 |none=>none
end Go.Dn
