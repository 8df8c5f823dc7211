import Derived.Test.YtgilglpncgncjaaGreatDnData
/- An abstract, heap-free semantics of the model's code, for functions that treat their data by value: definitions. -/
namespace Go.Dn
inductive dX where
 |slot (s j:Nat)|box (s j:Nat)|io (j:Nat)
 deriving DecidableEq
inductive jg where
 |own (tag:Option Nat)
 |loc (ep:Nat) (pv:Option (dX×Nat))
 |arg
 |nest (ep:Nat) (r:dX) (t:Nat) (e:CT) (i:Int) (off:Nat)
 |part (ep:Nat) (r:dX) (t:Nat) (lo:Int)
 |holed (tag:Option Nat) (i:Int) (ep:Option Nat)
inductive AC where
 |int (k:IntKind) (n:Int)|bool (b:Bool)|str (s:List UInt8)
 |sl (fl:jg) (e:CT) (xs:List e.D)
 |nilsl
 |ptr (s off:Nat)
 |elt (fl:jg) (e:CT) (x:e.D) (i:Int) (off:Nat)
 |fn (f:Nat)
 |un
 |bot
inductive AV where
 |val (agg:Bool) (cs:List AC)
 |tup (vs:List (Bool×List AC))
@[reducible] def AV.one (c:AC):AV:= .val false [c]
@[reducible] def AV.bot:AV:= .val false [.bot]
structure AS where
 slots:List AV
 boxes:List (Option (List AC))
 ep:Nat
 iss:List Bool
 io:List AC
structure Shape where
 agg:Bool
 ct:CT
 offs:List (Nat×Nat):=[]
structure An where
 mask:Nat→List Nat:=fun _=>[]
 merge:Nat→Option Nat:=fun _=>none
 mv:List Nat:=[]
 nest:List Nat:=[]
 mb:Nat→Option Nat:=fun _=>none
 sb:Nat→Option Nat:=fun _=>none
 late:List Nat:=[]
 peel:List Nat:=[]
 nils:List Nat:=[]
 fm:List Nat:=[]
 eb:Nat→Option Nat:=fun _=>none
 es:Nat→Option Nat:=fun _=>none
 er:Nat→Option Nat:=fun _=>none
def cellsOf:(t:CT)→jg→t.D→List AC
 | .int k,_,n=>[.int k n]
 | .bool,_,b=>[.bool b]
 | .str,_,s=>[.str s]
 | .sl e,fl,xs=>[.sl fl e xs]
 | .pair a b,fl,x=>cellsOf a fl x.1++cellsOf b fl x.2
def cQ:(t:CT)→List AC→Option (t.D×List AC)
 | .int k,.int k' n::r=>if k'=k then some (n,r) else none
 | .bool,.bool b::r=>some (b,r)
 | .str,.str s::r=>some (s,r)
 | .sl e,.sl (.own _) e' xs::r=>if h:e'=e then some (h▸xs,r) else none
 | .sl _,.nilsl::r=>some ([],r)
 | .pair a b,cs=>(cQ a cs).bind fun x=>(cQ b x.2).bind fun y=>some ((x.1,y.1),y.2)
 |_,_=>none
def nth {α:Type}:List α→Nat→Option α
 |[],_=>none
 |a::_,0=>some a
 |_::l,n+1=>nth l n
def dj {α:Type}:List α→Nat→α→List α
 |[],_,_=>[]
 |_::l,0,v=>v::l
 |a::l,n+1,v=>a::dj l n v
def AS.get (st:AS)(i:Nat):AV:=(nth st.slots i).getD .bot
def AS.put (st:AS)(d:Option Nat)(v:AV):AS:=
 match d with
 |some d=>{st with slots:=dj st.slots d v}
 |none=>st
def AM (d j:Nat):Nat:=3*(4096*d+j)+2
def AS.eN (st:AS)(d:Option Nat)(j:Nat):Option Nat:=
 match d with
 |some d=>bif (nth st.iss d).getD true then none else bif Nat.ble 4096 j then none else some (AM d j)
 |none=>none
def AS.cp (st:AS)(d:Option Nat):AS:=
 match d with
 |some d=>{st with iss:=dj st.iss d true}
 |none=>st
def AS.jj (st:AS)(d:Option Nat)(e:CT)(xs:List e.D):AS:=
 (st.cp d).put d (.one (.sl (.own (st.eN d 0)) e xs))
def AC.borrow (ep:Nat)(rt:Option dX):AC→AC
 | .sl (.own tag) e xs=> .sl (.loc ep (match rt,tag with|some r,some t=>some (r,t)|_,_=>none)) e xs
 | .sl (.holed tag _ (some ep0)) e xs=> .sl (.loc ep0 (match rt,tag with|some r,some t=>some (r,t)|_,_=>none)) e xs
 | .sl (.holed _ _ none) _ _=> .bot
 |c=>c
def nH (ep:Nat)(f:Nat→dX):Nat→List AC→List AC
 |_,[]=>[]
 |j,c::cs=>c.borrow ep (some (f j))::nH ep f (j+1) cs
def au (ep:Nat)(cs:List AC):List AC:=cs.map (AC.borrow ep none)
def AV.borrow (ep:Nat)(f:Nat→dX):AV→AV
 | .val g cs=> .val g (nH ep f 0 cs)
 | .tup vs=> .tup (vs.map fun x=>(x.1,au ep x.2))
def AV.au (ep:Nat):AV→AV
 | .val g cs=> .val g (Dn.au ep cs)
 | .tup vs=> .tup (vs.map fun x=>(x.1,Dn.au ep x.2))
def ofConst:Value→AV
 | .int k n=> .one (.int k n)
 | .bool b=> .one (.bool b)
 | .string s=> .one (.str s.data.toList)
 | .slice none 0 0=> .one .nilsl
 |_=> .bot
def AS.rd (st:AS):Operand→AV
 | .tmp t=>(st.get t).borrow st.ep (.slot t)
 | .const v=>ofConst v
 | .func f=> .one (.fn f)
 | .global _=> .bot
def AS.take (st:AS):Operand→AV×AS
 | .tmp t=>(st.get t,st.put (some t) ((st.get t).au st.ep))
 |x=>(st.rd x,st)
def AS.bO (st:AS)(s:Nat)(b:Option (List AC)):AS:={st with boxes:=dj st.boxes s b}
def AC.asArg (ep:Nat):AC→AC
 | .int k n=> .int k n
 | .bool b=> .bool b
 | .str s=> .str s
 | .sl (.own _) e xs=> .sl .arg e xs
 | .sl (.loc ep' _) e xs=>if ep'==ep then .sl .arg e xs else .bot
 | .sl .arg e xs=> .sl .arg e xs
 | .nilsl=> .nilsl
 | .fn f=> .fn f
 |_=> .bot
def AV.asArg (ep:Nat):AV→AV
 | .val g cs=> .val g (cs.map (AC.asArg ep))
 | .tup _=> .bot
def AC.CW (ep:Nat)(tag:Option Nat):AC→AC
 | .sl (.own _) e xs=> .sl (.own tag) e xs
 | .sl .arg e xs=> .sl (.loc ep none) e xs
 | .sl (.loc _ _) _ _=> .bot
 | .sl (.nest ..) _ _=> .bot
 | .sl (.part ..) _ _=> .bot
 | .sl (.holed _ i _) e xs=> .sl (.holed none i none) e xs
 | .ptr _ _=> .bot
 | .elt _ _ _ _ _=> .bot
 |c=>c
def tA (ep:Nat)(mk:Nat→Option Nat):Nat→List AC→List AC
 |_,[]=>[]
 |j,c::cs=>c.CW ep (mk j)::tA ep mk (j+1) cs
def Om (ep:Nat)(mk:Nat→Option Nat):Nat→List (Bool×List AC)→List (Bool×List AC)
 |_,[]=>[]
 |j,t::ts=>(t.1,tA ep mk j t.2)::Om ep mk (j+t.2.length) ts
def AV.CW (ep:Nat)(mk:Nat→Option Nat):AV→AV
 | .val g cs=> .val g (tA ep mk 0 cs)
 | .tup vs=> .tup (Om ep mk 0 vs)
structure al where
 R:Type
 fn:List AV→Option R
 av:R→AV
 io:Bool:=false
 back:R→List AC:=fun _=>[]
 bx:Bool:=false
 sel:R→Bool:=fun _=>true
 alt:R→AV:=fun _=> .val false [.bot]
def al.res (F:al)(y:F.R):AV:=cond (F.sel y) (F.av y) (F.alt y)
abbrev aJ:=Nat→al
def aJ.calm (Γ:aJ):aJ:=fun f=>bif (Γ f).io||(Γ f).bx then {R:=Unit,fn:=fun _=>none,av:=fun _=> .val false [.bot]} else Γ f
def Ae {R:Type}(op:BinOp)(k:IntKind)(x y:Int)(K:AC→Option R):Option R:=
 match op with
 | .add=>K (.int k (k.wrap (x+y)))
 | .sub=>K (.int k (k.wrap (x-y)))
 | .mul=>K (.int k (k.wrap (x*y)))
 | .quo=>if y=0 then none else K (.int k (k.wrap (x.tdiv y)))
 | .rem=>if y=0 then none else K (.int k (x.tmod y))
 | .and=>K (.int k (k.wrap (BitVec.ofInt k.bits x&&&BitVec.ofInt k.bits y).toNat))
 | .or=>K (.int k (k.wrap (BitVec.ofInt k.bits x|||BitVec.ofInt k.bits y).toNat))
 | .xor=>K (.int k (k.wrap (BitVec.ofInt k.bits x^^^BitVec.ofInt k.bits y).toNat))
 | .andNot=>K (.int k (k.wrap (BitVec.ofInt k.bits x&&&~~~ BitVec.ofInt k.bits y).toNat))
 | .eql=>K (.bool (x==y))
 | .neq=>K (.bool (x !=y))
 | .lss=>K (.bool (decide (x<y)))
 | .leq=>K (.bool (decide (x≤y)))
 | .gtr=>K (.bool (decide (x>y)))
 | .geq=>K (.bool (decide (x≥y)))
 |_=>none
def Cc {R:Type}(op:BinOp)(x y:List UInt8)(K:AC→Option R):Option R:=
 match op with
 | .add=>room (x.length+y.length) (K (.str (x++y)))
 | .eql=>K (.bool (x==y))
 | .neq=>K (.bool (!(x==y)))
 | .lss=>K (.bool (Op.bytesLess x y))
 | .leq=>K (.bool (Op.bytesLess x y||x==y))
 | .gtr=>K (.bool (!(Op.bytesLess x y||x==y)))
 | .geq=>K (.bool (!(Op.bytesLess x y)))
 |_=>none
def nI:List AC→List AC→Option Bool
 |[],[]=>some true
 | .int k x::r,.int k' y::r'=>if k=k' then (nI r r').bind fun b=>some ((x==y)&&b) else none
 | .bool x::r,.bool y::r'=>(nI r r').bind fun b=>some ((x==y)&&b)
 | .str x::r,.str y::r'=>(nI r r').bind fun b=>some ((x==y)&&b)
 |_,_=>none
def yi {R:Type}(op:BinOp)(x y:AV)(K:AC→Option R):Option R:=
 match x,y with
 | .val false [.int k a],.val false [.int k' b]=>
   match op with
   | .shl=>if b<0 then none else K (.int k (k.wrap (a*2^(min b.toNat k.bits))))
   | .shr=>if b<0 then none else K (.int k (a.fdiv (2^(min b.toNat k.bits))))
   |_=>if k=k' then Ae op k a b K else none
 | .val false [.str a],.val false [.str b]=>Cc op a b K
 | .val false [.bool a],.val false [.bool b]=>
   match op with
   | .eql=>K (.bool (a==b))
   | .neq=>K (.bool (!(a==b)))
   |_=>none
 | .val true xs,.val true ys=>
   match op with
   | .eql=>aa (nI xs ys) fun b=>K (.bool b)
   | .neq=>aa (nI xs ys) fun b=>K (.bool (!b))
   |_=>none
 |_,_=>none
def Wm {R:Type}(op:UnOp)(x:AV)(K:AC→Option R):Option R:=
 match op,x with
 | .not,.val false [.bool b]=>K (.bool (!b))
 | .neg,.val false [.int k n]=>K (.int k (k.wrap (0-n)))
 | .xor,.val false [.int k n]=>Ae .xor k (if k.signed then-1 else k.max) n K
 |_,_=>none
def aY (cs:List AC)(off:Nat)(vs:List AC):List AC:=cs.take off++vs++cs.drop (off+vs.length)
def AS.cc (st:AS):dX→Option AC
 | .slot s j=>match st.get s with| .val _ cs=>nth cs j|_=>none
 | .box s j=>((nth st.boxes s).getD none).bind fun cs=>nth cs j
 | .io j=>nth st.io j
def AS.bK (st:AS)(r:dX)(c:AC):AS:=
 match r with
 | .slot s j=>match st.get s with| .val g cs=>st.put (some s) (.val g (dj cs j c))|_=>st
 | .box s j=>match (nth st.boxes s).getD none with|some cs=>st.bO s (some (dj cs j c))|none=>st
 | .io j=>{st with io:=dj st.io j c}
def AS.fresh (st:AS):AC→AC
 | .sl (.loc ep (some (r,t))) e xs=>
   bif ep==st.ep then .sl (.loc ep (some (r,t))) e xs else
    match st.cc r with
    |some (.sl (.own (some t')) e' ys)=>if h:e'=e then bif t'==t then .sl (.loc st.ep (some (r,t))) e (h▸ys) else .sl (.loc ep (some (r,t))) e xs else .sl (.loc ep (some (r,t))) e xs
    |_=> .sl (.loc ep (some (r,t))) e xs
 |c=>c
def AV.fresh (st:AS):AV→AV
 | .val g cs=> .val g (cs.map st.fresh)
 | .tup vs=> .tup vs
def AC.now (ep:Nat):AC→Bool
 | .sl (.loc ep' (some _)) _ _=>ep'==ep
 |_=>true
def AS.iT {R:Type}(st:AS)(r:dX)(t:Nat)(e:CT)(i:Int)(off:Nat)(vs:List AC)(K:AS→Option R):Option R:=
 match st.cc r with
 |some (.sl (.own (some t')) e' xs)=>
  if h:e'=e then
   if t'=t then
    aa (idx (h▸xs:List e.D) i) fun x=>
     match cQ e (aY (cellsOf e (.own none) x) off vs) with
     |some (x',[])=>K {st.bK r (.sl (.own (some t')) e ((h▸xs:List e.D).set i.toNat x')) with ep:=st.ep+1}
     |_=>none
   else none
  else none
 |some (.sl (.holed (some t') i' _) e' xs)=>
  if h:e'=e then
   if t'=t∧i'=i∧off=0 then
    aa (idx (h▸xs:List e.D) i) fun _=>
     match cQ e vs with
     |some (x',[])=>K {st.bK r (.sl (.own (some t')) e ((h▸xs:List e.D).set i.toNat x')) with ep:=st.ep+1}
     |_=>none
   else none
  else none
 |_=>none
def AV.cells:AV→List AC
 | .val _ cs=>cs
 | .tup _=>[.bot]
def bE (st:AS):List Operand→List AV×AS
 |[]=>([],st)
 |x::xs=>let (v,st1):=st.take x;let (vs,st2):=bE st1 xs;(v::vs,st2)
def uT (e:CT):List (List AC)→Option (List e.D)
 |[]=>some []
 |cs::r=>match cQ e cs with
  |some (x,[])=>(uT e r).bind fun xs=>some (x::xs)
  |_=>none
def Ac:Nat→List (Nat×Operand)→Bool
 |_,[]=>true
 |n,(i,_)::r=>i==n&&Ac (n+1) r
def AC.Az:AC→Bool
 | .bot=>false
 | .un=>false
 |_=>true
def pD (offs:List (Nat×Nat))(zero:List AC):List (Nat×List AC)→Option (List AC)
 |[]=>some zero
 |(i,cs)::r=>match nth offs i with
  |some (off,n)=>if cs.length=n∧off+n≤zero.length∧cs.all AC.Az then pD offs (aY zero off cs) r else none
  |none=>none
inductive LK where
 |int|bool|str
 deriving DecidableEq
structure Env where
 ty:List (Nat×Shape)
 eqs:List (Nat×List LK):=[]
 fts:List ((Nat×Nat)×Nat):=[]
def GV (l:List (Nat×List LK))(t:Nat):Option (List LK):=
 match l with
 |[]=>none
 |(u,sh)::r=>bif u==t then some sh else GV r t
def fits:List LK→List AC→Bool
 |[],[]=>true
 | .int::ls,.int _ _::r=>fits ls r
 | .bool::ls,.bool _::r=>fits ls r
 | .str::ls,.str _::r=>fits ls r
 |_,_=>false
def Lw (l:List ((Nat×Nat)×Nat))(S f:Nat):Option Nat:=
 match l with
 |[]=>none
 |((u,k),T)::r=>bif u==S&&k==f then some T else Lw r S f
def eg (l:List (Nat×Shape))(t:Nat):Option Shape:=
 match l with
 |[]=>none
 |(u,sh)::r=>bif u==t then some sh else eg r t
def Env.sl (E:Env)(t:Nat):Option CT:=
 match eg E.ty t with
 |some ⟨false,.sl e,_⟩=>some e
 |_=>none
def Env.str (E:Env)(t:Nat):Bool:=
 match eg E.ty t with
 |some ⟨false,.str,_⟩=>true
 |_=>false
def Env.bool (E:Env)(t:Nat):Bool:=
 match eg E.ty t with
 |some ⟨false,.bool,_⟩=>true
 |_=>false
def Env.bytes (E:Env)(t:Nat):Bool:=
 match eg E.ty t with
 |some ⟨false,.sl (.int .u8),[(te,_)]⟩=>match eg E.ty te with|some ⟨false,.int .u8,_⟩=>true|_=>false
 |_=>false
def jg.live (ep:Nat):jg→Bool
 | .loc ep' _=>ep'==ep
 | .arg=>true
 | .own _=>false
 | .nest ..=>false
 | .part ..=>false
 | .holed ..=>false
def jg.GC (ep:Nat)(flat:Bool):jg→Bool
 | .loc ep' _=>ep'==ep&&flat
 | .arg=>flat
 | .own _=>true
 | .nest ..=>false
 | .part ..=>false
 | .holed ..=>false
def jg.bare:jg→jg
 | .loc ep _=> .loc ep none
 |f=>f
def AC.cv:AC→Bool
 | .int _ _=>true
 | .bool _=>true
 | .str _=>true
 | .fn _=>true
 |_=>false
def tm:Operand→List Nat
 | .tmp t=>[t]
 |_=>[]
def JS (l:List Operand):List Nat:=l.flatMap tm
def AP (an:An)(o:Oper):Bool:=
 match o.dst with
 |some d=>an.mv.contains d&&(an.mb d).isNone
 |none=>false
def akc (an:An)(o:Oper):Bool:=
 match o.dst with
 |some d=>an.nils.contains d
 |none=>false
def sY (an:An)(o:Oper):Bool:=
 match o.op with
 | .assign (.tmp s)=>an.late.contains s
 | .store _ _ (.tmp s)=>an.late.contains s
 |_=>false
def tmO:Option Operand→List Nat
 |some x=>tm x
 |none=>[]
def bp (o:Oper):List Nat:=
 match o.op with
 | .move x=>tm x
 | .assign x=>tm x
 | .pick c a b=>tm c++tm a++tm b
 | .box _ x=>tm x
 | .load _ p=>tm p
 | .store _ p x=>tm p++tm x
 | .nilCheck x=>tm x
 | .binOp _ _ x y _=>tm x++tm y
 | .unOp _ _ x=>tm x
 | .fieldAddr _ p _=>tm p
 | .indexAddr _ x i=>tm x++tm i
 | .index _ x i=>tm x++tm i
 | .build _ parts=>JS (parts.toList.map (·.2))
 | .buildSlice _ _ parts=>JS (parts.toList.map (·.2))
 | .makeSlice _ n c=>tm n++tm c
 | .slice _ x lo hi none=>tm x++tmO lo++tmO hi
 | .convert _ _ x=>tm x
 | .extract (.tmp t) _=>[t]
 | .call {callee:= .builtin _,args,..}=>JS args.toList
 | .call {callee:= .value f,args,..}=>tm f++JS args.toList
 |_=>[]
def xz (an:An)(o:Oper):Bool:=
 match o.op with
 | .move _=>match o.dst with|some d=>an.mv.contains d|none=>false
 | .assign _=>true
 | .box ..=>true
 | .build ..=>true
 | .buildSlice ..=>true
 | .store ..=>true
 | .extract ..=>match o.dst with|some d=>an.mv.contains d|none=>false
 | .call {callee:= .builtin .append,..}=>true
 |_=>false
def zt (an:An)(o:Oper):List Nat:=
 match o.op with
 | .alloc _=>o.dst.toList
 | .box ..=>o.dst.toList
 | .load ..=>match o.dst with|some d=>bif an.mv.contains d then (an.mb d).toList else []|none=>[]
 | .store _ (.tmp p) _=>(an.sb p).toList
 |_=>[]
def gU (an:An)(o:Oper):Bool:=
 match o.op with
 | .move _=>true
 | .load ..=>match o.dst with|some d=> !an.mv.contains d||(an.mb d).isSome|none=>false
 | .extract (.tmp _) _=>true
 | .store _ (.tmp p) _=>(an.sb p).isSome&& !sY an o
 | .assign _=> !sY an o
 | .pick ..| .alloc _| .box ..| .nilCheck _| .binOp ..| .unOp ..| .fieldAddr ..| .indexAddr ..| .index ..| .build ..| .buildSlice ..| .makeSlice ..| .convert ..=>true
 | .slice _ _ _ _ none=> !AP an o
 | .call {callee:= .builtin .len,..}| .call {callee:= .builtin .min,..}| .call {callee:= .builtin .max,..}| .call {callee:= .builtin .append,..}=>true
 | .call {callee:= .value _,..}=>true
 |_=>false
def writes (an:An)(o:Oper):List Nat:=o.dst.toList++(bif xz an o then bp o else [])
def AV.now (ep:Nat):AV→Bool
 | .val _ cs=>cs.all (AC.now ep)
 | .tup _=>true
def AC.eQ:AC→Bool
 | .int ..=>true
 | .bool _=>true
 | .str _=>true
 | .fn _=>true
 | .ptr ..=>true
 |_=>false
def AV.eQ:AV→Bool
 | .val _ cs=>cs.all AC.eQ
 | .tup _=>false
def w5 (E:Env)(T:TypeId)(st:AS)(s off:Nat):Bool:=
 match eg E.ty T,(nth st.boxes s).getD none with
 |some sh,some cs=>((cs.drop off).take sh.ct.size).all AC.eQ
 |_,_=>false
def SO (an:An)(o:Oper):Bool:=match o.dst with|some d=>an.fm.contains d|none=>false
def xy (an:An)(o:Oper):Bool:=
 match o.op,o.dst,o.guard with
 | .load _ (.tmp _),some d,none=>an.mv.contains d&&(an.mb d).isSome
 |_,_,_=>false
def Em (an:An)(o:Oper):Bool:=
 match o.op,o.dst,o.guard with
 | .load _ (.tmp _),some d,none=> !an.mv.contains d&&an.fm.contains d
 |_,_,_=>false
def erS (an:An)(o:Oper):List Nat:=
 match o.op,o.dst with
 | .load ..,some d=>(an.er d).toList
 |_,_=>[]
def bw (E:Env)(an:An)(X:List Nat)(o:Oper)(st:AS):Bool:=
 match o.op with
 | .move x=> !SO an o||(st.rd x).eQ
 | .indexAddr _ x _=>(st.rd x).now st.ep||(match st.rd x with| .val _ [.sl (.loc _ (some (.box b _,_))) _ _]=> !X.contains b|_=>false)
 | .slice _ x _ _ none=>(st.rd x).now st.ep
 | .call {callee:= .value _,args,..}=>args.toList.all fun x=>(st.rd x).now st.ep
 | .load T p=>match st.rd p with
   | .val false [.ptr s off]=> !X.contains s&&(match o.dst with|some d=> !an.mv.contains d||an.mb d==some s|none=>true)&&(!SO an o||w5 E T st s off)
   | .val false [.elt fl _ _ _ _]=>(fl.live st.ep||(match fl with
     | .loc _ (some (.slot b _,_))=>(erS an o).contains b
     | .loc _ (some (.box b _,_))=> !X.contains b
     |_=>false))&& !(SO an o||xy an o)
   |_=> !(SO an o||xy an o)
 | .store _ (.tmp p) _=>((an.sb p).isNone&&(an.eb p).isNone&&(an.es p).isNone)||(match st.rd (.tmp p) with
   | .val false [.ptr s _]=> !X.contains s&&an.sb p==some s
   | .val false [.elt (.loc _ (some (.box b _,_))) _ _ _ _]=>an.eb p==some b&&(an.sb p).isNone&&(an.es p).isNone
   | .val false [.elt (.loc _ (some (.slot b _,_))) _ _ _ _]=>an.es p==some b&&(an.sb p).isNone&&(an.eb p).isNone
   |_=>false)
 | .extract (.tmp t) i=>match st.get t with
   | .tup vs=>match nth vs i with|some x=>x.2.all AC.cv||(match o.dst with|some d=>an.mv.contains d|none=>false)|none=>true
   |_=>true
 |_=>true
def w6 (an:An)(ops:List Oper)(o:Oper):List Nat:=
 (match o.guard with
 |some (j,_)=>((nth ops j).bind (·.dst)).toList
 |none=>[])++erS an o
def meets (a b:List Nat):Bool:=a.any fun x=>b.contains x
def M6 (an:An)(ops:List Oper)(X Y:List Nat)(o p:Oper):Bool:=
 gU an o&&gU an p&& !meets (writes an o) (bp p++w6 an ops p++writes an p)&& !meets (writes an p) (bp o++w6 an ops o)&&
 (zt an o).all (fun d=>Y.contains d)&&(zt an p).all (fun d=>X.contains d)&& !meets (zt an o) (p.dst.toList++zt an p)&& !meets (zt an p) o.dst.toList
def Nv (o p:Oper):Bool:=
 match o.op,p.op,o.dst,p.dst,o.guard,p.guard with
 | .extract (.tmp t) i,.extract (.tmp t') j,some d,some d',none,none=>t==t'&& !(i==j)&& !(d==d')&& !(d==t)&& !(d'==t)
 |_,_,_,_,_,_=>false
def Nl (an:An)(o p:Oper):Bool:=
 match p.op,p.dst,p.guard with
 | .store _ (.tmp q) (.tmp x),none,none=>((an.eb q).isSome&&(an.es q).isNone||(match an.es q with|some b=>(an.eb q).isNone&& !(b==x)&& !(b==q)&& !meets [b] (o.dst.toList++bp o)|none=>false))&&(an.sb q).isNone&& !sY an p&&(match o.op,o.dst,o.guard with
   | .move (.tmp t),some d,none=> !an.mv.contains d&&an.fm.contains d&& !(d==q)&& !(d==x)&& !(t==x)&& !(t==q)&& !(d==t)
   | .extract (.tmp t) _,some d,none=> !(d==q)&& !(d==x)&& !(t==x)&& !(t==q)&& !(d==t)
   |_,_,_=>false)
 |_,_,_=>false
def NZ (an:An)(o p:Oper):Bool:=
 (xy an o&&Em an p||Em an o&&xy an p)&& !meets o.dst.toList (p.dst.toList++bp p)&& !meets p.dst.toList (bp o)
def TR (an:An)(o p:Oper):Bool:=Nv o p||Nl an o p||NZ an o p
def CV (an:An)(ops:List Oper)(X Y:List Nat)(o p:Oper):Bool:=TR an o p||M6 an ops X Y o p
def ui (o:Oper):List Nat:=(o.after.toList.filter (fun e=>Region.binds .any e)).map (·.on)
def JV (a b:List Nat):List Nat:=a.foldl (fun s x=>bif s.contains x then s else x::s) b
def J4:List Oper→List (List Nat)→List (List Nat)
 |[],acc=>acc
 |o::r,acc=>J4 r (acc++[(ui o).foldl (fun s j=>JV (j::(nth acc j).getD []) s) []])
def Rr (A:List (List Nat))(i k:Nat):Bool:=((nth A i).getD []).contains k
def OZ (an:An)(A:List (List Nat))(i:Nat)(fl:Bool):Nat→List Oper→List Nat
 |_,[]=>[]
 |k,o::r=>(bif !Rr A i k&& !Rr A k i&& !(k==i)&& !(fl&&xy an o) then zt an o else [])++OZ an A i fl (k+1) r
def lR (an:An)(A:List (List Nat))(i k:Nat)(ops:List Oper):List Nat:=OZ an A i (match nth ops i with|some o=>Em an o|none=>false) k ops
def EX (an:An)(ops:List Oper)(A:List (List Nat))(i:Nat)(oi:Oper):Nat→List Oper→Bool
 |_,[]=>true
 |j,oj::r=>bif Nat.ble i j then true else (Rr A i j||CV an ops (lR an A j 0 ops) (lR an A i 0 ops) oj oi)&&EX an ops A i oi (j+1) r
def Jn (an:An)(ops:List Oper)(A:List (List Nat)):Nat→List Oper→Bool
 |_,[]=>true
 |i,oi::r=>(ui oi).all (fun k=>Nat.blt k i)&&EX an ops A i oi 0 ops&&Jn an ops A (i+1) r
def KF (an:An)(ops:List Oper):Bool:=Jn an ops (J4 ops []) 0 ops
inductive Ex where
 |normal|ret|exit (id:Nat)
inductive FK where
 |own (tag:Option Nat)|arg|loc|lio (j t:Nat)|nil
def FK.flag:FK→jg
 | .own t=> .own t
 | .arg=> .arg
 | .loc=> .loc 0 none
 | .lio j t=> .loc 0 (some (.io j,t))
 | .nil=> .arg
def FK.isNil:FK→Bool
 | .nil=>true
 |_=>false
inductive FT where
 |int (k:IntKind)|bool|str|sl (fl:FK) (e:CT)|pair (a b:FT)
@[reducible] def FT.ct:FT→CT
  | .int k=> .int k
  | .bool=> .bool
  | .str=> .str
  | .sl _ e=> .sl e
  | .pair a b=> .pair a.ct b.ct
def rb:(t:FT)→t.ct.D→List AC
 | .int k,n=>[.int k n]
 | .bool,b=>[.bool b]
 | .str,s=>[.str s]
 | .sl fl e,xs=>[bif fl.isNil then .nilsl else .sl fl.flag e xs]
 | .pair a b,x=>rb a x.1++rb b x.2
def FK.fits:FK→jg→Bool
 | .own t,.own t'=>t==t'
 | .arg,.arg=>true
 | .loc,.loc 0 none=>true
 | .lio j t,.loc 0 (some (.io j',t'))=>j==j'&&t==t'
 |_,_=>false
def Jk:(t:FT)→List AC→Option (t.ct.D×List AC)
 | .int k,.int k' n::r=>if k'=k then some (n,r) else none
 | .bool,.bool b::r=>some (b,r)
 | .str,.str s::r=>some (s,r)
 | .sl fl e,.sl fl' e' xs::r=>if h:e'=e then bif fl.fits fl' then some (h▸xs,r) else none else none
 | .sl fl _,.nilsl::r=>bif fl.isNil then some ([],r) else none
 | .pair a b,cs=>(Jk a cs).bind fun x=>(Jk b x.2).bind fun y=>some ((x.1,y.1),y.2)
 |_,_=>none
inductive PD where
 |bot|ptr (s off:Nat)|fn (f:Nat)|data (g:Bool) (t:FT)
inductive IoD where
 |none|some (t:FT)|ptr
structure SD where
 slots:List PD
 boxes:List (Option FT)
 io:IoD:= .none
@[reducible] def BK:List PD→Type
  |[]=>Unit
  | .data _ t::r=>t.ct.D×BK r
  |_::r=>BK r
@[reducible] def Bb:List (Option FT)→Type
  |[]=>Unit
  |some t::r=>t.ct.D×Bb r
  |none::r=>Bb r
@[reducible] def ioD:IoD→Type
  | .none=>Unit
  | .some t=>t.ct.D
  | .ptr=>Unit
@[reducible] def SD.D (d:SD):Type:=BK d.slots×Bb d.boxes×ioD d.io
def lT:(l:List PD)→BK l→List AV
 |[],_=>[]
 | .data g t::r,x=> .val g (rb t x.1)::lT r x.2
 | .bot::r,x=> .bot::lT r x
 | .ptr s off::r,x=> .one (.ptr s off)::lT r x
 | .fn f::r,x=> .one (.fn f)::lT r x
def uM:(l:List (Option FT))→Bb l→List (Option (List AC))
 |[],_=>[]
 |some t::r,x=>some (rb t x.1)::uM r x.2
 |none::r,x=>none::uM r x
def Su:(o:IoD)→ioD o→List AC
 | .none,_=>[]
 | .some t,x=>rb t x
 | .ptr,_=>[.ptr 0 0]
def SD.enc (d:SD)(x:d.D):AS:=⟨lT d.slots x.1,uM d.boxes x.2.1,0,List.replicate d.slots.length false,Su d.io x.2.2⟩
def AV.PL:AV→Bool
 | .val false [.bot]=>true
 |_=>false
def AV.PM (s off:Nat):AV→Bool
 | .val false [.ptr s' off']=>s==s'&&off==off'
 |_=>false
def AV.Q8 (f:Nat):AV→Bool
 | .val false [.fn f']=>f==f'
 |_=>false
def ed:(l:List PD)→List AV→Option (BK l)
 |[],[]=>some ()
 | .data g t::r,.val g' cs::vs=>bif g==g' then (match Jk t cs with|some (x,[])=>(ed r vs).bind fun y=>some (x,y)|_=>none) else none
 | .bot::r,v::vs=>bif v.PL then ed r vs else none
 | .ptr s off::r,v::vs=>bif v.PM s off then ed r vs else none
 | .fn f::r,v::vs=>bif v.Q8 f then ed r vs else none
 |_,_=>none
def jM:(l:List (Option FT))→List (Option (List AC))→Option (Bb l)
 |[],[]=>some ()
 |some t::r,some cs::bs=>match Jk t cs with|some (x,[])=>(jM r bs).bind fun y=>some (x,y)|_=>none
 |none::r,none::bs=>jM r bs
 |_,_=>none
def NV:List AC→Bool
 |[.ptr 0 0]=>true
 |_=>false
def KE:(o:IoD)→List AC→Option (ioD o)
 | .none,[]=>some ()
 | .some t,cs=>match Jk t cs with|some (x,[])=>some x|_=>none
 | .ptr,cs=>bif NV cs then some () else none
 |_,_=>none
def SD.dec (d:SD)(st:AS):Option d.D:=
 bif st.ep==0&&st.iss==List.replicate d.slots.length false then
  (ed d.slots st.slots).bind fun x=>(jM d.boxes st.boxes).bind fun y=>(KE d.io st.io).bind fun z=>some (x,y,z)
 else none
structure aI where
 sd:SD
 run:{R:Type}→sd.D→(Ex→AS→Option R)→Option R
abbrev aN:=Nat→aI
def aI.go {R:Type}(l:aI)(st:AS)(K:Ex→AS→Option R):Option R:=aa (l.sd.dec st) fun x=>l.run x K
def aI.none:aI:=⟨⟨[],[],.none⟩,fun _ _=>Option.none⟩
def aN.nil:aN:=fun _=>aI.none
def aN.add (Λ:aN)(k:Nat)(l:aI):aN:=fun j=>bif j==k then l else Λ j
section
variable {R:Type} (E:Env) (Γ:aJ) (an:An)
def uW (o:Oper)(x:Operand)(st:AS)(K:AS→Option R):Option R:=
 match o.dst with
 |some d=>if an.mv.contains d then K ((st.take x).2.put o.dst (st.take x).1) else K (st.put o.dst (st.rd x))
 |none=>none
def nG (o:Oper)(x:Operand)(st:AS)(K:AS→Option R):Option R:=
 match st.take x with
 |(.val false [.nilsl],_)=>match E.sl o.type with
  |some e=>K (st.put o.dst (.one (bif akc an o then .nilsl else .sl (.own none) e [])))
  |none=>none
 |(v,st')=>K (st'.put o.dst v)
def xj (o:Oper)(c a b:Operand)(st:AS)(K:AS→Option R):Option R:=
 match st.rd c with
 | .val false [.bool t]=>match st.rd a,st.rd b with
   | .val false [.bool x],.val false [.bool y]=>K (st.put o.dst (.one (.bool (cond t x y))))
   |va,vb=>cond t (K (st.put o.dst va)) (K (st.put o.dst vb))
 |_=>none
def ve (o:Oper)(T:TypeId)(st:AS)(K:AS→Option R):Option R:=
 match o.dst,eg E.ty T with
 |some d,some sh=>match nth st.boxes d with
  |some none=>K ((st.bO d (some (cellsOf sh.ct (.own none) sh.ct.zero))).put o.dst (.one (.ptr d 0)))
  |_=>none
 |_,_=>none
def HL (o:Oper)(x:Operand)(st:AS)(K:AS→Option R):Option R:=
 match o.dst,st.take x with
 |some d,(.val _ cs,st')=>
  match nth st'.boxes d with
  |some none=>if cs.all AC.Az then K ((st'.bO d (some cs)).put o.dst (.one (.ptr d 0))) else none
  |_=>none
 |_,_=>none
def Ji (ep:Nat)(r:dX)(t:Nat)(e:CT)(i:Int):Nat→List AC→List AC
 |_,[]=>[]
 |p,.sl _ e' xs::cs=> .sl (.nest ep r t e i p) e' xs::Ji ep r t e i (p+1) cs
 |p,c::cs=>c::Ji ep r t e i (p+1) cs
def TG (o:Oper)(ep:Nat)(fl:jg)(e:CT)(i:Int)(off:Nat)(cs:List AC):List AC:=
 match fl,o.dst with
 | .loc _ (some (r,t)),some d=>bif an.nest.contains d then Ji ep r t e i off cs else cs
 |_,_=>cs
def we (o:Oper)(sh:Shape)(fl:jg)(e:CT)(i:Int)(off:Nat)(st:AS)(K:AS→Option R):Option R:=
 match fl with
 | .loc _ (some (r,t))=>
   match st.cc r with
   |some (.sl (.own (some t')) e' ys)=>
    if h:e'=e then
     if t'=t∧off+sh.ct.size≤e.size then
      aa (idx (h▸ys:List e.D) i) fun y=>K (st.put o.dst (.val sh.agg (((cellsOf e (.loc st.ep none) y).drop off).take sh.ct.size)))
     else none
    else none
   |_=>none
 |_=>none
def u7 (o:Oper)(sh:Shape)(fl:jg)(e:CT)(i:Int)(off:Nat)(st:AS)(K:AS→Option R):Option R:=
 match fl with
 | .loc _ (some (r,t))=>
   match st.cc r with
   |some (.sl (.own (some t')) e' ys)=>
    if h:e'=e then
     if t'=t∧off=0∧sh.ct=e then
      aa (idx (h▸ys:List e.D) i) fun y=>K ((st.bK r (.sl (.holed (some t) i (some st.ep)) e (h▸ys))).put o.dst (.val sh.agg (cellsOf e (.own none) y)))
     else none
    else none
   |_=>none
 |_=>none
def oP (o:Oper)(T:TypeId)(p:Operand)(st:AS)(K:AS→Option R):Option R:=
 match eg E.ty T,st.rd p with
 |some sh,.val false [.ptr s off]=>
  match (nth st.boxes s).getD none with
  |some cs=>
   if off+sh.ct.size≤cs.length then
    match o.dst with
    |some d=>
     if an.mv.contains d then
      K ((st.bO s (some (aY cs off (au st.ep ((cs.drop off).take sh.ct.size))))).put o.dst (.val sh.agg ((cs.drop off).take sh.ct.size)))
     else K (st.put o.dst (.val sh.agg (nH st.ep (.box s) off ((cs.drop off).take sh.ct.size))))
    |none=>none
   else none
  |none=>none
 |some sh,.val false [.elt fl e x i off]=>
  if AP an o then u7 o sh fl e i off st K
  else if fl.live st.ep then
   if off+sh.ct.size≤e.size then K (st.put o.dst (.val sh.agg (TG an o st.ep fl e i off (((cellsOf e fl.bare x).drop off).take sh.ct.size)))) else none
  else we o sh fl e i off st K
 |_,_=>none
def pN (T:TypeId)(p x:Operand)(st:AS)(K:AS→Option R):Option R:=
 match eg E.ty T,st.rd p with
 |some sh,.val false [.ptr s off]=>
  match st.take x with
  |(.val _ vs,st')=>
   match (nth st'.boxes s).getD none with
   |some cs=>
    if vs.length=sh.ct.size∧vs.all AC.Az then
     if off+sh.ct.size≤cs.length then K (st'.bO s (some (aY cs off vs))) else none
    else none
   |none=>none
  |_=>none
 |some sh,.val false [.elt (.loc _ (some (r,t))) e _ i off]=>
  match st.take x with
  |(.val _ vs,st')=>
   if vs.length=sh.ct.size∧off+sh.ct.size≤e.size then st'.iT r t e i off vs K else none
  |_=>none
 |_,_=>none
def sO (o:Oper)(S:TypeId)(p:Operand)(f:Nat)(st:AS)(K:AS→Option R):Option R:=
 match eg E.ty S,st.rd p with
 |some ⟨true,_,offs⟩,.val false [.ptr s off]=>match nth offs f with|some (fo,_)=>K (st.put o.dst (.one (.ptr s (off+fo))))|none=>none
 |some ⟨true,_,offs⟩,.val false [.elt fl e x i off]=>match nth offs f with|some (fo,_)=>K (st.put o.dst (.one (.elt fl e x i (off+fo))))|none=>none
 |_,_=>none
def fV (o:Oper)(T:TypeId)(x i:Operand)(st:AS)(K:AS→Option R):Option R:=
 match E.sl T,(st.rd x).fresh st,st.rd i with
 |some e',.val false [.sl fl e xs],.val false [.int _ n]=>
  if e'=e∧fl.live st.ep then aa (idx xs n) fun y=>K (st.put o.dst (.one (.elt fl e y n 0))) else none
 |_,_,_=>none
def uz (o:Oper)(T:TypeId)(x i:Operand)(st:AS)(K:AS→Option R):Option R:=
 match st.rd x,st.rd i with
 | .val false [.str s],.val false [.int _ n]=>if E.str T then aa (idx s n) fun b=>K (st.put o.dst (.one (.int .u8 b.toNat))) else none
 |_,_=>none
def uu (o:Oper)(T:TypeId)(parts:List (Nat×Operand))(st:AS)(K:AS→Option R):Option R:=
 match eg E.ty T with
 |some ⟨true,ct,offs⟩=>
  match bE st (parts.map (·.2)) with
  |(vs,st')=>
   match pD offs (cellsOf ct (.own none) ct.zero) ((parts.map (·.1)).zip (vs.map AV.cells)) with
   |some cs=>K (st'.put o.dst (.val true cs))
   |none=>none
 |_=>none
def fj (o:Oper)(T:TypeId)(len:Nat)(parts:List (Nat×Operand))(st:AS)(K:AS→Option R):Option R:=
 match E.sl T with
 |some e=>
  if parts.length=len∧Ac 0 parts∧len≤1000 then
   match bE st (parts.map (·.2)) with
   |(vs,st')=>
    match uT e (vs.map AV.cells) with
    |some xs=>K (st'.jj o.dst e xs)
    |none=>none
  else none
 |none=>none
def ij (o:Oper)(T:TypeId)(n c:Operand)(st:AS)(K:AS→Option R):Option R:=
 match E.sl T,st.rd n,st.rd c with
 |some e,.val false [.int .i64 len],.val false [.int .i64 cap]=>
  if 0≤len∧len≤cap then room cap.toNat (K (st.jj o.dst e (List.replicate len.toNat e.zero))) else none
 |_,_,_=>none
def gm (st:AS)(lo hi:Option Operand)(n:Nat)(K:Int→Int→Option R):Option R:=
 match lo.map st.rd,hi.map st.rd with
 |none,none=>K 0 n
 |some (.val false [.int _ a]),none=>K a n
 |none,some (.val false [.int _ b])=>K 0 b
 |some (.val false [.int _ a]),some (.val false [.int _ b])=>K a b
 |_,_=>none
def pH (o:Oper)(T:TypeId)(x:Operand)(lo hi:Option Operand)(st:AS)(K:AS→Option R):Option R:=
 match st.take x,lo.map st.rd,hi with
 |(.val false [.sl (.own _) e xs],st'),some (.val false [.int _ a]),none=>
  if E.sl T=some e then aa (sub xs a xs.length) fun xs'=>K (st'.jj o.dst e xs') else none
 |_,_,_=>none
def EY (o:Oper)(fl:jg)(a:Int):jg:=
 match fl,o.dst with
 | .loc ep (some (r,t)),some d=>bif an.nest.contains d then .part ep r t a else .loc ep none
 |fl,_=>fl.bare
def tD (o:Oper)(T:TypeId)(x:Operand)(lo hi:Option Operand)(st:AS)(K:AS→Option R):Option R:=
 if AP an o then pH E o T x lo hi st K else
 match (st.rd x).fresh st with
 | .val false [.str s]=>if E.str T then gm st lo hi s.length fun a b=>aa (sub s a b) fun s'=>K (st.put o.dst (.one (.str s'))) else none
 | .val false [.sl fl e xs]=>
   if E.sl T=some e∧fl.live st.ep then gm st lo hi xs.length fun a b=>aa (sub xs a b) fun xs'=>K (st.put o.dst (.one (.sl (EY an o fl a) e xs'))) else none
 |_=>none
def fy (o:Oper)(src dst:TypeId)(x:Operand)(st:AS)(K:AS→Option R):Option R:=
 match eg E.ty src,eg E.ty dst,st.rd x with
 |some _,some ⟨false,.int k,_⟩,.val false [.int _ n]=>K (st.put o.dst (.one (.int k (k.wrap n))))
 |some ⟨false,.str,_⟩,some ⟨false,.str,_⟩,.val false [.str s]=>K (st.put o.dst (.one (.str s)))
 |some ⟨false,.str,_⟩,some _,.val false [.str s]=>
  if E.bytes dst then room s.length (K (st.jj o.dst (.int .u8) (a7 s))) else none
 |some _,some ⟨false,.str,_⟩,.val false [.sl fl (.int .u8) xs]=>
  if E.bytes src∧fl.live st.ep then K (st.put o.dst (.one (.str (bytesOf xs)))) else none
 |_,_,_=>none
def fA (o:Oper)(t i:Nat)(st:AS)(K:AS→Option R):Option R:=
 match st.get t with
 | .tup vs=>match nth vs i with
   |some (g,cs)=>K ((st.put (some t) (.tup (dj vs i (g,au 0 cs)))).put o.dst (.val g cs))
   |none=>none
 |_=>none
def EM (o:Oper)(ts:List TypeId)(args:List Operand)(st:AS)(K:AS→Option R):Option R:=
 match ts,args.map st.rd with
 |[t],[.val false [.str s]]=>if E.str t then K (st.put o.dst (.one (.int .i64 s.length))) else none
 |[t],[.val false [.sl _ _ xs]]=>if (E.sl t).isSome then K (st.put o.dst (.one (.int .i64 xs.length))) else none
 |_,_=>none
def F0 (o:Oper)(args:List Operand)(st:AS)(K:AS→Option R):Option R:=
 match args.map st.rd with
 |[.val false [.int k x],.val false [.int _ y]]=>K (st.put o.dst (.one (.int k (if y<x then y else x))))
 |_=>none
def FZ (o:Oper)(args:List Operand)(st:AS)(K:AS→Option R):Option R:=
 match args.map st.rd with
 |[.val false [.int k x],.val false [.int _ y]]=>K (st.put o.dst (.one (.int k (if y>x then y else x))))
 |_=>none
def Gq (o:Oper)(ts:List TypeId)(args:List Operand)(st:AS)(K:AS→Option R):Option R:=
 match ts,args.map st.rd with
 |[t,t'],[.val false [.sl (.part ep r tg lo) e xs],.val false [.str s]]=>
  match st.cc r with
  |some (.sl (.own (some tg')) e' ys)=>
   if h:e'= .int .u8 then
    if e= .int .u8∧E.sl t=some (.int .u8)∧E.str t'=true∧ep=st.ep∧tg'=tg then
     K ({st.bK r (.sl (.own (some tg)) (.int .u8) (uX (h▸ys:List (CT.int .u8).D) lo.toNat (a7 (s.take xs.length)))) with ep:=st.ep+1}.put o.dst (.one (.int .i64 (min xs.length s.length:Nat))))
    else none
   else none
  |_=>none
 |_,_=>none
def xG (o:Oper)(S:TypeId)(t f:Nat)(st:AS)(K:AS→Option R):Option R:=
 match eg E.ty S,st.get t,Lw E.fts S f with
 |some ⟨true,ct,offs⟩,.val true cs,some T=>
  match nth offs f,eg E.ty T with
  |some (fo,n),some sh=>
   if n=sh.ct.size∧cs.length=ct.size∧fo+n≤cs.length then
    K ((st.put (some t) (.val true (aY cs fo (au st.ep ((cs.drop fo).take n))))).put o.dst (.val sh.agg ((cs.drop fo).take n)))
   else none
  |_,_=>none
 |_,_,_=>none
def pR (o:Oper)(ts:List TypeId)(args:List Operand)(st:AS)(K:AS→Option R):Option R:=
 match ts,args with
 |[t,t'],[s,x]=>
  match st.take s with
  |(.val false [.sl (.own _) e xs],st1)=>
   match st1.take x with
   |(.val false [.sl fl e' ys],st2)=>
    if h:e'=e then
     if E.sl t=some e∧E.sl t'=some e∧fl.GC st.ep e.flat then
      room (xs.length+ys.length) (K (st2.jj o.dst e (xs++(h▸ys:List e.D))))
     else none
    else none
   |(.val false [.str s],st2)=>
    if h:e= .int .u8 then
     if E.sl t=some e∧E.str t' then room (xs.length+s.length) (K (st2.jj o.dst (.int .u8) ((h▸xs:List (CT.int .u8).D)++a7 s))) else none
    else none
   |_=>none
  |_=>none
 |_,_=>none
def Bj:Nat→List AC→Option (dX×Nat)
 |_,[]=>none
 |j,.sl (.loc _ (some (r,_))) _ _::_=>some (r,j)
 |j,_::cs=>Bj (j+1) cs
def dX.pos:dX→Nat
 | .slot _ j=>j
 | .box _ j=>j
 | .io j=>j
def AS.mm (st:AS):dX→Option (List AC)
 | .slot s _=>match st.get s with| .val _ cs=>some cs|_=>none
 | .box s _=>(nth st.boxes s).getD none
 | .io _=>some st.io
def AS.jl (st:AS)(r:dX)(cs:List AC):AS:=
 match r with
 | .slot s _=>match st.get s with| .val g _=>st.put (some s) (.val g cs)|_=>st
 | .box s _=>st.bO s (some cs)
 | .io _=>{st with io:=cs}
def fX:List AC→List AC→Option (List AC)
 |[],[]=>some []
 | .sl (.loc _ (some (_,t))) _ _::os,.sl (.own (some t')) e xs::ss=>bif t'==t then (fX os ss).bind fun r=>some (.sl (.own none) e xs::r) else none
 | .int k n::os,.int _ _::ss=>(fX os ss).bind fun r=>some (.int k n::r)
 | .bool b::os,.bool _::ss=>(fX os ss).bind fun r=>some (.bool b::r)
 | .str x::os,.str _::ss=>(fX os ss).bind fun r=>some (.str x::r)
 |_,_=>none
def uj:List AC→List AC→List AC→Option (List AC)
 |[],[],[]=>some []
 | .sl (.loc _ (some (_,t'))) _ _::os,.sl (.own (some t)) _ _::ss,.sl (.own _) e ys::bs=>bif t==t' then (uj os ss bs).bind fun r=>some (.sl (.own (some t)) e ys::r) else none
 | .int _ _::os,.int k n::ss,.int _ _::bs=>(uj os ss bs).bind fun r=>some (.int k n::r)
 | .bool _::os,.bool b::ss,.bool _::bs=>(uj os ss bs).bind fun r=>some (.bool b::r)
 | .str _::os,.str x::ss,.str _::bs=>(uj os ss bs).bind fun r=>some (.str x::r)
 |_,_,_=>none
def AV.cv:AV→Bool
 | .val _ cs=>cs.all AC.cv
 | .tup vs=>vs.all fun x=>x.2.all AC.cv
def HO (st:AS)(x:Operand):Option (AV×AS):=
 match st.rd x with
 | .val g cs=>
   match Bj 0 cs with
   |some (r,j)=>
    match st.mm r with
    |some csO=>
     match fX cs ((csO.drop (r.pos-j)).take cs.length) with
     |some cs'=>some (.val g cs',st.jl r (aY csO (r.pos-j) (au st.ep ((csO.drop (r.pos-j)).take cs.length))))
     |none=>none
    |none=>none
   |none=>none
 |_=>none
def GQ (o:Oper)(x:Operand)(st:AS)(K:AS→Option R):Option R:=
 match HO st x with
 |some (v,st')=>K (st'.put o.dst v)
 |none=>none
def pO (T:TypeId)(p x:Operand)(st:AS)(K:AS→Option R):Option R:=
 match eg E.ty T,st.rd p with
 |some sh,.val false [.ptr s off]=>
  match HO st x with
  |some (.val _ vs,st')=>
   match (nth st'.boxes s).getD none with
   |some cs=>
    if vs.length=sh.ct.size∧vs.all AC.Az then
     if off+sh.ct.size≤cs.length then K (st'.bO s (some (aY cs off vs))) else none
    else none
   |none=>none
  |_=>none
 |_,_=>none
def G1 (o:Oper)(f:Nat)(g:Bool)(cs:List AC)(xs:List Operand)(st:AS)(K:AS→Option R):Option R:=
 match cs with
 |[.sl (.nest ep r t en i off) _ _]=>
  match st.mm r with
  |some csO=>
   match (csO.drop r.pos).take 1 with
   |[.sl (.own (some t')) e ys]=>
    bif (ep==st.ep)&&(t'==t)&&(en.size==e.size)&&xs.all (fun x=>(st.rd x).cv) then
     aa (idx ys i) fun x=>
      match ((cellsOf e (.own none) x).drop off).take 1 with
      |[.sl (.own _) e2 zs]=>
       aa ((Γ f).fn (.val g [.sl (.own none) e2 zs]::xs.map st.rd)) fun y=>
        match (Γ f).back y with
        |[.sl (.own _) e3 zs']=>
         match cQ e (aY (cellsOf e (.own none) x) off [.sl (.own none) e3 zs']) with
         |some (x',[])=>bif ((Γ f).av y).cv then K ({st.jl r (aY csO r.pos [.sl (.own (some t)) e (ys.set i.toNat x')]) with ep:=st.ep+1}.put o.dst ((Γ f).av y)) else none
         |_=>none
        |_=>none
      |_=>none
    else none
   |_=>none
  |none=>none
 |_=>none
def ioC (o:Oper)(f:Nat)(args:List Operand)(st:AS)(K:AS→Option R):Option R:=
 match args with
 |x0::xs=>
  match st.rd x0 with
  | .val g cs=>
    match Bj 0 cs with
    |some (r,j)=>
     match st.mm r with
     |some csO=>
      match fX cs ((csO.drop (r.pos-j)).take cs.length) with
      |some cs'=>
       bif xs.all (fun x=>(st.rd x).cv) then
        aa ((Γ f).fn (.val g cs'::xs.map st.rd)) fun y=>
         match uj cs ((csO.drop (r.pos-j)).take cs.length) ((Γ f).back y) with
         |some seg=>bif ((Γ f).av y).cv then K ({st.jl r (aY csO (r.pos-j) seg) with ep:=st.ep+1}.put o.dst ((Γ f).av y)) else none
         |none=>none
       else none
      |none=>none
     |none=>none
    |none=>G1 Γ o f g cs xs st K
  |_=>none
 |[]=>none
def AC.strip:AC→AC
 | .sl (.own _) e xs=> .sl (.own none) e xs
 | .sl (.loc _ _) _ _=> .bot
 | .sl (.nest ..) _ _=> .bot
 | .sl (.part ..) _ _=> .bot
 | .sl (.holed _ i _) e xs=> .sl (.holed none i none) e xs
 | .ptr _ _=> .bot
 | .elt _ _ _ _ _=> .bot
 |c=>c
def AC.yX:AC→Bool
 | .sl (.own _) _ _=>true
 |c=>c.cv
def uK (o:Oper)(f:Nat)(args:List Operand)(st:AS)(K:AS→Option R):Option R:=
 match args with
 |x0::xs=>
  match st.rd x0 with
  | .val false [.ptr s 0]=>
    match (nth st.boxes s).getD none with
    |some cs=>
     bif cs.all AC.yX&&xs.all (fun x=>(st.rd x).cv) then
      aa ((Γ f).fn (.val true (cs.map AC.strip)::xs.map st.rd)) fun y=>
       bif ((Γ f).back y).all AC.yX&&((Γ f).av y).cv then
        K ({(st.bO s (some (tA (st.ep+1) (st.eN (some s)) 0 ((Γ f).back y)))).cp (some s) with ep:=st.ep+1}.put o.dst ((Γ f).av y))
       else none
     else none
    |none=>none
  |_=>none
 |[]=>none
def wT (o:Oper)(f:Operand)(args:List Operand)(st:AS)(K:AS→Option R):Option R:=
 match st.rd f with
 | .val false [.fn f]=>
   bif (Γ f).bx then uK Γ o f args st K else
   bif (Γ f).io then ioC Γ o f args st K
   else aa ((Γ f).fn (args.map fun x=>((st.rd x).fresh st).asArg st.ep)) fun r=>cond ((Γ f).sel r) (K ((st.cp o.dst).put o.dst (((Γ f).av r).CW st.ep (st.eN o.dst)))) (K ((st.cp o.dst).put o.dst (((Γ f).alt r).CW st.ep (st.eN o.dst))))
 |_=>none
def wu {R:Type}(op:BinOp)(b:Bool)(K:AC→Option R):Option R:=
 match op with
 | .eql=>K (.bool b)
 | .neq=>K (.bool (!b))
 |_=>none
def tM (o:Oper)(op:BinOp)(T:TypeId)(x y:Operand)(st:AS)(K:AS→Option R):Option R:=
 match st.rd x,st.rd y with
 | .val false [.bool a],.val false [.bool b]=>if E.bool T then yi op (.one (.bool a)) (.one (.bool b)) fun c=>K (st.put o.dst (.one c)) else none
 | .val true xs,.val true ys=>match GV E.eqs T with
   |some ls=>if fits ls xs then yi op (.val true xs) (.val true ys) fun c=>K (st.put o.dst (.one c)) else none
   |none=>none
 | .val false [.sl fl _ xs],.val false [.nilsl]=>if (E.sl T).isSome∧fl.live st.ep then (if xs.length=0 then none else wu op false fun c=>K (st.put o.dst (.one c))) else none
 | .val false [.nilsl],.val false [.nilsl]=>if (E.sl T).isSome then wu op true fun c=>K (st.put o.dst (.one c)) else none
 |a,b=>yi op a b fun c=>K (st.put o.dst (.one c))
def aV (o:Oper)(st:AS)(K:AS→Option R):Option R:=
 match o.op with
 | .move x=>uW an o x st K
 | .assign x=>if sY an o then GQ o x st K else nG E an o x st K
 | .pick c a b=>xj o c a b st K
 | .alloc T=>ve E o T st K
 | .box _ x=>HL o x st K
 | .load T p=>oP E an o T p st K
 | .store T p x=>match o.dst with|none=>(if sY an o then pO E T p x st K else pN E T p x st K)|some _=>none
 | .nilCheck x=>
   match st.rd x with
   | .val false [.ptr s off]=>K (st.put o.dst (.one (.ptr s off)))
   | .val false [.elt fl e y i off]=>K (st.put o.dst (.one (.elt fl e y i off)))
   |_=>none
 | .binOp op T x y _=>tM E o op T x y st K
 | .unOp op _ x=>Wm op (st.rd x) fun c=>K (st.put o.dst (.one c))
 | .fieldAddr S p f=>sO E o S p f st K
 | .indexAddr T x i=>fV E o T x i st K
 | .index T x i=>uz E o T x i st K
 | .build T parts=>uu E o T parts.toList st K
 | .buildSlice T len parts=>fj E o T len parts.toList st K
 | .makeSlice T n c=>ij E o T n c st K
 | .slice T x lo hi none=>tD E an o T x lo hi st K
 | .field S (.tmp t) f=>xG E o S t f st K
 | .call {callee:= .builtin .copy,args,argTypes}=>Gq E o argTypes.toList args.toList st K
 | .convert src dst x=>fy E o src dst x st K
 | .extract (.tmp t) i=>fA o t i st K
 | .call {callee:= .builtin .len,args,argTypes}=>EM E o argTypes.toList args.toList st K
 | .call {callee:= .builtin .min,args,..}=>F0 o args.toList st K
 | .call {callee:= .builtin .max,args,..}=>FZ o args.toList st K
 | .call {callee:= .builtin .append,args,argTypes}=>pR E o argTypes.toList args.toList st K
 | .call {callee:= .value f,args,..}=>wT Γ o f args.toList st K
 |_=>none
def cU (ops:List Oper)(o:Oper)(st:AS)(K:AS→Option R):Option R:=
 match o.guard with
 |none=>aV E Γ an o st K
 |some (j,want)=>
  match (nth ops j).bind (·.dst) with
  |some d=>
   match st.get d with
   | .val false [.bool b]=>
     let go (t:Bool):Option R:=
      if t==want then aV E Γ an o (st.put (some d) (.one (.bool t))) K else K ((st.put (some d) (.one (.bool t))).put o.dst (.one .un))
     cond b (go true) (go false)
   | .val false [.un]=>K (st.put o.dst (.one .un))
   |_=>none
  |none=>none
def Jl (ops:List Oper):List Oper→AS→(AS→Option R)→Option R
 |[],st,K=>K st
 |o::r,st,K=>cU E Γ an ops o st fun st'=>Jl ops r st' K
def cX:Code→Nat
 | .region id _ _=>id
 | .seq a _=>cX a
 | .block _ c=>cX c
 | .loop c=>cX c
 |_=>0
def dz:Code→List Code
 | .seq a b=>dz a++dz b
 | .cond _ a b=>dz a++dz b
 | .block _ c=>dz c
 | .loop c=>c::dz c
 |_=>[]
def ah (fn:Func)(k:Nat):Code:=(nth (dz (fn.body.getD .skip)) k).getD .skip
def rU (j:Nat):Nat:=3*(4096*1000003+j)
def dX.xu:dX→Option Nat
 | .slot s j=>bif Nat.ble 4096 j then none else bif Nat.ble 1000000 s then none else some (3*(4096*s+j))
 | .box s j=>bif Nat.ble 4096 j then none else some (3*(4096*s+j)+1)
 | .io j=>bif Nat.ble 4096 j then none else some (rU j)
def AC.To (io:List AC)(j t:Nat)(e:CT):Option (List e.D):=
 match nth io j with
 |some (.sl (.own (some t')) e' ys)=>if h:e'=e then bif t'==t then some (h▸ys) else none else none
 |_=>none
def AC.mask (keep:List Nat)(ep:Nat)(io:List AC)(rt:dX):AC→AC
 | .ptr s off=>if keep.contains s then .ptr s off else .bot
 | .sl (.loc e pv) t xs=>
   match pv with
   |some (.io j,n)=>match AC.To io j n t with
    |some ys=> .sl (.loc 0 ((dX.xu (.io j)).map fun q=>(.io j,q))) t ys
    |none=>if e==ep then .sl (.loc 0 none) t xs else .bot
   |_=>if e==ep then .sl (.loc 0 none) t xs else .bot
 | .sl (.own _) t xs=> .sl (.own rt.xu) t xs
 | .sl (.nest ..) _ _=> .bot
 | .sl (.part ..) _ _=> .bot
 | .sl (.holed _ i _) e xs=> .sl (.holed none i none) e xs
 | .elt _ _ _ _ _=> .bot
 |c=>c
def Bt (keep:List Nat)(ep:Nat)(io:List AC)(f:Nat→dX):Nat→List AC→List AC
 |_,[]=>[]
 |j,c::cs=>c.mask keep ep io (f j)::Bt keep ep io f (j+1) cs
def AV.mask (keep:List Nat)(ep:Nat)(io:List AC)(s:Nat):AV→AV
 | .val g cs=> .val g (Bt keep ep io (.slot s) 0 cs)
 | .tup _=> .bot
def gT (keep:List Nat)(ep:Nat)(io:List AC):Nat→List AV→List AV
 |_,[]=>[]
 |i,v::r=>(if keep.contains i then v.mask keep ep io i else .bot)::gT keep ep io (i+1) r
def gS (keep:List Nat)(ep:Nat)(io:List AC):Nat→List (Option (List AC))→List (Option (List AC))
 |_,[]=>[]
 |i,b::r=>(if keep.contains i then b.map (Bt keep ep io (.box i) 0) else none)::gS keep ep io (i+1) r
def N2 (keep:List Nat):Nat→List AC→List AC
 |_,[]=>[]
 |j,c::cs=>(match c with| .sl (.own _) e xs=> .sl (.own (dX.xu (.io j))) e xs| .sl (.holed _ i _) e xs=> .sl (.holed none i none) e xs| .ptr s off=>if keep.contains s then .ptr s off else .bot|c=>bif c.cv then c else .bot)::N2 keep (j+1) cs
def AS.mask (keep:List Nat)(st:AS):AS:=
 ⟨gT keep st.ep st.io 0 st.slots,gS keep st.ep st.io 0 st.boxes,0,List.replicate st.slots.length false,N2 keep 0 st.io⟩
def getBool (st:AS)(s:Nat):Option Bool:=
 match st.get s with
 | .val false [.bool b]=>some b
 |_=>none
def cB (an:An)(ds:List Nat)(o:Oper):Bool:=
 match o.op with
 | .assign (.const _)=> !sY an o
 | .assign (.tmp t)=>ds.contains t&& !sY an o
 | .move _| .load ..=>match o.dst with|some d=> !an.mv.contains d|none=>false
 | .slice ..=> !AP an o
 | .pick ..| .binOp ..| .unOp ..| .fieldAddr ..| .indexAddr ..| .index ..| .nilCheck _=>true
 | .build _ ps=>ps.isEmpty
 | .call {callee:= .builtin .len,..}| .call {callee:= .builtin .min,..}| .call {callee:= .builtin .max,..}=>true
 | .call {callee:= .value _,..}=>true
 |_=>false
def yP (ops:List Oper):List Nat:=ops.filterMap (·.dst)
def AS.tO (st:AS):List Nat→AS
 |[]=>st
 |d::r=>((st.put (some d) .bot).cp (some d)).tO r
def yp (ops:List Oper)(A:List (List Nat)):Nat→List Oper→AS→(AS→Option R)→Option R
 |_,[],st,K=>K st
 |i,o::r,st,K=>bif bw E an (lR an A i 0 ops) o st then cU E Γ an ops o st fun st'=>yp ops A (i+1) r st' K else none
def wY (ops:List Oper)(draw:Bool)(st:AS)(K:AS→Option R):Option R:=
 bif draw then (bif KF an ops then yp E Γ.calm an ops (J4 ops []) 0 ops st K else none) else Jl E Γ an ops ops st K
def Ju (id:Nat)(ops:List Oper)(draw:Bool)(st:AS)(K:AS→Option R):Option R:=
 match an.merge id with
 |none=>wY E Γ an ops draw st K
 |some s=>
  if ops.all (cB an (yP ops)) then
   aa (wY E Γ.calm an ops draw st fun st'=>getBool st' s) fun b=>K ((st.tO (yP ops)).put (some s) (.one (.bool b)))
  else none
def wO (key:List Nat)(B:AS→(Ex→AS→Option R)→Option R):Nat→AS→(Ex→AS→Option R)→Option R
 |0,_,_=>none
 |m+1,st,K=>B st fun e st'=>
  match e with
  | .normal=>wO key B m (st'.mask key) K
  |e=>K e (st'.mask key)
def den (Λ:aN):Code→AS→(Ex→AS→Option R)→Option R
 | .skip,st,K=>K .normal st
 | .region id ops draw,st,K=>Ju E Γ an id ops.toList draw st (K .normal)
 | .seq a b,st,K=>den Λ a st fun e st'=>match e with| .normal=>den Λ b st' K|e=>K e st'
 | .cond c a b,st,K=>
   match st.rd c with
   | .val false [.bool t]=>cond t (den Λ a st K) (den Λ b st K)
   |_=>none
 | .block id c,st,K=>den Λ c st fun e st'=>
   match e with
   | .exit j=>if j==id then K .normal st' else K (.exit j) st'
   |e=>K e st'
 | .loop c,st,K=>
   bif an.peel.contains (cX c) then den Λ c (st.mask (an.mask (cX c))) fun e st'=>
    match e with
    | .normal=>(Λ (cX c)).go (st'.mask (an.mask (cX c))) K
    |e=>K e (st'.mask (an.mask (cX c)))
   else (Λ (cX c)).go (st.mask (an.mask (cX c))) K
 | .exit id,st,K=>K (.exit id) st
 | .ret,st,K=>K .ret st
 |_,_,_=>none
end
def E4 (st:AS)(E:Env):ResultVar→Option ((Bool×Nat)×Bool×List AC)
 | .tmp t=>match st.get t with| .val g cs=>some ((false,t),g,cs.map AC.strip)|_=>none
 | .cell t T=>match eg E.ty T,st.get t with
   |some sh,.val false [.ptr s off]=>((nth st.boxes s).getD none).bind fun cs=>
    if off+sh.ct.size≤cs.length then some ((true,s),sh.agg,((cs.drop off).take sh.ct.size).map AC.strip) else none
   |_,_=>none
def jk (st:AS)(E:Env):List (Bool×Nat)→List ResultVar→Option (List (Bool×List AC))
 |_,[]=>some []
 |had,r::rs=>(E4 st E r).bind fun x=>if had.contains x.1 then none else (jk st E (x.1::had) rs).bind fun xs=>some (x.2::xs)
def results (E:Env)(rs:List ResultVar)(st:AS):Option AV:=
 match jk st E [] rs with
 |some [(g,cs)]=>some (.val g cs)
 |some vs=>some (.tup vs)
 |none=>none
def start (fn:Func)(args:List AV):AS:=⟨args++List.replicate (fn.ntmps-args.length) .bot,List.replicate (args.length+(fn.ntmps-args.length)) none,0,List.replicate fn.ntmps false,[]⟩
@[reducible] def fb:List (Bool×FT)→Type
  |[]=>Unit
  |[(_,t)]=>t.ct.D
  |(_,t)::r=>t.ct.D×fb r
def ei:(l:List (Bool×FT))→List (Bool×List AC)→Option (fb l)
 |[],[]=>some ()
 |[(g,t)],[(g',cs)]=>bif g==g' then (match Jk t cs with|some (x,[])=>some x|_=>none) else none
 |(g,t)::p::r,(g',cs)::vs=>bif g==g' then (match Jk t cs with|some (x,[])=>(ei (p::r) vs).bind fun y=>some (x,y)|_=>none) else none
 |_,_=>none
def adC:(l:List (Bool×FT))→fb l→List (Bool×List AC)
 |[],_=>[]
 |[(g,t)],x=>[(g,rb t x)]
 |(g,t)::p::r,x=>(g,rb t x.1)::adC (p::r) x.2
def sL (l:List (Bool×FT))(x:fb l):AV:=
 match adC l x with
 |[(g,cs)]=> .val g cs
 |vs=> .tup vs
def IZ (E:Env)(Γ:aJ)(an:An)(Λ:aN)(fn:Func)(rs:List (Bool×FT))(args:List AV):Option (fb rs):=
 match fn.body with
 |some c=>if args.length=fn.params.size then den E Γ an Λ c (start fn args) fun e st=>
  match e with
  | .exit _=>none
  |_=>aa (jk st E [] fn.results.toList) (ei rs)
  else none
 |none=>none
def evalAlt (E:Env)(Γ:aJ)(an:An)(Λ:aN)(fn:Func)(rs rs2:List (Bool×FT))(h:fb rs2=fb rs)(args:List AV):Option (Bool×fb rs):=
 match fn.body with
 |some c=>if args.length=fn.params.size then den E Γ an Λ c (start fn args) fun e st=>
  match e with
  | .exit _=>none
  |_=>aa (jk st E [] fn.results.toList) fun ys=>
   match ei rs ys with
   |some y=>some (true,y)
   |none=>match ei rs2 ys with
    |some y=>some (false,cast h y)
    |none=>none
  else none
 |none=>none
def NS:Nat→List AC→List AC
 |_,[]=>[]
 |j,.sl _ e xs::cs=> .sl (.own (some (rU j))) e xs::NS (j+1) cs
 |j,c::cs=>c::NS (j+1) cs
def sX:Nat→List AC→List AC
 |_,[]=>[]
 |j,.sl _ e xs::cs=> .sl (.loc 0 (some (.io j,rU j))) e xs::sX (j+1) cs
 |j,c::cs=>c::sX (j+1) cs
def yc (fn:Func)(g:Bool)(cs:List AC)(args:List AV):AS:={start fn (.val g (sX 0 cs)::args) with io:=NS 0 cs}
def SL (E:Env)(Γ:aJ)(an:An)(Λ:aN)(fn:Func)(rs:List (Bool×FT))(t:CT)(args:List AV):Option (fb rs×t.D):=
 match fn.body,args with
 |some c,.val g cs::xs=>if xs.length+1=fn.params.size∧cs.all AC.yX=true then den E Γ an Λ c (yc fn g cs xs) fun e st=>
  match e with
  | .exit _=>none
  |_=>aa (aa (jk st E [] fn.results.toList) (ei rs)) fun r=>
   match cQ t st.io with
   |some (x,[])=>some (r,x)
   |_=>none
  else none
 |_,_=>none
def zz:Nat→List AC→List AC
 |_,[]=>[]
 |j,.sl _ e xs::cs=> .sl (.own (some (3*j+1))) e xs::zz (j+1) cs
 |j,c::cs=>c::zz (j+1) cs
def tH (fn:Func)(cs:List AC)(args:List AV):AS:=
 {start fn (.one (.ptr 0 0)::args) with boxes:=some (zz 0 cs)::List.replicate (args.length+(fn.ntmps-(args.length+1))) none,io:=[.ptr 0 0]}
def Pv (E:Env)(Γ:aJ)(an:An)(Λ:aN)(fn:Func)(rs:List (Bool×FT))(t:CT)(args:List AV):Option (fb rs×t.D):=
 match fn.body,args with
 |some c,.val true cs::xs=>if xs.length+1=fn.params.size∧cs.all AC.yX=true then den E Γ an Λ c (tH fn cs xs) fun e st=>
  match e with
  | .exit _=>none
  |_=>aa (aa (jk st E [] fn.results.toList) (ei rs)) fun r=>
   match st.io,st.boxes with
   |[.ptr 0 0],some cs'::_=>match cQ t cs' with
    |some (x,[])=>some (r,x)
    |_=>none
   |_,_=>none
  else none
 |_,_=>none
end Go.Dn
