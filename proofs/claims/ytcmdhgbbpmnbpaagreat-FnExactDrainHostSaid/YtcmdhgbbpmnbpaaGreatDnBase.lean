import Derived.Test.YtcmdhgbbpmnbpaaGreatDnData
/- An abstract, heap-free semantics of the model's code, for functions that treat their data by value: definitions. -/
namespace Go.Dn
inductive eE where
 |slot (s j:Nat)|box (s j:Nat)|io (j:Nat)
 deriving DecidableEq
inductive kj where
 |own (tag:Option Nat)
 |loc (ep:Nat) (pv:Option (eE×Nat))
 |arg
 |nest (ep:Nat) (r:eE) (t:Nat) (e:CT) (i:Int) (off:Nat)
 |part (ep:Nat) (r:eE) (t:Nat) (lo:Int)
 |holed (tag:Option Nat) (i:Int) (ep:Option Nat)
inductive AC where
 |int (k:IntKind) (n:Int)|bool (b:Bool)|str (s:List UInt8)
 |sl (fl:kj) (e:CT) (xs:List e.D)
 |nilsl
 |ptr (s off:Nat)
 |elt (fl:kj) (e:CT) (x:e.D) (i:Int) (off:Nat)
 |fn (f:Nat)
 |un
 |bot
inductive AV where
 |val (agg:Bool) (cs:List AC)
 |tup (vs:List (Bool×List AC))
@[reducible] def AV.one (c:AC):AV:= .val false [c]
@[reducible] def AV.bot:AV:= .val false [.bot]
structure AS where
 slots:List AV
 boxes:List (Option (List AC))
 ep:Nat
 iss:List Bool
 io:List AC
structure Shape where
 agg:Bool
 ct:CT
 offs:List (Nat×Nat):=[]
structure An where
 mask:Nat→List Nat:=fun _=>[]
 merge:Nat→Option Nat:=fun _=>none
 mv:List Nat:=[]
 nest:List Nat:=[]
 mb:Nat→Option Nat:=fun _=>none
 sb:Nat→Option Nat:=fun _=>none
 late:List Nat:=[]
 peel:List Nat:=[]
 nils:List Nat:=[]
 fm:List Nat:=[]
 eb:Nat→Option Nat:=fun _=>none
 es:Nat→Option Nat:=fun _=>none
 er:Nat→Option Nat:=fun _=>none
def cellsOf:(t:CT)→kj→t.D→List AC
 | .int k,_,n=>[.int k n]
 | .bool,_,b=>[.bool b]
 | .str,_,s=>[.str s]
 | .sl e,fl,xs=>[.sl fl e xs]
 | .pair a b,fl,x=>cellsOf a fl x.1++cellsOf b fl x.2
def c9:(t:CT)→List AC→Option (t.D×List AC)
 | .int k,.int k' n::r=>if k'=k then some (n,r) else none
 | .bool,.bool b::r=>some (b,r)
 | .str,.str s::r=>some (s,r)
 | .sl e,.sl (.own _) e' xs::r=>if h:e'=e then some (h▸xs,r) else none
 | .sl _,.nilsl::r=>some ([],r)
 | .pair a b,cs=>(c9 a cs).bind fun x=>(c9 b x.2).bind fun y=>some ((x.1,y.1),y.2)
 |_,_=>none
def nth {α:Type}:List α→Nat→Option α
 |[],_=>none
 |a::_,0=>some a
 |_::l,n+1=>nth l n
def dv {α:Type}:List α→Nat→α→List α
 |[],_,_=>[]
 |_::l,0,v=>v::l
 |a::l,n+1,v=>a::dv l n v
def AS.get (st:AS)(i:Nat):AV:=(nth st.slots i).getD .bot
def AS.put (st:AS)(d:Option Nat)(v:AV):AS:=
 match d with
 |some d=>{st with slots:=dv st.slots d v}
 |none=>st
def Bk (d j:Nat):Nat:=3*(4096*d+j)+2
def AS.fF (st:AS)(d:Option Nat)(j:Nat):Option Nat:=
 match d with
 |some d=>bif (nth st.iss d).getD true then none else bif Nat.ble 4096 j then none else some (Bk d j)
 |none=>none
def AS.cC (st:AS)(d:Option Nat):AS:=
 match d with
 |some d=>{st with iss:=dv st.iss d true}
 |none=>st
def AS.km (st:AS)(d:Option Nat)(e:CT)(xs:List e.D):AS:=
 (st.cC d).put d (.one (.sl (.own (st.fF d 0)) e xs))
def AC.borrow (ep:Nat)(rt:Option eE):AC→AC
 | .sl (.own tag) e xs=> .sl (.loc ep (match rt,tag with|some r,some t=>some (r,t)|_,_=>none)) e xs
 | .sl (.holed tag _ (some ep0)) e xs=> .sl (.loc ep0 (match rt,tag with|some r,some t=>some (r,t)|_,_=>none)) e xs
 | .sl (.holed _ _ none) _ _=> .bot
 |c=>c
def oh (ep:Nat)(f:Nat→eE):Nat→List AC→List AC
 |_,[]=>[]
 |j,c::cs=>c.borrow ep (some (f j))::oh ep f (j+1) cs
def ar (ep:Nat)(cs:List AC):List AC:=cs.map (AC.borrow ep none)
def AV.borrow (ep:Nat)(f:Nat→eE):AV→AV
 | .val g cs=> .val g (oh ep f 0 cs)
 | .tup vs=> .tup (vs.map fun x=>(x.1,ar ep x.2))
def AV.ar (ep:Nat):AV→AV
 | .val g cs=> .val g (Dn.ar ep cs)
 | .tup vs=> .tup (vs.map fun x=>(x.1,Dn.ar ep x.2))
def ofConst:Value→AV
 | .int k n=> .one (.int k n)
 | .bool b=> .one (.bool b)
 | .string s=> .one (.str s.data.toList)
 | .slice none 0 0=> .one .nilsl
 |_=> .bot
def AS.rd (st:AS):Operand→AV
 | .tmp t=>(st.get t).borrow st.ep (.slot t)
 | .const v=>ofConst v
 | .func f=> .one (.fn f)
 | .global _=> .bot
def AS.take (st:AS):Operand→AV×AS
 | .tmp t=>(st.get t,st.put (some t) ((st.get t).ar st.ep))
 |x=>(st.rd x,st)
def AS.cf (st:AS)(s:Nat)(b:Option (List AC)):AS:={st with boxes:=dv st.boxes s b}
def AC.asArg (ep:Nat):AC→AC
 | .int k n=> .int k n
 | .bool b=> .bool b
 | .str s=> .str s
 | .sl (.own _) e xs=> .sl .arg e xs
 | .sl (.loc ep' _) e xs=>if ep'==ep then .sl .arg e xs else .bot
 | .sl .arg e xs=> .sl .arg e xs
 | .nilsl=> .nilsl
 | .fn f=> .fn f
 |_=> .bot
def AV.asArg (ep:Nat):AV→AV
 | .val g cs=> .val g (cs.map (AC.asArg ep))
 | .tup _=> .bot
def AC.DG (ep:Nat)(tag:Option Nat):AC→AC
 | .sl (.own _) e xs=> .sl (.own tag) e xs
 | .sl .arg e xs=> .sl (.loc ep none) e xs
 | .sl (.loc _ _) _ _=> .bot
 | .sl (.nest ..) _ _=> .bot
 | .sl (.part ..) _ _=> .bot
 | .sl (.holed _ i _) e xs=> .sl (.holed none i none) e xs
 | .ptr _ _=> .bot
 | .elt _ _ _ _ _=> .bot
 |c=>c
def tX (ep:Nat)(mk:Nat→Option Nat):Nat→List AC→List AC
 |_,[]=>[]
 |j,c::cs=>c.DG ep (mk j)::tX ep mk (j+1) cs
def Oa (ep:Nat)(mk:Nat→Option Nat):Nat→List (Bool×List AC)→List (Bool×List AC)
 |_,[]=>[]
 |j,t::ts=>(t.1,tX ep mk j t.2)::Oa ep mk (j+t.2.length) ts
def AV.DG (ep:Nat)(mk:Nat→Option Nat):AV→AV
 | .val g cs=> .val g (tX ep mk 0 cs)
 | .tup vs=> .tup (Oa ep mk 0 vs)
structure ak where
 R:Type
 fn:List AV→Option R
 av:R→AV
 io:Bool:=false
 back:R→List AC:=fun _=>[]
 bx:Bool:=false
 sel:R→Bool:=fun _=>true
 alt:R→AV:=fun _=> .val false [.bot]
def ak.res (F:ak)(y:F.R):AV:=cond (F.sel y) (F.av y) (F.alt y)
abbrev aO:=Nat→ak
def aO.calm (Γ:aO):aO:=fun f=>bif (Γ f).io||(Γ f).bx then {R:=Unit,fn:=fun _=>none,av:=fun _=> .val false [.bot]} else Γ f
def AK {R:Type}(op:BinOp)(k:IntKind)(x y:Int)(K:AC→Option R):Option R:=
 match op with
 | .add=>K (.int k (k.wrap (x+y)))
 | .sub=>K (.int k (k.wrap (x-y)))
 | .mul=>K (.int k (k.wrap (x*y)))
 | .quo=>if y=0 then none else K (.int k (k.wrap (x.tdiv y)))
 | .rem=>if y=0 then none else K (.int k (x.tmod y))
 | .and=>K (.int k (k.wrap (BitVec.ofInt k.bits x&&&BitVec.ofInt k.bits y).toNat))
 | .or=>K (.int k (k.wrap (BitVec.ofInt k.bits x|||BitVec.ofInt k.bits y).toNat))
 | .xor=>K (.int k (k.wrap (BitVec.ofInt k.bits x^^^BitVec.ofInt k.bits y).toNat))
 | .andNot=>K (.int k (k.wrap (BitVec.ofInt k.bits x&&&~~~ BitVec.ofInt k.bits y).toNat))
 | .eql=>K (.bool (x==y))
 | .neq=>K (.bool (x !=y))
 | .lss=>K (.bool (decide (x<y)))
 | .leq=>K (.bool (decide (x≤y)))
 | .gtr=>K (.bool (decide (x>y)))
 | .geq=>K (.bool (decide (x≥y)))
 |_=>none
def CO {R:Type}(op:BinOp)(x y:List UInt8)(K:AC→Option R):Option R:=
 match op with
 | .add=>room (x.length+y.length) (K (.str (x++y)))
 | .eql=>K (.bool (x==y))
 | .neq=>K (.bool (!(x==y)))
 | .lss=>K (.bool (Op.bytesLess x y))
 | .leq=>K (.bool (Op.bytesLess x y||x==y))
 | .gtr=>K (.bool (!(Op.bytesLess x y||x==y)))
 | .geq=>K (.bool (!(Op.bytesLess x y)))
 |_=>none
def oq:List AC→List AC→Option Bool
 |[],[]=>some true
 | .int k x::r,.int k' y::r'=>if k=k' then (oq r r').bind fun b=>some ((x==y)&&b) else none
 | .bool x::r,.bool y::r'=>(oq r r').bind fun b=>some ((x==y)&&b)
 | .str x::r,.str y::r'=>(oq r r').bind fun b=>some ((x==y)&&b)
 |_,_=>none
def yT {R:Type}(op:BinOp)(x y:AV)(K:AC→Option R):Option R:=
 match x,y with
 | .val false [.int k a],.val false [.int k' b]=>
   match op with
   | .shl=>if b<0 then none else K (.int k (k.wrap (a*2^(min b.toNat k.bits))))
   | .shr=>if b<0 then none else K (.int k (a.fdiv (2^(min b.toNat k.bits))))
   |_=>if k=k' then AK op k a b K else none
 | .val false [.str a],.val false [.str b]=>CO op a b K
 | .val false [.bool a],.val false [.bool b]=>
   match op with
   | .eql=>K (.bool (a==b))
   | .neq=>K (.bool (!(a==b)))
   |_=>none
 | .val true xs,.val true ys=>
   match op with
   | .eql=>aa (oq xs ys) fun b=>K (.bool b)
   | .neq=>aa (oq xs ys) fun b=>K (.bool (!b))
   |_=>none
 |_,_=>none
def VQ {R:Type}(op:UnOp)(x:AV)(K:AC→Option R):Option R:=
 match op,x with
 | .not,.val false [.bool b]=>K (.bool (!b))
 | .neg,.val false [.int k n]=>K (.int k (k.wrap (0-n)))
 | .xor,.val false [.int k n]=>AK .xor k (if k.signed then-1 else k.max) n K
 |_,_=>none
def a8 (cs:List AC)(off:Nat)(vs:List AC):List AC:=cs.take off++vs++cs.drop (off+vs.length)
def AS.cr (st:AS):eE→Option AC
 | .slot s j=>match st.get s with| .val _ cs=>nth cs j|_=>none
 | .box s j=>((nth st.boxes s).getD none).bind fun cs=>nth cs j
 | .io j=>nth st.io j
def AS.bZ (st:AS)(r:eE)(c:AC):AS:=
 match r with
 | .slot s j=>match st.get s with| .val g cs=>st.put (some s) (.val g (dv cs j c))|_=>st
 | .box s j=>match (nth st.boxes s).getD none with|some cs=>st.cf s (some (dv cs j c))|none=>st
 | .io j=>{st with io:=dv st.io j c}
def AS.fresh (st:AS):AC→AC
 | .sl (.loc ep (some (r,t))) e xs=>
   bif ep==st.ep then .sl (.loc ep (some (r,t))) e xs else
    match st.cr r with
    |some (.sl (.own (some t')) e' ys)=>if h:e'=e then bif t'==t then .sl (.loc st.ep (some (r,t))) e (h▸ys) else .sl (.loc ep (some (r,t))) e xs else .sl (.loc ep (some (r,t))) e xs
    |_=> .sl (.loc ep (some (r,t))) e xs
 |c=>c
def AV.fresh (st:AS):AV→AV
 | .val g cs=> .val g (cs.map st.fresh)
 | .tup vs=> .tup vs
def AC.now (ep:Nat):AC→Bool
 | .sl (.loc ep' (some _)) _ _=>ep'==ep
 |_=>true
def AS.jS {R:Type}(st:AS)(r:eE)(t:Nat)(e:CT)(i:Int)(off:Nat)(vs:List AC)(K:AS→Option R):Option R:=
 match st.cr r with
 |some (.sl (.own (some t')) e' xs)=>
  if h:e'=e then
   if t'=t then
    aa (idx (h▸xs:List e.D) i) fun x=>
     match c9 e (a8 (cellsOf e (.own none) x) off vs) with
     |some (x',[])=>K {st.bZ r (.sl (.own (some t')) e ((h▸xs:List e.D).set i.toNat x')) with ep:=st.ep+1}
     |_=>none
   else none
  else none
 |some (.sl (.holed (some t') i' _) e' xs)=>
  if h:e'=e then
   if t'=t∧i'=i∧off=0 then
    aa (idx (h▸xs:List e.D) i) fun _=>
     match c9 e vs with
     |some (x',[])=>K {st.bZ r (.sl (.own (some t')) e ((h▸xs:List e.D).set i.toNat x')) with ep:=st.ep+1}
     |_=>none
   else none
  else none
 |_=>none
def AV.cells:AV→List AC
 | .val _ cs=>cs
 | .tup _=>[.bot]
def bS (st:AS):List Operand→List AV×AS
 |[]=>([],st)
 |x::xs=>let (v,st1):=st.take x;let (vs,st2):=bS st1 xs;(v::vs,st2)
def vp (e:CT):List (List AC)→Option (List e.D)
 |[]=>some []
 |cs::r=>match c9 e cs with
  |some (x,[])=>(vp e r).bind fun xs=>some (x::xs)
  |_=>none
def AI:Nat→List (Nat×Operand)→Bool
 |_,[]=>true
 |n,(i,_)::r=>i==n&&AI (n+1) r
def AC.Bb:AC→Bool
 | .bot=>false
 | .un=>false
 |_=>true
def pY (offs:List (Nat×Nat))(zero:List AC):List (Nat×List AC)→Option (List AC)
 |[]=>some zero
 |(i,cs)::r=>match nth offs i with
  |some (off,n)=>if cs.length=n∧off+n≤zero.length∧cs.all AC.Bb then pY offs (a8 zero off cs) r else none
  |none=>none
inductive LK where
 |int|bool|str
 deriving DecidableEq
structure Env where
 ty:List (Nat×Shape)
 eqs:List (Nat×List LK):=[]
 fts:List ((Nat×Nat)×Nat):=[]
def Hf (l:List (Nat×List LK))(t:Nat):Option (List LK):=
 match l with
 |[]=>none
 |(u,sh)::r=>bif u==t then some sh else Hf r t
def fits:List LK→List AC→Bool
 |[],[]=>true
 | .int::ls,.int _ _::r=>fits ls r
 | .bool::ls,.bool _::r=>fits ls r
 | .str::ls,.str _::r=>fits ls r
 |_,_=>false
def Ls (l:List ((Nat×Nat)×Nat))(S f:Nat):Option Nat:=
 match l with
 |[]=>none
 |((u,k),T)::r=>bif u==S&&k==f then some T else Ls r S f
def eL (l:List (Nat×Shape))(t:Nat):Option Shape:=
 match l with
 |[]=>none
 |(u,sh)::r=>bif u==t then some sh else eL r t
def Env.sl (E:Env)(t:Nat):Option CT:=
 match eL E.ty t with
 |some ⟨false,.sl e,_⟩=>some e
 |_=>none
def Env.str (E:Env)(t:Nat):Bool:=
 match eL E.ty t with
 |some ⟨false,.str,_⟩=>true
 |_=>false
def Env.bool (E:Env)(t:Nat):Bool:=
 match eL E.ty t with
 |some ⟨false,.bool,_⟩=>true
 |_=>false
def Env.bytes (E:Env)(t:Nat):Bool:=
 match eL E.ty t with
 |some ⟨false,.sl (.int .u8),[(te,_)]⟩=>match eL E.ty te with|some ⟨false,.int .u8,_⟩=>true|_=>false
 |_=>false
def kj.live (ep:Nat):kj→Bool
 | .loc ep' _=>ep'==ep
 | .arg=>true
 | .own _=>false
 | .nest ..=>false
 | .part ..=>false
 | .holed ..=>false
def kj.nU (ep:Nat)(flat:Bool):kj→Bool
 | .loc ep' _=>ep'==ep&&flat
 | .arg=>flat
 | .own _=>true
 | .nest ..=>false
 | .part ..=>false
 | .holed ..=>false
def kj.bare:kj→kj
 | .loc ep _=> .loc ep none
 |f=>f
def AC.cH:AC→Bool
 | .int _ _=>true
 | .bool _=>true
 | .str _=>true
 | .fn _=>true
 |_=>false
def tm:Operand→List Nat
 | .tmp t=>[t]
 |_=>[]
def JV (l:List Operand):List Nat:=l.flatMap tm
def Bq (an:An)(o:Oper):Bool:=
 match o.dst with
 |some d=>an.mv.contains d&&(an.mb d).isNone
 |none=>false
def aiK (an:An)(o:Oper):Bool:=
 match o.dst with
 |some d=>an.nils.contains d
 |none=>false
def tu (an:An)(o:Oper):Bool:=
 match o.op with
 | .assign (.tmp s)=>an.late.contains s
 | .store _ _ (.tmp s)=>an.late.contains s
 |_=>false
def tmO:Option Operand→List Nat
 |some x=>tm x
 |none=>[]
def bE (o:Oper):List Nat:=
 match o.op with
 | .move x=>tm x
 | .assign x=>tm x
 | .pick c a b=>tm c++tm a++tm b
 | .box _ x=>tm x
 | .load _ p=>tm p
 | .store _ p x=>tm p++tm x
 | .nilCheck x=>tm x
 | .binOp _ _ x y _=>tm x++tm y
 | .unOp _ _ x=>tm x
 | .fieldAddr _ p _=>tm p
 | .indexAddr _ x i=>tm x++tm i
 | .index _ x i=>tm x++tm i
 | .build _ parts=>JV (parts.toList.map (·.2))
 | .buildSlice _ _ parts=>JV (parts.toList.map (·.2))
 | .makeSlice _ n c=>tm n++tm c
 | .slice _ x lo hi none=>tm x++tmO lo++tmO hi
 | .convert _ _ x=>tm x
 | .extract (.tmp t) _=>[t]
 | .call {callee:= .builtin _,args,..}=>JV args.toList
 | .call {callee:= .value f,args,..}=>tm f++JV args.toList
 |_=>[]
def yj (an:An)(o:Oper):Bool:=
 match o.op with
 | .move _=>match o.dst with|some d=>an.mv.contains d|none=>false
 | .assign _=>true
 | .box ..=>true
 | .build ..=>true
 | .buildSlice ..=>true
 | .store ..=>true
 | .extract ..=>match o.dst with|some d=>an.mv.contains d|none=>false
 | .call {callee:= .builtin .append,..}=>true
 |_=>false
def Ab (an:An)(o:Oper):List Nat:=
 match o.op with
 | .alloc _=>o.dst.toList
 | .box ..=>o.dst.toList
 | .load ..=>match o.dst with|some d=>bif an.mv.contains d then (an.mb d).toList else []|none=>[]
 | .store _ (.tmp p) _=>(an.sb p).toList
 |_=>[]
def iD (an:An)(o:Oper):Bool:=
 match o.op with
 | .move _=>true
 | .load ..=>match o.dst with|some d=> !an.mv.contains d||(an.mb d).isSome|none=>false
 | .extract (.tmp _) _=>true
 | .store _ (.tmp p) _=>(an.sb p).isSome&& !tu an o
 | .assign _=> !tu an o
 | .pick ..| .alloc _| .box ..| .nilCheck _| .binOp ..| .unOp ..| .fieldAddr ..| .indexAddr ..| .index ..| .build ..| .buildSlice ..| .makeSlice ..| .convert ..=>true
 | .slice _ _ _ _ none=> !Bq an o
 | .call {callee:= .builtin .len,..}| .call {callee:= .builtin .min,..}| .call {callee:= .builtin .max,..}| .call {callee:= .builtin .append,..}=>true
 | .call {callee:= .value _,..}=>true
 |_=>false
def writes (an:An)(o:Oper):List Nat:=o.dst.toList++(bif yj an o then bE o else [])
def AV.now (ep:Nat):AV→Bool
 | .val _ cs=>cs.all (AC.now ep)
 | .tup _=>true
def AC.fJ:AC→Bool
 | .int ..=>true
 | .bool _=>true
 | .str _=>true
 | .fn _=>true
 | .ptr ..=>true
 |_=>false
def AV.fJ:AV→Bool
 | .val _ cs=>cs.all AC.fJ
 | .tup _=>false
def xH (E:Env)(T:TypeId)(st:AS)(s off:Nat):Bool:=
 match eL E.ty T,(nth st.boxes s).getD none with
 |some sh,some cs=>((cs.drop off).take sh.ct.size).all AC.fJ
 |_,_=>false
def SL (an:An)(o:Oper):Bool:=match o.dst with|some d=>an.fm.contains d|none=>false
def yi (an:An)(o:Oper):Bool:=
 match o.op,o.dst,o.guard with
 | .load _ (.tmp _),some d,none=>an.mv.contains d&&(an.mb d).isSome
 |_,_,_=>false
def EJ (an:An)(o:Oper):Bool:=
 match o.op,o.dst,o.guard with
 | .load _ (.tmp _),some d,none=> !an.mv.contains d&&an.fm.contains d
 |_,_,_=>false
def erS (an:An)(o:Oper):List Nat:=
 match o.op,o.dst with
 | .load ..,some d=>(an.er d).toList
 |_,_=>[]
def bK (E:Env)(an:An)(X:List Nat)(o:Oper)(st:AS):Bool:=
 match o.op with
 | .move x=> !SL an o||(st.rd x).fJ
 | .indexAddr _ x _=>(st.rd x).now st.ep||(match st.rd x with| .val _ [.sl (.loc _ (some (.box b _,_))) _ _]=> !X.contains b|_=>false)
 | .slice _ x _ _ none=>(st.rd x).now st.ep
 | .call {callee:= .value _,args,..}=>args.toList.all fun x=>(st.rd x).now st.ep
 | .load T p=>match st.rd p with
   | .val false [.ptr s off]=> !X.contains s&&(match o.dst with|some d=> !an.mv.contains d||an.mb d==some s|none=>true)&&(!SL an o||xH E T st s off)
   | .val false [.elt fl _ _ _ _]=>(fl.live st.ep||(match fl with
     | .loc _ (some (.slot b _,_))=>(erS an o).contains b
     | .loc _ (some (.box b _,_))=> !X.contains b
     |_=>false))&& !(SL an o||yi an o)
   |_=> !(SL an o||yi an o)
 | .store _ (.tmp p) _=>((an.sb p).isNone&&(an.eb p).isNone&&(an.es p).isNone)||(match st.rd (.tmp p) with
   | .val false [.ptr s _]=> !X.contains s&&an.sb p==some s
   | .val false [.elt (.loc _ (some (.box b _,_))) _ _ _ _]=>an.eb p==some b&&(an.sb p).isNone&&(an.es p).isNone
   | .val false [.elt (.loc _ (some (.slot b _,_))) _ _ _ _]=>an.es p==some b&&(an.sb p).isNone&&(an.eb p).isNone
   |_=>false)
 | .extract (.tmp t) i=>match st.get t with
   | .tup vs=>match nth vs i with|some x=>x.2.all AC.cH||(match o.dst with|some d=>an.mv.contains d|none=>false)|none=>true
   |_=>true
 |_=>true
def xK (an:An)(ops:List Oper)(o:Oper):List Nat:=
 (match o.guard with
 |some (j,_)=>((nth ops j).bind (·.dst)).toList
 |none=>[])++erS an o
def meets (a b:List Nat):Bool:=a.any fun x=>b.contains x
def ML (an:An)(ops:List Oper)(X Y:List Nat)(o p:Oper):Bool:=
 iD an o&&iD an p&& !meets (writes an o) (bE p++xK an ops p++writes an p)&& !meets (writes an p) (bE o++xK an ops o)&&
 (Ab an o).all (fun d=>Y.contains d)&&(Ab an p).all (fun d=>X.contains d)&& !meets (Ab an o) (p.dst.toList++Ab an p)&& !meets (Ab an p) o.dst.toList
def Nc (o p:Oper):Bool:=
 match o.op,p.op,o.dst,p.dst,o.guard,p.guard with
 | .extract (.tmp t) i,.extract (.tmp t') j,some d,some d',none,none=>t==t'&& !(i==j)&& !(d==d')&& !(d==t)&& !(d'==t)
 |_,_,_,_,_,_=>false
def M5 (an:An)(o p:Oper):Bool:=
 match p.op,p.dst,p.guard with
 | .store _ (.tmp q) (.tmp x),none,none=>((an.eb q).isSome&&(an.es q).isNone||(match an.es q with|some b=>(an.eb q).isNone&& !(b==x)&& !(b==q)&& !meets [b] (o.dst.toList++bE o)|none=>false))&&(an.sb q).isNone&& !tu an p&&(match o.op,o.dst,o.guard with
   | .move (.tmp t),some d,none=> !an.mv.contains d&&an.fm.contains d&& !(d==q)&& !(d==x)&& !(t==x)&& !(t==q)&& !(d==t)
   | .extract (.tmp t) _,some d,none=> !(d==q)&& !(d==x)&& !(t==x)&& !(t==q)&& !(d==t)
   |_,_,_=>false)
 |_,_,_=>false
def NL (an:An)(o p:Oper):Bool:=
 (yi an o&&EJ an p||EJ an o&&yi an p)&& !meets o.dst.toList (p.dst.toList++bE p)&& !meets p.dst.toList (bE o)
def TL (an:An)(o p:Oper):Bool:=Nc o p||M5 an o p||NL an o p
def DF (an:An)(ops:List Oper)(X Y:List Nat)(o p:Oper):Bool:=TL an o p||ML an ops X Y o p
def uN (o:Oper):List Nat:=(o.after.toList.filter (fun e=>Region.binds .any e)).map (·.on)
def JY (a b:List Nat):List Nat:=a.foldl (fun s x=>bif s.contains x then s else x::s) b
def J7:List Oper→List (List Nat)→List (List Nat)
 |[],acc=>acc
 |o::r,acc=>J7 r (acc++[(uN o).foldl (fun s j=>JY (j::(nth acc j).getD []) s) []])
def Rn (A:List (List Nat))(i k:Nat):Bool:=((nth A i).getD []).contains k
def OM (an:An)(A:List (List Nat))(i:Nat)(fl:Bool):Nat→List Oper→List Nat
 |_,[]=>[]
 |k,o::r=>(bif !Rn A i k&& !Rn A k i&& !(k==i)&& !(fl&&yi an o) then Ab an o else [])++OM an A i fl (k+1) r
def mx (an:An)(A:List (List Nat))(i k:Nat)(ops:List Oper):List Nat:=OM an A i (match nth ops i with|some o=>EJ an o|none=>false) k ops
def Fm (an:An)(ops:List Oper)(A:List (List Nat))(i:Nat)(oi:Oper):Nat→List Oper→Bool
 |_,[]=>true
 |j,oj::r=>bif Nat.ble i j then true else (Rn A i j||DF an ops (mx an A j 0 ops) (mx an A i 0 ops) oj oi)&&Fm an ops A i oi (j+1) r
def Jp (an:An)(ops:List Oper)(A:List (List Nat)):Nat→List Oper→Bool
 |_,[]=>true
 |i,oi::r=>(uN oi).all (fun k=>Nat.blt k i)&&Fm an ops A i oi 0 ops&&Jp an ops A (i+1) r
def KK (an:An)(ops:List Oper):Bool:=Jp an ops (J7 ops []) 0 ops
inductive Ex where
 |normal|ret|exit (id:Nat)
inductive FK where
 |own (tag:Option Nat)|arg|loc|lio (j t:Nat)|nil
def FK.flag:FK→kj
 | .own t=> .own t
 | .arg=> .arg
 | .loc=> .loc 0 none
 | .lio j t=> .loc 0 (some (.io j,t))
 | .nil=> .arg
def FK.isNil:FK→Bool
 | .nil=>true
 |_=>false
inductive FT where
 |int (k:IntKind)|bool|str|sl (fl:FK) (e:CT)|pair (a b:FT)
@[reducible] def FT.ct:FT→CT
  | .int k=> .int k
  | .bool=> .bool
  | .str=> .str
  | .sl _ e=> .sl e
  | .pair a b=> .pair a.ct b.ct
def rO:(t:FT)→t.ct.D→List AC
 | .int k,n=>[.int k n]
 | .bool,b=>[.bool b]
 | .str,s=>[.str s]
 | .sl fl e,xs=>[bif fl.isNil then .nilsl else .sl fl.flag e xs]
 | .pair a b,x=>rO a x.1++rO b x.2
def FK.fits:FK→kj→Bool
 | .own t,.own t'=>t==t'
 | .arg,.arg=>true
 | .loc,.loc 0 none=>true
 | .lio j t,.loc 0 (some (.io j',t'))=>j==j'&&t==t'
 |_,_=>false
def Jl:(t:FT)→List AC→Option (t.ct.D×List AC)
 | .int k,.int k' n::r=>if k'=k then some (n,r) else none
 | .bool,.bool b::r=>some (b,r)
 | .str,.str s::r=>some (s,r)
 | .sl fl e,.sl fl' e' xs::r=>if h:e'=e then bif fl.fits fl' then some (h▸xs,r) else none else none
 | .sl fl _,.nilsl::r=>bif fl.isNil then some ([],r) else none
 | .pair a b,cs=>(Jl a cs).bind fun x=>(Jl b x.2).bind fun y=>some ((x.1,y.1),y.2)
 |_,_=>none
inductive PD where
 |bot|ptr (s off:Nat)|fn (f:Nat)|data (g:Bool) (t:FT)
inductive IoD where
 |none|some (t:FT)|ptr
structure SD where
 slots:List PD
 boxes:List (Option FT)
 io:IoD:= .none
@[reducible] def Ch:List PD→Type
  |[]=>Unit
  | .data _ t::r=>t.ct.D×Ch r
  |_::r=>Ch r
@[reducible] def Bz:List (Option FT)→Type
  |[]=>Unit
  |some t::r=>t.ct.D×Bz r
  |none::r=>Bz r
@[reducible] def ioD:IoD→Type
  | .none=>Unit
  | .some t=>t.ct.D
  | .ptr=>Unit
@[reducible] def SD.D (d:SD):Type:=Ch d.slots×Bz d.boxes×ioD d.io
def mA:(l:List PD)→Ch l→List AV
 |[],_=>[]
 | .data g t::r,x=> .val g (rO t x.1)::mA r x.2
 | .bot::r,x=> .bot::mA r x
 | .ptr s off::r,x=> .one (.ptr s off)::mA r x
 | .fn f::r,x=> .one (.fn f)::mA r x
def ve:(l:List (Option FT))→Bz l→List (Option (List AC))
 |[],_=>[]
 |some t::r,x=>some (rO t x.1)::ve r x.2
 |none::r,x=>none::ve r x
def Sv:(o:IoD)→ioD o→List AC
 | .none,_=>[]
 | .some t,x=>rO t x
 | .ptr,_=>[.ptr 0 0]
def SD.enc (d:SD)(x:d.D):AS:=⟨mA d.slots x.1,ve d.boxes x.2.1,0,List.replicate d.slots.length false,Sv d.io x.2.2⟩
def AV.Pw:AV→Bool
 | .val false [.bot]=>true
 |_=>false
def AV.Px (s off:Nat):AV→Bool
 | .val false [.ptr s' off']=>s==s'&&off==off'
 |_=>false
def AV.QV (f:Nat):AV→Bool
 | .val false [.fn f']=>f==f'
 |_=>false
def eH:(l:List PD)→List AV→Option (Ch l)
 |[],[]=>some ()
 | .data g t::r,.val g' cs::vs=>bif g==g' then (match Jl t cs with|some (x,[])=>(eH r vs).bind fun y=>some (x,y)|_=>none) else none
 | .bot::r,v::vs=>bif v.Pw then eH r vs else none
 | .ptr s off::r,v::vs=>bif v.Px s off then eH r vs else none
 | .fn f::r,v::vs=>bif v.QV f then eH r vs else none
 |_,_=>none
def kW:(l:List (Option FT))→List (Option (List AC))→Option (Bz l)
 |[],[]=>some ()
 |some t::r,some cs::bs=>match Jl t cs with|some (x,[])=>(kW r bs).bind fun y=>some (x,y)|_=>none
 |none::r,none::bs=>kW r bs
 |_,_=>none
def NH:List AC→Bool
 |[.ptr 0 0]=>true
 |_=>false
def KJ:(o:IoD)→List AC→Option (ioD o)
 | .none,[]=>some ()
 | .some t,cs=>match Jl t cs with|some (x,[])=>some x|_=>none
 | .ptr,cs=>bif NH cs then some () else none
 |_,_=>none
def SD.dec (d:SD)(st:AS):Option d.D:=
 bif st.ep==0&&st.iss==List.replicate d.slots.length false then
  (eH d.slots st.slots).bind fun x=>(kW d.boxes st.boxes).bind fun y=>(KJ d.io st.io).bind fun z=>some (x,y,z)
 else none
structure aR where
 sd:SD
 run:{R:Type}→sd.D→(Ex→AS→Option R)→Option R
abbrev aW:=Nat→aR
def aR.go {R:Type}(l:aR)(st:AS)(K:Ex→AS→Option R):Option R:=aa (l.sd.dec st) fun x=>l.run x K
def aR.none:aR:=⟨⟨[],[],.none⟩,fun _ _=>Option.none⟩
def aW.nil:aW:=fun _=>aR.none
def aW.add (Λ:aW)(k:Nat)(l:aR):aW:=fun j=>bif j==k then l else Λ j
section
variable {R:Type} (E:Env) (Γ:aO) (an:An)
def vt (o:Oper)(x:Operand)(st:AS)(K:AS→Option R):Option R:=
 match o.dst with
 |some d=>if an.mv.contains d then K ((st.take x).2.put o.dst (st.take x).1) else K (st.put o.dst (st.rd x))
 |none=>none
def og (o:Oper)(x:Operand)(st:AS)(K:AS→Option R):Option R:=
 match st.take x with
 |(.val false [.nilsl],_)=>match E.sl o.type with
  |some e=>K (st.put o.dst (.one (bif aiK an o then .nilsl else .sl (.own none) e [])))
  |none=>none
 |(v,st')=>K (st'.put o.dst v)
def xT (o:Oper)(c a b:Operand)(st:AS)(K:AS→Option R):Option R:=
 match st.rd c with
 | .val false [.bool t]=>match st.rd a,st.rd b with
   | .val false [.bool x],.val false [.bool y]=>K (st.put o.dst (.one (.bool (cond t x y))))
   |va,vb=>cond t (K (st.put o.dst va)) (K (st.put o.dst vb))
 |_=>none
def vL (o:Oper)(T:TypeId)(st:AS)(K:AS→Option R):Option R:=
 match o.dst,eL E.ty T with
 |some d,some sh=>match nth st.boxes d with
  |some none=>K ((st.cf d (some (cellsOf sh.ct (.own none) sh.ct.zero))).put o.dst (.one (.ptr d 0)))
  |_=>none
 |_,_=>none
def HQ (o:Oper)(x:Operand)(st:AS)(K:AS→Option R):Option R:=
 match o.dst,st.take x with
 |some d,(.val _ cs,st')=>
  match nth st'.boxes d with
  |some none=>if cs.all AC.Bb then K ((st'.cf d (some cs)).put o.dst (.one (.ptr d 0))) else none
  |_=>none
 |_,_=>none
def Ji (ep:Nat)(r:eE)(t:Nat)(e:CT)(i:Int):Nat→List AC→List AC
 |_,[]=>[]
 |p,.sl _ e' xs::cs=> .sl (.nest ep r t e i p) e' xs::Ji ep r t e i (p+1) cs
 |p,c::cs=>c::Ji ep r t e i (p+1) cs
def Tw (o:Oper)(ep:Nat)(fl:kj)(e:CT)(i:Int)(off:Nat)(cs:List AC):List AC:=
 match fl,o.dst with
 | .loc _ (some (r,t)),some d=>bif an.nest.contains d then Ji ep r t e i off cs else cs
 |_,_=>cs
def wZ (o:Oper)(sh:Shape)(fl:kj)(e:CT)(i:Int)(off:Nat)(st:AS)(K:AS→Option R):Option R:=
 match fl with
 | .loc _ (some (r,t))=>
   match st.cr r with
   |some (.sl (.own (some t')) e' ys)=>
    if h:e'=e then
     if t'=t∧off+sh.ct.size≤e.size then
      aa (idx (h▸ys:List e.D) i) fun y=>K (st.put o.dst (.val sh.agg (((cellsOf e (.loc st.ep none) y).drop off).take sh.ct.size)))
     else none
    else none
   |_=>none
 |_=>none
def vG (o:Oper)(sh:Shape)(fl:kj)(e:CT)(i:Int)(off:Nat)(st:AS)(K:AS→Option R):Option R:=
 match fl with
 | .loc _ (some (r,t))=>
   match st.cr r with
   |some (.sl (.own (some t')) e' ys)=>
    if h:e'=e then
     if t'=t∧off=0∧sh.ct=e then
      aa (idx (h▸ys:List e.D) i) fun y=>K ((st.bZ r (.sl (.holed (some t) i (some st.ep)) e (h▸ys))).put o.dst (.val sh.agg (cellsOf e (.own none) y)))
     else none
    else none
   |_=>none
 |_=>none
def po (o:Oper)(T:TypeId)(p:Operand)(st:AS)(K:AS→Option R):Option R:=
 match eL E.ty T,st.rd p with
 |some sh,.val false [.ptr s off]=>
  match (nth st.boxes s).getD none with
  |some cs=>
   if off+sh.ct.size≤cs.length then
    match o.dst with
    |some d=>
     if an.mv.contains d then
      K ((st.cf s (some (a8 cs off (ar st.ep ((cs.drop off).take sh.ct.size))))).put o.dst (.val sh.agg ((cs.drop off).take sh.ct.size)))
     else K (st.put o.dst (.val sh.agg (oh st.ep (.box s) off ((cs.drop off).take sh.ct.size))))
    |none=>none
   else none
  |none=>none
 |some sh,.val false [.elt fl e x i off]=>
  if Bq an o then vG o sh fl e i off st K
  else if fl.live st.ep then
   if off+sh.ct.size≤e.size then K (st.put o.dst (.val sh.agg (Tw an o st.ep fl e i off (((cellsOf e fl.bare x).drop off).take sh.ct.size)))) else none
  else wZ o sh fl e i off st K
 |_,_=>none
def qe (T:TypeId)(p x:Operand)(st:AS)(K:AS→Option R):Option R:=
 match eL E.ty T,st.rd p with
 |some sh,.val false [.ptr s off]=>
  match st.take x with
  |(.val _ vs,st')=>
   match (nth st'.boxes s).getD none with
   |some cs=>
    if vs.length=sh.ct.size∧vs.all AC.Bb then
     if off+sh.ct.size≤cs.length then K (st'.cf s (some (a8 cs off vs))) else none
    else none
   |none=>none
  |_=>none
 |some sh,.val false [.elt (.loc _ (some (r,t))) e _ i off]=>
  match st.take x with
  |(.val _ vs,st')=>
   if vs.length=sh.ct.size∧off+sh.ct.size≤e.size then st'.jS r t e i off vs K else none
  |_=>none
 |_,_=>none
def tf (o:Oper)(S:TypeId)(p:Operand)(f:Nat)(st:AS)(K:AS→Option R):Option R:=
 match eL E.ty S,st.rd p with
 |some ⟨true,_,offs⟩,.val false [.ptr s off]=>match nth offs f with|some (fo,_)=>K (st.put o.dst (.one (.ptr s (off+fo))))|none=>none
 |some ⟨true,_,offs⟩,.val false [.elt fl e x i off]=>match nth offs f with|some (fo,_)=>K (st.put o.dst (.one (.elt fl e x i (off+fo))))|none=>none
 |_,_=>none
def gP (o:Oper)(T:TypeId)(x i:Operand)(st:AS)(K:AS→Option R):Option R:=
 match E.sl T,(st.rd x).fresh st,st.rd i with
 |some e',.val false [.sl fl e xs],.val false [.int _ n]=>
  if e'=e∧fl.live st.ep then aa (idx xs n) fun y=>K (st.put o.dst (.one (.elt fl e y n 0))) else none
 |_,_,_=>none
def uV (o:Oper)(T:TypeId)(x i:Operand)(st:AS)(K:AS→Option R):Option R:=
 match st.rd x,st.rd i with
 | .val false [.str s],.val false [.int _ n]=>if E.str T then aa (idx s n) fun b=>K (st.put o.dst (.one (.int .u8 b.toNat))) else none
 |_,_=>none
def uS (o:Oper)(T:TypeId)(parts:List (Nat×Operand))(st:AS)(K:AS→Option R):Option R:=
 match eL E.ty T with
 |some ⟨true,ct,offs⟩=>
  match bS st (parts.map (·.2)) with
  |(vs,st')=>
   match pY offs (cellsOf ct (.own none) ct.zero) ((parts.map (·.1)).zip (vs.map AV.cells)) with
   |some cs=>K (st'.put o.dst (.val true cs))
   |none=>none
 |_=>none
def gi (o:Oper)(T:TypeId)(len:Nat)(parts:List (Nat×Operand))(st:AS)(K:AS→Option R):Option R:=
 match E.sl T with
 |some e=>
  if parts.length=len∧AI 0 parts∧len≤1000 then
   match bS st (parts.map (·.2)) with
   |(vs,st')=>
    match vp e (vs.map AV.cells) with
    |some xs=>K (st'.km o.dst e xs)
    |none=>none
  else none
 |none=>none
def jq (o:Oper)(T:TypeId)(n c:Operand)(st:AS)(K:AS→Option R):Option R:=
 match E.sl T,st.rd n,st.rd c with
 |some e,.val false [.int .i64 len],.val false [.int .i64 cap]=>
  if 0≤len∧len≤cap then room cap.toNat (K (st.km o.dst e (List.replicate len.toNat e.zero))) else none
 |_,_,_=>none
def gX (st:AS)(lo hi:Option Operand)(n:Nat)(K:Int→Int→Option R):Option R:=
 match lo.map st.rd,hi.map st.rd with
 |none,none=>K 0 n
 |some (.val false [.int _ a]),none=>K a n
 |none,some (.val false [.int _ b])=>K 0 b
 |some (.val false [.int _ a]),some (.val false [.int _ b])=>K a b
 |_,_=>none
def qa (o:Oper)(T:TypeId)(x:Operand)(lo hi:Option Operand)(st:AS)(K:AS→Option R):Option R:=
 match st.take x,lo.map st.rd,hi with
 |(.val false [.sl (.own _) e xs],st'),some (.val false [.int _ a]),none=>
  if E.sl T=some e then aa (sub xs a xs.length) fun xs'=>K (st'.km o.dst e xs') else none
 |_,_,_=>none
def Fo (o:Oper)(fl:kj)(a:Int):kj:=
 match fl,o.dst with
 | .loc ep (some (r,t)),some d=>bif an.nest.contains d then .part ep r t a else .loc ep none
 |fl,_=>fl.bare
def tY (o:Oper)(T:TypeId)(x:Operand)(lo hi:Option Operand)(st:AS)(K:AS→Option R):Option R:=
 if Bq an o then qa E o T x lo hi st K else
 match (st.rd x).fresh st with
 | .val false [.str s]=>if E.str T then gX st lo hi s.length fun a b=>aa (sub s a b) fun s'=>K (st.put o.dst (.one (.str s'))) else none
 | .val false [.sl fl e xs]=>
   if E.sl T=some e∧fl.live st.ep then gX st lo hi xs.length fun a b=>aa (sub xs a b) fun xs'=>K (st.put o.dst (.one (.sl (Fo an o fl a) e xs'))) else none
 |_=>none
def gr (o:Oper)(src dst:TypeId)(x:Operand)(st:AS)(K:AS→Option R):Option R:=
 match eL E.ty src,eL E.ty dst,st.rd x with
 |some _,some ⟨false,.int k,_⟩,.val false [.int _ n]=>K (st.put o.dst (.one (.int k (k.wrap n))))
 |some ⟨false,.str,_⟩,some ⟨false,.str,_⟩,.val false [.str s]=>K (st.put o.dst (.one (.str s)))
 |some ⟨false,.str,_⟩,some _,.val false [.str s]=>
  if E.bytes dst then room s.length (K (st.km o.dst (.int .u8) (bc s))) else none
 |some _,some ⟨false,.str,_⟩,.val false [.sl fl (.int .u8) xs]=>
  if E.bytes src∧fl.live st.ep then K (st.put o.dst (.one (.str (bytesOf xs)))) else none
 |_,_,_=>none
def gu (o:Oper)(t i:Nat)(st:AS)(K:AS→Option R):Option R:=
 match st.get t with
 | .tup vs=>match nth vs i with
   |some (g,cs)=>K ((st.put (some t) (.tup (dv vs i (g,ar 0 cs)))).put o.dst (.val g cs))
   |none=>none
 |_=>none
def E7 (o:Oper)(ts:List TypeId)(args:List Operand)(st:AS)(K:AS→Option R):Option R:=
 match ts,args.map st.rd with
 |[t],[.val false [.str s]]=>if E.str t then K (st.put o.dst (.one (.int .i64 s.length))) else none
 |[t],[.val false [.sl _ _ xs]]=>if (E.sl t).isSome then K (st.put o.dst (.one (.int .i64 xs.length))) else none
 |_,_=>none
def Gy (o:Oper)(args:List Operand)(st:AS)(K:AS→Option R):Option R:=
 match args.map st.rd with
 |[.val false [.int k x],.val false [.int _ y]]=>K (st.put o.dst (.one (.int k (if y<x then y else x))))
 |_=>none
def Gx (o:Oper)(args:List Operand)(st:AS)(K:AS→Option R):Option R:=
 match args.map st.rd with
 |[.val false [.int k x],.val false [.int _ y]]=>K (st.put o.dst (.one (.int k (if y>x then y else x))))
 |_=>none
def GR (o:Oper)(ts:List TypeId)(args:List Operand)(st:AS)(K:AS→Option R):Option R:=
 match ts,args.map st.rd with
 |[t,t'],[.val false [.sl (.part ep r tg lo) e xs],.val false [.str s]]=>
  match st.cr r with
  |some (.sl (.own (some tg')) e' ys)=>
   if h:e'= .int .u8 then
    if e= .int .u8∧E.sl t=some (.int .u8)∧E.str t'=true∧ep=st.ep∧tg'=tg then
     K ({st.bZ r (.sl (.own (some tg)) (.int .u8) (vw (h▸ys:List (CT.int .u8).D) lo.toNat (bc (s.take xs.length)))) with ep:=st.ep+1}.put o.dst (.one (.int .i64 (min xs.length s.length:Nat))))
    else none
   else none
  |_=>none
 |_,_=>none
def yu (o:Oper)(S:TypeId)(t f:Nat)(st:AS)(K:AS→Option R):Option R:=
 match eL E.ty S,st.get t,Ls E.fts S f with
 |some ⟨true,ct,offs⟩,.val true cs,some T=>
  match nth offs f,eL E.ty T with
  |some (fo,n),some sh=>
   if n=sh.ct.size∧cs.length=ct.size∧fo+n≤cs.length then
    K ((st.put (some t) (.val true (a8 cs fo (ar st.ep ((cs.drop fo).take n))))).put o.dst (.val sh.agg ((cs.drop fo).take n)))
   else none
  |_,_=>none
 |_,_,_=>none
def qh (o:Oper)(ts:List TypeId)(args:List Operand)(st:AS)(K:AS→Option R):Option R:=
 match ts,args with
 |[t,t'],[s,x]=>
  match st.take s with
  |(.val false [.sl (.own _) e xs],st1)=>
   match st1.take x with
   |(.val false [.sl fl e' ys],st2)=>
    if h:e'=e then
     if E.sl t=some e∧E.sl t'=some e∧fl.nU st.ep e.flat then
      room (xs.length+ys.length) (K (st2.km o.dst e (xs++(h▸ys:List e.D))))
     else none
    else none
   |(.val false [.str s],st2)=>
    if h:e= .int .u8 then
     if E.sl t=some e∧E.str t' then room (xs.length+s.length) (K (st2.km o.dst (.int .u8) ((h▸xs:List (CT.int .u8).D)++bc s))) else none
    else none
   |_=>none
  |_=>none
 |_,_=>none
def BG:Nat→List AC→Option (eE×Nat)
 |_,[]=>none
 |j,.sl (.loc _ (some (r,_))) _ _::_=>some (r,j)
 |j,_::cs=>BG (j+1) cs
def eE.pos:eE→Nat
 | .slot _ j=>j
 | .box _ j=>j
 | .io j=>j
def AS.mU (st:AS):eE→Option (List AC)
 | .slot s _=>match st.get s with| .val _ cs=>some cs|_=>none
 | .box s _=>(nth st.boxes s).getD none
 | .io _=>some st.io
def AS.ko (st:AS)(r:eE)(cs:List AC):AS:=
 match r with
 | .slot s _=>match st.get s with| .val g _=>st.put (some s) (.val g cs)|_=>st
 | .box s _=>st.cf s (some cs)
 | .io _=>{st with io:=cs}
def gR:List AC→List AC→Option (List AC)
 |[],[]=>some []
 | .sl (.loc _ (some (_,t))) _ _::os,.sl (.own (some t')) e xs::ss=>bif t'==t then (gR os ss).bind fun r=>some (.sl (.own none) e xs::r) else none
 | .int k n::os,.int _ _::ss=>(gR os ss).bind fun r=>some (.int k n::r)
 | .bool b::os,.bool _::ss=>(gR os ss).bind fun r=>some (.bool b::r)
 | .str x::os,.str _::ss=>(gR os ss).bind fun r=>some (.str x::r)
 |_,_=>none
def uO:List AC→List AC→List AC→Option (List AC)
 |[],[],[]=>some []
 | .sl (.loc _ (some (_,t'))) _ _::os,.sl (.own (some t)) _ _::ss,.sl (.own _) e ys::bs=>bif t==t' then (uO os ss bs).bind fun r=>some (.sl (.own (some t)) e ys::r) else none
 | .int _ _::os,.int k n::ss,.int _ _::bs=>(uO os ss bs).bind fun r=>some (.int k n::r)
 | .bool _::os,.bool b::ss,.bool _::bs=>(uO os ss bs).bind fun r=>some (.bool b::r)
 | .str _::os,.str x::ss,.str _::bs=>(uO os ss bs).bind fun r=>some (.str x::r)
 |_,_,_=>none
def AV.cH:AV→Bool
 | .val _ cs=>cs.all AC.cH
 | .tup vs=>vs.all fun x=>x.2.all AC.cH
def HT (st:AS)(x:Operand):Option (AV×AS):=
 match st.rd x with
 | .val g cs=>
   match BG 0 cs with
   |some (r,j)=>
    match st.mU r with
    |some csO=>
     match gR cs ((csO.drop (r.pos-j)).take cs.length) with
     |some cs'=>some (.val g cs',st.ko r (a8 csO (r.pos-j) (ar st.ep ((csO.drop (r.pos-j)).take cs.length))))
     |none=>none
    |none=>none
   |none=>none
 |_=>none
def Hb (o:Oper)(x:Operand)(st:AS)(K:AS→Option R):Option R:=
 match HT st x with
 |some (v,st')=>K (st'.put o.dst v)
 |none=>none
def qf (T:TypeId)(p x:Operand)(st:AS)(K:AS→Option R):Option R:=
 match eL E.ty T,st.rd p with
 |some sh,.val false [.ptr s off]=>
  match HT st x with
  |some (.val _ vs,st')=>
   match (nth st'.boxes s).getD none with
   |some cs=>
    if vs.length=sh.ct.size∧vs.all AC.Bb then
     if off+sh.ct.size≤cs.length then K (st'.cf s (some (a8 cs off vs))) else none
    else none
   |none=>none
  |_=>none
 |_,_=>none
def Hn (o:Oper)(f:Nat)(g:Bool)(cs:List AC)(xs:List Operand)(st:AS)(K:AS→Option R):Option R:=
 match cs with
 |[.sl (.nest ep r t en i off) _ _]=>
  match st.mU r with
  |some csO=>
   match (csO.drop r.pos).take 1 with
   |[.sl (.own (some t')) e ys]=>
    bif (ep==st.ep)&&(t'==t)&&(en.size==e.size)&&xs.all (fun x=>(st.rd x).cH) then
     aa (idx ys i) fun x=>
      match ((cellsOf e (.own none) x).drop off).take 1 with
      |[.sl (.own _) e2 zs]=>
       aa ((Γ f).fn (.val g [.sl (.own none) e2 zs]::xs.map st.rd)) fun y=>
        match (Γ f).back y with
        |[.sl (.own _) e3 zs']=>
         match c9 e (a8 (cellsOf e (.own none) x) off [.sl (.own none) e3 zs']) with
         |some (x',[])=>bif ((Γ f).av y).cH then K ({st.ko r (a8 csO r.pos [.sl (.own (some t)) e (ys.set i.toNat x')]) with ep:=st.ep+1}.put o.dst ((Γ f).av y)) else none
         |_=>none
        |_=>none
      |_=>none
    else none
   |_=>none
  |none=>none
 |_=>none
def ioC (o:Oper)(f:Nat)(args:List Operand)(st:AS)(K:AS→Option R):Option R:=
 match args with
 |x0::xs=>
  match st.rd x0 with
  | .val g cs=>
    match BG 0 cs with
    |some (r,j)=>
     match st.mU r with
     |some csO=>
      match gR cs ((csO.drop (r.pos-j)).take cs.length) with
      |some cs'=>
       bif xs.all (fun x=>(st.rd x).cH) then
        aa ((Γ f).fn (.val g cs'::xs.map st.rd)) fun y=>
         match uO cs ((csO.drop (r.pos-j)).take cs.length) ((Γ f).back y) with
         |some seg=>bif ((Γ f).av y).cH then K ({st.ko r (a8 csO (r.pos-j) seg) with ep:=st.ep+1}.put o.dst ((Γ f).av y)) else none
         |none=>none
       else none
      |none=>none
     |none=>none
    |none=>Hn Γ o f g cs xs st K
  |_=>none
 |[]=>none
def AC.strip:AC→AC
 | .sl (.own _) e xs=> .sl (.own none) e xs
 | .sl (.loc _ _) _ _=> .bot
 | .sl (.nest ..) _ _=> .bot
 | .sl (.part ..) _ _=> .bot
 | .sl (.holed _ i _) e xs=> .sl (.holed none i none) e xs
 | .ptr _ _=> .bot
 | .elt _ _ _ _ _=> .bot
 |c=>c
def AC.zR:AC→Bool
 | .sl (.own _) _ _=>true
 |c=>c.cH
def u7 (o:Oper)(f:Nat)(args:List Operand)(st:AS)(K:AS→Option R):Option R:=
 match args with
 |x0::xs=>
  match st.rd x0 with
  | .val false [.ptr s 0]=>
    match (nth st.boxes s).getD none with
    |some cs=>
     bif cs.all AC.zR&&xs.all (fun x=>(st.rd x).cH) then
      aa ((Γ f).fn (.val true (cs.map AC.strip)::xs.map st.rd)) fun y=>
       bif ((Γ f).back y).all AC.zR&&((Γ f).av y).cH then
        K ({(st.cf s (some (tX (st.ep+1) (st.fF (some s)) 0 ((Γ f).back y)))).cC (some s) with ep:=st.ep+1}.put o.dst ((Γ f).av y))
       else none
     else none
    |none=>none
  |_=>none
 |[]=>none
def xC (o:Oper)(f:Operand)(args:List Operand)(st:AS)(K:AS→Option R):Option R:=
 match st.rd f with
 | .val false [.fn f]=>
   bif (Γ f).bx then u7 Γ o f args st K else
   bif (Γ f).io then ioC Γ o f args st K
   else aa ((Γ f).fn (args.map fun x=>((st.rd x).fresh st).asArg st.ep)) fun r=>cond ((Γ f).sel r) (K ((st.cC o.dst).put o.dst (((Γ f).av r).DG st.ep (st.fF o.dst)))) (K ((st.cC o.dst).put o.dst (((Γ f).alt r).DG st.ep (st.fF o.dst))))
 |_=>none
def xh {R:Type}(op:BinOp)(b:Bool)(K:AC→Option R):Option R:=
 match op with
 | .eql=>K (.bool b)
 | .neq=>K (.bool (!b))
 |_=>none
def ui (o:Oper)(op:BinOp)(T:TypeId)(x y:Operand)(st:AS)(K:AS→Option R):Option R:=
 match st.rd x,st.rd y with
 | .val false [.bool a],.val false [.bool b]=>if E.bool T then yT op (.one (.bool a)) (.one (.bool b)) fun c=>K (st.put o.dst (.one c)) else none
 | .val true xs,.val true ys=>match Hf E.eqs T with
   |some ls=>if fits ls xs then yT op (.val true xs) (.val true ys) fun c=>K (st.put o.dst (.one c)) else none
   |none=>none
 | .val false [.sl fl _ xs],.val false [.nilsl]=>if (E.sl T).isSome∧fl.live st.ep then (if xs.length=0 then none else xh op false fun c=>K (st.put o.dst (.one c))) else none
 | .val false [.nilsl],.val false [.nilsl]=>if (E.sl T).isSome then xh op true fun c=>K (st.put o.dst (.one c)) else none
 |a,b=>yT op a b fun c=>K (st.put o.dst (.one c))
def bg (o:Oper)(st:AS)(K:AS→Option R):Option R:=
 match o.op with
 | .move x=>vt an o x st K
 | .assign x=>if tu an o then Hb o x st K else og E an o x st K
 | .pick c a b=>xT o c a b st K
 | .alloc T=>vL E o T st K
 | .box _ x=>HQ o x st K
 | .load T p=>po E an o T p st K
 | .store T p x=>match o.dst with|none=>(if tu an o then qf E T p x st K else qe E T p x st K)|some _=>none
 | .nilCheck x=>
   match st.rd x with
   | .val false [.ptr s off]=>K (st.put o.dst (.one (.ptr s off)))
   | .val false [.elt fl e y i off]=>K (st.put o.dst (.one (.elt fl e y i off)))
   |_=>none
 | .binOp op T x y _=>ui E o op T x y st K
 | .unOp op _ x=>VQ op (st.rd x) fun c=>K (st.put o.dst (.one c))
 | .fieldAddr S p f=>tf E o S p f st K
 | .indexAddr T x i=>gP E o T x i st K
 | .index T x i=>uV E o T x i st K
 | .build T parts=>uS E o T parts.toList st K
 | .buildSlice T len parts=>gi E o T len parts.toList st K
 | .makeSlice T n c=>jq E o T n c st K
 | .slice T x lo hi none=>tY E an o T x lo hi st K
 | .field S (.tmp t) f=>yu E o S t f st K
 | .call {callee:= .builtin .copy,args,argTypes}=>GR E o argTypes.toList args.toList st K
 | .convert src dst x=>gr E o src dst x st K
 | .extract (.tmp t) i=>gu o t i st K
 | .call {callee:= .builtin .len,args,argTypes}=>E7 E o argTypes.toList args.toList st K
 | .call {callee:= .builtin .min,args,..}=>Gy o args.toList st K
 | .call {callee:= .builtin .max,args,..}=>Gx o args.toList st K
 | .call {callee:= .builtin .append,args,argTypes}=>qh E o argTypes.toList args.toList st K
 | .call {callee:= .value f,args,..}=>xC Γ o f args.toList st K
 |_=>none
def de (ops:List Oper)(o:Oper)(st:AS)(K:AS→Option R):Option R:=
 match o.guard with
 |none=>bg E Γ an o st K
 |some (j,want)=>
  match (nth ops j).bind (·.dst) with
  |some d=>
   match st.get d with
   | .val false [.bool b]=>
     let go (t:Bool):Option R:=
      if t==want then bg E Γ an o (st.put (some d) (.one (.bool t))) K else K ((st.put (some d) (.one (.bool t))).put o.dst (.one .un))
     cond b (go true) (go false)
   | .val false [.un]=>K (st.put o.dst (.one .un))
   |_=>none
  |none=>none
def Jm (ops:List Oper):List Oper→AS→(AS→Option R)→Option R
 |[],st,K=>K st
 |o::r,st,K=>de E Γ an ops o st fun st'=>Jm ops r st' K
def dh:Code→Nat
 | .region id _ _=>id
 | .seq a _=>dh a
 | .block _ c=>dh c
 | .loop c=>dh c
 |_=>0
def dJ:Code→List Code
 | .seq a b=>dJ a++dJ b
 | .cond _ a b=>dJ a++dJ b
 | .block _ c=>dJ c
 | .loop c=>c::dJ c
 |_=>[]
def ai (fn:Func)(k:Nat):Code:=(nth (dJ (fn.body.getD .skip)) k).getD .skip
def su (j:Nat):Nat:=3*(4096*1000003+j)
def eE.yf:eE→Option Nat
 | .slot s j=>bif Nat.ble 4096 j then none else bif Nat.ble 1000000 s then none else some (3*(4096*s+j))
 | .box s j=>bif Nat.ble 4096 j then none else some (3*(4096*s+j)+1)
 | .io j=>bif Nat.ble 4096 j then none else some (su j)
def AC.Tf (io:List AC)(j t:Nat)(e:CT):Option (List e.D):=
 match nth io j with
 |some (.sl (.own (some t')) e' ys)=>if h:e'=e then bif t'==t then some (h▸ys) else none else none
 |_=>none
def AC.mask (keep:List Nat)(ep:Nat)(io:List AC)(rt:eE):AC→AC
 | .ptr s off=>if keep.contains s then .ptr s off else .bot
 | .sl (.loc e pv) t xs=>
   match pv with
   |some (.io j,n)=>match AC.Tf io j n t with
    |some ys=> .sl (.loc 0 ((eE.yf (.io j)).map fun q=>(.io j,q))) t ys
    |none=>if e==ep then .sl (.loc 0 none) t xs else .bot
   |_=>if e==ep then .sl (.loc 0 none) t xs else .bot
 | .sl (.own _) t xs=> .sl (.own rt.yf) t xs
 | .sl (.nest ..) _ _=> .bot
 | .sl (.part ..) _ _=> .bot
 | .sl (.holed _ i _) e xs=> .sl (.holed none i none) e xs
 | .elt _ _ _ _ _=> .bot
 |c=>c
def BV (keep:List Nat)(ep:Nat)(io:List AC)(f:Nat→eE):Nat→List AC→List AC
 |_,[]=>[]
 |j,c::cs=>c.mask keep ep io (f j)::BV keep ep io f (j+1) cs
def AV.mask (keep:List Nat)(ep:Nat)(io:List AC)(s:Nat):AV→AV
 | .val g cs=> .val g (BV keep ep io (.slot s) 0 cs)
 | .tup _=> .bot
def iC (keep:List Nat)(ep:Nat)(io:List AC):Nat→List AV→List AV
 |_,[]=>[]
 |i,v::r=>(if keep.contains i then v.mask keep ep io i else .bot)::iC keep ep io (i+1) r
def iB (keep:List Nat)(ep:Nat)(io:List AC):Nat→List (Option (List AC))→List (Option (List AC))
 |_,[]=>[]
 |i,b::r=>(if keep.contains i then b.map (BV keep ep io (.box i) 0) else none)::iB keep ep io (i+1) r
def NO (keep:List Nat):Nat→List AC→List AC
 |_,[]=>[]
 |j,c::cs=>(match c with| .sl (.own _) e xs=> .sl (.own (eE.yf (.io j))) e xs| .sl (.holed _ i _) e xs=> .sl (.holed none i none) e xs| .ptr s off=>if keep.contains s then .ptr s off else .bot|c=>bif c.cH then c else .bot)::NO keep (j+1) cs
def AS.mask (keep:List Nat)(st:AS):AS:=
 ⟨iC keep st.ep st.io 0 st.slots,iB keep st.ep st.io 0 st.boxes,0,List.replicate st.slots.length false,NO keep 0 st.io⟩
def getBool (st:AS)(s:Nat):Option Bool:=
 match st.get s with
 | .val false [.bool b]=>some b
 |_=>none
def cL (an:An)(ds:List Nat)(o:Oper):Bool:=
 match o.op with
 | .assign (.const _)=> !tu an o
 | .assign (.tmp t)=>ds.contains t&& !tu an o
 | .move _| .load ..=>match o.dst with|some d=> !an.mv.contains d|none=>false
 | .slice ..=> !Bq an o
 | .pick ..| .binOp ..| .unOp ..| .fieldAddr ..| .indexAddr ..| .index ..| .nilCheck _=>true
 | .build _ ps=>ps.isEmpty
 | .call {callee:= .builtin .len,..}| .call {callee:= .builtin .min,..}| .call {callee:= .builtin .max,..}=>true
 | .call {callee:= .value _,..}=>true
 |_=>false
def zG (ops:List Oper):List Nat:=ops.filterMap (·.dst)
def AS.uo (st:AS):List Nat→AS
 |[]=>st
 |d::r=>((st.put (some d) .bot).cC (some d)).uo r
def yX (ops:List Oper)(A:List (List Nat)):Nat→List Oper→AS→(AS→Option R)→Option R
 |_,[],st,K=>K st
 |i,o::r,st,K=>bif bK E an (mx an A i 0 ops) o st then de E Γ an ops o st fun st'=>yX ops A (i+1) r st' K else none
def xG (ops:List Oper)(draw:Bool)(st:AS)(K:AS→Option R):Option R:=
 bif draw then (bif KK an ops then yX E Γ.calm an ops (J7 ops []) 0 ops st K else none) else Jm E Γ an ops ops st K
def Jx (id:Nat)(ops:List Oper)(draw:Bool)(st:AS)(K:AS→Option R):Option R:=
 match an.merge id with
 |none=>xG E Γ an ops draw st K
 |some s=>
  if ops.all (cL an (zG ops)) then
   aa (xG E Γ.calm an ops draw st fun st'=>getBool st' s) fun b=>K ((st.uo (zG ops)).put (some s) (.one (.bool b)))
  else none
def xw (key:List Nat)(B:AS→(Ex→AS→Option R)→Option R):Nat→AS→(Ex→AS→Option R)→Option R
 |0,_,_=>none
 |m+1,st,K=>B st fun e st'=>
  match e with
  | .normal=>xw key B m (st'.mask key) K
  |e=>K e (st'.mask key)
def den (Λ:aW):Code→AS→(Ex→AS→Option R)→Option R
 | .skip,st,K=>K .normal st
 | .region id ops draw,st,K=>Jx E Γ an id ops.toList draw st (K .normal)
 | .seq a b,st,K=>den Λ a st fun e st'=>match e with| .normal=>den Λ b st' K|e=>K e st'
 | .cond c a b,st,K=>
   match st.rd c with
   | .val false [.bool t]=>cond t (den Λ a st K) (den Λ b st K)
   |_=>none
 | .block id c,st,K=>den Λ c st fun e st'=>
   match e with
   | .exit j=>if j==id then K .normal st' else K (.exit j) st'
   |e=>K e st'
 | .loop c,st,K=>
   bif an.peel.contains (dh c) then den Λ c (st.mask (an.mask (dh c))) fun e st'=>
    match e with
    | .normal=>(Λ (dh c)).go (st'.mask (an.mask (dh c))) K
    |e=>K e (st'.mask (an.mask (dh c)))
   else (Λ (dh c)).go (st.mask (an.mask (dh c))) K
 | .exit id,st,K=>K (.exit id) st
 | .ret,st,K=>K .ret st
 |_,_,_=>none
end
def Fz (st:AS)(E:Env):ResultVar→Option ((Bool×Nat)×Bool×List AC)
 | .tmp t=>match st.get t with| .val g cs=>some ((false,t),g,cs.map AC.strip)|_=>none
 | .cell t T=>match eL E.ty T,st.get t with
   |some sh,.val false [.ptr s off]=>((nth st.boxes s).getD none).bind fun cs=>
    if off+sh.ct.size≤cs.length then some ((true,s),sh.agg,((cs.drop off).take sh.ct.size).map AC.strip) else none
   |_,_=>none
def kn (st:AS)(E:Env):List (Bool×Nat)→List ResultVar→Option (List (Bool×List AC))
 |_,[]=>some []
 |had,r::rs=>(Fz st E r).bind fun x=>if had.contains x.1 then none else (kn st E (x.1::had) rs).bind fun xs=>some (x.2::xs)
def results (E:Env)(rs:List ResultVar)(st:AS):Option AV:=
 match kn st E [] rs with
 |some [(g,cs)]=>some (.val g cs)
 |some vs=>some (.tup vs)
 |none=>none
def start (fn:Func)(args:List AV):AS:=⟨args++List.replicate (fn.ntmps-args.length) .bot,List.replicate (args.length+(fn.ntmps-args.length)) none,0,List.replicate fn.ntmps false,[]⟩
@[reducible] def fV:List (Bool×FT)→Type
  |[]=>Unit
  |[(_,t)]=>t.ct.D
  |(_,t)::r=>t.ct.D×fV r
def eT:(l:List (Bool×FT))→List (Bool×List AC)→Option (fV l)
 |[],[]=>some ()
 |[(g,t)],[(g',cs)]=>bif g==g' then (match Jl t cs with|some (x,[])=>some x|_=>none) else none
 |(g,t)::p::r,(g',cs)::vs=>bif g==g' then (match Jl t cs with|some (x,[])=>(eT (p::r) vs).bind fun y=>some (x,y)|_=>none) else none
 |_,_=>none
def acs:(l:List (Bool×FT))→fV l→List (Bool×List AC)
 |[],_=>[]
 |[(g,t)],x=>[(g,rO t x)]
 |(g,t)::p::r,x=>(g,rO t x.1)::acs (p::r) x.2
def s8 (l:List (Bool×FT))(x:fV l):AV:=
 match acs l x with
 |[(g,cs)]=> .val g cs
 |vs=> .tup vs
def IW (E:Env)(Γ:aO)(an:An)(Λ:aW)(fn:Func)(rs:List (Bool×FT))(args:List AV):Option (fV rs):=
 match fn.body with
 |some c=>if args.length=fn.params.size then den E Γ an Λ c (start fn args) fun e st=>
  match e with
  | .exit _=>none
  |_=>aa (kn st E [] fn.results.toList) (eT rs)
  else none
 |none=>none
def evalAlt (E:Env)(Γ:aO)(an:An)(Λ:aW)(fn:Func)(rs rs2:List (Bool×FT))(h:fV rs2=fV rs)(args:List AV):Option (Bool×fV rs):=
 match fn.body with
 |some c=>if args.length=fn.params.size then den E Γ an Λ c (start fn args) fun e st=>
  match e with
  | .exit _=>none
  |_=>aa (kn st E [] fn.results.toList) fun ys=>
   match eT rs ys with
   |some y=>some (true,y)
   |none=>match eT rs2 ys with
    |some y=>some (false,cast h y)
    |none=>none
  else none
 |none=>none
def ND:Nat→List AC→List AC
 |_,[]=>[]
 |j,.sl _ e xs::cs=> .sl (.own (some (su j))) e xs::ND (j+1) cs
 |j,c::cs=>c::ND (j+1) cs
def tr:Nat→List AC→List AC
 |_,[]=>[]
 |j,.sl _ e xs::cs=> .sl (.loc 0 (some (.io j,su j))) e xs::tr (j+1) cs
 |j,c::cs=>c::tr (j+1) cs
def yQ (fn:Func)(g:Bool)(cs:List AC)(args:List AV):AS:={start fn (.val g (tr 0 cs)::args) with io:=ND 0 cs}
def SG (E:Env)(Γ:aO)(an:An)(Λ:aW)(fn:Func)(rs:List (Bool×FT))(t:CT)(args:List AV):Option (fV rs×t.D):=
 match fn.body,args with
 |some c,.val g cs::xs=>if xs.length+1=fn.params.size∧cs.all AC.zR=true then den E Γ an Λ c (yQ fn g cs xs) fun e st=>
  match e with
  | .exit _=>none
  |_=>aa (aa (kn st E [] fn.results.toList) (eT rs)) fun r=>
   match c9 t st.io with
   |some (x,[])=>some (r,x)
   |_=>none
  else none
 |_,_=>none
def Ai:Nat→List AC→List AC
 |_,[]=>[]
 |j,.sl _ e xs::cs=> .sl (.own (some (3*j+1))) e xs::Ai (j+1) cs
 |j,c::cs=>c::Ai (j+1) cs
def ub (fn:Func)(cs:List AC)(args:List AV):AS:=
 {start fn (.one (.ptr 0 0)::args) with boxes:=some (Ai 0 cs)::List.replicate (args.length+(fn.ntmps-(args.length+1))) none,io:=[.ptr 0 0]}
def Pm (E:Env)(Γ:aO)(an:An)(Λ:aW)(fn:Func)(rs:List (Bool×FT))(t:CT)(args:List AV):Option (fV rs×t.D):=
 match fn.body,args with
 |some c,.val true cs::xs=>if xs.length+1=fn.params.size∧cs.all AC.zR=true then den E Γ an Λ c (ub fn cs xs) fun e st=>
  match e with
  | .exit _=>none
  |_=>aa (aa (kn st E [] fn.results.toList) (eT rs)) fun r=>
   match st.io,st.boxes with
   |[.ptr 0 0],some cs'::_=>match c9 t cs' with
    |some (x,[])=>some (r,x)
    |_=>none
   |_,_=>none
  else none
 |_,_=>none
end Go.Dn
