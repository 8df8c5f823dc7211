import Derived.Test.YtgbaemfepmabgaaGreatDnData
/- An abstract, heap-free semantics of the model's code, for functions that treat their data by value: definitions. -/
namespace Go.Dn
inductive fg where
 |slot (s j:Nat)|box (s j:Nat)|io (j:Nat)
 deriving DecidableEq
inductive jg where
 |own (tag:Option Nat)
 |loc (ep:Nat) (pv:Option (fg×Nat))
 |arg (k:Bool)
 |nest (ep:Nat) (r:fg) (t:Nat) (e:CT) (i:Int) (off:Nat)
 |part (ep:Nat) (r:fg) (t:Nat) (lo:Int)
 |holed (tag:Option Nat) (i:Int) (ep:Option Nat)
inductive AC where
 |int (k:IntKind) (n:Int)|bool (b:Bool)|str (s:List UInt8)
 |sl (fl:jg) (e:CT) (xs:List e.D)
 |nilsl
 |ptr (s off:Nat)
 |elt (fl:jg) (e:CT) (x:e.D) (i:Int) (off:Nat)
 |fn (f:Nat)
 |un
 |bot
inductive AV where
 |val (agg:Bool) (cs:List AC)
 |tup (vs:List (Bool×List AC))
abbrev AV.one (c:AC):AV:=.val false [c]
abbrev AV.bot:AV:=.val false [.bot]
structure AS where
 slots:List AV
 boxes:List (Option (List AC))
 ep:Nat
 iss:List Bool
 io:List AC
structure Shape where
 agg:Bool
 ct:CT
 offs:List (Nat×Nat):=[]
structure An where
 mask:Nat→List Nat:=λ_=>[]
 merge:Nat→Option Nat:=λ_=>none
 mv:List Nat:=[]
 nest:List Nat:=[]
 mb:Nat→Option Nat:=λ_=>none
 sb:Nat→Option Nat:=λ_=>none
 late:List Nat:=[]
 peel:List Nat:=[]
 nils:List Nat:=[]
 fm:List Nat:=[]
 eb:Nat→Option Nat:=λ_=>none
 es:Nat→Option Nat:=λ_=>none
 er:Nat→Option Nat:=λ_=>none
 cut:List Nat:=[]
def cellsOf:(t:CT)→jg→t.D→List AC
 | .int k,_,n=>[.int k n]
 | .bool,_,b=>[.bool b]
 | .str,_,s=>[.str s]
 | .sl e,fl,xs=>[.sl fl e xs]
 | .pair a b,fl,x=>cellsOf a fl x.1++cellsOf b fl x.2
def eu:(t:CT)→List AC→Option (t.D×List AC)
 | .int k,.int k' n::r=>if k'=k then some (n,r) else none
 | .bool,.bool b::r=>some (b,r)
 | .str,.str s::r=>some (s,r)
 | .sl e,.sl (.own _) e' xs::r=>if h:e'=e then some (h▸xs,r) else none
 | .sl _,.nilsl::r=>some ([],r)
 | .pair a b,cs=>(eu a cs).bind λx=>(eu b x.2).bind λy=>some ((x.1,y.1),y.2)
 |_,_=>none
def nth {α:Type}:List α→Nat→Option α
 |[],_=>none
 |a::_,0=>some a
 |_::l,n+1=>nth l n
def dW {α:Type}:List α→Nat→α→List α
 |[],_,_=>[]
 |_::l,0,v=>v::l
 |a::l,n+1,v=>a::dW l n v
def AS.get (st:AS)(i:Nat):AV:=(nth st.slots i).getD .bot
def AS.put (st:AS)(d:Option Nat)(v:AV):AS:=
 match d with
 |some d=>{st with slots:=dW st.slots d v}
 |none=>st
def vh (d j:Nat):Nat:=3*(4096*d+j)+2
def AS.ec (st:AS)(d:Option Nat)(j:Nat):Option Nat:=
 match d with
 |some d=>bif (nth st.iss d).getD true then none else bif Nat.ble 4096 j then none else some (vh d j)
 |none=>none
def AS.cW (st:AS)(d:Option Nat):AS:=
 match d with
 |some d=>{st with iss:=dW st.iss d true}
 |none=>st
def AS.ji (st:AS)(d:Option Nat)(e:CT)(xs:List e.D):AS:=
 (st.cW d).put d (.one (.sl (.own (st.ec d 0)) e xs))
def AC.borrow (ep:Nat)(rt:Option fg):AC→AC
 | .sl (.own tag) e xs=> .sl (.loc ep (match rt,tag with|some r,some t=>some (r,t)|_,_=>none)) e xs
 | .sl (.holed tag _ (some ep0)) e xs=> .sl (.loc ep0 (match rt,tag with|some r,some t=>some (r,t)|_,_=>none)) e xs
 | .sl (.holed _ _ none) _ _=> .bot
 |c=>c
def ek (ep:Nat)(f:Nat→fg):Nat→List AC→List AC
 |_,[]=>[]
 |j,c::cs=>c.borrow ep (some (f j))::ek ep f (j+1) cs
def aB (ep:Nat)(cs:List AC):List AC:=cs.map (AC.borrow ep none)
def AV.borrow (ep:Nat)(f:Nat→fg):AV→AV
 | .val g cs=> .val g (ek ep f 0 cs)
 | .tup vs=> .tup (vs.map λx=>(x.1,aB ep x.2))
def AV.aB (ep:Nat):AV→AV
 | .val g cs=> .val g (Dn.aB ep cs)
 | .tup vs=> .tup (vs.map λx=>(x.1,Dn.aB ep x.2))
def ofConst:Value→AV
 | .int k n=> .one (.int k n)
 | .bool b=> .one (.bool b)
 | .string s=> .one (.str s.data.toList)
 | .slice none 0 0=> .one .nilsl
 |_=> .bot
def AS.rd (st:AS):Operand→AV
 | .tmp t=>(st.get t).borrow st.ep (.slot t)
 | .const v=>ofConst v
 | .func f=> .one (.fn f)
 | .global _=> .bot
def AS.take (st:AS):Operand→AV×AS
 | .tmp t=>(st.get t,st.put (some t) ((st.get t).aB st.ep))
 |x=>(st.rd x,st)
def AS.cC (st:AS)(s:Nat)(b:Option (List AC)):AS:={st with boxes:=dW st.boxes s b}
def AC.asArg (ep:Nat):AC→AC
 | .int k n=> .int k n
 | .bool b=> .bool b
 | .str s=> .str s
 | .sl (.own _) e xs=> .sl (.arg false) e xs
 | .sl (.loc ep' _) e xs=>if ep'==ep then .sl (.arg false) e xs else .bot
 | .sl (.arg _) e xs=> .sl (.arg false) e xs
 | .nilsl=> .nilsl
 | .fn f=> .fn f
 |_=> .bot
def AV.asArg (ep:Nat):AV→AV
 | .val g cs=> .val g (cs.map (AC.asArg ep))
 | .tup _=> .bot
def AC.rY (ep:Nat)(tag:Option Nat):AC→AC
 | .sl (.own _) e xs=> .sl (.own tag) e xs
 | .sl (.arg _) e xs=> .sl (.loc ep none) e xs
 | .sl (.loc _ _) _ _=> .bot
 | .sl (.nest ..) _ _=> .bot
 | .sl (.part ..) _ _=> .bot
 | .sl (.holed _ i _) e xs=> .sl (.holed none i none) e xs
 | .ptr _ _=> .bot
 | .elt _ _ _ _ _=> .bot
 |c=>c
def u3 (ep:Nat)(mk:Nat→Option Nat):Nat→List AC→List AC
 |_,[]=>[]
 |j,c::cs=>c.rY ep (mk j)::u3 ep mk (j+1) cs
def HD (ep:Nat)(mk:Nat→Option Nat):Nat→List (Bool×List AC)→List (Bool×List AC)
 |_,[]=>[]
 |j,t::ts=>(t.1,u3 ep mk j t.2)::HD ep mk (j+t.2.length) ts
def AV.rY (ep:Nat)(mk:Nat→Option Nat):AV→AV
 | .val g cs=> .val g (u3 ep mk 0 cs)
 | .tup vs=> .tup (HD ep mk 0 vs)
def AC.ur:AC→Bool
 | .sl (.arg _) _ _=>true
 | .int ..=>true
 | .bool _=>true
 | .str _=>true
 | .fn _=>true
 |_=>false
structure bd where
 R:Type
 fn:List AV→Option R
 av:R→AV
 io:Bool:=false
 back:R→List AC:=λ_=>[]
 bx:Bool:=false
 pr:Bool:=false
 sel:R→Bool:=λ_=>true
 alt:R→AV:=λ_=> .val false [.bot]
 cur:Bool:=false
 hcur:cur=true→∀y,(back y).all AC.ur=true:=by intro h;cases h
def bd.res (F:bd)(y:F.R):AV:=cond (F.sel y) (F.av y) (F.alt y)
abbrev cG:=Nat→bd
def bd.dead:bd:={R:=Unit,fn:=λ_=>none,av:=λ_=> .val false [.bot]}
def cG.calm (Γ:cG):cG:=λf=>bif (Γ f).io||(Γ f).bx||(Γ f).pr then bd.dead else Γ f
def cG.uh (Γ:cG):cG:=λf=>bif (Γ f).io||(Γ f).pr||((Γ f).bx&& !(Γ f).cur) then bd.dead else Γ f
def uM {R:Type}(op:BinOp)(k:IntKind)(x y:Int)(K:AC→Option R):Option R:=
 match op with
 | .add=>K (.int k (k.wrap (x+y)))
 | .sub=>K (.int k (k.wrap (x-y)))
 | .mul=>K (.int k (k.wrap (x*y)))
 | .quo=>if y=0 then none else K (.int k (k.wrap (x.tdiv y)))
 | .rem=>if y=0 then none else K (.int k (x.tmod y))
 | .and=>K (.int k (k.wrap (BitVec.ofInt k.bits x&&&BitVec.ofInt k.bits y).toNat))
 | .or=>K (.int k (k.wrap (BitVec.ofInt k.bits x|||BitVec.ofInt k.bits y).toNat))
 | .xor=>K (.int k (k.wrap (BitVec.ofInt k.bits x^^^BitVec.ofInt k.bits y).toNat))
 | .andNot=>K (.int k (k.wrap (BitVec.ofInt k.bits x&&&~~~ BitVec.ofInt k.bits y).toNat))
 | .eql=>K (.bool (x==y))
 | .neq=>K (.bool (x !=y))
 | .lss=>K (.bool (decide (x<y)))
 | .leq=>K (.bool (decide (x≤y)))
 | .gtr=>K (.bool (decide (x>y)))
 | .geq=>K (.bool (decide (x≥y)))
 |_=>none
def wN {R:Type}(op:BinOp)(x y:List UInt8)(K:AC→Option R):Option R:=
 match op with
 | .add=>room (x.length+y.length) (K (.str (x++y)))
 | .eql=>K (.bool (x==y))
 | .neq=>K (.bool (!(x==y)))
 | .lss=>K (.bool (Op.bytesLess x y))
 | .leq=>K (.bool (Op.bytesLess x y||x==y))
 | .gtr=>K (.bool (!(Op.bytesLess x y||x==y)))
 | .geq=>K (.bool (!(Op.bytesLess x y)))
 |_=>none
def mh:List AC→List AC→Option Bool
 |[],[]=>some true
 | .int k x::r,.int k' y::r'=>if k=k' then(mh r r').bind λb=>some ((x==y)&&b) else none
 | .bool x::r,.bool y::r'=>(mh r r').bind λb=>some ((x==y)&&b)
 | .str x::r,.str y::r'=>(mh r r').bind λb=>some ((x==y)&&b)
 |_,_=>none
def tw {R:Type}(op:BinOp)(x y:AV)(K:AC→Option R):Option R:=
 match x,y with
 | .val false [.int k a],.val false [.int k' b]=>
   match op with
   | .shl=>if b<0 then none else K (.int k (k.wrap (a*2^(min b.toNat k.bits))))
   | .shr=>if b<0 then none else K (.int k (a.fdiv (2^(min b.toNat k.bits))))
   |_=>if k=k' then uM op k a b K else none
 | .val false [.str a],.val false [.str b]=>wN op a b K
 | .val false [.bool a],.val false [.bool b]=>
   match op with
   | .eql=>K (.bool (a==b))
   | .neq=>K (.bool (!(a==b)))
   |_=>none
 | .val true xs,.val true ys=>
   match op with
   | .eql=>aa (mh xs ys) λb=>K (.bool b)
   | .neq=>aa (mh xs ys) λb=>K (.bool (!b))
   |_=>none
 |_,_=>none
def NH {R:Type}(op:UnOp)(x:AV)(K:AC→Option R):Option R:=
 match op,x with
 | .not,.val false [.bool b]=>K (.bool (!b))
 | .neg,.val false [.int k n]=>K (.int k (k.wrap (0-n)))
 | .xor,.val false [.int k n]=>uM .xor k (if k.signed then-1 else k.max) n K
 |_,_=>none
def bS (cs:List AC)(off:Nat)(vs:List AC):List AC:=cs.take off++vs++cs.drop (off+vs.length)
def AS.cM (st:AS):fg→Option AC
 | .slot s j=>match st.get s with| .val _ cs=>nth cs j|_=>none
 | .box s j=>((nth st.boxes s).getD none).bind λcs=>nth cs j
 | .io j=>nth st.io j
def AS.cR (st:AS)(r:fg)(c:AC):AS:=
 match r with
 | .slot s j=>match st.get s with| .val g cs=>st.put (some s) (.val g (dW cs j c))|_=>st
 | .box s j=>match (nth st.boxes s).getD none with|some cs=>st.cC s (some (dW cs j c))|none=>st
 | .io j=>{st with io:=dW st.io j c}
def AS.fresh (st:AS):AC→AC
 | .sl (.loc ep (some (r,t))) e xs=>
   bif ep==st.ep then .sl (.loc ep (some (r,t))) e xs else
    match st.cM r with
    |some (.sl (.own (some t')) e' ys)=>if h:e'=e then bif t'==t then .sl (.loc st.ep (some (r,t))) e (h▸ys) else .sl (.loc ep (some (r,t))) e xs else .sl (.loc ep (some (r,t))) e xs
    |_=> .sl (.loc ep (some (r,t))) e xs
 |c=>c
def AV.fresh (st:AS):AV→AV
 | .val g cs=> .val g (cs.map st.fresh)
 | .tup vs=> .tup vs
def AC.now (ep:Nat):AC→Bool
 | .sl (.loc ep' (some _)) _ _=>ep'==ep
 |_=>true
def AS.iV {R:Type}(st:AS)(r:fg)(t:Nat)(e:CT)(i:Int)(off:Nat)(vs:List AC)(K:AS→Option R):Option R:=
 match st.cM r with
 |some (.sl (.own (some t')) e' xs)=>
  if h:e'=e then
   if t'=t then
    aa (idx (h▸xs:List e.D) i) λx=>
     match eu e (bS (cellsOf e (.own none) x) off vs)with
     |some (x',[])=>K {st.cR r (.sl (.own (some t')) e ((h▸xs:List e.D).set i.toNat x'))with ep:=st.ep+1}
     |_=>none
   else none
  else none
 |some (.sl (.holed (some t') i' _) e' xs)=>
  if h:e'=e then
   if t'=t∧off=0 then
    aa (GR (h▸xs:List e.D) i' i) λ_=>
     match eu e vs with
     |some (x',[])=>K {st.cR r (.sl (.own (some t')) e ((h▸xs:List e.D).set i.toNat x'))with ep:=st.ep+1}
     |_=>none
   else none
  else none
 |_=>none
def AV.cells:AV→List AC
 | .val _ cs=>cs
 | .tup _=>[.bot]
def cO (st:AS):List Operand→List AV×AS
 |[]=>([],st)
 |x::xs=>let (v,st1):=st.take x;let (vs,st2):=cO st1 xs;(v::vs,st2)
def qT (e:CT):List (List AC)→Option (List e.D)
 |[]=>some []
 |cs::r=>match eu e cs with
  |some (x,[])=>(qT e r).bind λxs=>some (x::xs)
  |_=>none
def uK:Nat→List (Nat×Operand)→Bool
 |_,[]=>true
 |n,(i,_)::r=>i==n&&uK (n+1) r
def AC.u6:AC→Bool
 | .bot=>false
 | .un=>false
 |_=>true
def nb (offs:List (Nat×Nat))(zero:List AC):List (Nat×List AC)→Option (List AC)
 |[]=>some zero
 |(i,cs)::r=>match nth offs i with
  |some (off,n)=>if cs.length=n∧off+n≤zero.length∧cs.all AC.u6 then nb offs (bS zero off cs) r else none
  |none=>none
inductive LK where
 |int|bool|str
 deriving DecidableEq
structure Env where
 ty:List (Nat×Shape)
 eqs:List (Nat×List LK):=[]
 fts:List ((Nat×Nat)×Nat):=[]
def Ba (l:List (Nat×List LK))(t:Nat):Option (List LK):=
 match l with
 |[]=>none
 |(u,sh)::r=>bif u==t then some sh else Ba r t
def fits:List LK→List AC→Bool
 |[],[]=>true
 | .int::ls,.int _ _::r=>fits ls r
 | .bool::ls,.bool _::r=>fits ls r
 | .str::ls,.str _::r=>fits ls r
 |_,_=>false
def E4 (l:List ((Nat×Nat)×Nat))(S f:Nat):Option Nat:=
 match l with
 |[]=>none
 |((u,k),T)::r=>bif u==S&&k==f then some T else E4 r S f
def eK (l:List (Nat×Shape))(t:Nat):Option Shape:=
 match l with
 |[]=>none
 |(u,sh)::r=>bif u==t then some sh else eK r t
def Env.sl (E:Env)(t:Nat):Option CT:=
 match eK E.ty t with
 |some ⟨false,.sl e,_⟩=>some e
 |_=>none
def Env.str (E:Env)(t:Nat):Bool:=
 match eK E.ty t with
 |some ⟨false,.str,_⟩=>true
 |_=>false
def Env.bool (E:Env)(t:Nat):Bool:=
 match eK E.ty t with
 |some ⟨false,.bool,_⟩=>true
 |_=>false
def Env.bytes (E:Env)(t:Nat):Bool:=
 match eK E.ty t with
 |some ⟨false,.sl (.int .u8),[(te,_)]⟩=>match eK E.ty te with|some ⟨false,.int .u8,_⟩=>true|_=>false
 |_=>false
def jg.live (ep:Nat):jg→Bool
 | .loc ep' _=>ep'==ep
 | .arg _=>true
 | .own _=>false
 | .nest ..=>false
 | .part ..=>false
 | .holed ..=>false
def jg.wx (ep:Nat)(flat:Bool):jg→Bool
 | .loc ep' _=>ep'==ep&&flat
 | .arg _=>flat
 | .own _=>true
 | .nest ..=>false
 | .part ..=>false
 | .holed ..=>false
def jg.bare:jg→jg
 | .loc ep _=> .loc ep none
 |f=>f
def AC.dF:AC→Bool
 | .int _ _=>true
 | .bool _=>true
 | .str _=>true
 | .fn _=>true
 |_=>false
def tm:Operand→List Nat
 | .tmp t=>[t]
 |_=>[]
def Ay (l:List Operand):List Nat:=l.flatMap tm
def sY (an:An)(o:Oper):Bool:=
 match o.dst with
 |some d=>an.mv.contains d&&(an.mb d).isNone
 |none=>false
def Wa (an:An)(o:Oper):Bool:=
 match o.dst with
 |some d=>an.nils.contains d
 |none=>false
def pz (an:An)(o:Oper):Bool:=
 match o.op with
 | .assign (.tmp s)=>an.late.contains s
 | .store _ _ (.tmp s)=>an.late.contains s
 |_=>false
def WO:Option Operand→List Nat
 |some x=>tm x
 |none=>[]
def b8 (o:Oper):List Nat:=
 match o.op with
 | .move x=>tm x
 | .assign x=>tm x
 | .pick c a b=>tm c++tm a++tm b
 | .box _ x=>tm x
 | .load _ p=>tm p
 | .store _ p x=>tm p++tm x
 | .nilCheck x=>tm x
 | .binOp _ _ x y _=>tm x++tm y
 | .unOp _ _ x=>tm x
 | .fieldAddr _ p _=>tm p
 | .indexAddr _ x i=>tm x++tm i
 | .index _ x i=>tm x++tm i
 | .build _ parts=>Ay (parts.toList.map (·.2))
 | .buildSlice _ _ parts=>Ay (parts.toList.map (·.2))
 | .makeSlice _ n c=>tm n++tm c
 | .slice _ x lo hi none=>tm x++WO lo++WO hi
 | .convert _ _ x=>tm x
 | .extract (.tmp t) _=>[t]
 | .call {callee:=.builtin _,args,..}=>Ay args.toList
 | .call {callee:=.value f,args,..}=>tm f++Ay args.toList
 |_=>[]
def sX (an:An)(o:Oper):Bool:=
 match o.op with
 | .move _=>match o.dst with|some d=>an.mv.contains d|none=>false
 | .assign _=>true
 | .box ..=>true
 | .build ..=>true
 | .buildSlice ..=>true
 | .store ..=>true
 | .extract ..=>match o.dst with|some d=>an.mv.contains d|none=>false
 | .call {callee:=.builtin .append,..}=>true
 |_=>false
def sW (an:An)(o:Oper):Bool:=
 match o.op,o.dst,o.guard with
 | .load _ (.tmp q),some d,none=>an.mv.contains d&&(an.mb d).isNone&&(an.eb q).isSome
 |_,_,_=>false
def ql (an:An)(o:Oper):Bool:=
 match o.op,o.dst,o.guard with
 | .load _ (.tmp q),some d,none=> !an.mv.contains d&& !an.fm.contains d&&(an.sb q).isSome
 |_,_,_=>false
def sZ (an:An)(o:Oper):List Nat:=
 match o.op with
 | .alloc _=>o.dst.toList
 | .box ..=>o.dst.toList
 | .load _ p=>match o.dst with|some d=>bif an.mv.contains d then(an.mb d).toList++(bif sW an o then(match p with| .tmp q=>(an.eb q).toList|_=>[]) else []) else []|none=>[]
 | .store _ (.tmp p) _=>(an.sb p).toList
 | .call {callee:=.value _,args,..}=>(match args.toList with| .tmp q::_=>(an.sb q).toList|_=>[])
 |_=>[]
def gW (an:An)(o:Oper):Bool:=
 match o.op with
 | .move _=>true
 | .load ..=>(match o.dst with|some d=> !an.mv.contains d||(an.mb d).isSome|none=>false)||sW an o
 | .extract (.tmp _) _=>true
 | .store _ (.tmp p) _=>(an.sb p).isSome&& !pz an o
 | .assign _=> !pz an o
 | .pick ..| .alloc _| .box ..| .nilCheck _| .binOp ..| .unOp ..| .fieldAddr ..| .indexAddr ..| .index ..| .build ..| .buildSlice ..| .makeSlice ..| .convert ..=>true
 | .slice _ _ _ _ none=> !sY an o
 | .call {callee:=.builtin .len,..}| .call {callee:=.builtin .min,..}| .call {callee:=.builtin .max,..}| .call {callee:=.builtin .append,..}=>true
 | .call {callee:=.value _,..}=>true
 |_=>false
def writes (an:An)(o:Oper):List Nat:=o.dst.toList++(bif sX an o then b8 o else [])
def AV.now (ep:Nat):AV→Bool
 | .val _ cs=>cs.all (AC.now ep)
 | .tup _=>true
def AC.fN:AC→Bool
 | .int ..=>true
 | .bool _=>true
 | .str _=>true
 | .fn _=>true
 | .ptr ..=>true
 |_=>false
def AV.fN:AV→Bool
 | .val _ cs=>cs.all AC.fN
 | .tup _=>false
def sG (E:Env)(T:TypeId)(st:AS)(s off:Nat):Bool:=
 match eK E.ty T,(nth st.boxes s).getD none with
 |some sh,some cs=>((cs.drop off).take sh.ct.size).all AC.fN
 |_,_=>false
def F8 (an:An)(o:Oper):Bool:=match o.dst with|some d=>an.fm.contains d|none=>false
def qI (an:An)(o:Oper):Bool:=
 match o.op,o.dst,o.guard with
 | .load _ (.tmp _),some d,none=>an.mv.contains d&&(an.mb d).isSome
 |_,_,_=>false
def yo (an:An)(o:Oper):Bool:=
 match o.op,o.dst,o.guard with
 | .load _ (.tmp _),some d,none=> !an.mv.contains d&&an.fm.contains d
 |_,_,_=>false
def KQ (an:An)(o:Oper):List Nat:=
 match o.op,o.dst with
 | .load ..,some d=>(an.er d).toList
 | .call {callee:=.value _,..},some d=>(an.er d).toList
 |_,_=>[]
def AC.MB (l:List Nat):AC→Bool
 | .sl (.loc _ (some (.slot b _,_))) _ _=>l.contains b
 | .sl (.loc _ _) _ _=>false
 |_=>true
def u5 (l:List Nat)(st:AS):Operand→Bool
 | .tmp t=>(match st.get t with| .val _ cs=>cs.all (AC.MB l)| .tup _=>true)
 |_=>true
def Lf (an:An)(X l:List Nat)(st:AS)(xs:List Operand)(q:Nat):AV→Bool
 | .val false [.ptr s _]=> !X.contains s&&an.sb q==some s&&(match (nth st.boxes s).getD none with|some cs=>cs.all AC.ur|none=>true)&&xs.all (u5 l st)
 |_=>true
def AV.IB:AV→Bool
 | .val false [.ptr _ _]=>false
 |_=>true
def la (an:An)(X l:List Nat)(st:AS):List Operand→Bool
 | .tmp q::xs=>Lf an X l st xs q (st.rd (.tmp q))
 |x::_=>(st.rd x).IB
 |[]=>true
def bX (E:Env)(an:An)(X:List Nat)(o:Oper)(st:AS):Bool:=
 match o.op with
 | .move x=> !F8 an o||(st.rd x).fN
 | .indexAddr _ x _=>(st.rd x).now st.ep||(match st.rd x with| .val _ [.sl (.loc _ (some (.box b _,_))) _ _]=> !X.contains b|_=>false)
 | .slice _ x _ _ none=>(st.rd x).now st.ep
 | .call {callee:=.value _,args,..}=>la an X (KQ an o) st args.toList&&args.toList.all λx=>(st.rd x).now st.ep
 | .load T p=>match st.rd p with
   | .val false [.ptr s off]=> !X.contains s&&(match o.dst with|some d=> !an.mv.contains d||an.mb d==some s|none=>true)&&(!F8 an o||sG E T st s off)
   | .val false [.elt fl _ _ _ _]=>(fl.live st.ep||(match fl with
     | .loc _ (some (.slot b _,_))=>(KQ an o).contains b
     | .loc _ (some (.box b _,_))=> !X.contains b
     |_=>false))&& !(F8 an o||qI an o)&& !ql an o&&(!sW an o||(match p,fl with
     | .tmp q,.loc _ (some (.box b _,_))=>an.eb q==some b&& !X.contains b
     |_,_=>false))
   |_=> !(F8 an o||qI an o)
 | .store _ (.tmp p) _=>((an.sb p).isNone&&(an.eb p).isNone&&(an.es p).isNone)||(match st.rd (.tmp p)with
   | .val false [.ptr s _]=> !X.contains s&&an.sb p==some s
   | .val false [.elt (.loc _ (some (.box b _,_))) _ _ _ _]=>an.eb p==some b&&(an.sb p).isNone&&(an.es p).isNone
   | .val false [.elt (.loc _ (some (.slot b _,_))) _ _ _ _]=>an.es p==some b&&(an.sb p).isNone&&(an.eb p).isNone
   |_=>false)
 | .extract (.tmp t) i=>match st.get t with
   | .tup vs=>match nth vs i with|some x=>x.2.all AC.dF||(match o.dst with|some d=>an.mv.contains d|none=>false)|none=>true
   |_=>true
 |_=>true
def sH (an:An)(ops:List Oper)(o:Oper):List Nat:=
 (match o.guard with
 |some (j,_)=>((nth ops j).bind (·.dst)).toList
 |none=>[])++KQ an o
def meets (a b:List Nat):Bool:=a.any λx=>b.contains x
def Gi (an:An)(ops:List Oper)(X Y:List Nat)(o p:Oper):Bool:=
 gW an o&&gW an p&& !meets (writes an o) (b8 p++sH an ops p++writes an p)&& !meets (writes an p) (b8 o++sH an ops o)&&
 (sZ an o).all (λd=>Y.contains d)&&(sZ an p).all (λd=>X.contains d)&& !meets (sZ an o) (p.dst.toList++sZ an p)&& !meets (sZ an p) o.dst.toList
def GJ (o p:Oper):Bool:=
 match o.op,p.op,o.dst,p.dst,o.guard,p.guard with
 | .extract (.tmp t) i,.extract (.tmp t') j,some d,some d',none,none=>t==t'&& !(i==j)&& !(d==d')&& !(d==t)&& !(d'==t)
 |_,_,_,_,_,_=>false
def GH (an:An)(o p:Oper):Bool:=
 match p.op,p.dst,p.guard with
 | .store _ (.tmp q) (.tmp x),none,none=>((an.eb q).isSome&&(an.es q).isNone||(match an.es q with|some b=>(an.eb q).isNone&& !(b==x)&& !(b==q)&& !meets [b] (o.dst.toList++b8 o)|none=>false))&&(an.sb q).isNone&& !pz an p&&(match o.op,o.dst,o.guard with
   | .move (.tmp t),some d,none=> !an.mv.contains d&&an.fm.contains d&& !(d==q)&& !(d==x)&& !(t==x)&& !(t==q)&& !(d==t)
   | .extract (.tmp t) _,some d,none=> !(d==q)&& !(d==x)&& !(t==x)&& !(t==q)&& !(d==t)
   |_,_,_=>false)
 |_,_,_=>false
def Hc (an:An)(o p:Oper):Bool:=
 (qI an o&&yo an p||yo an o&&qI an p)&& !meets o.dst.toList (p.dst.toList++b8 p)&& !meets p.dst.toList (b8 o)
def Gw (an:An)(o p:Oper):Bool:=ql an o&&sW an p&& !meets o.dst.toList (p.dst.toList++b8 p)&& !meets p.dst.toList (b8 o)
def Mi (an:An)(o p:Oper):Bool:=GJ o p||GH an o p||Hc an o p||Gw an o p
def xA (an:An)(ops:List Oper)(X Y:List Nat)(o p:Oper):Bool:=Mi an o p||Gi an ops X Y o p
def qm (o:Oper):List Nat:=(o.after.toList.filter (λe=>Region.binds .any e)).map (·.on)
def C7 (a b:List Nat):List Nat:=a.foldl (λs x=>bif s.contains x then s else x::s) b
def Df:List Oper→List (List Nat)→List (List Nat)
 |[],acc=>acc
 |o::r,acc=>Df r (acc++[(qm o).foldl (λs j=>C7 (j::(nth acc j).getD []) s) []])
def J6 (A:List (List Nat))(i k:Nat):Bool:=((nth A i).getD []).contains k
def H5 (an:An)(A:List (List Nat))(i:Nat)(fl pl:Bool):Nat→List Oper→List Nat
 |_,[]=>[]
 |k,o::r=>(bif !J6 A i k&& !J6 A k i&& !(k==i)&& !(fl&&qI an o)&& !(pl&&sW an o) then sZ an o else [])++H5 an A i fl pl (k+1) r
def kM (an:An)(A:List (List Nat))(i k:Nat)(ops:List Oper):List Nat:=H5 an A i (match nth ops i with|some o=>yo an o|none=>false) (match nth ops i with|some o=>ql an o|none=>false) k ops
def yQ (an:An)(ops:List Oper)(A:List (List Nat))(i:Nat)(oi:Oper):Nat→List Oper→Bool
 |_,[]=>true
 |j,oj::r=>bif Nat.ble i j then true else(J6 A i j||xA an ops (kM an A j 0 ops) (kM an A i 0 ops) oj oi)&&yQ an ops A i oi (j+1) r
def CK (an:An)(ops:List Oper)(A:List (List Nat)):Nat→List Oper→Bool
 |_,[]=>true
 |i,oi::r=>(qm oi).all (λk=>Nat.blt k i)&&yQ an ops A i oi 0 ops&&CK an ops A (i+1) r
def DQ (an:An)(ops:List Oper):Bool:=CK an ops (Df ops []) 0 ops
inductive Ex where
 |normal|ret|exit (id:Nat)
inductive FK where
 |own (tag:Option Nat)|arg|arg0|loc|lio (j t:Nat)|nil
def FK.flag:FK→jg
 | .own t=> .own t
 | .arg=> .arg false
 | .arg0=> .arg true
 | .loc=> .loc 0 none
 | .lio j t=> .loc 0 (some (.io j,t))
 | .nil=> .arg false
def FK.isNil:FK→Bool
 | .nil=>true
 |_=>false
inductive FT where
 |int (k:IntKind)|bool|str|sl (fl:FK) (e:CT)|pair (a b:FT)
abbrev FT.ct:FT→CT
 | .int k=> .int k
 | .bool=> .bool
 | .str=> .str
 | .sl _ e=> .sl e
 | .pair a b=> .pair a.ct b.ct
def eR:(t:FT)→t.ct.D→List AC
 | .int k,n=>[.int k n]
 | .bool,b=>[.bool b]
 | .str,s=>[.str s]
 | .sl fl e,xs=>[bif fl.isNil then .nilsl else .sl fl.flag e xs]
 | .pair a b,x=>eR a x.1++eR b x.2
def FK.fits:FK→jg→Bool
 | .own t,.own t'=>t==t'
 | .arg,.arg k=> !k
 | .arg0,.arg k=>k
 | .loc,.loc 0 none=>true
 | .lio j t,.loc 0 (some (.io j',t'))=>j==j'&&t==t'
 |_,_=>false
def xq:(t:FT)→List AC→Option (t.ct.D×List AC)
 | .int k,.int k' n::r=>if k'=k then some (n,r) else none
 | .bool,.bool b::r=>some (b,r)
 | .str,.str s::r=>some (s,r)
 | .sl fl e,.sl fl' e' xs::r=>if h:e'=e then bif fl.fits fl' then some (h▸xs,r) else none else none
 | .sl fl _,.nilsl::r=>bif fl.isNil then some ([],r) else none
 | .pair a b,cs=>(xq a cs).bind λx=>(xq b x.2).bind λy=>some ((x.1,y.1),y.2)
 |_,_=>none
inductive PD where
 |bot|ptr (s off:Nat)|fn (f:Nat)|data (g:Bool) (t:FT)
inductive SR where
 |none|some (t:FT)|ptr
structure SD where
 slots:List PD
 boxes:List (Option FT)
 io:SR:=.none
abbrev wb:List PD→Type
 |[]=>Unit
 | .data _ t::r=>t.ct.D×wb r
 |_::r=>wb r
abbrev vz:List (Option FT)→Type
 |[]=>Unit
 |some t::r=>t.ct.D×vz r
 |none::r=>vz r
abbrev WK:SR→Type
 | .none=>Unit
 | .some t=>t.ct.D
 | .ptr=>Unit
abbrev SD.D (d:SD):Type:=wb d.slots×vz d.boxes×WK d.io
def kO:(l:List PD)→wb l→List AV
 |[],_=>[]
 | .data g t::r,x=> .val g (eR t x.1)::kO r x.2
 | .bot::r,x=> .bot::kO r x
 | .ptr s off::r,x=> .one (.ptr s off)::kO r x
 | .fn f::r,x=> .one (.fn f)::kO r x
def qM:(l:List (Option FT))→vz l→List (Option (List AC))
 |[],_=>[]
 |some t::r,x=>some (eR t x.1)::qM r x.2
 |none::r,x=>none::qM r x
def Lk:(o:SR)→WK o→List AC
 | .none,_=>[]
 | .some t,x=>eR t x
 | .ptr,_=>[.ptr 0 0]
def SD.enc (d:SD)(x:d.D):AS:=⟨kO d.slots x.1,qM d.boxes x.2.1,0,List.replicate d.slots.length false,Lk d.io x.2.2⟩
def AV.It:AV→Bool
 | .val false [.bot]=>true
 |_=>false
def AV.Iu (s off:Nat):AV→Bool
 | .val false [.ptr s' off']=>s==s'&&off==off'
 |_=>false
def AV.JB (f:Nat):AV→Bool
 | .val false [.fn f']=>f==f'
 |_=>false
def fi:(l:List PD)→List AV→Option (wb l)
 |[],[]=>some ()
 | .data g t::r,.val g' cs::vs=>bif g==g' then(match xq t cs with|some (x,[])=>(fi r vs).bind λy=>some (x,y)|_=>none) else none
 | .bot::r,v::vs=>bif v.It then fi r vs else none
 | .ptr s off::r,v::vs=>bif v.Iu s off then fi r vs else none
 | .fn f::r,v::vs=>bif v.JB f then fi r vs else none
 |_,_=>none
def jH:(l:List (Option FT))→List (Option (List AC))→Option (vz l)
 |[],[]=>some ()
 |some t::r,some cs::bs=>match xq t cs with|some (x,[])=>(jH r bs).bind λy=>some (x,y)|_=>none
 |none::r,none::bs=>jH r bs
 |_,_=>none
def G6:List AC→Bool
 |[.ptr 0 0]=>true
 |_=>false
def DN:(o:SR)→List AC→Option (WK o)
 | .none,[]=>some ()
 | .some t,cs=>match xq t cs with|some (x,[])=>some x|_=>none
 | .ptr,cs=>bif G6 cs then some () else none
 |_,_=>none
def SD.dec (d:SD)(st:AS):Option d.D:=
 bif st.ep==0&&st.iss==List.replicate d.slots.length false then
  (fi d.slots st.slots).bind λx=>(jH d.boxes st.boxes).bind λy=>(DN d.io st.io).bind λz=>some (x,y,z)
 else none
structure cv where
 sd:SD
 run:{R:Type}→sd.D→(Ex→AS→Option R)→Option R
abbrev c7:=Nat→cv
def cv.go {R:Type}(l:cv)(st:AS)(K:Ex→AS→Option R):Option R:=aa (l.sd.dec st) λx=>l.run x K
def cv.none:cv:=⟨⟨[],[],.none⟩,λ_ _=>Option.none⟩
def c7.nil:c7:=λ_=>cv.none
def c7.add (Λ:c7)(k:Nat)(l:cv):c7:=λj=>bif j==k then l else Λ j
section
variable {R:Type} (E:Env) (Γ:cG) (an:An)
def qW (o:Oper)(x:Operand)(st:AS)(K:AS→Option R):Option R:=
 match o.dst with
 |some d=>if an.mv.contains d then K ((st.take x).2.put o.dst (st.take x).1) else K (st.put o.dst (st.rd x))
 |none=>none
def mc (o:Oper)(x:Operand)(st:AS)(K:AS→Option R):Option R:=
 match st.take x with
 |(.val false [.nilsl],_)=>match E.sl o.type with
  |some e=>K (st.put o.dst (.one (bif Wa an o then .nilsl else .sl (.own none) e [])))
  |none=>none
 |(v,st')=>K (st'.put o.dst v)
def sN (o:Oper)(c a b:Operand)(st:AS)(K:AS→Option R):Option R:=
 match st.rd c with
 | .val false [.bool t]=>match st.rd a,st.rd b with
   | .val false [.bool x],.val false [.bool y]=>K (st.put o.dst (.one (.bool (cond t x y))))
   |va,vb=>cond t (K (st.put o.dst va)) (K (st.put o.dst vb))
 |_=>none
def rh (o:Oper)(T:TypeId)(st:AS)(K:AS→Option R):Option R:=
 match o.dst,eK E.ty T with
 |some d,some sh=>match nth st.boxes d with
  |some none=>K ((st.cC d (some (cellsOf sh.ct (.own none) sh.ct.zero))).put o.dst (.one (.ptr d 0)))
  |_=>none
 |_,_=>none
def BI (o:Oper)(x:Operand)(st:AS)(K:AS→Option R):Option R:=
 match o.dst,st.take x with
 |some d,(.val _ cs,st')=>
  match nth st'.boxes d with
  |some none=>if cs.all AC.u6 then K ((st'.cC d (some cs)).put o.dst (.one (.ptr d 0))) else none
  |_=>none
 |_,_=>none
def CH (ep:Nat)(r:fg)(t:Nat)(e:CT)(i:Int):Nat→List AC→List AC
 |_,[]=>[]
 |p,.sl _ e' xs::cs=> .sl (.nest ep r t e i p) e' xs::CH ep r t e i (p+1) cs
 |p,c::cs=>c::CH ep r t e i (p+1) cs
def L6 (o:Oper)(ep:Nat)(fl:jg)(e:CT)(i:Int)(off:Nat)(cs:List AC):List AC:=
 match fl,o.dst with
 | .loc _ (some (r,t)),some d=>bif an.nest.contains d then CH ep r t e i off cs else cs
 |_,_=>cs
def rM (o:Oper)(sh:Shape)(fl:jg)(e:CT)(i:Int)(off:Nat)(st:AS)(K:AS→Option R):Option R:=
 match fl with
 | .loc _ (some (r,t))=>
   match st.cM r with
   |some (.sl (.own (some t')) e' ys)=>
    if h:e'=e then
     if t'=t∧off+sh.ct.size≤e.size then
      aa (idx (h▸ys:List e.D) i) λy=>K (st.put o.dst (.val sh.agg (((cellsOf e (.loc st.ep none) y).drop off).take sh.ct.size)))
     else none
    else none
   |_=>none
 |_=>none
def oo (o:Oper)(sh:Shape)(fl:jg)(e:CT)(i:Int)(off:Nat)(st:AS)(K:AS→Option R):Option R:=
 match fl with
 | .loc _ (some (r,t))=>
   match st.cM r with
   |some (.sl (.own (some t')) e' ys)=>
    if h:e'=e then
     if t'=t∧off=0∧sh.ct=e then
      aa (idx (h▸ys:List e.D) i) λy=>K ((st.cR r (.sl (.holed (some t) i (some st.ep)) e (h▸ys))).put o.dst (.val sh.agg (cellsOf e (.own none) y)))
     else none
    else none
   |_=>none
 |_=>none
def iL (o:Oper)(T:TypeId)(p:Operand)(st:AS)(K:AS→Option R):Option R:=
 match eK E.ty T,st.rd p with
 |some sh,.val false [.ptr s off]=>
  match (nth st.boxes s).getD none with
  |some cs=>
   if off+sh.ct.size≤cs.length then
    match o.dst with
    |some d=>
     if an.mv.contains d then
      K ((st.cC s (some (bS cs off (aB st.ep ((cs.drop off).take sh.ct.size))))).put o.dst (.val sh.agg ((cs.drop off).take sh.ct.size)))
     else K (st.put o.dst (.val sh.agg (ek st.ep (.box s) off ((cs.drop off).take sh.ct.size))))
    |none=>none
   else none
  |none=>none
 |some sh,.val false [.elt fl e x i off]=>
  if sY an o then oo o sh fl e i off st K
  else if fl.live st.ep then
   if off+sh.ct.size≤e.size then K (st.put o.dst (.val sh.agg (L6 an o st.ep fl e i off (((cellsOf e fl.bare x).drop off).take sh.ct.size)))) else none
  else rM o sh fl e i off st K
 |_,_=>none
def nu (T:TypeId)(p x:Operand)(st:AS)(K:AS→Option R):Option R:=
 match eK E.ty T,st.rd p with
 |some sh,.val false [.ptr s off]=>
  match st.take x with
  |(.val _ vs,st')=>
   match (nth st'.boxes s).getD none with
   |some cs=>
    if vs.length=sh.ct.size∧vs.all AC.u6 then
     if off+sh.ct.size≤cs.length then K (st'.cC s (some (bS cs off vs))) else none
    else none
   |none=>none
  |_=>none
 |some sh,.val false [.elt (.loc _ (some (r,t))) e _ i off]=>
  match st.take x with
  |(.val _ vs,st')=>
   if vs.length=sh.ct.size∧off+sh.ct.size≤e.size then st'.iV r t e i off vs K else none
  |_=>none
 |_,_=>none
def pj (o:Oper)(S:TypeId)(p:Operand)(f:Nat)(st:AS)(K:AS→Option R):Option R:=
 match eK E.ty S,st.rd p with
 |some ⟨true,_,offs⟩,.val false [.ptr s off]=>match nth offs f with|some (fo,_)=>K (st.put o.dst (.one (.ptr s (off+fo))))|none=>none
 |some ⟨true,_,offs⟩,.val false [.elt fl e x i off]=>match nth offs f with|some (fo,_)=>K (st.put o.dst (.one (.elt fl e x i (off+fo))))|none=>none
 |_,_=>none
def gw (o:Oper)(T:TypeId)(x i:Operand)(st:AS)(K:AS→Option R):Option R:=
 match E.sl T,(st.rd x).fresh st,st.rd i with
 |some e',.val false [.sl fl e xs],.val false [.int _ n]=>
  if e'=e∧fl.live st.ep then aa (idx xs n) λy=>K (st.put o.dst (.one (.elt fl e y n 0))) else none
 |_,_,_=>none
def qE (o:Oper)(T:TypeId)(x i:Operand)(st:AS)(K:AS→Option R):Option R:=
 match st.rd x,st.rd i with
 | .val false [.str s],.val false [.int _ n]=>if E.str T then aa (idx s n) λb=>K (st.put o.dst (.one (.int .u8 b.toNat))) else none
 |_,_=>none
def qw (o:Oper)(T:TypeId)(parts:List (Nat×Operand))(st:AS)(K:AS→Option R):Option R:=
 match eK E.ty T with
 |some ⟨true,ct,offs⟩=>
  match cO st (parts.map (·.2))with
  |(vs,st')=>
   match nb offs (cellsOf ct (.own none) ct.zero) ((parts.map (·.1)).zip (vs.map AV.cells))with
   |some cs=>K (st'.put o.dst (.val true cs))
   |none=>none
 |_=>none
def fW (o:Oper)(T:TypeId)(len:Nat)(parts:List (Nat×Operand))(st:AS)(K:AS→Option R):Option R:=
 match E.sl T with
 |some e=>
  if parts.length=len∧uK 0 parts∧len≤1000 then
   match cO st (parts.map (·.2))with
   |(vs,st')=>
    match qT e (vs.map AV.cells)with
    |some xs=>K (st'.ji o.dst e xs)
    |none=>none
  else none
 |none=>none
def iy (o:Oper)(T:TypeId)(n c:Operand)(st:AS)(K:AS→Option R):Option R:=
 match E.sl T,st.rd n,st.rd c with
 |some e,.val false [.int .i64 len],.val false [.int .i64 cap]=>
  if 0≤len∧len≤cap then room cap.toNat (K (st.ji o.dst e (List.replicate len.toNat e.zero))) else none
 |_,_,_=>none
def gF (st:AS)(lo hi:Option Operand)(n:Nat)(K:Int→Int→Option R):Option R:=
 match lo.map st.rd,hi.map st.rd with
 |none,none=>K 0 n
 |some (.val false [.int _ a]),none=>K a n
 |none,some (.val false [.int _ b])=>K 0 b
 |some (.val false [.int _ a]),some (.val false [.int _ b])=>K a b
 |_,_=>none
def nj (o:Oper)(T:TypeId)(x:Operand)(lo hi:Option Operand)(st:AS)(K:AS→Option R):Option R:=
 match st.take x,lo.map st.rd,hi with
 |(.val false [.sl (.own _) e xs],st'),some (.val false [.int _ a]),none=>
  if E.sl T=some e then aa (sub xs a xs.length) λxs'=>K (st'.ji o.dst e xs') else none
 |_,_,_=>none
def yR (o:Oper)(fl:jg)(a:Int):jg:=
 match fl,o.dst with
 | .loc ep (some (r,t)),some d=>bif an.nest.contains d then .part ep r t a else .loc ep none
 |fl,_=>fl.bare
def pH (o:Oper)(T:TypeId)(x:Operand)(lo hi:Option Operand)(st:AS)(K:AS→Option R):Option R:=
 if sY an o then nj E o T x lo hi st K else
 match (st.rd x).fresh st with
 | .val false [.str s]=>if E.str T then gF st lo hi s.length λa b=>aa (sub s a b) λs'=>K (st.put o.dst (.one (.str s'))) else none
 | .val false [.sl fl e xs]=>
   if E.sl T=some e∧fl.live st.ep then gF st lo hi xs.length λa b=>aa (sub xs a b) λxs'=>K (st.put o.dst (.one (.sl (yR an o fl a) e xs'))) else none
 |_=>none
def fY (o:Oper)(src dst:TypeId)(x:Operand)(st:AS)(K:AS→Option R):Option R:=
 match eK E.ty src,eK E.ty dst,st.rd x with
 |some _,some ⟨false,.int k,_⟩,.val false [.int _ n]=>K (st.put o.dst (.one (.int k (k.wrap n))))
 |some ⟨false,.str,_⟩,some ⟨false,.str,_⟩,.val false [.str s]=>K (st.put o.dst (.one (.str s)))
 |some ⟨false,.str,_⟩,some _,.val false [.str s]=>
  if E.bytes dst then room s.length (K (st.ji o.dst (.int .u8) (c8 s))) else none
 |some _,some ⟨false,.str,_⟩,.val false [.sl fl (.int .u8) xs]=>
  if E.bytes src∧fl.live st.ep then K (st.put o.dst (.one (.str (bytesOf xs)))) else none
 |_,_,_=>none
def gb (o:Oper)(t i:Nat)(st:AS)(K:AS→Option R):Option R:=
 match st.get t with
 | .tup vs=>match nth vs i with
   |some (g,cs)=>K ((st.put (some t) (.tup (dW vs i (g,aB 0 cs)))).put o.dst (.val g cs))
   |none=>none
 |_=>none
def yB (o:Oper)(ts:List TypeId)(args:List Operand)(st:AS)(K:AS→Option R):Option R:=
 match ts,args.map st.rd with
 |[t],[.val false [.str s]]=>if E.str t then K (st.put o.dst (.one (.int .i64 s.length))) else none
 |[t],[.val false [.sl _ _ xs]]=>if(E.sl t).isSome then K (st.put o.dst (.one (.int .i64 xs.length))) else none
 |_,_=>none
def Ad (o:Oper)(args:List Operand)(st:AS)(K:AS→Option R):Option R:=
 match args.map st.rd with
 |[.val false [.int k x],.val false [.int _ y]]=>K (st.put o.dst (.one (.int k (if y<x then y else x))))
 |_=>none
def Ac (o:Oper)(args:List Operand)(st:AS)(K:AS→Option R):Option R:=
 match args.map st.rd with
 |[.val false [.int k x],.val false [.int _ y]]=>K (st.put o.dst (.one (.int k (if y>x then y else x))))
 |_=>none
def AF (o:Oper)(ts:List TypeId)(args:List Operand)(st:AS)(K:AS→Option R):Option R:=
 match ts,args.map st.rd with
 |[t,t'],[.val false [.sl (.part ep r tg lo) e xs],.val false [.str s]]=>
  match st.cM r with
  |some (.sl (.own (some tg')) e' ys)=>
   if h:e'=.int .u8 then
    if e=.int .u8∧E.sl t=some (.int .u8)∧E.str t'=true∧ep=st.ep∧tg'=tg then
     K ({st.cR r (.sl (.own (some tg)) (.int .u8) (uV (h▸ys:List (CT.int .u8).D) lo.toNat (c8 (s.take xs.length))))with ep:=st.ep+1}.put o.dst (.one (.int .i64 (min xs.length s.length:Nat))))
    else none
   else none
  |_=>none
 |_,_=>none
def s9 (o:Oper)(S:TypeId)(t f:Nat)(st:AS)(K:AS→Option R):Option R:=
 match eK E.ty S,st.get t,E4 E.fts S f with
 |some ⟨true,ct,offs⟩,.val true cs,some T=>
  match nth offs f,eK E.ty T with
  |some (fo,n),some sh=>
   if n=sh.ct.size∧cs.length=ct.size∧fo+n≤cs.length then
    K ((st.put (some t) (.val true (bS cs fo (aB st.ep ((cs.drop fo).take n))))).put o.dst (.val sh.agg ((cs.drop fo).take n)))
   else none
  |_,_=>none
 |_,_,_=>none
def nz (o:Oper)(ts:List TypeId)(args:List Operand)(st:AS)(K:AS→Option R):Option R:=
 match ts,args with
 |[t,t'],[s,x]=>
  match st.take s with
  |(.val false [.sl (.own _) e xs],st1)=>
   match st1.take x with
   |(.val false [.sl fl e' ys],st2)=>
    if h:e'=e then
     if E.sl t=some e∧E.sl t'=some e∧fl.wx st.ep e.flat then
      room (xs.length+ys.length) (K (st2.ji o.dst e (xs++(h▸ys:List e.D))))
     else none
    else none
   |(.val false [.str s],st2)=>
    if h:e=.int .u8 then
     if E.sl t=some e∧E.str t' then room (xs.length+s.length) (K (st2.ji o.dst (.int .u8) ((h▸xs:List (CT.int .u8).D)++c8 s))) else none
    else none
   |_=>none
  |_=>none
 |_,_=>none
def vF:Nat→List AC→Option (fg×Nat)
 |_,[]=>none
 |j,.sl (.loc _ (some (r,_))) _ _::_=>some (r,j)
 |j,_::cs=>vF (j+1) cs
def fg.pos:fg→Nat
 | .slot _ j=>j
 | .box _ j=>j
 | .io j=>j
def AS.kV (st:AS):fg→Option (List AC)
 | .slot s _=>match st.get s with| .val _ cs=>some cs|_=>none
 | .box s _=>(nth st.boxes s).getD none
 | .io _=>some st.io
def AS.jj (st:AS)(r:fg)(cs:List AC):AS:=
 match r with
 | .slot s _=>match st.get s with| .val g _=>st.put (some s) (.val g cs)|_=>st
 | .box s _=>st.cC s (some cs)
 | .io _=>{st with io:=cs}
def gy:List AC→List AC→Option (List AC)
 |[],[]=>some []
 | .sl (.loc _ (some (_,t))) _ _::os,.sl (.own (some t')) e xs::ss=>bif t'==t then(gy os ss).bind λr=>some (.sl (.own none) e xs::r) else none
 | .int k n::os,.int _ _::ss=>(gy os ss).bind λr=>some (.int k n::r)
 | .bool b::os,.bool _::ss=>(gy os ss).bind λr=>some (.bool b::r)
 | .str x::os,.str _::ss=>(gy os ss).bind λr=>some (.str x::r)
 |_,_=>none
def qo:List AC→List AC→List AC→Option (List AC)
 |[],[],[]=>some []
 | .sl (.loc _ (some (_,t'))) _ _::os,.sl (.own (some t)) _ _::ss,.sl (.own _) e ys::bs=>bif t==t' then(qo os ss bs).bind λr=>some (.sl (.own (some t)) e ys::r) else none
 | .int _ _::os,.int k n::ss,.int _ _::bs=>(qo os ss bs).bind λr=>some (.int k n::r)
 | .bool _::os,.bool b::ss,.bool _::bs=>(qo os ss bs).bind λr=>some (.bool b::r)
 | .str _::os,.str x::ss,.str _::bs=>(qo os ss bs).bind λr=>some (.str x::r)
 |_,_,_=>none
def AV.dF:AV→Bool
 | .val _ cs=>cs.all AC.dF
 | .tup vs=>vs.all λx=>x.2.all AC.dF
def BK (st:AS)(x:Operand):Option (AV×AS):=
 match st.rd x with
 | .val g cs=>
   match vF 0 cs with
   |some (r,j)=>
    match st.kV r with
    |some csO=>
     match gy cs ((csO.drop (r.pos-j)).take cs.length)with
     |some cs'=>some (.val g cs',st.jj r (bS csO (r.pos-j) (aB st.ep ((csO.drop (r.pos-j)).take cs.length))))
     |none=>none
    |none=>none
   |none=>none
 |_=>none
def AW (o:Oper)(x:Operand)(st:AS)(K:AS→Option R):Option R:=
 match BK st x with
 |some (v,st')=>K (st'.put o.dst v)
 |none=>none
def nv (T:TypeId)(p x:Operand)(st:AS)(K:AS→Option R):Option R:=
 match eK E.ty T,st.rd p with
 |some sh,.val false [.ptr s off]=>
  match BK st x with
  |some (.val _ vs,st')=>
   match (nth st'.boxes s).getD none with
   |some cs=>
    if vs.length=sh.ct.size∧vs.all AC.u6 then
     if off+sh.ct.size≤cs.length then K (st'.cC s (some (bS cs off vs))) else none
    else none
   |none=>none
  |_=>none
 |_,_=>none
def Be (o:Oper)(f:Nat)(g:Bool)(cs:List AC)(xs:List Operand)(st:AS)(K:AS→Option R):Option R:=
 match cs with
 |[.sl (.nest ep r t en i off) _ _]=>
  match st.kV r with
  |some csO=>
   match (csO.drop r.pos).take 1 with
   |[.sl (.own (some t')) e ys]=>
    bif (ep==st.ep)&&(t'==t)&&(en.size==e.size)&&xs.all (λx=>(st.rd x).dF) then
     aa (idx ys i) λx=>
      match ((cellsOf e (.own none) x).drop off).take 1 with
      |[.sl (.own _) e2 zs]=>
       aa ((Γ f).fn (.val g [.sl (.own none) e2 zs]::xs.map st.rd)) λy=>
        match (Γ f).back y with
        |[.sl (.own _) e3 zs']=>
         match eu e (bS (cellsOf e (.own none) x) off [.sl (.own none) e3 zs'])with
         |some (x',[])=>bif ((Γ f).av y).dF then K ({st.jj r (bS csO r.pos [.sl (.own (some t)) e (ys.set i.toNat x')])with ep:=st.ep+1}.put o.dst ((Γ f).av y)) else none
         |_=>none
        |_=>none
      |_=>none
    else none
   |_=>none
  |none=>none
 |_=>none
def SM (o:Oper)(f:Nat)(args:List Operand)(st:AS)(K:AS→Option R):Option R:=
 match args with
 |x0::xs=>
  match st.rd x0 with
  | .val g cs=>
    match vF 0 cs with
    |some (r,j)=>
     match st.kV r with
     |some csO=>
      match gy cs ((csO.drop (r.pos-j)).take cs.length)with
      |some cs'=>
       bif xs.all (λx=>(st.rd x).dF) then
        aa ((Γ f).fn (.val g cs'::xs.map st.rd)) λy=>
         match qo cs ((csO.drop (r.pos-j)).take cs.length) ((Γ f).back y)with
         |some seg=>bif ((Γ f).av y).dF then K ({st.jj r (bS csO (r.pos-j) seg)with ep:=st.ep+1}.put o.dst ((Γ f).av y)) else none
         |none=>none
       else none
      |none=>none
     |none=>none
    |none=>Be Γ o f g cs xs st K
  |_=>none
 |[]=>none
def AC.strip:AC→AC
 | .sl (.own _) e xs=> .sl (.own none) e xs
 | .sl (.loc _ _) _ _=> .bot
 | .sl (.nest ..) _ _=> .bot
 | .sl (.part ..) _ _=> .bot
 | .sl (.holed _ i _) e xs=> .sl (.holed none i none) e xs
 | .ptr _ _=> .bot
 | .elt _ _ _ _ _=> .bot
 |c=>c
def AC.Em:AC→Bool
 | .sl (.own _) _ _=>true
 |c=>c.dF
def AC.oy (k:Bool):AC→Bool
 | .sl (.own _) _ _=>true
 | .sl (.arg k') _ _=>k'==k
 |c=>c.dF
def AC.C3:AC→AC
 | .sl (.own _) e xs=> .sl (.own none) e xs
 | .sl (.arg _) e xs=> .sl (.arg true) e xs
 |c=>c.strip
def AC.Qc (k:Bool)(tag:Option Nat):AC→AC
 | .sl (.own _) e xs=> .sl (.own tag) e xs
 | .sl (.arg _) e xs=> .sl (.arg k) e xs
 |c=>c
def iY (k:Bool)(mk:Nat→Option Nat):Nat→List AC→List AC
 |_,[]=>[]
 |j,c::cs=>c.Qc k (mk j)::iY k mk (j+1) cs
def rX (cs:List AC):Bool:=cs.any λc=>match c with| .sl (.arg k) _ _=>k|_=>false
def AC.vy:AC→Bool
 | .sl (.arg k) _ _=> !k
 |c=>c.dF
def AV.vy:AV→Bool
 | .val _ cs=>cs.all AC.vy
 | .tup _=>false
def AS.Aa (st:AS):AC→AC
 | .sl (.own _) e xs=> .sl (.arg false) e xs
 | .sl (.arg _) e xs=> .sl (.arg false) e xs
 | .sl (.loc _ (some (.slot b j,t))) _ _=>match st.cM (.slot b j)with
   |some (.sl (.own (some t')) e' ys)=>if t'=t then .sl (.arg false) e' ys else .bot
   |_=> .bot
 | .int k n=> .int k n
 | .bool b=> .bool b
 | .str s=> .str s
 | .fn f=> .fn f
 |_=> .bot
def qj (st:AS):Operand→AV
 | .tmp t=>(match st.get t with| .val g cs=> .val g (cs.map st.Aa)|v=>v)
 |x=>st.rd x
def qS (st:AS):Operand→Bool
 | .tmp t=>(match st.get t with| .val _ cs=>(cs.map st.Aa).all AC.vy|_=>false)
 |x=>(st.rd x).dF
def AC.JW:AC→Bool
 | .sl (.own _) _ _=>true
 |c=>c.dF
def AV.JW:AV→Bool
 | .val _ cs=>cs.all AC.JW
 | .tup vs=>vs.all λx=>x.2.all AC.JW
def H4 (st:AS)(s:Nat)(cs:List AC):AS:={(st.cC s (some cs)).cW (some s)with ep:=st.ep+1}
def md (o:Oper)(f:Nat)(args:List Operand)(st:AS)(K:AS→Option R):Option R:=
 match args with
 |x0::xs=>
  match st.rd x0 with
  | .val false [.ptr s 0]=>
    match (nth st.boxes s).getD none with
    |some cs=>
     bif cs.all (AC.oy (rX cs))&&xs.all (qS st) then
      aa ((Γ f).fn (.val true (cs.map AC.C3)::xs.map (qj st))) λy=>
       bif ((Γ f).back y).all (AC.oy true)&&((Γ f).av y).JW then
        bif (Γ f).cur&&cs.all AC.ur then
         K (((st.cC s (some (iY (rX cs) (λ_=>none) 0 ((Γ f).back y)))).cW o.dst).put o.dst (((Γ f).av y).rY st.ep (st.ec o.dst)))
        else
        K (((H4 st s (iY (rX cs) (st.ec (some s)) 0 ((Γ f).back y))).cW o.dst).put o.dst
          (((Γ f).av y).rY (st.ep+1) ((H4 st s (iY (rX cs) (st.ec (some s)) 0 ((Γ f).back y))).ec o.dst)))
       else none
     else none
    |none=>none
  |_=>none
 |[]=>none
def JX (o:Oper)(f:Nat)(args:List Operand)(st:AS)(K:AS→Option R):Option R:=
 match o.dst with
 |some d=>
  match nth st.boxes d with
  |some none=>
   bif args.all (λx=>(st.rd x).vy) then
    aa ((Γ f).fn (args.map st.rd)) λy=>
     bif ((Γ f).back y).all AC.vy then K ((st.cC d (some ((Γ f).back y))).put (some d) (.one (.ptr d 0))) else none
   else none
  |_=>none
 |none=>none
def sa (o:Oper)(f:Operand)(args:List Operand)(st:AS)(K:AS→Option R):Option R:=
 match st.rd f with
 | .val false [.fn f]=>
   bif (Γ f).bx then md Γ o f args st K else
   bif (Γ f).pr then JX Γ o f args st K else
   bif (Γ f).io then SM Γ o f args st K
   else aa ((Γ f).fn (args.map λx=>((st.rd x).fresh st).asArg st.ep)) λr=>cond ((Γ f).sel r) (K ((st.cW o.dst).put o.dst (((Γ f).av r).rY st.ep (st.ec o.dst)))) (K ((st.cW o.dst).put o.dst (((Γ f).alt r).rY st.ep (st.ec o.dst))))
 |_=>none
def sc {R:Type}(op:BinOp)(b:Bool)(K:AC→Option R):Option R:=
 match op with
 | .eql=>K (.bool b)
 | .neq=>K (.bool (!b))
 |_=>none
def pT (o:Oper)(op:BinOp)(T:TypeId)(x y:Operand)(st:AS)(K:AS→Option R):Option R:=
 match st.rd x,st.rd y with
 | .val false [.bool a],.val false [.bool b]=>if E.bool T then tw op (.one (.bool a)) (.one (.bool b)) λc=>K (st.put o.dst (.one c)) else none
 | .val true xs,.val true ys=>match Ba E.eqs T with
   |some ls=>if fits ls xs then tw op (.val true xs) (.val true ys) λc=>K (st.put o.dst (.one c)) else none
   |none=>none
 | .val false [.sl fl _ xs],.val false [.nilsl]=>if(E.sl T).isSome∧fl.live st.ep then(if xs.length=0 then none else sc op false λc=>K (st.put o.dst (.one c))) else none
 | .val false [.nilsl],.val false [.nilsl]=>if(E.sl T).isSome then sc op true λc=>K (st.put o.dst (.one c)) else none
 |a,b=>tw op a b λc=>K (st.put o.dst (.one c))
def bT (o:Oper)(st:AS)(K:AS→Option R):Option R:=
 match o.op with
 | .move x=>qW an o x st K
 | .assign x=>if pz an o then AW o x st K else mc E an o x st K
 | .pick c a b=>sN o c a b st K
 | .alloc T=>rh E o T st K
 | .box _ x=>BI o x st K
 | .load T p=>iL E an o T p st K
 | .store T p x=>match o.dst with|none=>(if pz an o then nv E T p x st K else nu E T p x st K)|some _=>none
 | .nilCheck x=>
   match st.rd x with
   | .val false [.ptr s off]=>K (st.put o.dst (.one (.ptr s off)))
   | .val false [.elt fl e y i off]=>K (st.put o.dst (.one (.elt fl e y i off)))
   |_=>none
 | .binOp op T x y _=>pT E o op T x y st K
 | .unOp op _ x=>NH op (st.rd x) λc=>K (st.put o.dst (.one c))
 | .fieldAddr S p f=>pj E o S p f st K
 | .indexAddr T x i=>gw E o T x i st K
 | .index T x i=>qE E o T x i st K
 | .build T parts=>qw E o T parts.toList st K
 | .buildSlice T len parts=>fW E o T len parts.toList st K
 | .makeSlice T n c=>iy E o T n c st K
 | .slice T x lo hi none=>pH E an o T x lo hi st K
 | .field S (.tmp t) f=>s9 E o S t f st K
 | .call {callee:=.builtin .copy,args,argTypes}=>AF E o argTypes.toList args.toList st K
 | .convert src dst x=>fY E o src dst x st K
 | .extract (.tmp t) i=>gb o t i st K
 | .call {callee:=.builtin .len,args,argTypes}=>yB E o argTypes.toList args.toList st K
 | .call {callee:=.builtin .min,args,..}=>Ad o args.toList st K
 | .call {callee:=.builtin .max,args,..}=>Ac o args.toList st K
 | .call {callee:=.builtin .append,args,argTypes}=>nz E o argTypes.toList args.toList st K
 | .call {callee:=.value f,args,..}=>sa Γ o f args.toList st K
 |_=>none
def dH (ops:List Oper)(o:Oper)(st:AS)(K:AS→Option R):Option R:=
 match o.guard with
 |none=>bT E Γ an o st K
 |some (j,want)=>
  match (nth ops j).bind (·.dst)with
  |some d=>
   match st.get d with
   | .val false [.bool b]=>
     let go (t:Bool):Option R:=
      if t==want then bT E Γ an o (st.put (some d) (.one (.bool t))) K else K ((st.put (some d) (.one (.bool t))).put o.dst (.one .un))
     cond b (go true) (go false)
   | .val false [.un]=>K (st.put o.dst (.one .un))
   |_=>none
  |none=>none
def CI (ops:List Oper):List Oper→AS→(AS→Option R)→Option R
 |[],st,K=>K st
 |o::r,st,K=>dH E Γ an ops o st λst'=>CI ops r st' K
def dj:Code→Nat
 | .region id _ _=>id
 | .seq a _=>dj a
 | .block _ c=>dj c
 | .loop c=>dj c
 | .cond _ a b=>match dj a with|0=>dj b|n=>n
 |_=>0
def sv (c:Code):Nat:=1000000+2*dj c
def fH (l:List Nat):Code→List Code
 | .seq a b=>fH l a++(bif l.contains (dj b) then b::fH l b else fH l b)
 | .cond _ a b=>fH l a++fH l b
 | .block _ c=>fH l c
 | .loop c=>fH l c
 |_=>[]
def ga (l:List Nat)(fn:Func)(k:Nat):Code:=(nth (fH l (fn.body.getD .skip)) k).getD .skip
def eM:Code→List Code
 | .seq a b=>eM a++eM b
 | .cond _ a b=>eM a++eM b
 | .block _ c=>eM c
 | .loop c=>c::eM c
 |_=>[]
def aV (fn:Func)(k:Nat):Code:=(nth (eM (fn.body.getD .skip)) k).getD .skip
def oG (j:Nat):Nat:=3*(4096*1000003+j)
def fg.sV:fg→Option Nat
 | .slot s j=>bif Nat.ble 4096 j then none else bif Nat.ble 1000000 s then none else some (3*(4096*s+j))
 | .box s j=>bif Nat.ble 4096 j then none else some (3*(4096*s+j)+1)
 | .io j=>bif Nat.ble 4096 j then none else some (oG j)
def AC.LQ (io:List AC)(j t:Nat)(e:CT):Option (List e.D):=
 match nth io j with
 |some (.sl (.own (some t')) e' ys)=>if h:e'=e then bif t'==t then some (h▸ys) else none else none
 |_=>none
def AC.mask (keep:List Nat)(ep:Nat)(io:List AC)(rt:fg):AC→AC
 | .ptr s off=>if keep.contains s then .ptr s off else .bot
 | .sl (.loc e pv) t xs=>
   match pv with
   |some (.io j,n)=>match AC.LQ io j n t with
    |some ys=> .sl (.loc 0 ((fg.sV (.io j)).map λq=>(.io j,q))) t ys
    |none=>if e==ep then .sl (.loc 0 none) t xs else .bot
   |_=>if e==ep then .sl (.loc 0 none) t xs else .bot
 | .sl (.own _) t xs=> .sl (.own rt.sV) t xs
 | .sl (.nest ..) _ _=> .bot
 | .sl (.part ..) _ _=> .bot
 | .sl (.holed _ i _) e xs=> .sl (.holed none i none) e xs
 | .elt _ _ _ _ _=> .bot
 |c=>c
def vN (keep:List Nat)(ep:Nat)(io:List AC)(f:Nat→fg):Nat→List AC→List AC
 |_,[]=>[]
 |j,c::cs=>c.mask keep ep io (f j)::vN keep ep io f (j+1) cs
def AV.mask (keep:List Nat)(ep:Nat)(io:List AC)(s:Nat):AV→AV
 | .val g cs=> .val g (vN keep ep io (.slot s) 0 cs)
 | .tup _=> .bot
def gV (keep:List Nat)(ep:Nat)(io:List AC):Nat→List AV→List AV
 |_,[]=>[]
 |i,v::r=>(if keep.contains i then v.mask keep ep io i else .bot)::gV keep ep io (i+1) r
def gU (keep:List Nat)(ep:Nat)(io:List AC):Nat→List (Option (List AC))→List (Option (List AC))
 |_,[]=>[]
 |i,b::r=>(if keep.contains i then b.map (vN keep ep io (.box i) 0) else none)::gU keep ep io (i+1) r
def Hg (keep:List Nat):Nat→List AC→List AC
 |_,[]=>[]
 |j,c::cs=>(match c with| .sl (.own _) e xs=> .sl (.own (fg.sV (.io j))) e xs| .sl (.holed _ i _) e xs=> .sl (.holed none i none) e xs| .ptr s off=>if keep.contains s then .ptr s off else .bot|c=>bif c.dF then c else .bot)::Hg keep (j+1) cs
def AS.mask (keep:List Nat)(st:AS):AS:=
 ⟨gV keep st.ep st.io 0 st.slots,gU keep st.ep st.io 0 st.boxes,0,List.replicate st.slots.length false,Hg keep 0 st.io⟩
def getBool (st:AS)(s:Nat):Option Bool:=
 match st.get s with
 | .val false [.bool b]=>some b
 |_=>none
def dI (an:An)(ds:List Nat)(o:Oper):Bool:=
 match o.op with
 | .assign (.const _)=> !pz an o
 | .assign (.tmp t)=>ds.contains t&& !pz an o
 | .move _| .load ..=>match o.dst with|some d=> !an.mv.contains d|none=>false
 | .slice ..=> !sY an o
 | .pick ..| .binOp ..| .unOp ..| .fieldAddr ..| .indexAddr ..| .index ..| .nilCheck _=>true
 | .build _ ps=>ps.isEmpty
 | .call {callee:=.builtin .len,..}| .call {callee:=.builtin .min,..}| .call {callee:=.builtin .max,..}=>true
 | .call {callee:=.value _,..}=>true
 |_=>false
def tV (ops:List Oper):List Nat:=ops.filterMap (·.dst)
def AS.qe (st:AS):List Nat→AS
 |[]=>st
 |d::r=>((st.put (some d) .bot).cW (some d)).qe r
def tz (ops:List Oper)(A:List (List Nat)):Nat→List Oper→AS→(AS→Option R)→Option R
 |_,[],st,K=>K st
 |i,o::r,st,K=>bif bX E an (kM an A i 0 ops) o st then dH E Γ an ops o st λst'=>tz ops A (i+1) r st' K else none
def sF (ops:List Oper)(draw:Bool)(st:AS)(K:AS→Option R):Option R:=
 bif draw then(bif DQ an ops then tz E Γ.uh an ops (Df ops []) 0 ops st K else none) else CI E Γ an ops ops st K
def CQ (id:Nat)(ops:List Oper)(draw:Bool)(st:AS)(K:AS→Option R):Option R:=
 match an.merge id with
 |none=>sF E Γ an ops draw st K
 |some s=>
  if ops.all (dI an (tV ops)) then
   aa (sF E Γ.calm an ops draw st λst'=>getBool st' s) λb=>K ((st.qe (tV ops)).put (some s) (.one (.bool b)))
  else none
def sg (key:List Nat)(B:AS→(Ex→AS→Option R)→Option R):Nat→AS→(Ex→AS→Option R)→Option R
 |0,_,_=>none
 |m+1,st,K=>B st λe st'=>
  match e with
  | .normal=>sg key B m (st'.mask key) K
  |e=>K e (st'.mask key)
def den (Λ:c7):Code→AS→(Ex→AS→Option R)→Option R
 | .skip,st,K=>K .normal st
 | .region id ops draw,st,K=>CQ E Γ an id ops.toList draw st (K .normal)
 | .seq a b,st,K=>den Λ a st λe st'=>match e with
   | .normal=>bif an.cut.contains (dj b) then(Λ (sv b)).go (st'.mask (an.mask (sv b))) K else den Λ b st' K
   |e=>K e st'
 | .cond c a b,st,K=>
   match st.rd c with
   | .val false [.bool t]=>cond t (den Λ a st K) (den Λ b st K)
   |_=>none
 | .block id c,st,K=>den Λ c st λe st'=>
   match e with
   | .exit j=>if j==id then K .normal st' else K (.exit j) st'
   |e=>K e st'
 | .loop c,st,K=>
   bif an.peel.contains (dj c) then den Λ c (st.mask (an.mask (dj c))) λe st'=>
    match e with
    | .normal=>(Λ (dj c)).go (st'.mask (an.mask (dj c))) K
    |e=>K e (st'.mask (an.mask (dj c)))
   else(Λ (dj c)).go (st.mask (an.mask (dj c))) K
 | .exit id,st,K=>K (.exit id) st
 | .ret,st,K=>K .ret st
 |_,_,_=>none
end
def za (st:AS)(E:Env):ResultVar→Option ((Bool×Nat)×Bool×List AC)
 | .tmp t=>match st.get t with| .val g cs=>some ((false,t),g,cs.map AC.strip)|_=>none
 | .cell t T=>match eK E.ty T,st.get t with
   |some sh,.val false [.ptr s off]=>((nth st.boxes s).getD none).bind λcs=>
    if off+sh.ct.size≤cs.length then some ((true,s),sh.agg,((cs.drop off).take sh.ct.size).map AC.strip) else none
   |_,_=>none
def iA (st:AS)(E:Env):List (Bool×Nat)→List ResultVar→Option (List (Bool×List AC))
 |_,[]=>some []
 |had,r::rs=>(za st E r).bind λx=>if had.contains x.1 then none else(iA st E (x.1::had) rs).bind λxs=>some (x.2::xs)
def results (E:Env)(rs:List ResultVar)(st:AS):Option AV:=
 match iA st E [] rs with
 |some [(g,cs)]=>some (.val g cs)
 |some vs=>some (.tup vs)
 |none=>none
def start (fn:Func)(args:List AV):AS:=⟨args++List.replicate (fn.ntmps-args.length) .bot,List.replicate (args.length+(fn.ntmps-args.length)) none,0,List.replicate fn.ntmps false,[]⟩
abbrev fL:List (Bool×FT)→Type
 |[]=>Unit
 |[(_,t)]=>t.ct.D
 |(_,t)::r=>t.ct.D×fL r
def fb:(l:List (Bool×FT))→List (Bool×List AC)→Option (fL l)
 |[],[]=>some ()
 |[(g,t)],[(g',cs)]=>bif g==g' then(match xq t cs with|some (x,[])=>some x|_=>none) else none
 |(g,t)::p::r,(g',cs)::vs=>bif g==g' then(match xq t cs with|some (x,[])=>(fb (p::r) vs).bind λy=>some (x,y)|_=>none) else none
 |_,_=>none
def Ss:(l:List (Bool×FT))→fL l→List (Bool×List AC)
 |[],_=>[]
 |[(g,t)],x=>[(g,eR t x)]
 |(g,t)::p::r,x=>(g,eR t x.1)::Ss (p::r) x.2
def oB (l:List (Bool×FT))(x:fL l):AV:=
 match Ss l x with
 |[(g,cs)]=> .val g cs
 |vs=> .tup vs
def yl (E:Env)(Γ:cG)(an:An)(Λ:c7)(fn:Func)(rs:List (Bool×FT))(args:List AV):Option (fL rs):=
 match fn.body with
 |some c=>if args.length=fn.params.size then den E Γ an Λ c (start fn args) λe st=>
  match e with
  | .exit _=>none
  |_=>aa (iA st E [] fn.results.toList) (fb rs)
  else none
 |none=>none
def evalAlt (E:Env)(Γ:cG)(an:An)(Λ:c7)(fn:Func)(rs rs2:List (Bool×FT))(h:fL rs2=fL rs)(args:List AV):Option (Bool×fL rs):=
 match fn.body with
 |some c=>if args.length=fn.params.size then den E Γ an Λ c (start fn args) λe st=>
  match e with
  | .exit _=>none
  |_=>aa (iA st E [] fn.results.toList) λys=>
   match fb rs ys with
   |some y=>some (true,y)
   |none=>match fb rs2 ys with
    |some y=>some (false,cast h y)
    |none=>none
  else none
 |none=>none
def G3:Nat→List AC→List AC
 |_,[]=>[]
 |j,.sl _ e xs::cs=> .sl (.own (some (oG j))) e xs::G3 (j+1) cs
 |j,c::cs=>c::G3 (j+1) cs
def py:Nat→List AC→List AC
 |_,[]=>[]
 |j,.sl _ e xs::cs=> .sl (.loc 0 (some (.io j,oG j))) e xs::py (j+1) cs
 |j,c::cs=>c::py (j+1) cs
def tq (fn:Func)(g:Bool)(cs:List AC)(args:List AV):AS:={start fn (.val g (py 0 cs)::args)with io:=G3 0 cs}
def Lp (E:Env)(Γ:cG)(an:An)(Λ:c7)(fn:Func)(rs:List (Bool×FT))(t:CT)(args:List AV):Option (fL rs×t.D):=
 match fn.body,args with
 |some c,.val g cs::xs=>if xs.length+1=fn.params.size∧cs.all AC.Em=true then den E Γ an Λ c (tq fn g cs xs) λe st=>
  match e with
  | .exit _=>none
  |_=>aa (aa (iA st E [] fn.results.toList) (fb rs)) λr=>
   match eu t st.io with
   |some (x,[])=>some (r,x)
   |_=>none
  else none
 |_,_=>none
def uv:Nat→List AC→List AC
 |_,[]=>[]
 |j,.sl (.own _) e xs::cs=> .sl (.own (some (3*j+1))) e xs::uv (j+1) cs
 |j,c::cs=>c::uv (j+1) cs
def pO (fn:Func)(cs:List AC)(args:List AV):AS:=
 {start fn (.one (.ptr 0 0)::args)with boxes:=some (uv 0 cs)::List.replicate (args.length+(fn.ntmps-(args.length+1))) none,io:=[.ptr 0 0]}
def Im (E:Env)(Γ:cG)(an:An)(Λ:c7)(fn:Func)(rs:List (Bool×FT))(t:FT)(args:List AV):Option (fL rs×t.ct.D):=
 match fn.body,args with
 |some c,.val true cs::xs=>if xs.length+1=fn.params.size∧cs.all (AC.oy true)=true then den E Γ an Λ c (pO fn cs xs) λe st=>
  match e with
  | .exit _=>none
  |_=>aa (aa (iA st E [(true,0)] fn.results.toList) (fb rs)) λr=>
   match st.io,st.boxes with
   |[.ptr 0 0],some cs'::_=>match xq t (cs'.map AC.strip)with
    |some (x,[])=>some (r,x)
    |_=>none
   |_,_=>none
  else none
 |_,_=>none
def Ci (E:Env)(Γ:cG)(an:An)(Λ:c7)(fn:Func)(t:FT)(args:List AV):Option t.ct.D:=
 match fn.body with
 |some c=>if args.length=fn.params.size then den E Γ an Λ c (start fn args) λe st=>
  match e with
  | .exit _=>none
  |_=>match fn.results.toList with
   |[.tmp i]=>match st.get i with
    | .val false [.ptr s 0]=>match (nth st.boxes s).getD none with
      |some cs=>if cs.all AC.vy=true then(match xq t (cs.map AC.strip)with|some (x,[])=>some x|_=>none) else none
      |none=>none
    |_=>none
   |_=>none
  else none
 |none=>none
end Go.Dn
