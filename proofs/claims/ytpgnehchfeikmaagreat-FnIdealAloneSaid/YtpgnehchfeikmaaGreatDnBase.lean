import Derived.Test.YtpgnehchfeikmaaGreatDnData
/- An abstract, heap-free semantics of the model's code, for functions that treat their data by value: definitions. -/
namespace Go.Dn
inductive fV where
 |slot (s j:Nat)|box (s j:Nat)|io (j:Nat)
 deriving DecidableEq
inductive kf where
 |own (tag:Option Nat)
 |loc (ep:Nat) (pv:Option (fV×Nat))
 |arg (k:Bool)
 |nest (ep:Nat) (r:fV) (t:Nat) (e:CT) (i:Int) (off:Nat)
 |part (ep:Nat) (r:fV) (t:Nat) (lo:Int)
 |holed (tag:Option Nat) (i:Int) (ep:Option Nat)
inductive AC where
 |int (k:IntKind) (n:Int)|bool (b:Bool)|str (s:List UInt8)
 |sl (fl:kf) (e:CT) (xs:List e.D)
 |nilsl
 |ptr (s off:Nat)
 |elt (fl:kf) (e:CT) (x:e.D) (i:Int) (off:Nat)
 |fn (f:Nat)
 |un
 |bot
inductive AV where
 |val (agg:Bool) (cs:List AC)
 |tup (vs:List (Bool×List AC))
abbrev AV.one (c:AC):AV:=.val false [c]
abbrev AV.bot:AV:=.val false [.bot]
structure AS where
 slots:List AV
 boxes:List (Option (List AC))
 ep:Nat
 iss:List Bool
 io:List AC
structure Shape where
 agg:Bool
 ct:CT
 offs:List (Nat×Nat):=[]
structure An where
 mask:Nat→List Nat:=λ_=>[]
 merge:Nat→Option Nat:=λ_=>none
 mv:List Nat:=[]
 nest:List Nat:=[]
 mb:Nat→Option Nat:=λ_=>none
 sb:Nat→Option Nat:=λ_=>none
 late:List Nat:=[]
 peel:List Nat:=[]
 nils:List Nat:=[]
 fm:List Nat:=[]
 eb:Nat→Option Nat:=λ_=>none
 es:Nat→Option Nat:=λ_=>none
 er:Nat→Option Nat:=λ_=>none
 cut:List Nat:=[]
def cellsOf:(t:CT)→kf→t.D→List AC
 | .int k,_,n=>[.int k n]
 | .bool,_,b=>[.bool b]
 | .str,_,s=>[.str s]
 | .sl e,fl,xs=>[.sl fl e xs]
 | .pair a b,fl,x=>cellsOf a fl x.1++cellsOf b fl x.2
def eQ:(t:CT)→List AC→Option (t.D×List AC)
 | .int k,.int k' n::r=>if k'=k then some (n,r) else none
 | .bool,.bool b::r=>some (b,r)
 | .str,.str s::r=>some (s,r)
 | .sl e,.sl (.own _) e' xs::r=>if h:e'=e then some (h▸xs,r) else none
 | .sl _,.nilsl::r=>some ([],r)
 | .pair a b,cs=>(eQ a cs).bind λx=>(eQ b x.2).bind λy=>some ((x.1,y.1),y.2)
 |_,_=>none
def nth {α:Type}:List α→Nat→Option α
 |[],_=>none
 |a::_,0=>some a
 |_::l,n+1=>nth l n
def ez {α:Type}:List α→Nat→α→List α
 |[],_,_=>[]
 |_::l,0,v=>v::l
 |a::l,n+1,v=>a::ez l n v
def AS.get (st:AS)(i:Nat):AV:=(nth st.slots i).getD .bot
def AS.put (st:AS)(d:Option Nat)(v:AV):AS:=
 match d with
 |some d=>{st with slots:=ez st.slots d v}
 |none=>st
def yJ (d j:Nat):Nat:=3*(4096*d+j)+2
def AS.eD (st:AS)(d:Option Nat)(j:Nat):Option Nat:=
 match d with
 |some d=>bif (nth st.iss d).getD true then none else bif Nat.ble 4096 j then none else some (yJ d j)
 |none=>none
def AS.dp (st:AS)(d:Option Nat):AS:=
 match d with
 |some d=>{st with iss:=ez st.iss d true}
 |none=>st
def AS.kh (st:AS)(d:Option Nat)(e:CT)(xs:List e.D):AS:=
 (st.dp d).put d (.one (.sl (.own (st.eD d 0)) e xs))
def AC.borrow (ep:Nat)(rt:Option fV):AC→AC
 | .sl (.own tag) e xs=> .sl (.loc ep (match rt,tag with|some r,some t=>some (r,t)|_,_=>none)) e xs
 | .sl (.holed tag _ (some ep0)) e xs=> .sl (.loc ep0 (match rt,tag with|some r,some t=>some (r,t)|_,_=>none)) e xs
 | .sl (.holed _ _ none) _ _=> .bot
 |c=>c
def eI (ep:Nat)(f:Nat→fV):Nat→List AC→List AC
 |_,[]=>[]
 |j,c::cs=>c.borrow ep (some (f j))::eI ep f (j+1) cs
def aE (ep:Nat)(cs:List AC):List AC:=cs.map (AC.borrow ep none)
def AV.borrow (ep:Nat)(f:Nat→fV):AV→AV
 | .val g cs=> .val g (eI ep f 0 cs)
 | .tup vs=> .tup (vs.map λx=>(x.1,aE ep x.2))
def AV.aE (ep:Nat):AV→AV
 | .val g cs=> .val g (Dn.aE ep cs)
 | .tup vs=> .tup (vs.map λx=>(x.1,Dn.aE ep x.2))
def ofConst:Value→AV
 | .int k n=> .one (.int k n)
 | .bool b=> .one (.bool b)
 | .string s=> .one (.str s.data.toList)
 | .slice none 0 0=> .one .nilsl
 |_=> .bot
def AS.rd (st:AS):Operand→AV
 | .tmp t=>(st.get t).borrow st.ep (.slot t)
 | .const v=>ofConst v
 | .func f=> .one (.fn f)
 | .global _=> .bot
def AS.take (st:AS):Operand→AV×AS
 | .tmp t=>(st.get t,st.put (some t) ((st.get t).aE st.ep))
 |x=>(st.rd x,st)
def AS.cX (st:AS)(s:Nat)(b:Option (List AC)):AS:={st with boxes:=ez st.boxes s b}
def AC.asArg (ep:Nat):AC→AC
 | .int k n=> .int k n
 | .bool b=> .bool b
 | .str s=> .str s
 | .sl (.own _) e xs=> .sl (.arg false) e xs
 | .sl (.loc ep' _) e xs=>if ep'==ep then .sl (.arg false) e xs else .bot
 | .sl (.arg _) e xs=> .sl (.arg false) e xs
 | .nilsl=> .nilsl
 | .fn f=> .fn f
 |_=> .bot
def AV.asArg (ep:Nat):AV→AV
 | .val g cs=> .val g (cs.map (AC.asArg ep))
 | .tup _=> .bot
def AC.uT (ep:Nat)(tag:Option Nat):AC→AC
 | .sl (.own _) e xs=> .sl (.own tag) e xs
 | .sl (.arg _) e xs=> .sl (.loc ep none) e xs
 | .sl (.loc _ _) _ _=> .bot
 | .sl (.nest ..) _ _=> .bot
 | .sl (.part ..) _ _=> .bot
 | .sl (.holed _ i _) e xs=> .sl (.holed none i none) e xs
 | .ptr _ _=> .bot
 | .elt _ _ _ _ _=> .bot
 |c=>c
def yz (ep:Nat)(mk:Nat→Option Nat):Nat→List AC→List AC
 |_,[]=>[]
 |j,c::cs=>c.uT ep (mk j)::yz ep mk (j+1) cs
def LI (ep:Nat)(mk:Nat→Option Nat):Nat→List (Bool×List AC)→List (Bool×List AC)
 |_,[]=>[]
 |j,t::ts=>(t.1,yz ep mk j t.2)::LI ep mk (j+t.2.length) ts
def AV.uT (ep:Nat)(mk:Nat→Option Nat):AV→AV
 | .val g cs=> .val g (yz ep mk 0 cs)
 | .tup vs=> .tup (LI ep mk 0 vs)
def AC.xC:AC→Bool
 | .sl (.arg _) _ _=>true
 | .int ..=>true
 | .bool _=>true
 | .str _=>true
 | .fn _=>true
 |_=>false
structure aW where
 R:Type
 fn:List AV→Option R
 av:R→AV
 io:Bool:=false
 back:R→List AC:=λ_=>[]
 bx:Bool:=false
 pr:Bool:=false
 sel:R→Bool:=λ_=>true
 alt:R→AV:=λ_=> .val false [.bot]
 cur:Bool:=false
 hcur:cur=true→∀y,(back y).all AC.xC=true:=by intro h;cases h
def aW.res (F:aW)(y:F.R):AV:=cond (F.sel y) (F.av y) (F.alt y)
abbrev cG:=Nat→aW
def aW.dead:aW:={R:=Unit,fn:=λ_=>none,av:=λ_=> .val false [.bot]}
def cG.calm (Γ:cG):cG:=λf=>bif (Γ f).io||(Γ f).bx||(Γ f).pr then aW.dead else Γ f
def cG.xv (Γ:cG):cG:=λf=>bif (Γ f).io||(Γ f).pr||((Γ f).bx&& !(Γ f).cur) then aW.dead else Γ f
def yd {R:Type}(op:BinOp)(k:IntKind)(x y:Int)(K:AC→Option R):Option R:=
 match op with
 | .add=>K (.int k (k.wrap (x+y)))
 | .sub=>K (.int k (k.wrap (x-y)))
 | .mul=>K (.int k (k.wrap (x*y)))
 | .quo=>if y=0 then none else K (.int k (k.wrap (x.tdiv y)))
 | .rem=>if y=0 then none else K (.int k (x.tmod y))
 | .and=>K (.int k (k.wrap (BitVec.ofInt k.bits x&&&BitVec.ofInt k.bits y).toNat))
 | .or=>K (.int k (k.wrap (BitVec.ofInt k.bits x|||BitVec.ofInt k.bits y).toNat))
 | .xor=>K (.int k (k.wrap (BitVec.ofInt k.bits x^^^BitVec.ofInt k.bits y).toNat))
 | .andNot=>K (.int k (k.wrap (BitVec.ofInt k.bits x&&&~~~ BitVec.ofInt k.bits y).toNat))
 | .eql=>K (.bool (x==y))
 | .neq=>K (.bool (x !=y))
 | .lss=>K (.bool (decide (x<y)))
 | .leq=>K (.bool (decide (x≤y)))
 | .gtr=>K (.bool (decide (x>y)))
 | .geq=>K (.bool (decide (x≥y)))
 |_=>none
def As {R:Type}(op:BinOp)(x y:List UInt8)(K:AC→Option R):Option R:=
 match op with
 | .add=>room (x.length+y.length) (K (.str (x++y)))
 | .eql=>K (.bool (x==y))
 | .neq=>K (.bool (!(x==y)))
 | .lss=>K (.bool (Op.bytesLess x y))
 | .leq=>K (.bool (Op.bytesLess x y||x==y))
 | .gtr=>K (.bool (!(Op.bytesLess x y||x==y)))
 | .geq=>K (.bool (!(Op.bytesLess x y)))
 |_=>none
def nM:List AC→List AC→Option Bool
 |[],[]=>some true
 | .int k x::r,.int k' y::r'=>if k=k' then(nM r r').bind λb=>some ((x==y)&&b) else none
 | .bool x::r,.bool y::r'=>(nM r r').bind λb=>some ((x==y)&&b)
 | .str x::r,.str y::r'=>(nM r r').bind λb=>some ((x==y)&&b)
 |_,_=>none
def wG {R:Type}(op:BinOp)(x y:AV)(K:AC→Option R):Option R:=
 match x,y with
 | .val false [.int k a],.val false [.int k' b]=>
   match op with
   | .shl=>if b<0 then none else K (.int k (k.wrap (a*2^(min b.toNat k.bits))))
   | .shr=>if b<0 then none else K (.int k (a.fdiv (2^(min b.toNat k.bits))))
   |_=>if k=k' then yd op k a b K else none
 | .val false [.str a],.val false [.str b]=>As op a b K
 | .val false [.bool a],.val false [.bool b]=>
   match op with
   | .eql=>K (.bool (a==b))
   | .neq=>K (.bool (!(a==b)))
   |_=>none
 | .val true xs,.val true ys=>
   match op with
   | .eql=>aa (nM xs ys) λb=>K (.bool b)
   | .neq=>aa (nM xs ys) λb=>K (.bool (!b))
   |_=>none
 |_,_=>none
def SB {R:Type}(op:UnOp)(x:AV)(K:AC→Option R):Option R:=
 match op,x with
 | .not,.val false [.bool b]=>K (.bool (!b))
 | .neg,.val false [.int k n]=>K (.int k (k.wrap (0-n)))
 | .xor,.val false [.int k n]=>yd .xor k (if k.signed then-1 else k.max) n K
 |_,_=>none
def cd (cs:List AC)(off:Nat)(vs:List AC):List AC:=cs.take off++vs++cs.drop (off+vs.length)
def AS.df (st:AS):fV→Option AC
 | .slot s j=>match st.get s with| .val _ cs=>nth cs j|_=>none
 | .box s j=>((nth st.boxes s).getD none).bind λcs=>nth cs j
 | .io j=>nth st.io j
def AS.dh (st:AS)(r:fV)(c:AC):AS:=
 match r with
 | .slot s j=>match st.get s with| .val g cs=>st.put (some s) (.val g (ez cs j c))|_=>st
 | .box s j=>match (nth st.boxes s).getD none with|some cs=>st.cX s (some (ez cs j c))|none=>st
 | .io j=>{st with io:=ez st.io j c}
def AS.fresh (st:AS):AC→AC
 | .sl (.loc ep (some (r,t))) e xs=>
   bif ep==st.ep then .sl (.loc ep (some (r,t))) e xs else
    match st.df r with
    |some (.sl (.own (some t')) e' ys)=>if h:e'=e then bif t'==t then .sl (.loc st.ep (some (r,t))) e (h▸ys) else .sl (.loc ep (some (r,t))) e xs else .sl (.loc ep (some (r,t))) e xs
    |_=> .sl (.loc ep (some (r,t))) e xs
 |c=>c
def AV.fresh (st:AS):AV→AV
 | .val g cs=> .val g (cs.map st.fresh)
 | .tup vs=> .tup vs
def AC.now (ep:Nat):AC→Bool
 | .sl (.loc ep' (some _)) _ _=>ep'==ep
 |_=>true
def AS.jQ {R:Type}(st:AS)(r:fV)(t:Nat)(e:CT)(i:Int)(off:Nat)(vs:List AC)(K:AS→Option R):Option R:=
 match st.df r with
 |some (.sl (.own (some t')) e' xs)=>
  if h:e'=e then
   if t'=t then
    aa (idx (h▸xs:List e.D) i) λx=>
     match eQ e (cd (cellsOf e (.own none) x) off vs)with
     |some (x',[])=>K {st.dh r (.sl (.own (some t')) e ((h▸xs:List e.D).set i.toNat x'))with ep:=st.ep+1}
     |_=>none
   else none
  else none
 |some (.sl (.holed (some t') i' _) e' xs)=>
  if h:e'=e then
   if t'=t∧off=0 then
    aa (KO (h▸xs:List e.D) i' i) λ_=>
     match eQ e vs with
     |some (x',[])=>K {st.dh r (.sl (.own (some t')) e ((h▸xs:List e.D).set i.toNat x'))with ep:=st.ep+1}
     |_=>none
   else none
  else none
 |_=>none
def AV.cells:AV→List AC
 | .val _ cs=>cs
 | .tup _=>[.bot]
def dg (st:AS):List Operand→List AV×AS
 |[]=>([],st)
 |x::xs=>let (v,st1):=st.take x;let (vs,st2):=dg st1 xs;(v::vs,st2)
def tM (e:CT):List (List AC)→Option (List e.D)
 |[]=>some []
 |cs::r=>match eQ e cs with
  |some (x,[])=>(tM e r).bind λxs=>some (x::xs)
  |_=>none
def yb:Nat→List (Nat×Operand)→Bool
 |_,[]=>true
 |n,(i,_)::r=>i==n&&yb (n+1) r
def AC.yC:AC→Bool
 | .bot=>false
 | .un=>false
 |_=>true
def o4 (offs:List (Nat×Nat))(zero:List AC):List (Nat×List AC)→Option (List AC)
 |[]=>some zero
 |(i,cs)::r=>match nth offs i with
  |some (off,n)=>if cs.length=n∧off+n≤zero.length∧cs.all AC.yC then o4 offs (cd zero off cs) r else none
  |none=>none
inductive LK where
 |int|bool|str
 deriving DecidableEq
structure Env where
 ty:List (Nat×Shape)
 eqs:List (Nat×List LK):=[]
 fts:List ((Nat×Nat)×Nat):=[]
def EI (l:List (Nat×List LK))(t:Nat):Option (List LK):=
 match l with
 |[]=>none
 |(u,sh)::r=>bif u==t then some sh else EI r t
def fits:List LK→List AC→Bool
 |[],[]=>true
 | .int::ls,.int _ _::r=>fits ls r
 | .bool::ls,.bool _::r=>fits ls r
 | .str::ls,.str _::r=>fits ls r
 |_,_=>false
def I3 (l:List ((Nat×Nat)×Nat))(S f:Nat):Option Nat:=
 match l with
 |[]=>none
 |((u,k),T)::r=>bif u==S&&k==f then some T else I3 r S f
def ft (l:List (Nat×Shape))(t:Nat):Option Shape:=
 match l with
 |[]=>none
 |(u,sh)::r=>bif u==t then some sh else ft r t
def Env.sl (E:Env)(t:Nat):Option CT:=
 match ft E.ty t with
 |some ⟨false,.sl e,_⟩=>some e
 |_=>none
def Env.str (E:Env)(t:Nat):Bool:=
 match ft E.ty t with
 |some ⟨false,.str,_⟩=>true
 |_=>false
def Env.bool (E:Env)(t:Nat):Bool:=
 match ft E.ty t with
 |some ⟨false,.bool,_⟩=>true
 |_=>false
def Env.bytes (E:Env)(t:Nat):Bool:=
 match ft E.ty t with
 |some ⟨false,.sl (.int .u8),[(te,_)]⟩=>match ft E.ty te with|some ⟨false,.int .u8,_⟩=>true|_=>false
 |_=>false
def kf.live (ep:Nat):kf→Bool
 | .loc ep' _=>ep'==ep
 | .arg _=>true
 | .own _=>false
 | .nest ..=>false
 | .part ..=>false
 | .holed ..=>false
def kf.zZ (ep:Nat)(flat:Bool):kf→Bool
 | .loc ep' _=>ep'==ep&&flat
 | .arg _=>flat
 | .own _=>true
 | .nest ..=>false
 | .part ..=>false
 | .holed ..=>false
def kf.bare:kf→kf
 | .loc ep _=> .loc ep none
 |f=>f
def AC.dW:AC→Bool
 | .int _ _=>true
 | .bool _=>true
 | .str _=>true
 | .fn _=>true
 |_=>false
def tm:Operand→List Nat
 | .tmp t=>[t]
 |_=>[]
def Ee (l:List Operand):List Nat:=l.flatMap tm
def vX (an:An)(o:Oper):Bool:=
 match o.dst with
 |some d=>an.mv.contains d&&(an.mb d).isNone
 |none=>false
def abE (an:An)(o:Oper):Bool:=
 match o.dst with
 |some d=>an.nils.contains d
 |none=>false
def rV (an:An)(o:Oper):Bool:=
 match o.op with
 | .assign (.tmp s)=>an.late.contains s
 | .store _ _ (.tmp s)=>an.late.contains s
 |_=>false
def tmO:Option Operand→List Nat
 |some x=>tm x
 |none=>[]
def cr (o:Oper):List Nat:=
 match o.op with
 | .move x=>tm x
 | .assign x=>tm x
 | .pick c a b=>tm c++tm a++tm b
 | .box _ x=>tm x
 | .load _ p=>tm p
 | .store _ p x=>tm p++tm x
 | .nilCheck x=>tm x
 | .binOp _ _ x y _=>tm x++tm y
 | .unOp _ _ x=>tm x
 | .fieldAddr _ p _=>tm p
 | .indexAddr _ x i=>tm x++tm i
 | .index _ x i=>tm x++tm i
 | .build _ parts=>Ee (parts.toList.map (·.2))
 | .buildSlice _ _ parts=>Ee (parts.toList.map (·.2))
 | .makeSlice _ n c=>tm n++tm c
 | .slice _ x lo hi none=>tm x++tmO lo++tmO hi
 | .convert _ _ x=>tm x
 | .extract (.tmp t) _=>[t]
 | .call {callee:=.builtin _,args,..}=>Ee args.toList
 | .call {callee:=.value f,args,..}=>tm f++Ee args.toList
 |_=>[]
def vW (an:An)(o:Oper):Bool:=
 match o.op with
 | .move _=>match o.dst with|some d=>an.mv.contains d|none=>false
 | .assign _=>true
 | .box ..=>true
 | .build ..=>true
 | .buildSlice ..=>true
 | .store ..=>true
 | .extract ..=>match o.dst with|some d=>an.mv.contains d|none=>false
 | .call {callee:=.builtin .append,..}=>true
 |_=>false
def vV (an:An)(o:Oper):Bool:=
 match o.op,o.dst,o.guard with
 | .load _ (.tmp q),some d,none=>an.mv.contains d&&(an.mb d).isNone&&(an.eb q).isSome
 |_,_,_=>false
def sV (an:An)(o:Oper):Bool:=
 match o.op,o.dst,o.guard with
 | .load _ (.tmp q),some d,none=> !an.mv.contains d&& !an.fm.contains d&&(an.sb q).isSome
 |_,_,_=>false
def vZ (an:An)(o:Oper):List Nat:=
 match o.op with
 | .alloc _=>o.dst.toList
 | .box ..=>o.dst.toList
 | .load _ p=>match o.dst with|some d=>bif an.mv.contains d then(an.mb d).toList++(bif vV an o then(match p with| .tmp q=>(an.eb q).toList|_=>[]) else []) else []|none=>[]
 | .store _ (.tmp p) _=>(an.sb p).toList
 | .call {callee:=.value _,args,..}=>(match args.toList with| .tmp q::_=>(an.sb q).toList|_=>[])
 |_=>[]
def iP (an:An)(o:Oper):Bool:=
 match o.op with
 | .move _=>true
 | .load ..=>(match o.dst with|some d=> !an.mv.contains d||(an.mb d).isSome|none=>false)||vV an o
 | .extract (.tmp _) _=>true
 | .store _ (.tmp p) _=>(an.sb p).isSome&& !rV an o
 | .assign _=> !rV an o
 | .pick ..| .alloc _| .box ..| .nilCheck _| .binOp ..| .unOp ..| .fieldAddr ..| .indexAddr ..| .index ..| .build ..| .buildSlice ..| .makeSlice ..| .convert ..=>true
 | .slice _ _ _ _ none=> !vX an o
 | .call {callee:=.builtin .len,..}| .call {callee:=.builtin .min,..}| .call {callee:=.builtin .max,..}| .call {callee:=.builtin .append,..}=>true
 | .call {callee:=.value _,..}=>true
 |_=>false
def writes (an:An)(o:Oper):List Nat:=o.dst.toList++(bif vW an o then cr o else [])
def AV.now (ep:Nat):AV→Bool
 | .val _ cs=>cs.all (AC.now ep)
 | .tup _=>true
def AC.gC:AC→Bool
 | .int ..=>true
 | .bool _=>true
 | .str _=>true
 | .fn _=>true
 | .ptr ..=>true
 |_=>false
def AV.gC:AV→Bool
 | .val _ cs=>cs.all AC.gC
 | .tup _=>false
def vy (E:Env)(T:TypeId)(st:AS)(s off:Nat):Bool:=
 match ft E.ty T,(nth st.boxes s).getD none with
 |some sh,some cs=>((cs.drop off).take sh.ct.size).all AC.gC
 |_,_=>false
def J7 (an:An)(o:Oper):Bool:=match o.dst with|some d=>an.fm.contains d|none=>false
def tB (an:An)(o:Oper):Bool:=
 match o.op,o.dst,o.guard with
 | .load _ (.tmp _),some d,none=>an.mv.contains d&&(an.mb d).isSome
 |_,_,_=>false
def Cg (an:An)(o:Oper):Bool:=
 match o.op,o.dst,o.guard with
 | .load _ (.tmp _),some d,none=> !an.mv.contains d&&an.fm.contains d
 |_,_,_=>false
def PB (an:An)(o:Oper):List Nat:=
 match o.op,o.dst with
 | .load ..,some d=>(an.er d).toList
 | .call {callee:=.value _,..},some d=>(an.er d).toList
 |_,_=>[]
def AC.Rp (l:List Nat):AC→Bool
 | .sl (.loc _ (some (.slot b _,_))) _ _=>l.contains b
 | .sl (.loc _ _) _ _=>false
 |_=>true
def yB (l:List Nat)(st:AS):Operand→Bool
 | .tmp t=>(match st.get t with| .val _ cs=>cs.all (AC.Rp l)| .tup _=>true)
 |_=>true
def P3 (an:An)(X l:List Nat)(st:AS)(xs:List Operand)(q:Nat):AV→Bool
 | .val false [.ptr s _]=> !X.contains s&&an.sb q==some s&&(match (nth st.boxes s).getD none with|some cs=>cs.all AC.xC|none=>true)&&xs.all (yB l st)
 |_=>true
def AV.MZ:AV→Bool
 | .val false [.ptr _ _]=>false
 |_=>true
def mJ (an:An)(X l:List Nat)(st:AS):List Operand→Bool
 | .tmp q::xs=>P3 an X l st xs q (st.rd (.tmp q))
 |x::_=>(st.rd x).MZ
 |[]=>true
def cn (E:Env)(an:An)(X:List Nat)(o:Oper)(st:AS):Bool:=
 match o.op with
 | .move x=> !J7 an o||(st.rd x).gC
 | .indexAddr _ x _=>(st.rd x).now st.ep||(match st.rd x with| .val _ [.sl (.loc _ (some (.box b _,_))) _ _]=> !X.contains b|_=>false)
 | .slice _ x _ _ none=>(st.rd x).now st.ep
 | .call {callee:=.value _,args,..}=>mJ an X (PB an o) st args.toList&&args.toList.all λx=>(st.rd x).now st.ep
 | .load T p=>match st.rd p with
   | .val false [.ptr s off]=> !X.contains s&&(match o.dst with|some d=> !an.mv.contains d||an.mb d==some s|none=>true)&&(!J7 an o||vy E T st s off)
   | .val false [.elt fl _ _ _ _]=>(fl.live st.ep||(match fl with
     | .loc _ (some (.slot b _,_))=>(PB an o).contains b
     | .loc _ (some (.box b _,_))=> !X.contains b
     |_=>false))&& !(J7 an o||tB an o)&& !sV an o&&(!vV an o||(match p,fl with
     | .tmp q,.loc _ (some (.box b _,_))=>an.eb q==some b&& !X.contains b
     |_,_=>false))
   |_=> !(J7 an o||tB an o)
 | .store _ (.tmp p) _=>((an.sb p).isNone&&(an.eb p).isNone&&(an.es p).isNone)||(match st.rd (.tmp p)with
   | .val false [.ptr s _]=> !X.contains s&&an.sb p==some s
   | .val false [.elt (.loc _ (some (.box b _,_))) _ _ _ _]=>an.eb p==some b&&(an.sb p).isNone&&(an.es p).isNone
   | .val false [.elt (.loc _ (some (.slot b _,_))) _ _ _ _]=>an.es p==some b&&(an.sb p).isNone&&(an.eb p).isNone
   |_=>false)
 | .extract (.tmp t) i=>match st.get t with
   | .tup vs=>match nth vs i with|some x=>x.2.all AC.dW||(match o.dst with|some d=>an.mv.contains d|none=>false)|none=>true
   |_=>true
 |_=>true
def vz (an:An)(ops:List Oper)(o:Oper):List Nat:=
 (match o.guard with
 |some (j,_)=>((nth ops j).bind (·.dst)).toList
 |none=>[])++PB an o
def meets (a b:List Nat):Bool:=a.any λx=>b.contains x
def Kg (an:An)(ops:List Oper)(X Y:List Nat)(o p:Oper):Bool:=
 iP an o&&iP an p&& !meets (writes an o) (cr p++vz an ops p++writes an p)&& !meets (writes an p) (cr o++vz an ops o)&&
 (vZ an o).all (λd=>Y.contains d)&&(vZ an p).all (λd=>X.contains d)&& !meets (vZ an o) (p.dst.toList++vZ an p)&& !meets (vZ an p) o.dst.toList
def KF (o p:Oper):Bool:=
 match o.op,p.op,o.dst,p.dst,o.guard,p.guard with
 | .extract (.tmp t) i,.extract (.tmp t') j,some d,some d',none,none=>t==t'&& !(i==j)&& !(d==d')&& !(d==t)&& !(d'==t)
 |_,_,_,_,_,_=>false
def KC (an:An)(o p:Oper):Bool:=
 match p.op,p.dst,p.guard with
 | .store _ (.tmp q) (.tmp x),none,none=>((an.eb q).isSome&&(an.es q).isNone||(match an.es q with|some b=>(an.eb q).isNone&& !(b==x)&& !(b==q)&& !meets [b] (o.dst.toList++cr o)|none=>false))&&(an.sb q).isNone&& !rV an p&&(match o.op,o.dst,o.guard with
   | .move (.tmp t),some d,none=> !an.mv.contains d&&an.fm.contains d&& !(d==q)&& !(d==x)&& !(t==x)&& !(t==q)&& !(d==t)
   | .extract (.tmp t) _,some d,none=> !(d==q)&& !(d==x)&& !(t==x)&& !(t==q)&& !(d==t)
   |_,_,_=>false)
 |_,_,_=>false
def Li (an:An)(o p:Oper):Bool:=
 (tB an o&&Cg an p||Cg an o&&tB an p)&& !meets o.dst.toList (p.dst.toList++cr p)&& !meets p.dst.toList (cr o)
def Ks (an:An)(o p:Oper):Bool:=sV an o&&vV an p&& !meets o.dst.toList (p.dst.toList++cr p)&& !meets p.dst.toList (cr o)
def Q7 (an:An)(o p:Oper):Bool:=KF o p||KC an o p||Li an o p||Ks an o p
def Bt (an:An)(ops:List Oper)(X Y:List Nat)(o p:Oper):Bool:=Q7 an o p||Kg an ops X Y o p
def sW (o:Oper):List Nat:=(o.after.toList.filter (λe=>Region.binds .any e)).map (·.on)
def G4 (a b:List Nat):List Nat:=a.foldl (λs x=>bif s.contains x then s else x::s) b
def Hb:List Oper→List (List Nat)→List (List Nat)
 |[],acc=>acc
 |o::r,acc=>Hb r (acc++[(sW o).foldl (λs j=>G4 (j::(nth acc j).getD []) s) []])
def OO (A:List (List Nat))(i k:Nat):Bool:=((nth A i).getD []).contains k
def Ml (an:An)(A:List (List Nat))(i:Nat)(fl pl:Bool):Nat→List Oper→List Nat
 |_,[]=>[]
 |k,o::r=>(bif !OO A i k&& !OO A k i&& !(k==i)&& !(fl&&tB an o)&& !(pl&&vV an o) then vZ an o else [])++Ml an A i fl pl (k+1) r
def mc (an:An)(A:List (List Nat))(i k:Nat)(ops:List Oper):List Nat:=Ml an A i (match nth ops i with|some o=>Cg an o|none=>false) (match nth ops i with|some o=>sV an o|none=>false) k ops
def CO (an:An)(ops:List Oper)(A:List (List Nat))(i:Nat)(oi:Oper):Nat→List Oper→Bool
 |_,[]=>true
 |j,oj::r=>bif Nat.ble i j then true else(OO A i j||Bt an ops (mc an A j 0 ops) (mc an A i 0 ops) oj oi)&&CO an ops A i oi (j+1) r
def Gy (an:An)(ops:List Oper)(A:List (List Nat)):Nat→List Oper→Bool
 |_,[]=>true
 |i,oi::r=>(sW oi).all (λk=>Nat.blt k i)&&CO an ops A i oi 0 ops&&Gy an ops A (i+1) r
def HJ (an:An)(ops:List Oper):Bool:=Gy an ops (Hb ops []) 0 ops
inductive Ex where
 |normal|ret|exit (id:Nat)
inductive FK where
 |own (tag:Option Nat)|arg|arg0|loc|lio (j t:Nat)|nil
def FK.flag:FK→kf
 | .own t=> .own t
 | .arg=> .arg false
 | .arg0=> .arg true
 | .loc=> .loc 0 none
 | .lio j t=> .loc 0 (some (.io j,t))
 | .nil=> .arg false
def FK.isNil:FK→Bool
 | .nil=>true
 |_=>false
inductive FT where
 |int (k:IntKind)|bool|str|sl (fl:FK) (e:CT)|pair (a b:FT)
abbrev FT.ct:FT→CT
 | .int k=> .int k
 | .bool=> .bool
 | .str=> .str
 | .sl _ e=> .sl e
 | .pair a b=> .pair a.ct b.ct
def fD:(t:FT)→t.ct.D→List AC
 | .int k,n=>[.int k n]
 | .bool,b=>[.bool b]
 | .str,s=>[.str s]
 | .sl fl e,xs=>[bif fl.isNil then .nilsl else .sl fl.flag e xs]
 | .pair a b,x=>fD a x.1++fD b x.2
def FK.fits:FK→kf→Bool
 | .own t,.own t'=>t==t'
 | .arg,.arg k=> !k
 | .arg0,.arg k=>k
 | .loc,.loc 0 none=>true
 | .lio j t,.loc 0 (some (.io j',t'))=>j==j'&&t==t'
 |_,_=>false
def Bh:(t:FT)→List AC→Option (t.ct.D×List AC)
 | .int k,.int k' n::r=>if k'=k then some (n,r) else none
 | .bool,.bool b::r=>some (b,r)
 | .str,.str s::r=>some (s,r)
 | .sl fl e,.sl fl' e' xs::r=>if h:e'=e then bif fl.fits fl' then some (h▸xs,r) else none else none
 | .sl fl _,.nilsl::r=>bif fl.isNil then some ([],r) else none
 | .pair a b,cs=>(Bh a cs).bind λx=>(Bh b x.2).bind λy=>some ((x.1,y.1),y.2)
 |_,_=>none
inductive PD where
 |bot|ptr (s off:Nat)|fn (f:Nat)|data (g:Bool) (t:FT)
inductive X7 where
 |none|some (t:FT)|ptr
structure SD where
 slots:List PD
 boxes:List (Option FT)
 io:X7:=.none
abbrev zJ:List PD→Type
 |[]=>Unit
 | .data _ t::r=>t.ct.D×zJ r
 |_::r=>zJ r
abbrev yZ:List (Option FT)→Type
 |[]=>Unit
 |some t::r=>t.ct.D×yZ r
 |none::r=>yZ r
abbrev ioD:X7→Type
 | .none=>Unit
 | .some t=>t.ct.D
 | .ptr=>Unit
abbrev SD.D (d:SD):Type:=zJ d.slots×yZ d.boxes×ioD d.io
def me:(l:List PD)→zJ l→List AV
 |[],_=>[]
 | .data g t::r,x=> .val g (fD t x.1)::me r x.2
 | .bot::r,x=> .bot::me r x
 | .ptr s off::r,x=> .one (.ptr s off)::me r x
 | .fn f::r,x=> .one (.fn f)::me r x
def tG:(l:List (Option FT))→yZ l→List (Option (List AC))
 |[],_=>[]
 |some t::r,x=>some (fD t x.1)::tG r x.2
 |none::r,x=>none::tG r x
def P8:(o:X7)→ioD o→List AC
 | .none,_=>[]
 | .some t,x=>fD t x
 | .ptr,_=>[.ptr 0 0]
def SD.enc (d:SD)(x:d.D):AS:=⟨me d.slots x.1,tG d.boxes x.2.1,0,List.replicate d.slots.length false,P8 d.io x.2.2⟩
def AV.MP:AV→Bool
 | .val false [.bot]=>true
 |_=>false
def AV.MQ (s off:Nat):AV→Bool
 | .val false [.ptr s' off']=>s==s'&&off==off'
 |_=>false
def AV.Oe (f:Nat):AV→Bool
 | .val false [.fn f']=>f==f'
 |_=>false
def fW:(l:List PD)→List AV→Option (zJ l)
 |[],[]=>some ()
 | .data g t::r,.val g' cs::vs=>bif g==g' then(match Bh t cs with|some (x,[])=>(fW r vs).bind λy=>some (x,y)|_=>none) else none
 | .bot::r,v::vs=>bif v.MP then fW r vs else none
 | .ptr s off::r,v::vs=>bif v.MQ s off then fW r vs else none
 | .fn f::r,v::vs=>bif v.Oe f then fW r vs else none
 |_,_=>none
def kO:(l:List (Option FT))→List (Option (List AC))→Option (yZ l)
 |[],[]=>some ()
 |some t::r,some cs::bs=>match Bh t cs with|some (x,[])=>(kO r bs).bind λy=>some (x,y)|_=>none
 |none::r,none::bs=>kO r bs
 |_,_=>none
def K2:List AC→Bool
 |[.ptr 0 0]=>true
 |_=>false
def HH:(o:X7)→List AC→Option (ioD o)
 | .none,[]=>some ()
 | .some t,cs=>match Bh t cs with|some (x,[])=>some x|_=>none
 | .ptr,cs=>bif K2 cs then some () else none
 |_,_=>none
def SD.dec (d:SD)(st:AS):Option d.D:=
 bif st.ep==0&&st.iss==List.replicate d.slots.length false then
  (fW d.slots st.slots).bind λx=>(kO d.boxes st.boxes).bind λy=>(HH d.io st.io).bind λz=>some (x,y,z)
 else none
structure cm where
 sd:SD
 run:{R:Type}→sd.D→(Ex→AS→Option R)→Option R
abbrev cY:=Nat→cm
def cm.go {R:Type}(l:cm)(st:AS)(K:Ex→AS→Option R):Option R:=aa (l.sd.dec st) λx=>l.run x K
def cm.none:cm:=⟨⟨[],[],.none⟩,λ_ _=>Option.none⟩
def cY.nil:cY:=λ_=>cm.none
def cY.add (Λ:cY)(k:Nat)(l:cm):cY:=λj=>bif j==k then l else Λ j
section
variable {R:Type} (E:Env) (Γ:cG) (an:An)
def tQ (o:Oper)(x:Operand)(st:AS)(K:AS→Option R):Option R:=
 match o.dst with
 |some d=>if an.mv.contains d then K ((st.take x).2.put o.dst (st.take x).1) else K (st.put o.dst (st.rd x))
 |none=>none
def nJ (o:Oper)(x:Operand)(st:AS)(K:AS→Option R):Option R:=
 match st.take x with
 |(.val false [.nilsl],_)=>match E.sl o.type with
  |some e=>K (st.put o.dst (.one (bif abE an o then .nilsl else .sl (.own none) e [])))
  |none=>none
 |(v,st')=>K (st'.put o.dst v)
def vH (o:Oper)(c a b:Operand)(st:AS)(K:AS→Option R):Option R:=
 match st.rd c with
 | .val false [.bool t]=>match st.rd a,st.rd b with
   | .val false [.bool x],.val false [.bool y]=>K (st.put o.dst (.one (.bool (cond t x y))))
   |va,vb=>cond t (K (st.put o.dst va)) (K (st.put o.dst vb))
 |_=>none
def tZ (o:Oper)(T:TypeId)(st:AS)(K:AS→Option R):Option R:=
 match o.dst,ft E.ty T with
 |some d,some sh=>match nth st.boxes d with
  |some none=>K ((st.cX d (some (cellsOf sh.ct (.own none) sh.ct.zero))).put o.dst (.one (.ptr d 0)))
  |_=>none
 |_,_=>none
def Fm (o:Oper)(x:Operand)(st:AS)(K:AS→Option R):Option R:=
 match o.dst,st.take x with
 |some d,(.val _ cs,st')=>
  match nth st'.boxes d with
  |some none=>if cs.all AC.yC then K ((st'.cX d (some cs)).put o.dst (.one (.ptr d 0))) else none
  |_=>none
 |_,_=>none
def Gv (ep:Nat)(r:fV)(t:Nat)(e:CT)(i:Int):Nat→List AC→List AC
 |_,[]=>[]
 |p,.sl _ e' xs::cs=> .sl (.nest ep r t e i p) e' xs::Gv ep r t e i (p+1) cs
 |p,c::cs=>c::Gv ep r t e i (p+1) cs
def QS (o:Oper)(ep:Nat)(fl:kf)(e:CT)(i:Int)(off:Nat)(cs:List AC):List AC:=
 match fl,o.dst with
 | .loc _ (some (r,t)),some d=>bif an.nest.contains d then Gv ep r t e i off cs else cs
 |_,_=>cs
def uJ (o:Oper)(sh:Shape)(fl:kf)(e:CT)(i:Int)(off:Nat)(st:AS)(K:AS→Option R):Option R:=
 match fl with
 | .loc _ (some (r,t))=>
   match st.df r with
   |some (.sl (.own (some t')) e' ys)=>
    if h:e'=e then
     if t'=t∧off+sh.ct.size≤e.size then
      aa (idx (h▸ys:List e.D) i) λy=>K (st.put o.dst (.val sh.agg (((cellsOf e (.loc st.ep none) y).drop off).take sh.ct.size)))
     else none
    else none
   |_=>none
 |_=>none
def qw (o:Oper)(sh:Shape)(fl:kf)(e:CT)(i:Int)(off:Nat)(st:AS)(K:AS→Option R):Option R:=
 match fl with
 | .loc _ (some (r,t))=>
   match st.df r with
   |some (.sl (.own (some t')) e' ys)=>
    if h:e'=e then
     if t'=t∧off=0∧sh.ct=e then
      aa (idx (h▸ys:List e.D) i) λy=>K ((st.dh r (.sl (.holed (some t) i (some st.ep)) e (h▸ys))).put o.dst (.val sh.agg (cellsOf e (.own none) y)))
     else none
    else none
   |_=>none
 |_=>none
def jF (o:Oper)(T:TypeId)(p:Operand)(st:AS)(K:AS→Option R):Option R:=
 match ft E.ty T,st.rd p with
 |some sh,.val false [.ptr s off]=>
  match (nth st.boxes s).getD none with
  |some cs=>
   if off+sh.ct.size≤cs.length then
    match o.dst with
    |some d=>
     if an.mv.contains d then
      K ((st.cX s (some (cd cs off (aE st.ep ((cs.drop off).take sh.ct.size))))).put o.dst (.val sh.agg ((cs.drop off).take sh.ct.size)))
     else K (st.put o.dst (.val sh.agg (eI st.ep (.box s) off ((cs.drop off).take sh.ct.size))))
    |none=>none
   else none
  |none=>none
 |some sh,.val false [.elt fl e x i off]=>
  if vX an o then qw o sh fl e i off st K
  else if fl.live st.ep then
   if off+sh.ct.size≤e.size then K (st.put o.dst (.val sh.agg (QS an o st.ep fl e i off (((cellsOf e fl.bare x).drop off).take sh.ct.size)))) else none
  else uJ o sh fl e i off st K
 |_,_=>none
def py (T:TypeId)(p x:Operand)(st:AS)(K:AS→Option R):Option R:=
 match ft E.ty T,st.rd p with
 |some sh,.val false [.ptr s off]=>
  match st.take x with
  |(.val _ vs,st')=>
   match (nth st'.boxes s).getD none with
   |some cs=>
    if vs.length=sh.ct.size∧vs.all AC.yC then
     if off+sh.ct.size≤cs.length then K (st'.cX s (some (cd cs off vs))) else none
    else none
   |none=>none
  |_=>none
 |some sh,.val false [.elt (.loc _ (some (r,t))) e _ i off]=>
  match st.take x with
  |(.val _ vs,st')=>
   if vs.length=sh.ct.size∧off+sh.ct.size≤e.size then st'.jQ r t e i off vs K else none
  |_=>none
 |_,_=>none
def rK (o:Oper)(S:TypeId)(p:Operand)(f:Nat)(st:AS)(K:AS→Option R):Option R:=
 match ft E.ty S,st.rd p with
 |some ⟨true,_,offs⟩,.val false [.ptr s off]=>match nth offs f with|some (fo,_)=>K (st.put o.dst (.one (.ptr s (off+fo))))|none=>none
 |some ⟨true,_,offs⟩,.val false [.elt fl e x i off]=>match nth offs f with|some (fo,_)=>K (st.put o.dst (.one (.elt fl e x i (off+fo))))|none=>none
 |_,_=>none
def hZ (o:Oper)(T:TypeId)(x i:Operand)(st:AS)(K:AS→Option R):Option R:=
 match E.sl T,(st.rd x).fresh st,st.rd i with
 |some e',.val false [.sl fl e xs],.val false [.int _ n]=>
  if e'=e∧fl.live st.ep then aa (idx xs n) λy=>K (st.put o.dst (.one (.elt fl e y n 0))) else none
 |_,_,_=>none
def tr (o:Oper)(T:TypeId)(x i:Operand)(st:AS)(K:AS→Option R):Option R:=
 match st.rd x,st.rd i with
 | .val false [.str s],.val false [.int _ n]=>if E.str T then aa (idx s n) λb=>K (st.put o.dst (.one (.int .u8 b.toNat))) else none
 |_,_=>none
def tj (o:Oper)(T:TypeId)(parts:List (Nat×Operand))(st:AS)(K:AS→Option R):Option R:=
 match ft E.ty T with
 |some ⟨true,ct,offs⟩=>
  match dg st (parts.map (·.2))with
  |(vs,st')=>
   match o4 offs (cellsOf ct (.own none) ct.zero) ((parts.map (·.1)).zip (vs.map AV.cells))with
   |some cs=>K (st'.put o.dst (.val true cs))
   |none=>none
 |_=>none
def gQ (o:Oper)(T:TypeId)(len:Nat)(parts:List (Nat×Operand))(st:AS)(K:AS→Option R):Option R:=
 match E.sl T with
 |some e=>
  if parts.length=len∧yb 0 parts∧len≤1000 then
   match dg st (parts.map (·.2))with
   |(vs,st')=>
    match tM e (vs.map AV.cells)with
    |some xs=>K (st'.kh o.dst e xs)
    |none=>none
  else none
 |none=>none
def jq (o:Oper)(T:TypeId)(n c:Operand)(st:AS)(K:AS→Option R):Option R:=
 match E.sl T,st.rd n,st.rd c with
 |some e,.val false [.int .i64 len],.val false [.int .i64 cap]=>
  if 0≤len∧len≤cap then room cap.toNat (K (st.kh o.dst e (List.replicate len.toNat e.zero))) else none
 |_,_,_=>none
def im (st:AS)(lo hi:Option Operand)(n:Nat)(K:Int→Int→Option R):Option R:=
 match lo.map st.rd,hi.map st.rd with
 |none,none=>K 0 n
 |some (.val false [.int _ a]),none=>K a n
 |none,some (.val false [.int _ b])=>K 0 b
 |some (.val false [.int _ a]),some (.val false [.int _ b])=>K a b
 |_,_=>none
def ph (o:Oper)(T:TypeId)(x:Operand)(lo hi:Option Operand)(st:AS)(K:AS→Option R):Option R:=
 match st.take x,lo.map st.rd,hi with
 |(.val false [.sl (.own _) e xs],st'),some (.val false [.int _ a]),none=>
  if E.sl T=some e then aa (sub xs a xs.length) λxs'=>K (st'.kh o.dst e xs') else none
 |_,_,_=>none
def CP (o:Oper)(fl:kf)(a:Int):kf:=
 match fl,o.dst with
 | .loc ep (some (r,t)),some d=>bif an.nest.contains d then .part ep r t a else .loc ep none
 |fl,_=>fl.bare
def sk (o:Oper)(T:TypeId)(x:Operand)(lo hi:Option Operand)(st:AS)(K:AS→Option R):Option R:=
 if vX an o then ph E o T x lo hi st K else
 match (st.rd x).fresh st with
 | .val false [.str s]=>if E.str T then im st lo hi s.length λa b=>aa (sub s a b) λs'=>K (st.put o.dst (.one (.str s'))) else none
 | .val false [.sl fl e xs]=>
   if E.sl T=some e∧fl.live st.ep then im st lo hi xs.length λa b=>aa (sub xs a b) λxs'=>K (st.put o.dst (.one (.sl (CP an o fl a) e xs'))) else none
 |_=>none
def gR (o:Oper)(src dst:TypeId)(x:Operand)(st:AS)(K:AS→Option R):Option R:=
 match ft E.ty src,ft E.ty dst,st.rd x with
 |some _,some ⟨false,.int k,_⟩,.val false [.int _ n]=>K (st.put o.dst (.one (.int k (k.wrap n))))
 |some ⟨false,.str,_⟩,some ⟨false,.str,_⟩,.val false [.str s]=>K (st.put o.dst (.one (.str s)))
 |some ⟨false,.str,_⟩,some _,.val false [.str s]=>
  if E.bytes dst then room s.length (K (st.kh o.dst (.int .u8) (dq s))) else none
 |some _,some ⟨false,.str,_⟩,.val false [.sl fl (.int .u8) xs]=>
  if E.bytes src∧fl.live st.ep then K (st.put o.dst (.one (.str (bytesOf xs)))) else none
 |_,_,_=>none
def gS (o:Oper)(t i:Nat)(st:AS)(K:AS→Option R):Option R:=
 match st.get t with
 | .tup vs=>match nth vs i with
   |some (g,cs)=>K ((st.put (some t) (.tup (ez vs i (g,aE 0 cs)))).put o.dst (.val g cs))
   |none=>none
 |_=>none
def CD (o:Oper)(ts:List TypeId)(args:List Operand)(st:AS)(K:AS→Option R):Option R:=
 match ts,args.map st.rd with
 |[t],[.val false [.str s]]=>if E.str t then K (st.put o.dst (.one (.int .i64 s.length))) else none
 |[t],[.val false [.sl _ _ xs]]=>if(E.sl t).isSome then K (st.put o.dst (.one (.int .i64 xs.length))) else none
 |_,_=>none
def DU (o:Oper)(args:List Operand)(st:AS)(K:AS→Option R):Option R:=
 match args.map st.rd with
 |[.val false [.int k x],.val false [.int _ y]]=>K (st.put o.dst (.one (.int k (if y<x then y else x))))
 |_=>none
def DT (o:Oper)(args:List Operand)(st:AS)(K:AS→Option R):Option R:=
 match args.map st.rd with
 |[.val false [.int k x],.val false [.int _ y]]=>K (st.put o.dst (.one (.int k (if y>x then y else x))))
 |_=>none
def Ek (o:Oper)(ts:List TypeId)(args:List Operand)(st:AS)(K:AS→Option R):Option R:=
 match ts,args.map st.rd with
 |[t,t'],[.val false [.sl (.part ep r tg lo) e xs],.val false [.str s]]=>
  match st.df r with
  |some (.sl (.own (some tg')) e' ys)=>
   if h:e'=.int .u8 then
    if e=.int .u8∧E.sl t=some (.int .u8)∧E.str t'=true∧ep=st.ep∧tg'=tg then
     K ({st.dh r (.sl (.own (some tg)) (.int .u8) (yo (h▸ys:List (CT.int .u8).D) lo.toNat (dq (s.take xs.length))))with ep:=st.ep+1}.put o.dst (.one (.int .i64 (min xs.length s.length:Nat))))
    else none
   else none
  |_=>none
 |_,_=>none
def wg (o:Oper)(S:TypeId)(t f:Nat)(st:AS)(K:AS→Option R):Option R:=
 match ft E.ty S,st.get t,I3 E.fts S f with
 |some ⟨true,ct,offs⟩,.val true cs,some T=>
  match nth offs f,ft E.ty T with
  |some (fo,n),some sh=>
   if n=sh.ct.size∧cs.length=ct.size∧fo+n≤cs.length then
    K ((st.put (some t) (.val true (cd cs fo (aE st.ep ((cs.drop fo).take n))))).put o.dst (.val sh.agg ((cs.drop fo).take n)))
   else none
  |_,_=>none
 |_,_,_=>none
def pB (o:Oper)(ts:List TypeId)(args:List Operand)(st:AS)(K:AS→Option R):Option R:=
 match ts,args with
 |[t,t'],[s,x]=>
  match st.take s with
  |(.val false [.sl (.own _) e xs],st1)=>
   match st1.take x with
   |(.val false [.sl fl e' ys],st2)=>
    if h:e'=e then
     if E.sl t=some e∧E.sl t'=some e∧fl.zZ st.ep e.flat then
      room (xs.length+ys.length) (K (st2.kh o.dst e (xs++(h▸ys:List e.D))))
     else none
    else none
   |(.val false [.str s],st2)=>
    if h:e=.int .u8 then
     if E.sl t=some e∧E.str t' then room (xs.length+s.length) (K (st2.kh o.dst (.int .u8) ((h▸xs:List (CT.int .u8).D)++dq s))) else none
    else none
   |_=>none
  |_=>none
 |_,_=>none
def ze:Nat→List AC→Option (fV×Nat)
 |_,[]=>none
 |j,.sl (.loc _ (some (r,_))) _ _::_=>some (r,j)
 |j,_::cs=>ze (j+1) cs
def fV.pos:fV→Nat
 | .slot _ j=>j
 | .box _ j=>j
 | .io j=>j
def AS.mu (st:AS):fV→Option (List AC)
 | .slot s _=>match st.get s with| .val _ cs=>some cs|_=>none
 | .box s _=>(nth st.boxes s).getD none
 | .io _=>some st.io
def AS.ki (st:AS)(r:fV)(cs:List AC):AS:=
 match r with
 | .slot s _=>match st.get s with| .val g _=>st.put (some s) (.val g cs)|_=>st
 | .box s _=>st.cX s (some cs)
 | .io _=>{st with io:=cs}
def ib:List AC→List AC→Option (List AC)
 |[],[]=>some []
 | .sl (.loc _ (some (_,t))) _ _::os,.sl (.own (some t')) e xs::ss=>bif t'==t then(ib os ss).bind λr=>some (.sl (.own none) e xs::r) else none
 | .int k n::os,.int _ _::ss=>(ib os ss).bind λr=>some (.int k n::r)
 | .bool b::os,.bool _::ss=>(ib os ss).bind λr=>some (.bool b::r)
 | .str x::os,.str _::ss=>(ib os ss).bind λr=>some (.str x::r)
 |_,_=>none
def sY:List AC→List AC→List AC→Option (List AC)
 |[],[],[]=>some []
 | .sl (.loc _ (some (_,t'))) _ _::os,.sl (.own (some t)) _ _::ss,.sl (.own _) e ys::bs=>bif t==t' then(sY os ss bs).bind λr=>some (.sl (.own (some t)) e ys::r) else none
 | .int _ _::os,.int k n::ss,.int _ _::bs=>(sY os ss bs).bind λr=>some (.int k n::r)
 | .bool _::os,.bool b::ss,.bool _::bs=>(sY os ss bs).bind λr=>some (.bool b::r)
 | .str _::os,.str x::ss,.str _::bs=>(sY os ss bs).bind λr=>some (.str x::r)
 |_,_,_=>none
def AV.dW:AV→Bool
 | .val _ cs=>cs.all AC.dW
 | .tup vs=>vs.all λx=>x.2.all AC.dW
def Fp (st:AS)(x:Operand):Option (AV×AS):=
 match st.rd x with
 | .val g cs=>
   match ze 0 cs with
   |some (r,j)=>
    match st.mu r with
    |some csO=>
     match ib cs ((csO.drop (r.pos-j)).take cs.length)with
     |some cs'=>some (.val g cs',st.ki r (cd csO (r.pos-j) (aE st.ep ((csO.drop (r.pos-j)).take cs.length))))
     |none=>none
    |none=>none
   |none=>none
 |_=>none
def EE (o:Oper)(x:Operand)(st:AS)(K:AS→Option R):Option R:=
 match Fp st x with
 |some (v,st')=>K (st'.put o.dst v)
 |none=>none
def pz (T:TypeId)(p x:Operand)(st:AS)(K:AS→Option R):Option R:=
 match ft E.ty T,st.rd p with
 |some sh,.val false [.ptr s off]=>
  match Fp st x with
  |some (.val _ vs,st')=>
   match (nth st'.boxes s).getD none with
   |some cs=>
    if vs.length=sh.ct.size∧vs.all AC.yC then
     if off+sh.ct.size≤cs.length then K (st'.cX s (some (cd cs off vs))) else none
    else none
   |none=>none
  |_=>none
 |_,_=>none
def EM (o:Oper)(f:Nat)(g:Bool)(cs:List AC)(xs:List Operand)(st:AS)(K:AS→Option R):Option R:=
 match cs with
 |[.sl (.nest ep r t en i off) _ _]=>
  match st.mu r with
  |some csO=>
   match (csO.drop r.pos).take 1 with
   |[.sl (.own (some t')) e ys]=>
    bif (ep==st.ep)&&(t'==t)&&(en.size==e.size)&&xs.all (λx=>(st.rd x).dW) then
     aa (idx ys i) λx=>
      match ((cellsOf e (.own none) x).drop off).take 1 with
      |[.sl (.own _) e2 zs]=>
       aa ((Γ f).fn (.val g [.sl (.own none) e2 zs]::xs.map st.rd)) λy=>
        match (Γ f).back y with
        |[.sl (.own _) e3 zs']=>
         match eQ e (cd (cellsOf e (.own none) x) off [.sl (.own none) e3 zs'])with
         |some (x',[])=>bif ((Γ f).av y).dW then K ({st.ki r (cd csO r.pos [.sl (.own (some t)) e (ys.set i.toNat x')])with ep:=st.ep+1}.put o.dst ((Γ f).av y)) else none
         |_=>none
        |_=>none
      |_=>none
    else none
   |_=>none
  |none=>none
 |_=>none
def X4 (o:Oper)(f:Nat)(args:List Operand)(st:AS)(K:AS→Option R):Option R:=
 match args with
 |x0::xs=>
  match st.rd x0 with
  | .val g cs=>
    match ze 0 cs with
    |some (r,j)=>
     match st.mu r with
     |some csO=>
      match ib cs ((csO.drop (r.pos-j)).take cs.length)with
      |some cs'=>
       bif xs.all (λx=>(st.rd x).dW) then
        aa ((Γ f).fn (.val g cs'::xs.map st.rd)) λy=>
         match sY cs ((csO.drop (r.pos-j)).take cs.length) ((Γ f).back y)with
         |some seg=>bif ((Γ f).av y).dW then K ({st.ki r (cd csO (r.pos-j) seg)with ep:=st.ep+1}.put o.dst ((Γ f).av y)) else none
         |none=>none
       else none
      |none=>none
     |none=>none
    |none=>EM Γ o f g cs xs st K
  |_=>none
 |[]=>none
def AC.strip:AC→AC
 | .sl (.own _) e xs=> .sl (.own none) e xs
 | .sl (.loc _ _) _ _=> .bot
 | .sl (.nest ..) _ _=> .bot
 | .sl (.part ..) _ _=> .bot
 | .sl (.holed _ i _) e xs=> .sl (.holed none i none) e xs
 | .ptr _ _=> .bot
 | .elt _ _ _ _ _=> .bot
 |c=>c
def AC.Ik:AC→Bool
 | .sl (.own _) _ _=>true
 |c=>c.dW
def AC.qI (k:Bool):AC→Bool
 | .sl (.own _) _ _=>true
 | .sl (.arg k') _ _=>k'==k
 |c=>c.dW
def AC.GY:AC→AC
 | .sl (.own _) e xs=> .sl (.own none) e xs
 | .sl (.arg _) e xs=> .sl (.arg true) e xs
 |c=>c.strip
def AC.Vs (k:Bool)(tag:Option Nat):AC→AC
 | .sl (.own _) e xs=> .sl (.own tag) e xs
 | .sl (.arg _) e xs=> .sl (.arg k) e xs
 |c=>c
def jU (k:Bool)(mk:Nat→Option Nat):Nat→List AC→List AC
 |_,[]=>[]
 |j,c::cs=>c.Vs k (mk j)::jU k mk (j+1) cs
def uS (cs:List AC):Bool:=cs.any λc=>match c with| .sl (.arg k) _ _=>k|_=>false
def AC.yY:AC→Bool
 | .sl (.arg k) _ _=> !k
 |c=>c.dW
def AV.yY:AV→Bool
 | .val _ cs=>cs.all AC.yY
 | .tup _=>false
def AS.DR (st:AS):AC→AC
 | .sl (.own _) e xs=> .sl (.arg false) e xs
 | .sl (.arg _) e xs=> .sl (.arg false) e xs
 | .sl (.loc _ (some (.slot b j,t))) _ _=>match st.df (.slot b j)with
   |some (.sl (.own (some t')) e' ys)=>if t'=t then .sl (.arg false) e' ys else .bot
   |_=> .bot
 | .int k n=> .int k n
 | .bool b=> .bool b
 | .str s=> .str s
 | .fn f=> .fn f
 |_=> .bot
def sU (st:AS):Operand→AV
 | .tmp t=>(match st.get t with| .val g cs=> .val g (cs.map st.DR)|v=>v)
 |x=>st.rd x
def tL (st:AS):Operand→Bool
 | .tmp t=>(match st.get t with| .val _ cs=>(cs.map st.DR).all AC.yY|_=>false)
 |x=>(st.rd x).dW
def AC.OC:AC→Bool
 | .sl (.own _) _ _=>true
 |c=>c.dW
def AV.OC:AV→Bool
 | .val _ cs=>cs.all AC.OC
 | .tup vs=>vs.all λx=>x.2.all AC.OC
def Mk (st:AS)(s:Nat)(cs:List AC):AS:={(st.cX s (some cs)).dp (some s)with ep:=st.ep+1}
def nL (o:Oper)(f:Nat)(args:List Operand)(st:AS)(K:AS→Option R):Option R:=
 match args with
 |x0::xs=>
  match st.rd x0 with
  | .val false [.ptr s 0]=>
    match (nth st.boxes s).getD none with
    |some cs=>
     bif cs.all (AC.qI (uS cs))&&xs.all (tL st) then
      aa ((Γ f).fn (.val true (cs.map AC.GY)::xs.map (sU st))) λy=>
       bif ((Γ f).back y).all (AC.qI true)&&((Γ f).av y).OC then
        bif (Γ f).cur&&cs.all AC.xC then
         K (((st.cX s (some (jU (uS cs) (λ_=>none) 0 ((Γ f).back y)))).dp o.dst).put o.dst (((Γ f).av y).uT st.ep (st.eD o.dst)))
        else
        K (((Mk st s (jU (uS cs) (st.eD (some s)) 0 ((Γ f).back y))).dp o.dst).put o.dst
          (((Γ f).av y).uT (st.ep+1) ((Mk st s (jU (uS cs) (st.eD (some s)) 0 ((Γ f).back y))).eD o.dst)))
       else none
     else none
    |none=>none
  |_=>none
 |[]=>none
def OD (o:Oper)(f:Nat)(args:List Operand)(st:AS)(K:AS→Option R):Option R:=
 match o.dst with
 |some d=>
  match nth st.boxes d with
  |some none=>
   bif args.all (λx=>(st.rd x).yY) then
    aa ((Γ f).fn (args.map st.rd)) λy=>
     bif ((Γ f).back y).all AC.yY then K ((st.cX d (some ((Γ f).back y))).put (some d) (.one (.ptr d 0))) else none
   else none
  |_=>none
 |none=>none
def uV (o:Oper)(f:Operand)(args:List Operand)(st:AS)(K:AS→Option R):Option R:=
 match st.rd f with
 | .val false [.fn f]=>
   bif (Γ f).bx then nL Γ o f args st K else
   bif (Γ f).pr then OD Γ o f args st K else
   bif (Γ f).io then X4 Γ o f args st K
   else aa ((Γ f).fn (args.map λx=>((st.rd x).fresh st).asArg st.ep)) λr=>cond ((Γ f).sel r) (K ((st.dp o.dst).put o.dst (((Γ f).av r).uT st.ep (st.eD o.dst)))) (K ((st.dp o.dst).put o.dst (((Γ f).alt r).uT st.ep (st.eD o.dst))))
 |_=>none
def uW {R:Type}(op:BinOp)(b:Bool)(K:AC→Option R):Option R:=
 match op with
 | .eql=>K (.bool b)
 | .neq=>K (.bool (!b))
 |_=>none
def sE (o:Oper)(op:BinOp)(T:TypeId)(x y:Operand)(st:AS)(K:AS→Option R):Option R:=
 match st.rd x,st.rd y with
 | .val false [.bool a],.val false [.bool b]=>if E.bool T then wG op (.one (.bool a)) (.one (.bool b)) λc=>K (st.put o.dst (.one c)) else none
 | .val true xs,.val true ys=>match EI E.eqs T with
   |some ls=>if fits ls xs then wG op (.val true xs) (.val true ys) λc=>K (st.put o.dst (.one c)) else none
   |none=>none
 | .val false [.sl fl _ xs],.val false [.nilsl]=>if(E.sl T).isSome∧fl.live st.ep then(if xs.length=0 then none else uW op false λc=>K (st.put o.dst (.one c))) else none
 | .val false [.nilsl],.val false [.nilsl]=>if(E.sl T).isSome then uW op true λc=>K (st.put o.dst (.one c)) else none
 |a,b=>wG op a b λc=>K (st.put o.dst (.one c))
def cf (o:Oper)(st:AS)(K:AS→Option R):Option R:=
 match o.op with
 | .move x=>tQ an o x st K
 | .assign x=>if rV an o then EE o x st K else nJ E an o x st K
 | .pick c a b=>vH o c a b st K
 | .alloc T=>tZ E o T st K
 | .box _ x=>Fm o x st K
 | .load T p=>jF E an o T p st K
 | .store T p x=>match o.dst with|none=>(if rV an o then pz E T p x st K else py E T p x st K)|some _=>none
 | .nilCheck x=>
   match st.rd x with
   | .val false [.ptr s off]=>K (st.put o.dst (.one (.ptr s off)))
   | .val false [.elt fl e y i off]=>K (st.put o.dst (.one (.elt fl e y i off)))
   |_=>none
 | .binOp op T x y _=>sE E o op T x y st K
 | .unOp op _ x=>SB op (st.rd x) λc=>K (st.put o.dst (.one c))
 | .fieldAddr S p f=>rK E o S p f st K
 | .indexAddr T x i=>hZ E o T x i st K
 | .index T x i=>tr E o T x i st K
 | .build T parts=>tj E o T parts.toList st K
 | .buildSlice T len parts=>gQ E o T len parts.toList st K
 | .makeSlice T n c=>jq E o T n c st K
 | .slice T x lo hi none=>sk E an o T x lo hi st K
 | .field S (.tmp t) f=>wg E o S t f st K
 | .call {callee:=.builtin .copy,args,argTypes}=>Ek E o argTypes.toList args.toList st K
 | .convert src dst x=>gR E o src dst x st K
 | .extract (.tmp t) i=>gS o t i st K
 | .call {callee:=.builtin .len,args,argTypes}=>CD E o argTypes.toList args.toList st K
 | .call {callee:=.builtin .min,args,..}=>DU o args.toList st K
 | .call {callee:=.builtin .max,args,..}=>DT o args.toList st K
 | .call {callee:=.builtin .append,args,argTypes}=>pB E o argTypes.toList args.toList st K
 | .call {callee:=.value f,args,..}=>uV Γ o f args.toList st K
 |_=>none
def ec (ops:List Oper)(o:Oper)(st:AS)(K:AS→Option R):Option R:=
 match o.guard with
 |none=>cf E Γ an o st K
 |some (j,want)=>
  match (nth ops j).bind (·.dst)with
  |some d=>
   match st.get d with
   | .val false [.bool b]=>
     let go (t:Bool):Option R:=
      if t==want then cf E Γ an o (st.put (some d) (.one (.bool t))) K else K ((st.put (some d) (.one (.bool t))).put o.dst (.one .un))
     cond b (go true) (go false)
   | .val false [.un]=>K (st.put o.dst (.one .un))
   |_=>none
  |none=>none
def Gw (ops:List Oper):List Oper→AS→(AS→Option R)→Option R
 |[],st,K=>K st
 |o::r,st,K=>ec E Γ an ops o st λst'=>Gw ops r st' K
def dz:Code→Nat
 | .region id _ _=>id
 | .seq a _=>dz a
 | .block _ c=>dz c
 | .loop c=>dz c
 | .cond _ a b=>match dz a with|0=>dz b|n=>n
 |_=>0
def vj (c:Code):Nat:=1000000+2*dz c
def gz (l:List Nat):Code→List Code
 | .seq a b=>gz l a++(bif l.contains (dz b) then b::gz l b else gz l b)
 | .cond _ a b=>gz l a++gz l b
 | .block _ c=>gz l c
 | .loop c=>gz l c
 |_=>[]
def eP (l:List Nat)(fn:Func)(k:Nat):Code:=(nth (gz l (fn.body.getD .skip)) k).getD .skip
def fw:Code→List Code
 | .seq a b=>fw a++fw b
 | .cond _ a b=>fw a++fw b
 | .block _ c=>fw c
 | .loop c=>c::fw c
 |_=>[]
def aR (fn:Func)(k:Nat):Code:=(nth (fw (fn.body.getD .skip)) k).getD .skip
def qT (j:Nat):Nat:=3*(4096*1000003+j)
def fV.vR:fV→Option Nat
 | .slot s j=>bif Nat.ble 4096 j then none else bif Nat.ble 1000000 s then none else some (3*(4096*s+j))
 | .box s j=>bif Nat.ble 4096 j then none else some (3*(4096*s+j)+1)
 | .io j=>bif Nat.ble 4096 j then none else some (qT j)
def AC.QE (io:List AC)(j t:Nat)(e:CT):Option (List e.D):=
 match nth io j with
 |some (.sl (.own (some t')) e' ys)=>if h:e'=e then bif t'==t then some (h▸ys) else none else none
 |_=>none
def AC.mask (keep:List Nat)(ep:Nat)(io:List AC)(rt:fV):AC→AC
 | .ptr s off=>if keep.contains s then .ptr s off else .bot
 | .sl (.loc e pv) t xs=>
   match pv with
   |some (.io j,n)=>match AC.QE io j n t with
    |some ys=> .sl (.loc 0 ((fV.vR (.io j)).map λq=>(.io j,q))) t ys
    |none=>if e==ep then .sl (.loc 0 none) t xs else .bot
   |_=>if e==ep then .sl (.loc 0 none) t xs else .bot
 | .sl (.own _) t xs=> .sl (.own rt.vR) t xs
 | .sl (.nest ..) _ _=> .bot
 | .sl (.part ..) _ _=> .bot
 | .sl (.holed _ i _) e xs=> .sl (.holed none i none) e xs
 | .elt _ _ _ _ _=> .bot
 |c=>c
def zt (keep:List Nat)(ep:Nat)(io:List AC)(f:Nat→fV):Nat→List AC→List AC
 |_,[]=>[]
 |j,c::cs=>c.mask keep ep io (f j)::zt keep ep io f (j+1) cs
def AV.mask (keep:List Nat)(ep:Nat)(io:List AC)(s:Nat):AV→AV
 | .val g cs=> .val g (zt keep ep io (.slot s) 0 cs)
 | .tup _=> .bot
def iO (keep:List Nat)(ep:Nat)(io:List AC):Nat→List AV→List AV
 |_,[]=>[]
 |i,v::r=>(if keep.contains i then v.mask keep ep io i else .bot)::iO keep ep io (i+1) r
def iM (keep:List Nat)(ep:Nat)(io:List AC):Nat→List (Option (List AC))→List (Option (List AC))
 |_,[]=>[]
 |i,b::r=>(if keep.contains i then b.map (zt keep ep io (.box i) 0) else none)::iM keep ep io (i+1) r
def Lm (keep:List Nat):Nat→List AC→List AC
 |_,[]=>[]
 |j,c::cs=>(match c with| .sl (.own _) e xs=> .sl (.own (fV.vR (.io j))) e xs| .sl (.holed _ i _) e xs=> .sl (.holed none i none) e xs| .ptr s off=>if keep.contains s then .ptr s off else .bot|c=>bif c.dW then c else .bot)::Lm keep (j+1) cs
def AS.mask (keep:List Nat)(st:AS):AS:=
 ⟨iO keep st.ep st.io 0 st.slots,iM keep st.ep st.io 0 st.boxes,0,List.replicate st.slots.length false,Lm keep 0 st.io⟩
def getBool (st:AS)(s:Nat):Option Bool:=
 match st.get s with
 | .val false [.bool b]=>some b
 |_=>none
def ef (an:An)(ds:List Nat)(o:Oper):Bool:=
 match o.op with
 | .assign (.const _)=> !rV an o
 | .assign (.tmp t)=>ds.contains t&& !rV an o
 | .move _| .load ..=>match o.dst with|some d=> !an.mv.contains d|none=>false
 | .slice ..=> !vX an o
 | .pick ..| .binOp ..| .unOp ..| .fieldAddr ..| .indexAddr ..| .index ..| .nilCheck _=>true
 | .build _ ps=>ps.isEmpty
 | .call {callee:=.builtin .len,..}| .call {callee:=.builtin .min,..}| .call {callee:=.builtin .max,..}=>true
 | .call {callee:=.value _,..}=>true
 |_=>false
def xe (ops:List Oper):List Nat:=ops.filterMap (·.dst)
def AS.sP (st:AS):List Nat→AS
 |[]=>st
 |d::r=>((st.put (some d) .bot).dp (some d)).sP r
def wM (ops:List Oper)(A:List (List Nat)):Nat→List Oper→AS→(AS→Option R)→Option R
 |_,[],st,K=>K st
 |i,o::r,st,K=>bif cn E an (mc an A i 0 ops) o st then ec E Γ an ops o st λst'=>wM ops A (i+1) r st' K else none
def vu (ops:List Oper)(draw:Bool)(st:AS)(K:AS→Option R):Option R:=
 bif draw then(bif HJ an ops then wM E Γ.xv an ops (Hb ops []) 0 ops st K else none) else Gw E Γ an ops ops st K
def GG (id:Nat)(ops:List Oper)(draw:Bool)(st:AS)(K:AS→Option R):Option R:=
 match an.merge id with
 |none=>vu E Γ an ops draw st K
 |some s=>
  if ops.all (ef an (xe ops)) then
   aa (vu E Γ.calm an ops draw st λst'=>getBool st' s) λb=>K ((st.sP (xe ops)).put (some s) (.one (.bool b)))
  else none
def u1 (key:List Nat)(B:AS→(Ex→AS→Option R)→Option R):Nat→AS→(Ex→AS→Option R)→Option R
 |0,_,_=>none
 |m+1,st,K=>B st λe st'=>
  match e with
  | .normal=>u1 key B m (st'.mask key) K
  |e=>K e (st'.mask key)
def den (Λ:cY):Code→AS→(Ex→AS→Option R)→Option R
 | .skip,st,K=>K .normal st
 | .region id ops draw,st,K=>GG E Γ an id ops.toList draw st (K .normal)
 | .seq a b,st,K=>den Λ a st λe st'=>match e with
   | .normal=>bif an.cut.contains (dz b) then(Λ (vj b)).go (st'.mask (an.mask (vj b))) K else den Λ b st' K
   |e=>K e st'
 | .cond c a b,st,K=>
   match st.rd c with
   | .val false [.bool t]=>cond t (den Λ a st K) (den Λ b st K)
   |_=>none
 | .block id c,st,K=>den Λ c st λe st'=>
   match e with
   | .exit j=>if j==id then K .normal st' else K (.exit j) st'
   |e=>K e st'
 | .loop c,st,K=>
   bif an.peel.contains (dz c) then den Λ c (st.mask (an.mask (dz c))) λe st'=>
    match e with
    | .normal=>(Λ (dz c)).go (st'.mask (an.mask (dz c))) K
    |e=>K e (st'.mask (an.mask (dz c)))
   else(Λ (dz c)).go (st.mask (an.mask (dz c))) K
 | .exit id,st,K=>K (.exit id) st
 | .ret,st,K=>K .ret st
 |_,_,_=>none
end
def CX (st:AS)(E:Env):ResultVar→Option ((Bool×Nat)×Bool×List AC)
 | .tmp t=>match st.get t with| .val g cs=>some ((false,t),g,cs.map AC.strip)|_=>none
 | .cell t T=>match ft E.ty T,st.get t with
   |some sh,.val false [.ptr s off]=>((nth st.boxes s).getD none).bind λcs=>
    if off+sh.ct.size≤cs.length then some ((true,s),sh.agg,((cs.drop off).take sh.ct.size).map AC.strip) else none
   |_,_=>none
def js (st:AS)(E:Env):List (Bool×Nat)→List ResultVar→Option (List (Bool×List AC))
 |_,[]=>some []
 |had,r::rs=>(CX st E r).bind λx=>if had.contains x.1 then none else(js st E (x.1::had) rs).bind λxs=>some (x.2::xs)
def results (E:Env)(rs:List ResultVar)(st:AS):Option AV:=
 match js st E [] rs with
 |some [(g,cs)]=>some (.val g cs)
 |some vs=>some (.tup vs)
 |none=>none
def start (fn:Func)(args:List AV):AS:=⟨args++List.replicate (fn.ntmps-args.length) .bot,List.replicate (args.length+(fn.ntmps-args.length)) none,0,List.replicate fn.ntmps false,[]⟩
abbrev gB:List (Bool×FT)→Type
 |[]=>Unit
 |[(_,t)]=>t.ct.D
 |(_,t)::r=>t.ct.D×gB r
def fQ:(l:List (Bool×FT))→List (Bool×List AC)→Option (gB l)
 |[],[]=>some ()
 |[(g,t)],[(g',cs)]=>bif g==g' then(match Bh t cs with|some (x,[])=>some x|_=>none) else none
 |(g,t)::p::r,(g',cs)::vs=>bif g==g' then(match Bh t cs with|some (x,[])=>(fQ (p::r) vs).bind λy=>some (x,y)|_=>none) else none
 |_,_=>none
def XL:(l:List (Bool×FT))→gB l→List (Bool×List AC)
 |[],_=>[]
 |[(g,t)],x=>[(g,fD t x)]
 |(g,t)::p::r,x=>(g,fD t x.1)::XL (p::r) x.2
def qL (l:List (Bool×FT))(x:gB l):AV:=
 match XL l x with
 |[(g,cs)]=> .val g cs
 |vs=> .tup vs
def Cc (E:Env)(Γ:cG)(an:An)(Λ:cY)(fn:Func)(rs:List (Bool×FT))(args:List AV):Option (gB rs):=
 match fn.body with
 |some c=>if args.length=fn.params.size then den E Γ an Λ c (start fn args) λe st=>
  match e with
  | .exit _=>none
  |_=>aa (js st E [] fn.results.toList) (fQ rs)
  else none
 |none=>none
def evalAlt (E:Env)(Γ:cG)(an:An)(Λ:cY)(fn:Func)(rs rs2:List (Bool×FT))(h:gB rs2=gB rs)(args:List AV):Option (Bool×gB rs):=
 match fn.body with
 |some c=>if args.length=fn.params.size then den E Γ an Λ c (start fn args) λe st=>
  match e with
  | .exit _=>none
  |_=>aa (js st E [] fn.results.toList) λys=>
   match fQ rs ys with
   |some y=>some (true,y)
   |none=>match fQ rs2 ys with
    |some y=>some (false,cast h y)
    |none=>none
  else none
 |none=>none
def KY:Nat→List AC→List AC
 |_,[]=>[]
 |j,.sl _ e xs::cs=> .sl (.own (some (qT j))) e xs::KY (j+1) cs
 |j,c::cs=>c::KY (j+1) cs
def rU:Nat→List AC→List AC
 |_,[]=>[]
 |j,.sl _ e xs::cs=> .sl (.loc 0 (some (.io j,qT j))) e xs::rU (j+1) cs
 |j,c::cs=>c::rU (j+1) cs
def wC (fn:Func)(g:Bool)(cs:List AC)(args:List AV):AS:={start fn (.val g (rU 0 cs)::args)with io:=KY 0 cs}
def Qe (E:Env)(Γ:cG)(an:An)(Λ:cY)(fn:Func)(rs:List (Bool×FT))(t:CT)(args:List AV):Option (gB rs×t.D):=
 match fn.body,args with
 |some c,.val g cs::xs=>if xs.length+1=fn.params.size∧cs.all AC.Ik=true then den E Γ an Λ c (wC fn g cs xs) λe st=>
  match e with
  | .exit _=>none
  |_=>aa (aa (js st E [] fn.results.toList) (fQ rs)) λr=>
   match eQ t st.io with
   |some (x,[])=>some (r,x)
   |_=>none
  else none
 |_,_=>none
def xE:Nat→List AC→List AC
 |_,[]=>[]
 |j,.sl (.own _) e xs::cs=> .sl (.own (some (3*j+1))) e xs::xE (j+1) cs
 |j,c::cs=>c::xE (j+1) cs
def sv (fn:Func)(cs:List AC)(args:List AV):AS:=
 {start fn (.one (.ptr 0 0)::args)with boxes:=some (xE 0 cs)::List.replicate (args.length+(fn.ntmps-(args.length+1))) none,io:=[.ptr 0 0]}
def MF (E:Env)(Γ:cG)(an:An)(Λ:cY)(fn:Func)(rs:List (Bool×FT))(t:FT)(args:List AV):Option (gB rs×t.ct.D):=
 match fn.body,args with
 |some c,.val true cs::xs=>if xs.length+1=fn.params.size∧cs.all (AC.qI true)=true then den E Γ an Λ c (sv fn cs xs) λe st=>
  match e with
  | .exit _=>none
  |_=>aa (aa (js st E [(true,0)] fn.results.toList) (fQ rs)) λr=>
   match st.io,st.boxes with
   |[.ptr 0 0],some cs'::_=>match Bh t (cs'.map AC.strip)with
    |some (x,[])=>some (r,x)
    |_=>none
   |_,_=>none
  else none
 |_,_=>none
def F5 (E:Env)(Γ:cG)(an:An)(Λ:cY)(fn:Func)(t:FT)(args:List AV):Option t.ct.D:=
 match fn.body with
 |some c=>if args.length=fn.params.size then den E Γ an Λ c (start fn args) λe st=>
  match e with
  | .exit _=>none
  |_=>match fn.results.toList with
   |[.tmp i]=>match st.get i with
    | .val false [.ptr s 0]=>match (nth st.boxes s).getD none with
      |some cs=>if cs.all AC.yY=true then(match Bh t (cs.map AC.strip)with|some (x,[])=>some x|_=>none) else none
      |none=>none
    |_=>none
   |_=>none
  else none
 |none=>none
end Go.Dn
