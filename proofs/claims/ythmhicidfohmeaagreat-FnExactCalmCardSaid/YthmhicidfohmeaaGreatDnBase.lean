import Derived.Test.YthmhicidfohmeaaGreatDnData
/- An abstract, heap-free semantics of the model's code, for functions that treat their data by value: definitions. -/
namespace Go.Dn
inductive gE where
 |slot (s j:Nat)|box (s j:Nat)|io (j:Nat)
 deriving DecidableEq
inductive lK where
 |own (tag:Option Nat)
 |loc (ep:Nat) (pv:Option (gE×Nat))
 |arg
 |nest (ep:Nat) (r:gE) (t:Nat) (e:CT) (i:Int) (off:Nat)
 |part (ep:Nat) (r:gE) (t:Nat) (lo:Int)
 |holed (tag:Option Nat) (i:Int) (ep:Option Nat)
inductive AC where
 |int (k:IntKind) (n:Int)|bool (b:Bool)|str (s:List UInt8)
 |sl (fl:lK) (e:CT) (xs:List e.D)
 |nilsl
 |ptr (s off:Nat)
 |elt (fl:lK) (e:CT) (x:e.D) (i:Int) (off:Nat)
 |fn (f:Nat)
 |un
 |bot
inductive AV where
 |val (agg:Bool) (cs:List AC)
 |tup (vs:List (Bool×List AC))
abbrev AV.one (c:AC):AV:=.val false [c]
abbrev AV.bot:AV:=.val false [.bot]
structure AS where
 slots:List AV
 boxes:List (Option (List AC))
 ep:Nat
 iss:List Bool
 io:List AC
structure Shape where
 agg:Bool
 ct:CT
 offs:List (Nat×Nat):=[]
structure An where
 mask:Nat→List Nat:=λ_=>[]
 merge:Nat→Option Nat:=λ_=>none
 mv:List Nat:=[]
 nest:List Nat:=[]
 mb:Nat→Option Nat:=λ_=>none
 sb:Nat→Option Nat:=λ_=>none
 late:List Nat:=[]
 peel:List Nat:=[]
 nils:List Nat:=[]
 fm:List Nat:=[]
 eb:Nat→Option Nat:=λ_=>none
 es:Nat→Option Nat:=λ_=>none
 er:Nat→Option Nat:=λ_=>none
def cellsOf:(t:CT)→lK→t.D→List AC
 | .int k,_,n=>[.int k n]
 | .bool,_,b=>[.bool b]
 | .str,_,s=>[.str s]
 | .sl e,fl,xs=>[.sl fl e xs]
 | .pair a b,fl,x=>cellsOf a fl x.1++cellsOf b fl x.2
def eV:(t:CT)→List AC→Option (t.D×List AC)
 | .int k,.int k' n::r=>if k'=k then some (n,r) else none
 | .bool,.bool b::r=>some (b,r)
 | .str,.str s::r=>some (s,r)
 | .sl e,.sl (.own _) e' xs::r=>if h:e'=e then some (h▸xs,r) else none
 | .sl _,.nilsl::r=>some ([],r)
 | .pair a b,cs=>(eV a cs).bind λx=>(eV b x.2).bind λy=>some ((x.1,y.1),y.2)
 |_,_=>none
def nth {α:Type}:List α→Nat→Option α
 |[],_=>none
 |a::_,0=>some a
 |_::l,n+1=>nth l n
def fD {α:Type}:List α→Nat→α→List α
 |[],_,_=>[]
 |_::l,0,v=>v::l
 |a::l,n+1,v=>a::fD l n v
def AS.get (st:AS)(i:Nat):AV:=(nth st.slots i).getD .bot
def AS.put (st:AS)(d:Option Nat)(v:AV):AS:=
 match d with
 |some d=>{st with slots:=fD st.slots d v}
 |none=>st
def CM (d j:Nat):Nat:=3*(4096*d+j)+2
def AS.hY (st:AS)(d:Option Nat)(j:Nat):Option Nat:=
 match d with
 |some d=>bif (nth st.iss d).getD true then none else bif Nat.ble 4096 j then none else some (CM d j)
 |none=>none
def AS.eh (st:AS)(d:Option Nat):AS:=
 match d with
 |some d=>{st with iss:=fD st.iss d true}
 |none=>st
def AS.lL (st:AS)(d:Option Nat)(e:CT)(xs:List e.D):AS:=
 (st.eh d).put d (.one (.sl (.own (st.hY d 0)) e xs))
def AC.borrow (ep:Nat)(rt:Option gE):AC→AC
 | .sl (.own tag) e xs=> .sl (.loc ep (match rt,tag with|some r,some t=>some (r,t)|_,_=>none)) e xs
 | .sl (.holed tag _ (some ep0)) e xs=> .sl (.loc ep0 (match rt,tag with|some r,some t=>some (r,t)|_,_=>none)) e xs
 | .sl (.holed _ _ none) _ _=> .bot
 |c=>c
def pT (ep:Nat)(f:Nat→gE):Nat→List AC→List AC
 |_,[]=>[]
 |j,c::cs=>c.borrow ep (some (f j))::pT ep f (j+1) cs
def aN (ep:Nat)(cs:List AC):List AC:=cs.map (AC.borrow ep none)
def AV.borrow (ep:Nat)(f:Nat→gE):AV→AV
 | .val g cs=> .val g (pT ep f 0 cs)
 | .tup vs=> .tup (vs.map λx=>(x.1,aN ep x.2))
def AV.aN (ep:Nat):AV→AV
 | .val g cs=> .val g (Dn.aN ep cs)
 | .tup vs=> .tup (vs.map λx=>(x.1,Dn.aN ep x.2))
def ofConst:Value→AV
 | .int k n=> .one (.int k n)
 | .bool b=> .one (.bool b)
 | .string s=> .one (.str s.data.toList)
 | .slice none 0 0=> .one .nilsl
 |_=> .bot
def AS.rd (st:AS):Operand→AV
 | .tmp t=>(st.get t).borrow st.ep (.slot t)
 | .const v=>ofConst v
 | .func f=> .one (.fn f)
 | .global _=> .bot
def AS.take (st:AS):Operand→AV×AS
 | .tmp t=>(st.get t,st.put (some t) ((st.get t).aN st.ep))
 |x=>(st.rd x,st)
def AS.dB (st:AS)(s:Nat)(b:Option (List AC)):AS:={st with boxes:=fD st.boxes s b}
def AC.asArg (ep:Nat):AC→AC
 | .int k n=> .int k n
 | .bool b=> .bool b
 | .str s=> .str s
 | .sl (.own _) e xs=> .sl .arg e xs
 | .sl (.loc ep' _) e xs=>if ep'==ep then .sl .arg e xs else .bot
 | .sl .arg e xs=> .sl .arg e xs
 | .nilsl=> .nilsl
 | .fn f=> .fn f
 |_=> .bot
def AV.asArg (ep:Nat):AV→AV
 | .val g cs=> .val g (cs.map (AC.asArg ep))
 | .tup _=> .bot
def AC.EJ (ep:Nat)(tag:Option Nat):AC→AC
 | .sl (.own _) e xs=> .sl (.own tag) e xs
 | .sl .arg e xs=> .sl (.loc ep none) e xs
 | .sl (.loc _ _) _ _=> .bot
 | .sl (.nest ..) _ _=> .bot
 | .sl (.part ..) _ _=> .bot
 | .sl (.holed _ i _) e xs=> .sl (.holed none i none) e xs
 | .ptr _ _=> .bot
 | .elt _ _ _ _ _=> .bot
 |c=>c
def vC (ep:Nat)(mk:Nat→Option Nat):Nat→List AC→List AC
 |_,[]=>[]
 |j,c::cs=>c.EJ ep (mk j)::vC ep mk (j+1) cs
def PN (ep:Nat)(mk:Nat→Option Nat):Nat→List (Bool×List AC)→List (Bool×List AC)
 |_,[]=>[]
 |j,t::ts=>(t.1,vC ep mk j t.2)::PN ep mk (j+t.2.length) ts
def AV.EJ (ep:Nat)(mk:Nat→Option Nat):AV→AV
 | .val g cs=> .val g (vC ep mk 0 cs)
 | .tup vs=> .tup (PN ep mk 0 vs)
structure aG where
 R:Type
 fn:List AV→Option R
 av:R→AV
 io:Bool:=false
 back:R→List AC:=λ_=>[]
 bx:Bool:=false
 sel:R→Bool:=λ_=>true
 alt:R→AV:=λ_=> .val false [.bot]
def aG.res (F:aG)(y:F.R):AV:=cond (F.sel y) (F.av y) (F.alt y)
abbrev bH:=Nat→aG
def bH.calm (Γ:bH):bH:=λf=>bif (Γ f).io||(Γ f).bx then {R:=Unit,fn:=λ_=>none,av:=λ_=> .val false [.bot]} else Γ f
def Ck {R:Type}(op:BinOp)(k:IntKind)(x y:Int)(K:AC→Option R):Option R:=
 match op with
 | .add=>K (.int k (k.wrap (x+y)))
 | .sub=>K (.int k (k.wrap (x-y)))
 | .mul=>K (.int k (k.wrap (x*y)))
 | .quo=>if y=0 then none else K (.int k (k.wrap (x.tdiv y)))
 | .rem=>if y=0 then none else K (.int k (x.tmod y))
 | .and=>K (.int k (k.wrap (BitVec.ofInt k.bits x&&&BitVec.ofInt k.bits y).toNat))
 | .or=>K (.int k (k.wrap (BitVec.ofInt k.bits x|||BitVec.ofInt k.bits y).toNat))
 | .xor=>K (.int k (k.wrap (BitVec.ofInt k.bits x^^^BitVec.ofInt k.bits y).toNat))
 | .andNot=>K (.int k (k.wrap (BitVec.ofInt k.bits x&&&~~~ BitVec.ofInt k.bits y).toNat))
 | .eql=>K (.bool (x==y))
 | .neq=>K (.bool (x !=y))
 | .lss=>K (.bool (decide (x<y)))
 | .leq=>K (.bool (decide (x≤y)))
 | .gtr=>K (.bool (decide (x>y)))
 | .geq=>K (.bool (decide (x≥y)))
 |_=>none
def D2 {R:Type}(op:BinOp)(x y:List UInt8)(K:AC→Option R):Option R:=
 match op with
 | .add=>room (x.length+y.length) (K (.str (x++y)))
 | .eql=>K (.bool (x==y))
 | .neq=>K (.bool (!(x==y)))
 | .lss=>K (.bool (Op.bytesLess x y))
 | .leq=>K (.bool (Op.bytesLess x y||x==y))
 | .gtr=>K (.bool (!(Op.bytesLess x y||x==y)))
 | .geq=>K (.bool (!(Op.bytesLess x y)))
 |_=>none
def pX:List AC→List AC→Option Bool
 |[],[]=>some true
 | .int k x::r,.int k' y::r'=>if k=k' then(pX r r').bind λb=>some ((x==y)&&b) else none
 | .bool x::r,.bool y::r'=>(pX r r').bind λb=>some ((x==y)&&b)
 | .str x::r,.str y::r'=>(pX r r').bind λb=>some ((x==y)&&b)
 |_,_=>none
def AD {R:Type}(op:BinOp)(x y:AV)(K:AC→Option R):Option R:=
 match x,y with
 | .val false [.int k a],.val false [.int k' b]=>
   match op with
   | .shl=>if b<0 then none else K (.int k (k.wrap (a*2^(min b.toNat k.bits))))
   | .shr=>if b<0 then none else K (.int k (a.fdiv (2^(min b.toNat k.bits))))
   |_=>if k=k' then Ck op k a b K else none
 | .val false [.str a],.val false [.str b]=>D2 op a b K
 | .val false [.bool a],.val false [.bool b]=>
   match op with
   | .eql=>K (.bool (a==b))
   | .neq=>K (.bool (!(a==b)))
   |_=>none
 | .val true xs,.val true ys=>
   match op with
   | .eql=>aa (pX xs ys) λb=>K (.bool b)
   | .neq=>aa (pX xs ys) λb=>K (.bool (!b))
   |_=>none
 |_,_=>none
def Ya {R:Type}(op:UnOp)(x:AV)(K:AC→Option R):Option R:=
 match op,x with
 | .not,.val false [.bool b]=>K (.bool (!b))
 | .neg,.val false [.int k n]=>K (.int k (k.wrap (0-n)))
 | .xor,.val false [.int k n]=>Ck .xor k (if k.signed then-1 else k.max) n K
 |_,_=>none
def cf (cs:List AC)(off:Nat)(vs:List AC):List AC:=cs.take off++vs++cs.drop (off+vs.length)
def AS.dU (st:AS):gE→Option AC
 | .slot s j=>match st.get s with| .val _ cs=>nth cs j|_=>none
 | .box s j=>((nth st.boxes s).getD none).bind λcs=>nth cs j
 | .io j=>nth st.io j
def AS.dy (st:AS)(r:gE)(c:AC):AS:=
 match r with
 | .slot s j=>match st.get s with| .val g cs=>st.put (some s) (.val g (fD cs j c))|_=>st
 | .box s j=>match (nth st.boxes s).getD none with|some cs=>st.dB s (some (fD cs j c))|none=>st
 | .io j=>{st with io:=fD st.io j c}
def AS.fresh (st:AS):AC→AC
 | .sl (.loc ep (some (r,t))) e xs=>
   bif ep==st.ep then .sl (.loc ep (some (r,t))) e xs else
    match st.dU r with
    |some (.sl (.own (some t')) e' ys)=>if h:e'=e then bif t'==t then .sl (.loc st.ep (some (r,t))) e (h▸ys) else .sl (.loc ep (some (r,t))) e xs else .sl (.loc ep (some (r,t))) e xs
    |_=> .sl (.loc ep (some (r,t))) e xs
 |c=>c
def AV.fresh (st:AS):AV→AV
 | .val g cs=> .val g (cs.map st.fresh)
 | .tup vs=> .tup vs
def AC.now (ep:Nat):AC→Bool
 | .sl (.loc ep' (some _)) _ _=>ep'==ep
 |_=>true
def AS.lq {R:Type}(st:AS)(r:gE)(t:Nat)(e:CT)(i:Int)(off:Nat)(vs:List AC)(K:AS→Option R):Option R:=
 match st.dU r with
 |some (.sl (.own (some t')) e' xs)=>
  if h:e'=e then
   if t'=t then
    aa (idx (h▸xs:List e.D) i) λx=>
     match eV e (cf (cellsOf e (.own none) x) off vs)with
     |some (x',[])=>K {st.dy r (.sl (.own (some t')) e ((h▸xs:List e.D).set i.toNat x'))with ep:=st.ep+1}
     |_=>none
   else none
  else none
 |some (.sl (.holed (some t') i' _) e' xs)=>
  if h:e'=e then
   if t'=t∧i'=i∧off=0 then
    aa (idx (h▸xs:List e.D) i) λ_=>
     match eV e vs with
     |some (x',[])=>K {st.dy r (.sl (.own (some t')) e ((h▸xs:List e.D).set i.toNat x'))with ep:=st.ep+1}
     |_=>none
   else none
  else none
 |_=>none
def AV.cells:AV→List AC
 | .val _ cs=>cs
 | .tup _=>[.bot]
def dm (st:AS):List Operand→List AV×AS
 |[]=>([],st)
 |x::xs=>let (v,st1):=st.take x;let (vs,st2):=dm st1 xs;(v::vs,st2)
def w8 (e:CT):List (List AC)→Option (List e.D)
 |[]=>some []
 |cs::r=>match eV e cs with
  |some (x,[])=>(w8 e r).bind λxs=>some (x::xs)
  |_=>none
def Ci:Nat→List (Nat×Operand)→Bool
 |_,[]=>true
 |n,(i,_)::r=>i==n&&Ci (n+1) r
def AC.CC:AC→Bool
 | .bot=>false
 | .un=>false
 |_=>true
def rN (offs:List (Nat×Nat))(zero:List AC):List (Nat×List AC)→Option (List AC)
 |[]=>some zero
 |(i,cs)::r=>match nth offs i with
  |some (off,n)=>if cs.length=n∧off+n≤zero.length∧cs.all AC.CC then rN offs (cf zero off cs) r else none
  |none=>none
inductive LK where
 |int|bool|str
 deriving DecidableEq
structure Env where
 ty:List (Nat×Shape)
 eqs:List (Nat×List LK):=[]
 fts:List ((Nat×Nat)×Nat):=[]
def Iz (l:List (Nat×List LK))(t:Nat):Option (List LK):=
 match l with
 |[]=>none
 |(u,sh)::r=>bif u==t then some sh else Iz r t
def fits:List LK→List AC→Bool
 |[],[]=>true
 | .int::ls,.int _ _::r=>fits ls r
 | .bool::ls,.bool _::r=>fits ls r
 | .str::ls,.str _::r=>fits ls r
 |_,_=>false
def MS (l:List ((Nat×Nat)×Nat))(S f:Nat):Option Nat:=
 match l with
 |[]=>none
 |((u,k),T)::r=>bif u==S&&k==f then some T else MS r S f
def gK (l:List (Nat×Shape))(t:Nat):Option Shape:=
 match l with
 |[]=>none
 |(u,sh)::r=>bif u==t then some sh else gK r t
def Env.sl (E:Env)(t:Nat):Option CT:=
 match gK E.ty t with
 |some ⟨false,.sl e,_⟩=>some e
 |_=>none
def Env.str (E:Env)(t:Nat):Bool:=
 match gK E.ty t with
 |some ⟨false,.str,_⟩=>true
 |_=>false
def Env.bool (E:Env)(t:Nat):Bool:=
 match gK E.ty t with
 |some ⟨false,.bool,_⟩=>true
 |_=>false
def Env.bytes (E:Env)(t:Nat):Bool:=
 match gK E.ty t with
 |some ⟨false,.sl (.int .u8),[(te,_)]⟩=>match gK E.ty te with|some ⟨false,.int .u8,_⟩=>true|_=>false
 |_=>false
def lK.live (ep:Nat):lK→Bool
 | .loc ep' _=>ep'==ep
 | .arg=>true
 | .own _=>false
 | .nest ..=>false
 | .part ..=>false
 | .holed ..=>false
def lK.Il (ep:Nat)(flat:Bool):lK→Bool
 | .loc ep' _=>ep'==ep&&flat
 | .arg=>flat
 | .own _=>true
 | .nest ..=>false
 | .part ..=>false
 | .holed ..=>false
def lK.bare:lK→lK
 | .loc ep _=> .loc ep none
 |f=>f
def AC.ew:AC→Bool
 | .int _ _=>true
 | .bool _=>true
 | .str _=>true
 | .fn _=>true
 |_=>false
def tm:Operand→List Nat
 | .tmp t=>[t]
 |_=>[]
def Lg (l:List Operand):List Nat:=l.flatMap tm
def CP (an:An)(o:Oper):Bool:=
 match o.dst with
 |some d=>an.mv.contains d&&(an.mb d).isNone
 |none=>false
def ami (an:An)(o:Oper):Bool:=
 match o.dst with
 |some d=>an.nils.contains d
 |none=>false
def u9 (an:An)(o:Oper):Bool:=
 match o.op with
 | .assign (.tmp s)=>an.late.contains s
 | .store _ _ (.tmp s)=>an.late.contains s
 |_=>false
def tmO:Option Operand→List Nat
 |some x=>tm x
 |none=>[]
def cU (o:Oper):List Nat:=
 match o.op with
 | .move x=>tm x
 | .assign x=>tm x
 | .pick c a b=>tm c++tm a++tm b
 | .box _ x=>tm x
 | .load _ p=>tm p
 | .store _ p x=>tm p++tm x
 | .nilCheck x=>tm x
 | .binOp _ _ x y _=>tm x++tm y
 | .unOp _ _ x=>tm x
 | .fieldAddr _ p _=>tm p
 | .indexAddr _ x i=>tm x++tm i
 | .index _ x i=>tm x++tm i
 | .build _ parts=>Lg (parts.toList.map (·.2))
 | .buildSlice _ _ parts=>Lg (parts.toList.map (·.2))
 | .makeSlice _ n c=>tm n++tm c
 | .slice _ x lo hi none=>tm x++tmO lo++tmO hi
 | .convert _ _ x=>tm x
 | .extract (.tmp t) _=>[t]
 | .call {callee:=.builtin _,args,..}=>Lg args.toList
 | .call {callee:=.value f,args,..}=>tm f++Lg args.toList
 |_=>[]
def zW (an:An)(o:Oper):Bool:=
 match o.op with
 | .move _=>match o.dst with|some d=>an.mv.contains d|none=>false
 | .assign _=>true
 | .box ..=>true
 | .build ..=>true
 | .buildSlice ..=>true
 | .store ..=>true
 | .extract ..=>match o.dst with|some d=>an.mv.contains d|none=>false
 | .call {callee:=.builtin .append,..}=>true
 |_=>false
def BK (an:An)(o:Oper):List Nat:=
 match o.op with
 | .alloc _=>o.dst.toList
 | .box ..=>o.dst.toList
 | .load ..=>match o.dst with|some d=>bif an.mv.contains d then(an.mb d).toList else []|none=>[]
 | .store _ (.tmp p) _=>(an.sb p).toList
 |_=>[]
def kb (an:An)(o:Oper):Bool:=
 match o.op with
 | .move _=>true
 | .load ..=>match o.dst with|some d=> !an.mv.contains d||(an.mb d).isSome|none=>false
 | .extract (.tmp _) _=>true
 | .store _ (.tmp p) _=>(an.sb p).isSome&& !u9 an o
 | .assign _=> !u9 an o
 | .pick ..| .alloc _| .box ..| .nilCheck _| .binOp ..| .unOp ..| .fieldAddr ..| .indexAddr ..| .index ..| .build ..| .buildSlice ..| .makeSlice ..| .convert ..=>true
 | .slice _ _ _ _ none=> !CP an o
 | .call {callee:=.builtin .len,..}| .call {callee:=.builtin .min,..}| .call {callee:=.builtin .max,..}| .call {callee:=.builtin .append,..}=>true
 | .call {callee:=.value _,..}=>true
 |_=>false
def writes (an:An)(o:Oper):List Nat:=o.dst.toList++(bif zW an o then cU o else [])
def AV.now (ep:Nat):AV→Bool
 | .val _ cs=>cs.all (AC.now ep)
 | .tup _=>true
def AC.ib:AC→Bool
 | .int ..=>true
 | .bool _=>true
 | .str _=>true
 | .fn _=>true
 | .ptr ..=>true
 |_=>false
def AV.ib:AV→Bool
 | .val _ cs=>cs.all AC.ib
 | .tup _=>false
def zl (E:Env)(T:TypeId)(st:AS)(s off:Nat):Bool:=
 match gK E.ty T,(nth st.boxes s).getD none with
 |some sh,some cs=>((cs.drop off).take sh.ct.size).all AC.ib
 |_,_=>false
def Ut (an:An)(o:Oper):Bool:=match o.dst with|some d=>an.fm.contains d|none=>false
def zV (an:An)(o:Oper):Bool:=
 match o.op,o.dst,o.guard with
 | .load _ (.tmp _),some d,none=>an.mv.contains d&&(an.mb d).isSome
 |_,_,_=>false
def Ga (an:An)(o:Oper):Bool:=
 match o.op,o.dst,o.guard with
 | .load _ (.tmp _),some d,none=> !an.mv.contains d&&an.fm.contains d
 |_,_,_=>false
def erS (an:An)(o:Oper):List Nat:=
 match o.op,o.dst with
 | .load ..,some d=>(an.er d).toList
 |_,_=>[]
def c9 (E:Env)(an:An)(X:List Nat)(o:Oper)(st:AS):Bool:=
 match o.op with
 | .move x=> !Ut an o||(st.rd x).ib
 | .indexAddr _ x _=>(st.rd x).now st.ep||(match st.rd x with| .val _ [.sl (.loc _ (some (.box b _,_))) _ _]=> !X.contains b|_=>false)
 | .slice _ x _ _ none=>(st.rd x).now st.ep
 | .call {callee:=.value _,args,..}=>args.toList.all λx=>(st.rd x).now st.ep
 | .load T p=>match st.rd p with
   | .val false [.ptr s off]=> !X.contains s&&(match o.dst with|some d=> !an.mv.contains d||an.mb d==some s|none=>true)&&(!Ut an o||zl E T st s off)
   | .val false [.elt fl _ _ _ _]=>(fl.live st.ep||(match fl with
     | .loc _ (some (.slot b _,_))=>(erS an o).contains b
     | .loc _ (some (.box b _,_))=> !X.contains b
     |_=>false))&& !(Ut an o||zV an o)
   |_=> !(Ut an o||zV an o)
 | .store _ (.tmp p) _=>((an.sb p).isNone&&(an.eb p).isNone&&(an.es p).isNone)||(match st.rd (.tmp p)with
   | .val false [.ptr s _]=> !X.contains s&&an.sb p==some s
   | .val false [.elt (.loc _ (some (.box b _,_))) _ _ _ _]=>an.eb p==some b&&(an.sb p).isNone&&(an.es p).isNone
   | .val false [.elt (.loc _ (some (.slot b _,_))) _ _ _ _]=>an.es p==some b&&(an.sb p).isNone&&(an.eb p).isNone
   |_=>false)
 | .extract (.tmp t) i=>match st.get t with
   | .tup vs=>match nth vs i with|some x=>x.2.all AC.ew||(match o.dst with|some d=>an.mv.contains d|none=>false)|none=>true
   |_=>true
 |_=>true
def zo (an:An)(ops:List Oper)(o:Oper):List Nat:=
 (match o.guard with
 |some (j,_)=>((nth ops j).bind (·.dst)).toList
 |none=>[])++erS an o
def meets (a b:List Nat):Bool:=a.any λx=>b.contains x
def Ot (an:An)(ops:List Oper)(X Y:List Nat)(o p:Oper):Bool:=
 kb an o&&kb an p&& !meets (writes an o) (cU p++zo an ops p++writes an p)&& !meets (writes an p) (cU o++zo an ops o)&&
 (BK an o).all (λd=>Y.contains d)&&(BK an p).all (λd=>X.contains d)&& !meets (BK an o) (p.dst.toList++BK an p)&& !meets (BK an p) o.dst.toList
def OQ (o p:Oper):Bool:=
 match o.op,p.op,o.dst,p.dst,o.guard,p.guard with
 | .extract (.tmp t) i,.extract (.tmp t') j,some d,some d',none,none=>t==t'&& !(i==j)&& !(d==d')&& !(d==t)&& !(d'==t)
 |_,_,_,_,_,_=>false
def OH (an:An)(o p:Oper):Bool:=
 match p.op,p.dst,p.guard with
 | .store _ (.tmp q) (.tmp x),none,none=>((an.eb q).isSome&&(an.es q).isNone||(match an.es q with|some b=>(an.eb q).isNone&& !(b==x)&& !(b==q)&& !meets [b] (o.dst.toList++cU o)|none=>false))&&(an.sb q).isNone&& !u9 an p&&(match o.op,o.dst,o.guard with
   | .move (.tmp t),some d,none=> !an.mv.contains d&&an.fm.contains d&& !(d==q)&& !(d==x)&& !(t==x)&& !(t==q)&& !(d==t)
   | .extract (.tmp t) _,some d,none=> !(d==q)&& !(d==x)&& !(t==x)&& !(t==q)&& !(d==t)
   |_,_,_=>false)
 |_,_,_=>false
def Pp (an:An)(o p:Oper):Bool:=
 (zV an o&&Ga an p||Ga an o&&zV an p)&& !meets o.dst.toList (p.dst.toList++cU p)&& !meets p.dst.toList (cU o)
def VE (an:An)(o p:Oper):Bool:=OQ o p||OH an o p||Pp an o p
def EI (an:An)(ops:List Oper)(X Y:List Nat)(o p:Oper):Bool:=VE an o p||Ot an ops X Y o p
def wu (o:Oper):List Nat:=(o.after.toList.filter (λe=>Region.binds .any e)).map (·.on)
def Lj (a b:List Nat):List Nat:=a.foldl (λs x=>bif s.contains x then s else x::s) b
def Lu:List Oper→List (List Nat)→List (List Nat)
 |[],acc=>acc
 |o::r,acc=>Lu r (acc++[(wu o).foldl (λs j=>Lj (j::(nth acc j).getD []) s) []])
def S6 (A:List (List Nat))(i k:Nat):Bool:=((nth A i).getD []).contains k
def Qs (an:An)(A:List (List Nat))(i:Nat)(fl:Bool):Nat→List Oper→List Nat
 |_,[]=>[]
 |k,o::r=>(bif !S6 A i k&& !S6 A k i&& !(k==i)&& !(fl&&zV an o) then BK an o else [])++Qs an A i fl (k+1) r
def nX (an:An)(A:List (List Nat))(i k:Nat)(ops:List Oper):List Nat:=Qs an A i (match nth ops i with|some o=>Ga an o|none=>false) k ops
def GI (an:An)(ops:List Oper)(A:List (List Nat))(i:Nat)(oi:Oper):Nat→List Oper→Bool
 |_,[]=>true
 |j,oj::r=>bif Nat.ble i j then true else(S6 A i j||EI an ops (nX an A j 0 ops) (nX an A i 0 ops) oj oi)&&GI an ops A i oi (j+1) r
def KJ (an:An)(ops:List Oper)(A:List (List Nat)):Nat→List Oper→Bool
 |_,[]=>true
 |i,oi::r=>(wu oi).all (λk=>Nat.blt k i)&&GI an ops A i oi 0 ops&&KJ an ops A (i+1) r
def Mb (an:An)(ops:List Oper):Bool:=KJ an ops (Lu ops []) 0 ops
inductive Ex where
 |normal|ret|exit (id:Nat)
inductive FK where
 |own (tag:Option Nat)|arg|loc|lio (j t:Nat)|nil
def FK.flag:FK→lK
 | .own t=> .own t
 | .arg=> .arg
 | .loc=> .loc 0 none
 | .lio j t=> .loc 0 (some (.io j,t))
 | .nil=> .arg
def FK.isNil:FK→Bool
 | .nil=>true
 |_=>false
inductive FT where
 |int (k:IntKind)|bool|str|sl (fl:FK) (e:CT)|pair (a b:FT)
abbrev FT.ct:FT→CT
 | .int k=> .int k
 | .bool=> .bool
 | .str=> .str
 | .sl _ e=> .sl e
 | .pair a b=> .pair a.ct b.ct
def tB:(t:FT)→t.ct.D→List AC
 | .int k,n=>[.int k n]
 | .bool,b=>[.bool b]
 | .str,s=>[.str s]
 | .sl fl e,xs=>[bif fl.isNil then .nilsl else .sl fl.flag e xs]
 | .pair a b,x=>tB a x.1++tB b x.2
def FK.fits:FK→lK→Bool
 | .own t,.own t'=>t==t'
 | .arg,.arg=>true
 | .loc,.loc 0 none=>true
 | .lio j t,.loc 0 (some (.io j',t'))=>j==j'&&t==t'
 |_,_=>false
def KG:(t:FT)→List AC→Option (t.ct.D×List AC)
 | .int k,.int k' n::r=>if k'=k then some (n,r) else none
 | .bool,.bool b::r=>some (b,r)
 | .str,.str s::r=>some (s,r)
 | .sl fl e,.sl fl' e' xs::r=>if h:e'=e then bif fl.fits fl' then some (h▸xs,r) else none else none
 | .sl fl _,.nilsl::r=>bif fl.isNil then some ([],r) else none
 | .pair a b,cs=>(KG a cs).bind λx=>(KG b x.2).bind λy=>some ((x.1,y.1),y.2)
 |_,_=>none
inductive PD where
 |bot|ptr (s off:Nat)|fn (f:Nat)|data (g:Bool) (t:FT)
inductive IoD where
 |none|some (t:FT)|ptr
structure SD where
 slots:List PD
 boxes:List (Option FT)
 io:IoD:=.none
abbrev DA:List PD→Type
 |[]=>Unit
 | .data _ t::r=>t.ct.D×DA r
 |_::r=>DA r
abbrev C0:List (Option FT)→Type
 |[]=>Unit
 |some t::r=>t.ct.D×C0 r
 |none::r=>C0 r
abbrev ioD:IoD→Type
 | .none=>Unit
 | .some t=>t.ct.D
 | .ptr=>Unit
abbrev SD.D (d:SD):Type:=DA d.slots×C0 d.boxes×ioD d.io
def n0:(l:List PD)→DA l→List AV
 |[],_=>[]
 | .data g t::r,x=> .val g (tB t x.1)::n0 r x.2
 | .bot::r,x=> .bot::n0 r x
 | .ptr s off::r,x=> .one (.ptr s off)::n0 r x
 | .fn f::r,x=> .one (.fn f)::n0 r x
def wV:(l:List (Option FT))→C0 l→List (Option (List AC))
 |[],_=>[]
 |some t::r,x=>some (tB t x.1)::wV r x.2
 |none::r,x=>none::wV r x
def T7:(o:IoD)→ioD o→List AC
 | .none,_=>[]
 | .some t,x=>tB t x
 | .ptr,_=>[.ptr 0 0]
def SD.enc (d:SD)(x:d.D):AS:=⟨n0 d.slots x.1,wV d.boxes x.2.1,0,List.replicate d.slots.length false,T7 d.io x.2.2⟩
def AV.Ri:AV→Bool
 | .val false [.bot]=>true
 |_=>false
def AV.Rj (s off:Nat):AV→Bool
 | .val false [.ptr s' off']=>s==s'&&off==off'
 |_=>false
def AV.SH (f:Nat):AV→Bool
 | .val false [.fn f']=>f==f'
 |_=>false
def gH:(l:List PD)→List AV→Option (DA l)
 |[],[]=>some ()
 | .data g t::r,.val g' cs::vs=>bif g==g' then(match KG t cs with|some (x,[])=>(gH r vs).bind λy=>some (x,y)|_=>none) else none
 | .bot::r,v::vs=>bif v.Ri then gH r vs else none
 | .ptr s off::r,v::vs=>bif v.Rj s off then gH r vs else none
 | .fn f::r,v::vs=>bif v.SH f then gH r vs else none
 |_,_=>none
def mj:(l:List (Option FT))→List (Option (List AC))→Option (C0 l)
 |[],[]=>some ()
 |some t::r,some cs::bs=>match KG t cs with|some (x,[])=>(mj r bs).bind λy=>some (x,y)|_=>none
 |none::r,none::bs=>mj r bs
 |_,_=>none
def Pk:List AC→Bool
 |[.ptr 0 0]=>true
 |_=>false
def Ma:(o:IoD)→List AC→Option (ioD o)
 | .none,[]=>some ()
 | .some t,cs=>match KG t cs with|some (x,[])=>some x|_=>none
 | .ptr,cs=>bif Pk cs then some () else none
 |_,_=>none
def SD.dec (d:SD)(st:AS):Option d.D:=
 bif st.ep==0&&st.iss==List.replicate d.slots.length false then
  (gH d.slots st.slots).bind λx=>(mj d.boxes st.boxes).bind λy=>(Ma d.io st.io).bind λz=>some (x,y,z)
 else none
structure bG where
 sd:SD
 run:{R:Type}→sd.D→(Ex→AS→Option R)→Option R
abbrev bP:=Nat→bG
def bG.go {R:Type}(l:bG)(st:AS)(K:Ex→AS→Option R):Option R:=aa (l.sd.dec st) λx=>l.run x K
def bG.none:bG:=⟨⟨[],[],.none⟩,λ_ _=>Option.none⟩
def bP.nil:bP:=λ_=>bG.none
def bP.add (Λ:bP)(k:Nat)(l:bG):bP:=λj=>bif j==k then l else Λ j
section
variable {R:Type} (E:Env) (Γ:bH) (an:An)
def xb (o:Oper)(x:Operand)(st:AS)(K:AS→Option R):Option R:=
 match o.dst with
 |some d=>if an.mv.contains d then K ((st.take x).2.put o.dst (st.take x).1) else K (st.put o.dst (st.rd x))
 |none=>none
def pS (o:Oper)(x:Operand)(st:AS)(K:AS→Option R):Option R:=
 match st.take x with
 |(.val false [.nilsl],_)=>match E.sl o.type with
  |some e=>K (st.put o.dst (.one (bif ami an o then .nilsl else .sl (.own none) e [])))
  |none=>none
 |(v,st')=>K (st'.put o.dst v)
def zH (o:Oper)(c a b:Operand)(st:AS)(K:AS→Option R):Option R:=
 match st.rd c with
 | .val false [.bool t]=>match st.rd a,st.rd b with
   | .val false [.bool x],.val false [.bool y]=>K (st.put o.dst (.one (.bool (cond t x y))))
   |va,vb=>cond t (K (st.put o.dst va)) (K (st.put o.dst vb))
 |_=>none
def xr (o:Oper)(T:TypeId)(st:AS)(K:AS→Option R):Option R:=
 match o.dst,gK E.ty T with
 |some d,some sh=>match nth st.boxes d with
  |some none=>K ((st.dB d (some (cellsOf sh.ct (.own none) sh.ct.zero))).put o.dst (.one (.ptr d 0)))
  |_=>none
 |_,_=>none
def Jj (o:Oper)(x:Operand)(st:AS)(K:AS→Option R):Option R:=
 match o.dst,st.take x with
 |some d,(.val _ cs,st')=>
  match nth st'.boxes d with
  |some none=>if cs.all AC.CC then K ((st'.dB d (some cs)).put o.dst (.one (.ptr d 0))) else none
  |_=>none
 |_,_=>none
def KC (ep:Nat)(r:gE)(t:Nat)(e:CT)(i:Int):Nat→List AC→List AC
 |_,[]=>[]
 |p,.sl _ e' xs::cs=> .sl (.nest ep r t e i p) e' xs::KC ep r t e i (p+1) cs
 |p,c::cs=>c::KC ep r t e i (p+1) cs
def Vr (o:Oper)(ep:Nat)(fl:lK)(e:CT)(i:Int)(off:Nat)(cs:List AC):List AC:=
 match fl,o.dst with
 | .loc _ (some (r,t)),some d=>bif an.nest.contains d then KC ep r t e i off cs else cs
 |_,_=>cs
def yt (o:Oper)(sh:Shape)(fl:lK)(e:CT)(i:Int)(off:Nat)(st:AS)(K:AS→Option R):Option R:=
 match fl with
 | .loc _ (some (r,t))=>
   match st.dU r with
   |some (.sl (.own (some t')) e' ys)=>
    if h:e'=e then
     if t'=t∧off+sh.ct.size≤e.size then
      aa (idx (h▸ys:List e.D) i) λy=>K (st.put o.dst (.val sh.agg (((cellsOf e (.loc st.ep none) y).drop off).take sh.ct.size)))
     else none
    else none
   |_=>none
 |_=>none
def xm (o:Oper)(sh:Shape)(fl:lK)(e:CT)(i:Int)(off:Nat)(st:AS)(K:AS→Option R):Option R:=
 match fl with
 | .loc _ (some (r,t))=>
   match st.dU r with
   |some (.sl (.own (some t')) e' ys)=>
    if h:e'=e then
     if t'=t∧off=0∧sh.ct=e then
      aa (idx (h▸ys:List e.D) i) λy=>K ((st.dy r (.sl (.holed (some t) i (some st.ep)) e (h▸ys))).put o.dst (.val sh.agg (cellsOf e (.own none) y)))
     else none
    else none
   |_=>none
 |_=>none
def qZ (o:Oper)(T:TypeId)(p:Operand)(st:AS)(K:AS→Option R):Option R:=
 match gK E.ty T,st.rd p with
 |some sh,.val false [.ptr s off]=>
  match (nth st.boxes s).getD none with
  |some cs=>
   if off+sh.ct.size≤cs.length then
    match o.dst with
    |some d=>
     if an.mv.contains d then
      K ((st.dB s (some (cf cs off (aN st.ep ((cs.drop off).take sh.ct.size))))).put o.dst (.val sh.agg ((cs.drop off).take sh.ct.size)))
     else K (st.put o.dst (.val sh.agg (pT st.ep (.box s) off ((cs.drop off).take sh.ct.size))))
    |none=>none
   else none
  |none=>none
 |some sh,.val false [.elt fl e x i off]=>
  if CP an o then xm o sh fl e i off st K
  else if fl.live st.ep then
   if off+sh.ct.size≤e.size then K (st.put o.dst (.val sh.agg (Vr an o st.ep fl e i off (((cellsOf e fl.bare x).drop off).take sh.ct.size)))) else none
  else yt o sh fl e i off st K
 |_,_=>none
def rX (T:TypeId)(p x:Operand)(st:AS)(K:AS→Option R):Option R:=
 match gK E.ty T,st.rd p with
 |some sh,.val false [.ptr s off]=>
  match st.take x with
  |(.val _ vs,st')=>
   match (nth st'.boxes s).getD none with
   |some cs=>
    if vs.length=sh.ct.size∧vs.all AC.CC then
     if off+sh.ct.size≤cs.length then K (st'.dB s (some (cf cs off vs))) else none
    else none
   |none=>none
  |_=>none
 |some sh,.val false [.elt (.loc _ (some (r,t))) e _ i off]=>
  match st.take x with
  |(.val _ vs,st')=>
   if vs.length=sh.ct.size∧off+sh.ct.size≤e.size then st'.lq r t e i off vs K else none
  |_=>none
 |_,_=>none
def uW (o:Oper)(S:TypeId)(p:Operand)(f:Nat)(st:AS)(K:AS→Option R):Option R:=
 match gK E.ty S,st.rd p with
 |some ⟨true,_,offs⟩,.val false [.ptr s off]=>match nth offs f with|some (fo,_)=>K (st.put o.dst (.one (.ptr s (off+fo))))|none=>none
 |some ⟨true,_,offs⟩,.val false [.elt fl e x i off]=>match nth offs f with|some (fo,_)=>K (st.put o.dst (.one (.elt fl e x i (off+fo))))|none=>none
 |_,_=>none
def jb (o:Oper)(T:TypeId)(x i:Operand)(st:AS)(K:AS→Option R):Option R:=
 match E.sl T,(st.rd x).fresh st,st.rd i with
 |some e',.val false [.sl fl e xs],.val false [.int _ n]=>
  if e'=e∧fl.live st.ep then aa (idx xs n) λy=>K (st.put o.dst (.one (.elt fl e y n 0))) else none
 |_,_,_=>none
def wH (o:Oper)(T:TypeId)(x i:Operand)(st:AS)(K:AS→Option R):Option R:=
 match st.rd x,st.rd i with
 | .val false [.str s],.val false [.int _ n]=>if E.str T then aa (idx s n) λb=>K (st.put o.dst (.one (.int .u8 b.toNat))) else none
 |_,_=>none
def wC (o:Oper)(T:TypeId)(parts:List (Nat×Operand))(st:AS)(K:AS→Option R):Option R:=
 match gK E.ty T with
 |some ⟨true,ct,offs⟩=>
  match dm st (parts.map (·.2))with
  |(vs,st')=>
   match rN offs (cellsOf ct (.own none) ct.zero) ((parts.map (·.1)).zip (vs.map AV.cells))with
   |some cs=>K (st'.put o.dst (.val true cs))
   |none=>none
 |_=>none
def ix (o:Oper)(T:TypeId)(len:Nat)(parts:List (Nat×Operand))(st:AS)(K:AS→Option R):Option R:=
 match E.sl T with
 |some e=>
  if parts.length=len∧Ci 0 parts∧len≤1000 then
   match dm st (parts.map (·.2))with
   |(vs,st')=>
    match w8 e (vs.map AV.cells)with
    |some xs=>K (st'.lL o.dst e xs)
    |none=>none
  else none
 |none=>none
def kN (o:Oper)(T:TypeId)(n c:Operand)(st:AS)(K:AS→Option R):Option R:=
 match E.sl T,st.rd n,st.rd c with
 |some e,.val false [.int .i64 len],.val false [.int .i64 cap]=>
  if 0≤len∧len≤cap then room cap.toNat (K (st.lL o.dst e (List.replicate len.toNat e.zero))) else none
 |_,_,_=>none
def jm (st:AS)(lo hi:Option Operand)(n:Nat)(K:Int→Int→Option R):Option R:=
 match lo.map st.rd,hi.map st.rd with
 |none,none=>K 0 n
 |some (.val false [.int _ a]),none=>K a n
 |none,some (.val false [.int _ b])=>K 0 b
 |some (.val false [.int _ a]),some (.val false [.int _ b])=>K a b
 |_,_=>none
def rR (o:Oper)(T:TypeId)(x:Operand)(lo hi:Option Operand)(st:AS)(K:AS→Option R):Option R:=
 match st.take x,lo.map st.rd,hi with
 |(.val false [.sl (.own _) e xs],st'),some (.val false [.int _ a]),none=>
  if E.sl T=some e then aa (sub xs a xs.length) λxs'=>K (st'.lL o.dst e xs') else none
 |_,_,_=>none
def GJ (o:Oper)(fl:lK)(a:Int):lK:=
 match fl,o.dst with
 | .loc ep (some (r,t)),some d=>bif an.nest.contains d then .part ep r t a else .loc ep none
 |fl,_=>fl.bare
def vE (o:Oper)(T:TypeId)(x:Operand)(lo hi:Option Operand)(st:AS)(K:AS→Option R):Option R:=
 if CP an o then rR E o T x lo hi st K else
 match (st.rd x).fresh st with
 | .val false [.str s]=>if E.str T then jm st lo hi s.length λa b=>aa (sub s a b) λs'=>K (st.put o.dst (.one (.str s'))) else none
 | .val false [.sl fl e xs]=>
   if E.sl T=some e∧fl.live st.ep then jm st lo hi xs.length λa b=>aa (sub xs a b) λxs'=>K (st.put o.dst (.one (.sl (GJ an o fl a) e xs'))) else none
 |_=>none
def iC (o:Oper)(src dst:TypeId)(x:Operand)(st:AS)(K:AS→Option R):Option R:=
 match gK E.ty src,gK E.ty dst,st.rd x with
 |some _,some ⟨false,.int k,_⟩,.val false [.int _ n]=>K (st.put o.dst (.one (.int k (k.wrap n))))
 |some ⟨false,.str,_⟩,some ⟨false,.str,_⟩,.val false [.str s]=>K (st.put o.dst (.one (.str s)))
 |some ⟨false,.str,_⟩,some _,.val false [.str s]=>
  if E.bytes dst then room s.length (K (st.lL o.dst (.int .u8) (ch s))) else none
 |some _,some ⟨false,.str,_⟩,.val false [.sl fl (.int .u8) xs]=>
  if E.bytes src∧fl.live st.ep then K (st.put o.dst (.one (.str (bytesOf xs)))) else none
 |_,_,_=>none
def iD (o:Oper)(t i:Nat)(st:AS)(K:AS→Option R):Option R:=
 match st.get t with
 | .tup vs=>match nth vs i with
   |some (g,cs)=>K ((st.put (some t) (.tup (fD vs i (g,aN 0 cs)))).put o.dst (.val g cs))
   |none=>none
 |_=>none
def Gw (o:Oper)(ts:List TypeId)(args:List Operand)(st:AS)(K:AS→Option R):Option R:=
 match ts,args.map st.rd with
 |[t],[.val false [.str s]]=>if E.str t then K (st.put o.dst (.one (.int .i64 s.length))) else none
 |[t],[.val false [.sl _ _ xs]]=>if(E.sl t).isSome then K (st.put o.dst (.one (.int .i64 xs.length))) else none
 |_,_=>none
def HJ (o:Oper)(args:List Operand)(st:AS)(K:AS→Option R):Option R:=
 match args.map st.rd with
 |[.val false [.int k x],.val false [.int _ y]]=>K (st.put o.dst (.one (.int k (if y<x then y else x))))
 |_=>none
def HI (o:Oper)(args:List Operand)(st:AS)(K:AS→Option R):Option R:=
 match args.map st.rd with
 |[.val false [.int k x],.val false [.int _ y]]=>K (st.put o.dst (.one (.int k (if y>x then y else x))))
 |_=>none
def H8 (o:Oper)(ts:List TypeId)(args:List Operand)(st:AS)(K:AS→Option R):Option R:=
 match ts,args.map st.rd with
 |[t,t'],[.val false [.sl (.part ep r tg lo) e xs],.val false [.str s]]=>
  match st.dU r with
  |some (.sl (.own (some tg')) e' ys)=>
   if h:e'=.int .u8 then
    if e=.int .u8∧E.sl t=some (.int .u8)∧E.str t'=true∧ep=st.ep∧tg'=tg then
     K ({st.dy r (.sl (.own (some tg)) (.int .u8) (xc (h▸ys:List (CT.int .u8).D) lo.toNat (ch (s.take xs.length))))with ep:=st.ep+1}.put o.dst (.one (.int .i64 (min xs.length s.length:Nat))))
    else none
   else none
  |_=>none
 |_,_=>none
def Ad (o:Oper)(S:TypeId)(t f:Nat)(st:AS)(K:AS→Option R):Option R:=
 match gK E.ty S,st.get t,MS E.fts S f with
 |some ⟨true,ct,offs⟩,.val true cs,some T=>
  match nth offs f,gK E.ty T with
  |some (fo,n),some sh=>
   if n=sh.ct.size∧cs.length=ct.size∧fo+n≤cs.length then
    K ((st.put (some t) (.val true (cf cs fo (aN st.ep ((cs.drop fo).take n))))).put o.dst (.val sh.agg ((cs.drop fo).take n)))
   else none
  |_,_=>none
 |_,_,_=>none
def sa (o:Oper)(ts:List TypeId)(args:List Operand)(st:AS)(K:AS→Option R):Option R:=
 match ts,args with
 |[t,t'],[s,x]=>
  match st.take s with
  |(.val false [.sl (.own _) e xs],st1)=>
   match st1.take x with
   |(.val false [.sl fl e' ys],st2)=>
    if h:e'=e then
     if E.sl t=some e∧E.sl t'=some e∧fl.Il st.ep e.flat then
      room (xs.length+ys.length) (K (st2.lL o.dst e (xs++(h▸ys:List e.D))))
     else none
    else none
   |(.val false [.str s],st2)=>
    if h:e=.int .u8 then
     if E.sl t=some e∧E.str t' then room (xs.length+s.length) (K (st2.lL o.dst (.int .u8) ((h▸xs:List (CT.int .u8).D)++ch s))) else none
    else none
   |_=>none
  |_=>none
 |_,_=>none
def C6:Nat→List AC→Option (gE×Nat)
 |_,[]=>none
 |j,.sl (.loc _ (some (r,_))) _ _::_=>some (r,j)
 |j,_::cs=>C6 (j+1) cs
def gE.pos:gE→Nat
 | .slot _ j=>j
 | .box _ j=>j
 | .io j=>j
def AS.oy (st:AS):gE→Option (List AC)
 | .slot s _=>match st.get s with| .val _ cs=>some cs|_=>none
 | .box s _=>(nth st.boxes s).getD none
 | .io _=>some st.io
def AS.lN (st:AS)(r:gE)(cs:List AC):AS:=
 match r with
 | .slot s _=>match st.get s with| .val g _=>st.put (some s) (.val g cs)|_=>st
 | .box s _=>st.dB s (some cs)
 | .io _=>{st with io:=cs}
def je:List AC→List AC→Option (List AC)
 |[],[]=>some []
 | .sl (.loc _ (some (_,t))) _ _::os,.sl (.own (some t')) e xs::ss=>bif t'==t then(je os ss).bind λr=>some (.sl (.own none) e xs::r) else none
 | .int k n::os,.int _ _::ss=>(je os ss).bind λr=>some (.int k n::r)
 | .bool b::os,.bool _::ss=>(je os ss).bind λr=>some (.bool b::r)
 | .str x::os,.str _::ss=>(je os ss).bind λr=>some (.str x::r)
 |_,_=>none
def wx:List AC→List AC→List AC→Option (List AC)
 |[],[],[]=>some []
 | .sl (.loc _ (some (_,t'))) _ _::os,.sl (.own (some t)) _ _::ss,.sl (.own _) e ys::bs=>bif t==t' then(wx os ss bs).bind λr=>some (.sl (.own (some t)) e ys::r) else none
 | .int _ _::os,.int k n::ss,.int _ _::bs=>(wx os ss bs).bind λr=>some (.int k n::r)
 | .bool _::os,.bool b::ss,.bool _::bs=>(wx os ss bs).bind λr=>some (.bool b::r)
 | .str _::os,.str x::ss,.str _::bs=>(wx os ss bs).bind λr=>some (.str x::r)
 |_,_,_=>none
def AV.ew:AV→Bool
 | .val _ cs=>cs.all AC.ew
 | .tup vs=>vs.all λx=>x.2.all AC.ew
def Jm (st:AS)(x:Operand):Option (AV×AS):=
 match st.rd x with
 | .val g cs=>
   match C6 0 cs with
   |some (r,j)=>
    match st.oy r with
    |some csO=>
     match je cs ((csO.drop (r.pos-j)).take cs.length)with
     |some cs'=>some (.val g cs',st.lN r (cf csO (r.pos-j) (aN st.ep ((csO.drop (r.pos-j)).take cs.length))))
     |none=>none
    |none=>none
   |none=>none
 |_=>none
def Iw (o:Oper)(x:Operand)(st:AS)(K:AS→Option R):Option R:=
 match Jm st x with
 |some (v,st')=>K (st'.put o.dst v)
 |none=>none
def rY (T:TypeId)(p x:Operand)(st:AS)(K:AS→Option R):Option R:=
 match gK E.ty T,st.rd p with
 |some sh,.val false [.ptr s off]=>
  match Jm st x with
  |some (.val _ vs,st')=>
   match (nth st'.boxes s).getD none with
   |some cs=>
    if vs.length=sh.ct.size∧vs.all AC.CC then
     if off+sh.ct.size≤cs.length then K (st'.dB s (some (cf cs off vs))) else none
    else none
   |none=>none
  |_=>none
 |_,_=>none
def IE (o:Oper)(f:Nat)(g:Bool)(cs:List AC)(xs:List Operand)(st:AS)(K:AS→Option R):Option R:=
 match cs with
 |[.sl (.nest ep r t en i off) _ _]=>
  match st.oy r with
  |some csO=>
   match (csO.drop r.pos).take 1 with
   |[.sl (.own (some t')) e ys]=>
    bif (ep==st.ep)&&(t'==t)&&(en.size==e.size)&&xs.all (λx=>(st.rd x).ew) then
     aa (idx ys i) λx=>
      match ((cellsOf e (.own none) x).drop off).take 1 with
      |[.sl (.own _) e2 zs]=>
       aa ((Γ f).fn (.val g [.sl (.own none) e2 zs]::xs.map st.rd)) λy=>
        match (Γ f).back y with
        |[.sl (.own _) e3 zs']=>
         match eV e (cf (cellsOf e (.own none) x) off [.sl (.own none) e3 zs'])with
         |some (x',[])=>bif ((Γ f).av y).ew then K ({st.lN r (cf csO r.pos [.sl (.own (some t)) e (ys.set i.toNat x')])with ep:=st.ep+1}.put o.dst ((Γ f).av y)) else none
         |_=>none
        |_=>none
      |_=>none
    else none
   |_=>none
  |none=>none
 |_=>none
def ioC (o:Oper)(f:Nat)(args:List Operand)(st:AS)(K:AS→Option R):Option R:=
 match args with
 |x0::xs=>
  match st.rd x0 with
  | .val g cs=>
    match C6 0 cs with
    |some (r,j)=>
     match st.oy r with
     |some csO=>
      match je cs ((csO.drop (r.pos-j)).take cs.length)with
      |some cs'=>
       bif xs.all (λx=>(st.rd x).ew) then
        aa ((Γ f).fn (.val g cs'::xs.map st.rd)) λy=>
         match wx cs ((csO.drop (r.pos-j)).take cs.length) ((Γ f).back y)with
         |some seg=>bif ((Γ f).av y).ew then K ({st.lN r (cf csO (r.pos-j) seg)with ep:=st.ep+1}.put o.dst ((Γ f).av y)) else none
         |none=>none
       else none
      |none=>none
     |none=>none
    |none=>IE Γ o f g cs xs st K
  |_=>none
 |[]=>none
def AC.strip:AC→AC
 | .sl (.own _) e xs=> .sl (.own none) e xs
 | .sl (.loc _ _) _ _=> .bot
 | .sl (.nest ..) _ _=> .bot
 | .sl (.part ..) _ _=> .bot
 | .sl (.holed _ i _) e xs=> .sl (.holed none i none) e xs
 | .ptr _ _=> .bot
 | .elt _ _ _ _ _=> .bot
 |c=>c
def AC.Bv:AC→Bool
 | .sl (.own _) _ _=>true
 |c=>c.ew
def wS (o:Oper)(f:Nat)(args:List Operand)(st:AS)(K:AS→Option R):Option R:=
 match args with
 |x0::xs=>
  match st.rd x0 with
  | .val false [.ptr s 0]=>
    match (nth st.boxes s).getD none with
    |some cs=>
     bif cs.all AC.Bv&&xs.all (λx=>(st.rd x).ew) then
      aa ((Γ f).fn (.val true (cs.map AC.strip)::xs.map st.rd)) λy=>
       bif ((Γ f).back y).all AC.Bv&&((Γ f).av y).ew then
        K ({(st.dB s (some (vC (st.ep+1) (st.hY (some s)) 0 ((Γ f).back y)))).eh (some s)with ep:=st.ep+1}.put o.dst ((Γ f).av y))
       else none
     else none
    |none=>none
  |_=>none
 |[]=>none
def zd (o:Oper)(f:Operand)(args:List Operand)(st:AS)(K:AS→Option R):Option R:=
 match st.rd f with
 | .val false [.fn f]=>
   bif (Γ f).bx then wS Γ o f args st K else
   bif (Γ f).io then ioC Γ o f args st K
   else aa ((Γ f).fn (args.map λx=>((st.rd x).fresh st).asArg st.ep)) λr=>cond ((Γ f).sel r) (K ((st.eh o.dst).put o.dst (((Γ f).av r).EJ st.ep (st.hY o.dst)))) (K ((st.eh o.dst).put o.dst (((Γ f).alt r).EJ st.ep (st.hY o.dst))))
 |_=>none
def yD {R:Type}(op:BinOp)(b:Bool)(K:AC→Option R):Option R:=
 match op with
 | .eql=>K (.bool b)
 | .neq=>K (.bool (!b))
 |_=>none
def vM (o:Oper)(op:BinOp)(T:TypeId)(x y:Operand)(st:AS)(K:AS→Option R):Option R:=
 match st.rd x,st.rd y with
 | .val false [.bool a],.val false [.bool b]=>if E.bool T then AD op (.one (.bool a)) (.one (.bool b)) λc=>K (st.put o.dst (.one c)) else none
 | .val true xs,.val true ys=>match Iz E.eqs T with
   |some ls=>if fits ls xs then AD op (.val true xs) (.val true ys) λc=>K (st.put o.dst (.one c)) else none
   |none=>none
 | .val false [.sl fl _ xs],.val false [.nilsl]=>if(E.sl T).isSome∧fl.live st.ep then(if xs.length=0 then none else yD op false λc=>K (st.put o.dst (.one c))) else none
 | .val false [.nilsl],.val false [.nilsl]=>if(E.sl T).isSome then yD op true λc=>K (st.put o.dst (.one c)) else none
 |a,b=>AD op a b λc=>K (st.put o.dst (.one c))
def cj (o:Oper)(st:AS)(K:AS→Option R):Option R:=
 match o.op with
 | .move x=>xb an o x st K
 | .assign x=>if u9 an o then Iw o x st K else pS E an o x st K
 | .pick c a b=>zH o c a b st K
 | .alloc T=>xr E o T st K
 | .box _ x=>Jj o x st K
 | .load T p=>qZ E an o T p st K
 | .store T p x=>match o.dst with|none=>(if u9 an o then rY E T p x st K else rX E T p x st K)|some _=>none
 | .nilCheck x=>
   match st.rd x with
   | .val false [.ptr s off]=>K (st.put o.dst (.one (.ptr s off)))
   | .val false [.elt fl e y i off]=>K (st.put o.dst (.one (.elt fl e y i off)))
   |_=>none
 | .binOp op T x y _=>vM E o op T x y st K
 | .unOp op _ x=>Ya op (st.rd x) λc=>K (st.put o.dst (.one c))
 | .fieldAddr S p f=>uW E o S p f st K
 | .indexAddr T x i=>jb E o T x i st K
 | .index T x i=>wH E o T x i st K
 | .build T parts=>wC E o T parts.toList st K
 | .buildSlice T len parts=>ix E o T len parts.toList st K
 | .makeSlice T n c=>kN E o T n c st K
 | .slice T x lo hi none=>vE E an o T x lo hi st K
 | .field S (.tmp t) f=>Ad E o S t f st K
 | .call {callee:=.builtin .copy,args,argTypes}=>H8 E o argTypes.toList args.toList st K
 | .convert src dst x=>iC E o src dst x st K
 | .extract (.tmp t) i=>iD o t i st K
 | .call {callee:=.builtin .len,args,argTypes}=>Gw E o argTypes.toList args.toList st K
 | .call {callee:=.builtin .min,args,..}=>HJ o args.toList st K
 | .call {callee:=.builtin .max,args,..}=>HI o args.toList st K
 | .call {callee:=.builtin .append,args,argTypes}=>sa E o argTypes.toList args.toList st K
 | .call {callee:=.value f,args,..}=>zd Γ o f args.toList st K
 |_=>none
def eX (ops:List Oper)(o:Oper)(st:AS)(K:AS→Option R):Option R:=
 match o.guard with
 |none=>cj E Γ an o st K
 |some (j,want)=>
  match (nth ops j).bind (·.dst)with
  |some d=>
   match st.get d with
   | .val false [.bool b]=>
     let go (t:Bool):Option R:=
      if t==want then cj E Γ an o (st.put (some d) (.one (.bool t))) K else K ((st.put (some d) (.one (.bool t))).put o.dst (.one .un))
     cond b (go true) (go false)
   | .val false [.un]=>K (st.put o.dst (.one .un))
   |_=>none
  |none=>none
def KH (ops:List Oper):List Oper→AS→(AS→Option R)→Option R
 |[],st,K=>K st
 |o::r,st,K=>eX E Γ an ops o st λst'=>KH ops r st' K
def eZ:Code→Nat
 | .region id _ _=>id
 | .seq a _=>eZ a
 | .block _ c=>eZ c
 | .loop c=>eZ c
 |_=>0
def fQ:Code→List Code
 | .seq a b=>fQ a++fQ b
 | .cond _ a b=>fQ a++fQ b
 | .block _ c=>fQ c
 | .loop c=>c::fQ c
 |_=>[]
def az (fn:Func)(k:Nat):Code:=(nth (fQ (fn.body.getD .skip)) k).getD .skip
def uc (j:Nat):Nat:=3*(4096*1000003+j)
def gE.zS:gE→Option Nat
 | .slot s j=>bif Nat.ble 4096 j then none else bif Nat.ble 1000000 s then none else some (3*(4096*s+j))
 | .box s j=>bif Nat.ble 4096 j then none else some (3*(4096*s+j)+1)
 | .io j=>bif Nat.ble 4096 j then none else some (uc j)
def AC.U9 (io:List AC)(j t:Nat)(e:CT):Option (List e.D):=
 match nth io j with
 |some (.sl (.own (some t')) e' ys)=>if h:e'=e then bif t'==t then some (h▸ys) else none else none
 |_=>none
def AC.mask (keep:List Nat)(ep:Nat)(io:List AC)(rt:gE):AC→AC
 | .ptr s off=>if keep.contains s then .ptr s off else .bot
 | .sl (.loc e pv) t xs=>
   match pv with
   |some (.io j,n)=>match AC.U9 io j n t with
    |some ys=> .sl (.loc 0 ((gE.zS (.io j)).map λq=>(.io j,q))) t ys
    |none=>if e==ep then .sl (.loc 0 none) t xs else .bot
   |_=>if e==ep then .sl (.loc 0 none) t xs else .bot
 | .sl (.own _) t xs=> .sl (.own rt.zS) t xs
 | .sl (.nest ..) _ _=> .bot
 | .sl (.part ..) _ _=> .bot
 | .sl (.holed _ i _) e xs=> .sl (.holed none i none) e xs
 | .elt _ _ _ _ _=> .bot
 |c=>c
def Dh (keep:List Nat)(ep:Nat)(io:List AC)(f:Nat→gE):Nat→List AC→List AC
 |_,[]=>[]
 |j,c::cs=>c.mask keep ep io (f j)::Dh keep ep io f (j+1) cs
def AV.mask (keep:List Nat)(ep:Nat)(io:List AC)(s:Nat):AV→AV
 | .val g cs=> .val g (Dh keep ep io (.slot s) 0 cs)
 | .tup _=> .bot
def ka (keep:List Nat)(ep:Nat)(io:List AC):Nat→List AV→List AV
 |_,[]=>[]
 |i,v::r=>(if keep.contains i then v.mask keep ep io i else .bot)::ka keep ep io (i+1) r
def jZ (keep:List Nat)(ep:Nat)(io:List AC):Nat→List (Option (List AC))→List (Option (List AC))
 |_,[]=>[]
 |i,b::r=>(if keep.contains i then b.map (Dh keep ep io (.box i) 0) else none)::jZ keep ep io (i+1) r
def Ps (keep:List Nat):Nat→List AC→List AC
 |_,[]=>[]
 |j,c::cs=>(match c with| .sl (.own _) e xs=> .sl (.own (gE.zS (.io j))) e xs| .sl (.holed _ i _) e xs=> .sl (.holed none i none) e xs| .ptr s off=>if keep.contains s then .ptr s off else .bot|c=>bif c.ew then c else .bot)::Ps keep (j+1) cs
def AS.mask (keep:List Nat)(st:AS):AS:=
 ⟨ka keep st.ep st.io 0 st.slots,jZ keep st.ep st.io 0 st.boxes,0,List.replicate st.slots.length false,Ps keep 0 st.io⟩
def getBool (st:AS)(s:Nat):Option Bool:=
 match st.get s with
 | .val false [.bool b]=>some b
 |_=>none
def eE (an:An)(ds:List Nat)(o:Oper):Bool:=
 match o.op with
 | .assign (.const _)=> !u9 an o
 | .assign (.tmp t)=>ds.contains t&& !u9 an o
 | .move _| .load ..=>match o.dst with|some d=> !an.mv.contains d|none=>false
 | .slice ..=> !CP an o
 | .pick ..| .binOp ..| .unOp ..| .fieldAddr ..| .indexAddr ..| .index ..| .nilCheck _=>true
 | .build _ ps=>ps.isEmpty
 | .call {callee:=.builtin .len,..}| .call {callee:=.builtin .min,..}| .call {callee:=.builtin .max,..}=>true
 | .call {callee:=.value _,..}=>true
 |_=>false
def Bm (ops:List Oper):List Nat:=ops.filterMap (·.dst)
def AS.vO (st:AS):List Nat→AS
 |[]=>st
 |d::r=>((st.put (some d) .bot).eh (some d)).vO r
def AL (ops:List Oper)(A:List (List Nat)):Nat→List Oper→AS→(AS→Option R)→Option R
 |_,[],st,K=>K st
 |i,o::r,st,K=>bif c9 E an (nX an A i 0 ops) o st then eX E Γ an ops o st λst'=>AL ops A (i+1) r st' K else none
def zj (ops:List Oper)(draw:Bool)(st:AS)(K:AS→Option R):Option R:=
 bif draw then(bif Mb an ops then AL E Γ.calm an ops (Lu ops []) 0 ops st K else none) else KH E Γ an ops ops st K
def KS (id:Nat)(ops:List Oper)(draw:Bool)(st:AS)(K:AS→Option R):Option R:=
 match an.merge id with
 |none=>zj E Γ an ops draw st K
 |some s=>
  if ops.all (eE an (Bm ops)) then
   aa (zj E Γ.calm an ops draw st λst'=>getBool st' s) λb=>K ((st.vO (Bm ops)).put (some s) (.one (.bool b)))
  else none
def yU (key:List Nat)(B:AS→(Ex→AS→Option R)→Option R):Nat→AS→(Ex→AS→Option R)→Option R
 |0,_,_=>none
 |m+1,st,K=>B st λe st'=>
  match e with
  | .normal=>yU key B m (st'.mask key) K
  |e=>K e (st'.mask key)
def den (Λ:bP):Code→AS→(Ex→AS→Option R)→Option R
 | .skip,st,K=>K .normal st
 | .region id ops draw,st,K=>KS E Γ an id ops.toList draw st (K .normal)
 | .seq a b,st,K=>den Λ a st λe st'=>match e with| .normal=>den Λ b st' K|e=>K e st'
 | .cond c a b,st,K=>
   match st.rd c with
   | .val false [.bool t]=>cond t (den Λ a st K) (den Λ b st K)
   |_=>none
 | .block id c,st,K=>den Λ c st λe st'=>
   match e with
   | .exit j=>if j==id then K .normal st' else K (.exit j) st'
   |e=>K e st'
 | .loop c,st,K=>
   bif an.peel.contains (eZ c) then den Λ c (st.mask (an.mask (eZ c))) λe st'=>
    match e with
    | .normal=>(Λ (eZ c)).go (st'.mask (an.mask (eZ c))) K
    |e=>K e (st'.mask (an.mask (eZ c)))
   else(Λ (eZ c)).go (st.mask (an.mask (eZ c))) K
 | .exit id,st,K=>K (.exit id) st
 | .ret,st,K=>K .ret st
 |_,_,_=>none
end
def GR (st:AS)(E:Env):ResultVar→Option ((Bool×Nat)×Bool×List AC)
 | .tmp t=>match st.get t with| .val g cs=>some ((false,t),g,cs.map AC.strip)|_=>none
 | .cell t T=>match gK E.ty T,st.get t with
   |some sh,.val false [.ptr s off]=>((nth st.boxes s).getD none).bind λcs=>
    if off+sh.ct.size≤cs.length then some ((true,s),sh.agg,((cs.drop off).take sh.ct.size).map AC.strip) else none
   |_,_=>none
def lM (st:AS)(E:Env):List (Bool×Nat)→List ResultVar→Option (List (Bool×List AC))
 |_,[]=>some []
 |had,r::rs=>(GR st E r).bind λx=>if had.contains x.1 then none else(lM st E (x.1::had) rs).bind λxs=>some (x.2::xs)
def results (E:Env)(rs:List ResultVar)(st:AS):Option AV:=
 match lM st E [] rs with
 |some [(g,cs)]=>some (.val g cs)
 |some vs=>some (.tup vs)
 |none=>none
def start (fn:Func)(args:List AV):AS:=⟨args++List.replicate (fn.ntmps-args.length) .bot,List.replicate (args.length+(fn.ntmps-args.length)) none,0,List.replicate fn.ntmps false,[]⟩
abbrev iq:List (Bool×FT)→Type
 |[]=>Unit
 |[(_,t)]=>t.ct.D
 |(_,t)::r=>t.ct.D×iq r
def gN:(l:List (Bool×FT))→List (Bool×List AC)→Option (iq l)
 |[],[]=>some ()
 |[(g,t)],[(g',cs)]=>bif g==g' then(match KG t cs with|some (x,[])=>some x|_=>none) else none
 |(g,t)::p::r,(g',cs)::vs=>bif g==g' then(match KG t cs with|some (x,[])=>(gN (p::r) vs).bind λy=>some (x,y)|_=>none) else none
 |_,_=>none
def afv:(l:List (Bool×FT))→iq l→List (Bool×List AC)
 |[],_=>[]
 |[(g,t)],x=>[(g,tB t x)]
 |(g,t)::p::r,x=>(g,tB t x.1)::afv (p::r) x.2
def uR (l:List (Bool×FT))(x:iq l):AV:=
 match afv l x with
 |[(g,cs)]=> .val g cs
 |vs=> .tup vs
def Kh (E:Env)(Γ:bH)(an:An)(Λ:bP)(fn:Func)(rs:List (Bool×FT))(args:List AV):Option (iq rs):=
 match fn.body with
 |some c=>if args.length=fn.params.size then den E Γ an Λ c (start fn args) λe st=>
  match e with
  | .exit _=>none
  |_=>aa (lM st E [] fn.results.toList) (gN rs)
  else none
 |none=>none
def evalAlt (E:Env)(Γ:bH)(an:An)(Λ:bP)(fn:Func)(rs rs2:List (Bool×FT))(h:iq rs2=iq rs)(args:List AV):Option (Bool×iq rs):=
 match fn.body with
 |some c=>if args.length=fn.params.size then den E Γ an Λ c (start fn args) λe st=>
  match e with
  | .exit _=>none
  |_=>aa (lM st E [] fn.results.toList) λys=>
   match gN rs ys with
   |some y=>some (true,y)
   |none=>match gN rs2 ys with
    |some y=>some (false,cast h y)
    |none=>none
  else none
 |none=>none
def Pf:Nat→List AC→List AC
 |_,[]=>[]
 |j,.sl _ e xs::cs=> .sl (.own (some (uc j))) e xs::Pf (j+1) cs
 |j,c::cs=>c::Pf (j+1) cs
def u6:Nat→List AC→List AC
 |_,[]=>[]
 |j,.sl _ e xs::cs=> .sl (.loc 0 (some (.io j,uc j))) e xs::u6 (j+1) cs
 |j,c::cs=>c::u6 (j+1) cs
def Ay (fn:Func)(g:Bool)(cs:List AC)(args:List AV):AS:={start fn (.val g (u6 0 cs)::args)with io:=Pf 0 cs}
def Un (E:Env)(Γ:bH)(an:An)(Λ:bP)(fn:Func)(rs:List (Bool×FT))(t:CT)(args:List AV):Option (iq rs×t.D):=
 match fn.body,args with
 |some c,.val g cs::xs=>if xs.length+1=fn.params.size∧cs.all AC.Bv=true then den E Γ an Λ c (Ay fn g cs xs) λe st=>
  match e with
  | .exit _=>none
  |_=>aa (aa (lM st E [] fn.results.toList) (gN rs)) λr=>
   match eV t st.io with
   |some (x,[])=>some (r,x)
   |_=>none
  else none
 |_,_=>none
def BP:Nat→List AC→List AC
 |_,[]=>[]
 |j,.sl _ e xs::cs=> .sl (.own (some (3*j+1))) e xs::BP (j+1) cs
 |j,c::cs=>c::BP (j+1) cs
def vH (fn:Func)(cs:List AC)(args:List AV):AS:=
 {start fn (.one (.ptr 0 0)::args)with boxes:=some (BP 0 cs)::List.replicate (args.length+(fn.ntmps-(args.length+1))) none,io:=[.ptr 0 0]}
def Q5 (E:Env)(Γ:bH)(an:An)(Λ:bP)(fn:Func)(rs:List (Bool×FT))(t:CT)(args:List AV):Option (iq rs×t.D):=
 match fn.body,args with
 |some c,.val true cs::xs=>if xs.length+1=fn.params.size∧cs.all AC.Bv=true then den E Γ an Λ c (vH fn cs xs) λe st=>
  match e with
  | .exit _=>none
  |_=>aa (aa (lM st E [] fn.results.toList) (gN rs)) λr=>
   match st.io,st.boxes with
   |[.ptr 0 0],some cs'::_=>match eV t cs' with
    |some (x,[])=>some (r,x)
    |_=>none
   |_,_=>none
  else none
 |_,_=>none
end Go.Dn
