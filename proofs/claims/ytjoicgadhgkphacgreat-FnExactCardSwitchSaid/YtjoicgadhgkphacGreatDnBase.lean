import Derived.Test.YtjoicgadhgkphacGreatDnData
/- An abstract, heap-free semantics of the model's code, for functions that treat their data by value: definitions. -/
namespace Go.Dn
inductive gC where
 |slot (s j:Nat)|box (s j:Nat)|io (j:Nat)
 deriving DecidableEq
inductive lh where
 |own (tag:Option Nat)
 |loc (ep:Nat) (pv:Option (gC×Nat))
 |arg
 |nest (ep:Nat) (r:gC) (t:Nat) (e:CT) (i:Int) (off:Nat)
 |part (ep:Nat) (r:gC) (t:Nat) (lo:Int)
 |holed (tag:Option Nat) (i:Int) (ep:Option Nat)
inductive AC where
 |int (k:IntKind) (n:Int)|bool (b:Bool)|str (s:List UInt8)
 |sl (fl:lh) (e:CT) (xs:List e.D)
 |nilsl
 |ptr (s off:Nat)
 |elt (fl:lh) (e:CT) (x:e.D) (i:Int) (off:Nat)
 |fn (f:Nat)
 |un
 |bot
inductive AV where
 |val (agg:Bool) (cs:List AC)
 |tup (vs:List (Bool×List AC))
abbrev AV.one (c:AC):AV:=.val false [c]
abbrev AV.bot:AV:=.val false [.bot]
structure AS where
 slots:List AV
 boxes:List (Option (List AC))
 ep:Nat
 iss:List Bool
 io:List AC
structure Shape where
 agg:Bool
 ct:CT
 offs:List (Nat×Nat):=[]
structure An where
 mask:Nat→List Nat:=λ_=>[]
 merge:Nat→Option Nat:=λ_=>none
 mv:List Nat:=[]
 nest:List Nat:=[]
 mb:Nat→Option Nat:=λ_=>none
 sb:Nat→Option Nat:=λ_=>none
 late:List Nat:=[]
 peel:List Nat:=[]
 nils:List Nat:=[]
 fm:List Nat:=[]
 eb:Nat→Option Nat:=λ_=>none
 es:Nat→Option Nat:=λ_=>none
 er:Nat→Option Nat:=λ_=>none
def cellsOf:(t:CT)→lh→t.D→List AC
 | .int k,_,n=>[.int k n]
 | .bool,_,b=>[.bool b]
 | .str,_,s=>[.str s]
 | .sl e,fl,xs=>[.sl fl e xs]
 | .pair a b,fl,x=>cellsOf a fl x.1++cellsOf b fl x.2
def eV:(t:CT)→List AC→Option (t.D×List AC)
 | .int k,.int k' n::r=>if k'=k then some (n,r) else none
 | .bool,.bool b::r=>some (b,r)
 | .str,.str s::r=>some (s,r)
 | .sl e,.sl (.own _) e' xs::r=>if h:e'=e then some (h▸xs,r) else none
 | .sl _,.nilsl::r=>some ([],r)
 | .pair a b,cs=>(eV a cs).bind λx=>(eV b x.2).bind λy=>some ((x.1,y.1),y.2)
 |_,_=>none
def nth {α:Type}:List α→Nat→Option α
 |[],_=>none
 |a::_,0=>some a
 |_::l,n+1=>nth l n
def fD {α:Type}:List α→Nat→α→List α
 |[],_,_=>[]
 |_::l,0,v=>v::l
 |a::l,n+1,v=>a::fD l n v
def AS.get (st:AS)(i:Nat):AV:=(nth st.slots i).getD .bot
def AS.put (st:AS)(d:Option Nat)(v:AV):AS:=
 match d with
 |some d=>{st with slots:=fD st.slots d v}
 |none=>st
def CB (d j:Nat):Nat:=3*(4096*d+j)+2
def AS.hH (st:AS)(d:Option Nat)(j:Nat):Option Nat:=
 match d with
 |some d=>bif (nth st.iss d).getD true then none else bif Nat.ble 4096 j then none else some (CB d j)
 |none=>none
def AS.ej (st:AS)(d:Option Nat):AS:=
 match d with
 |some d=>{st with iss:=fD st.iss d true}
 |none=>st
def AS.ln (st:AS)(d:Option Nat)(e:CT)(xs:List e.D):AS:=
 (st.ej d).put d (.one (.sl (.own (st.hH d 0)) e xs))
def AC.borrow (ep:Nat)(rt:Option gC):AC→AC
 | .sl (.own tag) e xs=> .sl (.loc ep (match rt,tag with|some r,some t=>some (r,t)|_,_=>none)) e xs
 | .sl (.holed tag _ (some ep0)) e xs=> .sl (.loc ep0 (match rt,tag with|some r,some t=>some (r,t)|_,_=>none)) e xs
 | .sl (.holed _ _ none) _ _=> .bot
 |c=>c
def pK (ep:Nat)(f:Nat→gC):Nat→List AC→List AC
 |_,[]=>[]
 |j,c::cs=>c.borrow ep (some (f j))::pK ep f (j+1) cs
def aI (ep:Nat)(cs:List AC):List AC:=cs.map (AC.borrow ep none)
def AV.borrow (ep:Nat)(f:Nat→gC):AV→AV
 | .val g cs=> .val g (pK ep f 0 cs)
 | .tup vs=> .tup (vs.map λx=>(x.1,aI ep x.2))
def AV.aI (ep:Nat):AV→AV
 | .val g cs=> .val g (Dn.aI ep cs)
 | .tup vs=> .tup (vs.map λx=>(x.1,Dn.aI ep x.2))
def ofConst:Value→AV
 | .int k n=> .one (.int k n)
 | .bool b=> .one (.bool b)
 | .string s=> .one (.str s.data.toList)
 | .slice none 0 0=> .one .nilsl
 |_=> .bot
def AS.rd (st:AS):Operand→AV
 | .tmp t=>(st.get t).borrow st.ep (.slot t)
 | .const v=>ofConst v
 | .func f=> .one (.fn f)
 | .global _=> .bot
def AS.take (st:AS):Operand→AV×AS
 | .tmp t=>(st.get t,st.put (some t) ((st.get t).aI st.ep))
 |x=>(st.rd x,st)
def AS.dG (st:AS)(s:Nat)(b:Option (List AC)):AS:={st with boxes:=fD st.boxes s b}
def AC.asArg (ep:Nat):AC→AC
 | .int k n=> .int k n
 | .bool b=> .bool b
 | .str s=> .str s
 | .sl (.own _) e xs=> .sl .arg e xs
 | .sl (.loc ep' _) e xs=>if ep'==ep then .sl .arg e xs else .bot
 | .sl .arg e xs=> .sl .arg e xs
 | .nilsl=> .nilsl
 | .fn f=> .fn f
 |_=> .bot
def AV.asArg (ep:Nat):AV→AV
 | .val g cs=> .val g (cs.map (AC.asArg ep))
 | .tup _=> .bot
def AC.EB (ep:Nat)(tag:Option Nat):AC→AC
 | .sl (.own _) e xs=> .sl (.own tag) e xs
 | .sl .arg e xs=> .sl (.loc ep none) e xs
 | .sl (.loc _ _) _ _=> .bot
 | .sl (.nest ..) _ _=> .bot
 | .sl (.part ..) _ _=> .bot
 | .sl (.holed _ i _) e xs=> .sl (.holed none i none) e xs
 | .ptr _ _=> .bot
 | .elt _ _ _ _ _=> .bot
 |c=>c
def vu (ep:Nat)(mk:Nat→Option Nat):Nat→List AC→List AC
 |_,[]=>[]
 |j,c::cs=>c.EB ep (mk j)::vu ep mk (j+1) cs
def P1 (ep:Nat)(mk:Nat→Option Nat):Nat→List (Bool×List AC)→List (Bool×List AC)
 |_,[]=>[]
 |j,t::ts=>(t.1,vu ep mk j t.2)::P1 ep mk (j+t.2.length) ts
def AV.EB (ep:Nat)(mk:Nat→Option Nat):AV→AV
 | .val g cs=> .val g (vu ep mk 0 cs)
 | .tup vs=> .tup (P1 ep mk 0 vs)
structure aD where
 R:Type
 fn:List AV→Option R
 av:R→AV
 io:Bool:=false
 back:R→List AC:=λ_=>[]
 bx:Bool:=false
 sel:R→Bool:=λ_=>true
 alt:R→AV:=λ_=> .val false [.bot]
def aD.res (F:aD)(y:F.R):AV:=cond (F.sel y) (F.av y) (F.alt y)
abbrev bH:=Nat→aD
def bH.calm (Γ:bH):bH:=λf=>bif (Γ f).io||(Γ f).bx then {R:=Unit,fn:=λ_=>none,av:=λ_=> .val false [.bot]} else Γ f
def B7 {R:Type}(op:BinOp)(k:IntKind)(x y:Int)(K:AC→Option R):Option R:=
 match op with
 | .add=>K (.int k (k.wrap (x+y)))
 | .sub=>K (.int k (k.wrap (x-y)))
 | .mul=>K (.int k (k.wrap (x*y)))
 | .quo=>if y=0 then none else K (.int k (k.wrap (x.tdiv y)))
 | .rem=>if y=0 then none else K (.int k (x.tmod y))
 | .and=>K (.int k (k.wrap (BitVec.ofInt k.bits x&&&BitVec.ofInt k.bits y).toNat))
 | .or=>K (.int k (k.wrap (BitVec.ofInt k.bits x|||BitVec.ofInt k.bits y).toNat))
 | .xor=>K (.int k (k.wrap (BitVec.ofInt k.bits x^^^BitVec.ofInt k.bits y).toNat))
 | .andNot=>K (.int k (k.wrap (BitVec.ofInt k.bits x&&&~~~ BitVec.ofInt k.bits y).toNat))
 | .eql=>K (.bool (x==y))
 | .neq=>K (.bool (x !=y))
 | .lss=>K (.bool (decide (x<y)))
 | .leq=>K (.bool (decide (x≤y)))
 | .gtr=>K (.bool (decide (x>y)))
 | .geq=>K (.bool (decide (x≥y)))
 |_=>none
def DR {R:Type}(op:BinOp)(x y:List UInt8)(K:AC→Option R):Option R:=
 match op with
 | .add=>room (x.length+y.length) (K (.str (x++y)))
 | .eql=>K (.bool (x==y))
 | .neq=>K (.bool (!(x==y)))
 | .lss=>K (.bool (Op.bytesLess x y))
 | .leq=>K (.bool (Op.bytesLess x y||x==y))
 | .gtr=>K (.bool (!(Op.bytesLess x y||x==y)))
 | .geq=>K (.bool (!(Op.bytesLess x y)))
 |_=>none
def pL:List AC→List AC→Option Bool
 |[],[]=>some true
 | .int k x::r,.int k' y::r'=>if k=k' then(pL r r').bind λb=>some ((x==y)&&b) else none
 | .bool x::r,.bool y::r'=>(pL r r').bind λb=>some ((x==y)&&b)
 | .str x::r,.str y::r'=>(pL r r').bind λb=>some ((x==y)&&b)
 |_,_=>none
def Al {R:Type}(op:BinOp)(x y:AV)(K:AC→Option R):Option R:=
 match x,y with
 | .val false [.int k a],.val false [.int k' b]=>
   match op with
   | .shl=>if b<0 then none else K (.int k (k.wrap (a*2^(min b.toNat k.bits))))
   | .shr=>if b<0 then none else K (.int k (a.fdiv (2^(min b.toNat k.bits))))
   |_=>if k=k' then B7 op k a b K else none
 | .val false [.str a],.val false [.str b]=>DR op a b K
 | .val false [.bool a],.val false [.bool b]=>
   match op with
   | .eql=>K (.bool (a==b))
   | .neq=>K (.bool (!(a==b)))
   |_=>none
 | .val true xs,.val true ys=>
   match op with
   | .eql=>aa (pL xs ys) λb=>K (.bool b)
   | .neq=>aa (pL xs ys) λb=>K (.bool (!b))
   |_=>none
 |_,_=>none
def XV {R:Type}(op:UnOp)(x:AV)(K:AC→Option R):Option R:=
 match op,x with
 | .not,.val false [.bool b]=>K (.bool (!b))
 | .neg,.val false [.int k n]=>K (.int k (k.wrap (0-n)))
 | .xor,.val false [.int k n]=>B7 .xor k (if k.signed then-1 else k.max) n K
 |_,_=>none
def ck (cs:List AC)(off:Nat)(vs:List AC):List AC:=cs.take off++vs++cs.drop (off+vs.length)
def AS.dV (st:AS):gC→Option AC
 | .slot s j=>match st.get s with| .val _ cs=>nth cs j|_=>none
 | .box s j=>((nth st.boxes s).getD none).bind λcs=>nth cs j
 | .io j=>nth st.io j
def AS.dC (st:AS)(r:gC)(c:AC):AS:=
 match r with
 | .slot s j=>match st.get s with| .val g cs=>st.put (some s) (.val g (fD cs j c))|_=>st
 | .box s j=>match (nth st.boxes s).getD none with|some cs=>st.dG s (some (fD cs j c))|none=>st
 | .io j=>{st with io:=fD st.io j c}
def AS.fresh (st:AS):AC→AC
 | .sl (.loc ep (some (r,t))) e xs=>
   bif ep==st.ep then .sl (.loc ep (some (r,t))) e xs else
    match st.dV r with
    |some (.sl (.own (some t')) e' ys)=>if h:e'=e then bif t'==t then .sl (.loc st.ep (some (r,t))) e (h▸ys) else .sl (.loc ep (some (r,t))) e xs else .sl (.loc ep (some (r,t))) e xs
    |_=> .sl (.loc ep (some (r,t))) e xs
 |c=>c
def AV.fresh (st:AS):AV→AV
 | .val g cs=> .val g (cs.map st.fresh)
 | .tup vs=> .tup vs
def AC.now (ep:Nat):AC→Bool
 | .sl (.loc ep' (some _)) _ _=>ep'==ep
 |_=>true
def AS.kX {R:Type}(st:AS)(r:gC)(t:Nat)(e:CT)(i:Int)(off:Nat)(vs:List AC)(K:AS→Option R):Option R:=
 match st.dV r with
 |some (.sl (.own (some t')) e' xs)=>
  if h:e'=e then
   if t'=t then
    aa (idx (h▸xs:List e.D) i) λx=>
     match eV e (ck (cellsOf e (.own none) x) off vs)with
     |some (x',[])=>K {st.dC r (.sl (.own (some t')) e ((h▸xs:List e.D).set i.toNat x'))with ep:=st.ep+1}
     |_=>none
   else none
  else none
 |some (.sl (.holed (some t') i' _) e' xs)=>
  if h:e'=e then
   if t'=t∧i'=i∧off=0 then
    aa (idx (h▸xs:List e.D) i) λ_=>
     match eV e vs with
     |some (x',[])=>K {st.dC r (.sl (.own (some t')) e ((h▸xs:List e.D).set i.toNat x'))with ep:=st.ep+1}
     |_=>none
   else none
  else none
 |_=>none
def AV.cells:AV→List AC
 | .val _ cs=>cs
 | .tup _=>[.bot]
def dm (st:AS):List Operand→List AV×AS
 |[]=>([],st)
 |x::xs=>let (v,st1):=st.take x;let (vs,st2):=dm st1 xs;(v::vs,st2)
def wW (e:CT):List (List AC)→Option (List e.D)
 |[]=>some []
 |cs::r=>match eV e cs with
  |some (x,[])=>(wW e r).bind λxs=>some (x::xs)
  |_=>none
def B5:Nat→List (Nat×Operand)→Bool
 |_,[]=>true
 |n,(i,_)::r=>i==n&&B5 (n+1) r
def AC.Cp:AC→Bool
 | .bot=>false
 | .un=>false
 |_=>true
def rF (offs:List (Nat×Nat))(zero:List AC):List (Nat×List AC)→Option (List AC)
 |[]=>some zero
 |(i,cs)::r=>match nth offs i with
  |some (off,n)=>if cs.length=n∧off+n≤zero.length∧cs.all AC.Cp then rF offs (ck zero off cs) r else none
  |none=>none
inductive LK where
 |int|bool|str
 deriving DecidableEq
structure Env where
 ty:List (Nat×Shape)
 eqs:List (Nat×List LK):=[]
 fts:List ((Nat×Nat)×Nat):=[]
def Iy (l:List (Nat×List LK))(t:Nat):Option (List LK):=
 match l with
 |[]=>none
 |(u,sh)::r=>bif u==t then some sh else Iy r t
def fits:List LK→List AC→Bool
 |[],[]=>true
 | .int::ls,.int _ _::r=>fits ls r
 | .bool::ls,.bool _::r=>fits ls r
 | .str::ls,.str _::r=>fits ls r
 |_,_=>false
def M7 (l:List ((Nat×Nat)×Nat))(S f:Nat):Option Nat:=
 match l with
 |[]=>none
 |((u,k),T)::r=>bif u==S&&k==f then some T else M7 r S f
def gJ (l:List (Nat×Shape))(t:Nat):Option Shape:=
 match l with
 |[]=>none
 |(u,sh)::r=>bif u==t then some sh else gJ r t
def Env.sl (E:Env)(t:Nat):Option CT:=
 match gJ E.ty t with
 |some ⟨false,.sl e,_⟩=>some e
 |_=>none
def Env.str (E:Env)(t:Nat):Bool:=
 match gJ E.ty t with
 |some ⟨false,.str,_⟩=>true
 |_=>false
def Env.bool (E:Env)(t:Nat):Bool:=
 match gJ E.ty t with
 |some ⟨false,.bool,_⟩=>true
 |_=>false
def Env.bytes (E:Env)(t:Nat):Bool:=
 match gJ E.ty t with
 |some ⟨false,.sl (.int .u8),[(te,_)]⟩=>match gJ E.ty te with|some ⟨false,.int .u8,_⟩=>true|_=>false
 |_=>false
def lh.live (ep:Nat):lh→Bool
 | .loc ep' _=>ep'==ep
 | .arg=>true
 | .own _=>false
 | .nest ..=>false
 | .part ..=>false
 | .holed ..=>false
def lh.Ih (ep:Nat)(flat:Bool):lh→Bool
 | .loc ep' _=>ep'==ep&&flat
 | .arg=>flat
 | .own _=>true
 | .nest ..=>false
 | .part ..=>false
 | .holed ..=>false
def lh.bare:lh→lh
 | .loc ep _=> .loc ep none
 |f=>f
def AC.eA:AC→Bool
 | .int _ _=>true
 | .bool _=>true
 | .str _=>true
 | .fn _=>true
 |_=>false
def tm:Operand→List Nat
 | .tmp t=>[t]
 |_=>[]
def Lo (l:List Operand):List Nat:=l.flatMap tm
def CE (an:An)(o:Oper):Bool:=
 match o.dst with
 |some d=>an.mv.contains d&&(an.mb d).isNone
 |none=>false
def alz (an:An)(o:Oper):Bool:=
 match o.dst with
 |some d=>an.nils.contains d
 |none=>false
def u0 (an:An)(o:Oper):Bool:=
 match o.op with
 | .assign (.tmp s)=>an.late.contains s
 | .store _ _ (.tmp s)=>an.late.contains s
 |_=>false
def tmO:Option Operand→List Nat
 |some x=>tm x
 |none=>[]
def cW (o:Oper):List Nat:=
 match o.op with
 | .move x=>tm x
 | .assign x=>tm x
 | .pick c a b=>tm c++tm a++tm b
 | .box _ x=>tm x
 | .load _ p=>tm p
 | .store _ p x=>tm p++tm x
 | .nilCheck x=>tm x
 | .binOp _ _ x y _=>tm x++tm y
 | .unOp _ _ x=>tm x
 | .fieldAddr _ p _=>tm p
 | .indexAddr _ x i=>tm x++tm i
 | .index _ x i=>tm x++tm i
 | .build _ parts=>Lo (parts.toList.map (·.2))
 | .buildSlice _ _ parts=>Lo (parts.toList.map (·.2))
 | .makeSlice _ n c=>tm n++tm c
 | .slice _ x lo hi none=>tm x++tmO lo++tmO hi
 | .convert _ _ x=>tm x
 | .extract (.tmp t) _=>[t]
 | .call {callee:=.builtin _,args,..}=>Lo args.toList
 | .call {callee:=.value f,args,..}=>tm f++Lo args.toList
 |_=>[]
def zE (an:An)(o:Oper):Bool:=
 match o.op with
 | .move _=>match o.dst with|some d=>an.mv.contains d|none=>false
 | .assign _=>true
 | .box ..=>true
 | .build ..=>true
 | .buildSlice ..=>true
 | .store ..=>true
 | .extract ..=>match o.dst with|some d=>an.mv.contains d|none=>false
 | .call {callee:=.builtin .append,..}=>true
 |_=>false
def Bv (an:An)(o:Oper):List Nat:=
 match o.op with
 | .alloc _=>o.dst.toList
 | .box ..=>o.dst.toList
 | .load ..=>match o.dst with|some d=>bif an.mv.contains d then(an.mb d).toList else []|none=>[]
 | .store _ (.tmp p) _=>(an.sb p).toList
 |_=>[]
def jQ (an:An)(o:Oper):Bool:=
 match o.op with
 | .move _=>true
 | .load ..=>match o.dst with|some d=> !an.mv.contains d||(an.mb d).isSome|none=>false
 | .extract (.tmp _) _=>true
 | .store _ (.tmp p) _=>(an.sb p).isSome&& !u0 an o
 | .assign _=> !u0 an o
 | .pick ..| .alloc _| .box ..| .nilCheck _| .binOp ..| .unOp ..| .fieldAddr ..| .indexAddr ..| .index ..| .build ..| .buildSlice ..| .makeSlice ..| .convert ..=>true
 | .slice _ _ _ _ none=> !CE an o
 | .call {callee:=.builtin .len,..}| .call {callee:=.builtin .min,..}| .call {callee:=.builtin .max,..}| .call {callee:=.builtin .append,..}=>true
 | .call {callee:=.value _,..}=>true
 |_=>false
def writes (an:An)(o:Oper):List Nat:=o.dst.toList++(bif zE an o then cW o else [])
def AV.now (ep:Nat):AV→Bool
 | .val _ cs=>cs.all (AC.now ep)
 | .tup _=>true
def AC.h9:AC→Bool
 | .int ..=>true
 | .bool _=>true
 | .str _=>true
 | .fn _=>true
 | .ptr ..=>true
 |_=>false
def AV.h9:AV→Bool
 | .val _ cs=>cs.all AC.h9
 | .tup _=>false
def yW (E:Env)(T:TypeId)(st:AS)(s off:Nat):Bool:=
 match gJ E.ty T,(nth st.boxes s).getD none with
 |some sh,some cs=>((cs.drop off).take sh.ct.size).all AC.h9
 |_,_=>false
def Uq (an:An)(o:Oper):Bool:=match o.dst with|some d=>an.fm.contains d|none=>false
def zD (an:An)(o:Oper):Bool:=
 match o.op,o.dst,o.guard with
 | .load _ (.tmp _),some d,none=>an.mv.contains d&&(an.mb d).isSome
 |_,_,_=>false
def F4 (an:An)(o:Oper):Bool:=
 match o.op,o.dst,o.guard with
 | .load _ (.tmp _),some d,none=> !an.mv.contains d&&an.fm.contains d
 |_,_,_=>false
def erS (an:An)(o:Oper):List Nat:=
 match o.op,o.dst with
 | .load ..,some d=>(an.er d).toList
 |_,_=>[]
def da (E:Env)(an:An)(X:List Nat)(o:Oper)(st:AS):Bool:=
 match o.op with
 | .move x=> !Uq an o||(st.rd x).h9
 | .indexAddr _ x _=>(st.rd x).now st.ep||(match st.rd x with| .val _ [.sl (.loc _ (some (.box b _,_))) _ _]=> !X.contains b|_=>false)
 | .slice _ x _ _ none=>(st.rd x).now st.ep
 | .call {callee:=.value _,args,..}=>args.toList.all λx=>(st.rd x).now st.ep
 | .load T p=>match st.rd p with
   | .val false [.ptr s off]=> !X.contains s&&(match o.dst with|some d=> !an.mv.contains d||an.mb d==some s|none=>true)&&(!Uq an o||yW E T st s off)
   | .val false [.elt fl _ _ _ _]=>(fl.live st.ep||(match fl with
     | .loc _ (some (.slot b _,_))=>(erS an o).contains b
     | .loc _ (some (.box b _,_))=> !X.contains b
     |_=>false))&& !(Uq an o||zD an o)
   |_=> !(Uq an o||zD an o)
 | .store _ (.tmp p) _=>((an.sb p).isNone&&(an.eb p).isNone&&(an.es p).isNone)||(match st.rd (.tmp p)with
   | .val false [.ptr s _]=> !X.contains s&&an.sb p==some s
   | .val false [.elt (.loc _ (some (.box b _,_))) _ _ _ _]=>an.eb p==some b&&(an.sb p).isNone&&(an.es p).isNone
   | .val false [.elt (.loc _ (some (.slot b _,_))) _ _ _ _]=>an.es p==some b&&(an.sb p).isNone&&(an.eb p).isNone
   |_=>false)
 | .extract (.tmp t) i=>match st.get t with
   | .tup vs=>match nth vs i with|some x=>x.2.all AC.eA||(match o.dst with|some d=>an.mv.contains d|none=>false)|none=>true
   |_=>true
 |_=>true
def yX (an:An)(ops:List Oper)(o:Oper):List Nat:=
 (match o.guard with
 |some (j,_)=>((nth ops j).bind (·.dst)).toList
 |none=>[])++erS an o
def meets (a b:List Nat):Bool:=a.any λx=>b.contains x
def OH (an:An)(ops:List Oper)(X Y:List Nat)(o p:Oper):Bool:=
 jQ an o&&jQ an p&& !meets (writes an o) (cW p++yX an ops p++writes an p)&& !meets (writes an p) (cW o++yX an ops o)&&
 (Bv an o).all (λd=>Y.contains d)&&(Bv an p).all (λd=>X.contains d)&& !meets (Bv an o) (p.dst.toList++Bv an p)&& !meets (Bv an p) o.dst.toList
def O5 (o p:Oper):Bool:=
 match o.op,p.op,o.dst,p.dst,o.guard,p.guard with
 | .extract (.tmp t) i,.extract (.tmp t') j,some d,some d',none,none=>t==t'&& !(i==j)&& !(d==d')&& !(d==t)&& !(d'==t)
 |_,_,_,_,_,_=>false
def OV (an:An)(o p:Oper):Bool:=
 match p.op,p.dst,p.guard with
 | .store _ (.tmp q) (.tmp x),none,none=>((an.eb q).isSome&&(an.es q).isNone||(match an.es q with|some b=>(an.eb q).isNone&& !(b==x)&& !(b==q)&& !meets [b] (o.dst.toList++cW o)|none=>false))&&(an.sb q).isNone&& !u0 an p&&(match o.op,o.dst,o.guard with
   | .move (.tmp t),some d,none=> !an.mv.contains d&&an.fm.contains d&& !(d==q)&& !(d==x)&& !(t==x)&& !(t==q)&& !(d==t)
   | .extract (.tmp t) _,some d,none=> !(d==q)&& !(d==x)&& !(t==x)&& !(t==q)&& !(d==t)
   |_,_,_=>false)
 |_,_,_=>false
def PB (an:An)(o p:Oper):Bool:=
 (zD an o&&F4 an p||F4 an o&&zD an p)&& !meets o.dst.toList (p.dst.toList++cW p)&& !meets p.dst.toList (cW o)
def Vt (an:An)(o p:Oper):Bool:=O5 o p||OV an o p||PB an o p
def EA (an:An)(ops:List Oper)(X Y:List Nat)(o p:Oper):Bool:=Vt an o p||OH an ops X Y o p
def wh (o:Oper):List Nat:=(o.after.toList.filter (λe=>Region.binds .any e)).map (·.on)
def Lr (a b:List Nat):List Nat:=a.foldl (λs x=>bif s.contains x then s else x::s) b
def LA:List Oper→List (List Nat)→List (List Nat)
 |[],acc=>acc
 |o::r,acc=>LA r (acc++[(wh o).foldl (λs j=>Lr (j::(nth acc j).getD []) s) []])
def S5 (A:List (List Nat))(i k:Nat):Bool:=((nth A i).getD []).contains k
def QB (an:An)(A:List (List Nat))(i:Nat)(fl:Bool):Nat→List Oper→List Nat
 |_,[]=>[]
 |k,o::r=>(bif !S5 A i k&& !S5 A k i&& !(k==i)&& !(fl&&zD an o) then Bv an o else [])++QB an A i fl (k+1) r
def nJ (an:An)(A:List (List Nat))(i k:Nat)(ops:List Oper):List Nat:=QB an A i (match nth ops i with|some o=>F4 an o|none=>false) k ops
def GG (an:An)(ops:List Oper)(A:List (List Nat))(i:Nat)(oi:Oper):Nat→List Oper→Bool
 |_,[]=>true
 |j,oj::r=>bif Nat.ble i j then true else(S5 A i j||EA an ops (nJ an A j 0 ops) (nJ an A i 0 ops) oj oi)&&GG an ops A i oi (j+1) r
def KV (an:An)(ops:List Oper)(A:List (List Nat)):Nat→List Oper→Bool
 |_,[]=>true
 |i,oi::r=>(wh oi).all (λk=>Nat.blt k i)&&GG an ops A i oi 0 ops&&KV an ops A (i+1) r
def Mh (an:An)(ops:List Oper):Bool:=KV an ops (LA ops []) 0 ops
inductive Ex where
 |normal|ret|exit (id:Nat)
inductive FK where
 |own (tag:Option Nat)|arg|loc|lio (j t:Nat)|nil
def FK.flag:FK→lh
 | .own t=> .own t
 | .arg=> .arg
 | .loc=> .loc 0 none
 | .lio j t=> .loc 0 (some (.io j,t))
 | .nil=> .arg
def FK.isNil:FK→Bool
 | .nil=>true
 |_=>false
inductive FT where
 |int (k:IntKind)|bool|str|sl (fl:FK) (e:CT)|pair (a b:FT)
abbrev FT.ct:FT→CT
 | .int k=> .int k
 | .bool=> .bool
 | .str=> .str
 | .sl _ e=> .sl e
 | .pair a b=> .pair a.ct b.ct
def tt:(t:FT)→t.ct.D→List AC
 | .int k,n=>[.int k n]
 | .bool,b=>[.bool b]
 | .str,s=>[.str s]
 | .sl fl e,xs=>[bif fl.isNil then .nilsl else .sl fl.flag e xs]
 | .pair a b,x=>tt a x.1++tt b x.2
def FK.fits:FK→lh→Bool
 | .own t,.own t'=>t==t'
 | .arg,.arg=>true
 | .loc,.loc 0 none=>true
 | .lio j t,.loc 0 (some (.io j',t'))=>j==j'&&t==t'
 |_,_=>false
def KS:(t:FT)→List AC→Option (t.ct.D×List AC)
 | .int k,.int k' n::r=>if k'=k then some (n,r) else none
 | .bool,.bool b::r=>some (b,r)
 | .str,.str s::r=>some (s,r)
 | .sl fl e,.sl fl' e' xs::r=>if h:e'=e then bif fl.fits fl' then some (h▸xs,r) else none else none
 | .sl fl _,.nilsl::r=>bif fl.isNil then some ([],r) else none
 | .pair a b,cs=>(KS a cs).bind λx=>(KS b x.2).bind λy=>some ((x.1,y.1),y.2)
 |_,_=>none
inductive PD where
 |bot|ptr (s off:Nat)|fn (f:Nat)|data (g:Bool) (t:FT)
inductive IoD where
 |none|some (t:FT)|ptr
structure SD where
 slots:List PD
 boxes:List (Option FT)
 io:IoD:=.none
abbrev Dm:List PD→Type
 |[]=>Unit
 | .data _ t::r=>t.ct.D×Dm r
 |_::r=>Dm r
abbrev CO:List (Option FT)→Type
 |[]=>Unit
 |some t::r=>t.ct.D×CO r
 |none::r=>CO r
abbrev ioD:IoD→Type
 | .none=>Unit
 | .some t=>t.ct.D
 | .ptr=>Unit
abbrev SD.D (d:SD):Type:=Dm d.slots×CO d.boxes×ioD d.io
def nM:(l:List PD)→Dm l→List AV
 |[],_=>[]
 | .data g t::r,x=> .val g (tt t x.1)::nM r x.2
 | .bot::r,x=> .bot::nM r x
 | .ptr s off::r,x=> .one (.ptr s off)::nM r x
 | .fn f::r,x=> .one (.fn f)::nM r x
def wP:(l:List (Option FT))→CO l→List (Option (List AC))
 |[],_=>[]
 |some t::r,x=>some (tt t x.1)::wP r x.2
 |none::r,x=>none::wP r x
def T7:(o:IoD)→ioD o→List AC
 | .none,_=>[]
 | .some t,x=>tt t x
 | .ptr,_=>[.ptr 0 0]
def SD.enc (d:SD)(x:d.D):AS:=⟨nM d.slots x.1,wP d.boxes x.2.1,0,List.replicate d.slots.length false,T7 d.io x.2.2⟩
def AV.Rj:AV→Bool
 | .val false [.bot]=>true
 |_=>false
def AV.Rk (s off:Nat):AV→Bool
 | .val false [.ptr s' off']=>s==s'&&off==off'
 |_=>false
def AV.SK (f:Nat):AV→Bool
 | .val false [.fn f']=>f==f'
 |_=>false
def gG:(l:List PD)→List AV→Option (Dm l)
 |[],[]=>some ()
 | .data g t::r,.val g' cs::vs=>bif g==g' then(match KS t cs with|some (x,[])=>(gG r vs).bind λy=>some (x,y)|_=>none) else none
 | .bot::r,v::vs=>bif v.Rj then gG r vs else none
 | .ptr s off::r,v::vs=>bif v.Rk s off then gG r vs else none
 | .fn f::r,v::vs=>bif v.SK f then gG r vs else none
 |_,_=>none
def lT:(l:List (Option FT))→List (Option (List AC))→Option (CO l)
 |[],[]=>some ()
 |some t::r,some cs::bs=>match KS t cs with|some (x,[])=>(lT r bs).bind λy=>some (x,y)|_=>none
 |none::r,none::bs=>lT r bs
 |_,_=>none
def Px:List AC→Bool
 |[.ptr 0 0]=>true
 |_=>false
def Mg:(o:IoD)→List AC→Option (ioD o)
 | .none,[]=>some ()
 | .some t,cs=>match KS t cs with|some (x,[])=>some x|_=>none
 | .ptr,cs=>bif Px cs then some () else none
 |_,_=>none
def SD.dec (d:SD)(st:AS):Option d.D:=
 bif st.ep==0&&st.iss==List.replicate d.slots.length false then
  (gG d.slots st.slots).bind λx=>(lT d.boxes st.boxes).bind λy=>(Mg d.io st.io).bind λz=>some (x,y,z)
 else none
structure bG where
 sd:SD
 run:{R:Type}→sd.D→(Ex→AS→Option R)→Option R
abbrev bN:=Nat→bG
def bG.go {R:Type}(l:bG)(st:AS)(K:Ex→AS→Option R):Option R:=aa (l.sd.dec st) λx=>l.run x K
def bG.none:bG:=⟨⟨[],[],.none⟩,λ_ _=>Option.none⟩
def bN.nil:bN:=λ_=>bG.none
def bN.add (Λ:bN)(k:Nat)(l:bG):bN:=λj=>bif j==k then l else Λ j
section
variable {R:Type} (E:Env) (Γ:bH) (an:An)
def wZ (o:Oper)(x:Operand)(st:AS)(K:AS→Option R):Option R:=
 match o.dst with
 |some d=>if an.mv.contains d then K ((st.take x).2.put o.dst (st.take x).1) else K (st.put o.dst (st.rd x))
 |none=>none
def pJ (o:Oper)(x:Operand)(st:AS)(K:AS→Option R):Option R:=
 match st.take x with
 |(.val false [.nilsl],_)=>match E.sl o.type with
  |some e=>K (st.put o.dst (.one (bif alz an o then .nilsl else .sl (.own none) e [])))
  |none=>none
 |(v,st')=>K (st'.put o.dst v)
def zn (o:Oper)(c a b:Operand)(st:AS)(K:AS→Option R):Option R:=
 match st.rd c with
 | .val false [.bool t]=>match st.rd a,st.rd b with
   | .val false [.bool x],.val false [.bool y]=>K (st.put o.dst (.one (.bool (cond t x y))))
   |va,vb=>cond t (K (st.put o.dst va)) (K (st.put o.dst vb))
 |_=>none
def xh (o:Oper)(T:TypeId)(st:AS)(K:AS→Option R):Option R:=
 match o.dst,gJ E.ty T with
 |some d,some sh=>match nth st.boxes d with
  |some none=>K ((st.dG d (some (cellsOf sh.ct (.own none) sh.ct.zero))).put o.dst (.one (.ptr d 0)))
  |_=>none
 |_,_=>none
def Jr (o:Oper)(x:Operand)(st:AS)(K:AS→Option R):Option R:=
 match o.dst,st.take x with
 |some d,(.val _ cs,st')=>
  match nth st'.boxes d with
  |some none=>if cs.all AC.Cp then K ((st'.dG d (some cs)).put o.dst (.one (.ptr d 0))) else none
  |_=>none
 |_,_=>none
def KQ (ep:Nat)(r:gC)(t:Nat)(e:CT)(i:Int):Nat→List AC→List AC
 |_,[]=>[]
 |p,.sl _ e' xs::cs=> .sl (.nest ep r t e i p) e' xs::KQ ep r t e i (p+1) cs
 |p,c::cs=>c::KQ ep r t e i (p+1) cs
def Vi (o:Oper)(ep:Nat)(fl:lh)(e:CT)(i:Int)(off:Nat)(cs:List AC):List AC:=
 match fl,o.dst with
 | .loc _ (some (r,t)),some d=>bif an.nest.contains d then KQ ep r t e i off cs else cs
 |_,_=>cs
def ye (o:Oper)(sh:Shape)(fl:lh)(e:CT)(i:Int)(off:Nat)(st:AS)(K:AS→Option R):Option R:=
 match fl with
 | .loc _ (some (r,t))=>
   match st.dV r with
   |some (.sl (.own (some t')) e' ys)=>
    if h:e'=e then
     if t'=t∧off+sh.ct.size≤e.size then
      aa (idx (h▸ys:List e.D) i) λy=>K (st.put o.dst (.val sh.agg (((cellsOf e (.loc st.ep none) y).drop off).take sh.ct.size)))
     else none
    else none
   |_=>none
 |_=>none
def xd (o:Oper)(sh:Shape)(fl:lh)(e:CT)(i:Int)(off:Nat)(st:AS)(K:AS→Option R):Option R:=
 match fl with
 | .loc _ (some (r,t))=>
   match st.dV r with
   |some (.sl (.own (some t')) e' ys)=>
    if h:e'=e then
     if t'=t∧off=0∧sh.ct=e then
      aa (idx (h▸ys:List e.D) i) λy=>K ((st.dC r (.sl (.holed (some t) i (some st.ep)) e (h▸ys))).put o.dst (.val sh.agg (cellsOf e (.own none) y)))
     else none
    else none
   |_=>none
 |_=>none
def qL (o:Oper)(T:TypeId)(p:Operand)(st:AS)(K:AS→Option R):Option R:=
 match gJ E.ty T,st.rd p with
 |some sh,.val false [.ptr s off]=>
  match (nth st.boxes s).getD none with
  |some cs=>
   if off+sh.ct.size≤cs.length then
    match o.dst with
    |some d=>
     if an.mv.contains d then
      K ((st.dG s (some (ck cs off (aI st.ep ((cs.drop off).take sh.ct.size))))).put o.dst (.val sh.agg ((cs.drop off).take sh.ct.size)))
     else K (st.put o.dst (.val sh.agg (pK st.ep (.box s) off ((cs.drop off).take sh.ct.size))))
    |none=>none
   else none
  |none=>none
 |some sh,.val false [.elt fl e x i off]=>
  if CE an o then xd o sh fl e i off st K
  else if fl.live st.ep then
   if off+sh.ct.size≤e.size then K (st.put o.dst (.val sh.agg (Vi an o st.ep fl e i off (((cellsOf e fl.bare x).drop off).take sh.ct.size)))) else none
  else ye o sh fl e i off st K
 |_,_=>none
def rP (T:TypeId)(p x:Operand)(st:AS)(K:AS→Option R):Option R:=
 match gJ E.ty T,st.rd p with
 |some sh,.val false [.ptr s off]=>
  match st.take x with
  |(.val _ vs,st')=>
   match (nth st'.boxes s).getD none with
   |some cs=>
    if vs.length=sh.ct.size∧vs.all AC.Cp then
     if off+sh.ct.size≤cs.length then K (st'.dG s (some (ck cs off vs))) else none
    else none
   |none=>none
  |_=>none
 |some sh,.val false [.elt (.loc _ (some (r,t))) e _ i off]=>
  match st.take x with
  |(.val _ vs,st')=>
   if vs.length=sh.ct.size∧off+sh.ct.size≤e.size then st'.kX r t e i off vs K else none
  |_=>none
 |_,_=>none
def uQ (o:Oper)(S:TypeId)(p:Operand)(f:Nat)(st:AS)(K:AS→Option R):Option R:=
 match gJ E.ty S,st.rd p with
 |some ⟨true,_,offs⟩,.val false [.ptr s off]=>match nth offs f with|some (fo,_)=>K (st.put o.dst (.one (.ptr s (off+fo))))|none=>none
 |some ⟨true,_,offs⟩,.val false [.elt fl e x i off]=>match nth offs f with|some (fo,_)=>K (st.put o.dst (.one (.elt fl e x i (off+fo))))|none=>none
 |_,_=>none
def ja (o:Oper)(T:TypeId)(x i:Operand)(st:AS)(K:AS→Option R):Option R:=
 match E.sl T,(st.rd x).fresh st,st.rd i with
 |some e',.val false [.sl fl e xs],.val false [.int _ n]=>
  if e'=e∧fl.live st.ep then aa (idx xs n) λy=>K (st.put o.dst (.one (.elt fl e y n 0))) else none
 |_,_,_=>none
def wA (o:Oper)(T:TypeId)(x i:Operand)(st:AS)(K:AS→Option R):Option R:=
 match st.rd x,st.rd i with
 | .val false [.str s],.val false [.int _ n]=>if E.str T then aa (idx s n) λb=>K (st.put o.dst (.one (.int .u8 b.toNat))) else none
 |_,_=>none
def wu (o:Oper)(T:TypeId)(parts:List (Nat×Operand))(st:AS)(K:AS→Option R):Option R:=
 match gJ E.ty T with
 |some ⟨true,ct,offs⟩=>
  match dm st (parts.map (·.2))with
  |(vs,st')=>
   match rF offs (cellsOf ct (.own none) ct.zero) ((parts.map (·.1)).zip (vs.map AV.cells))with
   |some cs=>K (st'.put o.dst (.val true cs))
   |none=>none
 |_=>none
def ix (o:Oper)(T:TypeId)(len:Nat)(parts:List (Nat×Operand))(st:AS)(K:AS→Option R):Option R:=
 match E.sl T with
 |some e=>
  if parts.length=len∧B5 0 parts∧len≤1000 then
   match dm st (parts.map (·.2))with
   |(vs,st')=>
    match wW e (vs.map AV.cells)with
    |some xs=>K (st'.ln o.dst e xs)
    |none=>none
  else none
 |none=>none
def ku (o:Oper)(T:TypeId)(n c:Operand)(st:AS)(K:AS→Option R):Option R:=
 match E.sl T,st.rd n,st.rd c with
 |some e,.val false [.int .i64 len],.val false [.int .i64 cap]=>
  if 0≤len∧len≤cap then room cap.toNat (K (st.ln o.dst e (List.replicate len.toNat e.zero))) else none
 |_,_,_=>none
def jl (st:AS)(lo hi:Option Operand)(n:Nat)(K:Int→Int→Option R):Option R:=
 match lo.map st.rd,hi.map st.rd with
 |none,none=>K 0 n
 |some (.val false [.int _ a]),none=>K a n
 |none,some (.val false [.int _ b])=>K 0 b
 |some (.val false [.int _ a]),some (.val false [.int _ b])=>K a b
 |_,_=>none
def rK (o:Oper)(T:TypeId)(x:Operand)(lo hi:Option Operand)(st:AS)(K:AS→Option R):Option R:=
 match st.take x,lo.map st.rd,hi with
 |(.val false [.sl (.own _) e xs],st'),some (.val false [.int _ a]),none=>
  if E.sl T=some e then aa (sub xs a xs.length) λxs'=>K (st'.ln o.dst e xs') else none
 |_,_,_=>none
def GH (o:Oper)(fl:lh)(a:Int):lh:=
 match fl,o.dst with
 | .loc ep (some (r,t)),some d=>bif an.nest.contains d then .part ep r t a else .loc ep none
 |fl,_=>fl.bare
def vy (o:Oper)(T:TypeId)(x:Operand)(lo hi:Option Operand)(st:AS)(K:AS→Option R):Option R:=
 if CE an o then rK E o T x lo hi st K else
 match (st.rd x).fresh st with
 | .val false [.str s]=>if E.str T then jl st lo hi s.length λa b=>aa (sub s a b) λs'=>K (st.put o.dst (.one (.str s'))) else none
 | .val false [.sl fl e xs]=>
   if E.sl T=some e∧fl.live st.ep then jl st lo hi xs.length λa b=>aa (sub xs a b) λxs'=>K (st.put o.dst (.one (.sl (GH an o fl a) e xs'))) else none
 |_=>none
def iB (o:Oper)(src dst:TypeId)(x:Operand)(st:AS)(K:AS→Option R):Option R:=
 match gJ E.ty src,gJ E.ty dst,st.rd x with
 |some _,some ⟨false,.int k,_⟩,.val false [.int _ n]=>K (st.put o.dst (.one (.int k (k.wrap n))))
 |some ⟨false,.str,_⟩,some ⟨false,.str,_⟩,.val false [.str s]=>K (st.put o.dst (.one (.str s)))
 |some ⟨false,.str,_⟩,some _,.val false [.str s]=>
  if E.bytes dst then room s.length (K (st.ln o.dst (.int .u8) (cr s))) else none
 |some _,some ⟨false,.str,_⟩,.val false [.sl fl (.int .u8) xs]=>
  if E.bytes src∧fl.live st.ep then K (st.put o.dst (.one (.str (bytesOf xs)))) else none
 |_,_,_=>none
def iD (o:Oper)(t i:Nat)(st:AS)(K:AS→Option R):Option R:=
 match st.get t with
 | .tup vs=>match nth vs i with
   |some (g,cs)=>K ((st.put (some t) (.tup (fD vs i (g,aI 0 cs)))).put o.dst (.val g cs))
   |none=>none
 |_=>none
def Gu (o:Oper)(ts:List TypeId)(args:List Operand)(st:AS)(K:AS→Option R):Option R:=
 match ts,args.map st.rd with
 |[t],[.val false [.str s]]=>if E.str t then K (st.put o.dst (.one (.int .i64 s.length))) else none
 |[t],[.val false [.sl _ _ xs]]=>if(E.sl t).isSome then K (st.put o.dst (.one (.int .i64 xs.length))) else none
 |_,_=>none
def HE (o:Oper)(args:List Operand)(st:AS)(K:AS→Option R):Option R:=
 match args.map st.rd with
 |[.val false [.int k x],.val false [.int _ y]]=>K (st.put o.dst (.one (.int k (if y<x then y else x))))
 |_=>none
def HD (o:Oper)(args:List Operand)(st:AS)(K:AS→Option R):Option R:=
 match args.map st.rd with
 |[.val false [.int k x],.val false [.int _ y]]=>K (st.put o.dst (.one (.int k (if y>x then y else x))))
 |_=>none
def H3 (o:Oper)(ts:List TypeId)(args:List Operand)(st:AS)(K:AS→Option R):Option R:=
 match ts,args.map st.rd with
 |[t,t'],[.val false [.sl (.part ep r tg lo) e xs],.val false [.str s]]=>
  match st.dV r with
  |some (.sl (.own (some tg')) e' ys)=>
   if h:e'=.int .u8 then
    if e=.int .u8∧E.sl t=some (.int .u8)∧E.str t'=true∧ep=st.ep∧tg'=tg then
     K ({st.dC r (.sl (.own (some tg)) (.int .u8) (w3 (h▸ys:List (CT.int .u8).D) lo.toNat (cr (s.take xs.length))))with ep:=st.ep+1}.put o.dst (.one (.int .i64 (min xs.length s.length:Nat))))
    else none
   else none
  |_=>none
 |_,_=>none
def zL (o:Oper)(S:TypeId)(t f:Nat)(st:AS)(K:AS→Option R):Option R:=
 match gJ E.ty S,st.get t,M7 E.fts S f with
 |some ⟨true,ct,offs⟩,.val true cs,some T=>
  match nth offs f,gJ E.ty T with
  |some (fo,n),some sh=>
   if n=sh.ct.size∧cs.length=ct.size∧fo+n≤cs.length then
    K ((st.put (some t) (.val true (ck cs fo (aI st.ep ((cs.drop fo).take n))))).put o.dst (.val sh.agg ((cs.drop fo).take n)))
   else none
  |_,_=>none
 |_,_,_=>none
def rU (o:Oper)(ts:List TypeId)(args:List Operand)(st:AS)(K:AS→Option R):Option R:=
 match ts,args with
 |[t,t'],[s,x]=>
  match st.take s with
  |(.val false [.sl (.own _) e xs],st1)=>
   match st1.take x with
   |(.val false [.sl fl e' ys],st2)=>
    if h:e'=e then
     if E.sl t=some e∧E.sl t'=some e∧fl.Ih st.ep e.flat then
      room (xs.length+ys.length) (K (st2.ln o.dst e (xs++(h▸ys:List e.D))))
     else none
    else none
   |(.val false [.str s],st2)=>
    if h:e=.int .u8 then
     if E.sl t=some e∧E.str t' then room (xs.length+s.length) (K (st2.ln o.dst (.int .u8) ((h▸xs:List (CT.int .u8).D)++cr s))) else none
    else none
   |_=>none
  |_=>none
 |_,_=>none
def CW:Nat→List AC→Option (gC×Nat)
 |_,[]=>none
 |j,.sl (.loc _ (some (r,_))) _ _::_=>some (r,j)
 |j,_::cs=>CW (j+1) cs
def gC.pos:gC→Nat
 | .slot _ j=>j
 | .box _ j=>j
 | .io j=>j
def AS.oc (st:AS):gC→Option (List AC)
 | .slot s _=>match st.get s with| .val _ cs=>some cs|_=>none
 | .box s _=>(nth st.boxes s).getD none
 | .io _=>some st.io
def AS.lq (st:AS)(r:gC)(cs:List AC):AS:=
 match r with
 | .slot s _=>match st.get s with| .val g _=>st.put (some s) (.val g cs)|_=>st
 | .box s _=>st.dG s (some cs)
 | .io _=>{st with io:=cs}
def jd:List AC→List AC→Option (List AC)
 |[],[]=>some []
 | .sl (.loc _ (some (_,t))) _ _::os,.sl (.own (some t')) e xs::ss=>bif t'==t then(jd os ss).bind λr=>some (.sl (.own none) e xs::r) else none
 | .int k n::os,.int _ _::ss=>(jd os ss).bind λr=>some (.int k n::r)
 | .bool b::os,.bool _::ss=>(jd os ss).bind λr=>some (.bool b::r)
 | .str x::os,.str _::ss=>(jd os ss).bind λr=>some (.str x::r)
 |_,_=>none
def wi:List AC→List AC→List AC→Option (List AC)
 |[],[],[]=>some []
 | .sl (.loc _ (some (_,t'))) _ _::os,.sl (.own (some t)) _ _::ss,.sl (.own _) e ys::bs=>bif t==t' then(wi os ss bs).bind λr=>some (.sl (.own (some t)) e ys::r) else none
 | .int _ _::os,.int k n::ss,.int _ _::bs=>(wi os ss bs).bind λr=>some (.int k n::r)
 | .bool _::os,.bool b::ss,.bool _::bs=>(wi os ss bs).bind λr=>some (.bool b::r)
 | .str _::os,.str x::ss,.str _::bs=>(wi os ss bs).bind λr=>some (.str x::r)
 |_,_,_=>none
def AV.eA:AV→Bool
 | .val _ cs=>cs.all AC.eA
 | .tup vs=>vs.all λx=>x.2.all AC.eA
def Ju (st:AS)(x:Operand):Option (AV×AS):=
 match st.rd x with
 | .val g cs=>
   match CW 0 cs with
   |some (r,j)=>
    match st.oc r with
    |some csO=>
     match jd cs ((csO.drop (r.pos-j)).take cs.length)with
     |some cs'=>some (.val g cs',st.lq r (ck csO (r.pos-j) (aI st.ep ((csO.drop (r.pos-j)).take cs.length))))
     |none=>none
    |none=>none
   |none=>none
 |_=>none
def Iv (o:Oper)(x:Operand)(st:AS)(K:AS→Option R):Option R:=
 match Ju st x with
 |some (v,st')=>K (st'.put o.dst v)
 |none=>none
def rQ (T:TypeId)(p x:Operand)(st:AS)(K:AS→Option R):Option R:=
 match gJ E.ty T,st.rd p with
 |some sh,.val false [.ptr s off]=>
  match Ju st x with
  |some (.val _ vs,st')=>
   match (nth st'.boxes s).getD none with
   |some cs=>
    if vs.length=sh.ct.size∧vs.all AC.Cp then
     if off+sh.ct.size≤cs.length then K (st'.dG s (some (ck cs off vs))) else none
    else none
   |none=>none
  |_=>none
 |_,_=>none
def IE (o:Oper)(f:Nat)(g:Bool)(cs:List AC)(xs:List Operand)(st:AS)(K:AS→Option R):Option R:=
 match cs with
 |[.sl (.nest ep r t en i off) _ _]=>
  match st.oc r with
  |some csO=>
   match (csO.drop r.pos).take 1 with
   |[.sl (.own (some t')) e ys]=>
    bif (ep==st.ep)&&(t'==t)&&(en.size==e.size)&&xs.all (λx=>(st.rd x).eA) then
     aa (idx ys i) λx=>
      match ((cellsOf e (.own none) x).drop off).take 1 with
      |[.sl (.own _) e2 zs]=>
       aa ((Γ f).fn (.val g [.sl (.own none) e2 zs]::xs.map st.rd)) λy=>
        match (Γ f).back y with
        |[.sl (.own _) e3 zs']=>
         match eV e (ck (cellsOf e (.own none) x) off [.sl (.own none) e3 zs'])with
         |some (x',[])=>bif ((Γ f).av y).eA then K ({st.lq r (ck csO r.pos [.sl (.own (some t)) e (ys.set i.toNat x')])with ep:=st.ep+1}.put o.dst ((Γ f).av y)) else none
         |_=>none
        |_=>none
      |_=>none
    else none
   |_=>none
  |none=>none
 |_=>none
def ioC (o:Oper)(f:Nat)(args:List Operand)(st:AS)(K:AS→Option R):Option R:=
 match args with
 |x0::xs=>
  match st.rd x0 with
  | .val g cs=>
    match CW 0 cs with
    |some (r,j)=>
     match st.oc r with
     |some csO=>
      match jd cs ((csO.drop (r.pos-j)).take cs.length)with
      |some cs'=>
       bif xs.all (λx=>(st.rd x).eA) then
        aa ((Γ f).fn (.val g cs'::xs.map st.rd)) λy=>
         match wi cs ((csO.drop (r.pos-j)).take cs.length) ((Γ f).back y)with
         |some seg=>bif ((Γ f).av y).eA then K ({st.lq r (ck csO (r.pos-j) seg)with ep:=st.ep+1}.put o.dst ((Γ f).av y)) else none
         |none=>none
       else none
      |none=>none
     |none=>none
    |none=>IE Γ o f g cs xs st K
  |_=>none
 |[]=>none
def AC.strip:AC→AC
 | .sl (.own _) e xs=> .sl (.own none) e xs
 | .sl (.loc _ _) _ _=> .bot
 | .sl (.nest ..) _ _=> .bot
 | .sl (.part ..) _ _=> .bot
 | .sl (.holed _ i _) e xs=> .sl (.holed none i none) e xs
 | .ptr _ _=> .bot
 | .elt _ _ _ _ _=> .bot
 |c=>c
def AC.Bf:AC→Bool
 | .sl (.own _) _ _=>true
 |c=>c.eA
def wM (o:Oper)(f:Nat)(args:List Operand)(st:AS)(K:AS→Option R):Option R:=
 match args with
 |x0::xs=>
  match st.rd x0 with
  | .val false [.ptr s 0]=>
    match (nth st.boxes s).getD none with
    |some cs=>
     bif cs.all AC.Bf&&xs.all (λx=>(st.rd x).eA) then
      aa ((Γ f).fn (.val true (cs.map AC.strip)::xs.map st.rd)) λy=>
       bif ((Γ f).back y).all AC.Bf&&((Γ f).av y).eA then
        K ({(st.dG s (some (vu (st.ep+1) (st.hH (some s)) 0 ((Γ f).back y)))).ej (some s)with ep:=st.ep+1}.put o.dst ((Γ f).av y))
       else none
     else none
    |none=>none
  |_=>none
 |[]=>none
def yN (o:Oper)(f:Operand)(args:List Operand)(st:AS)(K:AS→Option R):Option R:=
 match st.rd f with
 | .val false [.fn f]=>
   bif (Γ f).bx then wM Γ o f args st K else
   bif (Γ f).io then ioC Γ o f args st K
   else aa ((Γ f).fn (args.map λx=>((st.rd x).fresh st).asArg st.ep)) λr=>cond ((Γ f).sel r) (K ((st.ej o.dst).put o.dst (((Γ f).av r).EB st.ep (st.hH o.dst)))) (K ((st.ej o.dst).put o.dst (((Γ f).alt r).EB st.ep (st.hH o.dst))))
 |_=>none
def yo {R:Type}(op:BinOp)(b:Bool)(K:AC→Option R):Option R:=
 match op with
 | .eql=>K (.bool b)
 | .neq=>K (.bool (!b))
 |_=>none
def vI (o:Oper)(op:BinOp)(T:TypeId)(x y:Operand)(st:AS)(K:AS→Option R):Option R:=
 match st.rd x,st.rd y with
 | .val false [.bool a],.val false [.bool b]=>if E.bool T then Al op (.one (.bool a)) (.one (.bool b)) λc=>K (st.put o.dst (.one c)) else none
 | .val true xs,.val true ys=>match Iy E.eqs T with
   |some ls=>if fits ls xs then Al op (.val true xs) (.val true ys) λc=>K (st.put o.dst (.one c)) else none
   |none=>none
 | .val false [.sl fl _ xs],.val false [.nilsl]=>if(E.sl T).isSome∧fl.live st.ep then(if xs.length=0 then none else yo op false λc=>K (st.put o.dst (.one c))) else none
 | .val false [.nilsl],.val false [.nilsl]=>if(E.sl T).isSome then yo op true λc=>K (st.put o.dst (.one c)) else none
 |a,b=>Al op a b λc=>K (st.put o.dst (.one c))
def cf (o:Oper)(st:AS)(K:AS→Option R):Option R:=
 match o.op with
 | .move x=>wZ an o x st K
 | .assign x=>if u0 an o then Iv o x st K else pJ E an o x st K
 | .pick c a b=>zn o c a b st K
 | .alloc T=>xh E o T st K
 | .box _ x=>Jr o x st K
 | .load T p=>qL E an o T p st K
 | .store T p x=>match o.dst with|none=>(if u0 an o then rQ E T p x st K else rP E T p x st K)|some _=>none
 | .nilCheck x=>
   match st.rd x with
   | .val false [.ptr s off]=>K (st.put o.dst (.one (.ptr s off)))
   | .val false [.elt fl e y i off]=>K (st.put o.dst (.one (.elt fl e y i off)))
   |_=>none
 | .binOp op T x y _=>vI E o op T x y st K
 | .unOp op _ x=>XV op (st.rd x) λc=>K (st.put o.dst (.one c))
 | .fieldAddr S p f=>uQ E o S p f st K
 | .indexAddr T x i=>ja E o T x i st K
 | .index T x i=>wA E o T x i st K
 | .build T parts=>wu E o T parts.toList st K
 | .buildSlice T len parts=>ix E o T len parts.toList st K
 | .makeSlice T n c=>ku E o T n c st K
 | .slice T x lo hi none=>vy E an o T x lo hi st K
 | .field S (.tmp t) f=>zL E o S t f st K
 | .call {callee:=.builtin .copy,args,argTypes}=>H3 E o argTypes.toList args.toList st K
 | .convert src dst x=>iB E o src dst x st K
 | .extract (.tmp t) i=>iD o t i st K
 | .call {callee:=.builtin .len,args,argTypes}=>Gu E o argTypes.toList args.toList st K
 | .call {callee:=.builtin .min,args,..}=>HE o args.toList st K
 | .call {callee:=.builtin .max,args,..}=>HD o args.toList st K
 | .call {callee:=.builtin .append,args,argTypes}=>rU E o argTypes.toList args.toList st K
 | .call {callee:=.value f,args,..}=>yN Γ o f args.toList st K
 |_=>none
def eZ (ops:List Oper)(o:Oper)(st:AS)(K:AS→Option R):Option R:=
 match o.guard with
 |none=>cf E Γ an o st K
 |some (j,want)=>
  match (nth ops j).bind (·.dst)with
  |some d=>
   match st.get d with
   | .val false [.bool b]=>
     let go (t:Bool):Option R:=
      if t==want then cf E Γ an o (st.put (some d) (.one (.bool t))) K else K ((st.put (some d) (.one (.bool t))).put o.dst (.one .un))
     cond b (go true) (go false)
   | .val false [.un]=>K (st.put o.dst (.one .un))
   |_=>none
  |none=>none
def KT (ops:List Oper):List Oper→AS→(AS→Option R)→Option R
 |[],st,K=>K st
 |o::r,st,K=>eZ E Γ an ops o st λst'=>KT ops r st' K
def fe:Code→Nat
 | .region id _ _=>id
 | .seq a _=>fe a
 | .block _ c=>fe c
 | .loop c=>fe c
 |_=>0
def fT:Code→List Code
 | .seq a b=>fT a++fT b
 | .cond _ a b=>fT a++fT b
 | .block _ c=>fT c
 | .loop c=>c::fT c
 |_=>[]
def az (fn:Func)(k:Nat):Code:=(nth (fT (fn.body.getD .skip)) k).getD .skip
def uc (j:Nat):Nat:=3*(4096*1000003+j)
def gC.zA:gC→Option Nat
 | .slot s j=>bif Nat.ble 4096 j then none else bif Nat.ble 1000000 s then none else some (3*(4096*s+j))
 | .box s j=>bif Nat.ble 4096 j then none else some (3*(4096*s+j)+1)
 | .io j=>bif Nat.ble 4096 j then none else some (uc j)
def AC.U0 (io:List AC)(j t:Nat)(e:CT):Option (List e.D):=
 match nth io j with
 |some (.sl (.own (some t')) e' ys)=>if h:e'=e then bif t'==t then some (h▸ys) else none else none
 |_=>none
def AC.mask (keep:List Nat)(ep:Nat)(io:List AC)(rt:gC):AC→AC
 | .ptr s off=>if keep.contains s then .ptr s off else .bot
 | .sl (.loc e pv) t xs=>
   match pv with
   |some (.io j,n)=>match AC.U0 io j n t with
    |some ys=> .sl (.loc 0 ((gC.zA (.io j)).map λq=>(.io j,q))) t ys
    |none=>if e==ep then .sl (.loc 0 none) t xs else .bot
   |_=>if e==ep then .sl (.loc 0 none) t xs else .bot
 | .sl (.own _) t xs=> .sl (.own rt.zA) t xs
 | .sl (.nest ..) _ _=> .bot
 | .sl (.part ..) _ _=> .bot
 | .sl (.holed _ i _) e xs=> .sl (.holed none i none) e xs
 | .elt _ _ _ _ _=> .bot
 |c=>c
def C6 (keep:List Nat)(ep:Nat)(io:List AC)(f:Nat→gC):Nat→List AC→List AC
 |_,[]=>[]
 |j,c::cs=>c.mask keep ep io (f j)::C6 keep ep io f (j+1) cs
def AV.mask (keep:List Nat)(ep:Nat)(io:List AC)(s:Nat):AV→AV
 | .val g cs=> .val g (C6 keep ep io (.slot s) 0 cs)
 | .tup _=> .bot
def jP (keep:List Nat)(ep:Nat)(io:List AC):Nat→List AV→List AV
 |_,[]=>[]
 |i,v::r=>(if keep.contains i then v.mask keep ep io i else .bot)::jP keep ep io (i+1) r
def jO (keep:List Nat)(ep:Nat)(io:List AC):Nat→List (Option (List AC))→List (Option (List AC))
 |_,[]=>[]
 |i,b::r=>(if keep.contains i then b.map (C6 keep ep io (.box i) 0) else none)::jO keep ep io (i+1) r
def PF (keep:List Nat):Nat→List AC→List AC
 |_,[]=>[]
 |j,c::cs=>(match c with| .sl (.own _) e xs=> .sl (.own (gC.zA (.io j))) e xs| .sl (.holed _ i _) e xs=> .sl (.holed none i none) e xs| .ptr s off=>if keep.contains s then .ptr s off else .bot|c=>bif c.eA then c else .bot)::PF keep (j+1) cs
def AS.mask (keep:List Nat)(st:AS):AS:=
 ⟨jP keep st.ep st.io 0 st.slots,jO keep st.ep st.io 0 st.boxes,0,List.replicate st.slots.length false,PF keep 0 st.io⟩
def getBool (st:AS)(s:Nat):Option Bool:=
 match st.get s with
 | .val false [.bool b]=>some b
 |_=>none
def eG (an:An)(ds:List Nat)(o:Oper):Bool:=
 match o.op with
 | .assign (.const _)=> !u0 an o
 | .assign (.tmp t)=>ds.contains t&& !u0 an o
 | .move _| .load ..=>match o.dst with|some d=> !an.mv.contains d|none=>false
 | .slice ..=> !CE an o
 | .pick ..| .binOp ..| .unOp ..| .fieldAddr ..| .indexAddr ..| .index ..| .nilCheck _=>true
 | .build _ ps=>ps.isEmpty
 | .call {callee:=.builtin .len,..}| .call {callee:=.builtin .min,..}| .call {callee:=.builtin .max,..}=>true
 | .call {callee:=.value _,..}=>true
 |_=>false
def AX (ops:List Oper):List Nat:=ops.filterMap (·.dst)
def AS.vK (st:AS):List Nat→AS
 |[]=>st
 |d::r=>((st.put (some d) .bot).ej (some d)).vK r
def Au (ops:List Oper)(A:List (List Nat)):Nat→List Oper→AS→(AS→Option R)→Option R
 |_,[],st,K=>K st
 |i,o::r,st,K=>bif da E an (nJ an A i 0 ops) o st then eZ E Γ an ops o st λst'=>Au ops A (i+1) r st' K else none
def yS (ops:List Oper)(draw:Bool)(st:AS)(K:AS→Option R):Option R:=
 bif draw then(bif Mh an ops then Au E Γ.calm an ops (LA ops []) 0 ops st K else none) else KT E Γ an ops ops st K
def K0 (id:Nat)(ops:List Oper)(draw:Bool)(st:AS)(K:AS→Option R):Option R:=
 match an.merge id with
 |none=>yS E Γ an ops draw st K
 |some s=>
  if ops.all (eG an (AX ops)) then
   aa (yS E Γ.calm an ops draw st λst'=>getBool st' s) λb=>K ((st.vK (AX ops)).put (some s) (.one (.bool b)))
  else none
def yI (key:List Nat)(B:AS→(Ex→AS→Option R)→Option R):Nat→AS→(Ex→AS→Option R)→Option R
 |0,_,_=>none
 |m+1,st,K=>B st λe st'=>
  match e with
  | .normal=>yI key B m (st'.mask key) K
  |e=>K e (st'.mask key)
def den (Λ:bN):Code→AS→(Ex→AS→Option R)→Option R
 | .skip,st,K=>K .normal st
 | .region id ops draw,st,K=>K0 E Γ an id ops.toList draw st (K .normal)
 | .seq a b,st,K=>den Λ a st λe st'=>match e with| .normal=>den Λ b st' K|e=>K e st'
 | .cond c a b,st,K=>
   match st.rd c with
   | .val false [.bool t]=>cond t (den Λ a st K) (den Λ b st K)
   |_=>none
 | .block id c,st,K=>den Λ c st λe st'=>
   match e with
   | .exit j=>if j==id then K .normal st' else K (.exit j) st'
   |e=>K e st'
 | .loop c,st,K=>
   bif an.peel.contains (fe c) then den Λ c (st.mask (an.mask (fe c))) λe st'=>
    match e with
    | .normal=>(Λ (fe c)).go (st'.mask (an.mask (fe c))) K
    |e=>K e (st'.mask (an.mask (fe c)))
   else(Λ (fe c)).go (st.mask (an.mask (fe c))) K
 | .exit id,st,K=>K (.exit id) st
 | .ret,st,K=>K .ret st
 |_,_,_=>none
end
def GO (st:AS)(E:Env):ResultVar→Option ((Bool×Nat)×Bool×List AC)
 | .tmp t=>match st.get t with| .val g cs=>some ((false,t),g,cs.map AC.strip)|_=>none
 | .cell t T=>match gJ E.ty T,st.get t with
   |some sh,.val false [.ptr s off]=>((nth st.boxes s).getD none).bind λcs=>
    if off+sh.ct.size≤cs.length then some ((true,s),sh.agg,((cs.drop off).take sh.ct.size).map AC.strip) else none
   |_,_=>none
def lp (st:AS)(E:Env):List (Bool×Nat)→List ResultVar→Option (List (Bool×List AC))
 |_,[]=>some []
 |had,r::rs=>(GO st E r).bind λx=>if had.contains x.1 then none else(lp st E (x.1::had) rs).bind λxs=>some (x.2::xs)
def results (E:Env)(rs:List ResultVar)(st:AS):Option AV:=
 match lp st E [] rs with
 |some [(g,cs)]=>some (.val g cs)
 |some vs=>some (.tup vs)
 |none=>none
def start (fn:Func)(args:List AV):AS:=⟨args++List.replicate (fn.ntmps-args.length) .bot,List.replicate (args.length+(fn.ntmps-args.length)) none,0,List.replicate fn.ntmps false,[]⟩
abbrev iq:List (Bool×FT)→Type
 |[]=>Unit
 |[(_,t)]=>t.ct.D
 |(_,t)::r=>t.ct.D×iq r
def gL:(l:List (Bool×FT))→List (Bool×List AC)→Option (iq l)
 |[],[]=>some ()
 |[(g,t)],[(g',cs)]=>bif g==g' then(match KS t cs with|some (x,[])=>some x|_=>none) else none
 |(g,t)::p::r,(g',cs)::vs=>bif g==g' then(match KS t cs with|some (x,[])=>(gL (p::r) vs).bind λy=>some (x,y)|_=>none) else none
 |_,_=>none
def ae0:(l:List (Bool×FT))→iq l→List (Bool×List AC)
 |[],_=>[]
 |[(g,t)],x=>[(g,tt t x)]
 |(g,t)::p::r,x=>(g,tt t x.1)::ae0 (p::r) x.2
def uN (l:List (Bool×FT))(x:iq l):AV:=
 match ae0 l x with
 |[(g,cs)]=> .val g cs
 |vs=> .tup vs
def Kw (E:Env)(Γ:bH)(an:An)(Λ:bN)(fn:Func)(rs:List (Bool×FT))(args:List AV):Option (iq rs):=
 match fn.body with
 |some c=>if args.length=fn.params.size then den E Γ an Λ c (start fn args) λe st=>
  match e with
  | .exit _=>none
  |_=>aa (lp st E [] fn.results.toList) (gL rs)
  else none
 |none=>none
def evalAlt (E:Env)(Γ:bH)(an:An)(Λ:bN)(fn:Func)(rs rs2:List (Bool×FT))(h:iq rs2=iq rs)(args:List AV):Option (Bool×iq rs):=
 match fn.body with
 |some c=>if args.length=fn.params.size then den E Γ an Λ c (start fn args) λe st=>
  match e with
  | .exit _=>none
  |_=>aa (lp st E [] fn.results.toList) λys=>
   match gL rs ys with
   |some y=>some (true,y)
   |none=>match gL rs2 ys with
    |some y=>some (false,cast h y)
    |none=>none
  else none
 |none=>none
def Pt:Nat→List AC→List AC
 |_,[]=>[]
 |j,.sl _ e xs::cs=> .sl (.own (some (uc j))) e xs::Pt (j+1) cs
 |j,c::cs=>c::Pt (j+1) cs
def uZ:Nat→List AC→List AC
 |_,[]=>[]
 |j,.sl _ e xs::cs=> .sl (.loc 0 (some (.io j,uc j))) e xs::uZ (j+1) cs
 |j,c::cs=>c::uZ (j+1) cs
def Ag (fn:Func)(g:Bool)(cs:List AC)(args:List AV):AS:={start fn (.val g (uZ 0 cs)::args)with io:=Pt 0 cs}
def Un (E:Env)(Γ:bH)(an:An)(Λ:bN)(fn:Func)(rs:List (Bool×FT))(t:CT)(args:List AV):Option (iq rs×t.D):=
 match fn.body,args with
 |some c,.val g cs::xs=>if xs.length+1=fn.params.size∧cs.all AC.Bf=true then den E Γ an Λ c (Ag fn g cs xs) λe st=>
  match e with
  | .exit _=>none
  |_=>aa (aa (lp st E [] fn.results.toList) (gL rs)) λr=>
   match eV t st.io with
   |some (x,[])=>some (r,x)
   |_=>none
  else none
 |_,_=>none
def BB:Nat→List AC→List AC
 |_,[]=>[]
 |j,.sl _ e xs::cs=> .sl (.own (some (3*j+1))) e xs::BB (j+1) cs
 |j,c::cs=>c::BB (j+1) cs
def vD (fn:Func)(cs:List AC)(args:List AV):AS:=
 {start fn (.one (.ptr 0 0)::args)with boxes:=some (BB 0 cs)::List.replicate (args.length+(fn.ntmps-(args.length+1))) none,io:=[.ptr 0 0]}
def Q4 (E:Env)(Γ:bH)(an:An)(Λ:bN)(fn:Func)(rs:List (Bool×FT))(t:CT)(args:List AV):Option (iq rs×t.D):=
 match fn.body,args with
 |some c,.val true cs::xs=>if xs.length+1=fn.params.size∧cs.all AC.Bf=true then den E Γ an Λ c (vD fn cs xs) λe st=>
  match e with
  | .exit _=>none
  |_=>aa (aa (lp st E [] fn.results.toList) (gL rs)) λr=>
   match st.io,st.boxes with
   |[.ptr 0 0],some cs'::_=>match eV t cs' with
    |some (x,[])=>some (r,x)
    |_=>none
   |_,_=>none
  else none
 |_,_=>none
end Go.Dn
