import Derived.Test.YthjhpjjgcfedbaaGreatDnData
/- An abstract, heap-free semantics of the model's code, for functions that treat their data by value: definitions. -/
namespace Go.Dn
inductive eL where
 |slot (s j:Nat)|box (s j:Nat)|io (j:Nat)
 deriving DecidableEq
inductive ie where
 |own (tag:Option Nat)
 |loc (ep:Nat) (pv:Option (eL×Nat))
 |arg (k:Bool)
 |nest (ep:Nat) (r:eL) (t:Nat) (e:CT) (i:Int) (off:Nat)
 |part (ep:Nat) (r:eL) (t:Nat) (lo:Int)
 |holed (tag:Option Nat) (i:Int) (ep:Option Nat)
inductive AC where
 |int (k:IntKind) (n:Int)|bool (b:Bool)|str (s:List UInt8)
 |sl (fl:ie) (e:CT) (xs:List e.D)
 |nilsl
 |ptr (s off:Nat)
 |elt (fl:ie) (e:CT) (x:e.D) (i:Int) (off:Nat)
 |fn (f:Nat)
 |un
 |bot
inductive AV where
 |val (agg:Bool) (cs:List AC)
 |tup (vs:List (Bool×List AC))
abbrev AV.one (c:AC):AV:=.val false [c]
abbrev AV.bot:AV:=.val false [.bot]
structure AS where
 slots:List AV
 boxes:List (Option (List AC))
 ep:Nat
 iss:List Bool
 io:List AC
structure Shape where
 agg:Bool
 ct:CT
 offs:List (Nat×Nat):=[]
structure An where
 mask:Nat→List Nat:=λ_=>[]
 merge:Nat→Option Nat:=λ_=>none
 mv:List Nat:=[]
 nest:List Nat:=[]
 mb:Nat→Option Nat:=λ_=>none
 sb:Nat→Option Nat:=λ_=>none
 late:List Nat:=[]
 peel:List Nat:=[]
 nils:List Nat:=[]
 fm:List Nat:=[]
 eb:Nat→Option Nat:=λ_=>none
 es:Nat→Option Nat:=λ_=>none
 er:Nat→Option Nat:=λ_=>none
 cut:List Nat:=[]
def cellsOf:(t:CT)→ie→t.D→List AC
 | .int k,_,n=>[.int k n]
 | .bool,_,b=>[.bool b]
 | .str,_,s=>[.str s]
 | .sl e,fl,xs=>[.sl fl e xs]
 | .pair a b,fl,x=>cellsOf a fl x.1++cellsOf b fl x.2
def dV:(t:CT)→List AC→Option (t.D×List AC)
 | .int k,.int k' n::r=>if k'=k then some (n,r) else none
 | .bool,.bool b::r=>some (b,r)
 | .str,.str s::r=>some (s,r)
 | .sl e,.sl (.own _) e' xs::r=>if h:e'=e then some (h▸xs,r) else none
 | .sl _,.nilsl::r=>some ([],r)
 | .pair a b,cs=>(dV a cs).bind λx=>(dV b x.2).bind λy=>some ((x.1,y.1),y.2)
 |_,_=>none
def nth {α:Type}:List α→Nat→Option α
 |[],_=>none
 |a::_,0=>some a
 |_::l,n+1=>nth l n
def dD {α:Type}:List α→Nat→α→List α
 |[],_,_=>[]
 |_::l,0,v=>v::l
 |a::l,n+1,v=>a::dD l n v
def AS.get (st:AS)(i:Nat):AV:=(nth st.slots i).getD .bot
def AS.put (st:AS)(d:Option Nat)(v:AV):AS:=
 match d with
 |some d=>{st with slots:=dD st.slots d v}
 |none=>st
def tI (d j:Nat):Nat:=3*(4096*d+j)+2
def AS.dJ (st:AS)(d:Option Nat)(j:Nat):Option Nat:=
 match d with
 |some d=>bif (nth st.iss d).getD true then none else bif Nat.ble 4096 j then none else some (tI d j)
 |none=>none
def AS.cM (st:AS)(d:Option Nat):AS:=
 match d with
 |some d=>{st with iss:=dD st.iss d true}
 |none=>st
def AS.ig (st:AS)(d:Option Nat)(e:CT)(xs:List e.D):AS:=
 (st.cM d).put d (.one (.sl (.own (st.dJ d 0)) e xs))
def AC.borrow (ep:Nat)(rt:Option eL):AC→AC
 | .sl (.own tag) e xs=> .sl (.loc ep (match rt,tag with|some r,some t=>some (r,t)|_,_=>none)) e xs
 | .sl (.holed tag _ (some ep0)) e xs=> .sl (.loc ep0 (match rt,tag with|some r,some t=>some (r,t)|_,_=>none)) e xs
 | .sl (.holed _ _ none) _ _=> .bot
 |c=>c
def dS (ep:Nat)(f:Nat→eL):Nat→List AC→List AC
 |_,[]=>[]
 |j,c::cs=>c.borrow ep (some (f j))::dS ep f (j+1) cs
def az (ep:Nat)(cs:List AC):List AC:=cs.map (AC.borrow ep none)
def AV.borrow (ep:Nat)(f:Nat→eL):AV→AV
 | .val g cs=> .val g (dS ep f 0 cs)
 | .tup vs=> .tup (vs.map λx=>(x.1,az ep x.2))
def AV.az (ep:Nat):AV→AV
 | .val g cs=> .val g (Dn.az ep cs)
 | .tup vs=> .tup (vs.map λx=>(x.1,Dn.az ep x.2))
def ofConst:Value→AV
 | .int k n=> .one (.int k n)
 | .bool b=> .one (.bool b)
 | .string s=> .one (.str s.data.toList)
 | .slice none 0 0=> .one .nilsl
 |_=> .bot
def AS.rd (st:AS):Operand→AV
 | .tmp t=>(st.get t).borrow st.ep (.slot t)
 | .const v=>ofConst v
 | .func f=> .one (.fn f)
 | .global _=> .bot
def AS.take (st:AS):Operand→AV×AS
 | .tmp t=>(st.get t,st.put (some t) ((st.get t).az st.ep))
 |x=>(st.rd x,st)
def AS.cq (st:AS)(s:Nat)(b:Option (List AC)):AS:={st with boxes:=dD st.boxes s b}
def AC.asArg (ep:Nat):AC→AC
 | .int k n=> .int k n
 | .bool b=> .bool b
 | .str s=> .str s
 | .sl (.own _) e xs=> .sl (.arg false) e xs
 | .sl (.loc ep' _) e xs=>if ep'==ep then .sl (.arg false) e xs else .bot
 | .sl (.arg _) e xs=> .sl (.arg false) e xs
 | .nilsl=> .nilsl
 | .fn f=> .fn f
 |_=> .bot
def AV.asArg (ep:Nat):AV→AV
 | .val g cs=> .val g (cs.map (AC.asArg ep))
 | .tup _=> .bot
def AC.qj (ep:Nat)(tag:Option Nat):AC→AC
 | .sl (.own _) e xs=> .sl (.own tag) e xs
 | .sl (.arg _) e xs=> .sl (.loc ep none) e xs
 | .sl (.loc _ _) _ _=> .bot
 | .sl (.nest ..) _ _=> .bot
 | .sl (.part ..) _ _=> .bot
 | .sl (.holed _ i _) e xs=> .sl (.holed none i none) e xs
 | .ptr _ _=> .bot
 | .elt _ _ _ _ _=> .bot
 |c=>c
def tt (ep:Nat)(mk:Nat→Option Nat):Nat→List AC→List AC
 |_,[]=>[]
 |j,c::cs=>c.qj ep (mk j)::tt ep mk (j+1) cs
def EH (ep:Nat)(mk:Nat→Option Nat):Nat→List (Bool×List AC)→List (Bool×List AC)
 |_,[]=>[]
 |j,t::ts=>(t.1,tt ep mk j t.2)::EH ep mk (j+t.2.length) ts
def AV.qj (ep:Nat)(mk:Nat→Option Nat):AV→AV
 | .val g cs=> .val g (tt ep mk 0 cs)
 | .tup vs=> .tup (EH ep mk 0 vs)
def AC.sL:AC→Bool
 | .sl (.arg _) _ _=>true
 | .int ..=>true
 | .bool _=>true
 | .str _=>true
 | .fn _=>true
 |_=>false
structure aZ where
 R:Type
 fn:List AV→Option R
 av:R→AV
 io:Bool:=false
 back:R→List AC:=λ_=>[]
 bx:Bool:=false
 pr:Bool:=false
 sel:R→Bool:=λ_=>true
 alt:R→AV:=λ_=> .val false [.bot]
 cur:Bool:=false
 hcur:cur=true→∀y,(back y).all AC.sL=true:=by intro h;cases h
def aZ.res (F:aZ)(y:F.R):AV:=cond (F.sel y) (F.av y) (F.alt y)
abbrev cH:=Nat→aZ
def aZ.dead:aZ:={R:=Unit,fn:=λ_=>none,av:=λ_=> .val false [.bot]}
def cH.calm (Γ:cH):cH:=λf=>bif (Γ f).io||(Γ f).bx||(Γ f).pr then aZ.dead else Γ f
def cH.sE (Γ:cH):cH:=λf=>bif (Γ f).io||(Γ f).pr||((Γ f).bx&& !(Γ f).cur) then aZ.dead else Γ f
def s6 {R:Type}(op:BinOp)(k:IntKind)(x y:Int)(K:AC→Option R):Option R:=
 match op with
 | .add=>K (.int k (k.wrap (x+y)))
 | .sub=>K (.int k (k.wrap (x-y)))
 | .mul=>K (.int k (k.wrap (x*y)))
 | .quo=>if y=0 then none else K (.int k (k.wrap (x.tdiv y)))
 | .rem=>if y=0 then none else K (.int k (x.tmod y))
 | .and=>K (.int k (k.wrap (BitVec.ofInt k.bits x&&&BitVec.ofInt k.bits y).toNat))
 | .or=>K (.int k (k.wrap (BitVec.ofInt k.bits x|||BitVec.ofInt k.bits y).toNat))
 | .xor=>K (.int k (k.wrap (BitVec.ofInt k.bits x^^^BitVec.ofInt k.bits y).toNat))
 | .andNot=>K (.int k (k.wrap (BitVec.ofInt k.bits x&&&~~~ BitVec.ofInt k.bits y).toNat))
 | .eql=>K (.bool (x==y))
 | .neq=>K (.bool (x !=y))
 | .lss=>K (.bool (decide (x<y)))
 | .leq=>K (.bool (decide (x≤y)))
 | .gtr=>K (.bool (decide (x>y)))
 | .geq=>K (.bool (decide (x≥y)))
 |_=>none
def u3 {R:Type}(op:BinOp)(x y:List UInt8)(K:AC→Option R):Option R:=
 match op with
 | .add=>room (x.length+y.length) (K (.str (x++y)))
 | .eql=>K (.bool (x==y))
 | .neq=>K (.bool (!(x==y)))
 | .lss=>K (.bool (Op.bytesLess x y))
 | .leq=>K (.bool (Op.bytesLess x y||x==y))
 | .gtr=>K (.bool (!(Op.bytesLess x y||x==y)))
 | .geq=>K (.bool (!(Op.bytesLess x y)))
 |_=>none
def kR:List AC→List AC→Option Bool
 |[],[]=>some true
 | .int k x::r,.int k' y::r'=>if k=k' then(kR r r').bind λb=>some ((x==y)&&b) else none
 | .bool x::r,.bool y::r'=>(kR r r').bind λb=>some ((x==y)&&b)
 | .str x::r,.str y::r'=>(kR r r').bind λb=>some ((x==y)&&b)
 |_,_=>none
def rL {R:Type}(op:BinOp)(x y:AV)(K:AC→Option R):Option R:=
 match x,y with
 | .val false [.int k a],.val false [.int k' b]=>
   match op with
   | .shl=>if b<0 then none else K (.int k (k.wrap (a*2^(min b.toNat k.bits))))
   | .shr=>if b<0 then none else K (.int k (a.fdiv (2^(min b.toNat k.bits))))
   |_=>if k=k' then s6 op k a b K else none
 | .val false [.str a],.val false [.str b]=>u3 op a b K
 | .val false [.bool a],.val false [.bool b]=>
   match op with
   | .eql=>K (.bool (a==b))
   | .neq=>K (.bool (!(a==b)))
   |_=>none
 | .val true xs,.val true ys=>
   match op with
   | .eql=>ab (kR xs ys) λb=>K (.bool b)
   | .neq=>ab (kR xs ys) λb=>K (.bool (!b))
   |_=>none
 |_,_=>none
def Kh {R:Type}(op:UnOp)(x:AV)(K:AC→Option R):Option R:=
 match op,x with
 | .not,.val false [.bool b]=>K (.bool (!b))
 | .neg,.val false [.int k n]=>K (.int k (k.wrap (0-n)))
 | .xor,.val false [.int k n]=>s6 .xor k (if k.signed then-1 else k.max) n K
 |_,_=>none
def bF (cs:List AC)(off:Nat)(vs:List AC):List AC:=cs.take off++vs++cs.drop (off+vs.length)
def AS.cz (st:AS):eL→Option AC
 | .slot s j=>match st.get s with| .val _ cs=>nth cs j|_=>none
 | .box s j=>((nth st.boxes s).getD none).bind λcs=>nth cs j
 | .io j=>nth st.io j
def AS.cD (st:AS)(r:eL)(c:AC):AS:=
 match r with
 | .slot s j=>match st.get s with| .val g cs=>st.put (some s) (.val g (dD cs j c))|_=>st
 | .box s j=>match (nth st.boxes s).getD none with|some cs=>st.cq s (some (dD cs j c))|none=>st
 | .io j=>{st with io:=dD st.io j c}
def AS.fresh (st:AS):AC→AC
 | .sl (.loc ep (some (r,t))) e xs=>
   bif ep==st.ep then .sl (.loc ep (some (r,t))) e xs else
    match st.cz r with
    |some (.sl (.own (some t')) e' ys)=>if h:e'=e then bif t'==t then .sl (.loc st.ep (some (r,t))) e (h▸ys) else .sl (.loc ep (some (r,t))) e xs else .sl (.loc ep (some (r,t))) e xs
    |_=> .sl (.loc ep (some (r,t))) e xs
 |c=>c
def AV.fresh (st:AS):AV→AV
 | .val g cs=> .val g (cs.map st.fresh)
 | .tup vs=> .tup vs
def AC.now (ep:Nat):AC→Bool
 | .sl (.loc ep' (some _)) _ _=>ep'==ep
 |_=>true
def AS.hC {R:Type}(st:AS)(r:eL)(t:Nat)(e:CT)(i:Int)(off:Nat)(vs:List AC)(K:AS→Option R):Option R:=
 match st.cz r with
 |some (.sl (.own (some t')) e' xs)=>
  if h:e'=e then
   if t'=t then
    ab (idx (h▸xs:List e.D) i) λx=>
     match dV e (bF (cellsOf e (.own none) x) off vs)with
     |some (x',[])=>K {st.cD r (.sl (.own (some t')) e ((h▸xs:List e.D).set i.toNat x'))with ep:=st.ep+1}
     |_=>none
   else none
  else none
 |some (.sl (.holed (some t') i' _) e' xs)=>
  if h:e'=e then
   if t'=t∧off=0 then
    ab (DW (h▸xs:List e.D) i' i) λ_=>
     match dV e vs with
     |some (x',[])=>K {st.cD r (.sl (.own (some t')) e ((h▸xs:List e.D).set i.toNat x'))with ep:=st.ep+1}
     |_=>none
   else none
  else none
 |_=>none
def AV.cells:AV→List AC
 | .val _ cs=>cs
 | .tup _=>[.bot]
def cA (st:AS):List Operand→List AV×AS
 |[]=>([],st)
 |x::xs=>let (v,st1):=st.take x;let (vs,st2):=cA st1 xs;(v::vs,st2)
def pk (e:CT):List (List AC)→Option (List e.D)
 |[]=>some []
 |cs::r=>match dV e cs with
  |some (x,[])=>(pk e r).bind λxs=>some (x::xs)
  |_=>none
def s4:Nat→List (Nat×Operand)→Bool
 |_,[]=>true
 |n,(i,_)::r=>i==n&&s4 (n+1) r
def AC.tB:AC→Bool
 | .bot=>false
 | .un=>false
 |_=>true
def lJ (offs:List (Nat×Nat))(zero:List AC):List (Nat×List AC)→Option (List AC)
 |[]=>some zero
 |(i,cs)::r=>match nth offs i with
  |some (off,n)=>if cs.length=n∧off+n≤zero.length∧cs.all AC.tB then lJ offs (bF zero off cs) r else none
  |none=>none
inductive LK where
 |int|bool|str
 deriving DecidableEq
structure Env where
 ty:List (Nat×Shape)
 eqs:List (Nat×List LK):=[]
 fts:List ((Nat×Nat)×Nat):=[]
def yQ (l:List (Nat×List LK))(t:Nat):Option (List LK):=
 match l with
 |[]=>none
 |(u,sh)::r=>bif u==t then some sh else yQ r t
def fits:List LK→List AC→Bool
 |[],[]=>true
 | .int::ls,.int _ _::r=>fits ls r
 | .bool::ls,.bool _::r=>fits ls r
 | .str::ls,.str _::r=>fits ls r
 |_,_=>false
def Ci (l:List ((Nat×Nat)×Nat))(S f:Nat):Option Nat:=
 match l with
 |[]=>none
 |((u,k),T)::r=>bif u==S&&k==f then some T else Ci r S f
def ei (l:List (Nat×Shape))(t:Nat):Option Shape:=
 match l with
 |[]=>none
 |(u,sh)::r=>bif u==t then some sh else ei r t
def Env.sl (E:Env)(t:Nat):Option CT:=
 match ei E.ty t with
 |some ⟨false,.sl e,_⟩=>some e
 |_=>none
def Env.str (E:Env)(t:Nat):Bool:=
 match ei E.ty t with
 |some ⟨false,.str,_⟩=>true
 |_=>false
def Env.bool (E:Env)(t:Nat):Bool:=
 match ei E.ty t with
 |some ⟨false,.bool,_⟩=>true
 |_=>false
def Env.bytes (E:Env)(t:Nat):Bool:=
 match ei E.ty t with
 |some ⟨false,.sl (.int .u8),[(te,_)]⟩=>match ei E.ty te with|some ⟨false,.int .u8,_⟩=>true|_=>false
 |_=>false
def ie.live (ep:Nat):ie→Bool
 | .loc ep' _=>ep'==ep
 | .arg _=>true
 | .own _=>false
 | .nest ..=>false
 | .part ..=>false
 | .holed ..=>false
def ie.uQ (ep:Nat)(flat:Bool):ie→Bool
 | .loc ep' _=>ep'==ep&&flat
 | .arg _=>flat
 | .own _=>true
 | .nest ..=>false
 | .part ..=>false
 | .holed ..=>false
def ie.bare:ie→ie
 | .loc ep _=> .loc ep none
 |f=>f
def AC.dg:AC→Bool
 | .int _ _=>true
 | .bool _=>true
 | .str _=>true
 | .fn _=>true
 |_=>false
def tm:Operand→List Nat
 | .tmp t=>[t]
 |_=>[]
def yv (l:List Operand):List Nat:=l.flatMap tm
def ra (an:An)(o:Oper):Bool:=
 match o.dst with
 |some d=>an.mv.contains d&&(an.mb d).isNone
 |none=>false
def RI (an:An)(o:Oper):Bool:=
 match o.dst with
 |some d=>an.nils.contains d
 |none=>false
def nU (an:An)(o:Oper):Bool:=
 match o.op with
 | .assign (.tmp s)=>an.late.contains s
 | .store _ _ (.tmp s)=>an.late.contains s
 |_=>false
def Sk:Option Operand→List Nat
 |some x=>tm x
 |none=>[]
def bQ (o:Oper):List Nat:=
 match o.op with
 | .move x=>tm x
 | .assign x=>tm x
 | .pick c a b=>tm c++tm a++tm b
 | .box _ x=>tm x
 | .load _ p=>tm p
 | .store _ p x=>tm p++tm x
 | .nilCheck x=>tm x
 | .binOp _ _ x y _=>tm x++tm y
 | .unOp _ _ x=>tm x
 | .fieldAddr _ p _=>tm p
 | .indexAddr _ x i=>tm x++tm i
 | .index _ x i=>tm x++tm i
 | .build _ parts=>yv (parts.toList.map (·.2))
 | .buildSlice _ _ parts=>yv (parts.toList.map (·.2))
 | .makeSlice _ n c=>tm n++tm c
 | .slice _ x lo hi none=>tm x++Sk lo++Sk hi
 | .convert _ _ x=>tm x
 | .extract (.tmp t) _=>[t]
 | .call {callee:=.builtin _,args,..}=>yv args.toList
 | .call {callee:=.value f,args,..}=>tm f++yv args.toList
 |_=>[]
def qZ (an:An)(o:Oper):Bool:=
 match o.op with
 | .move _=>match o.dst with|some d=>an.mv.contains d|none=>false
 | .assign _=>true
 | .box ..=>true
 | .build ..=>true
 | .buildSlice ..=>true
 | .store ..=>true
 | .extract ..=>match o.dst with|some d=>an.mv.contains d|none=>false
 | .call {callee:=.builtin .append,..}=>true
 |_=>false
def qY (an:An)(o:Oper):Bool:=
 match o.op,o.dst,o.guard with
 | .load _ (.tmp q),some d,none=>an.mv.contains d&&(an.mb d).isNone&&(an.eb q).isSome
 |_,_,_=>false
def oA (an:An)(o:Oper):Bool:=
 match o.op,o.dst,o.guard with
 | .load _ (.tmp q),some d,none=> !an.mv.contains d&& !an.fm.contains d&&(an.sb q).isSome
 |_,_,_=>false
def rb (an:An)(o:Oper):List Nat:=
 match o.op with
 | .alloc _=>o.dst.toList
 | .box ..=>o.dst.toList
 | .load _ p=>match o.dst with|some d=>bif an.mv.contains d then(an.mb d).toList++(bif qY an o then(match p with| .tmp q=>(an.eb q).toList|_=>[]) else []) else []|none=>[]
 | .store _ (.tmp p) _=>(an.sb p).toList
 | .call {callee:=.value _,args,..}=>(match args.toList with| .tmp q::_=>(an.sb q).toList|_=>[])
 |_=>[]
def gv (an:An)(o:Oper):Bool:=
 match o.op with
 | .move _=>true
 | .load ..=>(match o.dst with|some d=> !an.mv.contains d||(an.mb d).isSome|none=>false)||qY an o
 | .extract (.tmp _) _=>true
 | .store _ (.tmp p) _=>(an.sb p).isSome&& !nU an o
 | .assign _=> !nU an o
 | .pick ..| .alloc _| .box ..| .nilCheck _| .binOp ..| .unOp ..| .fieldAddr ..| .indexAddr ..| .index ..| .build ..| .buildSlice ..| .makeSlice ..| .convert ..=>true
 | .slice _ _ _ _ none=> !ra an o
 | .call {callee:=.builtin .len,..}| .call {callee:=.builtin .min,..}| .call {callee:=.builtin .max,..}| .call {callee:=.builtin .append,..}=>true
 | .call {callee:=.value _,..}=>true
 |_=>false
def writes (an:An)(o:Oper):List Nat:=o.dst.toList++(bif qZ an o then bQ o else [])
def AV.now (ep:Nat):AV→Bool
 | .val _ cs=>cs.all (AC.now ep)
 | .tup _=>true
def AC.fb:AC→Bool
 | .int ..=>true
 | .bool _=>true
 | .str _=>true
 | .fn _=>true
 | .ptr ..=>true
 |_=>false
def AV.fb:AV→Bool
 | .val _ cs=>cs.all AC.fb
 | .tup _=>false
def qI (E:Env)(T:TypeId)(st:AS)(s off:Nat):Bool:=
 match ei E.ty T,(nth st.boxes s).getD none with
 |some sh,some cs=>((cs.drop off).take sh.ct.size).all AC.fb
 |_,_=>false
def Dd (an:An)(o:Oper):Bool:=match o.dst with|some d=>an.fm.contains d|none=>false
def oU (an:An)(o:Oper):Bool:=
 match o.op,o.dst,o.guard with
 | .load _ (.tmp _),some d,none=>an.mv.contains d&&(an.mb d).isSome
 |_,_,_=>false
def wz (an:An)(o:Oper):Bool:=
 match o.op,o.dst,o.guard with
 | .load _ (.tmp _),some d,none=> !an.mv.contains d&&an.fm.contains d
 |_,_,_=>false
def HQ (an:An)(o:Oper):List Nat:=
 match o.op,o.dst with
 | .load ..,some d=>(an.er d).toList
 | .call {callee:=.value _,..},some d=>(an.er d).toList
 |_,_=>[]
def AC.Jq (l:List Nat):AC→Bool
 | .sl (.loc _ (some (.slot b _,_))) _ _=>l.contains b
 | .sl (.loc _ _) _ _=>false
 |_=>true
def tz (l:List Nat)(st:AS):Operand→Bool
 | .tmp t=>(match st.get t with| .val _ cs=>cs.all (AC.Jq l)| .tup _=>true)
 |_=>true
def Ia (an:An)(X l:List Nat)(st:AS)(xs:List Operand)(q:Nat):AV→Bool
 | .val false [.ptr s _]=> !X.contains s&&an.sb q==some s&&(match (nth st.boxes s).getD none with|some cs=>cs.all AC.sL|none=>true)&&xs.all (tz l st)
 |_=>true
def AV.FI:AV→Bool
 | .val false [.ptr _ _]=>false
 |_=>true
def jS (an:An)(X l:List Nat)(st:AS):List Operand→Bool
 | .tmp q::xs=>Ia an X l st xs q (st.rd (.tmp q))
 |x::_=>(st.rd x).FI
 |[]=>true
def bM (E:Env)(an:An)(X:List Nat)(o:Oper)(st:AS):Bool:=
 match o.op with
 | .move x=> !Dd an o||(st.rd x).fb
 | .indexAddr _ x _=>(st.rd x).now st.ep||(match st.rd x with| .val _ [.sl (.loc _ (some (.box b _,_))) _ _]=> !X.contains b|_=>false)
 | .slice _ x _ _ none=>(st.rd x).now st.ep
 | .call {callee:=.value _,args,..}=>jS an X (HQ an o) st args.toList&&args.toList.all λx=>(st.rd x).now st.ep
 | .load T p=>match st.rd p with
   | .val false [.ptr s off]=> !X.contains s&&(match o.dst with|some d=> !an.mv.contains d||an.mb d==some s|none=>true)&&(!Dd an o||qI E T st s off)
   | .val false [.elt fl _ _ _ _]=>(fl.live st.ep||(match fl with
     | .loc _ (some (.slot b _,_))=>(HQ an o).contains b
     | .loc _ (some (.box b _,_))=> !X.contains b
     |_=>false))&& !(Dd an o||oU an o)&& !oA an o&&(!qY an o||(match p,fl with
     | .tmp q,.loc _ (some (.box b _,_))=>an.eb q==some b&& !X.contains b
     |_,_=>false))
   |_=> !(Dd an o||oU an o)
 | .store _ (.tmp p) _=>((an.sb p).isNone&&(an.eb p).isNone&&(an.es p).isNone)||(match st.rd (.tmp p)with
   | .val false [.ptr s _]=> !X.contains s&&an.sb p==some s
   | .val false [.elt (.loc _ (some (.box b _,_))) _ _ _ _]=>an.eb p==some b&&(an.sb p).isNone&&(an.es p).isNone
   | .val false [.elt (.loc _ (some (.slot b _,_))) _ _ _ _]=>an.es p==some b&&(an.sb p).isNone&&(an.eb p).isNone
   |_=>false)
 | .extract (.tmp t) i=>match st.get t with
   | .tup vs=>match nth vs i with|some x=>x.2.all AC.dg||(match o.dst with|some d=>an.mv.contains d|none=>false)|none=>true
   |_=>true
 |_=>true
def qJ (an:An)(ops:List Oper)(o:Oper):List Nat:=
 (match o.guard with
 |some (j,_)=>((nth ops j).bind (·.dst)).toList
 |none=>[])++HQ an o
def meets (a b:List Nat):Bool:=a.any λx=>b.contains x
def Dm (an:An)(ops:List Oper)(X Y:List Nat)(o p:Oper):Bool:=
 gv an o&&gv an p&& !meets (writes an o) (bQ p++qJ an ops p++writes an p)&& !meets (writes an p) (bQ o++qJ an ops o)&&
 (rb an o).all (λd=>Y.contains d)&&(rb an p).all (λd=>X.contains d)&& !meets (rb an o) (p.dst.toList++rb an p)&& !meets (rb an p) o.dst.toList
def DP (o p:Oper):Bool:=
 match o.op,p.op,o.dst,p.dst,o.guard,p.guard with
 | .extract (.tmp t) i,.extract (.tmp t') j,some d,some d',none,none=>t==t'&& !(i==j)&& !(d==d')&& !(d==t)&& !(d'==t)
 |_,_,_,_,_,_=>false
def DL (an:An)(o p:Oper):Bool:=
 match p.op,p.dst,p.guard with
 | .store _ (.tmp q) (.tmp x),none,none=>((an.eb q).isSome&&(an.es q).isNone||(match an.es q with|some b=>(an.eb q).isNone&& !(b==x)&& !(b==q)&& !meets [b] (o.dst.toList++bQ o)|none=>false))&&(an.sb q).isNone&& !nU an p&&(match o.op,o.dst,o.guard with
   | .move (.tmp t),some d,none=> !an.mv.contains d&&an.fm.contains d&& !(d==q)&& !(d==x)&& !(t==x)&& !(t==q)&& !(d==t)
   | .extract (.tmp t) _,some d,none=> !(d==q)&& !(d==x)&& !(t==x)&& !(t==q)&& !(d==t)
   |_,_,_=>false)
 |_,_,_=>false
def Ei (an:An)(o p:Oper):Bool:=
 (oU an o&&wz an p||wz an o&&oU an p)&& !meets o.dst.toList (p.dst.toList++bQ p)&& !meets p.dst.toList (bQ o)
def Dz (an:An)(o p:Oper):Bool:=oA an o&&qY an p&& !meets o.dst.toList (p.dst.toList++bQ p)&& !meets p.dst.toList (bQ o)
def Jb (an:An)(o p:Oper):Bool:=DP o p||DL an o p||Ei an o p||Dz an o p
def vO (an:An)(ops:List Oper)(X Y:List Nat)(o p:Oper):Bool:=Jb an o p||Dm an ops X Y o p
def oB (o:Oper):List Nat:=(o.after.toList.filter (λe=>Region.binds .any e)).map (·.on)
def AN (a b:List Nat):List Nat:=a.foldl (λs x=>bif s.contains x then s else x::s) b
def AQ:List Oper→List (List Nat)→List (List Nat)
 |[],acc=>acc
 |o::r,acc=>AQ r (acc++[(oB o).foldl (λs j=>AN (j::(nth acc j).getD []) s) []])
def Hd (A:List (List Nat))(i k:Nat):Bool:=((nth A i).getD []).contains k
def Fe (an:An)(A:List (List Nat))(i:Nat)(fl pl:Bool):Nat→List Oper→List Nat
 |_,[]=>[]
 |k,o::r=>(bif !Hd A i k&& !Hd A k i&& !(k==i)&& !(fl&&oU an o)&& !(pl&&qY an o) then rb an o else [])++Fe an A i fl pl (k+1) r
def jv (an:An)(A:List (List Nat))(i k:Nat)(ops:List Oper):List Nat:=Fe an A i (match nth ops i with|some o=>wz an o|none=>false) (match nth ops i with|some o=>oA an o|none=>false) k ops
def xb (an:An)(ops:List Oper)(A:List (List Nat))(i:Nat)(oi:Oper):Nat→List Oper→Bool
 |_,[]=>true
 |j,oj::r=>bif Nat.ble i j then true else(Hd A i j||vO an ops (jv an A j 0 ops) (jv an A i 0 ops) oj oi)&&xb an ops A i oi (j+1) r
def Aq (an:An)(ops:List Oper)(A:List (List Nat)):Nat→List Oper→Bool
 |_,[]=>true
 |i,oi::r=>(oB oi).all (λk=>Nat.blt k i)&&xb an ops A i oi 0 ops&&Aq an ops A (i+1) r
def Bx (an:An)(ops:List Oper):Bool:=Aq an ops (AQ ops []) 0 ops
inductive Ex where
 |normal|ret|exit (id:Nat)
inductive FK where
 |own (tag:Option Nat)|arg|arg0|loc|lio (j t:Nat)|nil
def FK.flag:FK→ie
 | .own t=> .own t
 | .arg=> .arg false
 | .arg0=> .arg true
 | .loc=> .loc 0 none
 | .lio j t=> .loc 0 (some (.io j,t))
 | .nil=> .arg false
def FK.isNil:FK→Bool
 | .nil=>true
 |_=>false
inductive FT where
 |int (k:IntKind)|bool|str|sl (fl:FK) (e:CT)|pair (a b:FT)
abbrev FT.ct:FT→CT
 | .int k=> .int k
 | .bool=> .bool
 | .str=> .str
 | .sl _ e=> .sl e
 | .pair a b=> .pair a.ct b.ct
def ez:(t:FT)→t.ct.D→List AC
 | .int k,n=>[.int k n]
 | .bool,b=>[.bool b]
 | .str,s=>[.str s]
 | .sl fl e,xs=>[bif fl.isNil then .nilsl else .sl fl.flag e xs]
 | .pair a b,x=>ez a x.1++ez b x.2
def FK.fits:FK→ie→Bool
 | .own t,.own t'=>t==t'
 | .arg,.arg k=> !k
 | .arg0,.arg k=>k
 | .loc,.loc 0 none=>true
 | .lio j t,.loc 0 (some (.io j',t'))=>j==j'&&t==t'
 |_,_=>false
def vC:(t:FT)→List AC→Option (t.ct.D×List AC)
 | .int k,.int k' n::r=>if k'=k then some (n,r) else none
 | .bool,.bool b::r=>some (b,r)
 | .str,.str s::r=>some (s,r)
 | .sl fl e,.sl fl' e' xs::r=>if h:e'=e then bif fl.fits fl' then some (h▸xs,r) else none else none
 | .sl fl _,.nilsl::r=>bif fl.isNil then some ([],r) else none
 | .pair a b,cs=>(vC a cs).bind λx=>(vC b x.2).bind λy=>some ((x.1,y.1),y.2)
 |_,_=>none
inductive PD where
 |bot|ptr (s off:Nat)|fn (f:Nat)|data (g:Bool) (t:FT)
inductive OO where
 |none|some (t:FT)|ptr
structure SD where
 slots:List PD
 boxes:List (Option FT)
 io:OO:=.none
abbrev uF:List PD→Type
 |[]=>Unit
 | .data _ t::r=>t.ct.D×uF r
 |_::r=>uF r
abbrev tU:List (Option FT)→Type
 |[]=>Unit
 |some t::r=>t.ct.D×tU r
 |none::r=>tU r
abbrev Sf:OO→Type
 | .none=>Unit
 | .some t=>t.ct.D
 | .ptr=>Unit
abbrev SD.D (d:SD):Type:=uF d.slots×tU d.boxes×Sf d.io
def jx:(l:List PD)→uF l→List AV
 |[],_=>[]
 | .data g t::r,x=> .val g (ez t x.1)::jx r x.2
 | .bot::r,x=> .bot::jx r x
 | .ptr s off::r,x=> .one (.ptr s off)::jx r x
 | .fn f::r,x=> .one (.fn f)::jx r x
def oZ:(l:List (Option FT))→tU l→List (Option (List AC))
 |[],_=>[]
 |some t::r,x=>some (ez t x.1)::oZ r x.2
 |none::r,x=>none::oZ r x
def Ig:(o:OO)→Sf o→List AC
 | .none,_=>[]
 | .some t,x=>ez t x
 | .ptr,_=>[.ptr 0 0]
def SD.enc (d:SD)(x:d.D):AS:=⟨jx d.slots x.1,oZ d.boxes x.2.1,0,List.replicate d.slots.length false,Ig d.io x.2.2⟩
def AV.FC:AV→Bool
 | .val false [.bot]=>true
 |_=>false
def AV.FD (s off:Nat):AV→Bool
 | .val false [.ptr s' off']=>s==s'&&off==off'
 |_=>false
def AV.GJ (f:Nat):AV→Bool
 | .val false [.fn f']=>f==f'
 |_=>false
def eM:(l:List PD)→List AV→Option (uF l)
 |[],[]=>some ()
 | .data g t::r,.val g' cs::vs=>bif g==g' then(match vC t cs with|some (x,[])=>(eM r vs).bind λy=>some (x,y)|_=>none) else none
 | .bot::r,v::vs=>bif v.FC then eM r vs else none
 | .ptr s off::r,v::vs=>bif v.FD s off then eM r vs else none
 | .fn f::r,v::vs=>bif v.GJ f then eM r vs else none
 |_,_=>none
def iC:(l:List (Option FT))→List (Option (List AC))→Option (tU l)
 |[],[]=>some ()
 |some t::r,some cs::bs=>match vC t cs with|some (x,[])=>(iC r bs).bind λy=>some (x,y)|_=>none
 |none::r,none::bs=>iC r bs
 |_,_=>none
def Ec:List AC→Bool
 |[.ptr 0 0]=>true
 |_=>false
def Bv:(o:OO)→List AC→Option (Sf o)
 | .none,[]=>some ()
 | .some t,cs=>match vC t cs with|some (x,[])=>some x|_=>none
 | .ptr,cs=>bif Ec cs then some () else none
 |_,_=>none
def SD.dec (d:SD)(st:AS):Option d.D:=
 bif st.ep==0&&st.iss==List.replicate d.slots.length false then
  (eM d.slots st.slots).bind λx=>(iC d.boxes st.boxes).bind λy=>(Bv d.io st.io).bind λz=>some (x,y,z)
 else none
structure cI where
 sd:SD
 run:{R:Type}→sd.D→(Ex→AS→Option R)→Option R
abbrev cZ:=Nat→cI
def cI.go {R:Type}(l:cI)(st:AS)(K:Ex→AS→Option R):Option R:=ab (l.sd.dec st) λx=>l.run x K
def cI.none:cI:=⟨⟨[],[],.none⟩,λ_ _=>Option.none⟩
def cZ.nil:cZ:=λ_=>cI.none
def cZ.add (Λ:cZ)(k:Nat)(l:cI):cZ:=λj=>bif j==k then l else Λ j
section
variable {R:Type} (E:Env) (Γ:cH) (an:An)
def pq (o:Oper)(x:Operand)(st:AS)(K:AS→Option R):Option R:=
 match o.dst with
 |some d=>if an.mv.contains d then K ((st.take x).2.put o.dst (st.take x).1) else K (st.put o.dst (st.rd x))
 |none=>none
def kO (o:Oper)(x:Operand)(st:AS)(K:AS→Option R):Option R:=
 match st.take x with
 |(.val false [.nilsl],_)=>match E.sl o.type with
  |some e=>K (st.put o.dst (.one (bif RI an o then .nilsl else .sl (.own none) e [])))
  |none=>none
 |(v,st')=>K (st'.put o.dst v)
def qN (o:Oper)(c a b:Operand)(st:AS)(K:AS→Option R):Option R:=
 match st.rd c with
 | .val false [.bool t]=>match st.rd a,st.rd b with
   | .val false [.bool x],.val false [.bool y]=>K (st.put o.dst (.one (.bool (cond t x y))))
   |va,vb=>cond t (K (st.put o.dst va)) (K (st.put o.dst vb))
 |_=>none
def pC (o:Oper)(T:TypeId)(st:AS)(K:AS→Option R):Option R:=
 match o.dst,ei E.ty T with
 |some d,some sh=>match nth st.boxes d with
  |some none=>K ((st.cq d (some (cellsOf sh.ct (.own none) sh.ct.zero))).put o.dst (.one (.ptr d 0)))
  |_=>none
 |_,_=>none
def zw (o:Oper)(x:Operand)(st:AS)(K:AS→Option R):Option R:=
 match o.dst,st.take x with
 |some d,(.val _ cs,st')=>
  match nth st'.boxes d with
  |some none=>if cs.all AC.tB then K ((st'.cq d (some cs)).put o.dst (.one (.ptr d 0))) else none
  |_=>none
 |_,_=>none
def Am (ep:Nat)(r:eL)(t:Nat)(e:CT)(i:Int):Nat→List AC→List AC
 |_,[]=>[]
 |p,.sl _ e' xs::cs=> .sl (.nest ep r t e i p) e' xs::Am ep r t e i (p+1) cs
 |p,c::cs=>c::Am ep r t e i (p+1) cs
def IY (o:Oper)(ep:Nat)(fl:ie)(e:CT)(i:Int)(off:Nat)(cs:List AC):List AC:=
 match fl,o.dst with
 | .loc _ (some (r,t)),some d=>bif an.nest.contains d then Am ep r t e i off cs else cs
 |_,_=>cs
def pY (o:Oper)(sh:Shape)(fl:ie)(e:CT)(i:Int)(off:Nat)(st:AS)(K:AS→Option R):Option R:=
 match fl with
 | .loc _ (some (r,t))=>
   match st.cz r with
   |some (.sl (.own (some t')) e' ys)=>
    if h:e'=e then
     if t'=t∧off+sh.ct.size≤e.size then
      ab (idx (h▸ys:List e.D) i) λy=>K (st.put o.dst (.val sh.agg (((cellsOf e (.loc st.ep none) y).drop off).take sh.ct.size)))
     else none
    else none
   |_=>none
 |_=>none
def mK (o:Oper)(sh:Shape)(fl:ie)(e:CT)(i:Int)(off:Nat)(st:AS)(K:AS→Option R):Option R:=
 match fl with
 | .loc _ (some (r,t))=>
   match st.cz r with
   |some (.sl (.own (some t')) e' ys)=>
    if h:e'=e then
     if t'=t∧off=0∧sh.ct=e then
      ab (idx (h▸ys:List e.D) i) λy=>K ((st.cD r (.sl (.holed (some t) i (some st.ep)) e (h▸ys))).put o.dst (.val sh.agg (cellsOf e (.own none) y)))
     else none
    else none
   |_=>none
 |_=>none
def gU (o:Oper)(T:TypeId)(p:Operand)(st:AS)(K:AS→Option R):Option R:=
 match ei E.ty T,st.rd p with
 |some sh,.val false [.ptr s off]=>
  match (nth st.boxes s).getD none with
  |some cs=>
   if off+sh.ct.size≤cs.length then
    match o.dst with
    |some d=>
     if an.mv.contains d then
      K ((st.cq s (some (bF cs off (az st.ep ((cs.drop off).take sh.ct.size))))).put o.dst (.val sh.agg ((cs.drop off).take sh.ct.size)))
     else K (st.put o.dst (.val sh.agg (dS st.ep (.box s) off ((cs.drop off).take sh.ct.size))))
    |none=>none
   else none
  |none=>none
 |some sh,.val false [.elt fl e x i off]=>
  if ra an o then mK o sh fl e i off st K
  else if fl.live st.ep then
   if off+sh.ct.size≤e.size then K (st.put o.dst (.val sh.agg (IY an o st.ep fl e i off (((cellsOf e fl.bare x).drop off).take sh.ct.size)))) else none
  else pY o sh fl e i off st K
 |_,_=>none
def lS (T:TypeId)(p x:Operand)(st:AS)(K:AS→Option R):Option R:=
 match ei E.ty T,st.rd p with
 |some sh,.val false [.ptr s off]=>
  match st.take x with
  |(.val _ vs,st')=>
   match (nth st'.boxes s).getD none with
   |some cs=>
    if vs.length=sh.ct.size∧vs.all AC.tB then
     if off+sh.ct.size≤cs.length then K (st'.cq s (some (bF cs off vs))) else none
    else none
   |none=>none
  |_=>none
 |some sh,.val false [.elt (.loc _ (some (r,t))) e _ i off]=>
  match st.take x with
  |(.val _ vs,st')=>
   if vs.length=sh.ct.size∧off+sh.ct.size≤e.size then st'.hC r t e i off vs K else none
  |_=>none
 |_,_=>none
def nO (o:Oper)(S:TypeId)(p:Operand)(f:Nat)(st:AS)(K:AS→Option R):Option R:=
 match ei E.ty S,st.rd p with
 |some ⟨true,_,offs⟩,.val false [.ptr s off]=>match nth offs f with|some (fo,_)=>K (st.put o.dst (.one (.ptr s (off+fo))))|none=>none
 |some ⟨true,_,offs⟩,.val false [.elt fl e x i off]=>match nth offs f with|some (fo,_)=>K (st.put o.dst (.one (.elt fl e x i (off+fo))))|none=>none
 |_,_=>none
def fM (o:Oper)(T:TypeId)(x i:Operand)(st:AS)(K:AS→Option R):Option R:=
 match E.sl T,(st.rd x).fresh st,st.rd i with
 |some e',.val false [.sl fl e xs],.val false [.int _ n]=>
  if e'=e∧fl.live st.ep then ab (idx xs n) λy=>K (st.put o.dst (.one (.elt fl e y n 0))) else none
 |_,_,_=>none
def oP (o:Oper)(T:TypeId)(x i:Operand)(st:AS)(K:AS→Option R):Option R:=
 match st.rd x,st.rd i with
 | .val false [.str s],.val false [.int _ n]=>if E.str T then ab (idx s n) λb=>K (st.put o.dst (.one (.int .u8 b.toNat))) else none
 |_,_=>none
def oK (o:Oper)(T:TypeId)(parts:List (Nat×Operand))(st:AS)(K:AS→Option R):Option R:=
 match ei E.ty T with
 |some ⟨true,ct,offs⟩=>
  match cA st (parts.map (·.2))with
  |(vs,st')=>
   match lJ offs (cellsOf ct (.own none) ct.zero) ((parts.map (·.1)).zip (vs.map AV.cells))with
   |some cs=>K (st'.put o.dst (.val true cs))
   |none=>none
 |_=>none
def fy (o:Oper)(T:TypeId)(len:Nat)(parts:List (Nat×Operand))(st:AS)(K:AS→Option R):Option R:=
 match E.sl T with
 |some e=>
  if parts.length=len∧s4 0 parts∧len≤1000 then
   match cA st (parts.map (·.2))with
   |(vs,st')=>
    match pk e (vs.map AV.cells)with
    |some xs=>K (st'.ig o.dst e xs)
    |none=>none
  else none
 |none=>none
def gK (o:Oper)(T:TypeId)(n c:Operand)(st:AS)(K:AS→Option R):Option R:=
 match E.sl T,st.rd n,st.rd c with
 |some e,.val false [.int .i64 len],.val false [.int .i64 cap]=>
  if 0≤len∧len≤cap then room cap.toNat (K (st.ig o.dst e (List.replicate len.toNat e.zero))) else none
 |_,_,_=>none
def fU (st:AS)(lo hi:Option Operand)(n:Nat)(K:Int→Int→Option R):Option R:=
 match lo.map st.rd,hi.map st.rd with
 |none,none=>K 0 n
 |some (.val false [.int _ a]),none=>K a n
 |none,some (.val false [.int _ b])=>K 0 b
 |some (.val false [.int _ a]),some (.val false [.int _ b])=>K a b
 |_,_=>none
def lM (o:Oper)(T:TypeId)(x:Operand)(lo hi:Option Operand)(st:AS)(K:AS→Option R):Option R:=
 match st.take x,lo.map st.rd,hi with
 |(.val false [.sl (.own _) e xs],st'),some (.val false [.int _ a]),none=>
  if E.sl T=some e then ab (sub xs a xs.length) λxs'=>K (st'.ig o.dst e xs') else none
 |_,_,_=>none
def xc (o:Oper)(fl:ie)(a:Int):ie:=
 match fl,o.dst with
 | .loc ep (some (r,t)),some d=>bif an.nest.contains d then .part ep r t a else .loc ep none
 |fl,_=>fl.bare
def nY (o:Oper)(T:TypeId)(x:Operand)(lo hi:Option Operand)(st:AS)(K:AS→Option R):Option R:=
 if ra an o then lM E o T x lo hi st K else
 match (st.rd x).fresh st with
 | .val false [.str s]=>if E.str T then fU st lo hi s.length λa b=>ab (sub s a b) λs'=>K (st.put o.dst (.one (.str s'))) else none
 | .val false [.sl fl e xs]=>
   if E.sl T=some e∧fl.live st.ep then fU st lo hi xs.length λa b=>ab (sub xs a b) λxs'=>K (st.put o.dst (.one (.sl (xc an o fl a) e xs'))) else none
 |_=>none
def fz (o:Oper)(src dst:TypeId)(x:Operand)(st:AS)(K:AS→Option R):Option R:=
 match ei E.ty src,ei E.ty dst,st.rd x with
 |some _,some ⟨false,.int k,_⟩,.val false [.int _ n]=>K (st.put o.dst (.one (.int k (k.wrap n))))
 |some ⟨false,.str,_⟩,some ⟨false,.str,_⟩,.val false [.str s]=>K (st.put o.dst (.one (.str s)))
 |some ⟨false,.str,_⟩,some _,.val false [.str s]=>
  if E.bytes dst then room s.length (K (st.ig o.dst (.int .u8) (cP s))) else none
 |some _,some ⟨false,.str,_⟩,.val false [.sl fl (.int .u8) xs]=>
  if E.bytes src∧fl.live st.ep then K (st.put o.dst (.one (.str (bytesOf xs)))) else none
 |_,_,_=>none
def fB (o:Oper)(t i:Nat)(st:AS)(K:AS→Option R):Option R:=
 match st.get t with
 | .tup vs=>match nth vs i with
   |some (g,cs)=>K ((st.put (some t) (.tup (dD vs i (g,az 0 cs)))).put o.dst (.val g cs))
   |none=>none
 |_=>none
def wT (o:Oper)(ts:List TypeId)(args:List Operand)(st:AS)(K:AS→Option R):Option R:=
 match ts,args.map st.rd with
 |[t],[.val false [.str s]]=>if E.str t then K (st.put o.dst (.one (.int .i64 s.length))) else none
 |[t],[.val false [.sl _ _ xs]]=>if(E.sl t).isSome then K (st.put o.dst (.one (.int .i64 xs.length))) else none
 |_,_=>none
def ye (o:Oper)(args:List Operand)(st:AS)(K:AS→Option R):Option R:=
 match args.map st.rd with
 |[.val false [.int k x],.val false [.int _ y]]=>K (st.put o.dst (.one (.int k (if y<x then y else x))))
 |_=>none
def yd (o:Oper)(args:List Operand)(st:AS)(K:AS→Option R):Option R:=
 match args.map st.rd with
 |[.val false [.int k x],.val false [.int _ y]]=>K (st.put o.dst (.one (.int k (if y>x then y else x))))
 |_=>none
def yC (o:Oper)(ts:List TypeId)(args:List Operand)(st:AS)(K:AS→Option R):Option R:=
 match ts,args.map st.rd with
 |[t,t'],[.val false [.sl (.part ep r tg lo) e xs],.val false [.str s]]=>
  match st.cz r with
  |some (.sl (.own (some tg')) e' ys)=>
   if h:e'=.int .u8 then
    if e=.int .u8∧E.sl t=some (.int .u8)∧E.str t'=true∧ep=st.ep∧tg'=tg then
     K ({st.cD r (.sl (.own (some tg)) (.int .u8) (th (h▸ys:List (CT.int .u8).D) lo.toNat (cP (s.take xs.length))))with ep:=st.ep+1}.put o.dst (.one (.int .i64 (min xs.length s.length:Nat))))
    else none
   else none
  |_=>none
 |_,_=>none
def rk (o:Oper)(S:TypeId)(t f:Nat)(st:AS)(K:AS→Option R):Option R:=
 match ei E.ty S,st.get t,Ci E.fts S f with
 |some ⟨true,ct,offs⟩,.val true cs,some T=>
  match nth offs f,ei E.ty T with
  |some (fo,n),some sh=>
   if n=sh.ct.size∧cs.length=ct.size∧fo+n≤cs.length then
    K ((st.put (some t) (.val true (bF cs fo (az st.ep ((cs.drop fo).take n))))).put o.dst (.val sh.agg ((cs.drop fo).take n)))
   else none
  |_,_=>none
 |_,_,_=>none
def lW (o:Oper)(ts:List TypeId)(args:List Operand)(st:AS)(K:AS→Option R):Option R:=
 match ts,args with
 |[t,t'],[s,x]=>
  match st.take s with
  |(.val false [.sl (.own _) e xs],st1)=>
   match st1.take x with
   |(.val false [.sl fl e' ys],st2)=>
    if h:e'=e then
     if E.sl t=some e∧E.sl t'=some e∧fl.uQ st.ep e.flat then
      room (xs.length+ys.length) (K (st2.ig o.dst e (xs++(h▸ys:List e.D))))
     else none
    else none
   |(.val false [.str s],st2)=>
    if h:e=.int .u8 then
     if E.sl t=some e∧E.str t' then room (xs.length+s.length) (K (st2.ig o.dst (.int .u8) ((h▸xs:List (CT.int .u8).D)++cP s))) else none
    else none
   |_=>none
  |_=>none
 |_,_=>none
def ua:Nat→List AC→Option (eL×Nat)
 |_,[]=>none
 |j,.sl (.loc _ (some (r,_))) _ _::_=>some (r,j)
 |j,_::cs=>ua (j+1) cs
def eL.pos:eL→Nat
 | .slot _ j=>j
 | .box _ j=>j
 | .io j=>j
def AS.jJ (st:AS):eL→Option (List AC)
 | .slot s _=>match st.get s with| .val _ cs=>some cs|_=>none
 | .box s _=>(nth st.boxes s).getD none
 | .io _=>some st.io
def AS.ij (st:AS)(r:eL)(cs:List AC):AS:=
 match r with
 | .slot s _=>match st.get s with| .val g _=>st.put (some s) (.val g cs)|_=>st
 | .box s _=>st.cq s (some cs)
 | .io _=>{st with io:=cs}
def fO:List AC→List AC→Option (List AC)
 |[],[]=>some []
 | .sl (.loc _ (some (_,t))) _ _::os,.sl (.own (some t')) e xs::ss=>bif t'==t then(fO os ss).bind λr=>some (.sl (.own none) e xs::r) else none
 | .int k n::os,.int _ _::ss=>(fO os ss).bind λr=>some (.int k n::r)
 | .bool b::os,.bool _::ss=>(fO os ss).bind λr=>some (.bool b::r)
 | .str x::os,.str _::ss=>(fO os ss).bind λr=>some (.str x::r)
 |_,_=>none
def oD:List AC→List AC→List AC→Option (List AC)
 |[],[],[]=>some []
 | .sl (.loc _ (some (_,t'))) _ _::os,.sl (.own (some t)) _ _::ss,.sl (.own _) e ys::bs=>bif t==t' then(oD os ss bs).bind λr=>some (.sl (.own (some t)) e ys::r) else none
 | .int _ _::os,.int k n::ss,.int _ _::bs=>(oD os ss bs).bind λr=>some (.int k n::r)
 | .bool _::os,.bool b::ss,.bool _::bs=>(oD os ss bs).bind λr=>some (.bool b::r)
 | .str _::os,.str x::ss,.str _::bs=>(oD os ss bs).bind λr=>some (.str x::r)
 |_,_,_=>none
def AV.dg:AV→Bool
 | .val _ cs=>cs.all AC.dg
 | .tup vs=>vs.all λx=>x.2.all AC.dg
def zy (st:AS)(x:Operand):Option (AV×AS):=
 match st.rd x with
 | .val g cs=>
   match ua 0 cs with
   |some (r,j)=>
    match st.jJ r with
    |some csO=>
     match fO cs ((csO.drop (r.pos-j)).take cs.length)with
     |some cs'=>some (.val g cs',st.ij r (bF csO (r.pos-j) (az st.ep ((csO.drop (r.pos-j)).take cs.length))))
     |none=>none
    |none=>none
   |none=>none
 |_=>none
def yN (o:Oper)(x:Operand)(st:AS)(K:AS→Option R):Option R:=
 match zy st x with
 |some (v,st')=>K (st'.put o.dst v)
 |none=>none
def lT (T:TypeId)(p x:Operand)(st:AS)(K:AS→Option R):Option R:=
 match ei E.ty T,st.rd p with
 |some sh,.val false [.ptr s off]=>
  match zy st x with
  |some (.val _ vs,st')=>
   match (nth st'.boxes s).getD none with
   |some cs=>
    if vs.length=sh.ct.size∧vs.all AC.tB then
     if off+sh.ct.size≤cs.length then K (st'.cq s (some (bF cs off vs))) else none
    else none
   |none=>none
  |_=>none
 |_,_=>none
def yU (o:Oper)(f:Nat)(g:Bool)(cs:List AC)(xs:List Operand)(st:AS)(K:AS→Option R):Option R:=
 match cs with
 |[.sl (.nest ep r t en i off) _ _]=>
  match st.jJ r with
  |some csO=>
   match (csO.drop r.pos).take 1 with
   |[.sl (.own (some t')) e ys]=>
    bif (ep==st.ep)&&(t'==t)&&(en.size==e.size)&&xs.all (λx=>(st.rd x).dg) then
     ab (idx ys i) λx=>
      match ((cellsOf e (.own none) x).drop off).take 1 with
      |[.sl (.own _) e2 zs]=>
       ab ((Γ f).fn (.val g [.sl (.own none) e2 zs]::xs.map st.rd)) λy=>
        match (Γ f).back y with
        |[.sl (.own _) e3 zs']=>
         match dV e (bF (cellsOf e (.own none) x) off [.sl (.own none) e3 zs'])with
         |some (x',[])=>bif ((Γ f).av y).dg then K ({st.ij r (bF csO r.pos [.sl (.own (some t)) e (ys.set i.toNat x')])with ep:=st.ep+1}.put o.dst ((Γ f).av y)) else none
         |_=>none
        |_=>none
      |_=>none
    else none
   |_=>none
  |none=>none
 |_=>none
def OK (o:Oper)(f:Nat)(args:List Operand)(st:AS)(K:AS→Option R):Option R:=
 match args with
 |x0::xs=>
  match st.rd x0 with
  | .val g cs=>
    match ua 0 cs with
    |some (r,j)=>
     match st.jJ r with
     |some csO=>
      match fO cs ((csO.drop (r.pos-j)).take cs.length)with
      |some cs'=>
       bif xs.all (λx=>(st.rd x).dg) then
        ab ((Γ f).fn (.val g cs'::xs.map st.rd)) λy=>
         match oD cs ((csO.drop (r.pos-j)).take cs.length) ((Γ f).back y)with
         |some seg=>bif ((Γ f).av y).dg then K ({st.ij r (bF csO (r.pos-j) seg)with ep:=st.ep+1}.put o.dst ((Γ f).av y)) else none
         |none=>none
       else none
      |none=>none
     |none=>none
    |none=>yU Γ o f g cs xs st K
  |_=>none
 |[]=>none
def AC.strip:AC→AC
 | .sl (.own _) e xs=> .sl (.own none) e xs
 | .sl (.loc _ _) _ _=> .bot
 | .sl (.nest ..) _ _=> .bot
 | .sl (.part ..) _ _=> .bot
 | .sl (.holed _ i _) e xs=> .sl (.holed none i none) e xs
 | .ptr _ _=> .bot
 | .elt _ _ _ _ _=> .bot
 |c=>c
def AC.BR:AC→Bool
 | .sl (.own _) _ _=>true
 |c=>c.dg
def AC.mV (k:Bool):AC→Bool
 | .sl (.own _) _ _=>true
 | .sl (.arg k') _ _=>k'==k
 |c=>c.dg
def AC.AJ:AC→AC
 | .sl (.own _) e xs=> .sl (.own none) e xs
 | .sl (.arg _) e xs=> .sl (.arg true) e xs
 |c=>c.strip
def AC.MG (k:Bool)(tag:Option Nat):AC→AC
 | .sl (.own _) e xs=> .sl (.own tag) e xs
 | .sl (.arg _) e xs=> .sl (.arg k) e xs
 |c=>c
def hH (k:Bool)(mk:Nat→Option Nat):Nat→List AC→List AC
 |_,[]=>[]
 |j,c::cs=>c.MG k (mk j)::hH k mk (j+1) cs
def qi (cs:List AC):Bool:=cs.any λc=>match c with| .sl (.arg k) _ _=>k|_=>false
def AC.tT:AC→Bool
 | .sl (.arg k) _ _=> !k
 |c=>c.dg
def AV.tT:AV→Bool
 | .val _ cs=>cs.all AC.tT
 | .tup _=>false
def AS.yb (st:AS):AC→AC
 | .sl (.own _) e xs=> .sl (.arg false) e xs
 | .sl (.arg _) e xs=> .sl (.arg false) e xs
 | .sl (.loc _ (some (.slot b j,t))) _ _=>match st.cz (.slot b j)with
   |some (.sl (.own (some t')) e' ys)=>if t'=t then .sl (.arg false) e' ys else .bot
   |_=> .bot
 | .int k n=> .int k n
 | .bool b=> .bool b
 | .str s=> .str s
 | .fn f=> .fn f
 |_=> .bot
def oz (st:AS):Operand→AV
 | .tmp t=>(match st.get t with| .val g cs=> .val g (cs.map st.yb)|v=>v)
 |x=>st.rd x
def pj (st:AS):Operand→Bool
 | .tmp t=>(match st.get t with| .val _ cs=>(cs.map st.yb).all AC.tT|_=>false)
 |x=>(st.rd x).dg
def AC.G6:AC→Bool
 | .sl (.own _) _ _=>true
 |c=>c.dg
def AV.G6:AV→Bool
 | .val _ cs=>cs.all AC.G6
 | .tup vs=>vs.all λx=>x.2.all AC.G6
def Fc (st:AS)(s:Nat)(cs:List AC):AS:={(st.cq s (some cs)).cM (some s)with ep:=st.ep+1}
def kP (o:Oper)(f:Nat)(args:List Operand)(st:AS)(K:AS→Option R):Option R:=
 match args with
 |x0::xs=>
  match st.rd x0 with
  | .val false [.ptr s 0]=>
    match (nth st.boxes s).getD none with
    |some cs=>
     bif cs.all (AC.mV (qi cs))&&xs.all (pj st) then
      ab ((Γ f).fn (.val true (cs.map AC.AJ)::xs.map (oz st))) λy=>
       bif ((Γ f).back y).all (AC.mV true)&&((Γ f).av y).G6 then
        bif (Γ f).cur&&cs.all AC.sL then
         K (((st.cq s (some (hH (qi cs) (λ_=>none) 0 ((Γ f).back y)))).cM o.dst).put o.dst (((Γ f).av y).qj st.ep (st.dJ o.dst)))
        else
        K (((Fc st s (hH (qi cs) (st.dJ (some s)) 0 ((Γ f).back y))).cM o.dst).put o.dst
          (((Γ f).av y).qj (st.ep+1) ((Fc st s (hH (qi cs) (st.dJ (some s)) 0 ((Γ f).back y))).dJ o.dst)))
       else none
     else none
    |none=>none
  |_=>none
 |[]=>none
def G7 (o:Oper)(f:Nat)(args:List Operand)(st:AS)(K:AS→Option R):Option R:=
 match o.dst with
 |some d=>
  match nth st.boxes d with
  |some none=>
   bif args.all (λx=>(st.rd x).tT) then
    ab ((Γ f).fn (args.map st.rd)) λy=>
     bif ((Γ f).back y).all AC.tT then K ((st.cq d (some ((Γ f).back y))).put (some d) (.one (.ptr d 0))) else none
   else none
  |_=>none
 |none=>none
def ql (o:Oper)(f:Operand)(args:List Operand)(st:AS)(K:AS→Option R):Option R:=
 match st.rd f with
 | .val false [.fn f]=>
   bif (Γ f).bx then kP Γ o f args st K else
   bif (Γ f).pr then G7 Γ o f args st K else
   bif (Γ f).io then OK Γ o f args st K
   else ab ((Γ f).fn (args.map λx=>((st.rd x).fresh st).asArg st.ep)) λr=>cond ((Γ f).sel r) (K ((st.cM o.dst).put o.dst (((Γ f).av r).qj st.ep (st.dJ o.dst)))) (K ((st.cM o.dst).put o.dst (((Γ f).alt r).qj st.ep (st.dJ o.dst))))
 |_=>none
def qm {R:Type}(op:BinOp)(b:Bool)(K:AC→Option R):Option R:=
 match op with
 | .eql=>K (.bool b)
 | .neq=>K (.bool (!b))
 |_=>none
def n8 (o:Oper)(op:BinOp)(T:TypeId)(x y:Operand)(st:AS)(K:AS→Option R):Option R:=
 match st.rd x,st.rd y with
 | .val false [.bool a],.val false [.bool b]=>if E.bool T then rL op (.one (.bool a)) (.one (.bool b)) λc=>K (st.put o.dst (.one c)) else none
 | .val true xs,.val true ys=>match yQ E.eqs T with
   |some ls=>if fits ls xs then rL op (.val true xs) (.val true ys) λc=>K (st.put o.dst (.one c)) else none
   |none=>none
 | .val false [.sl fl _ xs],.val false [.nilsl]=>if(E.sl T).isSome∧fl.live st.ep then(if xs.length=0 then none else qm op false λc=>K (st.put o.dst (.one c))) else none
 | .val false [.nilsl],.val false [.nilsl]=>if(E.sl T).isSome then qm op true λc=>K (st.put o.dst (.one c)) else none
 |a,b=>rL op a b λc=>K (st.put o.dst (.one c))
def bG (o:Oper)(st:AS)(K:AS→Option R):Option R:=
 match o.op with
 | .move x=>pq an o x st K
 | .assign x=>if nU an o then yN o x st K else kO E an o x st K
 | .pick c a b=>qN o c a b st K
 | .alloc T=>pC E o T st K
 | .box _ x=>zw o x st K
 | .load T p=>gU E an o T p st K
 | .store T p x=>match o.dst with|none=>(if nU an o then lT E T p x st K else lS E T p x st K)|some _=>none
 | .nilCheck x=>
   match st.rd x with
   | .val false [.ptr s off]=>K (st.put o.dst (.one (.ptr s off)))
   | .val false [.elt fl e y i off]=>K (st.put o.dst (.one (.elt fl e y i off)))
   |_=>none
 | .binOp op T x y _=>n8 E o op T x y st K
 | .unOp op _ x=>Kh op (st.rd x) λc=>K (st.put o.dst (.one c))
 | .fieldAddr S p f=>nO E o S p f st K
 | .indexAddr T x i=>fM E o T x i st K
 | .index T x i=>oP E o T x i st K
 | .build T parts=>oK E o T parts.toList st K
 | .buildSlice T len parts=>fy E o T len parts.toList st K
 | .makeSlice T n c=>gK E o T n c st K
 | .slice T x lo hi none=>nY E an o T x lo hi st K
 | .field S (.tmp t) f=>rk E o S t f st K
 | .call {callee:=.builtin .copy,args,argTypes}=>yC E o argTypes.toList args.toList st K
 | .convert src dst x=>fz E o src dst x st K
 | .extract (.tmp t) i=>fB o t i st K
 | .call {callee:=.builtin .len,args,argTypes}=>wT E o argTypes.toList args.toList st K
 | .call {callee:=.builtin .min,args,..}=>ye o args.toList st K
 | .call {callee:=.builtin .max,args,..}=>yd o args.toList st K
 | .call {callee:=.builtin .append,args,argTypes}=>lW E o argTypes.toList args.toList st K
 | .call {callee:=.value f,args,..}=>ql Γ o f args.toList st K
 |_=>none
def dj (ops:List Oper)(o:Oper)(st:AS)(K:AS→Option R):Option R:=
 match o.guard with
 |none=>bG E Γ an o st K
 |some (j,want)=>
  match (nth ops j).bind (·.dst)with
  |some d=>
   match st.get d with
   | .val false [.bool b]=>
     let go (t:Bool):Option R:=
      if t==want then bG E Γ an o (st.put (some d) (.one (.bool t))) K else K ((st.put (some d) (.one (.bool t))).put o.dst (.one .un))
     cond b (go true) (go false)
   | .val false [.un]=>K (st.put o.dst (.one .un))
   |_=>none
  |none=>none
def Ao (ops:List Oper):List Oper→AS→(AS→Option R)→Option R
 |[],st,K=>K st
 |o::r,st,K=>dj E Γ an ops o st λst'=>Ao ops r st' K
def cS:Code→Nat
 | .region id _ _=>id
 | .seq a _=>cS a
 | .block _ c=>cS c
 | .loop c=>cS c
 | .cond _ a b=>match cS a with|0=>cS b|n=>n
 |_=>0
def qB (c:Code):Nat:=1000000+2*cS c
def eZ (l:List Nat):Code→List Code
 | .seq a b=>eZ l a++(bif l.contains (cS b) then b::eZ l b else eZ l b)
 | .cond _ a b=>eZ l a++eZ l b
 | .block _ c=>eZ l c
 | .loop c=>eZ l c
 |_=>[]
def kQ (l:List Nat)(fn:Func)(k:Nat):Code:=(nth (eZ l (fn.body.getD .skip)) k).getD .skip
def eo:Code→List Code
 | .seq a b=>eo a++eo b
 | .cond _ a b=>eo a++eo b
 | .block _ c=>eo c
 | .loop c=>c::eo c
 |_=>[]
def aY (fn:Func)(k:Nat):Code:=(nth (eo (fn.body.getD .skip)) k).getD .skip
def ng (j:Nat):Nat:=3*(4096*1000003+j)
def eL.qX:eL→Option Nat
 | .slot s j=>bif Nat.ble 4096 j then none else bif Nat.ble 1000000 s then none else some (3*(4096*s+j))
 | .box s j=>bif Nat.ble 4096 j then none else some (3*(4096*s+j)+1)
 | .io j=>bif Nat.ble 4096 j then none else some (ng j)
def AC.II (io:List AC)(j t:Nat)(e:CT):Option (List e.D):=
 match nth io j with
 |some (.sl (.own (some t')) e' ys)=>if h:e'=e then bif t'==t then some (h▸ys) else none else none
 |_=>none
def AC.mask (keep:List Nat)(ep:Nat)(io:List AC)(rt:eL):AC→AC
 | .ptr s off=>if keep.contains s then .ptr s off else .bot
 | .sl (.loc e pv) t xs=>
   match pv with
   |some (.io j,n)=>match AC.II io j n t with
    |some ys=> .sl (.loc 0 ((eL.qX (.io j)).map λq=>(.io j,q))) t ys
    |none=>if e==ep then .sl (.loc 0 none) t xs else .bot
   |_=>if e==ep then .sl (.loc 0 none) t xs else .bot
 | .sl (.own _) t xs=> .sl (.own rt.qX) t xs
 | .sl (.nest ..) _ _=> .bot
 | .sl (.part ..) _ _=> .bot
 | .sl (.holed _ i _) e xs=> .sl (.holed none i none) e xs
 | .elt _ _ _ _ _=> .bot
 |c=>c
def uk (keep:List Nat)(ep:Nat)(io:List AC)(f:Nat→eL):Nat→List AC→List AC
 |_,[]=>[]
 |j,c::cs=>c.mask keep ep io (f j)::uk keep ep io f (j+1) cs
def AV.mask (keep:List Nat)(ep:Nat)(io:List AC)(s:Nat):AV→AV
 | .val g cs=> .val g (uk keep ep io (.slot s) 0 cs)
 | .tup _=> .bot
def gu (keep:List Nat)(ep:Nat)(io:List AC):Nat→List AV→List AV
 |_,[]=>[]
 |i,v::r=>(if keep.contains i then v.mask keep ep io i else .bot)::gu keep ep io (i+1) r
def gr (keep:List Nat)(ep:Nat)(io:List AC):Nat→List (Option (List AC))→List (Option (List AC))
 |_,[]=>[]
 |i,b::r=>(if keep.contains i then b.map (uk keep ep io (.box i) 0) else none)::gr keep ep io (i+1) r
def En (keep:List Nat):Nat→List AC→List AC
 |_,[]=>[]
 |j,c::cs=>(match c with| .sl (.own _) e xs=> .sl (.own (eL.qX (.io j))) e xs| .sl (.holed _ i _) e xs=> .sl (.holed none i none) e xs| .ptr s off=>if keep.contains s then .ptr s off else .bot|c=>bif c.dg then c else .bot)::En keep (j+1) cs
def AS.mask (keep:List Nat)(st:AS):AS:=
 ⟨gu keep st.ep st.io 0 st.slots,gr keep st.ep st.io 0 st.boxes,0,List.replicate st.slots.length false,En keep 0 st.io⟩
def getBool (st:AS)(s:Nat):Option Bool:=
 match st.get s with
 | .val false [.bool b]=>some b
 |_=>none
def dk (an:An)(ds:List Nat)(o:Oper):Bool:=
 match o.op with
 | .assign (.const _)=> !nU an o
 | .assign (.tmp t)=>ds.contains t&& !nU an o
 | .move _| .load ..=>match o.dst with|some d=> !an.mv.contains d|none=>false
 | .slice ..=> !ra an o
 | .pick ..| .binOp ..| .unOp ..| .fieldAddr ..| .indexAddr ..| .index ..| .nilCheck _=>true
 | .build _ ps=>ps.isEmpty
 | .call {callee:=.builtin .len,..}| .call {callee:=.builtin .min,..}| .call {callee:=.builtin .max,..}=>true
 | .call {callee:=.value _,..}=>true
 |_=>false
def sk (ops:List Oper):List Nat:=ops.filterMap (·.dst)
def AS.om (st:AS):List Nat→AS
 |[]=>st
 |d::r=>((st.put (some d) .bot).cM (some d)).om r
def rM (ops:List Oper)(A:List (List Nat)):Nat→List Oper→AS→(AS→Option R)→Option R
 |_,[],st,K=>K st
 |i,o::r,st,K=>bif bM E an (jv an A i 0 ops) o st then dj E Γ an ops o st λst'=>rM ops A (i+1) r st' K else none
def qH (ops:List Oper)(draw:Bool)(st:AS)(K:AS→Option R):Option R:=
 bif draw then(bif Bx an ops then rM E Γ.sE an ops (AQ ops []) 0 ops st K else none) else Ao E Γ an ops ops st K
def Aw (id:Nat)(ops:List Oper)(draw:Bool)(st:AS)(K:AS→Option R):Option R:=
 match an.merge id with
 |none=>qH E Γ an ops draw st K
 |some s=>
  if ops.all (dk an (sk ops)) then
   ab (qH E Γ.calm an ops draw st λst'=>getBool st' s) λb=>K ((st.om (sk ops)).put (some s) (.one (.bool b)))
  else none
def qp (key:List Nat)(B:AS→(Ex→AS→Option R)→Option R):Nat→AS→(Ex→AS→Option R)→Option R
 |0,_,_=>none
 |m+1,st,K=>B st λe st'=>
  match e with
  | .normal=>qp key B m (st'.mask key) K
  |e=>K e (st'.mask key)
def den (Λ:cZ):Code→AS→(Ex→AS→Option R)→Option R
 | .skip,st,K=>K .normal st
 | .region id ops draw,st,K=>Aw E Γ an id ops.toList draw st (K .normal)
 | .seq a b,st,K=>den Λ a st λe st'=>match e with
   | .normal=>bif an.cut.contains (cS b) then(Λ (qB b)).go (st'.mask (an.mask (qB b))) K else den Λ b st' K
   |e=>K e st'
 | .cond c a b,st,K=>
   match st.rd c with
   | .val false [.bool t]=>cond t (den Λ a st K) (den Λ b st K)
   |_=>none
 | .block id c,st,K=>den Λ c st λe st'=>
   match e with
   | .exit j=>if j==id then K .normal st' else K (.exit j) st'
   |e=>K e st'
 | .loop c,st,K=>
   bif an.peel.contains (cS c) then den Λ c (st.mask (an.mask (cS c))) λe st'=>
    match e with
    | .normal=>(Λ (cS c)).go (st'.mask (an.mask (cS c))) K
    |e=>K e (st'.mask (an.mask (cS c)))
   else(Λ (cS c)).go (st.mask (an.mask (cS c))) K
 | .exit id,st,K=>K (.exit id) st
 | .ret,st,K=>K .ret st
 |_,_,_=>none
end
def xk (st:AS)(E:Env):ResultVar→Option ((Bool×Nat)×Bool×List AC)
 | .tmp t=>match st.get t with| .val g cs=>some ((false,t),g,cs.map AC.strip)|_=>none
 | .cell t T=>match ei E.ty T,st.get t with
   |some sh,.val false [.ptr s off]=>((nth st.boxes s).getD none).bind λcs=>
    if off+sh.ct.size≤cs.length then some ((true,s),sh.agg,((cs.drop off).take sh.ct.size).map AC.strip) else none
   |_,_=>none
def gM (st:AS)(E:Env):List (Bool×Nat)→List ResultVar→Option (List (Bool×List AC))
 |_,[]=>some []
 |had,r::rs=>(xk st E r).bind λx=>if had.contains x.1 then none else(gM st E (x.1::had) rs).bind λxs=>some (x.2::xs)
def results (E:Env)(rs:List ResultVar)(st:AS):Option AV:=
 match gM st E [] rs with
 |some [(g,cs)]=>some (.val g cs)
 |some vs=>some (.tup vs)
 |none=>none
def start (fn:Func)(args:List AV):AS:=⟨args++List.replicate (fn.ntmps-args.length) .bot,List.replicate (args.length+(fn.ntmps-args.length)) none,0,List.replicate fn.ntmps false,[]⟩
abbrev fa:List (Bool×FT)→Type
 |[]=>Unit
 |[(_,t)]=>t.ct.D
 |(_,t)::r=>t.ct.D×fa r
def eI:(l:List (Bool×FT))→List (Bool×List AC)→Option (fa l)
 |[],[]=>some ()
 |[(g,t)],[(g',cs)]=>bif g==g' then(match vC t cs with|some (x,[])=>some x|_=>none) else none
 |(g,t)::p::r,(g',cs)::vs=>bif g==g' then(match vC t cs with|some (x,[])=>(eI (p::r) vs).bind λy=>some (x,y)|_=>none) else none
 |_,_=>none
def Oy:(l:List (Bool×FT))→fa l→List (Bool×List AC)
 |[],_=>[]
 |[(g,t)],x=>[(g,ez t x)]
 |(g,t)::p::r,x=>(g,ez t x.1)::Oy (p::r) x.2
def mX (l:List (Bool×FT))(x:fa l):AV:=
 match Oy l x with
 |[(g,cs)]=> .val g cs
 |vs=> .tup vs
def wv (E:Env)(Γ:cH)(an:An)(Λ:cZ)(fn:Func)(rs:List (Bool×FT))(args:List AV):Option (fa rs):=
 match fn.body with
 |some c=>if args.length=fn.params.size then den E Γ an Λ c (start fn args) λe st=>
  match e with
  | .exit _=>none
  |_=>ab (gM st E [] fn.results.toList) (eI rs)
  else none
 |none=>none
def evalAlt (E:Env)(Γ:cH)(an:An)(Λ:cZ)(fn:Func)(rs rs2:List (Bool×FT))(h:fa rs2=fa rs)(args:List AV):Option (Bool×fa rs):=
 match fn.body with
 |some c=>if args.length=fn.params.size then den E Γ an Λ c (start fn args) λe st=>
  match e with
  | .exit _=>none
  |_=>ab (gM st E [] fn.results.toList) λys=>
   match eI rs ys with
   |some y=>some (true,y)
   |none=>match eI rs2 ys with
    |some y=>some (false,cast h y)
    |none=>none
  else none
 |none=>none
def D8:Nat→List AC→List AC
 |_,[]=>[]
 |j,.sl _ e xs::cs=> .sl (.own (some (ng j))) e xs::D8 (j+1) cs
 |j,c::cs=>c::D8 (j+1) cs
def nT:Nat→List AC→List AC
 |_,[]=>[]
 |j,.sl _ e xs::cs=> .sl (.loc 0 (some (.io j,ng j))) e xs::nT (j+1) cs
 |j,c::cs=>c::nT (j+1) cs
def rF (fn:Func)(g:Bool)(cs:List AC)(args:List AV):AS:={start fn (.val g (nT 0 cs)::args)with io:=D8 0 cs}
def Ik (E:Env)(Γ:cH)(an:An)(Λ:cZ)(fn:Func)(rs:List (Bool×FT))(t:CT)(args:List AV):Option (fa rs×t.D):=
 match fn.body,args with
 |some c,.val g cs::xs=>if xs.length+1=fn.params.size∧cs.all AC.BR=true then den E Γ an Λ c (rF fn g cs xs) λe st=>
  match e with
  | .exit _=>none
  |_=>ab (ab (gM st E [] fn.results.toList) (eI rs)) λr=>
   match dV t st.io with
   |some (x,[])=>some (r,x)
   |_=>none
  else none
 |_,_=>none
def sO:Nat→List AC→List AC
 |_,[]=>[]
 |j,.sl (.own _) e xs::cs=> .sl (.own (some (3*j+1))) e xs::sO (j+1) cs
 |j,c::cs=>c::sO (j+1) cs
def n4 (fn:Func)(cs:List AC)(args:List AV):AS:=
 {start fn (.one (.ptr 0 0)::args)with boxes:=some (sO 0 cs)::List.replicate (args.length+(fn.ntmps-(args.length+1))) none,io:=[.ptr 0 0]}
def Fv (E:Env)(Γ:cH)(an:An)(Λ:cZ)(fn:Func)(rs:List (Bool×FT))(t:FT)(args:List AV):Option (fa rs×t.ct.D):=
 match fn.body,args with
 |some c,.val true cs::xs=>if xs.length+1=fn.params.size∧cs.all (AC.mV true)=true then den E Γ an Λ c (n4 fn cs xs) λe st=>
  match e with
  | .exit _=>none
  |_=>ab (ab (gM st E [(true,0)] fn.results.toList) (eI rs)) λr=>
   match st.io,st.boxes with
   |[.ptr 0 0],some cs'::_=>match vC t (cs'.map AC.strip)with
    |some (x,[])=>some (r,x)
    |_=>none
   |_,_=>none
  else none
 |_,_=>none
def z9 (E:Env)(Γ:cH)(an:An)(Λ:cZ)(fn:Func)(t:FT)(args:List AV):Option t.ct.D:=
 match fn.body with
 |some c=>if args.length=fn.params.size then den E Γ an Λ c (start fn args) λe st=>
  match e with
  | .exit _=>none
  |_=>match fn.results.toList with
   |[.tmp i]=>match st.get i with
    | .val false [.ptr s 0]=>match (nth st.boxes s).getD none with
      |some cs=>if cs.all AC.tT=true then(match vC t (cs.map AC.strip)with|some (x,[])=>some x|_=>none) else none
      |none=>none
    |_=>none
   |_=>none
  else none
 |none=>none
end Go.Dn
