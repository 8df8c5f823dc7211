import Derived.Test.YtgbaemfepmabgaaGreatDnData
/- An abstract, heap-free semantics of the model's code, for functions that treat their data by value: definitions. -/
namespace Go.Dn
inductive jQ where
 |slot (s j:Nat)|box (s j:Nat)|io (j:Nat)
 deriving DecidableEq
inductive pq where
 |own (tag:Option Nat)
 |loc (ep:Nat) (pv:Option (jQ×Nat))
 |arg (k:Bool)
 |nest (ep:Nat) (r:jQ) (t:Nat) (e:CT) (i:Int) (off:Nat)
 |part (ep:Nat) (r:jQ) (t:Nat) (lo:Int)
 |holed (tag:Option Nat) (i:Int) (ep:Option Nat)
inductive AC where
 |int (k:IntKind) (n:Int)|bool (b:Bool)|str (s:List UInt8)
 |sl (fl:pq) (e:CT) (xs:List e.D)
 |nilsl
 |ptr (s off:Nat)
 |elt (fl:pq) (e:CT) (x:e.D) (i:Int) (off:Nat)
 |fn (f:Nat)
 |un
 |bot
inductive AV where
 |val (agg:Bool) (cs:List AC)
 |tup (vs:List (Bool×List AC))
abbrev AV.one (c:AC):AV:=.val false [c]
abbrev AV.bot:AV:=.val false [.bot]
structure AS where
 slots:List AV
 boxes:List (Option (List AC))
 ep:Nat
 iss:List Bool
 io:List AC
structure Shape where
 agg:Bool
 ct:CT
 offs:List (Nat×Nat):=[]
structure An where
 mask:Nat->List Nat:=λ_=>[]
 merge:Nat->Option Nat:=λ_=>none
 mv:List Nat:=[]
 nest:List Nat:=[]
 mb:Nat->Option Nat:=λ_=>none
 sb:Nat->Option Nat:=λ_=>none
 late:List Nat:=[]
 peel:List Nat:=[]
 nils:List Nat:=[]
 fm:List Nat:=[]
 eb:Nat->Option Nat:=λ_=>none
 es:Nat->Option Nat:=λ_=>none
 er:Nat->Option Nat:=λ_=>none
 cut:List Nat:=[]
def cellsOf:(t:CT)->pq->t.D->au AC
 | .int k,_,n=>[.int k n]
 | .bool,_,b=>[.bool b]
 | .str,_,s=>[.str s]
 | .sl e,fl,xs=>[.sl fl e xs]
 | .pair a b,fl,x=>cellsOf a fl x.1++cellsOf b fl x.2
def kH:(t:CT)->au AC->aw (t.D×au AC)
 | .int k,.int k' n::r=>if k'=k then some (n,r) else none
 | .bool,.bool b::r=>some (b,r)
 | .str,.str s::r=>some (s,r)
 | .sl e,.sl (.own _) e' xs::r=>if h:e'=e then some (h▸xs,r) else none
 | .sl _,.nilsl::r=>some ([],r)
 | .pair a b,cs=>(kH a cs).bind λx=>(kH b x.2).bind λy=>some ((x.1,y.1),y.2)
 |_,_=>none
def nth {α:Type}:au α->Nat->aw α
 |[],_=>none
 |a::_,0=>some a
 |_::l,n+1=>nth l n
def gM {α:Type}:au α->Nat->α->au α
 |[],_,_=>[]
 |_::l,0,v=>v::l
 |a::l,n+1,v=>a::gM l n v
def AS.get (st:AS)(i:Nat):AV:=(nth st.slots i).getD .bot
def AS.put (st:AS)(d:aw Nat)(v:AV):AS:=
 match d with
 |some d=>{st with slots:=gM st.slots d v}
 |none=>st
def Gl (d j:Nat):Nat:=3*(4096*d+j)+2
def AS.gQ (st:AS)(d:aw Nat)(j:Nat):aw Nat:=
 match d with
 |some d=>bif (nth st.iss d).getD true then none else bif Nat.ble 4096 j then none else some (Gl d j)
 |none=>none
def AS.e9 (st:AS)(d:aw Nat):AS:=
 match d with
 |some d=>{st with iss:=gM st.iss d true}
 |none=>st
def AS.oK (st:AS)(d:aw Nat)(e:CT)(xs:au e.D):AS:=
 (st.e9 d).put d (.one (.sl (.own (st.gQ d 0)) e xs))
def AC.borrow (ep:Nat)(rt:aw jQ):AC->AC
 | .sl (.own tag) e xs=> .sl (.loc ep (match rt,tag with|some r,some t=>some (r,t)|_,_=>none)) e xs
 | .sl (.holed tag _ (some ep0)) e xs=> .sl (.loc ep0 (match rt,tag with|some r,some t=>some (r,t)|_,_=>none)) e xs
 | .sl (.holed _ _ none) _ _=> .bot
 |c=>c
def hH (ep:Nat)(f:Nat->jQ):Nat->au AC->au AC
 |_,[]=>[]
 |j,c::cs=>c.borrow ep (some (f j))::hH ep f (j+1) cs
def aX (ep:Nat)(cs:au AC):au AC:=cs.map (AC.borrow ep none)
def AV.borrow (ep:Nat)(f:Nat->jQ):AV->AV
 | .val g cs=> .val g (hH ep f 0 cs)
 | .tup vs=> .tup (vs.map λx=>(x.1,aX ep x.2))
def AV.aX (ep:Nat):AV->AV
 | .val g cs=> .val g (Dn.aX ep cs)
 | .tup vs=> .tup (vs.map λx=>(x.1,Dn.aX ep x.2))
def ofConst:Value->AV
 | .int k n=> .one (.int k n)
 | .bool b=> .one (.bool b)
 | .string s=> .one (.str s.data.toList)
 | .slice none 0 0=> .one .nilsl
 |_=> .bot
def AS.rd (st:AS):Operand->AV
 | .tmp t=>(st.get t).borrow st.ep (.slot t)
 | .const v=>ofConst v
 | .func f=> .one (.fn f)
 | .global _=> .bot
def AS.take (st:AS):Operand->AV×AS
 | .tmp t=>(st.get t,st.put (some t) ((st.get t).aX st.ep))
 |x=>(st.rd x,st)
def AS.eu (st:AS)(s:Nat)(b:aw (au AC)):AS:={st with boxes:=gM st.boxes s b}
def AC.asArg (ep:Nat):AC->AC
 | .int k n=> .int k n
 | .bool b=> .bool b
 | .str s=> .str s
 | .sl (.own _) e xs=> .sl (.arg false) e xs
 | .sl (.loc ep' _) e xs=>if ep'==ep then .sl (.arg false) e xs else .bot
 | .sl (.arg _) e xs=> .sl (.arg false) e xs
 | .nilsl=> .nilsl
 | .fn f=> .fn f
 |_=> .bot
def AV.asArg (ep:Nat):AV->AV
 | .val g cs=> .val g (cs.map (AC.asArg ep))
 | .tup _=> .bot
def AC.BC (ep:Nat)(tag:aw Nat):AC->AC
 | .sl (.own _) e xs=> .sl (.own tag) e xs
 | .sl (.arg _) e xs=> .sl (.loc ep none) e xs
 | .sl (.loc _ _) _ _=> .bot
 | .sl (.nest ..) _ _=> .bot
 | .sl (.part ..) _ _=> .bot
 | .sl (.holed _ i _) e xs=> .sl (.holed none i none) e xs
 | .ptr _ _=> .bot
 | .elt _ _ _ _ _=> .bot
 |c=>c
def F8 (ep:Nat)(mk:Nat->aw Nat):Nat->au AC->au AC
 |_,[]=>[]
 |j,c::cs=>c.BC ep (mk j)::F8 ep mk (j+1) cs
def WY (ep:Nat)(mk:Nat->aw Nat):Nat->au (Bool×au AC)->au (Bool×au AC)
 |_,[]=>[]
 |j,t::ts=>(t.1,F8 ep mk j t.2)::WY ep mk (j+t.2.length) ts
def AV.BC (ep:Nat)(mk:Nat->aw Nat):AV->AV
 | .val g cs=> .val g (F8 ep mk 0 cs)
 | .tup vs=> .tup (WY ep mk 0 vs)
def AC.E0:AC->Bool
 | .sl (.arg _) _ _=>true
 | .int ..=>true
 | .bool _=>true
 | .str _=>true
 | .fn _=>true
 |_=>false
structure bg where
 R:Type
 fn:List AV->Option R
 av:R->AV
 io:Bool:=false
 back:R->List AC:=λ_=>[]
 bx:Bool:=false
 pr:Bool:=false
 sel:R->Bool:=λ_=>true
 alt:R->AV:=λ_=> .val false [.bot]
 cur:Bool:=false
 hcur:cur=true->∀y,(back y).all AC.E0=true:=by intro h;cases h
def bg.res (F:bg)(y:F.R):AV:=cond (F.sel y) (F.av y) (F.alt y)
abbrev dm:=Nat->bg
def bg.dead:bg:={R:=Unit,fn:=λ_=>none,av:=λ_=> .val false [.bot]}
def dm.calm (Γ:dm):dm:=λf=>bif (Γ f).io||(Γ f).bx||(Γ f).pr then bg.dead else Γ f
def dm.EN (Γ:dm):dm:=λf=>bif (Γ f).io||(Γ f).pr||((Γ f).bx&& !(Γ f).cur) then bg.dead else Γ f
def FJ {R:Type}(op:BinOp)(k:IntKind)(x y:Int)(K:AC->aw R):aw R:=
 match op with
 | .add=>K (.int k (k.wrap (x+y)))
 | .sub=>K (.int k (k.wrap (x-y)))
 | .mul=>K (.int k (k.wrap (x*y)))
 | .quo=>if y=0 then none else K (.int k (k.wrap (x.tdiv y)))
 | .rem=>if y=0 then none else K (.int k (x.tmod y))
 | .and=>K (.int k (k.wrap (BitVec.ofInt k.bits x&&&BitVec.ofInt k.bits y).toNat))
 | .or=>K (.int k (k.wrap (BitVec.ofInt k.bits x|||BitVec.ofInt k.bits y).toNat))
 | .xor=>K (.int k (k.wrap (BitVec.ofInt k.bits x^^^BitVec.ofInt k.bits y).toNat))
 | .andNot=>K (.int k (k.wrap (BitVec.ofInt k.bits x&&&~~~ BitVec.ofInt k.bits y).toNat))
 | .eql=>K (.bool (x==y))
 | .neq=>K (.bool (x !=y))
 | .lss=>K (.bool (decide (x<y)))
 | .leq=>K (.bool (decide (x<=y)))
 | .gtr=>K (.bool (decide (x>y)))
 | .geq=>K (.bool (decide (x>=y)))
 |_=>none
def It {R:Type}(op:BinOp)(x y:au UInt8)(K:AC->aw R):aw R:=
 match op with
 | .add=>room (x.length+y.length) (K (.str (x++y)))
 | .eql=>K (.bool (x==y))
 | .neq=>K (.bool (!(x==y)))
 | .lss=>K (.bool (Op.bytesLess x y))
 | .leq=>K (.bool (Op.bytesLess x y||x==y))
 | .gtr=>K (.bool (!(Op.bytesLess x y||x==y)))
 | .geq=>K (.bool (!(Op.bytesLess x y)))
 |_=>none
def tA:au AC->au AC->aw Bool
 |[],[]=>some true
 | .int k x::r,.int k' y::r'=>if k=k' then(tA r r').bind λb=>some ((x==y)&&b) else none
 | .bool x::r,.bool y::r'=>(tA r r').bind λb=>some ((x==y)&&b)
 | .str x::r,.str y::r'=>(tA r r').bind λb=>some ((x==y)&&b)
 |_,_=>none
def Dw {R:Type}(op:BinOp)(x y:AV)(K:AC->aw R):aw R:=
 match x,y with
 | .val false [.int k a],.val false [.int k' b]=>
   match op with
   | .shl=>if b<0 then none else K (.int k (k.wrap (a*2^(min b.toNat k.bits))))
   | .shr=>if b<0 then none else K (.int k (a.fdiv (2^(min b.toNat k.bits))))
   |_=>if k=k' then FJ op k a b K else none
 | .val false [.str a],.val false [.str b]=>It op a b K
 | .val false [.bool a],.val false [.bool b]=>
   match op with
   | .eql=>K (.bool (a==b))
   | .neq=>K (.bool (!(a==b)))
   |_=>none
 | .val true xs,.val true ys=>
   match op with
   | .eql=>aa (tA xs ys) λb=>K (.bool b)
   | .neq=>aa (tA xs ys) λb=>K (.bool (!b))
   |_=>none
 |_,_=>none
def unC {R:Type}(op:UnOp)(x:AV)(K:AC->aw R):aw R:=
 match op,x with
 | .not,.val false [.bool b]=>K (.bool (!b))
 | .neg,.val false [.int k n]=>K (.int k (k.wrap (0-n)))
 | .xor,.val false [.int k n]=>FJ .xor k (if k.signed then-1 else k.max) n K
 |_,_=>none
def dY (cs:au AC)(off:Nat)(vs:au AC):au AC:=cs.take off++vs++cs.drop (off+vs.length)
def AS.eL (st:AS):jQ->aw AC
 | .slot s j=>match st.get s with| .val _ cs=>nth cs j|_=>none
 | .box s j=>((nth st.boxes s).getD none).bind λcs=>nth cs j
 | .io j=>nth st.io j
def AS.eQ (st:AS)(r:jQ)(c:AC):AS:=
 match r with
 | .slot s j=>match st.get s with| .val g cs=>st.put (some s) (.val g (gM cs j c))|_=>st
 | .box s j=>match (nth st.boxes s).getD none with|some cs=>st.eu s (some (gM cs j c))|none=>st
 | .io j=>{st with io:=gM st.io j c}
def AS.fresh (st:AS):AC->AC
 | .sl (.loc ep (some (r,t))) e xs=>
   bif ep==st.ep then .sl (.loc ep (some (r,t))) e xs else
    match st.eL r with
    |some (.sl (.own (some t')) e' ys)=>if h:e'=e then bif t'==t then .sl (.loc st.ep (some (r,t))) e (h▸ys) else .sl (.loc ep (some (r,t))) e xs else .sl (.loc ep (some (r,t))) e xs
    |_=> .sl (.loc ep (some (r,t))) e xs
 |c=>c
def AV.fresh (st:AS):AV->AV
 | .val g cs=> .val g (cs.map st.fresh)
 | .tup vs=> .tup vs
def AC.now (ep:Nat):AC->Bool
 | .sl (.loc ep' (some _)) _ _=>ep'==ep
 |_=>true
def AS.ot {R:Type}(st:AS)(r:jQ)(t:Nat)(e:CT)(i:Int)(off:Nat)(vs:au AC)(K:AS->aw R):aw R:=
 match st.eL r with
 |some (.sl (.own (some t')) e' xs)=>
  if h:e'=e then
   if t'=t then
    aa (idx (h▸xs:au e.D) i) λx=>
     match kH e (dY (cellsOf e (.own none) x) off vs)with
     |some (x',[])=>K {st.eQ r (.sl (.own (some t')) e ((h▸xs:au e.D).set i.toNat x'))with ep:=st.ep+1}
     |_=>none
   else none
  else none
 |some (.sl (.holed (some t') i' _) e' xs)=>
  if h:e'=e then
   if t'=t/\off=0 then
    aa (ZT (h▸xs:au e.D) i' i) λ_=>
     match kH e vs with
     |some (x',[])=>K {st.eQ r (.sl (.own (some t')) e ((h▸xs:au e.D).set i.toNat x'))with ep:=st.ep+1}
     |_=>none
   else none
  else none
 |_=>none
def AV.cells:AV->au AC
 | .val _ cs=>cs
 | .tup _=>[.bot]
def eM (st:AS):au Operand->au AV×AS
 |[]=>([],st)
 |x::xs=>let (v,st1):=st.take x;let (vs,st2):=eM st1 xs;(v::vs,st2)
def Al (e:CT):au (au AC)->aw (au e.D)
 |[]=>some []
 |cs::r=>match kH e cs with
  |some (x,[])=>(Al e r).bind λxs=>some (x::xs)
  |_=>none
def FH:Nat->au (Nat×Operand)->Bool
 |_,[]=>true
 |n,(i,_)::r=>i==n&&FH (n+1) r
def AC.Gc:AC->Bool
 | .bot=>false
 | .un=>false
 |_=>true
def uQ (offs:au (Nat×Nat))(zero:au AC):au (Nat×au AC)->aw (au AC)
 |[]=>some zero
 |(i,cs)::r=>match nth offs i with
  |some (off,n)=>if cs.length=n/\off+n<=zero.length/\cs.all AC.Gc then uQ offs (dY zero off cs) r else none
  |none=>none
inductive LK where
 |int|bool|str
 deriving DecidableEq
structure Env where
 ty:List (Nat×Shape)
 eqs:List (Nat×List LK):=[]
 fts:List ((Nat×Nat)×Nat):=[]
def NN (l:au (Nat×au LK))(t:Nat):aw (au LK):=
 match l with
 |[]=>none
 |(u,sh)::r=>bif u==t then some sh else NN r t
def fits:au LK->au AC->Bool
 |[],[]=>true
 | .int::ls,.int _ _::r=>fits ls r
 | .bool::ls,.bool _::r=>fits ls r
 | .str::ls,.str _::r=>fits ls r
 |_,_=>false
def Tz (l:au ((Nat×Nat)×Nat))(S f:Nat):aw Nat:=
 match l with
 |[]=>none
 |((u,k),T)::r=>bif u==S&&k==f then some T else Tz r S f
def iI (l:au (Nat×Shape))(t:Nat):aw Shape:=
 match l with
 |[]=>none
 |(u,sh)::r=>bif u==t then some sh else iI r t
def Env.sl (E:Env)(t:Nat):aw CT:=
 match iI E.ty t with
 |some ⟨false,.sl e,_⟩=>some e
 |_=>none
def Env.str (E:Env)(t:Nat):Bool:=
 match iI E.ty t with
 |some ⟨false,.str,_⟩=>true
 |_=>false
def Env.bool (E:Env)(t:Nat):Bool:=
 match iI E.ty t with
 |some ⟨false,.bool,_⟩=>true
 |_=>false
def Env.bytes (E:Env)(t:Nat):Bool:=
 match iI E.ty t with
 |some ⟨false,.sl (.int .u8),[(te,_)]⟩=>match iI E.ty te with|some ⟨false,.int .u8,_⟩=>true|_=>false
 |_=>false
def pq.live (ep:Nat):pq->Bool
 | .loc ep' _=>ep'==ep
 | .arg _=>true
 | .own _=>false
 | .nest ..=>false
 | .part ..=>false
 | .holed ..=>false
def pq.pB (ep:Nat)(flat:Bool):pq->Bool
 | .loc ep' _=>ep'==ep&&flat
 | .arg _=>flat
 | .own _=>true
 | .nest ..=>false
 | .part ..=>false
 | .holed ..=>false
def pq.bare:pq->pq
 | .loc ep _=> .loc ep none
 |f=>f
def AC.iZ:AC->Bool
 | .int _ _=>true
 | .bool _=>true
 | .str _=>true
 | .fn _=>true
 |_=>false
def tm:Operand->eG
 | .tmp t=>[t]
 |_=>[]
def MV (l:au Operand):eG:=l.flatMap tm
def CS (an:An)(o:Oper):Bool:=
 match o.dst with
 |some d=>an.mv.contains d&&(an.mb d).isNone
 |none=>false
def aq9 (an:An)(o:Oper):Bool:=
 match o.dst with
 |some d=>an.nils.contains d
 |none=>false
def ym (an:An)(o:Oper):Bool:=
 match o.op with
 | .assign (.tmp s)=>an.late.contains s
 | .store _ _ (.tmp s)=>an.late.contains s
 |_=>false
def tmO:aw Operand->eG
 |some x=>tm x
 |none=>[]
def dD (o:Oper):eG:=
 match o.op with
 | .move x=>tm x
 | .assign x=>tm x
 | .pick c a b=>tm c++tm a++tm b
 | .box _ x=>tm x
 | .load _ p=>tm p
 | .store _ p x=>tm p++tm x
 | .nilCheck x=>tm x
 | .binOp _ _ x y _=>tm x++tm y
 | .unOp _ _ x=>tm x
 | .fieldAddr _ p _=>tm p
 | .indexAddr _ x i=>tm x++tm i
 | .index _ x i=>tm x++tm i
 | .build _ parts=>MV (parts.toList.map (·.2))
 | .buildSlice _ _ parts=>MV (parts.toList.map (·.2))
 | .makeSlice _ n c=>tm n++tm c
 | .slice _ x lo hi none=>tm x++tmO lo++tmO hi
 | .convert _ _ x=>tm x
 | .extract (.tmp t) _=>[t]
 | .call {callee:=.builtin _,args,..}=>MV args.toList
 | .call {callee:=.value f,args,..}=>tm f++MV args.toList
 |_=>[]
def CR (an:An)(o:Oper):Bool:=
 match o.op with
 | .move _=>match o.dst with|some d=>an.mv.contains d|none=>false
 | .assign _=>true
 | .box ..=>true
 | .build ..=>true
 | .buildSlice ..=>true
 | .store ..=>true
 | .extract ..=>match o.dst with|some d=>an.mv.contains d|none=>false
 | .call {callee:=.builtin .append,..}=>true
 |_=>false
def CP (an:An)(o:Oper):Bool:=
 match o.op,o.dst,o.guard with
 | .load _ (.tmp q),some d,none=>an.mv.contains d&&(an.mb d).isNone&&(an.eb q).isSome
 |_,_,_=>false
def zn (an:An)(o:Oper):Bool:=
 match o.op,o.dst,o.guard with
 | .load _ (.tmp q),some d,none=> !an.mv.contains d&& !an.fm.contains d&&(an.sb q).isSome
 |_,_,_=>false
def CV (an:An)(o:Oper):eG:=
 match o.op with
 | .alloc _=>o.dst.toList
 | .box ..=>o.dst.toList
 | .load _ p=>match o.dst with|some d=>bif an.mv.contains d then(an.mb d).toList++(bif CP an o then(match p with| .tmp q=>(an.eb q).toList|_=>[]) else []) else []|none=>[]
 | .store _ (.tmp p) _=>(an.sb p).toList
 | .call {callee:=.value _,args,..}=>(match args.toList with| .tmp q::_=>(an.sb q).toList|_=>[])
 |_=>[]
def mJ (an:An)(o:Oper):Bool:=
 match o.op with
 | .move _=>true
 | .load ..=>(match o.dst with|some d=> !an.mv.contains d||(an.mb d).isSome|none=>false)||CP an o
 | .extract (.tmp _) _=>true
 | .store _ (.tmp p) _=>(an.sb p).isSome&& !ym an o
 | .assign _=> !ym an o
 | .pick ..| .alloc _| .box ..| .nilCheck _| .binOp ..| .unOp ..| .fieldAddr ..| .indexAddr ..| .index ..| .build ..| .buildSlice ..| .makeSlice ..| .convert ..=>true
 | .slice _ _ _ _ none=> !CS an o
 | .call {callee:=.builtin .len,..}| .call {callee:=.builtin .min,..}| .call {callee:=.builtin .max,..}| .call {callee:=.builtin .append,..}=>true
 | .call {callee:=.value _,..}=>true
 |_=>false
def writes (an:An)(o:Oper):eG:=o.dst.toList++(bif CR an o then dD o else [])
def AV.now (ep:Nat):AV->Bool
 | .val _ cs=>cs.all (AC.now ep)
 | .tup _=>true
def AC.kA:AC->Bool
 | .int ..=>true
 | .bool _=>true
 | .str _=>true
 | .fn _=>true
 | .ptr ..=>true
 |_=>false
def AV.kA:AV->Bool
 | .val _ cs=>cs.all AC.kA
 | .tup _=>false
def Cg (E:Env)(T:TypeId)(st:AS)(s off:Nat):Bool:=
 match iI E.ty T,(nth st.boxes s).getD none with
 |some sh,some cs=>((cs.drop off).take sh.ct.size).all AC.kA
 |_,_=>false
def UW (an:An)(o:Oper):Bool:=match o.dst with|some d=>an.fm.contains d|none=>false
def zW (an:An)(o:Oper):Bool:=
 match o.op,o.dst,o.guard with
 | .load _ (.tmp _),some d,none=>an.mv.contains d&&(an.mb d).isSome
 |_,_,_=>false
def Ky (an:An)(o:Oper):Bool:=
 match o.op,o.dst,o.guard with
 | .load _ (.tmp _),some d,none=> !an.mv.contains d&&an.fm.contains d
 |_,_,_=>false
def erS (an:An)(o:Oper):eG:=
 match o.op,o.dst with
 | .load ..,some d=>(an.er d).toList
 | .call {callee:=.value _,..},some d=>(an.er d).toList
 |_,_=>[]
def AC.adM (l:eG):AC->Bool
 | .sl (.loc _ (some (.slot b _,_))) _ _=>l.contains b
 | .sl (.loc _ _) _ _=>false
 |_=>true
def F9 (l:eG)(st:AS):Operand->Bool
 | .tmp t=>(match st.get t with| .val _ cs=>cs.all (AC.adM l)| .tup _=>true)
 |_=>true
def acg (an:An)(X l:eG)(st:AS)(xs:au Operand)(q:Nat):AV->Bool
 | .val false [.ptr s _]=> !X.contains s&&an.sb q==some s&&(match (nth st.boxes s).getD none with|some cs=>cs.all AC.E0|none=>true)&&xs.all (F9 l st)
 |_=>true
def AV.Yt:AV->Bool
 | .val false [.ptr _ _]=>false
 |_=>true
def si (an:An)(X l:eG)(st:AS):au Operand->Bool
 | .tmp q::xs=>acg an X l st xs q (st.rd (.tmp q))
 |x::_=>(st.rd x).Yt
 |[]=>true
def dv (E:Env)(an:An)(X:eG)(o:Oper)(st:AS):Bool:=
 match o.op with
 | .move x=> !UW an o||(st.rd x).kA
 | .indexAddr _ x _=>(st.rd x).now st.ep||(match st.rd x with| .val _ [.sl (.loc _ (some (.box b _,_))) _ _]=> !X.contains b|_=>false)
 | .slice _ x _ _ none=>(st.rd x).now st.ep
 | .call {callee:=.value _,args,..}=>si an X (erS an o) st args.toList&&args.toList.all λx=>(st.rd x).now st.ep
 | .load T p=>match st.rd p with
   | .val false [.ptr s off]=> !X.contains s&&(match o.dst with|some d=> !an.mv.contains d||an.mb d==some s|none=>true)&&(!UW an o||Cg E T st s off)
   | .val false [.elt fl _ _ _ _]=>(fl.live st.ep||(match fl with
     | .loc _ (some (.slot b _,_))=>(erS an o).contains b
     | .loc _ (some (.box b _,_))=> !X.contains b
     |_=>false))&& !(UW an o||zW an o)&& !zn an o&&(!CP an o||(match p,fl with
     | .tmp q,.loc _ (some (.box b _,_))=>an.eb q==some b&& !X.contains b
     |_,_=>false))
   |_=> !(UW an o||zW an o)
 | .store _ (.tmp p) _=>((an.sb p).isNone&&(an.eb p).isNone&&(an.es p).isNone)||(match st.rd (.tmp p)with
   | .val false [.ptr s _]=> !X.contains s&&an.sb p==some s
   | .val false [.elt (.loc _ (some (.box b _,_))) _ _ _ _]=>an.eb p==some b&&(an.sb p).isNone&&(an.es p).isNone
   | .val false [.elt (.loc _ (some (.slot b _,_))) _ _ _ _]=>an.es p==some b&&(an.sb p).isNone&&(an.eb p).isNone
   |_=>false)
 | .extract (.tmp t) i=>match st.get t with
   | .tup vs=>match nth vs i with|some x=>x.2.all AC.iZ||(match o.dst with|some d=>an.mv.contains d|none=>false)|none=>true
   |_=>true
 |_=>true
def Cl (an:An)(ops:au Oper)(o:Oper):eG:=
 (match o.guard with
 |some (j,_)=>((nth ops j).bind (·.dst)).toList
 |none=>[])++erS an o
def meets (a b:eG):Bool:=a.any λx=>b.contains x
def U3 (an:An)(ops:au Oper)(X Y:eG)(o p:Oper):Bool:=
 mJ an o&&mJ an p&& !meets (writes an o) (dD p++Cl an ops p++writes an p)&& !meets (writes an p) (dD o++Cl an ops o)&&
 (CV an o).all (λd=>Y.contains d)&&(CV an p).all (λd=>X.contains d)&& !meets (CV an o) (p.dst.toList++CV an p)&& !meets (CV an p) o.dst.toList
def VA (o p:Oper):Bool:=
 match o.op,p.op,o.dst,p.dst,o.guard,p.guard with
 | .extract (.tmp t) i,.extract (.tmp t') j,some d,some d',none,none=>t==t'&& !(i==j)&& !(d==d')&& !(d==t)&& !(d'==t)
 |_,_,_,_,_,_=>false
def Vx (an:An)(o p:Oper):Bool:=
 match p.op,p.dst,p.guard with
 | .store _ (.tmp q) (.tmp x),none,none=>((an.eb q).isSome&&(an.es q).isNone||(match an.es q with|some b=>(an.eb q).isNone&& !(b==x)&& !(b==q)&& !meets [b] (o.dst.toList++dD o)|none=>false))&&(an.sb q).isNone&& !ym an p&&(match o.op,o.dst,o.guard with
   | .move (.tmp t),some d,none=> !an.mv.contains d&&an.fm.contains d&& !(d==q)&& !(d==x)&& !(t==x)&& !(t==q)&& !(d==t)
   | .extract (.tmp t) _,some d,none=> !(d==q)&& !(d==x)&& !(t==x)&& !(t==q)&& !(d==t)
   |_,_,_=>false)
 |_,_,_=>false
def Wn (an:An)(o p:Oper):Bool:=
 (zW an o&&Ky an p||Ky an o&&zW an p)&& !meets o.dst.toList (p.dst.toList++dD p)&& !meets p.dst.toList (dD o)
def Vh (an:An)(o p:Oper):Bool:=zn an o&&CP an p&& !meets o.dst.toList (p.dst.toList++dD p)&& !meets p.dst.toList (dD o)
def ady (an:An)(o p:Oper):Bool:=VA o p||Vx an o p||Wn an o p||Vh an o p
def JC (an:An)(ops:au Oper)(X Y:eG)(o p:Oper):Bool:=ady an o p||U3 an ops X Y o p
def zu (o:Oper):eG:=(o.after.toList.filter (λe=>Region.binds .any e)).map (·.on)
def Q3 (a b:eG):eG:=a.foldl (λs x=>bif s.contains x then s else x::s) b
def Rb:au Oper->au eG->au eG
 |[],acc=>acc
 |o::r,acc=>Rb r (acc++[(zu o).foldl (λs j=>Q3 (j::(nth acc j).getD []) s) []])
def aaT (A:au eG)(i k:Nat):Bool:=((nth A i).getD []).contains k
def XB (an:An)(A:au eG)(i:Nat)(fl pl:Bool):Nat->au Oper->eG
 |_,[]=>[]
 |k,o::r=>(bif !aaT A i k&& !aaT A k i&& !(k==i)&& !(fl&&zW an o)&& !(pl&&CP an o) then CV an o else [])++XB an A i fl pl (k+1) r
def rq (an:An)(A:au eG)(i k:Nat)(ops:au Oper):eG:=XB an A i (match nth ops i with|some o=>Ky an o|none=>false) (match nth ops i with|some o=>zn an o|none=>false) k ops
def Lo (an:An)(ops:au Oper)(A:au eG)(i:Nat)(oi:Oper):Nat->au Oper->Bool
 |_,[]=>true
 |j,oj::r=>bif Nat.ble i j then true else(aaT A i j||JC an ops (rq an A j 0 ops) (rq an A i 0 ops) oj oi)&&Lo an ops A i oi (j+1) r
def QA (an:An)(ops:au Oper)(A:au eG):Nat->au Oper->Bool
 |_,[]=>true
 |i,oi::r=>(zu oi).all (λk=>Nat.blt k i)&&Lo an ops A i oi 0 ops&&QA an ops A (i+1) r
def RP (an:An)(ops:au Oper):Bool:=QA an ops (Rb ops []) 0 ops
inductive Ex where
 |normal|ret|exit (id:Nat)
inductive FK where
 |own (tag:Option Nat)|arg|arg0|loc|lio (j t:Nat)|nil
def FK.flag:FK->pq
 | .own t=> .own t
 | .arg=> .arg false
 | .arg0=> .arg true
 | .loc=> .loc 0 none
 | .lio j t=> .loc 0 (some (.io j,t))
 | .nil=> .arg false
def FK.isNil:FK->Bool
 | .nil=>true
 |_=>false
inductive FT where
 |int (k:IntKind)|bool|str|sl (fl:FK) (e:CT)|pair (a b:FT)
abbrev FT.ct:FT->CT
 | .int k=> .int k
 | .bool=> .bool
 | .str=> .str
 | .sl _ e=> .sl e
 | .pair a b=> .pair a.ct b.ct
def iY:(t:FT)->t.ct.D->au AC
 | .int k,n=>[.int k n]
 | .bool,b=>[.bool b]
 | .str,s=>[.str s]
 | .sl fl e,xs=>[bif fl.isNil then .nilsl else .sl fl.flag e xs]
 | .pair a b,x=>iY a x.1++iY b x.2
def FK.fits:FK->pq->Bool
 | .own t,.own t'=>t==t'
 | .arg,.arg k=> !k
 | .arg0,.arg k=>k
 | .loc,.loc 0 none=>true
 | .lio j t,.loc 0 (some (.io j',t'))=>j==j'&&t==t'
 |_,_=>false
def Jm:(t:FT)->au AC->aw (t.ct.D×au AC)
 | .int k,.int k' n::r=>if k'=k then some (n,r) else none
 | .bool,.bool b::r=>some (b,r)
 | .str,.str s::r=>some (s,r)
 | .sl fl e,.sl fl' e' xs::r=>if h:e'=e then bif fl.fits fl' then some (h▸xs,r) else none else none
 | .sl fl _,.nilsl::r=>bif fl.isNil then some ([],r) else none
 | .pair a b,cs=>(Jm a cs).bind λx=>(Jm b x.2).bind λy=>some ((x.1,y.1),y.2)
 |_,_=>none
inductive PD where
 |bot|ptr (s off:Nat)|fn (f:Nat)|data (g:Bool) (t:FT)
inductive IoD where
 |none|some (t:FT)|ptr
structure SD where
 slots:List PD
 boxes:List (Option FT)
 io:IoD:=.none
abbrev HC:au PD->Type
 |[]=>Unit
 | .data _ t::r=>t.ct.D×HC r
 |_::r=>HC r
abbrev GI:au (aw FT)->Type
 |[]=>Unit
 |some t::r=>t.ct.D×GI r
 |none::r=>GI r
abbrev ioD:IoD->Type
 | .none=>Unit
 | .some t=>t.ct.D
 | .ptr=>Unit
abbrev SD.D (d:SD):Type:=HC d.slots×GI d.boxes×ioD d.io
def ru:(l:au PD)->HC l->au AV
 |[],_=>[]
 | .data g t::r,x=> .val g (iY t x.1)::ru r x.2
 | .bot::r,x=> .bot::ru r x
 | .ptr s off::r,x=> .one (.ptr s off)::ru r x
 | .fn f::r,x=> .one (.fn f)::ru r x
def zZ:(l:au (aw FT))->GI l->au (aw (au AC))
 |[],_=>[]
 |some t::r,x=>some (iY t x.1)::zZ r x.2
 |none::r,x=>none::zZ r x
def ack:(o:IoD)->ioD o->au AC
 | .none,_=>[]
 | .some t,x=>iY t x
 | .ptr,_=>[.ptr 0 0]
def SD.enc (d:SD)(x:d.D):AS:=⟨ru d.slots x.1,zZ d.boxes x.2.1,0,List.replicate d.slots.length false,ack d.io x.2.2⟩
def AV.Yj:AV->Bool
 | .val false [.bot]=>true
 |_=>false
def AV.Yk (s off:Nat):AV->Bool
 | .val false [.ptr s' off']=>s==s'&&off==off'
 |_=>false
def AV.aan (f:Nat):AV->Bool
 | .val false [.fn f']=>f==f'
 |_=>false
def ju:(l:au PD)->au AV->aw (HC l)
 |[],[]=>some ()
 | .data g t::r,.val g' cs::vs=>bif g==g' then(match Jm t cs with|some (x,[])=>(ju r vs).bind λy=>some (x,y)|_=>none) else none
 | .bot::r,v::vs=>bif v.Yj then ju r vs else none
 | .ptr s off::r,v::vs=>bif v.Yk s off then ju r vs else none
 | .fn f::r,v::vs=>bif v.aan f then ju r vs else none
 |_,_=>none
def py:(l:au (aw FT))->au (aw (au AC))->aw (GI l)
 |[],[]=>some ()
 |some t::r,some cs::bs=>match Jm t cs with|some (x,[])=>(py r bs).bind λy=>some (x,y)|_=>none
 |none::r,none::bs=>py r bs
 |_,_=>none
def Wf:au AC->Bool
 |[.ptr 0 0]=>true
 |_=>false
def RN:(o:IoD)->au AC->aw (ioD o)
 | .none,[]=>some ()
 | .some t,cs=>match Jm t cs with|some (x,[])=>some x|_=>none
 | .ptr,cs=>bif Wf cs then some () else none
 |_,_=>none
def SD.dec (d:SD)(st:AS):aw d.D:=
 bif st.ep==0&&st.iss==List.replicate d.slots.length false then
  (ju d.slots st.slots).bind λx=>(py d.boxes st.boxes).bind λy=>(RN d.io st.io).bind λz=>some (x,y,z)
 else none
structure cH where
 sd:SD
 run:{R:Type}->sd.D->(Ex->AS->Option R)->Option R
abbrev dC:=Nat->cH
def cH.go {R:Type}(l:cH)(st:AS)(K:Ex->AS->aw R):aw R:=aa (l.sd.dec st) λx=>l.run x K
def cH.none:cH:=⟨⟨[],[],.none⟩,λ_ _=>Option.none⟩
def dC.nil:dC:=λ_=>cH.none
def dC.add (Λ:dC)(k:Nat)(l:cH):dC:=λj=>bif j==k then l else Λ j
section
variable {R:Type} (E:Env) (Γ:dm) (an:An)
def Ap (o:Oper)(x:Operand)(st:AS)(K:AS->aw R):aw R:=
 match o.dst with
 |some d=>if an.mv.contains d then K ((st.take x).2.put o.dst (st.take x).1) else K (st.put o.dst (st.rd x))
 |none=>none
def tt (o:Oper)(x:Operand)(st:AS)(K:AS->aw R):aw R:=
 match st.take x with
 |(.val false [.nilsl],_)=>match E.sl o.type with
  |some e=>K (st.put o.dst (.one (bif aq9 an o then .nilsl else .sl (.own none) e [])))
  |none=>none
 |(v,st')=>K (st'.put o.dst v)
def Cx (o:Oper)(c a b:Operand)(st:AS)(K:AS->aw R):aw R:=
 match st.rd c with
 | .val false [.bool t]=>match st.rd a,st.rd b with
   | .val false [.bool x],.val false [.bool y]=>K (st.put o.dst (.one (.bool (cond t x y))))
   |va,vb=>cond t (K (st.put o.dst va)) (K (st.put o.dst vb))
 |_=>none
def AD (o:Oper)(T:TypeId)(st:AS)(K:AS->aw R):aw R:=
 match o.dst,iI E.ty T with
 |some d,some sh=>match nth st.boxes d with
  |some none=>K ((st.eu d (some (cellsOf sh.ct (.own none) sh.ct.zero))).put o.dst (.one (.ptr d 0)))
  |_=>none
 |_,_=>none
def OM (o:Oper)(x:Operand)(st:AS)(K:AS->aw R):aw R:=
 match o.dst,st.take x with
 |some d,(.val _ cs,st')=>
  match nth st'.boxes d with
  |some none=>if cs.all AC.Gc then K ((st'.eu d (some cs)).put o.dst (.one (.ptr d 0))) else none
  |_=>none
 |_,_=>none
def Qv (ep:Nat)(r:jQ)(t:Nat)(e:CT)(i:Int):Nat->au AC->au AC
 |_,[]=>[]
 |p,.sl _ e' xs::cs=> .sl (.nest ep r t e i p) e' xs::Qv ep r t e i (p+1) cs
 |p,c::cs=>c::Qv ep r t e i (p+1) cs
def adj (o:Oper)(ep:Nat)(fl:pq)(e:CT)(i:Int)(off:Nat)(cs:au AC):au AC:=
 match fl,o.dst with
 | .loc _ (some (r,t)),some d=>bif an.nest.contains d then Qv ep r t e i off cs else cs
 |_,_=>cs
def Bi (o:Oper)(sh:Shape)(fl:pq)(e:CT)(i:Int)(off:Nat)(st:AS)(K:AS->aw R):aw R:=
 match fl with
 | .loc _ (some (r,t))=>
   match st.eL r with
   |some (.sl (.own (some t')) e' ys)=>
    if h:e'=e then
     if t'=t/\off+sh.ct.size<=e.size then
      aa (idx (h▸ys:au e.D) i) λy=>K (st.put o.dst (.val sh.agg (((cellsOf e (.loc st.ep none) y).drop off).take sh.ct.size)))
     else none
    else none
   |_=>none
 |_=>none
def wJ (o:Oper)(sh:Shape)(fl:pq)(e:CT)(i:Int)(off:Nat)(st:AS)(K:AS->aw R):aw R:=
 match fl with
 | .loc _ (some (r,t))=>
   match st.eL r with
   |some (.sl (.own (some t')) e' ys)=>
    if h:e'=e then
     if t'=t/\off=0/\sh.ct=e then
      aa (idx (h▸ys:au e.D) i) λy=>K ((st.eQ r (.sl (.holed (some t) i (some st.ep)) e (h▸ys))).put o.dst (.val sh.agg (cellsOf e (.own none) y)))
     else none
    else none
   |_=>none
 |_=>none
def n9 (o:Oper)(T:TypeId)(p:Operand)(st:AS)(K:AS->aw R):aw R:=
 match iI E.ty T,st.rd p with
 |some sh,.val false [.ptr s off]=>
  match (nth st.boxes s).getD none with
  |some cs=>
   if off+sh.ct.size<=cs.length then
    match o.dst with
    |some d=>
     if an.mv.contains d then
      K ((st.eu s (some (dY cs off (aX st.ep ((cs.drop off).take sh.ct.size))))).put o.dst (.val sh.agg ((cs.drop off).take sh.ct.size)))
     else K (st.put o.dst (.val sh.agg (hH st.ep (.box s) off ((cs.drop off).take sh.ct.size))))
    |none=>none
   else none
  |none=>none
 |some sh,.val false [.elt fl e x i off]=>
  if CS an o then wJ o sh fl e i off st K
  else if fl.live st.ep then
   if off+sh.ct.size<=e.size then K (st.put o.dst (.val sh.agg (adj an o st.ep fl e i off (((cellsOf e fl.bare x).drop off).take sh.ct.size)))) else none
  else Bi o sh fl e i off st K
 |_,_=>none
def vn (T:TypeId)(p x:Operand)(st:AS)(K:AS->aw R):aw R:=
 match iI E.ty T,st.rd p with
 |some sh,.val false [.ptr s off]=>
  match st.take x with
  |(.val _ vs,st')=>
   match (nth st'.boxes s).getD none with
   |some cs=>
    if vs.length=sh.ct.size/\vs.all AC.Gc then
     if off+sh.ct.size<=cs.length then K (st'.eu s (some (dY cs off vs))) else none
    else none
   |none=>none
  |_=>none
 |some sh,.val false [.elt (.loc _ (some (r,t))) e _ i off]=>
  match st.take x with
  |(.val _ vs,st')=>
   if vs.length=sh.ct.size/\off+sh.ct.size<=e.size then st'.ot r t e i off vs K else none
  |_=>none
 |_,_=>none
def ya (o:Oper)(S:TypeId)(p:Operand)(f:Nat)(st:AS)(K:AS->aw R):aw R:=
 match iI E.ty S,st.rd p with
 |some ⟨true,_,offs⟩,.val false [.ptr s off]=>match nth offs f with|some (fo,_)=>K (st.put o.dst (.one (.ptr s (off+fo))))|none=>none
 |some ⟨true,_,offs⟩,.val false [.elt fl e x i off]=>match nth offs f with|some (fo,_)=>K (st.put o.dst (.one (.elt fl e x i (off+fo))))|none=>none
 |_,_=>none
def lM (o:Oper)(T:TypeId)(x i:Operand)(st:AS)(K:AS->aw R):aw R:=
 match E.sl T,(st.rd x).fresh st,st.rd i with
 |some e',.val false [.sl fl e xs],.val false [.int _ n]=>
  if e'=e/\fl.live st.ep then aa (idx xs n) λy=>K (st.put o.dst (.one (.elt fl e y n 0))) else none
 |_,_,_=>none
def zO (o:Oper)(T:TypeId)(x i:Operand)(st:AS)(K:AS->aw R):aw R:=
 match st.rd x,st.rd i with
 | .val false [.str s],.val false [.int _ n]=>if E.str T then aa (idx s n) λb=>K (st.put o.dst (.one (.int .u8 b.toNat))) else none
 |_,_=>none
def zJ (o:Oper)(T:TypeId)(parts:au (Nat×Operand))(st:AS)(K:AS->aw R):aw R:=
 match iI E.ty T with
 |some ⟨true,ct,offs⟩=>
  match eM st (parts.map (·.2))with
  |(vs,st')=>
   match uQ offs (cellsOf ct (.own none) ct.zero) ((parts.map (·.1)).zip (vs.map AV.cells))with
   |some cs=>K (st'.put o.dst (.val true cs))
   |none=>none
 |_=>none
def k8 (o:Oper)(T:TypeId)(len:Nat)(parts:au (Nat×Operand))(st:AS)(K:AS->aw R):aw R:=
 match E.sl T with
 |some e=>
  if parts.length=len/\FH 0 parts/\len<=1000 then
   match eM st (parts.map (·.2))with
   |(vs,st')=>
    match Al e (vs.map AV.cells)with
    |some xs=>K (st'.oK o.dst e xs)
    |none=>none
  else none
 |none=>none
def nI (o:Oper)(T:TypeId)(n c:Operand)(st:AS)(K:AS->aw R):aw R:=
 match E.sl T,st.rd n,st.rd c with
 |some e,.val false [.int .i64 len],.val false [.int .i64 cap]=>
  if 0<=len/\len<=cap then room cap.toNat (K (st.oK o.dst e (List.replicate len.toNat e.zero))) else none
 |_,_,_=>none
def lW (st:AS)(lo hi:aw Operand)(n:Nat)(K:Int->Int->aw R):aw R:=
 match lo.map st.rd,hi.map st.rd with
 |none,none=>K 0 n
 |some (.val false [.int _ a]),none=>K a n
 |none,some (.val false [.int _ b])=>K 0 b
 |some (.val false [.int _ a]),some (.val false [.int _ b])=>K a b
 |_,_=>none
def vc (o:Oper)(T:TypeId)(x:Operand)(lo hi:aw Operand)(st:AS)(K:AS->aw R):aw R:=
 match st.take x,lo.map st.rd,hi with
 |(.val false [.sl (.own _) e xs],st'),some (.val false [.int _ a]),none=>
  if E.sl T=some e then aa (sub xs a xs.length) λxs'=>K (st'.oK o.dst e xs') else none
 |_,_,_=>none
def Lp (o:Oper)(fl:pq)(a:Int):pq:=
 match fl,o.dst with
 | .loc ep (some (r,t)),some d=>bif an.nest.contains d then .part ep r t a else .loc ep none
 |fl,_=>fl.bare
def yy (o:Oper)(T:TypeId)(x:Operand)(lo hi:aw Operand)(st:AS)(K:AS->aw R):aw R:=
 if CS an o then vc E o T x lo hi st K else
 match (st.rd x).fresh st with
 | .val false [.str s]=>if E.str T then lW st lo hi s.length λa b=>aa (sub s a b) λs'=>K (st.put o.dst (.one (.str s'))) else none
 | .val false [.sl fl e xs]=>
   if E.sl T=some e/\fl.live st.ep then lW st lo hi xs.length λa b=>aa (sub xs a b) λxs'=>K (st.put o.dst (.one (.sl (Lp an o fl a) e xs'))) else none
 |_=>none
def lb (o:Oper)(src dst:TypeId)(x:Operand)(st:AS)(K:AS->aw R):aw R:=
 match iI E.ty src,iI E.ty dst,st.rd x with
 |some _,some ⟨false,.int k,_⟩,.val false [.int _ n]=>K (st.put o.dst (.one (.int k (k.wrap n))))
 |some ⟨false,.str,_⟩,some ⟨false,.str,_⟩,.val false [.str s]=>K (st.put o.dst (.one (.str s)))
 |some ⟨false,.str,_⟩,some _,.val false [.str s]=>
  if E.bytes dst then room s.length (K (st.oK o.dst (.int .u8) (cY s))) else none
 |some _,some ⟨false,.str,_⟩,.val false [.sl fl (.int .u8) xs]=>
  if E.bytes src/\fl.live st.ep then K (st.put o.dst (.one (.str (aJ xs)))) else none
 |_,_,_=>none
def lf (o:Oper)(t i:Nat)(st:AS)(K:AS->aw R):aw R:=
 match st.get t with
 | .tup vs=>match nth vs i with
   |some (g,cs)=>K ((st.put (some t) (.tup (gM vs i (g,aX 0 cs)))).put o.dst (.val g cs))
   |none=>none
 |_=>none
def K9 (o:Oper)(ts:au TypeId)(args:au Operand)(st:AS)(K:AS->aw R):aw R:=
 match ts,args.map st.rd with
 |[t],[.val false [.str s]]=>if E.str t then K (st.put o.dst (.one (.int .i64 s.length))) else none
 |[t],[.val false [.sl _ _ xs]]=>if(E.sl t).isSome then K (st.put o.dst (.one (.int .i64 xs.length))) else none
 |_,_=>none
def MC (o:Oper)(args:au Operand)(st:AS)(K:AS->aw R):aw R:=
 match args.map st.rd with
 |[.val false [.int k x],.val false [.int _ y]]=>K (st.put o.dst (.one (.int k (if y<x then y else x))))
 |_=>none
def MB (o:Oper)(args:au Operand)(st:AS)(K:AS->aw R):aw R:=
 match args.map st.rd with
 |[.val false [.int k x],.val false [.int _ y]]=>K (st.put o.dst (.one (.int k (if y>x then y else x))))
 |_=>none
def M4 (o:Oper)(ts:au TypeId)(args:au Operand)(st:AS)(K:AS->aw R):aw R:=
 match ts,args.map st.rd with
 |[t,t'],[.val false [.sl (.part ep r tg lo) e xs],.val false [.str s]]=>
  match st.eL r with
  |some (.sl (.own (some tg')) e' ys)=>
   if h:e'=.int .u8 then
    if e=.int .u8/\E.sl t=some (.int .u8)/\E.str t'=true/\ep=st.ep/\tg'=tg then
     K ({st.eQ r (.sl (.own (some tg)) (.int .u8) (Ar (h▸ys:au (CT.int .u8).D) lo.toNat (cY (s.take xs.length))))with ep:=st.ep+1}.put o.dst (.one (.int .i64 (min xs.length s.length:Nat))))
    else none
   else none
  |_=>none
 |_,_=>none
def C6 (o:Oper)(S:TypeId)(t f:Nat)(st:AS)(K:AS->aw R):aw R:=
 match iI E.ty S,st.get t,Tz E.fts S f with
 |some ⟨true,ct,offs⟩,.val true cs,some T=>
  match nth offs f,iI E.ty T with
  |some (fo,n),some sh=>
   if n=sh.ct.size/\cs.length=ct.size/\fo+n<=cs.length then
    K ((st.put (some t) (.val true (dY cs fo (aX st.ep ((cs.drop fo).take n))))).put o.dst (.val sh.agg ((cs.drop fo).take n)))
   else none
  |_,_=>none
 |_,_,_=>none
def vr (o:Oper)(ts:au TypeId)(args:au Operand)(st:AS)(K:AS->aw R):aw R:=
 match ts,args with
 |[t,t'],[s,x]=>
  match st.take s with
  |(.val false [.sl (.own _) e xs],st1)=>
   match st1.take x with
   |(.val false [.sl fl e' ys],st2)=>
    if h:e'=e then
     if E.sl t=some e/\E.sl t'=some e/\fl.pB st.ep e.flat then
      room (xs.length+ys.length) (K (st2.oK o.dst e (xs++(h▸ys:au e.D))))
     else none
    else none
   |(.val false [.str s],st2)=>
    if h:e=.int .u8 then
     if E.sl t=some e/\E.str t' then room (xs.length+s.length) (K (st2.oK o.dst (.int .u8) ((h▸xs:au (CT.int .u8).D)++cY s))) else none
    else none
   |_=>none
  |_=>none
 |_,_=>none
def Nk:Nat->au AC->aw (jQ×Nat)
 |_,[]=>none
 |j,.sl (.loc _ (some (r,_))) _ _::_=>some (r,j)
 |j,_::cs=>Nk (j+1) cs
def jQ.pos:jQ->Nat
 | .slot _ j=>j
 | .box _ j=>j
 | .io j=>j
def AS.FZ (st:AS):jQ->aw (au AC)
 | .slot s _=>match st.get s with| .val _ cs=>some cs|_=>none
 | .box s _=>(nth st.boxes s).getD none
 | .io _=>some st.io
def AS.CJ (st:AS)(r:jQ)(cs:au AC):AS:=
 match r with
 | .slot s _=>match st.get s with| .val g _=>st.put (some s) (.val g cs)|_=>st
 | .box s _=>st.eu s (some cs)
 | .io _=>{st with io:=cs}
def mN:au AC->au AC->aw (au AC)
 |[],[]=>some []
 | .sl (.loc _ (some (_,t))) _ _::os,.sl (.own (some t')) e xs::ss=>bif t'==t then(mN os ss).bind λr=>some (.sl (.own none) e xs::r) else none
 | .int k n::os,.int _ _::ss=>(mN os ss).bind λr=>some (.int k n::r)
 | .bool b::os,.bool _::ss=>(mN os ss).bind λr=>some (.bool b::r)
 | .str x::os,.str _::ss=>(mN os ss).bind λr=>some (.str x::r)
 |_,_=>none
def AV.iZ:AV->Bool
 | .val _ cs=>cs.all AC.iZ
 | .tup vs=>vs.all λx=>x.2.all AC.iZ
def OR (st:AS)(x:Operand):aw (AV×AS):=
 match st.rd x with
 | .val g cs=>
   match Nk 0 cs with
   |some (r,j)=>
    match st.FZ r with
    |some csO=>
     match mN cs ((csO.drop (r.pos-j)).take cs.length)with
     |some cs'=>some (.val g cs',st.CJ r (dY csO (r.pos-j) (aX st.ep ((csO.drop (r.pos-j)).take cs.length))))
     |none=>none
    |none=>none
   |none=>none
 |_=>none
def NK (o:Oper)(x:Operand)(st:AS)(K:AS->aw R):aw R:=
 match OR st x with
 |some (v,st')=>K (st'.put o.dst v)
 |none=>none
def vo (T:TypeId)(p x:Operand)(st:AS)(K:AS->aw R):aw R:=
 match iI E.ty T,st.rd p with
 |some sh,.val false [.ptr s off]=>
  match OR st x with
  |some (.val _ vs,st')=>
   match (nth st'.boxes s).getD none with
   |some cs=>
    if vs.length=sh.ct.size/\vs.all AC.Gc then
     if off+sh.ct.size<=cs.length then K (st'.eu s (some (dY cs off vs))) else none
    else none
   |none=>none
  |_=>none
 |_,_=>none
def AC.strip:AC->AC
 | .sl (.own _) e xs=> .sl (.own none) e xs
 | .sl (.loc _ _) _ _=> .bot
 | .sl (.nest ..) _ _=> .bot
 | .sl (.part ..) _ _=> .bot
 | .sl (.holed _ i _) e xs=> .sl (.holed none i none) e xs
 | .ptr _ _=> .bot
 | .elt _ _ _ _ _=> .bot
 |c=>c
def AC.agi:AC->Bool
 | .sl (.own _) _ _=>true
 |c=>c.iZ
def AC.wZ (k:Bool):AC->Bool
 | .sl (.own _) _ _=>true
 | .sl (.arg k') _ _=>k'==k
 |c=>c.iZ
def AC.QX:AC->AC
 | .sl (.own _) e xs=> .sl (.own none) e xs
 | .sl (.arg _) e xs=> .sl (.arg true) e xs
 |c=>c.strip
def AC.aiq (k:Bool)(tag:aw Nat):AC->AC
 | .sl (.own _) e xs=> .sl (.own tag) e xs
 | .sl (.arg _) e xs=> .sl (.arg k) e xs
 |c=>c
def oz (k:Bool)(mk:Nat->aw Nat):Nat->au AC->au AC
 |_,[]=>[]
 |j,c::cs=>c.aiq k (mk j)::oz k mk (j+1) cs
def BB (cs:au AC):Bool:=cs.any λc=>match c with| .sl (.arg k) _ _=>k|_=>false
def AC.GH:AC->Bool
 | .sl (.arg k) _ _=> !k
 |c=>c.iZ
def AV.GH:AV->Bool
 | .val _ cs=>cs.all AC.GH
 | .tup _=>false
def AS.MA (st:AS):AC->AC
 | .sl (.own _) e xs=> .sl (.arg false) e xs
 | .sl (.arg _) e xs=> .sl (.arg false) e xs
 | .sl (.loc _ (some (.slot b j,t))) _ _=>match st.eL (.slot b j)with
   |some (.sl (.own (some t')) e' ys)=>if t'=t then .sl (.arg false) e' ys else .bot
   |_=> .bot
 | .int k n=> .int k n
 | .bool b=> .bool b
 | .str s=> .str s
 | .fn f=> .fn f
 |_=> .bot
def zj (st:AS):Operand->AV
 | .tmp t=>(match st.get t with| .val g cs=> .val g (cs.map st.MA)|v=>v)
 |x=>st.rd x
def Ak (st:AS):Operand->Bool
 | .tmp t=>(match st.get t with| .val _ cs=>(cs.map st.MA).all AC.GH|_=>false)
 |x=>(st.rd x).iZ
def AC.aaI:AC->Bool
 | .sl (.own _) _ _=>true
 |c=>c.iZ
def AV.aaI:AV->Bool
 | .val _ cs=>cs.all AC.aaI
 | .tup vs=>vs.all λx=>x.2.all AC.aaI
def XA (st:AS)(s:Nat)(cs:au AC):AS:={(st.eu s (some cs)).e9 (some s)with ep:=st.ep+1}
def tu (o:Oper)(f:Nat)(args:au Operand)(st:AS)(K:AS->aw R):aw R:=
 match args with
 |x0::xs=>
  match st.rd x0 with
  | .val false [.ptr s 0]=>
    match (nth st.boxes s).getD none with
    |some cs=>
     bif cs.all (AC.wZ (BB cs))&&xs.all (Ak st) then
      aa ((Γ f).fn (.val true (cs.map AC.QX)::xs.map (zj st))) λy=>
       bif ((Γ f).back y).all (AC.wZ true)&&((Γ f).av y).aaI then
        bif (Γ f).cur&&cs.all AC.E0 then
         K (((st.eu s (some (oz (BB cs) (λ_=>none) 0 ((Γ f).back y)))).e9 o.dst).put o.dst (((Γ f).av y).BC st.ep (st.gQ o.dst)))
        else
        K (((XA st s (oz (BB cs) (st.gQ (some s)) 0 ((Γ f).back y))).e9 o.dst).put o.dst
          (((Γ f).av y).BC (st.ep+1) ((XA st s (oz (BB cs) (st.gQ (some s)) 0 ((Γ f).back y))).gQ o.dst)))
       else none
     else none
    |none=>none
  |_=>none
 |[]=>none
def aaJ (o:Oper)(f:Nat)(args:au Operand)(st:AS)(K:AS->aw R):aw R:=
 match o.dst with
 |some d=>
  match nth st.boxes d with
  |some none=>
   bif args.all (λx=>(st.rd x).GH) then
    aa ((Γ f).fn (args.map st.rd)) λy=>
     bif ((Γ f).back y).all AC.GH then K ((st.eu d (some ((Γ f).back y))).put (some d) (.one (.ptr d 0))) else none
   else none
  |_=>none
 |none=>none
def BE (o:Oper)(f:Operand)(args:au Operand)(st:AS)(K:AS->aw R):aw R:=
 match st.rd f with
 | .val false [.fn f]=>
   bif (Γ f).bx then tu Γ o f args st K else
   bif (Γ f).pr then aaJ Γ o f args st K else
   bif (Γ f).io then none
   else aa ((Γ f).fn (args.map λx=>((st.rd x).fresh st).asArg st.ep)) λr=>cond ((Γ f).sel r) (K ((st.e9 o.dst).put o.dst (((Γ f).av r).BC st.ep (st.gQ o.dst)))) (K ((st.e9 o.dst).put o.dst (((Γ f).alt r).BC st.ep (st.gQ o.dst))))
 |_=>none
def BG {R:Type}(op:BinOp)(b:Bool)(K:AC->aw R):aw R:=
 match op with
 | .eql=>K (.bool b)
 | .neq=>K (.bool (!b))
 |_=>none
def yQ (o:Oper)(op:BinOp)(T:TypeId)(x y:Operand)(st:AS)(K:AS->aw R):aw R:=
 match st.rd x,st.rd y with
 | .val false [.bool a],.val false [.bool b]=>if E.bool T then Dw op (.one (.bool a)) (.one (.bool b)) λc=>K (st.put o.dst (.one c)) else none
 | .val true xs,.val true ys=>match NN E.eqs T with
   |some ls=>if fits ls xs then Dw op (.val true xs) (.val true ys) λc=>K (st.put o.dst (.one c)) else none
   |none=>none
 | .val false [.sl fl _ xs],.val false [.nilsl]=>if(E.sl T).isSome/\fl.live st.ep then(if xs.length=0 then none else BG op false λc=>K (st.put o.dst (.one c))) else none
 | .val false [.nilsl],.val false [.nilsl]=>if(E.sl T).isSome then BG op true λc=>K (st.put o.dst (.one c)) else none
 |a,b=>Dw op a b λc=>K (st.put o.dst (.one c))
def cG (o:Oper)(st:AS)(K:AS->aw R):aw R:=
 match o.op with
 | .move x=>Ap an o x st K
 | .assign x=>if ym an o then NK o x st K else tt E an o x st K
 | .pick c a b=>Cx o c a b st K
 | .alloc T=>AD E o T st K
 | .box _ x=>OM o x st K
 | .load T p=>n9 E an o T p st K
 | .store T p x=>match o.dst with|none=>(if ym an o then vo E T p x st K else vn E T p x st K)|some _=>none
 | .nilCheck x=>
   match st.rd x with
   | .val false [.ptr s off]=>K (st.put o.dst (.one (.ptr s off)))
   | .val false [.elt fl e y i off]=>K (st.put o.dst (.one (.elt fl e y i off)))
   |_=>none
 | .binOp op T x y _=>yQ E o op T x y st K
 | .unOp op _ x=>unC op (st.rd x) λc=>K (st.put o.dst (.one c))
 | .fieldAddr S p f=>ya E o S p f st K
 | .indexAddr T x i=>lM E o T x i st K
 | .index T x i=>zO E o T x i st K
 | .build T parts=>zJ E o T parts.toList st K
 | .buildSlice T len parts=>k8 E o T len parts.toList st K
 | .makeSlice T n c=>nI E o T n c st K
 | .slice T x lo hi none=>yy E an o T x lo hi st K
 | .field S (.tmp t) f=>C6 E o S t f st K
 | .call {callee:=.builtin .copy,args,argTypes}=>M4 E o argTypes.toList args.toList st K
 | .convert src dst x=>lb E o src dst x st K
 | .extract (.tmp t) i=>lf o t i st K
 | .call {callee:=.builtin .len,args,argTypes}=>K9 E o argTypes.toList args.toList st K
 | .call {callee:=.builtin .min,args,..}=>MC o args.toList st K
 | .call {callee:=.builtin .max,args,..}=>MB o args.toList st K
 | .call {callee:=.builtin .append,args,argTypes}=>vr E o argTypes.toList args.toList st K
 | .call {callee:=.value f,args,..}=>BE Γ o f args.toList st K
 |_=>none
def gb (ops:au Oper)(o:Oper)(st:AS)(K:AS->aw R):aw R:=
 match o.guard with
 |none=>cG E Γ an o st K
 |some (j,want)=>
  match (nth ops j).bind (·.dst)with
  |some d=>
   match st.get d with
   | .val false [.bool b]=>
     let go (t:Bool):aw R:=
      if t==want then cG E Γ an o (st.put (some d) (.one (.bool t))) K else K ((st.put (some d) (.one (.bool t))).put o.dst (.one .un))
     cond b (go true) (go false)
   | .val false [.un]=>K (st.put o.dst (.one .un))
   |_=>none
  |none=>none
def Qx (ops:au Oper):au Oper->AS->(AS->aw R)->aw R
 |[],st,K=>K st
 |o::r,st,K=>gb E Γ an ops o st λst'=>Qx ops r st' K
def ft:Code->Nat
 | .region id _ _=>id
 | .seq a _=>ft a
 | .block _ c=>ft c
 | .loop c=>ft c
 | .cond _ a b=>match ft a with|0=>ft b|n=>n
 |_=>0
def B0 (c:Code):Nat:=1000000+2*ft c
def kf (l:eG):Code->au Code
 | .seq a b=>kf l a++(bif l.contains (ft b) then b::kf l b else kf l b)
 | .cond _ a b=>kf l a++kf l b
 | .block _ c=>kf l c
 | .loop c=>kf l c
 |_=>[]
def ld (l:eG)(fn:Func)(k:Nat):Code:=(nth (kf l (fn.body.getD .skip)) k).getD .skip
def iS:Code->au Code
 | .seq a b=>iS a++iS b
 | .cond _ a b=>iS a++iS b
 | .block _ c=>iS c
 | .loop c=>c::iS c
 |_=>[]
def aR (fn:Func)(k:Nat):Code:=(nth (iS (fn.body.getD .skip)) k).getD .skip
def Yi (j:Nat):Nat:=3*(4096*1000003+j)
def jQ.CN:jQ->aw Nat
 | .slot s j=>bif Nat.ble 4096 j then none else bif Nat.ble 1000000 s then none else some (3*(4096*s+j))
 | .box s j=>bif Nat.ble 4096 j then none else some (3*(4096*s+j)+1)
 | .io j=>bif Nat.ble 4096 j then none else some (Yi j)
def AC.ac5 (io:au AC)(j t:Nat)(e:CT):aw (au e.D):=
 match nth io j with
 |some (.sl (.own (some t')) e' ys)=>if h:e'=e then bif t'==t then some (h▸ys) else none else none
 |_=>none
def AC.mask (keep:eG)(ep:Nat)(io:au AC)(rt:jQ):AC->AC
 | .ptr s off=>if keep.contains s then .ptr s off else .bot
 | .sl (.loc e pv) t xs=>
   match pv with
   |some (.io j,n)=>match AC.ac5 io j n t with
    |some ys=> .sl (.loc 0 ((jQ.CN (.io j)).map λq=>(.io j,q))) t ys
    |none=>if e==ep then .sl (.loc 0 none) t xs else .bot
   |_=>if e==ep then .sl (.loc 0 none) t xs else .bot
 | .sl (.own _) t xs=> .sl (.own rt.CN) t xs
 | .sl (.nest ..) _ _=> .bot
 | .sl (.part ..) _ _=> .bot
 | .sl (.holed _ i _) e xs=> .sl (.holed none i none) e xs
 | .elt _ _ _ _ _=> .bot
 |c=>c
def Hd (keep:eG)(ep:Nat)(io:au AC)(f:Nat->jQ):Nat->au AC->au AC
 |_,[]=>[]
 |j,c::cs=>c.mask keep ep io (f j)::Hd keep ep io f (j+1) cs
def AV.mask (keep:eG)(ep:Nat)(io:au AC)(s:Nat):AV->AV
 | .val g cs=> .val g (Hd keep ep io (.slot s) 0 cs)
 | .tup _=> .bot
def mI (keep:eG)(ep:Nat)(io:au AC):Nat->au AV->au AV
 |_,[]=>[]
 |i,v::r=>(if keep.contains i then v.mask keep ep io i else .bot)::mI keep ep io (i+1) r
def mH (keep:eG)(ep:Nat)(io:au AC):Nat->au (aw (au AC))->au (aw (au AC))
 |_,[]=>[]
 |i,b::r=>(if keep.contains i then b.map (Hd keep ep io (.box i) 0) else none)::mH keep ep io (i+1) r
def Wr (keep:eG):Nat->au AC->au AC
 |_,[]=>[]
 |j,c::cs=>(match c with| .sl (.own _) e xs=> .sl (.own (jQ.CN (.io j))) e xs| .sl (.holed _ i _) e xs=> .sl (.holed none i none) e xs| .ptr s off=>if keep.contains s then .ptr s off else .bot|c=>bif c.iZ then c else .bot)::Wr keep (j+1) cs
def AS.mask (keep:eG)(st:AS):AS:=
 ⟨mI keep st.ep st.io 0 st.slots,mH keep st.ep st.io 0 st.boxes,0,List.replicate st.slots.length false,Wr keep 0 st.io⟩
def getBool (st:AS)(s:Nat):aw Bool:=
 match st.get s with
 | .val false [.bool b]=>some b
 |_=>none
def gn (an:An)(ds:eG)(o:Oper):Bool:=
 match o.op with
 | .assign (.const _)=> !ym an o
 | .assign (.tmp t)=>ds.contains t&& !ym an o
 | .move _| .load ..=>match o.dst with|some d=> !an.mv.contains d|none=>false
 | .slice ..=> !CS an o
 | .pick ..| .binOp ..| .unOp ..| .fieldAddr ..| .indexAddr ..| .index ..| .nilCheck _=>true
 | .build _ ps=>ps.isEmpty
 | .call {callee:=.builtin .len,..}| .call {callee:=.builtin .min,..}| .call {callee:=.builtin .max,..}=>true
 | .call {callee:=.value _,..}=>true
 |_=>false
def Eh (ops:au Oper):eG:=ops.filterMap (·.dst)
def AS.zd (st:AS):eG->AS
 |[]=>st
 |d::r=>((st.put (some d) .bot).e9 (some d)).zd r
def Dy (ops:au Oper)(A:au eG):Nat->au Oper->AS->(AS->aw R)->aw R
 |_,[],st,K=>K st
 |i,o::r,st,K=>bif dv E an (rq an A i 0 ops) o st then gb E Γ an ops o st λst'=>Dy ops A (i+1) r st' K else none
def Ce (ops:au Oper)(draw:Bool)(st:AS)(K:AS->aw R):aw R:=
 bif draw then(bif RP an ops then Dy E Γ.EN an ops (Rb ops []) 0 ops st K else none) else Qx E Γ an ops ops st K
def QG (id:Nat)(ops:au Oper)(draw:Bool)(st:AS)(K:AS->aw R):aw R:=
 match an.merge id with
 |none=>Ce E Γ an ops draw st K
 |some s=>
  if ops.all (gn an (Eh ops)) then
   aa (Ce E Γ.calm an ops draw st λst'=>getBool st' s) λb=>K ((st.zd (Eh ops)).put (some s) (.one (.bool b)))
  else none
def BL (key:eG)(B:AS->(Ex->AS->aw R)->aw R):Nat->AS->(Ex->AS->aw R)->aw R
 |0,_,_=>none
 |m+1,st,K=>B st λe st'=>
  match e with
  | .normal=>BL key B m (st'.mask key) K
  |e=>K e (st'.mask key)
def den (Λ:dC):Code->AS->(Ex->AS->aw R)->aw R
 | .skip,st,K=>K .normal st
 | .region id ops draw,st,K=>QG E Γ an id ops.toList draw st (K .normal)
 | .seq a b,st,K=>den Λ a st λe st'=>match e with
   | .normal=>bif an.cut.contains (ft b) then(Λ (B0 b)).go (st'.mask (an.mask (B0 b))) K else den Λ b st' K
   |e=>K e st'
 | .cond c a b,st,K=>
   match st.rd c with
   | .val false [.bool t]=>cond t (den Λ a st K) (den Λ b st K)
   |_=>none
 | .block id c,st,K=>den Λ c st λe st'=>
   match e with
   | .exit j=>if j==id then K .normal st' else K (.exit j) st'
   |e=>K e st'
 | .loop c,st,K=>
   bif an.peel.contains (ft c) then den Λ c (st.mask (an.mask (ft c))) λe st'=>
    match e with
    | .normal=>(Λ (ft c)).go (st'.mask (an.mask (ft c))) K
    |e=>K e (st'.mask (an.mask (ft c)))
   else(Λ (ft c)).go (st.mask (an.mask (ft c))) K
 | .exit id,st,K=>K (.exit id) st
 | .ret,st,K=>K .ret st
 |_,_,_=>none
end
def LA (st:AS)(E:Env):ResultVar->aw ((Bool×Nat)×Bool×au AC)
 | .tmp t=>match st.get t with| .val g cs=>some ((false,t),g,cs.map AC.strip)|_=>none
 | .cell t T=>match iI E.ty T,st.get t with
   |some sh,.val false [.ptr s off]=>((nth st.boxes s).getD none).bind λcs=>
    if off+sh.ct.size<=cs.length then some ((true,s),sh.agg,((cs.drop off).take sh.ct.size).map AC.strip) else none
   |_,_=>none
def rj (st:AS)(E:Env):au (Bool×Nat)->au ResultVar->aw (au (Bool×au AC))
 |_,[]=>some []
 |had,r::rs=>(LA st E r).bind λx=>if had.contains x.1 then none else(rj st E (x.1::had) rs).bind λxs=>some (x.2::xs)
def results (E:Env)(rs:au ResultVar)(st:AS):aw AV:=
 match rj st E [] rs with
 |some [(g,cs)]=>some (.val g cs)
 |some vs=>some (.tup vs)
 |none=>none
def start (fn:Func)(args:au AV):AS:=⟨args++List.replicate (fn.ntmps-args.length) .bot,List.replicate (args.length+(fn.ntmps-args.length)) none,0,List.replicate fn.ntmps false,[]⟩
abbrev kP:au (Bool×FT)->Type
 |[]=>Unit
 |[(_,t)]=>t.ct.D
 |(_,t)::r=>t.ct.D×kP r
def kN:(l:au (Bool×FT))->au (Bool×au AC)->aw (kP l)
 |[],[]=>some ()
 |[(g,t)],[(g',cs)]=>bif g==g' then(match Jm t cs with|some (x,[])=>some x|_=>none) else none
 |(g,t)::p::r,(g',cs)::vs=>bif g==g' then(match Jm t cs with|some (x,[])=>(kN (p::r) vs).bind λy=>some (x,y)|_=>none) else none
 |_,_=>none
def al6:(l:au (Bool×FT))->kP l->au (Bool×au AC)
 |[],_=>[]
 |[(g,t)],x=>[(g,iY t x)]
 |(g,t)::p::r,x=>(g,iY t x.1)::al6 (p::r) x.2
def xU (l:au (Bool×FT))(x:kP l):AV:=
 match al6 l x with
 |[(g,cs)]=> .val g cs
 |vs=> .tup vs
def Kt (E:Env)(Γ:dm)(an:An)(Λ:dC)(fn:Func)(rs:au (Bool×FT))(args:au AV):aw (kP rs):=
 match fn.body with
 |some c=>if args.length=fn.params.size then den E Γ an Λ c (start fn args) λe st=>
  match e with
  | .exit _=>none
  |_=>aa (rj st E [] fn.results.toList) (kN rs)
  else none
 |none=>none
def evalAlt (E:Env)(Γ:dm)(an:An)(Λ:dC)(fn:Func)(rs rs2:au (Bool×FT))(h:kP rs2=kP rs)(args:au AV):aw (Bool×kP rs):=
 match fn.body with
 |some c=>if args.length=fn.params.size then den E Γ an Λ c (start fn args) λe st=>
  match e with
  | .exit _=>none
  |_=>aa (rj st E [] fn.results.toList) λys=>
   match kN rs ys with
   |some y=>some (true,y)
   |none=>match kN rs2 ys with
    |some y=>some (false,cast h y)
    |none=>none
  else none
 |none=>none
def E3:Nat->au AC->au AC
 |_,[]=>[]
 |j,.sl (.own _) e xs::cs=> .sl (.own (some (3*j+1))) e xs::E3 (j+1) cs
 |j,c::cs=>c::E3 (j+1) cs
def yE (fn:Func)(cs:au AC)(args:au AV):AS:=
 {start fn (.one (.ptr 0 0)::args)with boxes:=some (E3 0 cs)::List.replicate (args.length+(fn.ntmps-(args.length+1))) none,io:=[.ptr 0 0]}
def X4 (E:Env)(Γ:dm)(an:An)(Λ:dC)(fn:Func)(rs:au (Bool×FT))(t:FT)(args:au AV):aw (kP rs×t.ct.D):=
 match fn.body,args with
 |some c,.val true cs::xs=>if xs.length+1=fn.params.size/\cs.all (AC.wZ true)=true then den E Γ an Λ c (yE fn cs xs) λe st=>
  match e with
  | .exit _=>none
  |_=>aa (aa (rj st E [(true,0)] fn.results.toList) (kN rs)) λr=>
   match st.io,st.boxes with
   |[.ptr 0 0],some cs'::_=>match Jm t (cs'.map AC.strip)with
    |some (x,[])=>some (r,x)
    |_=>none
   |_,_=>none
  else none
 |_,_=>none
def PX (E:Env)(Γ:dm)(an:An)(Λ:dC)(fn:Func)(t:FT)(args:au AV):aw t.ct.D:=
 match fn.body with
 |some c=>if args.length=fn.params.size then den E Γ an Λ c (start fn args) λe st=>
  match e with
  | .exit _=>none
  |_=>match fn.results.toList with
   |[.tmp i]=>match st.get i with
    | .val false [.ptr s 0]=>match (nth st.boxes s).getD none with
      |some cs=>if cs.all AC.GH=true then(match Jm t (cs.map AC.strip)with|some (x,[])=>some x|_=>none) else none
      |none=>none
    |_=>none
   |_=>none
  else none
 |none=>none
end Go.Dn
