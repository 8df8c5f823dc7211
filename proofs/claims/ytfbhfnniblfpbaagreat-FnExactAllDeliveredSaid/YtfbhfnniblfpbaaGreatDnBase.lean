import Derived.Test.YtfbhfnniblfpbaaGreatDnData
/- An abstract, heap-free semantics of the model's code, for functions that treat their data by value: definitions. -/
namespace Go.Dn
inductive ka where
 |slot (s j:Nat)|box (s j:Nat)|io (j:Nat)
 deriving DecidableEq
inductive qt where
 |own (tag:Option Nat)
 |loc (ep:Nat) (pv:Option (ka×Nat))
 |arg (k:Bool)
 |nest (ep:Nat) (r:ka) (t:Nat) (e:CT) (i:Int) (off:Nat)
 |part (ep:Nat) (r:ka) (t:Nat) (lo:Int)
 |eQ (tag:Option Nat) (i:Int) (ep:Option Nat)
inductive AC where
 |int (k:IntKind) (n:Int)|bool (b:Bool)|str (s:List UInt8)
 |sl (fl:qt) (e:CT) (xs:List e.D)
 |jl
 |ptr (s off:Nat)
 |Cg (fl:qt) (e:CT) (x:e.D) (i:Int) (off:Nat)
 |fn (f:Nat)
 |un
 |bot
inductive AV where
 |val (agg:Bool) (cs:List AC)
 |vq (vs:List (Bool×List AC))
abbrev AV.one (c:AC):AV:=.val false [c]
abbrev AV.bot:AV:=.val false [.bot]
structure AS where
 slots:List AV
 boxes:List (Option (List AC))
 ep:Nat
 iss:List Bool
 io:List AC
structure Shape where
 agg:Bool
 ct:CT
 jJ:List (Nat×Nat):=[]
structure An where
 mask:Nat->List Nat:=λ_=>[]
 merge:Nat->Option Nat:=λ_=>none
 mv:List Nat:=[]
 nest:List Nat:=[]
 mb:Nat->Option Nat:=λ_=>none
 sb:Nat->Option Nat:=λ_=>none
 late:List Nat:=[]
 peel:List Nat:=[]
 nils:List Nat:=[]
 fm:List Nat:=[]
 eb:Nat->Option Nat:=λ_=>none
 es:Nat->Option Nat:=λ_=>none
 er:Nat->Option Nat:=λ_=>none
 cut:List Nat:=[]
def cellsOf:(t:CT)->qt->t.D->au AC
 | .int k,_,n=>[.int k n]
 | .bool,_,b=>[.bool b]
 | .str,_,s=>[.str s]
 | .sl e,fl,xs=>[.sl fl e xs]
 | .pair a b,fl,x=>cellsOf a fl x.1++cellsOf b fl x.2
def iD:(t:CT)->au AC->aw (t.D×au AC)
 | .int k,.int k' n::r=>if k'=k then some (n,r) else none
 | .bool,.bool b::r=>some (b,r)
 | .str,.str s::r=>some (s,r)
 | .sl e,.sl (.own _) e' xs::r=>if h:e'=e then some (h▸xs,r) else none
 | .sl _,.jl::r=>some ([],r)
 | .pair a b,cs=>(iD a cs).bind λx=>(iD b x.2).bind λy=>some ((x.1,y.1),y.2)
 |_,_=>none
def nth {α:Type}:au α->Nat->aw α
 |[],_=>none
 |a::_,0=>some a
 |_::l,n+1=>nth l n
def gG {α:Type}:au α->Nat->α->au α
 |[],_,_=>[]
 |_::l,0,v=>v::l
 |a::l,n+1,v=>a::gG l n v
def AS.get (st:AS)(i:Nat):AV:=(nth st.slots i).getD .bot
def AS.put (st:AS)(d:aw Nat)(v:AV):AS:=
 match d with
 |some d=>{st with slots:=gG st.slots d v}
 |none=>st
def Kn (d j:Nat):Nat:=3*(4096*d+j)+2
def AS.gV (st:AS)(d:aw Nat)(j:Nat):aw Nat:=
 match d with
 |some d=>bif (nth st.iss d).getD true then none else bif Nat.ble 4096 j then none else some (Kn d j)
 |none=>none
def AS.eX (st:AS)(d:aw Nat):AS:=
 match d with
 |some d=>{st with iss:=gG st.iss d true}
 |none=>st
def AS.pH (st:AS)(d:aw Nat)(e:CT)(xs:au e.D):AS:=
 (st.eX d).put d (.one (.sl (.own (st.gV d 0)) e xs))
def AC.borrow (ep:Nat)(rt:aw ka):AC->AC
 | .sl (.own tag) e xs=> .sl (.loc ep (match rt,tag with|some r,some t=>some (r,t)|_,_=>none)) e xs
 | .sl (.eQ tag _ (some NI)) e xs=> .sl (.loc NI (match rt,tag with|some r,some t=>some (r,t)|_,_=>none)) e xs
 | .sl (.eQ _ _ none) _ _=> .bot
 |c=>c
def ib (ep:Nat)(f:Nat->ka):Nat->au AC->au AC
 |_,[]=>[]
 |j,c::cs=>c.borrow ep (some (f j))::ib ep f (j+1) cs
def aS (ep:Nat)(cs:au AC):au AC:=cs.map (AC.borrow ep none)
def AV.borrow (ep:Nat)(f:Nat->ka):AV->AV
 | .val g cs=> .val g (ib ep f 0 cs)
 | .vq vs=> .vq (vs.map λx=>(x.1,aS ep x.2))
def AV.aS (ep:Nat):AV->AV
 | .val g cs=> .val g (Dn.aS ep cs)
 | .vq vs=> .vq (vs.map λx=>(x.1,Dn.aS ep x.2))
def ofConst:Value->AV
 | .int k n=> .one (.int k n)
 | .bool b=> .one (.bool b)
 | .string s=> .one (.str s.data.toList)
 | .slice none 0 0=> .one .jl
 |_=> .bot
def AS.rd (st:AS):Operand->AV
 | .tmp t=>(st.get t).borrow st.ep (.slot t)
 | .const v=>ofConst v
 | .func f=> .one (.fn f)
 | .global _=> .bot
def AS.take (st:AS):Operand->AV×AS
 | .tmp t=>(st.get t,st.put (some t) ((st.get t).aS st.ep))
 |x=>(st.rd x,st)
def AS.ed (st:AS)(s:Nat)(b:aw (au AC)):AS:={st with boxes:=gG st.boxes s b}
def AC.asArg (ep:Nat):AC->AC
 | .int k n=> .int k n
 | .bool b=> .bool b
 | .str s=> .str s
 | .sl (.own _) e xs=> .sl (.arg false) e xs
 | .sl (.loc ep' _) e xs=>if ep'==ep then .sl (.arg false) e xs else .bot
 | .sl (.arg _) e xs=> .sl (.arg false) e xs
 | .jl=> .jl
 | .fn f=> .fn f
 |_=> .bot
def AV.asArg (ep:Nat):AV->AV
 | .val g cs=> .val g (cs.map (AC.asArg ep))
 | .vq _=> .bot
def AC.Fg (ep:Nat)(tag:aw Nat):AC->AC
 | .sl (.own _) e xs=> .sl (.own tag) e xs
 | .sl (.arg _) e xs=> .sl (.loc ep none) e xs
 | .sl (.loc _ _) _ _=> .bot
 | .sl (.nest ..) _ _=> .bot
 | .sl (.part ..) _ _=> .bot
 | .sl (.eQ _ i _) e xs=> .sl (.eQ none i none) e xs
 | .ptr _ _=> .bot
 | .Cg _ _ _ _ _=> .bot
 |c=>c
def JY (ep:Nat)(mk:Nat->aw Nat):Nat->au AC->au AC
 |_,[]=>[]
 |j,c::cs=>c.Fg ep (mk j)::JY ep mk (j+1) cs
def Ys (ep:Nat)(mk:Nat->aw Nat):Nat->au (Bool×au AC)->au (Bool×au AC)
 |_,[]=>[]
 |j,t::ts=>(t.1,JY ep mk j t.2)::Ys ep mk (j+t.2.length) ts
def AV.Fg (ep:Nat)(mk:Nat->aw Nat):AV->AV
 | .val g cs=> .val g (JY ep mk 0 cs)
 | .vq vs=> .vq (Ys ep mk 0 vs)
def AC.I6:AC->Bool
 | .sl (.arg _) _ _=>true
 | .int ..=>true
 | .bool _=>true
 | .str _=>true
 | .fn _=>true
 |_=>false
structure zy where
 R:Type
 fn:List AV->Option R
 av:R->AV
 io:Bool:=false
 back:R->List AC:=λ_=>[]
 bx:Bool:=false
 pr:Bool:=false
 sel:R->Bool:=λ_=>true
 alt:R->AV:=λ_=> .val false [.bot]
 cur:Bool:=false
 hcur:cur=true->∀y,(back y).all AC.I6=true:=by intro h;cases h
def zy.res (F:zy)(y:F.R):AV:=cond (F.sel y) (F.av y) (F.alt y)
abbrev xg:=Nat->zy
def zy.dead:zy:={R:=Unit,fn:=λ_=>none,av:=λ_=> .val false [.bot]}
def xg.calm (Γ:xg):xg:=λf=>bif (Γ f).io||(Γ f).bx||(Γ f).pr then zy.dead else Γ f
def xg.IX (Γ:xg):xg:=λf=>bif (Γ f).io||(Γ f).pr||((Γ f).bx&& !(Γ f).cur) then zy.dead else Γ f
def JL {R:Type}(op:BinOp)(k:IntKind)(x y:Int)(K:AC->aw R):aw R:=
 match op with
 | .add=>K (.int k (k.wrap (x+y)))
 | .sub=>K (.int k (k.wrap (x-y)))
 | .mul=>K (.int k (k.wrap (x*y)))
 | .quo=>if y=0 then none else K (.int k (k.wrap (x.tdiv y)))
 | .rem=>if y=0 then none else K (.int k (x.tmod y))
 | .and=>K (.int k (k.wrap (BitVec.ofInt k.bits x&&&BitVec.ofInt k.bits y).toNat))
 | .or=>K (.int k (k.wrap (BitVec.ofInt k.bits x|||BitVec.ofInt k.bits y).toNat))
 | .xor=>K (.int k (k.wrap (BitVec.ofInt k.bits x^^^BitVec.ofInt k.bits y).toNat))
 | .andNot=>K (.int k (k.wrap (BitVec.ofInt k.bits x&&&~~~ BitVec.ofInt k.bits y).toNat))
 | .eql=>K (.bool (x==y))
 | .neq=>K (.bool (x !=y))
 | .lss=>K (.bool (decide (x<y)))
 | .leq=>K (.bool (decide (x<=y)))
 | .gtr=>K (.bool (decide (x>y)))
 | .geq=>K (.bool (decide (x>=y)))
 |_=>none
def Mn {R:Type}(op:BinOp)(x y:au UInt8)(K:AC->aw R):aw R:=
 match op with
 | .add=>room (x.length+y.length) (K (.str (x++y)))
 | .eql=>K (.bool (x==y))
 | .neq=>K (.bool (!(x==y)))
 | .lss=>K (.bool (Op.bytesLess x y))
 | .leq=>K (.bool (Op.bytesLess x y||x==y))
 | .gtr=>K (.bool (!(Op.bytesLess x y||x==y)))
 | .geq=>K (.bool (!(Op.bytesLess x y)))
 |_=>none
def vz:au AC->au AC->aw Bool
 |[],[]=>some true
 | .int k x::r,.int k' y::r'=>if k=k' then(vz r r').bind λb=>some ((x==y)&&b) else none
 | .bool x::r,.bool y::r'=>(vz r r').bind λb=>some ((x==y)&&b)
 | .str x::r,.str y::r'=>(vz r r').bind λb=>some ((x==y)&&b)
 |_,_=>none
def HG {R:Type}(op:BinOp)(x y:AV)(K:AC->aw R):aw R:=
 match x,y with
 | .val false [.int k a],.val false [.int k' b]=>
   match op with
   | .shl=>if b<0 then none else K (.int k (k.wrap (a*2^(min b.toNat k.bits))))
   | .shr=>if b<0 then none else K (.int k (a.fdiv (2^(min b.toNat k.bits))))
   |_=>if k=k' then JL op k a b K else none
 | .val false [.str a],.val false [.str b]=>Mn op a b K
 | .val false [.bool a],.val false [.bool b]=>
   match op with
   | .eql=>K (.bool (a==b))
   | .neq=>K (.bool (!(a==b)))
   |_=>none
 | .val true xs,.val true ys=>
   match op with
   | .eql=>aa (vz xs ys) λb=>K (.bool b)
   | .neq=>aa (vz xs ys) λb=>K (.bool (!b))
   |_=>none
 |_,_=>none
def unC {R:Type}(op:UnOp)(x:AV)(K:AC->aw R):aw R:=
 match op,x with
 | .not,.val false [.bool b]=>K (.bool (!b))
 | .neg,.val false [.int k n]=>K (.int k (k.wrap (0-n)))
 | .xor,.val false [.int k n]=>JL .xor k (if k.signed then-1 else k.max) n K
 |_,_=>none
def cS (cs:au AC)(off:Nat)(vs:au AC):au AC:=cs.take off++vs++cs.drop (off+vs.length)
def AS.ew (st:AS):ka->aw AC
 | .slot s j=>match st.get s with| .val _ cs=>nth cs j|_=>none
 | .box s j=>((nth st.boxes s).getD none).bind λcs=>nth cs j
 | .io j=>nth st.io j
def AS.eI (st:AS)(r:ka)(c:AC):AS:=
 match r with
 | .slot s j=>match st.get s with| .val g cs=>st.put (some s) (.val g (gG cs j c))|_=>st
 | .box s j=>match (nth st.boxes s).getD none with|some cs=>st.ed s (some (gG cs j c))|none=>st
 | .io j=>{st with io:=gG st.io j c}
def AS.fresh (st:AS):AC->AC
 | .sl (.loc ep (some (r,t))) e xs=>
   bif ep==st.ep then .sl (.loc ep (some (r,t))) e xs else
    match st.ew r with
    |some (.sl (.own (some t')) e' ys)=>if h:e'=e then bif t'==t then .sl (.loc st.ep (some (r,t))) e (h▸ys) else .sl (.loc ep (some (r,t))) e xs else .sl (.loc ep (some (r,t))) e xs
    |_=> .sl (.loc ep (some (r,t))) e xs
 |c=>c
def AV.fresh (st:AS):AV->AV
 | .val g cs=> .val g (cs.map st.fresh)
 | .vq vs=> .vq vs
def AC.now (ep:Nat):AC->Bool
 | .sl (.loc ep' (some _)) _ _=>ep'==ep
 |_=>true
def AS.pc {R:Type}(st:AS)(r:ka)(t:Nat)(e:CT)(i:Int)(off:Nat)(vs:au AC)(K:AS->aw R):aw R:=
 match st.ew r with
 |some (.sl (.own (some t')) e' xs)=>
  if h:e'=e then
   if t'=t then
    aa (idx (h▸xs:au e.D) i) λx=>
     match iD e (cS (cellsOf e (.own none) x) off vs)with
     |some (x',[])=>K {st.eI r (.sl (.own (some t')) e ((h▸xs:au e.D).set i.toNat x'))with ep:=st.ep+1}
     |_=>none
   else none
  else none
 |some (.sl (.eQ (some t') i' _) e' xs)=>
  if h:e'=e then
   if t'=t/\off=0 then
    aa (aaP (h▸xs:au e.D) i' i) λ_=>
     match iD e vs with
     |some (x',[])=>K {st.eI r (.sl (.own (some t')) e ((h▸xs:au e.D).set i.toNat x'))with ep:=st.ep+1}
     |_=>none
   else none
  else none
 |_=>none
def AV.cells:AV->au AC
 | .val _ cs=>cs
 | .vq _=>[.bot]
def ez (st:AS):au Operand->au AV×AS
 |[]=>([],st)
 |x::xs=>let (v,st1):=st.take x;let (vs,st2):=ez st1 xs;(v::vs,st2)
def DD (e:CT):au (au AC)->aw (au e.D)
 |[]=>some []
 |cs::r=>match iD e cs with
  |some (x,[])=>(DD e r).bind λxs=>some (x::xs)
  |_=>none
def JJ:Nat->au (Nat×Operand)->Bool
 |_,[]=>true
 |n,(i,_)::r=>i==n&&JJ (n+1) r
def AC.J9:AC->Bool
 | .bot=>false
 | .un=>false
 |_=>true
def xn (jJ:au (Nat×Nat))(zero:au AC):au (Nat×au AC)->aw (au AC)
 |[]=>some zero
 |(i,cs)::r=>match nth jJ i with
  |some (off,n)=>if cs.length=n/\off+n<=zero.length/\cs.all AC.J9 then xn jJ (cS zero off cs) r else none
  |none=>none
inductive LK where
 |int|bool|str
 deriving DecidableEq
structure Env where
 ty:List (Nat×Shape)
 eqs:List (Nat×List LK):=[]
 fts:List ((Nat×Nat)×Nat):=[]
def Rn (l:au (Nat×au LK))(t:Nat):aw (au LK):=
 match l with
 |[]=>none
 |(u,sh)::r=>bif u==t then some sh else Rn r t
def fits:au LK->au AC->Bool
 |[],[]=>true
 | .int::ls,.int _ _::r=>fits ls r
 | .bool::ls,.bool _::r=>fits ls r
 | .str::ls,.str _::r=>fits ls r
 |_,_=>false
def Vj (l:au ((Nat×Nat)×Nat))(S f:Nat):aw Nat:=
 match l with
 |[]=>none
 |((u,k),T)::r=>bif u==S&&k==f then some T else Vj r S f
def iH (l:au (Nat×Shape))(t:Nat):aw Shape:=
 match l with
 |[]=>none
 |(u,sh)::r=>bif u==t then some sh else iH r t
def Env.sl (E:Env)(t:Nat):aw CT:=
 match iH E.ty t with
 |some ⟨false,.sl e,_⟩=>some e
 |_=>none
def Env.str (E:Env)(t:Nat):Bool:=
 match iH E.ty t with
 |some ⟨false,.str,_⟩=>true
 |_=>false
def Env.bool (E:Env)(t:Nat):Bool:=
 match iH E.ty t with
 |some ⟨false,.bool,_⟩=>true
 |_=>false
def Env.bytes (E:Env)(t:Nat):Bool:=
 match iH E.ty t with
 |some ⟨false,.sl (.int .u8),[(te,_)]⟩=>match iH E.ty te with|some ⟨false,.int .u8,_⟩=>true|_=>false
 |_=>false
def qt.live (ep:Nat):qt->Bool
 | .loc ep' _=>ep'==ep
 | .arg _=>true
 | .own _=>false
 | .nest ..=>false
 | .part ..=>false
 | .eQ ..=>false
def qt.uP (ep:Nat)(flat:Bool):qt->Bool
 | .loc ep' _=>ep'==ep&&flat
 | .arg _=>flat
 | .own _=>true
 | .nest ..=>false
 | .part ..=>false
 | .eQ ..=>false
def qt.bare:qt->qt
 | .loc ep _=> .loc ep none
 |f=>f
def AC.fS:AC->Bool
 | .int _ _=>true
 | .bool _=>true
 | .str _=>true
 | .fn _=>true
 |_=>false
def tm:Operand->dI
 | .tmp t=>[t]
 |_=>[]
def Qw (l:au Operand):dI:=l.flatMap tm
def GU (an:An)(o:Oper):Bool:=
 match o.dst with
 |some d=>an.mv.contains d&&(an.mb d).isNone
 |none=>false
def aiw (an:An)(o:Oper):Bool:=
 match o.dst with
 |some d=>an.nils.contains d
 |none=>false
def Bu (an:An)(o:Oper):Bool:=
 match o.op with
 | .assign (.tmp s)=>an.late.contains s
 | .store _ _ (.tmp s)=>an.late.contains s
 |_=>false
def tmO:aw Operand->dI
 |some x=>tm x
 |none=>[]
def dj (o:Oper):dI:=
 match o.op with
 | .move x=>tm x
 | .assign x=>tm x
 | .pick c a b=>tm c++tm a++tm b
 | .box _ x=>tm x
 | .load _ p=>tm p
 | .store _ p x=>tm p++tm x
 | .nilCheck x=>tm x
 | .binOp _ _ x y _=>tm x++tm y
 | .unOp _ _ x=>tm x
 | .fieldAddr _ p _=>tm p
 | .indexAddr _ x i=>tm x++tm i
 | .index _ x i=>tm x++tm i
 | .build _ parts=>Qw (parts.toList.map (·.2))
 | .buildSlice _ _ parts=>Qw (parts.toList.map (·.2))
 | .makeSlice _ n c=>tm n++tm c
 | .slice _ x lo hi none=>tm x++tmO lo++tmO hi
 | .convert _ _ x=>tm x
 | .extract (.tmp t) _=>[t]
 | .call {callee:=.builtin _,args,..}=>Qw args.toList
 | .call {callee:=.value f,args,..}=>tm f++Qw args.toList
 |_=>[]
def GS (an:An)(o:Oper):Bool:=
 match o.op with
 | .move _=>match o.dst with|some d=>an.mv.contains d|none=>false
 | .assign _=>true
 | .box ..=>true
 | .build ..=>true
 | .buildSlice ..=>true
 | .store ..=>true
 | .extract ..=>match o.dst with|some d=>an.mv.contains d|none=>false
 | .call {callee:=.builtin .append,..}=>true
 |_=>false
def GR (an:An)(o:Oper):Bool:=
 match o.op,o.dst,o.guard with
 | .load _ (.tmp q),some d,none=>an.mv.contains d&&(an.mb d).isNone&&(an.eb q).isSome
 |_,_,_=>false
def CJ (an:An)(o:Oper):Bool:=
 match o.op,o.dst,o.guard with
 | .load _ (.tmp q),some d,none=> !an.mv.contains d&& !an.fm.contains d&&(an.sb q).isSome
 |_,_,_=>false
def GV (an:An)(o:Oper):dI:=
 match o.op with
 | .alloc _=>o.dst.toList
 | .box ..=>o.dst.toList
 | .load _ p=>match o.dst with|some d=>bif an.mv.contains d then(an.mb d).toList++(bif GR an o then(match p with| .tmp q=>(an.eb q).toList|_=>[]) else []) else []|none=>[]
 | .store _ (.tmp p) _=>(an.sb p).toList
 | .call {callee:=.value _,args,..}=>(match args.toList with| .tmp q::_=>(an.sb q).toList|_=>[])
 |_=>[]
def nB (an:An)(o:Oper):Bool:=
 match o.op with
 | .move _=>true
 | .load ..=>(match o.dst with|some d=> !an.mv.contains d||(an.mb d).isSome|none=>false)||GR an o
 | .extract (.tmp _) _=>true
 | .store _ (.tmp p) _=>(an.sb p).isSome&& !Bu an o
 | .assign _=> !Bu an o
 | .pick ..| .alloc _| .box ..| .nilCheck _| .binOp ..| .unOp ..| .fieldAddr ..| .indexAddr ..| .index ..| .build ..| .buildSlice ..| .makeSlice ..| .convert ..=>true
 | .slice _ _ _ _ none=> !GU an o
 | .call {callee:=.builtin .len,..}| .call {callee:=.builtin .min,..}| .call {callee:=.builtin .max,..}| .call {callee:=.builtin .append,..}=>true
 | .call {callee:=.value _,..}=>true
 |_=>false
def writes (an:An)(o:Oper):dI:=o.dst.toList++(bif GS an o then dj o else [])
def AV.now (ep:Nat):AV->Bool
 | .val _ cs=>cs.all (AC.now ep)
 | .vq _=>true
def AC.kS:AC->Bool
 | .int ..=>true
 | .bool _=>true
 | .str _=>true
 | .fn _=>true
 | .ptr ..=>true
 |_=>false
def AV.kS:AV->Bool
 | .val _ cs=>cs.all AC.kS
 | .vq _=>false
def F9 (E:Env)(T:TypeId)(st:AS)(s off:Nat):Bool:=
 match iH E.ty T,(nth st.boxes s).getD none with
 |some sh,some cs=>((cs.drop off).take sh.ct.size).all AC.kS
 |_,_=>false
def WH (an:An)(o:Oper):Bool:=match o.dst with|some d=>an.fm.contains d|none=>false
def Dc (an:An)(o:Oper):Bool:=
 match o.op,o.dst,o.guard with
 | .load _ (.tmp _),some d,none=>an.mv.contains d&&(an.mb d).isSome
 |_,_,_=>false
def NU (an:An)(o:Oper):Bool:=
 match o.op,o.dst,o.guard with
 | .load _ (.tmp _),some d,none=> !an.mv.contains d&&an.fm.contains d
 |_,_,_=>false
def erS (an:An)(o:Oper):dI:=
 match o.op,o.dst with
 | .load ..,some d=>(an.er d).toList
 | .call {callee:=.value _,..},some d=>(an.er d).toList
 |_,_=>[]
def AC.aev (l:dI):AC->Bool
 | .sl (.loc _ (some (.slot b _,_))) _ _=>l.contains b
 | .sl (.loc _ _) _ _=>false
 |_=>true
def J6 (l:dI)(st:AS):Operand->Bool
 | .tmp t=>(match st.get t with| .val _ cs=>cs.all (AC.aev l)| .vq _=>true)
 |_=>true
def acQ (an:An)(X l:dI)(st:AS)(xs:au Operand)(q:Nat):AV->Bool
 | .val false [.ptr s _]=> !X.contains s&&an.sb q==some s&&(match (nth st.boxes s).getD none with|some cs=>cs.all AC.I6|none=>true)&&xs.all (J6 l st)
 |_=>true
def AV.ZP:AV->Bool
 | .val false [.ptr _ _]=>false
 |_=>true
def tS (an:An)(X l:dI)(st:AS):au Operand->Bool
 | .tmp q::xs=>acQ an X l st xs q (st.rd (.tmp q))
 |x::_=>(st.rd x).ZP
 |[]=>true
def dg (E:Env)(an:An)(X:dI)(o:Oper)(st:AS):Bool:=
 match o.op with
 | .move x=> !WH an o||(st.rd x).kS
 | .indexAddr _ x _=>(st.rd x).now st.ep||(match st.rd x with| .val _ [.sl (.loc _ (some (.box b _,_))) _ _]=> !X.contains b|_=>false)
 | .slice _ x _ _ none=>(st.rd x).now st.ep
 | .call {callee:=.value _,args,..}=>tS an X (erS an o) st args.toList&&args.toList.all λx=>(st.rd x).now st.ep
 | .load T p=>match st.rd p with
   | .val false [.ptr s off]=> !X.contains s&&(match o.dst with|some d=> !an.mv.contains d||an.mb d==some s|none=>true)&&(!WH an o||F9 E T st s off)
   | .val false [.Cg fl _ _ _ _]=>(fl.live st.ep||(match fl with
     | .loc _ (some (.slot b _,_))=>(erS an o).contains b
     | .loc _ (some (.box b _,_))=> !X.contains b
     |_=>false))&& !(WH an o||Dc an o)&& !CJ an o&&(!GR an o||(match p,fl with
     | .tmp q,.loc _ (some (.box b _,_))=>an.eb q==some b&& !X.contains b
     |_,_=>false))
   |_=> !(WH an o||Dc an o)
 | .store _ (.tmp p) _=>((an.sb p).isNone&&(an.eb p).isNone&&(an.es p).isNone)||(match st.rd (.tmp p)with
   | .val false [.ptr s _]=> !X.contains s&&an.sb p==some s
   | .val false [.Cg (.loc _ (some (.box b _,_))) _ _ _ _]=>an.eb p==some b&&(an.sb p).isNone&&(an.es p).isNone
   | .val false [.Cg (.loc _ (some (.slot b _,_))) _ _ _ _]=>an.es p==some b&&(an.sb p).isNone&&(an.eb p).isNone
   |_=>false)
 | .extract (.tmp t) i=>match st.get t with
   | .vq vs=>match nth vs i with|some x=>x.2.all AC.fS||(match o.dst with|some d=>an.mv.contains d|none=>false)|none=>true
   |_=>true
 |_=>true
def Gc (an:An)(ops:au Oper)(o:Oper):dI:=
 (match o.guard with
 |some (j,_)=>((nth ops j).bind (·.dst)).toList
 |none=>[])++erS an o
def meets (a b:dI):Bool:=a.any λx=>b.contains x
def WX (an:An)(ops:au Oper)(X Y:dI)(o p:Oper):Bool:=
 nB an o&&nB an p&& !meets (writes an o) (dj p++Gc an ops p++writes an p)&& !meets (writes an p) (dj o++Gc an ops o)&&
 (GV an o).all (λd=>Y.contains d)&&(GV an p).all (λd=>X.contains d)&& !meets (GV an o) (p.dst.toList++GV an p)&& !meets (GV an p) o.dst.toList
def Xq (o p:Oper):Bool:=
 match o.op,p.op,o.dst,p.dst,o.guard,p.guard with
 | .extract (.tmp t) i,.extract (.tmp t') j,some d,some d',none,none=>t==t'&& !(i==j)&& !(d==d')&& !(d==t)&& !(d'==t)
 |_,_,_,_,_,_=>false
def Xh (an:An)(o p:Oper):Bool:=
 match p.op,p.dst,p.guard with
 | .store _ (.tmp q) (.tmp x),none,none=>((an.eb q).isSome&&(an.es q).isNone||(match an.es q with|some b=>(an.eb q).isNone&& !(b==x)&& !(b==q)&& !meets [b] (o.dst.toList++dj o)|none=>false))&&(an.sb q).isNone&& !Bu an p&&(match o.op,o.dst,o.guard with
   | .move (.tmp t),some d,none=> !an.mv.contains d&&an.fm.contains d&& !(d==q)&& !(d==x)&& !(t==x)&& !(t==q)&& !(d==t)
   | .extract (.tmp t) _,some d,none=> !(d==q)&& !(d==x)&& !(t==x)&& !(t==q)&& !(d==t)
   |_,_,_=>false)
 |_,_,_=>false
def X5 (an:An)(o p:Oper):Bool:=
 (Dc an o&&NU an p||NU an o&&Dc an p)&& !meets o.dst.toList (p.dst.toList++dj p)&& !meets p.dst.toList (dj o)
def W8 (an:An)(o p:Oper):Bool:=CJ an o&&GR an p&& !meets o.dst.toList (p.dst.toList++dj p)&& !meets p.dst.toList (dj o)
def aei (an:An)(o p:Oper):Bool:=Xq o p||Xh an o p||X5 an o p||W8 an o p
def Nm (an:An)(ops:au Oper)(X Y:dI)(o p:Oper):Bool:=aei an o p||WX an ops X Y o p
def CL (o:Oper):dI:=(o.after.toList.filter (λe=>Region.binds .any e)).map (·.on)
def TP (a b:dI):dI:=a.foldl (λs x=>bif s.contains x then s else x::s) b
def T6:au Oper->au dI->au dI
 |[],acc=>acc
 |o::r,acc=>T6 r (acc++[(CL o).foldl (λs j=>TP (j::(nth acc j).getD []) s) []])
def abE (A:au dI)(i k:Nat):Bool:=((nth A i).getD []).contains k
def Zg (an:An)(A:au dI)(i:Nat)(fl pl:Bool):Nat->au Oper->dI
 |_,[]=>[]
 |k,o::r=>(bif !abE A i k&& !abE A k i&& !(k==i)&& !(fl&&Dc an o)&& !(pl&&GR an o) then GV an o else [])++Zg an A i fl pl (k+1) r
def sS (an:An)(A:au dI)(i k:Nat)(ops:au Oper):dI:=Zg an A i (match nth ops i with|some o=>NU an o|none=>false) (match nth ops i with|some o=>CJ an o|none=>false) k ops
def OL (an:An)(ops:au Oper)(A:au dI)(i:Nat)(oi:Oper):Nat->au Oper->Bool
 |_,[]=>true
 |j,oj::r=>bif Nat.ble i j then true else(abE A i j||Nm an ops (sS an A j 0 ops) (sS an A i 0 ops) oj oi)&&OL an ops A i oi (j+1) r
def Tf (an:An)(ops:au Oper)(A:au dI):Nat->au Oper->Bool
 |_,[]=>true
 |i,oi::r=>(CL oi).all (λk=>Nat.blt k i)&&OL an ops A i oi 0 ops&&Tf an ops A (i+1) r
def Uk (an:An)(ops:au Oper):Bool:=Tf an ops (T6 ops []) 0 ops
inductive Ex where
 |normal|ret|exit (id:Nat)
inductive FK where
 |own (tag:Option Nat)|arg|ae6|loc|lio (j t:Nat)|nil
def FK.flag:FK->qt
 | .own t=> .own t
 | .arg=> .arg false
 | .ae6=> .arg true
 | .loc=> .loc 0 none
 | .lio j t=> .loc 0 (some (.io j,t))
 | .nil=> .arg false
def FK.isNil:FK->Bool
 | .nil=>true
 |_=>false
inductive FT where
 |int (k:IntKind)|bool|str|sl (fl:FK) (e:CT)|pair (a b:FT)
abbrev FT.ct:FT->CT
 | .int k=> .int k
 | .bool=> .bool
 | .str=> .str
 | .sl _ e=> .sl e
 | .pair a b=> .pair a.ct b.ct
def iK:(t:FT)->t.ct.D->au AC
 | .int k,n=>[.int k n]
 | .bool,b=>[.bool b]
 | .str,s=>[.str s]
 | .sl fl e,xs=>[bif fl.isNil then .jl else .sl fl.flag e xs]
 | .pair a b,x=>iK a x.1++iK b x.2
def FK.fits:FK->qt->Bool
 | .own t,.own t'=>t==t'
 | .arg,.arg k=> !k
 | .ae6,.arg k=>k
 | .loc,.loc 0 none=>true
 | .lio j t,.loc 0 (some (.io j',t'))=>j==j'&&t==t'
 |_,_=>false
def M4:(t:FT)->au AC->aw (t.ct.D×au AC)
 | .int k,.int k' n::r=>if k'=k then some (n,r) else none
 | .bool,.bool b::r=>some (b,r)
 | .str,.str s::r=>some (s,r)
 | .sl fl e,.sl fl' e' xs::r=>if h:e'=e then bif fl.fits fl' then some (h▸xs,r) else none else none
 | .sl fl _,.jl::r=>bif fl.isNil then some ([],r) else none
 | .pair a b,cs=>(M4 a cs).bind λx=>(M4 b x.2).bind λy=>some ((x.1,y.1),y.2)
 |_,_=>none
inductive PD where
 |bot|ptr (s off:Nat)|fn (f:Nat)|data (g:Bool) (t:FT)
inductive IoD where
 |none|some (t:FT)|ptr
structure SD where
 slots:List PD
 boxes:List (Option FT)
 io:IoD:=.none
abbrev EP:au PD->Type
 |[]=>Unit
 | .data _ t::r=>t.ct.D×EP r
 |_::r=>EP r
abbrev D0:au (aw FT)->Type
 |[]=>Unit
 |some t::r=>t.ct.D×D0 r
 |none::r=>D0 r
abbrev ioD:IoD->Type
 | .none=>Unit
 | .some t=>t.ct.D
 | .ptr=>Unit
abbrev SD.D (d:SD):Type:=EP d.slots×D0 d.boxes×ioD d.io
def sW:(l:au PD)->EP l->au AV
 |[],_=>[]
 | .data g t::r,x=> .val g (iK t x.1)::sW r x.2
 | .bot::r,x=> .bot::sW r x
 | .ptr s off::r,x=> .one (.ptr s off)::sW r x
 | .fn f::r,x=> .one (.fn f)::sW r x
def Dp:(l:au (aw FT))->D0 l->au (aw (au AC))
 |[],_=>[]
 |some t::r,x=>some (iK t x.1)::Dp r x.2
 |none::r,x=>none::Dp r x
def acV:(o:IoD)->ioD o->au AC
 | .none,_=>[]
 | .some t,x=>iK t x
 | .ptr,_=>[.ptr 0 0]
def SD.enc (d:SD)(x:d.D):AS:=⟨sW d.slots x.1,Dp d.boxes x.2.1,0,List.replicate d.slots.length false,acV d.io x.2.2⟩
def AV.ZK:AV->Bool
 | .val false [.bot]=>true
 |_=>false
def AV.ZL (s off:Nat):AV->Bool
 | .val false [.ptr s' ape]=>s==s'&&off==ape
 |_=>false
def AV.abe (f:Nat):AV->Bool
 | .val false [.fn f']=>f==f'
 |_=>false
def jO:(l:au PD)->au AV->aw (EP l)
 |[],[]=>some ()
 | .data g t::r,.val g' cs::vs=>bif g==g' then(match M4 t cs with|some (x,[])=>(jO r vs).bind λy=>some (x,y)|_=>none) else none
 | .bot::r,v::vs=>bif v.ZK then jO r vs else none
 | .ptr s off::r,v::vs=>bif v.ZL s off then jO r vs else none
 | .fn f::r,v::vs=>bif v.abe f then jO r vs else none
 |_,_=>none
def qz:(l:au (aw FT))->au (aw (au AC))->aw (D0 l)
 |[],[]=>some ()
 |some t::r,some cs::bs=>match M4 t cs with|some (x,[])=>(qz r bs).bind λy=>some (x,y)|_=>none
 |none::r,none::bs=>qz r bs
 |_,_=>none
def X0:au AC->Bool
 |[.ptr 0 0]=>true
 |_=>false
def Ui:(o:IoD)->au AC->aw (ioD o)
 | .none,[]=>some ()
 | .some t,cs=>match M4 t cs with|some (x,[])=>some x|_=>none
 | .ptr,cs=>bif X0 cs then some () else none
 |_,_=>none
def SD.dec (d:SD)(st:AS):aw d.D:=
 bif st.ep==0&&st.iss==List.replicate d.slots.length false then
  (jO d.slots st.slots).bind λx=>(qz d.boxes st.boxes).bind λy=>(Ui d.io st.io).bind λz=>some (x,y,z)
 else none
structure KG where
 sd:SD
 run:{R:Type}->sd.D->(Ex->AS->Option R)->Option R
abbrev FL:=Nat->KG
def KG.go {R:Type}(l:KG)(st:AS)(K:Ex->AS->aw R):aw R:=aa (l.sd.dec st) λx=>l.run x K
def KG.none:KG:=⟨⟨[],[],.none⟩,λ_ _=>Option.none⟩
def FL.nil:FL:=λ_=>KG.none
def FL.add (Λ:FL)(k:Nat)(l:KG):FL:=λj=>bif j==k then l else Λ j
section
variable {R:Type} (E:Env) (Γ:xg) (an:An)
def DF (o:Oper)(x:Operand)(st:AS)(K:AS->aw R):aw R:=
 match o.dst with
 |some d=>if an.mv.contains d then K ((st.take x).2.put o.dst (st.take x).1) else K (st.put o.dst (st.rd x))
 |none=>none
def vw (o:Oper)(x:Operand)(st:AS)(K:AS->aw R):aw R:=
 match st.take x with
 |(.val false [.jl],_)=>match E.sl o.type with
  |some e=>K (st.put o.dst (.one (bif aiw an o then .jl else .sl (.own none) e [])))
  |none=>none
 |(v,st')=>K (st'.put o.dst v)
def GD (o:Oper)(c a b:Operand)(st:AS)(K:AS->aw R):aw R:=
 match st.rd c with
 | .val false [.bool t]=>match st.rd a,st.rd b with
   | .val false [.bool x],.val false [.bool y]=>K (st.put o.dst (.one (.bool (cond t x y))))
   |va,vb=>cond t (K (st.put o.dst va)) (K (st.put o.dst vb))
 |_=>none
def DY (o:Oper)(T:TypeId)(st:AS)(K:AS->aw R):aw R:=
 match o.dst,iH E.ty T with
 |some d,some sh=>match nth st.boxes d with
  |some none=>K ((st.ed d (some (cellsOf sh.ct (.own none) sh.ct.zero))).put o.dst (.one (.ptr d 0)))
  |_=>none
 |_,_=>none
def Sg (o:Oper)(x:Operand)(st:AS)(K:AS->aw R):aw R:=
 match o.dst,st.take x with
 |some d,(.val _ cs,st')=>
  match nth st'.boxes d with
  |some none=>if cs.all AC.J9 then K ((st'.ed d (some cs)).put o.dst (.one (.ptr d 0))) else none
  |_=>none
 |_,_=>none
def S9 (ep:Nat)(r:ka)(t:Nat)(e:CT)(i:Int):Nat->au AC->au AC
 |_,[]=>[]
 |p,.sl _ e' xs::cs=> .sl (.nest ep r t e i p) e' xs::S9 ep r t e i (p+1) cs
 |p,c::cs=>c::S9 ep r t e i (p+1) cs
def ad8 (o:Oper)(ep:Nat)(fl:qt)(e:CT)(i:Int)(off:Nat)(cs:au AC):au AC:=
 match fl,o.dst with
 | .loc _ (some (r,t)),some d=>bif an.nest.contains d then S9 ep r t e i off cs else cs
 |_,_=>cs
def E0 (o:Oper)(sh:Shape)(fl:qt)(e:CT)(i:Int)(off:Nat)(st:AS)(K:AS->aw R):aw R:=
 match fl with
 | .loc _ (some (r,t))=>
   match st.ew r with
   |some (.sl (.own (some t')) e' ys)=>
    if h:e'=e then
     if t'=t/\off+sh.ct.size<=e.size then
      aa (idx (h▸ys:au e.D) i) λy=>K (st.put o.dst (.val sh.agg (((cellsOf e (.loc st.ep none) y).drop off).take sh.ct.size)))
     else none
    else none
   |_=>none
 |_=>none
def zu (o:Oper)(sh:Shape)(fl:qt)(e:CT)(i:Int)(off:Nat)(st:AS)(K:AS->aw R):aw R:=
 match fl with
 | .loc _ (some (r,t))=>
   match st.ew r with
   |some (.sl (.own (some t')) e' ys)=>
    if h:e'=e then
     if t'=t/\off=0/\sh.ct=e then
      aa (idx (h▸ys:au e.D) i) λy=>K ((st.eI r (.sl (.eQ (some t) i (some st.ep)) e (h▸ys))).put o.dst (.val sh.agg (cellsOf e (.own none) y)))
     else none
    else none
   |_=>none
 |_=>none
def oW (o:Oper)(T:TypeId)(p:Operand)(st:AS)(K:AS->aw R):aw R:=
 match iH E.ty T,st.rd p with
 |some sh,.val false [.ptr s off]=>
  match (nth st.boxes s).getD none with
  |some cs=>
   if off+sh.ct.size<=cs.length then
    match o.dst with
    |some d=>
     if an.mv.contains d then
      K ((st.ed s (some (cS cs off (aS st.ep ((cs.drop off).take sh.ct.size))))).put o.dst (.val sh.agg ((cs.drop off).take sh.ct.size)))
     else K (st.put o.dst (.val sh.agg (ib st.ep (.box s) off ((cs.drop off).take sh.ct.size))))
    |none=>none
   else none
  |none=>none
 |some sh,.val false [.Cg fl e x i off]=>
  if GU an o then zu o sh fl e i off st K
  else if fl.live st.ep then
   if off+sh.ct.size<=e.size then K (st.put o.dst (.val sh.agg (ad8 an o st.ep fl e i off (((cellsOf e fl.bare x).drop off).take sh.ct.size)))) else none
  else E0 o sh fl e i off st K
 |_,_=>none
def xH (T:TypeId)(p x:Operand)(st:AS)(K:AS->aw R):aw R:=
 match iH E.ty T,st.rd p with
 |some sh,.val false [.ptr s off]=>
  match st.take x with
  |(.val _ vs,st')=>
   match (nth st'.boxes s).getD none with
   |some cs=>
    if vs.length=sh.ct.size/\vs.all AC.J9 then
     if off+sh.ct.size<=cs.length then K (st'.ed s (some (cS cs off vs))) else none
    else none
   |none=>none
  |_=>none
 |some sh,.val false [.Cg (.loc _ (some (r,t))) e _ i off]=>
  match st.take x with
  |(.val _ vs,st')=>
   if vs.length=sh.ct.size/\off+sh.ct.size<=e.size then st'.pc r t e i off vs K else none
  |_=>none
 |_,_=>none
def Bf (o:Oper)(S:TypeId)(p:Operand)(f:Nat)(st:AS)(K:AS->aw R):aw R:=
 match iH E.ty S,st.rd p with
 |some ⟨true,_,jJ⟩,.val false [.ptr s off]=>match nth jJ f with|some (fo,_)=>K (st.put o.dst (.one (.ptr s (off+fo))))|none=>none
 |some ⟨true,_,jJ⟩,.val false [.Cg fl e x i off]=>match nth jJ f with|some (fo,_)=>K (st.put o.dst (.one (.Cg fl e x i (off+fo))))|none=>none
 |_,_=>none
def mq (o:Oper)(T:TypeId)(x i:Operand)(st:AS)(K:AS->aw R):aw R:=
 match E.sl T,(st.rd x).fresh st,st.rd i with
 |some e',.val false [.sl fl e xs],.val false [.int _ n]=>
  if e'=e/\fl.live st.ep then aa (idx xs n) λy=>K (st.put o.dst (.one (.Cg fl e y n 0))) else none
 |_,_,_=>none
def C2 (o:Oper)(T:TypeId)(x i:Operand)(st:AS)(K:AS->aw R):aw R:=
 match st.rd x,st.rd i with
 | .val false [.str s],.val false [.int _ n]=>if E.str T then aa (idx s n) λb=>K (st.put o.dst (.one (.int .u8 b.toNat))) else none
 |_,_=>none
def CW (o:Oper)(T:TypeId)(parts:au (Nat×Operand))(st:AS)(K:AS->aw R):aw R:=
 match iH E.ty T with
 |some ⟨true,ct,jJ⟩=>
  match ez st (parts.map (·.2))with
  |(vs,st')=>
   match xn jJ (cellsOf ct (.own none) ct.zero) ((parts.map (·.1)).zip (vs.map AV.cells))with
   |some cs=>K (st'.put o.dst (.val true cs))
   |none=>none
 |_=>none
def lE (o:Oper)(T:TypeId)(len:Nat)(parts:au (Nat×Operand))(st:AS)(K:AS->aw R):aw R:=
 match E.sl T with
 |some e=>
  if parts.length=len/\JJ 0 parts/\len<=1000 then
   match ez st (parts.map (·.2))with
   |(vs,st')=>
    match DD e (vs.map AV.cells)with
    |some xs=>K (st'.pH o.dst e xs)
    |none=>none
  else none
 |none=>none
def oy (o:Oper)(T:TypeId)(n c:Operand)(st:AS)(K:AS->aw R):aw R:=
 match E.sl T,st.rd n,st.rd c with
 |some e,.val false [.int .i64 len],.val false [.int .i64 cap]=>
  if 0<=len/\len<=cap then room cap.toNat (K (st.pH o.dst e (List.replicate len.toNat e.zero))) else none
 |_,_,_=>none
def mM (st:AS)(lo hi:aw Operand)(n:Nat)(K:Int->Int->aw R):aw R:=
 match lo.map st.rd,hi.map st.rd with
 |none,none=>K 0 n
 |some (.val false [.int _ a]),none=>K a n
 |none,some (.val false [.int _ b])=>K 0 b
 |some (.val false [.int _ a]),some (.val false [.int _ b])=>K a b
 |_,_=>none
def xB (o:Oper)(T:TypeId)(x:Operand)(lo hi:aw Operand)(st:AS)(K:AS->aw R):aw R:=
 match st.take x,lo.map st.rd,hi with
 |(.val false [.sl (.own _) e xs],st'),some (.val false [.int _ a]),none=>
  if E.sl T=some e then aa (sub xs a xs.length) λPR=>K (st'.pH o.dst e PR) else none
 |_,_,_=>none
def OM (o:Oper)(fl:qt)(a:Int):qt:=
 match fl,o.dst with
 | .loc ep (some (r,t)),some d=>bif an.nest.contains d then .part ep r t a else .loc ep none
 |fl,_=>fl.bare
def BR (o:Oper)(T:TypeId)(x:Operand)(lo hi:aw Operand)(st:AS)(K:AS->aw R):aw R:=
 if GU an o then xB E o T x lo hi st K else
 match (st.rd x).fresh st with
 | .val false [.str s]=>if E.str T then mM st lo hi s.length λa b=>aa (sub s a b) λs'=>K (st.put o.dst (.one (.str s'))) else none
 | .val false [.sl fl e xs]=>
   if E.sl T=some e/\fl.live st.ep then mM st lo hi xs.length λa b=>aa (sub xs a b) λPR=>K (st.put o.dst (.one (.sl (OM an o fl a) e PR))) else none
 |_=>none
def lF (o:Oper)(src dst:TypeId)(x:Operand)(st:AS)(K:AS->aw R):aw R:=
 match iH E.ty src,iH E.ty dst,st.rd x with
 |some _,some ⟨false,.int k,_⟩,.val false [.int _ n]=>K (st.put o.dst (.one (.int k (k.wrap n))))
 |some ⟨false,.str,_⟩,some ⟨false,.str,_⟩,.val false [.str s]=>K (st.put o.dst (.one (.str s)))
 |some ⟨false,.str,_⟩,some _,.val false [.str s]=>
  if E.bytes dst then room s.length (K (st.pH o.dst (.int .u8) (dc s))) else none
 |some _,some ⟨false,.str,_⟩,.val false [.sl fl (.int .u8) xs]=>
  if E.bytes src/\fl.live st.ep then K (st.put o.dst (.one (.str (aM xs)))) else none
 |_,_,_=>none
def lG (o:Oper)(t i:Nat)(st:AS)(K:AS->aw R):aw R:=
 match st.get t with
 | .vq vs=>match nth vs i with
   |some (g,cs)=>K ((st.put (some t) (.vq (gG vs i (g,aS 0 cs)))).put o.dst (.val g cs))
   |none=>none
 |_=>none
def Oy (o:Oper)(ts:au TypeId)(args:au Operand)(st:AS)(K:AS->aw R):aw R:=
 match ts,args.map st.rd with
 |[t],[.val false [.str s]]=>if E.str t then K (st.put o.dst (.one (.int .i64 s.length))) else none
 |[t],[.val false [.sl _ _ xs]]=>if(E.sl t).isSome then K (st.put o.dst (.one (.int .i64 xs.length))) else none
 |_,_=>none
def Qd (o:Oper)(args:au Operand)(st:AS)(K:AS->aw R):aw R:=
 match args.map st.rd with
 |[.val false [.int k x],.val false [.int _ y]]=>K (st.put o.dst (.one (.int k (if y<x then y else x))))
 |_=>none
def Qc (o:Oper)(args:au Operand)(st:AS)(K:AS->aw R):aw R:=
 match args.map st.rd with
 |[.val false [.int k x],.val false [.int _ y]]=>K (st.put o.dst (.one (.int k (if y>x then y else x))))
 |_=>none
def QD (o:Oper)(ts:au TypeId)(args:au Operand)(st:AS)(K:AS->aw R):aw R:=
 match ts,args.map st.rd with
 |[t,t'],[.val false [.sl (.part ep r tg lo) e xs],.val false [.str s]]=>
  match st.ew r with
  |some (.sl (.own (some tg')) e' ys)=>
   if h:e'=.int .u8 then
    if e=.int .u8/\E.sl t=some (.int .u8)/\E.str t'=true/\ep=st.ep/\tg'=tg then
     K ({st.eI r (.sl (.own (some tg)) (.int .u8) (DG (h▸ys:au (CT.int .u8).D) lo.toNat (dc (s.take xs.length))))with ep:=st.ep+1}.put o.dst (.one (.int .i64 (min xs.length s.length:Nat))))
    else none
   else none
  |_=>none
 |_,_=>none
def G6 (o:Oper)(S:TypeId)(t f:Nat)(st:AS)(K:AS->aw R):aw R:=
 match iH E.ty S,st.get t,Vj E.fts S f with
 |some ⟨true,ct,jJ⟩,.val true cs,some T=>
  match nth jJ f,iH E.ty T with
  |some (fo,n),some sh=>
   if n=sh.ct.size/\cs.length=ct.size/\fo+n<=cs.length then
    K ((st.put (some t) (.val true (cS cs fo (aS st.ep ((cs.drop fo).take n))))).put o.dst (.val sh.agg ((cs.drop fo).take n)))
   else none
  |_,_=>none
 |_,_,_=>none
def xL (o:Oper)(ts:au TypeId)(args:au Operand)(st:AS)(K:AS->aw R):aw R:=
 match ts,args with
 |[t,t'],[s,x]=>
  match st.take s with
  |(.val false [.sl (.own _) e xs],st1)=>
   match st1.take x with
   |(.val false [.sl fl e' ys],st2)=>
    if h:e'=e then
     if E.sl t=some e/\E.sl t'=some e/\fl.uP st.ep e.flat then
      room (xs.length+ys.length) (K (st2.pH o.dst e (xs++(h▸ys:au e.D))))
     else none
    else none
   |(.val false [.str s],st2)=>
    if h:e=.int .u8 then
     if E.sl t=some e/\E.str t' then room (xs.length+s.length) (K (st2.pH o.dst (.int .u8) ((h▸xs:au (CT.int .u8).D)++dc s))) else none
    else none
   |_=>none
  |_=>none
 |_,_=>none
def KP:Nat->au AC->aw (ka×Nat)
 |_,[]=>none
 |j,.sl (.loc _ (some (r,_))) _ _::_=>some (r,j)
 |j,_::cs=>KP (j+1) cs
def ka.pos:ka->Nat
 | .slot _ j=>j
 | .box _ j=>j
 | .io j=>j
def AS.tD (st:AS):ka->aw (au AC)
 | .slot s _=>match st.get s with| .val _ cs=>some cs|_=>none
 | .box s _=>(nth st.boxes s).getD none
 | .io _=>some st.io
def AS.pJ (st:AS)(r:ka)(cs:au AC):AS:=
 match r with
 | .slot s _=>match st.get s with| .val g _=>st.put (some s) (.val g cs)|_=>st
 | .box s _=>st.ed s (some cs)
 | .io _=>{st with io:=cs}
def my:au AC->au AC->aw (au AC)
 |[],[]=>some []
 | .sl (.loc _ (some (_,t))) _ _::os,.sl (.own (some t')) e xs::ss=>bif t'==t then(my os ss).bind λr=>some (.sl (.own none) e xs::r) else none
 | .int k n::os,.int _ _::ss=>(my os ss).bind λr=>some (.int k n::r)
 | .bool b::os,.bool _::ss=>(my os ss).bind λr=>some (.bool b::r)
 | .str x::os,.str _::ss=>(my os ss).bind λr=>some (.str x::r)
 |_,_=>none
def CO:au AC->au AC->au AC->aw (au AC)
 |[],[],[]=>some []
 | .sl (.loc _ (some (_,t'))) _ _::os,.sl (.own (some t)) _ _::ss,.sl (.own _) e ys::bs=>bif t==t' then(CO os ss bs).bind λr=>some (.sl (.own (some t)) e ys::r) else none
 | .int _ _::os,.int k n::ss,.int _ _::bs=>(CO os ss bs).bind λr=>some (.int k n::r)
 | .bool _::os,.bool b::ss,.bool _::bs=>(CO os ss bs).bind λr=>some (.bool b::r)
 | .str _::os,.str x::ss,.str _::bs=>(CO os ss bs).bind λr=>some (.str x::r)
 |_,_,_=>none
def AV.fS:AV->Bool
 | .val _ cs=>cs.all AC.fS
 | .vq vs=>vs.all λx=>x.2.all AC.fS
def Sk (st:AS)(x:Operand):aw (AV×AS):=
 match st.rd x with
 | .val g cs=>
   match KP 0 cs with
   |some (r,j)=>
    match st.tD r with
    |some Df=>
     match my cs ((Df.drop (r.pos-j)).take cs.length)with
     |some mK=>some (.val g mK,st.pJ r (cS Df (r.pos-j) (aS st.ep ((Df.drop (r.pos-j)).take cs.length))))
     |none=>none
    |none=>none
   |none=>none
 |_=>none
def Rk (o:Oper)(x:Operand)(st:AS)(K:AS->aw R):aw R:=
 match Sk st x with
 |some (v,st')=>K (st'.put o.dst v)
 |none=>none
def xI (T:TypeId)(p x:Operand)(st:AS)(K:AS->aw R):aw R:=
 match iH E.ty T,st.rd p with
 |some sh,.val false [.ptr s off]=>
  match Sk st x with
  |some (.val _ vs,st')=>
   match (nth st'.boxes s).getD none with
   |some cs=>
    if vs.length=sh.ct.size/\vs.all AC.J9 then
     if off+sh.ct.size<=cs.length then K (st'.ed s (some (cS cs off vs))) else none
    else none
   |none=>none
  |_=>none
 |_,_=>none
def Rs (o:Oper)(f:Nat)(g:Bool)(cs:au AC)(xs:au Operand)(st:AS)(K:AS->aw R):aw R:=
 match cs with
 |[.sl (.nest ep r t en i off) _ _]=>
  match st.tD r with
  |some Df=>
   match (Df.drop r.pos).take 1 with
   |[.sl (.own (some t')) e ys]=>
    bif (ep==st.ep)&&(t'==t)&&(en.size==e.size)&&xs.all (λx=>(st.rd x).fS) then
     aa (idx ys i) λx=>
      match ((cellsOf e (.own none) x).drop off).take 1 with
      |[.sl (.own _) e2 zs]=>
       aa ((Γ f).fn (.val g [.sl (.own none) e2 zs]::xs.map st.rd)) λy=>
        match (Γ f).back y with
        |[.sl (.own _) e3 zs']=>
         match iD e (cS (cellsOf e (.own none) x) off [.sl (.own none) e3 zs'])with
         |some (x',[])=>bif ((Γ f).av y).fS then K ({st.pJ r (cS Df r.pos [.sl (.own (some t)) e (ys.set i.toNat x')])with ep:=st.ep+1}.put o.dst ((Γ f).av y)) else none
         |_=>none
        |_=>none
      |_=>none
    else none
   |_=>none
  |none=>none
 |_=>none
def ioC (o:Oper)(f:Nat)(args:au Operand)(st:AS)(K:AS->aw R):aw R:=
 match args with
 |x0::xs=>
  match st.rd x0 with
  | .val g cs=>
    match KP 0 cs with
    |some (r,j)=>
     match st.tD r with
     |some Df=>
      match my cs ((Df.drop (r.pos-j)).take cs.length)with
      |some mK=>
       bif xs.all (λx=>(st.rd x).fS) then
        aa ((Γ f).fn (.val g mK::xs.map st.rd)) λy=>
         match CO cs ((Df.drop (r.pos-j)).take cs.length) ((Γ f).back y)with
         |some seg=>bif ((Γ f).av y).fS then K ({st.pJ r (cS Df (r.pos-j) seg)with ep:=st.ep+1}.put o.dst ((Γ f).av y)) else none
         |none=>none
       else none
      |none=>none
     |none=>none
    |none=>Rs Γ o f g cs xs st K
  |_=>none
 |[]=>none
def AC.strip:AC->AC
 | .sl (.own _) e xs=> .sl (.own none) e xs
 | .sl (.loc _ _) _ _=> .bot
 | .sl (.nest ..) _ _=> .bot
 | .sl (.part ..) _ _=> .bot
 | .sl (.eQ _ i _) e xs=> .sl (.eQ none i none) e xs
 | .ptr _ _=> .bot
 | .Cg _ _ _ _ _=> .bot
 |c=>c
def AC.XY:AC->Bool
 | .sl (.own _) _ _=>true
 |c=>c.fS
def AC.zU (k:Bool):AC->Bool
 | .sl (.own _) _ _=>true
 | .sl (.arg k') _ _=>k'==k
 |c=>c.fS
def AC.TG:AC->AC
 | .sl (.own _) e xs=> .sl (.own none) e xs
 | .sl (.arg _) e xs=> .sl (.arg true) e xs
 |c=>c.strip
def AC.agK (k:Bool)(tag:aw Nat):AC->AC
 | .sl (.own _) e xs=> .sl (.own tag) e xs
 | .sl (.arg _) e xs=> .sl (.arg k) e xs
 |c=>c
def pj (k:Bool)(mk:Nat->aw Nat):Nat->au AC->au AC
 |_,[]=>[]
 |j,c::cs=>c.agK k (mk j)::pj k mk (j+1) cs
def Ff (cs:au AC):Bool:=cs.any λc=>match c with| .sl (.arg k) _ _=>k|_=>false
def AC.KI:AC->Bool
 | .sl (.arg k) _ _=> !k
 |c=>c.fS
def AV.KI:AV->Bool
 | .val _ cs=>cs.all AC.KI
 | .vq _=>false
def AS.Qb (st:AS):AC->AC
 | .sl (.own _) e xs=> .sl (.arg false) e xs
 | .sl (.arg _) e xs=> .sl (.arg false) e xs
 | .sl (.loc _ (some (.slot b j,t))) _ _=>match st.ew (.slot b j)with
   |some (.sl (.own (some t')) e' ys)=>if t'=t then .sl (.arg false) e' ys else .bot
   |_=> .bot
 | .int k n=> .int k n
 | .bool b=> .bool b
 | .str s=> .str s
 | .fn f=> .fn f
 |_=> .bot
def CI (st:AS):Operand->AV
 | .tmp t=>(match st.get t with| .val g cs=> .val g (cs.map st.Qb)|v=>v)
 |x=>st.rd x
def DC (st:AS):Operand->Bool
 | .tmp t=>(match st.get t with| .val _ cs=>(cs.map st.Qb).all AC.KI|_=>false)
 |x=>(st.rd x).fS
def AC.abx:AC->Bool
 | .sl (.own _) _ _=>true
 |c=>c.fS
def AV.abx:AV->Bool
 | .val _ cs=>cs.all AC.abx
 | .vq vs=>vs.all λx=>x.2.all AC.abx
def Zf (st:AS)(s:Nat)(cs:au AC):AS:={(st.ed s (some cs)).eX (some s)with ep:=st.ep+1}
def vx (o:Oper)(f:Nat)(args:au Operand)(st:AS)(K:AS->aw R):aw R:=
 match args with
 |x0::xs=>
  match st.rd x0 with
  | .val false [.ptr s 0]=>
    match (nth st.boxes s).getD none with
    |some cs=>
     bif cs.all (AC.zU (Ff cs))&&xs.all (DC st) then
      aa ((Γ f).fn (.val true (cs.map AC.TG)::xs.map (CI st))) λy=>
       bif ((Γ f).back y).all (AC.zU true)&&((Γ f).av y).abx then
        bif (Γ f).cur&&cs.all AC.I6 then
         K (((st.ed s (some (pj (Ff cs) (λ_=>none) 0 ((Γ f).back y)))).eX o.dst).put o.dst (((Γ f).av y).Fg st.ep (st.gV o.dst)))
        else
        K (((Zf st s (pj (Ff cs) (st.gV (some s)) 0 ((Γ f).back y))).eX o.dst).put o.dst
          (((Γ f).av y).Fg (st.ep+1) ((Zf st s (pj (Ff cs) (st.gV (some s)) 0 ((Γ f).back y))).gV o.dst)))
       else none
     else none
    |none=>none
  |_=>none
 |[]=>none
def aby (o:Oper)(f:Nat)(args:au Operand)(st:AS)(K:AS->aw R):aw R:=
 match o.dst with
 |some d=>
  match nth st.boxes d with
  |some none=>
   bif args.all (λx=>(st.rd x).KI) then
    aa ((Γ f).fn (args.map st.rd)) λy=>
     bif ((Γ f).back y).all AC.KI then K ((st.ed d (some ((Γ f).back y))).put (some d) (.one (.ptr d 0))) else none
   else none
  |_=>none
 |none=>none
def Fh (o:Oper)(f:Operand)(args:au Operand)(st:AS)(K:AS->aw R):aw R:=
 match st.rd f with
 | .val false [.fn f]=>
   bif (Γ f).bx then vx Γ o f args st K else
   bif (Γ f).pr then aby Γ o f args st K else
   bif (Γ f).io then ioC Γ o f args st K
   else aa ((Γ f).fn (args.map λx=>((st.rd x).fresh st).asArg st.ep)) λr=>cond ((Γ f).sel r) (K ((st.eX o.dst).put o.dst (((Γ f).av r).Fg st.ep (st.gV o.dst)))) (K ((st.eX o.dst).put o.dst (((Γ f).alt r).Fg st.ep (st.gV o.dst))))
 |_=>none
def Fj {R:Type}(op:BinOp)(b:Bool)(K:AC->aw R):aw R:=
 match op with
 | .eql=>K (.bool b)
 | .neq=>K (.bool (!b))
 |_=>none
def Cc (o:Oper)(op:BinOp)(T:TypeId)(x y:Operand)(st:AS)(K:AS->aw R):aw R:=
 match st.rd x,st.rd y with
 | .val false [.bool a],.val false [.bool b]=>if E.bool T then HG op (.one (.bool a)) (.one (.bool b)) λc=>K (st.put o.dst (.one c)) else none
 | .val true xs,.val true ys=>match Rn E.eqs T with
   |some ls=>if fits ls xs then HG op (.val true xs) (.val true ys) λc=>K (st.put o.dst (.one c)) else none
   |none=>none
 | .val false [.sl fl _ xs],.val false [.jl]=>if(E.sl T).isSome/\fl.live st.ep then(if xs.length=0 then none else Fj op false λc=>K (st.put o.dst (.one c))) else none
 | .val false [.jl],.val false [.jl]=>if(E.sl T).isSome then Fj op true λc=>K (st.put o.dst (.one c)) else none
 |a,b=>HG op a b λc=>K (st.put o.dst (.one c))
def cU (o:Oper)(st:AS)(K:AS->aw R):aw R:=
 match o.op with
 | .move x=>DF an o x st K
 | .assign x=>if Bu an o then Rk o x st K else vw E an o x st K
 | .pick c a b=>GD o c a b st K
 | .alloc T=>DY E o T st K
 | .box _ x=>Sg o x st K
 | .load T p=>oW E an o T p st K
 | .store T p x=>match o.dst with|none=>(if Bu an o then xI E T p x st K else xH E T p x st K)|some _=>none
 | .nilCheck x=>
   match st.rd x with
   | .val false [.ptr s off]=>K (st.put o.dst (.one (.ptr s off)))
   | .val false [.Cg fl e y i off]=>K (st.put o.dst (.one (.Cg fl e y i off)))
   |_=>none
 | .binOp op T x y _=>Cc E o op T x y st K
 | .unOp op _ x=>unC op (st.rd x) λc=>K (st.put o.dst (.one c))
 | .fieldAddr S p f=>Bf E o S p f st K
 | .indexAddr T x i=>mq E o T x i st K
 | .index T x i=>C2 E o T x i st K
 | .build T parts=>CW E o T parts.toList st K
 | .buildSlice T len parts=>lE E o T len parts.toList st K
 | .makeSlice T n c=>oy E o T n c st K
 | .slice T x lo hi none=>BR E an o T x lo hi st K
 | .field S (.tmp t) f=>G6 E o S t f st K
 | .call {callee:=.builtin .copy,args,argTypes}=>QD E o argTypes.toList args.toList st K
 | .convert src dst x=>lF E o src dst x st K
 | .extract (.tmp t) i=>lG o t i st K
 | .call {callee:=.builtin .len,args,argTypes}=>Oy E o argTypes.toList args.toList st K
 | .call {callee:=.builtin .min,args,..}=>Qd o args.toList st K
 | .call {callee:=.builtin .max,args,..}=>Qc o args.toList st K
 | .call {callee:=.builtin .append,args,argTypes}=>xL E o argTypes.toList args.toList st K
 | .call {callee:=.value f,args,..}=>Fh Γ o f args.toList st K
 |_=>none
def fY (ops:au Oper)(o:Oper)(st:AS)(K:AS->aw R):aw R:=
 match o.guard with
 |none=>cU E Γ an o st K
 |some (j,I0)=>
  match (nth ops j).bind (·.dst)with
  |some d=>
   match st.get d with
   | .val false [.bool b]=>
     let go (t:Bool):aw R:=
      if t==I0 then cU E Γ an o (st.put (some d) (.one (.bool t))) K else K ((st.put (some d) (.one (.bool t))).put o.dst (.one .un))
     cond b (go true) (go false)
   | .val false [.un]=>K (st.put o.dst (.one .un))
   |_=>none
  |none=>none
def Tc (ops:au Oper):au Oper->AS->(AS->aw R)->aw R
 |[],st,K=>K st
 |o::r,st,K=>fY E Γ an ops o st λst'=>Tc ops r st' K
def dp:Code->Nat
 | .region id _ _=>id
 | .seq a _=>dp a
 | .block _ c=>dp c
 | .loop c=>dp c
 | .cond _ a b=>match dp a with|0=>dp b|n=>n
 |_=>0
def xo (c:Code):Nat:=1000000+2*dp c
def kf (l:dI):Code->au Code
 | .seq a b=>kf l a++(bif l.contains (dp b) then b::kf l b else kf l b)
 | .cond _ a b=>kf l a++kf l b
 | .block _ c=>kf l c
 | .loop c=>kf l c
 |_=>[]
def Ce (l:dI)(fn:Func)(k:Nat):Code:=(nth (kf l (fn.body.getD .skip)) k).getD .skip
def gZ:Code->au Code
 | .seq a b=>gZ a++gZ b
 | .cond _ a b=>gZ a++gZ b
 | .block _ c=>gZ c
 | .loop c=>c::gZ c
 |_=>[]
def fN (fn:Func)(k:Nat):Code:=(nth (gZ (fn.body.getD .skip)) k).getD .skip
def Ar (j:Nat):Nat:=3*(4096*1000003+j)
def ka.GQ:ka->aw Nat
 | .slot s j=>bif Nat.ble 4096 j then none else bif Nat.ble 1000000 s then none else some (3*(4096*s+j))
 | .box s j=>bif Nat.ble 4096 j then none else some (3*(4096*s+j)+1)
 | .io j=>bif Nat.ble 4096 j then none else some (Ar j)
def AC.adV (io:au AC)(j t:Nat)(e:CT):aw (au e.D):=
 match nth io j with
 |some (.sl (.own (some t')) e' ys)=>if h:e'=e then bif t'==t then some (h▸ys) else none else none
 |_=>none
def AC.mask (keep:dI)(ep:Nat)(io:au AC)(rt:ka):AC->AC
 | .ptr s off=>if keep.contains s then .ptr s off else .bot
 | .sl (.loc e pv) t xs=>
   match pv with
   |some (.io j,n)=>match AC.adV io j n t with
    |some ys=> .sl (.loc 0 ((ka.GQ (.io j)).map λq=>(.io j,q))) t ys
    |none=>if e==ep then .sl (.loc 0 none) t xs else .bot
   |_=>if e==ep then .sl (.loc 0 none) t xs else .bot
 | .sl (.own _) t xs=> .sl (.own rt.GQ) t xs
 | .sl (.nest ..) _ _=> .bot
 | .sl (.part ..) _ _=> .bot
 | .sl (.eQ _ i _) e xs=> .sl (.eQ none i none) e xs
 | .Cg _ _ _ _ _=> .bot
 |c=>c
def K5 (keep:dI)(ep:Nat)(io:au AC)(f:Nat->ka):Nat->au AC->au AC
 |_,[]=>[]
 |j,c::cs=>c.mask keep ep io (f j)::K5 keep ep io f (j+1) cs
def AV.mask (keep:dI)(ep:Nat)(io:au AC)(s:Nat):AV->AV
 | .val g cs=> .val g (K5 keep ep io (.slot s) 0 cs)
 | .vq _=> .bot
def nA (keep:dI)(ep:Nat)(io:au AC):Nat->au AV->au AV
 |_,[]=>[]
 |i,v::r=>(if keep.contains i then v.mask keep ep io i else .bot)::nA keep ep io (i+1) r
def nz (keep:dI)(ep:Nat)(io:au AC):Nat->au (aw (au AC))->au (aw (au AC))
 |_,[]=>[]
 |i,b::r=>(if keep.contains i then b.map (K5 keep ep io (.box i) 0) else none)::nz keep ep io (i+1) r
def X8 (keep:dI):Nat->au AC->au AC
 |_,[]=>[]
 |j,c::cs=>(match c with| .sl (.own _) e xs=> .sl (.own (ka.GQ (.io j))) e xs| .sl (.eQ _ i _) e xs=> .sl (.eQ none i none) e xs| .ptr s off=>if keep.contains s then .ptr s off else .bot|c=>bif c.fS then c else .bot)::X8 keep (j+1) cs
def AS.mask (keep:dI)(st:AS):AS:=
 ⟨nA keep st.ep st.io 0 st.slots,nz keep st.ep st.io 0 st.boxes,0,List.replicate st.slots.length false,X8 keep 0 st.io⟩
def getBool (st:AS)(s:Nat):aw Bool:=
 match st.get s with
 | .val false [.bool b]=>some b
 |_=>none
def gb (an:An)(ds:dI)(o:Oper):Bool:=
 match o.op with
 | .assign (.const _)=> !Bu an o
 | .assign (.tmp t)=>ds.contains t&& !Bu an o
 | .move _| .load ..=>match o.dst with|some d=> !an.mv.contains d|none=>false
 | .slice ..=> !GU an o
 | .pick ..| .binOp ..| .unOp ..| .fieldAddr ..| .indexAddr ..| .index ..| .nilCheck _=>true
 | .build _ ps=>ps.isEmpty
 | .call {callee:=.builtin .len,..}| .call {callee:=.builtin .min,..}| .call {callee:=.builtin .max,..}=>true
 | .call {callee:=.value _,..}=>true
 |_=>false
def It (ops:au Oper):dI:=ops.filterMap (·.dst)
def AS.Cf (st:AS):dI->AS
 |[]=>st
 |d::r=>((st.put (some d) .bot).eX (some d)).Cf r
def HL (ops:au Oper)(A:au dI):Nat->au Oper->AS->(AS->aw R)->aw R
 |_,[],st,K=>K st
 |i,o::r,st,K=>bif dg E an (sS an A i 0 ops) o st then fY E Γ an ops o st λst'=>HL ops A (i+1) r st' K else none
def F4 (ops:au Oper)(draw:Bool)(st:AS)(K:AS->aw R):aw R:=
 bif draw then(bif Uk an ops then HL E Γ.IX an ops (T6 ops []) 0 ops st K else none) else Tc E Γ an ops ops st K
def Tl (id:Nat)(ops:au Oper)(draw:Bool)(st:AS)(K:AS->aw R):aw R:=
 match an.merge id with
 |none=>F4 E Γ an ops draw st K
 |some s=>
  if ops.all (gb an (It ops)) then
   aa (F4 E Γ.calm an ops draw st λst'=>getBool st' s) λb=>K ((st.Cf (It ops)).put (some s) (.one (.bool b)))
  else none
def zZ (key:dI)(B:AS->(Ex->AS->aw R)->aw R):Nat->AS->(Ex->AS->aw R)->aw R
 |0,_,_=>none
 |m+1,st,K=>B st λe st'=>
  match e with
  | .normal=>zZ key B m (st'.mask key) K
  |e=>K e (st'.mask key)
def den (Λ:FL):Code->AS->(Ex->AS->aw R)->aw R
 | .skip,st,K=>K .normal st
 | .region id ops draw,st,K=>Tl E Γ an id ops.toList draw st (K .normal)
 | .seq a b,st,K=>den Λ a st λe st'=>match e with
   | .normal=>bif an.cut.contains (dp b) then(Λ (xo b)).go (st'.mask (an.mask (xo b))) K else den Λ b st' K
   |e=>K e st'
 | .cond c a b,st,K=>
   match st.rd c with
   | .val false [.bool t]=>cond t (den Λ a st K) (den Λ b st K)
   |_=>none
 | .block id c,st,K=>den Λ c st λe st'=>
   match e with
   | .exit j=>if j==id then K .normal st' else K (.exit j) st'
   |e=>K e st'
 | .loop c,st,K=>
   bif an.peel.contains (dp c) then den Λ c (st.mask (an.mask (dp c))) λe st'=>
    match e with
    | .normal=>(Λ (dp c)).go (st'.mask (an.mask (dp c))) K
    |e=>K e (st'.mask (an.mask (dp c)))
   else(Λ (dp c)).go (st.mask (an.mask (dp c))) K
 | .exit id,st,K=>K (.exit id) st
 | .ret,st,K=>K .ret st
 |_,_,_=>none
end
def OY (st:AS)(E:Env):ResultVar->aw ((Bool×Nat)×Bool×au AC)
 | .tmp t=>match st.get t with| .val g cs=>some ((false,t),g,cs.map AC.strip)|_=>none
 | .cell t T=>match iH E.ty T,st.get t with
   |some sh,.val false [.ptr s off]=>((nth st.boxes s).getD none).bind λcs=>
    if off+sh.ct.size<=cs.length then some ((true,s),sh.agg,((cs.drop off).take sh.ct.size).map AC.strip) else none
   |_,_=>none
def oz (st:AS)(E:Env):au (Bool×Nat)->au ResultVar->aw (au (Bool×au AC))
 |_,[]=>some []
 |had,r::rs=>(OY st E r).bind λx=>if had.contains x.1 then none else(oz st E (x.1::had) rs).bind λxs=>some (x.2::xs)
def results (E:Env)(rs:au ResultVar)(st:AS):aw AV:=
 match oz st E [] rs with
 |some [(g,cs)]=>some (.val g cs)
 |some vs=>some (.vq vs)
 |none=>none
def nS (fn:Func)(args:au AV):AS:=⟨args++List.replicate (fn.ntmps-args.length) .bot,List.replicate (args.length+(fn.ntmps-args.length)) none,0,List.replicate fn.ntmps false,[]⟩
abbrev hH:au (Bool×FT)->Type
 |[]=>Unit
 |[(_,t)]=>t.ct.D
 |(_,t)::r=>t.ct.D×hH r
def jI:(l:au (Bool×FT))->au (Bool×au AC)->aw (hH l)
 |[],[]=>some ()
 |[(g,t)],[(g',cs)]=>bif g==g' then(match M4 t cs with|some (x,[])=>some x|_=>none) else none
 |(g,t)::p::r,(g',cs)::vs=>bif g==g' then(match M4 t cs with|some (x,[])=>(jI (p::r) vs).bind λy=>some (x,y)|_=>none) else none
 |_,_=>none
def ahy:(l:au (Bool×FT))->hH l->au (Bool×au AC)
 |[],_=>[]
 |[(g,t)],x=>[(g,iK t x)]
 |(g,t)::p::r,x=>(g,iK t x.1)::ahy (p::r) x.2
def xm (l:au (Bool×FT))(x:hH l):AV:=
 match ahy l x with
 |[(g,cs)]=> .val g cs
 |vs=> .vq vs
def F5 (E:Env)(Γ:xg)(an:An)(Λ:FL)(fn:Func)(rs:au (Bool×FT))(args:au AV):aw (hH rs):=
 match fn.body with
 |some c=>if args.length=fn.params.size then den E Γ an Λ c (nS fn args) λe st=>
  match e with
  | .exit _=>none
  |_=>aa (oz st E [] fn.results.toList) (jI rs)
  else none
 |none=>none
def evalAlt (E:Env)(Γ:xg)(an:An)(Λ:FL)(fn:Func)(rs MK:au (Bool×FT))(h:hH MK=hH rs)(args:au AV):aw (Bool×hH rs):=
 match fn.body with
 |some c=>if args.length=fn.params.size then den E Γ an Λ c (nS fn args) λe st=>
  match e with
  | .exit _=>none
  |_=>aa (oz st E [] fn.results.toList) λys=>
   match jI rs ys with
   |some y=>some (true,y)
   |none=>match jI MK ys with
    |some y=>some (false,cast h y)
    |none=>none
  else none
 |none=>none
def XX:Nat->au AC->au AC
 |_,[]=>[]
 |j,.sl _ e xs::cs=> .sl (.own (some (Ar j))) e xs::XX (j+1) cs
 |j,c::cs=>c::XX (j+1) cs
def Bt:Nat->au AC->au AC
 |_,[]=>[]
 |j,.sl _ e xs::cs=> .sl (.loc 0 (some (.io j,Ar j))) e xs::Bt (j+1) cs
 |j,c::cs=>c::Bt (j+1) cs
def HB (fn:Func)(g:Bool)(cs:au AC)(args:au AV):AS:={nS fn (.val g (Bt 0 cs)::args)with io:=XX 0 cs}
def Xp (E:Env)(Γ:xg)(an:An)(Λ:FL)(fn:Func)(rs:au (Bool×FT))(t:CT)(args:au AV):aw (hH rs×t.D):=
 match fn.body,args with
 |some c,.val g cs::xs=>if xs.length+1=fn.params.size/\cs.all AC.XY=true then den E Γ an Λ c (HB fn g cs xs) λe st=>
  match e with
  | .exit _=>none
  |_=>aa (aa (oz st E [] fn.results.toList) (jI rs)) λr=>
   match iD t st.io with
   |some (x,[])=>some (r,x)
   |_=>none
  else none
 |_,_=>none
def Ja:Nat->au AC->au AC
 |_,[]=>[]
 |j,.sl (.own _) e xs::cs=> .sl (.own (some (3*j+1))) e xs::Ja (j+1) cs
 |j,c::cs=>c::Ja (j+1) cs
def BW (fn:Func)(cs:au AC)(args:au AV):AS:=
 {nS fn (.one (.ptr 0 0)::args)with boxes:=some (Ja 0 cs)::List.replicate (args.length+(fn.ntmps-(args.length+1))) none,io:=[.ptr 0 0]}
def Ss (E:Env)(Γ:xg)(an:An)(Λ:FL)(fn:Func)(rs:au (Bool×FT))(t:FT)(args:au AV):aw (hH rs×t.ct.D):=
 match fn.body,args with
 |some c,.val true cs::xs=>if xs.length+1=fn.params.size/\cs.all (AC.zU true)=true then den E Γ an Λ c (BW fn cs xs) λe st=>
  match e with
  | .exit _=>none
  |_=>aa (aa (oz st E [(true,0)] fn.results.toList) (jI rs)) λr=>
   match st.io,st.boxes with
   |[.ptr 0 0],some mK::_=>match M4 t (mK.map AC.strip)with
    |some (x,[])=>some (r,x)
    |_=>none
   |_,_=>none
  else none
 |_,_=>none
def MX (E:Env)(Γ:xg)(an:An)(Λ:FL)(fn:Func)(t:FT)(args:au AV):aw t.ct.D:=
 match fn.body with
 |some c=>if args.length=fn.params.size then den E Γ an Λ c (nS fn args) λe st=>
  match e with
  | .exit _=>none
  |_=>match fn.results.toList with
   |[.tmp i]=>match st.get i with
    | .val false [.ptr s 0]=>match (nth st.boxes s).getD none with
      |some cs=>if cs.all AC.KI=true then(match M4 t (cs.map AC.strip)with|some (x,[])=>some x|_=>none) else none
      |none=>none
    |_=>none
   |_=>none
  else none
 |none=>none
end Go.Dn
