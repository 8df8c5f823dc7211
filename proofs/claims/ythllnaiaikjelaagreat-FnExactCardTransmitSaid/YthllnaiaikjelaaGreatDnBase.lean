import Derived.Test.YthllnaiaikjelaaGreatDnData
/- An abstract, heap-free semantics of the model's code, for functions that treat their data by value: definitions. -/
namespace Go.Dn
inductive jR where
 |slot (s j:Nat)|box (s j:Nat)|io (j:Nat)
 deriving DecidableEq
inductive pW where
 |own (tag:Option Nat)
 |loc (ep:Nat) (pv:Option (jR×Nat))
 |arg (k:Bool)
 |nest (ep:Nat) (r:jR) (t:Nat) (e:CT) (i:Int) (off:Nat)
 |part (ep:Nat) (r:jR) (t:Nat) (lo:Int)
 |eS (tag:Option Nat) (i:Int) (ep:Option Nat)
inductive AC where
 |int (k:IntKind) (n:Int)|bool (b:Bool)|str (s:List UInt8)
 |sl (fl:pW) (e:CT) (xs:List e.D)
 |jd
 |ptr (s off:Nat)
 |Cg (fl:pW) (e:CT) (x:e.D) (i:Int) (off:Nat)
 |fn (f:Nat)
 |un
 |bot
inductive AV where
 |val (agg:Bool) (cs:List AC)
 |uT (vs:List (Bool×List AC))
abbrev AV.one (c:AC):AV:=.val false [c]
abbrev AV.bot:AV:=.val false [.bot]
structure AS where
 slots:List AV
 boxes:List (Option (List AC))
 ep:Nat
 iss:List Bool
 io:List AC
structure Shape where
 agg:Bool
 ct:CT
 jC:List (Nat×Nat):=[]
structure An where
 mask:Nat->List Nat:=λ_=>[]
 merge:Nat->Option Nat:=λ_=>none
 mv:List Nat:=[]
 nest:List Nat:=[]
 mb:Nat->Option Nat:=λ_=>none
 sb:Nat->Option Nat:=λ_=>none
 late:List Nat:=[]
 aiJ:List Nat:=[]
 nils:List Nat:=[]
 fm:List Nat:=[]
 eb:Nat->Option Nat:=λ_=>none
 es:Nat->Option Nat:=λ_=>none
 er:Nat->Option Nat:=λ_=>none
 cut:List Nat:=[]
def cellsOf:(t:CT)->pW->t.D->aq AC
 | .int k,_,n=>[.int k n]
 | .bool,_,b=>[.bool b]
 | .str,_,s=>[.str s]
 | .sl e,fl,xs=>[.sl fl e xs]
 | .pair a b,fl,x=>cellsOf a fl x.1++cellsOf b fl x.2
def iy:(t:CT)->aq AC->ar (t.D×aq AC)
 | .int k,.int k' n::r=>if k'=k then some (n,r) else none
 | .bool,.bool b::r=>some (b,r)
 | .str,.str s::r=>some (s,r)
 | .sl e,.sl (.own _) e' xs::r=>if h:e'=e then some (h▸xs,r) else none
 | .sl _,.jd::r=>some ([],r)
 | .pair a b,cs=>(iy a cs).bind λx=>(iy b x.2).bind λy=>some ((x.1,y.1),y.2)
 |_,_=>none
def nth {α:Type}:aq α->Nat->ar α
 |[],_=>none
 |a::_,0=>some a
 |_::l,n+1=>nth l n
def gL {α:Type}:aq α->Nat->α->aq α
 |[],_,_=>[]
 |_::l,0,v=>v::l
 |a::l,n+1,v=>a::gL l n v
def AS.get (st:AS)(i:Nat):AV:=(nth st.slots i).getD .bot
def AS.put (st:AS)(d:ar Nat)(v:AV):AS:=
 match d with
 |some d=>{st with slots:=gL st.slots d v}
 |none=>st
def KE (d j:Nat):Nat:=3*(4096*d+j)+2
def AS.gV (st:AS)(d:ar Nat)(j:Nat):ar Nat:=
 match d with
 |some d=>bif (nth st.iss d).getD true then none else bif Nat.ble 4096 j then none else some (KE d j)
 |none=>none
def AS.eX (st:AS)(d:ar Nat):AS:=
 match d with
 |some d=>{st with iss:=gL st.iss d true}
 |none=>st
def AS.pb (st:AS)(d:ar Nat)(e:CT)(xs:aq e.D):AS:=
 (st.eX d).put d (.one (.sl (.own (st.gV d 0)) e xs))
def AC.borrow (ep:Nat)(rt:ar jR):AC->AC
 | .sl (.own tag) e xs=> .sl (.loc ep (match rt,tag with|some r,some t=>some (r,t)|_,_=>none)) e xs
 | .sl (.eS tag _ (some NJ)) e xs=> .sl (.loc NJ (match rt,tag with|some r,some t=>some (r,t)|_,_=>none)) e xs
 | .sl (.eS _ _ none) _ _=> .bot
 |c=>c
def ic (ep:Nat)(f:Nat->jR):Nat->aq AC->aq AC
 |_,[]=>[]
 |j,c::cs=>c.borrow ep (some (f j))::ic ep f (j+1) cs
def aR (ep:Nat)(cs:aq AC):aq AC:=cs.map (AC.borrow ep none)
def AV.borrow (ep:Nat)(f:Nat->jR):AV->AV
 | .val g cs=> .val g (ic ep f 0 cs)
 | .uT vs=> .uT (vs.map λx=>(x.1,aR ep x.2))
def AV.aR (ep:Nat):AV->AV
 | .val g cs=> .val g (Dn.aR ep cs)
 | .uT vs=> .uT (vs.map λx=>(x.1,Dn.aR ep x.2))
def ofConst:Value->AV
 | .int k n=> .one (.int k n)
 | .bool b=> .one (.bool b)
 | .string s=> .one (.str s.data.toList)
 | .slice none 0 0=> .one .jd
 |_=> .bot
def AS.rd (st:AS):Operand->AV
 | .tmp t=>(st.get t).borrow st.ep (.slot t)
 | .const v=>ofConst v
 | .func f=> .one (.fn f)
 | .global _=> .bot
def AS.take (st:AS):Operand->AV×AS
 | .tmp t=>(st.get t,st.put (some t) ((st.get t).aR st.ep))
 |x=>(st.rd x,st)
def AS.eh (st:AS)(s:Nat)(b:ar (aq AC)):AS:={st with boxes:=gL st.boxes s b}
def AC.asArg (ep:Nat):AC->AC
 | .int k n=> .int k n
 | .bool b=> .bool b
 | .str s=> .str s
 | .sl (.own _) e xs=> .sl (.arg false) e xs
 | .sl (.loc ep' _) e xs=>if ep'==ep then .sl (.arg false) e xs else .bot
 | .sl (.arg _) e xs=> .sl (.arg false) e xs
 | .jd=> .jd
 | .fn f=> .fn f
 |_=> .bot
def AV.asArg (ep:Nat):AV->AV
 | .val g cs=> .val g (cs.map (AC.asArg ep))
 | .uT _=> .bot
def AC.Fl (ep:Nat)(tag:ar Nat):AC->AC
 | .sl (.own _) e xs=> .sl (.own tag) e xs
 | .sl (.arg _) e xs=> .sl (.loc ep none) e xs
 | .sl (.loc _ _) _ _=> .bot
 | .sl (.nest ..) _ _=> .bot
 | .sl (.part ..) _ _=> .bot
 | .sl (.eS _ i _) e xs=> .sl (.eS none i none) e xs
 | .ptr _ _=> .bot
 | .Cg _ _ _ _ _=> .bot
 |c=>c
def Ki (ep:Nat)(mk:Nat->ar Nat):Nat->aq AC->aq AC
 |_,[]=>[]
 |j,c::cs=>c.Fl ep (mk j)::Ki ep mk (j+1) cs
def Yr (ep:Nat)(mk:Nat->ar Nat):Nat->aq (Bool×aq AC)->aq (Bool×aq AC)
 |_,[]=>[]
 |j,t::ts=>(t.1,Ki ep mk j t.2)::Yr ep mk (j+t.2.length) ts
def AV.Fl (ep:Nat)(mk:Nat->ar Nat):AV->AV
 | .val g cs=> .val g (Ki ep mk 0 cs)
 | .uT vs=> .uT (Yr ep mk 0 vs)
def AC.Jo:AC->Bool
 | .sl (.arg _) _ _=>true
 | .int ..=>true
 | .bool _=>true
 | .str _=>true
 | .fn _=>true
 |_=>false
structure zY where
 R:Type
 fn:List AV->Option R
 av:R->AV
 io:Bool:=false
 back:R->List AC:=λ_=>[]
 bx:Bool:=false
 pr:Bool:=false
 sel:R->Bool:=λ_=>true
 alt:R->AV:=λ_=> .val false [.bot]
 cur:Bool:=false
 hcur:cur=true->∀y,(back y).all AC.Jo=true:=by intro h;cases h
def zY.res (F:zY)(y:F.R):AV:=cond (F.sel y) (F.av y) (F.alt y)
abbrev xf:=Nat->zY
def zY.dead:zY:={R:=Unit,fn:=λ_=>none,av:=λ_=> .val false [.bot]}
def xf.calm (Γ:xf):xf:=λf=>bif (Γ f).io||(Γ f).bx||(Γ f).pr then zY.dead else Γ f
def xf.Je (Γ:xf):xf:=λf=>bif (Γ f).io||(Γ f).pr||((Γ f).bx&& !(Γ f).cur) then zY.dead else Γ f
def J6 {R:Type}(op:BinOp)(k:IntKind)(x y:Int)(K:AC->ar R):ar R:=
 match op with
 | .add=>K (.int k (k.wrap (x+y)))
 | .sub=>K (.int k (k.wrap (x-y)))
 | .mul=>K (.int k (k.wrap (x*y)))
 | .quo=>if y=0 then none else K (.int k (k.wrap (x.tdiv y)))
 | .rem=>if y=0 then none else K (.int k (x.tmod y))
 | .and=>K (.int k (k.wrap (BitVec.ofInt k.bits x&&&BitVec.ofInt k.bits y).toNat))
 | .or=>K (.int k (k.wrap (BitVec.ofInt k.bits x|||BitVec.ofInt k.bits y).toNat))
 | .xor=>K (.int k (k.wrap (BitVec.ofInt k.bits x^^^BitVec.ofInt k.bits y).toNat))
 | .andNot=>K (.int k (k.wrap (BitVec.ofInt k.bits x&&&~~~ BitVec.ofInt k.bits y).toNat))
 | .eql=>K (.bool (x==y))
 | .neq=>K (.bool (x !=y))
 | .lss=>K (.bool (decide (x<y)))
 | .leq=>K (.bool (decide (x<=y)))
 | .gtr=>K (.bool (decide (x>y)))
 | .geq=>K (.bool (decide (x>=y)))
 |_=>none
def Mn {R:Type}(op:BinOp)(x y:aq UInt8)(K:AC->ar R):ar R:=
 match op with
 | .add=>room (x.length+y.length) (K (.str (x++y)))
 | .eql=>K (.bool (x==y))
 | .neq=>K (.bool (!(x==y)))
 | .lss=>K (.bool (Op.bytesLess x y))
 | .leq=>K (.bool (Op.bytesLess x y||x==y))
 | .gtr=>K (.bool (!(Op.bytesLess x y||x==y)))
 | .geq=>K (.bool (!(Op.bytesLess x y)))
 |_=>none
def uY:aq AC->aq AC->ar Bool
 |[],[]=>some true
 | .int k x::r,.int k' y::r'=>if k=k' then(uY r r').bind λb=>some ((x==y)&&b) else none
 | .bool x::r,.bool y::r'=>(uY r r').bind λb=>some ((x==y)&&b)
 | .str x::r,.str y::r'=>(uY r r').bind λb=>some ((x==y)&&b)
 |_,_=>none
def HL {R:Type}(op:BinOp)(x y:AV)(K:AC->ar R):ar R:=
 match x,y with
 | .val false [.int k a],.val false [.int k' b]=>
   match op with
   | .shl=>if b<0 then none else K (.int k (k.wrap (a*2^(min b.toNat k.bits))))
   | .shr=>if b<0 then none else K (.int k (a.fdiv (2^(min b.toNat k.bits))))
   |_=>if k=k' then J6 op k a b K else none
 | .val false [.str a],.val false [.str b]=>Mn op a b K
 | .val false [.bool a],.val false [.bool b]=>
   match op with
   | .eql=>K (.bool (a==b))
   | .neq=>K (.bool (!(a==b)))
   |_=>none
 | .val true xs,.val true ys=>
   match op with
   | .eql=>aa (uY xs ys) λb=>K (.bool b)
   | .neq=>aa (uY xs ys) λb=>K (.bool (!b))
   |_=>none
 |_,_=>none
def unC {R:Type}(op:UnOp)(x:AV)(K:AC->ar R):ar R:=
 match op,x with
 | .not,.val false [.bool b]=>K (.bool (!b))
 | .neg,.val false [.int k n]=>K (.int k (k.wrap (0-n)))
 | .xor,.val false [.int k n]=>J6 .xor k (if k.signed then-1 else k.max) n K
 |_,_=>none
def cY (cs:aq AC)(off:Nat)(vs:aq AC):aq AC:=cs.take off++vs++cs.drop (off+vs.length)
def AS.eF (st:AS):jR->ar AC
 | .slot s j=>match st.get s with| .val _ cs=>nth cs j|_=>none
 | .box s j=>((nth st.boxes s).getD none).bind λcs=>nth cs j
 | .io j=>nth st.io j
def AS.eM (st:AS)(r:jR)(c:AC):AS:=
 match r with
 | .slot s j=>match st.get s with| .val g cs=>st.put (some s) (.val g (gL cs j c))|_=>st
 | .box s j=>match (nth st.boxes s).getD none with|some cs=>st.eh s (some (gL cs j c))|none=>st
 | .io j=>{st with io:=gL st.io j c}
def AS.fresh (st:AS):AC->AC
 | .sl (.loc ep (some (r,t))) e xs=>
   bif ep==st.ep then .sl (.loc ep (some (r,t))) e xs else
    match st.eF r with
    |some (.sl (.own (some t')) e' ys)=>if h:e'=e then bif t'==t then .sl (.loc st.ep (some (r,t))) e (h▸ys) else .sl (.loc ep (some (r,t))) e xs else .sl (.loc ep (some (r,t))) e xs
    |_=> .sl (.loc ep (some (r,t))) e xs
 |c=>c
def AV.fresh (st:AS):AV->AV
 | .val g cs=> .val g (cs.map st.fresh)
 | .uT vs=> .uT vs
def AC.now (ep:Nat):AC->Bool
 | .sl (.loc ep' (some _)) _ _=>ep'==ep
 |_=>true
def AS.oG {R:Type}(st:AS)(r:jR)(t:Nat)(e:CT)(i:Int)(off:Nat)(vs:aq AC)(K:AS->ar R):ar R:=
 match st.eF r with
 |some (.sl (.own (some t')) e' xs)=>
  if h:e'=e then
   if t'=t then
    aa (idx (h▸xs:aq e.D) i) λx=>
     match iy e (cY (cellsOf e (.own none) x) off vs)with
     |some (x',[])=>K {st.eM r (.sl (.own (some t')) e ((h▸xs:aq e.D).set i.toNat x'))with ep:=st.ep+1}
     |_=>none
   else none
  else none
 |some (.sl (.eS (some t') i' _) e' xs)=>
  if h:e'=e then
   if t'=t/\off=0 then
    aa (aaK (h▸xs:aq e.D) i' i) λ_=>
     match iy e vs with
     |some (x',[])=>K {st.eM r (.sl (.own (some t')) e ((h▸xs:aq e.D).set i.toNat x'))with ep:=st.ep+1}
     |_=>none
   else none
  else none
 |_=>none
def AV.cells:AV->aq AC
 | .val _ cs=>cs
 | .uT _=>[.bot]
def eG (st:AS):aq Operand->aq AV×AS
 |[]=>([],st)
 |x::xs=>let (v,st1):=st.take x;let (vs,st2):=eG st1 xs;(v::vs,st2)
def DE (e:CT):aq (aq AC)->ar (aq e.D)
 |[]=>some []
 |cs::r=>match iy e cs with
  |some (x,[])=>(DE e r).bind λxs=>some (x::xs)
  |_=>none
def J4:Nat->aq (Nat×Operand)->Bool
 |_,[]=>true
 |n,(i,_)::r=>i==n&&J4 (n+1) r
def AC.Kq:AC->Bool
 | .bot=>false
 | .un=>false
 |_=>true
def xk (jC:aq (Nat×Nat))(zero:aq AC):aq (Nat×aq AC)->ar (aq AC)
 |[]=>some zero
 |(i,cs)::r=>match nth jC i with
  |some (off,n)=>if cs.length=n/\off+n<=zero.length/\cs.all AC.Kq then xk jC (cY zero off cs) r else none
  |none=>none
inductive LK where
 |int|bool|str
 deriving DecidableEq
structure Env where
 ty:List (Nat×Shape)
 eqs:List (Nat×List LK):=[]
 fts:List ((Nat×Nat)×Nat):=[]
def Re (l:aq (Nat×aq LK))(t:Nat):ar (aq LK):=
 match l with
 |[]=>none
 |(u,sh)::r=>bif u==t then some sh else Re r t
def fits:aq LK->aq AC->Bool
 |[],[]=>true
 | .int::ls,.int _ _::r=>fits ls r
 | .bool::ls,.bool _::r=>fits ls r
 | .str::ls,.str _::r=>fits ls r
 |_,_=>false
def Ve (l:aq ((Nat×Nat)×Nat))(S f:Nat):ar Nat:=
 match l with
 |[]=>none
 |((u,k),T)::r=>bif u==S&&k==f then some T else Ve r S f
def iC (l:aq (Nat×Shape))(t:Nat):ar Shape:=
 match l with
 |[]=>none
 |(u,sh)::r=>bif u==t then some sh else iC r t
def Env.sl (E:Env)(t:Nat):ar CT:=
 match iC E.ty t with
 |some ⟨false,.sl e,_⟩=>some e
 |_=>none
def Env.str (E:Env)(t:Nat):Bool:=
 match iC E.ty t with
 |some ⟨false,.str,_⟩=>true
 |_=>false
def Env.bool (E:Env)(t:Nat):Bool:=
 match iC E.ty t with
 |some ⟨false,.bool,_⟩=>true
 |_=>false
def Env.bytes (E:Env)(t:Nat):Bool:=
 match iC E.ty t with
 |some ⟨false,.sl (.int .u8),[(te,_)]⟩=>match iC E.ty te with|some ⟨false,.int .u8,_⟩=>true|_=>false
 |_=>false
def pW.live (ep:Nat):pW->Bool
 | .loc ep' _=>ep'==ep
 | .arg _=>true
 | .own _=>false
 | .nest ..=>false
 | .part ..=>false
 | .eS ..=>false
def pW.uB (ep:Nat)(flat:Bool):pW->Bool
 | .loc ep' _=>ep'==ep&&flat
 | .arg _=>flat
 | .own _=>true
 | .nest ..=>false
 | .part ..=>false
 | .eS ..=>false
def pW.bare:pW->pW
 | .loc ep _=> .loc ep none
 |f=>f
def AC.fT:AC->Bool
 | .int _ _=>true
 | .bool _=>true
 | .str _=>true
 | .fn _=>true
 |_=>false
def tm:Operand->dy
 | .tmp t=>[t]
 |_=>[]
def Qr (l:aq Operand):dy:=l.flatMap tm
def GY (an:An)(o:Oper):Bool:=
 match o.dst with
 |some d=>an.mv.contains d&&(an.mb d).isNone
 |none=>false
def aiF (an:An)(o:Oper):Bool:=
 match o.dst with
 |some d=>an.nils.contains d
 |none=>false
def Bx (an:An)(o:Oper):Bool:=
 match o.op with
 | .assign (.tmp s)=>an.late.contains s
 | .store _ _ (.tmp s)=>an.late.contains s
 |_=>false
def tmO:ar Operand->dy
 |some x=>tm x
 |none=>[]
def dq (o:Oper):dy:=
 match o.op with
 | .move x=>tm x
 | .assign x=>tm x
 | .pick c a b=>tm c++tm a++tm b
 | .box _ x=>tm x
 | .load _ p=>tm p
 | .store _ p x=>tm p++tm x
 | .nilCheck x=>tm x
 | .binOp _ _ x y _=>tm x++tm y
 | .unOp _ _ x=>tm x
 | .fieldAddr _ p _=>tm p
 | .indexAddr _ x i=>tm x++tm i
 | .index _ x i=>tm x++tm i
 | .build _ parts=>Qr (parts.toList.map (·.2))
 | .buildSlice _ _ parts=>Qr (parts.toList.map (·.2))
 | .makeSlice _ n c=>tm n++tm c
 | .slice _ x lo hi none=>tm x++tmO lo++tmO hi
 | .convert _ _ x=>tm x
 | .extract (.tmp t) _=>[t]
 | .call {callee:=.builtin _,args,..}=>Qr args.toList
 | .call {callee:=.value f,args,..}=>tm f++Qr args.toList
 |_=>[]
def GW (an:An)(o:Oper):Bool:=
 match o.op with
 | .move _=>match o.dst with|some d=>an.mv.contains d|none=>false
 | .assign _=>true
 | .box ..=>true
 | .build ..=>true
 | .buildSlice ..=>true
 | .store ..=>true
 | .extract ..=>match o.dst with|some d=>an.mv.contains d|none=>false
 | .call {callee:=.builtin .append,..}=>true
 |_=>false
def GV (an:An)(o:Oper):Bool:=
 match o.op,o.dst,o.guard with
 | .load _ (.tmp q),some d,none=>an.mv.contains d&&(an.mb d).isNone&&(an.eb q).isSome
 |_,_,_=>false
def CH (an:An)(o:Oper):Bool:=
 match o.op,o.dst,o.guard with
 | .load _ (.tmp q),some d,none=> !an.mv.contains d&& !an.fm.contains d&&(an.sb q).isSome
 |_,_,_=>false
def GZ (an:An)(o:Oper):dy:=
 match o.op with
 | .alloc _=>o.dst.toList
 | .box ..=>o.dst.toList
 | .load _ p=>match o.dst with|some d=>bif an.mv.contains d then(an.mb d).toList++(bif GV an o then(match p with| .tmp q=>(an.eb q).toList|_=>[]) else []) else []|none=>[]
 | .store _ (.tmp p) _=>(an.sb p).toList
 | .call {callee:=.value _,args,..}=>(match args.toList with| .tmp q::_=>(an.sb q).toList|_=>[])
 |_=>[]
def nr (an:An)(o:Oper):Bool:=
 match o.op with
 | .move _=>true
 | .load ..=>(match o.dst with|some d=> !an.mv.contains d||(an.mb d).isSome|none=>false)||GV an o
 | .extract (.tmp _) _=>true
 | .store _ (.tmp p) _=>(an.sb p).isSome&& !Bx an o
 | .assign _=> !Bx an o
 | .pick ..| .alloc _| .box ..| .nilCheck _| .binOp ..| .unOp ..| .fieldAddr ..| .indexAddr ..| .index ..| .build ..| .buildSlice ..| .makeSlice ..| .convert ..=>true
 | .slice _ _ _ _ none=> !GY an o
 | .call {callee:=.builtin .len,..}| .call {callee:=.builtin .min,..}| .call {callee:=.builtin .max,..}| .call {callee:=.builtin .append,..}=>true
 | .call {callee:=.value _,..}=>true
 |_=>false
def writes (an:An)(o:Oper):dy:=o.dst.toList++(bif GW an o then dq o else [])
def AV.now (ep:Nat):AV->Bool
 | .val _ cs=>cs.all (AC.now ep)
 | .uT _=>true
def AC.kB:AC->Bool
 | .int ..=>true
 | .bool _=>true
 | .str _=>true
 | .fn _=>true
 | .ptr ..=>true
 |_=>false
def AV.kB:AV->Bool
 | .val _ cs=>cs.all AC.kB
 | .uT _=>false
def Gd (E:Env)(T:TypeId)(st:AS)(s off:Nat):Bool:=
 match iC E.ty T,(nth st.boxes s).getD none with
 |some sh,some cs=>((cs.drop off).take sh.ct.size).all AC.kB
 |_,_=>false
def WB (an:An)(o:Oper):Bool:=match o.dst with|some d=>an.fm.contains d|none=>false
def C5 (an:An)(o:Oper):Bool:=
 match o.op,o.dst,o.guard with
 | .load _ (.tmp _),some d,none=>an.mv.contains d&&(an.mb d).isSome
 |_,_,_=>false
def NS (an:An)(o:Oper):Bool:=
 match o.op,o.dst,o.guard with
 | .load _ (.tmp _),some d,none=> !an.mv.contains d&&an.fm.contains d
 |_,_,_=>false
def erS (an:An)(o:Oper):dy:=
 match o.op,o.dst with
 | .load ..,some d=>(an.er d).toList
 | .call {callee:=.value _,..},some d=>(an.er d).toList
 |_,_=>[]
def AC.aeB (l:dy):AC->Bool
 | .sl (.loc _ (some (.slot b _,_))) _ _=>l.contains b
 | .sl (.loc _ _) _ _=>false
 |_=>true
def Kl (l:dy)(st:AS):Operand->Bool
 | .tmp t=>(match st.get t with| .val _ cs=>cs.all (AC.aeB l)| .uT _=>true)
 |_=>true
def acC (an:An)(X l:dy)(st:AS)(xs:aq Operand)(q:Nat):AV->Bool
 | .val false [.ptr s _]=> !X.contains s&&an.sb q==some s&&(match (nth st.boxes s).getD none with|some cs=>cs.all AC.Jo|none=>true)&&xs.all (Kl l st)
 |_=>true
def AV.ZP:AV->Bool
 | .val false [.ptr _ _]=>false
 |_=>true
def tz (an:An)(X l:dy)(st:AS):aq Operand->Bool
 | .tmp q::xs=>acC an X l st xs q (st.rd (.tmp q))
 |x::_=>(st.rd x).ZP
 |[]=>true
def dj (E:Env)(an:An)(X:dy)(o:Oper)(st:AS):Bool:=
 match o.op with
 | .move x=> !WB an o||(st.rd x).kB
 | .indexAddr _ x _=>(st.rd x).now st.ep||(match st.rd x with| .val _ [.sl (.loc _ (some (.box b _,_))) _ _]=> !X.contains b|_=>false)
 | .slice _ x _ _ none=>(st.rd x).now st.ep
 | .call {callee:=.value _,args,..}=>tz an X (erS an o) st args.toList&&args.toList.all λx=>(st.rd x).now st.ep
 | .load T p=>match st.rd p with
   | .val false [.ptr s off]=> !X.contains s&&(match o.dst with|some d=> !an.mv.contains d||an.mb d==some s|none=>true)&&(!WB an o||Gd E T st s off)
   | .val false [.Cg fl _ _ _ _]=>(fl.live st.ep||(match fl with
     | .loc _ (some (.slot b _,_))=>(erS an o).contains b
     | .loc _ (some (.box b _,_))=> !X.contains b
     |_=>false))&& !(WB an o||C5 an o)&& !CH an o&&(!GV an o||(match p,fl with
     | .tmp q,.loc _ (some (.box b _,_))=>an.eb q==some b&& !X.contains b
     |_,_=>false))
   |_=> !(WB an o||C5 an o)
 | .store _ (.tmp p) _=>((an.sb p).isNone&&(an.eb p).isNone&&(an.es p).isNone)||(match st.rd (.tmp p)with
   | .val false [.ptr s _]=> !X.contains s&&an.sb p==some s
   | .val false [.Cg (.loc _ (some (.box b _,_))) _ _ _ _]=>an.eb p==some b&&(an.sb p).isNone&&(an.es p).isNone
   | .val false [.Cg (.loc _ (some (.slot b _,_))) _ _ _ _]=>an.es p==some b&&(an.sb p).isNone&&(an.eb p).isNone
   |_=>false)
 | .extract (.tmp t) i=>match st.get t with
   | .uT vs=>match nth vs i with|some x=>x.2.all AC.fT||(match o.dst with|some d=>an.mv.contains d|none=>false)|none=>true
   |_=>true
 |_=>true
def Gf (an:An)(ops:aq Oper)(o:Oper):dy:=
 (match o.guard with
 |some (j,_)=>((nth ops j).bind (·.dst)).toList
 |none=>[])++erS an o
def meets (a b:dy):Bool:=a.any λx=>b.contains x
def WT (an:An)(ops:aq Oper)(X Y:dy)(o p:Oper):Bool:=
 nr an o&&nr an p&& !meets (writes an o) (dq p++Gf an ops p++writes an p)&& !meets (writes an p) (dq o++Gf an ops o)&&
 (GZ an o).all (λd=>Y.contains d)&&(GZ an p).all (λd=>X.contains d)&& !meets (GZ an o) (p.dst.toList++GZ an p)&& !meets (GZ an p) o.dst.toList
def Xo (o p:Oper):Bool:=
 match o.op,p.op,o.dst,p.dst,o.guard,p.guard with
 | .extract (.tmp t) i,.extract (.tmp t') j,some d,some d',none,none=>t==t'&& !(i==j)&& !(d==d')&& !(d==t)&& !(d'==t)
 |_,_,_,_,_,_=>false
def Xd (an:An)(o p:Oper):Bool:=
 match p.op,p.dst,p.guard with
 | .store _ (.tmp q) (.tmp x),none,none=>((an.eb q).isSome&&(an.es q).isNone||(match an.es q with|some b=>(an.eb q).isNone&& !(b==x)&& !(b==q)&& !meets [b] (o.dst.toList++dq o)|none=>false))&&(an.sb q).isNone&& !Bx an p&&(match o.op,o.dst,o.guard with
   | .move (.tmp t),some d,none=> !an.mv.contains d&&an.fm.contains d&& !(d==q)&& !(d==x)&& !(t==x)&& !(t==q)&& !(d==t)
   | .extract (.tmp t) _,some d,none=> !(d==q)&& !(d==x)&& !(t==x)&& !(t==q)&& !(d==t)
   |_,_,_=>false)
 |_,_,_=>false
def X3 (an:An)(o p:Oper):Bool:=
 (C5 an o&&NS an p||NS an o&&C5 an p)&& !meets o.dst.toList (p.dst.toList++dq p)&& !meets p.dst.toList (dq o)
def W4 (an:An)(o p:Oper):Bool:=CH an o&&GV an p&& !meets o.dst.toList (p.dst.toList++dq p)&& !meets p.dst.toList (dq o)
def aeo (an:An)(o p:Oper):Bool:=Xo o p||Xd an o p||X3 an o p||W4 an o p
def Nm (an:An)(ops:aq Oper)(X Y:dy)(o p:Oper):Bool:=aeo an o p||WT an ops X Y o p
def CI (o:Oper):dy:=(o.after.toList.filter (λe=>Region.binds .any e)).map (·.on)
def TG (a b:dy):dy:=a.foldl (λs x=>bif s.contains x then s else x::s) b
def TV:aq Oper->aq dy->aq dy
 |[],acc=>acc
 |o::r,acc=>TV r (acc++[(CI o).foldl (λs j=>TG (j::(nth acc j).getD []) s) []])
def abx (A:aq dy)(i k:Nat):Bool:=((nth A i).getD []).contains k
def Zb (an:An)(A:aq dy)(i:Nat)(fl pl:Bool):Nat->aq Oper->dy
 |_,[]=>[]
 |k,o::r=>(bif !abx A i k&& !abx A k i&& !(k==i)&& !(fl&&C5 an o)&& !(pl&&GV an o) then GZ an o else [])++Zb an A i fl pl (k+1) r
def sE (an:An)(A:aq dy)(i k:Nat)(ops:aq Oper):dy:=Zb an A i (match nth ops i with|some o=>NS an o|none=>false) (match nth ops i with|some o=>CH an o|none=>false) k ops
def OI (an:An)(ops:aq Oper)(A:aq dy)(i:Nat)(oi:Oper):Nat->aq Oper->Bool
 |_,[]=>true
 |j,oj::r=>bif Nat.ble i j then true else(abx A i j||Nm an ops (sE an A j 0 ops) (sE an A i 0 ops) oj oi)&&OI an ops A i oi (j+1) r
def S5 (an:An)(ops:aq Oper)(A:aq dy):Nat->aq Oper->Bool
 |_,[]=>true
 |i,oi::r=>(CI oi).all (λk=>Nat.blt k i)&&OI an ops A i oi 0 ops&&S5 an ops A (i+1) r
def Ue (an:An)(ops:aq Oper):Bool:=S5 an ops (TV ops []) 0 ops
inductive Ex where
 |normal|ret|exit (id:Nat)
inductive FK where
 |own (tag:Option Nat)|arg|afg|loc|WK (j t:Nat)|nil
def FK.flag:FK->pW
 | .own t=> .own t
 | .arg=> .arg false
 | .afg=> .arg true
 | .loc=> .loc 0 none
 | .WK j t=> .loc 0 (some (.io j,t))
 | .nil=> .arg false
def FK.isNil:FK->Bool
 | .nil=>true
 |_=>false
inductive FT where
 |int (k:IntKind)|bool|str|sl (fl:FK) (e:CT)|pair (a b:FT)
abbrev FT.ct:FT->CT
 | .int k=> .int k
 | .bool=> .bool
 | .str=> .str
 | .sl _ e=> .sl e
 | .pair a b=> .pair a.ct b.ct
def iH:(t:FT)->t.ct.D->aq AC
 | .int k,n=>[.int k n]
 | .bool,b=>[.bool b]
 | .str,s=>[.str s]
 | .sl fl e,xs=>[bif fl.isNil then .jd else .sl fl.flag e xs]
 | .pair a b,x=>iH a x.1++iH b x.2
def FK.fits:FK->pW->Bool
 | .own t,.own t'=>t==t'
 | .arg,.arg k=> !k
 | .afg,.arg k=>k
 | .loc,.loc 0 none=>true
 | .WK j t,.loc 0 (some (.io j',t'))=>j==j'&&t==t'
 |_,_=>false
def M4:(t:FT)->aq AC->ar (t.ct.D×aq AC)
 | .int k,.int k' n::r=>if k'=k then some (n,r) else none
 | .bool,.bool b::r=>some (b,r)
 | .str,.str s::r=>some (s,r)
 | .sl fl e,.sl fl' e' xs::r=>if h:e'=e then bif fl.fits fl' then some (h▸xs,r) else none else none
 | .sl fl _,.jd::r=>bif fl.isNil then some ([],r) else none
 | .pair a b,cs=>(M4 a cs).bind λx=>(M4 b x.2).bind λy=>some ((x.1,y.1),y.2)
 |_,_=>none
inductive PD where
 |bot|ptr (s off:Nat)|fn (f:Nat)|data (g:Bool) (t:FT)
inductive IoD where
 |none|some (t:FT)|ptr
structure SD where
 slots:List PD
 boxes:List (Option FT)
 io:IoD:=.none
abbrev E0:aq PD->Type
 |[]=>Unit
 | .data _ t::r=>t.ct.D×E0 r
 |_::r=>E0 r
abbrev D7:aq (ar FT)->Type
 |[]=>Unit
 |some t::r=>t.ct.D×D7 r
 |none::r=>D7 r
abbrev ioD:IoD->Type
 | .none=>Unit
 | .some t=>t.ct.D
 | .ptr=>Unit
abbrev SD.D (d:SD):Type:=E0 d.slots×D7 d.boxes×ioD d.io
def sH:(l:aq PD)->E0 l->aq AV
 |[],_=>[]
 | .data g t::r,x=> .val g (iH t x.1)::sH r x.2
 | .bot::r,x=> .bot::sH r x
 | .ptr s off::r,x=> .one (.ptr s off)::sH r x
 | .fn f::r,x=> .one (.fn f)::sH r x
def Dj:(l:aq (ar FT))->D7 l->aq (ar (aq AC))
 |[],_=>[]
 |some t::r,x=>some (iH t x.1)::Dj r x.2
 |none::r,x=>none::Dj r x
def acH:(o:IoD)->ioD o->aq AC
 | .none,_=>[]
 | .some t,x=>iH t x
 | .ptr,_=>[.ptr 0 0]
def SD.enc (d:SD)(x:d.D):AS:=⟨sH d.slots x.1,Dj d.boxes x.2.1,0,List.replicate d.slots.length false,acH d.io x.2.2⟩
def AV.ZF:AV->Bool
 | .val false [.bot]=>true
 |_=>false
def AV.ZG (s off:Nat):AV->Bool
 | .val false [.ptr s' apZ]=>s==s'&&off==apZ
 |_=>false
def AV.aa9 (f:Nat):AV->Bool
 | .val false [.fn f']=>f==f'
 |_=>false
def jK:(l:aq PD)->aq AV->ar (E0 l)
 |[],[]=>some ()
 | .data g t::r,.val g' cs::vs=>bif g==g' then(match M4 t cs with|some (x,[])=>(jK r vs).bind λy=>some (x,y)|_=>none) else none
 | .bot::r,v::vs=>bif v.ZF then jK r vs else none
 | .ptr s off::r,v::vs=>bif v.ZG s off then jK r vs else none
 | .fn f::r,v::vs=>bif v.aa9 f then jK r vs else none
 |_,_=>none
def qa:(l:aq (ar FT))->aq (ar (aq AC))->ar (D7 l)
 |[],[]=>some ()
 |some t::r,some cs::bs=>match M4 t cs with|some (x,[])=>(qa r bs).bind λy=>some (x,y)|_=>none
 |none::r,none::bs=>qa r bs
 |_,_=>none
def XY:aq AC->Bool
 |[.ptr 0 0]=>true
 |_=>false
def Uc:(o:IoD)->aq AC->ar (ioD o)
 | .none,[]=>some ()
 | .some t,cs=>match M4 t cs with|some (x,[])=>some x|_=>none
 | .ptr,cs=>bif XY cs then some () else none
 |_,_=>none
def SD.dec (d:SD)(st:AS):ar d.D:=
 bif st.ep==0&&st.iss==List.replicate d.slots.length false then
  (jK d.slots st.slots).bind λx=>(qa d.boxes st.boxes).bind λy=>(Uc d.io st.io).bind λz=>some (x,y,z)
 else none
structure KU where
 sd:SD
 run:{R:Type}->sd.D->(Ex->AS->Option R)->Option R
abbrev F0:=Nat->KU
def KU.go {R:Type}(l:KU)(st:AS)(K:Ex->AS->ar R):ar R:=aa (l.sd.dec st) λx=>l.run x K
def KU.none:KU:=⟨⟨[],[],.none⟩,λ_ _=>Option.none⟩
def F0.nil:F0:=λ_=>KU.none
def F0.add (Λ:F0)(k:Nat)(l:KU):F0:=λj=>bif j==k then l else Λ j
section
variable {R:Type} (E:Env) (Γ:xf) (an:An)
def DH (o:Oper)(x:Operand)(st:AS)(K:AS->ar R):ar R:=
 match o.dst with
 |some d=>if an.mv.contains d then K ((st.take x).2.put o.dst (st.take x).1) else K (st.put o.dst (st.rd x))
 |none=>none
def uW (o:Oper)(x:Operand)(st:AS)(K:AS->ar R):ar R:=
 match st.take x with
 |(.val false [.jd],_)=>match E.sl o.type with
  |some e=>K (st.put o.dst (.one (bif aiF an o then .jd else .sl (.own none) e [])))
  |none=>none
 |(v,st')=>K (st'.put o.dst v)
def GD (o:Oper)(c a b:Operand)(st:AS)(K:AS->ar R):ar R:=
 match st.rd c with
 | .val false [.bool t]=>match st.rd a,st.rd b with
   | .val false [.bool x],.val false [.bool y]=>K (st.put o.dst (.one (.bool (cond t x y))))
   |va,vb=>cond t (K (st.put o.dst va)) (K (st.put o.dst vb))
 |_=>none
def D5 (o:Oper)(T:TypeId)(st:AS)(K:AS->ar R):ar R:=
 match o.dst,iC E.ty T with
 |some d,some sh=>match nth st.boxes d with
  |some none=>K ((st.eh d (some (cellsOf sh.ct (.own none) sh.ct.zero))).put o.dst (.one (.ptr d 0)))
  |_=>none
 |_,_=>none
def Sa (o:Oper)(x:Operand)(st:AS)(K:AS->ar R):ar R:=
 match o.dst,st.take x with
 |some d,(.val _ cs,st')=>
  match nth st'.boxes d with
  |some none=>if cs.all AC.Kq then K ((st'.eh d (some cs)).put o.dst (.one (.ptr d 0))) else none
  |_=>none
 |_,_=>none
def S0 (ep:Nat)(r:jR)(t:Nat)(e:CT)(i:Int):Nat->aq AC->aq AC
 |_,[]=>[]
 |p,.sl _ e' xs::cs=> .sl (.nest ep r t e i p) e' xs::S0 ep r t e i (p+1) cs
 |p,c::cs=>c::S0 ep r t e i (p+1) cs
def aeg (o:Oper)(ep:Nat)(fl:pW)(e:CT)(i:Int)(off:Nat)(cs:aq AC):aq AC:=
 match fl,o.dst with
 | .loc _ (some (r,t)),some d=>bif an.nest.contains d then S0 ep r t e i off cs else cs
 |_,_=>cs
def E7 (o:Oper)(sh:Shape)(fl:pW)(e:CT)(i:Int)(off:Nat)(st:AS)(K:AS->ar R):ar R:=
 match fl with
 | .loc _ (some (r,t))=>
   match st.eF r with
   |some (.sl (.own (some t')) e' ys)=>
    if h:e'=e then
     if t'=t/\off+sh.ct.size<=e.size then
      aa (idx (h▸ys:aq e.D) i) λy=>K (st.put o.dst (.val sh.agg (((cellsOf e (.loc st.ep none) y).drop off).take sh.ct.size)))
     else none
    else none
   |_=>none
 |_=>none
def zn (o:Oper)(sh:Shape)(fl:pW)(e:CT)(i:Int)(off:Nat)(st:AS)(K:AS->ar R):ar R:=
 match fl with
 | .loc _ (some (r,t))=>
   match st.eF r with
   |some (.sl (.own (some t')) e' ys)=>
    if h:e'=e then
     if t'=t/\off=0/\sh.ct=e then
      aa (idx (h▸ys:aq e.D) i) λy=>K ((st.eM r (.sl (.eS (some t) i (some st.ep)) e (h▸ys))).put o.dst (.val sh.agg (cellsOf e (.own none) y)))
     else none
    else none
   |_=>none
 |_=>none
def oz (o:Oper)(T:TypeId)(p:Operand)(st:AS)(K:AS->ar R):ar R:=
 match iC E.ty T,st.rd p with
 |some sh,.val false [.ptr s off]=>
  match (nth st.boxes s).getD none with
  |some cs=>
   if off+sh.ct.size<=cs.length then
    match o.dst with
    |some d=>
     if an.mv.contains d then
      K ((st.eh s (some (cY cs off (aR st.ep ((cs.drop off).take sh.ct.size))))).put o.dst (.val sh.agg ((cs.drop off).take sh.ct.size)))
     else K (st.put o.dst (.val sh.agg (ic st.ep (.box s) off ((cs.drop off).take sh.ct.size))))
    |none=>none
   else none
  |none=>none
 |some sh,.val false [.Cg fl e x i off]=>
  if GY an o then zn o sh fl e i off st K
  else if fl.live st.ep then
   if off+sh.ct.size<=e.size then K (st.put o.dst (.val sh.agg (aeg an o st.ep fl e i off (((cellsOf e fl.bare x).drop off).take sh.ct.size)))) else none
  else E7 o sh fl e i off st K
 |_,_=>none
def xy (T:TypeId)(p x:Operand)(st:AS)(K:AS->ar R):ar R:=
 match iC E.ty T,st.rd p with
 |some sh,.val false [.ptr s off]=>
  match st.take x with
  |(.val _ vs,st')=>
   match (nth st'.boxes s).getD none with
   |some cs=>
    if vs.length=sh.ct.size/\vs.all AC.Kq then
     if off+sh.ct.size<=cs.length then K (st'.eh s (some (cY cs off vs))) else none
    else none
   |none=>none
  |_=>none
 |some sh,.val false [.Cg (.loc _ (some (r,t))) e _ i off]=>
  match st.take x with
  |(.val _ vs,st')=>
   if vs.length=sh.ct.size/\off+sh.ct.size<=e.size then st'.oG r t e i off vs K else none
  |_=>none
 |_,_=>none
def Bk (o:Oper)(S:TypeId)(p:Operand)(f:Nat)(st:AS)(K:AS->ar R):ar R:=
 match iC E.ty S,st.rd p with
 |some ⟨true,_,jC⟩,.val false [.ptr s off]=>match nth jC f with|some (fo,_)=>K (st.put o.dst (.one (.ptr s (off+fo))))|none=>none
 |some ⟨true,_,jC⟩,.val false [.Cg fl e x i off]=>match nth jC f with|some (fo,_)=>K (st.put o.dst (.one (.Cg fl e x i (off+fo))))|none=>none
 |_,_=>none
def lY (o:Oper)(T:TypeId)(x i:Operand)(st:AS)(K:AS->ar R):ar R:=
 match E.sl T,(st.rd x).fresh st,st.rd i with
 |some e',.val false [.sl fl e xs],.val false [.int _ n]=>
  if e'=e/\fl.live st.ep then aa (idx xs n) λy=>K (st.put o.dst (.one (.Cg fl e y n 0))) else none
 |_,_,_=>none
def CW (o:Oper)(T:TypeId)(x i:Operand)(st:AS)(K:AS->ar R):ar R:=
 match st.rd x,st.rd i with
 | .val false [.str s],.val false [.int _ n]=>if E.str T then aa (idx s n) λb=>K (st.put o.dst (.one (.int .u8 b.toNat))) else none
 |_,_=>none
def CP (o:Oper)(T:TypeId)(parts:aq (Nat×Operand))(st:AS)(K:AS->ar R):ar R:=
 match iC E.ty T with
 |some ⟨true,ct,jC⟩=>
  match eG st (parts.map (·.2))with
  |(vs,st')=>
   match xk jC (cellsOf ct (.own none) ct.zero) ((parts.map (·.1)).zip (vs.map AV.cells))with
   |some cs=>K (st'.put o.dst (.val true cs))
   |none=>none
 |_=>none
def kX (o:Oper)(T:TypeId)(len:Nat)(parts:aq (Nat×Operand))(st:AS)(K:AS->ar R):ar R:=
 match E.sl T with
 |some e=>
  if parts.length=len/\J4 0 parts/\len<=1000 then
   match eG st (parts.map (·.2))with
   |(vs,st')=>
    match DE e (vs.map AV.cells)with
    |some xs=>K (st'.pb o.dst e xs)
    |none=>none
  else none
 |none=>none
def nS (o:Oper)(T:TypeId)(n c:Operand)(st:AS)(K:AS->ar R):ar R:=
 match E.sl T,st.rd n,st.rd c with
 |some e,.val false [.int .i64 len],.val false [.int .i64 cap]=>
  if 0<=len/\len<=cap then room cap.toNat (K (st.pb o.dst e (List.replicate len.toNat e.zero))) else none
 |_,_,_=>none
def mw (st:AS)(lo hi:ar Operand)(n:Nat)(K:Int->Int->ar R):ar R:=
 match lo.map st.rd,hi.map st.rd with
 |none,none=>K 0 n
 |some (.val false [.int _ a]),none=>K a n
 |none,some (.val false [.int _ b])=>K 0 b
 |some (.val false [.int _ a]),some (.val false [.int _ b])=>K a b
 |_,_=>none
def xt (o:Oper)(T:TypeId)(x:Operand)(lo hi:ar Operand)(st:AS)(K:AS->ar R):ar R:=
 match st.take x,lo.map st.rd,hi with
 |(.val false [.sl (.own _) e xs],st'),some (.val false [.int _ a]),none=>
  if E.sl T=some e then aa (sub xs a xs.length) λPM=>K (st'.pb o.dst e PM) else none
 |_,_,_=>none
def OJ (o:Oper)(fl:pW)(a:Int):pW:=
 match fl,o.dst with
 | .loc ep (some (r,t)),some d=>bif an.nest.contains d then .part ep r t a else .loc ep none
 |fl,_=>fl.bare
def BW (o:Oper)(T:TypeId)(x:Operand)(lo hi:ar Operand)(st:AS)(K:AS->ar R):ar R:=
 if GY an o then xt E o T x lo hi st K else
 match (st.rd x).fresh st with
 | .val false [.str s]=>if E.str T then mw st lo hi s.length λa b=>aa (sub s a b) λs'=>K (st.put o.dst (.one (.str s'))) else none
 | .val false [.sl fl e xs]=>
   if E.sl T=some e/\fl.live st.ep then mw st lo hi xs.length λa b=>aa (sub xs a b) λPM=>K (st.put o.dst (.one (.sl (OJ an o fl a) e PM))) else none
 |_=>none
def la (o:Oper)(src dst:TypeId)(x:Operand)(st:AS)(K:AS->ar R):ar R:=
 match iC E.ty src,iC E.ty dst,st.rd x with
 |some _,some ⟨false,.int k,_⟩,.val false [.int _ n]=>K (st.put o.dst (.one (.int k (k.wrap n))))
 |some ⟨false,.str,_⟩,some ⟨false,.str,_⟩,.val false [.str s]=>K (st.put o.dst (.one (.str s)))
 |some ⟨false,.str,_⟩,some _,.val false [.str s]=>
  if E.bytes dst then room s.length (K (st.pb o.dst (.int .u8) (dg s))) else none
 |some _,some ⟨false,.str,_⟩,.val false [.sl fl (.int .u8) xs]=>
  if E.bytes src/\fl.live st.ep then K (st.put o.dst (.one (.str (aK xs)))) else none
 |_,_,_=>none
def lf (o:Oper)(t i:Nat)(st:AS)(K:AS->ar R):ar R:=
 match st.get t with
 | .uT vs=>match nth vs i with
   |some (g,cs)=>K ((st.put (some t) (.uT (gL vs i (g,aR 0 cs)))).put o.dst (.val g cs))
   |none=>none
 |_=>none
def Ox (o:Oper)(ts:aq TypeId)(args:aq Operand)(st:AS)(K:AS->ar R):ar R:=
 match ts,args.map st.rd with
 |[t],[.val false [.str s]]=>if E.str t then K (st.put o.dst (.one (.int .i64 s.length))) else none
 |[t],[.val false [.sl _ _ xs]]=>if(E.sl t).isSome then K (st.put o.dst (.one (.int .i64 xs.length))) else none
 |_,_=>none
def Qa (o:Oper)(args:aq Operand)(st:AS)(K:AS->ar R):ar R:=
 match args.map st.rd with
 |[.val false [.int k x],.val false [.int _ y]]=>K (st.put o.dst (.one (.int k (if y<x then y else x))))
 |_=>none
def P9 (o:Oper)(args:aq Operand)(st:AS)(K:AS->ar R):ar R:=
 match args.map st.rd with
 |[.val false [.int k x],.val false [.int _ y]]=>K (st.put o.dst (.one (.int k (if y>x then y else x))))
 |_=>none
def QB (o:Oper)(ts:aq TypeId)(args:aq Operand)(st:AS)(K:AS->ar R):ar R:=
 match ts,args.map st.rd with
 |[t,t'],[.val false [.sl (.part ep r tg lo) e xs],.val false [.str s]]=>
  match st.eF r with
  |some (.sl (.own (some tg')) e' ys)=>
   if h:e'=.int .u8 then
    if e=.int .u8/\E.sl t=some (.int .u8)/\E.str t'=true/\ep=st.ep/\tg'=tg then
     K ({st.eM r (.sl (.own (some tg)) (.int .u8) (DJ (h▸ys:aq (CT.int .u8).D) lo.toNat (dg (s.take xs.length))))with ep:=st.ep+1}.put o.dst (.one (.int .i64 (min xs.length s.length:Nat))))
    else none
   else none
  |_=>none
 |_,_=>none
def Hb (o:Oper)(S:TypeId)(t f:Nat)(st:AS)(K:AS->ar R):ar R:=
 match iC E.ty S,st.get t,Ve E.fts S f with
 |some ⟨true,ct,jC⟩,.val true cs,some T=>
  match nth jC f,iC E.ty T with
  |some (fo,n),some sh=>
   if n=sh.ct.size/\cs.length=ct.size/\fo+n<=cs.length then
    K ((st.put (some t) (.val true (cY cs fo (aR st.ep ((cs.drop fo).take n))))).put o.dst (.val sh.agg ((cs.drop fo).take n)))
   else none
  |_,_=>none
 |_,_,_=>none
def xC (o:Oper)(ts:aq TypeId)(args:aq Operand)(st:AS)(K:AS->ar R):ar R:=
 match ts,args with
 |[t,t'],[s,x]=>
  match st.take s with
  |(.val false [.sl (.own _) e xs],st1)=>
   match st1.take x with
   |(.val false [.sl fl e' ys],st2)=>
    if h:e'=e then
     if E.sl t=some e/\E.sl t'=some e/\fl.uB st.ep e.flat then
      room (xs.length+ys.length) (K (st2.pb o.dst e (xs++(h▸ys:aq e.D))))
     else none
    else none
   |(.val false [.str s],st2)=>
    if h:e=.int .u8 then
     if E.sl t=some e/\E.str t' then room (xs.length+s.length) (K (st2.pb o.dst (.int .u8) ((h▸xs:aq (CT.int .u8).D)++dg s))) else none
    else none
   |_=>none
  |_=>none
 |_,_=>none
def K4:Nat->aq AC->ar (jR×Nat)
 |_,[]=>none
 |j,.sl (.loc _ (some (r,_))) _ _::_=>some (r,j)
 |j,_::cs=>K4 (j+1) cs
def jR.pos:jR->Nat
 | .slot _ j=>j
 | .box _ j=>j
 | .io j=>j
def AS.th (st:AS):jR->ar (aq AC)
 | .slot s _=>match st.get s with| .val _ cs=>some cs|_=>none
 | .box s _=>(nth st.boxes s).getD none
 | .io _=>some st.io
def AS.pc (st:AS)(r:jR)(cs:aq AC):AS:=
 match r with
 | .slot s _=>match st.get s with| .val g _=>st.put (some s) (.val g cs)|_=>st
 | .box s _=>st.eh s (some cs)
 | .io _=>{st with io:=cs}
def md:aq AC->aq AC->ar (aq AC)
 |[],[]=>some []
 | .sl (.loc _ (some (_,t))) _ _::os,.sl (.own (some t')) e xs::ss=>bif t'==t then(md os ss).bind λr=>some (.sl (.own none) e xs::r) else none
 | .int k n::os,.int _ _::ss=>(md os ss).bind λr=>some (.int k n::r)
 | .bool b::os,.bool _::ss=>(md os ss).bind λr=>some (.bool b::r)
 | .str x::os,.str _::ss=>(md os ss).bind λr=>some (.str x::r)
 |_,_=>none
def CL:aq AC->aq AC->aq AC->ar (aq AC)
 |[],[],[]=>some []
 | .sl (.loc _ (some (_,t'))) _ _::os,.sl (.own (some t)) _ _::ss,.sl (.own _) e ys::bs=>bif t==t' then(CL os ss bs).bind λr=>some (.sl (.own (some t)) e ys::r) else none
 | .int _ _::os,.int k n::ss,.int _ _::bs=>(CL os ss bs).bind λr=>some (.int k n::r)
 | .bool _::os,.bool b::ss,.bool _::bs=>(CL os ss bs).bind λr=>some (.bool b::r)
 | .str _::os,.str x::ss,.str _::bs=>(CL os ss bs).bind λr=>some (.str x::r)
 |_,_,_=>none
def AV.fT:AV->Bool
 | .val _ cs=>cs.all AC.fT
 | .uT vs=>vs.all λx=>x.2.all AC.fT
def Se (st:AS)(x:Operand):ar (AV×AS):=
 match st.rd x with
 | .val g cs=>
   match K4 0 cs with
   |some (r,j)=>
    match st.th r with
    |some C8=>
     match md cs ((C8.drop (r.pos-j)).take cs.length)with
     |some mr=>some (.val g mr,st.pc r (cY C8 (r.pos-j) (aR st.ep ((C8.drop (r.pos-j)).take cs.length))))
     |none=>none
    |none=>none
   |none=>none
 |_=>none
def Rb (o:Oper)(x:Operand)(st:AS)(K:AS->ar R):ar R:=
 match Se st x with
 |some (v,st')=>K (st'.put o.dst v)
 |none=>none
def xz (T:TypeId)(p x:Operand)(st:AS)(K:AS->ar R):ar R:=
 match iC E.ty T,st.rd p with
 |some sh,.val false [.ptr s off]=>
  match Se st x with
  |some (.val _ vs,st')=>
   match (nth st'.boxes s).getD none with
   |some cs=>
    if vs.length=sh.ct.size/\vs.all AC.Kq then
     if off+sh.ct.size<=cs.length then K (st'.eh s (some (cY cs off vs))) else none
    else none
   |none=>none
  |_=>none
 |_,_=>none
def Rm (o:Oper)(f:Nat)(g:Bool)(cs:aq AC)(xs:aq Operand)(st:AS)(K:AS->ar R):ar R:=
 match cs with
 |[.sl (.nest ep r t en i off) _ _]=>
  match st.th r with
  |some C8=>
   match (C8.drop r.pos).take 1 with
   |[.sl (.own (some t')) e ys]=>
    bif (ep==st.ep)&&(t'==t)&&(en.size==e.size)&&xs.all (λx=>(st.rd x).fT) then
     aa (idx ys i) λx=>
      match ((cellsOf e (.own none) x).drop off).take 1 with
      |[.sl (.own _) e2 zs]=>
       aa ((Γ f).fn (.val g [.sl (.own none) e2 zs]::xs.map st.rd)) λy=>
        match (Γ f).back y with
        |[.sl (.own _) e3 zs']=>
         match iy e (cY (cellsOf e (.own none) x) off [.sl (.own none) e3 zs'])with
         |some (x',[])=>bif ((Γ f).av y).fT then K ({st.pc r (cY C8 r.pos [.sl (.own (some t)) e (ys.set i.toNat x')])with ep:=st.ep+1}.put o.dst ((Γ f).av y)) else none
         |_=>none
        |_=>none
      |_=>none
    else none
   |_=>none
  |none=>none
 |_=>none
def ioC (o:Oper)(f:Nat)(args:aq Operand)(st:AS)(K:AS->ar R):ar R:=
 match args with
 |x0::xs=>
  match st.rd x0 with
  | .val g cs=>
    match K4 0 cs with
    |some (r,j)=>
     match st.th r with
     |some C8=>
      match md cs ((C8.drop (r.pos-j)).take cs.length)with
      |some mr=>
       bif xs.all (λx=>(st.rd x).fT) then
        aa ((Γ f).fn (.val g mr::xs.map st.rd)) λy=>
         match CL cs ((C8.drop (r.pos-j)).take cs.length) ((Γ f).back y)with
         |some seg=>bif ((Γ f).av y).fT then K ({st.pc r (cY C8 (r.pos-j) seg)with ep:=st.ep+1}.put o.dst ((Γ f).av y)) else none
         |none=>none
       else none
      |none=>none
     |none=>none
    |none=>Rm Γ o f g cs xs st K
  |_=>none
 |[]=>none
def AC.strip:AC->AC
 | .sl (.own _) e xs=> .sl (.own none) e xs
 | .sl (.loc _ _) _ _=> .bot
 | .sl (.nest ..) _ _=> .bot
 | .sl (.part ..) _ _=> .bot
 | .sl (.eS _ i _) e xs=> .sl (.eS none i none) e xs
 | .ptr _ _=> .bot
 | .Cg _ _ _ _ _=> .bot
 |c=>c
def AC.XW:AC->Bool
 | .sl (.own _) _ _=>true
 |c=>c.fT
def AC.zR (k:Bool):AC->Bool
 | .sl (.own _) _ _=>true
 | .sl (.arg k') _ _=>k'==k
 |c=>c.fT
def AC.Tw:AC->AC
 | .sl (.own _) e xs=> .sl (.own none) e xs
 | .sl (.arg _) e xs=> .sl (.arg true) e xs
 |c=>c.strip
def AC.agU (k:Bool)(tag:ar Nat):AC->AC
 | .sl (.own _) e xs=> .sl (.own tag) e xs
 | .sl (.arg _) e xs=> .sl (.arg k) e xs
 |c=>c
def oJ (k:Bool)(mk:Nat->ar Nat):Nat->aq AC->aq AC
 |_,[]=>[]
 |j,c::cs=>c.agU k (mk j)::oJ k mk (j+1) cs
def Fk (cs:aq AC):Bool:=cs.any λc=>match c with| .sl (.arg k) _ _=>k|_=>false
def AC.KV:AC->Bool
 | .sl (.arg k) _ _=> !k
 |c=>c.fT
def AV.KV:AV->Bool
 | .val _ cs=>cs.all AC.KV
 | .uT _=>false
def AS.P7 (st:AS):AC->AC
 | .sl (.own _) e xs=> .sl (.arg false) e xs
 | .sl (.arg _) e xs=> .sl (.arg false) e xs
 | .sl (.loc _ (some (.slot b j,t))) _ _=>match st.eF (.slot b j)with
   |some (.sl (.own (some t')) e' ys)=>if t'=t then .sl (.arg false) e' ys else .bot
   |_=> .bot
 | .int k n=> .int k n
 | .bool b=> .bool b
 | .str s=> .str s
 | .fn f=> .fn f
 |_=> .bot
def CF (st:AS):Operand->AV
 | .tmp t=>(match st.get t with| .val g cs=> .val g (cs.map st.P7)|v=>v)
 |x=>st.rd x
def DD (st:AS):Operand->Bool
 | .tmp t=>(match st.get t with| .val _ cs=>(cs.map st.P7).all AC.KV|_=>false)
 |x=>(st.rd x).fT
def AC.abt:AC->Bool
 | .sl (.own _) _ _=>true
 |c=>c.fT
def AV.abt:AV->Bool
 | .val _ cs=>cs.all AC.abt
 | .uT vs=>vs.all λx=>x.2.all AC.abt
def Za (st:AS)(s:Nat)(cs:aq AC):AS:={(st.eh s (some cs)).eX (some s)with ep:=st.ep+1}
def uX (o:Oper)(f:Nat)(args:aq Operand)(st:AS)(K:AS->ar R):ar R:=
 match args with
 |x0::xs=>
  match st.rd x0 with
  | .val false [.ptr s 0]=>
    match (nth st.boxes s).getD none with
    |some cs=>
     bif cs.all (AC.zR (Fk cs))&&xs.all (DD st) then
      aa ((Γ f).fn (.val true (cs.map AC.Tw)::xs.map (CF st))) λy=>
       bif ((Γ f).back y).all (AC.zR true)&&((Γ f).av y).abt then
        bif (Γ f).cur&&cs.all AC.Jo then
         K (((st.eh s (some (oJ (Fk cs) (λ_=>none) 0 ((Γ f).back y)))).eX o.dst).put o.dst (((Γ f).av y).Fl st.ep (st.gV o.dst)))
        else
        K (((Za st s (oJ (Fk cs) (st.gV (some s)) 0 ((Γ f).back y))).eX o.dst).put o.dst
          (((Γ f).av y).Fl (st.ep+1) ((Za st s (oJ (Fk cs) (st.gV (some s)) 0 ((Γ f).back y))).gV o.dst)))
       else none
     else none
    |none=>none
  |_=>none
 |[]=>none
def abu (o:Oper)(f:Nat)(args:aq Operand)(st:AS)(K:AS->ar R):ar R:=
 match o.dst with
 |some d=>
  match nth st.boxes d with
  |some none=>
   bif args.all (λx=>(st.rd x).KV) then
    aa ((Γ f).fn (args.map st.rd)) λy=>
     bif ((Γ f).back y).all AC.KV then K ((st.eh d (some ((Γ f).back y))).put (some d) (.one (.ptr d 0))) else none
   else none
  |_=>none
 |none=>none
def Fm (o:Oper)(f:Operand)(args:aq Operand)(st:AS)(K:AS->ar R):ar R:=
 match st.rd f with
 | .val false [.fn f]=>
   bif (Γ f).bx then uX Γ o f args st K else
   bif (Γ f).pr then abu Γ o f args st K else
   bif (Γ f).io then ioC Γ o f args st K
   else aa ((Γ f).fn (args.map λx=>((st.rd x).fresh st).asArg st.ep)) λr=>cond ((Γ f).sel r) (K ((st.eX o.dst).put o.dst (((Γ f).av r).Fl st.ep (st.gV o.dst)))) (K ((st.eX o.dst).put o.dst (((Γ f).alt r).Fl st.ep (st.gV o.dst))))
 |_=>none
def Fp {R:Type}(op:BinOp)(b:Bool)(K:AC->ar R):ar R:=
 match op with
 | .eql=>K (.bool b)
 | .neq=>K (.bool (!b))
 |_=>none
def Cb (o:Oper)(op:BinOp)(T:TypeId)(x y:Operand)(st:AS)(K:AS->ar R):ar R:=
 match st.rd x,st.rd y with
 | .val false [.bool a],.val false [.bool b]=>if E.bool T then HL op (.one (.bool a)) (.one (.bool b)) λc=>K (st.put o.dst (.one c)) else none
 | .val true xs,.val true ys=>match Re E.eqs T with
   |some ls=>if fits ls xs then HL op (.val true xs) (.val true ys) λc=>K (st.put o.dst (.one c)) else none
   |none=>none
 | .val false [.sl fl _ xs],.val false [.jd]=>if(E.sl T).isSome/\fl.live st.ep then(if xs.length=0 then none else Fp op false λc=>K (st.put o.dst (.one c))) else none
 | .val false [.jd],.val false [.jd]=>if(E.sl T).isSome then Fp op true λc=>K (st.put o.dst (.one c)) else none
 |a,b=>HL op a b λc=>K (st.put o.dst (.one c))
def cO (o:Oper)(st:AS)(K:AS->ar R):ar R:=
 match o.op with
 | .move x=>DH an o x st K
 | .assign x=>if Bx an o then Rb o x st K else uW E an o x st K
 | .pick c a b=>GD o c a b st K
 | .alloc T=>D5 E o T st K
 | .box _ x=>Sa o x st K
 | .load T p=>oz E an o T p st K
 | .store T p x=>match o.dst with|none=>(if Bx an o then xz E T p x st K else xy E T p x st K)|some _=>none
 | .nilCheck x=>
   match st.rd x with
   | .val false [.ptr s off]=>K (st.put o.dst (.one (.ptr s off)))
   | .val false [.Cg fl e y i off]=>K (st.put o.dst (.one (.Cg fl e y i off)))
   |_=>none
 | .binOp op T x y _=>Cb E o op T x y st K
 | .unOp op _ x=>unC op (st.rd x) λc=>K (st.put o.dst (.one c))
 | .fieldAddr S p f=>Bk E o S p f st K
 | .indexAddr T x i=>lY E o T x i st K
 | .index T x i=>CW E o T x i st K
 | .build T parts=>CP E o T parts.toList st K
 | .buildSlice T len parts=>kX E o T len parts.toList st K
 | .makeSlice T n c=>nS E o T n c st K
 | .slice T x lo hi none=>BW E an o T x lo hi st K
 | .field S (.tmp t) f=>Hb E o S t f st K
 | .call {callee:=.builtin .copy,args,argTypes}=>QB E o argTypes.toList args.toList st K
 | .convert src dst x=>la E o src dst x st K
 | .extract (.tmp t) i=>lf o t i st K
 | .call {callee:=.builtin .len,args,argTypes}=>Ox E o argTypes.toList args.toList st K
 | .call {callee:=.builtin .min,args,..}=>Qa o args.toList st K
 | .call {callee:=.builtin .max,args,..}=>P9 o args.toList st K
 | .call {callee:=.builtin .append,args,argTypes}=>xC E o argTypes.toList args.toList st K
 | .call {callee:=.value f,args,..}=>Fm Γ o f args.toList st K
 |_=>none
def gh (ops:aq Oper)(o:Oper)(st:AS)(K:AS->ar R):ar R:=
 match o.guard with
 |none=>cO E Γ an o st K
 |some (j,Ji)=>
  match (nth ops j).bind (·.dst)with
  |some d=>
   match st.get d with
   | .val false [.bool b]=>
     let go (t:Bool):ar R:=
      if t==Ji then cO E Γ an o (st.put (some d) (.one (.bool t))) K else K ((st.put (some d) (.one (.bool t))).put o.dst (.one .un))
     cond b (go true) (go false)
   | .val false [.un]=>K (st.put o.dst (.one .un))
   |_=>none
  |none=>none
def S2 (ops:aq Oper):aq Oper->AS->(AS->ar R)->ar R
 |[],st,K=>K st
 |o::r,st,K=>gh E Γ an ops o st λst'=>S2 ops r st' K
def du:Code->Nat
 | .region id _ _=>id
 | .seq a _=>du a
 | .block _ c=>du c
 | .loop c=>du c
 | .cond _ a b=>match du a with|0=>du b|n=>n
 |_=>0
def xl (c:Code):Nat:=1000000+2*du c
def jU (l:dy):Code->aq Code
 | .seq a b=>jU l a++(bif l.contains (du b) then b::jU l b else jU l b)
 | .cond _ a b=>jU l a++jU l b
 | .block _ c=>jU l c
 | .loop c=>jU l c
 |_=>[]
def Cd (l:dy)(fn:Func)(k:Nat):Code:=(nth (jU l (fn.body.getD .skip)) k).getD .skip
def gY:Code->aq Code
 | .seq a b=>gY a++gY b
 | .cond _ a b=>gY a++gY b
 | .block _ c=>gY c
 | .loop c=>c::gY c
 |_=>[]
def fU (fn:Func)(k:Nat):Code:=(nth (gY (fn.body.getD .skip)) k).getD .skip
def Ao (j:Nat):Nat:=3*(4096*1000003+j)
def jR.GS:jR->ar Nat
 | .slot s j=>bif Nat.ble 4096 j then none else bif Nat.ble 1000000 s then none else some (3*(4096*s+j))
 | .box s j=>bif Nat.ble 4096 j then none else some (3*(4096*s+j)+1)
 | .io j=>bif Nat.ble 4096 j then none else some (Ao j)
def AC.adX (io:aq AC)(j t:Nat)(e:CT):ar (aq e.D):=
 match nth io j with
 |some (.sl (.own (some t')) e' ys)=>if h:e'=e then bif t'==t then some (h▸ys) else none else none
 |_=>none
def AC.mask (keep:dy)(ep:Nat)(io:aq AC)(rt:jR):AC->AC
 | .ptr s off=>if keep.contains s then .ptr s off else .bot
 | .sl (.loc e pv) t xs=>
   match pv with
   |some (.io j,n)=>match AC.adX io j n t with
    |some ys=> .sl (.loc 0 ((jR.GS (.io j)).map λq=>(.io j,q))) t ys
    |none=>if e==ep then .sl (.loc 0 none) t xs else .bot
   |_=>if e==ep then .sl (.loc 0 none) t xs else .bot
 | .sl (.own _) t xs=> .sl (.own rt.GS) t xs
 | .sl (.nest ..) _ _=> .bot
 | .sl (.part ..) _ _=> .bot
 | .sl (.eS _ i _) e xs=> .sl (.eS none i none) e xs
 | .Cg _ _ _ _ _=> .bot
 |c=>c
def Lj (keep:dy)(ep:Nat)(io:aq AC)(f:Nat->jR):Nat->aq AC->aq AC
 |_,[]=>[]
 |j,c::cs=>c.mask keep ep io (f j)::Lj keep ep io f (j+1) cs
def AV.mask (keep:dy)(ep:Nat)(io:aq AC)(s:Nat):AV->AV
 | .val g cs=> .val g (Lj keep ep io (.slot s) 0 cs)
 | .uT _=> .bot
def nq (keep:dy)(ep:Nat)(io:aq AC):Nat->aq AV->aq AV
 |_,[]=>[]
 |i,v::r=>(if keep.contains i then v.mask keep ep io i else .bot)::nq keep ep io (i+1) r
def np (keep:dy)(ep:Nat)(io:aq AC):Nat->aq (ar (aq AC))->aq (ar (aq AC))
 |_,[]=>[]
 |i,b::r=>(if keep.contains i then b.map (Lj keep ep io (.box i) 0) else none)::np keep ep io (i+1) r
def X7 (keep:dy):Nat->aq AC->aq AC
 |_,[]=>[]
 |j,c::cs=>(match c with| .sl (.own _) e xs=> .sl (.own (jR.GS (.io j))) e xs| .sl (.eS _ i _) e xs=> .sl (.eS none i none) e xs| .ptr s off=>if keep.contains s then .ptr s off else .bot|c=>bif c.fT then c else .bot)::X7 keep (j+1) cs
def AS.mask (keep:dy)(st:AS):AS:=
 ⟨nq keep st.ep st.io 0 st.slots,np keep st.ep st.io 0 st.boxes,0,List.replicate st.slots.length false,X7 keep 0 st.io⟩
def getBool (st:AS)(s:Nat):ar Bool:=
 match st.get s with
 | .val false [.bool b]=>some b
 |_=>none
def gp (an:An)(ds:dy)(o:Oper):Bool:=
 match o.op with
 | .assign (.const _)=> !Bx an o
 | .assign (.tmp t)=>ds.contains t&& !Bx an o
 | .move _| .load ..=>match o.dst with|some d=> !an.mv.contains d|none=>false
 | .slice ..=> !GY an o
 | .pick ..| .binOp ..| .unOp ..| .fieldAddr ..| .indexAddr ..| .index ..| .nilCheck _=>true
 | .build _ ps=>ps.isEmpty
 | .call {callee:=.builtin .len,..}| .call {callee:=.builtin .min,..}| .call {callee:=.builtin .max,..}=>true
 | .call {callee:=.value _,..}=>true
 |_=>false
def IH (ops:aq Oper):dy:=ops.filterMap (·.dst)
def AS.Cf (st:AS):dy->AS
 |[]=>st
 |d::r=>((st.put (some d) .bot).eX (some d)).Cf r
def HW (ops:aq Oper)(A:aq dy):Nat->aq Oper->AS->(AS->ar R)->ar R
 |_,[],st,K=>K st
 |i,o::r,st,K=>bif dj E an (sE an A i 0 ops) o st then gh E Γ an ops o st λst'=>HW ops A (i+1) r st' K else none
def F7 (ops:aq Oper)(draw:Bool)(st:AS)(K:AS->ar R):ar R:=
 bif draw then(bif Ue an ops then HW E Γ.Je an ops (TV ops []) 0 ops st K else none) else S2 E Γ an ops ops st K
def Tb (id:Nat)(ops:aq Oper)(draw:Bool)(st:AS)(K:AS->ar R):ar R:=
 match an.merge id with
 |none=>F7 E Γ an ops draw st K
 |some s=>
  if ops.all (gp an (IH ops)) then
   aa (F7 E Γ.calm an ops draw st λst'=>getBool st' s) λb=>K ((st.Cf (IH ops)).put (some s) (.one (.bool b)))
  else none
def zV (key:dy)(B:AS->(Ex->AS->ar R)->ar R):Nat->AS->(Ex->AS->ar R)->ar R
 |0,_,_=>none
 |m+1,st,K=>B st λe st'=>
  match e with
  | .normal=>zV key B m (st'.mask key) K
  |e=>K e (st'.mask key)
def den (Λ:F0):Code->AS->(Ex->AS->ar R)->ar R
 | .skip,st,K=>K .normal st
 | .region id ops draw,st,K=>Tb E Γ an id ops.toList draw st (K .normal)
 | .seq a b,st,K=>den Λ a st λe st'=>match e with
   | .normal=>bif an.cut.contains (du b) then(Λ (xl b)).go (st'.mask (an.mask (xl b))) K else den Λ b st' K
   |e=>K e st'
 | .cond c a b,st,K=>
   match st.rd c with
   | .val false [.bool t]=>cond t (den Λ a st K) (den Λ b st K)
   |_=>none
 | .block id c,st,K=>den Λ c st λe st'=>
   match e with
   | .exit j=>if j==id then K .normal st' else K (.exit j) st'
   |e=>K e st'
 | .loop c,st,K=>
   bif an.aiJ.contains (du c) then den Λ c (st.mask (an.mask (du c))) λe st'=>
    match e with
    | .normal=>(Λ (du c)).go (st'.mask (an.mask (du c))) K
    |e=>K e (st'.mask (an.mask (du c)))
   else(Λ (du c)).go (st.mask (an.mask (du c))) K
 | .exit id,st,K=>K (.exit id) st
 | .ret,st,K=>K .ret st
 |_,_,_=>none
end
def OX (st:AS)(E:Env):ResultVar->ar ((Bool×Nat)×Bool×aq AC)
 | .tmp t=>match st.get t with| .val g cs=>some ((false,t),g,cs.map AC.strip)|_=>none
 | .cell t T=>match iC E.ty T,st.get t with
   |some sh,.val false [.ptr s off]=>((nth st.boxes s).getD none).bind λcs=>
    if off+sh.ct.size<=cs.length then some ((true,s),sh.agg,((cs.drop off).take sh.ct.size).map AC.strip) else none
   |_,_=>none
def nU (st:AS)(E:Env):aq (Bool×Nat)->aq ResultVar->ar (aq (Bool×aq AC))
 |_,[]=>some []
 |had,r::rs=>(OX st E r).bind λx=>if had.contains x.1 then none else(nU st E (x.1::had) rs).bind λxs=>some (x.2::xs)
def results (E:Env)(rs:aq ResultVar)(st:AS):ar AV:=
 match nU st E [] rs with
 |some [(g,cs)]=>some (.val g cs)
 |some vs=>some (.uT vs)
 |none=>none
def nG (fn:Func)(args:aq AV):AS:=⟨args++List.replicate (fn.ntmps-args.length) .bot,List.replicate (args.length+(fn.ntmps-args.length)) none,0,List.replicate fn.ntmps false,[]⟩
abbrev hY:aq (Bool×FT)->Type
 |[]=>Unit
 |[(_,t)]=>t.ct.D
 |(_,t)::r=>t.ct.D×hY r
def jB:(l:aq (Bool×FT))->aq (Bool×aq AC)->ar (hY l)
 |[],[]=>some ()
 |[(g,t)],[(g',cs)]=>bif g==g' then(match M4 t cs with|some (x,[])=>some x|_=>none) else none
 |(g,t)::p::r,(g',cs)::vs=>bif g==g' then(match M4 t cs with|some (x,[])=>(jB (p::r) vs).bind λy=>some (x,y)|_=>none) else none
 |_,_=>none
def ahL:(l:aq (Bool×FT))->hY l->aq (Bool×aq AC)
 |[],_=>[]
 |[(g,t)],x=>[(g,iH t x)]
 |(g,t)::p::r,x=>(g,iH t x.1)::ahL (p::r) x.2
def xj (l:aq (Bool×FT))(x:hY l):AV:=
 match ahL l x with
 |[(g,cs)]=> .val g cs
 |vs=> .uT vs
def F8 (E:Env)(Γ:xf)(an:An)(Λ:F0)(fn:Func)(rs:aq (Bool×FT))(args:aq AV):ar (hY rs):=
 match fn.body with
 |some c=>if args.length=fn.params.size then den E Γ an Λ c (nG fn args) λe st=>
  match e with
  | .exit _=>none
  |_=>aa (nU st E [] fn.results.toList) (jB rs)
  else none
 |none=>none
def evalAlt (E:Env)(Γ:xf)(an:An)(Λ:F0)(fn:Func)(rs MI:aq (Bool×FT))(h:hY MI=hY rs)(args:aq AV):ar (Bool×hY rs):=
 match fn.body with
 |some c=>if args.length=fn.params.size then den E Γ an Λ c (nG fn args) λe st=>
  match e with
  | .exit _=>none
  |_=>aa (nU st E [] fn.results.toList) λys=>
   match jB rs ys with
   |some y=>some (true,y)
   |none=>match jB MI ys with
    |some y=>some (false,cast h y)
    |none=>none
  else none
 |none=>none
def XV:Nat->aq AC->aq AC
 |_,[]=>[]
 |j,.sl _ e xs::cs=> .sl (.own (some (Ao j))) e xs::XV (j+1) cs
 |j,c::cs=>c::XV (j+1) cs
def Bw:Nat->aq AC->aq AC
 |_,[]=>[]
 |j,.sl _ e xs::cs=> .sl (.loc 0 (some (.io j,Ao j))) e xs::Bw (j+1) cs
 |j,c::cs=>c::Bw (j+1) cs
def HF (fn:Func)(g:Bool)(cs:aq AC)(args:aq AV):AS:={nG fn (.val g (Bw 0 cs)::args)with io:=XV 0 cs}
def Xn (E:Env)(Γ:xf)(an:An)(Λ:F0)(fn:Func)(rs:aq (Bool×FT))(t:CT)(args:aq AV):ar (hY rs×t.D):=
 match fn.body,args with
 |some c,.val g cs::xs=>if xs.length+1=fn.params.size/\cs.all AC.XW=true then den E Γ an Λ c (HF fn g cs xs) λe st=>
  match e with
  | .exit _=>none
  |_=>aa (aa (nU st E [] fn.results.toList) (jB rs)) λr=>
   match iy t st.io with
   |some (x,[])=>some (r,x)
   |_=>none
  else none
 |_,_=>none
def Js:Nat->aq AC->aq AC
 |_,[]=>[]
 |j,.sl (.own _) e xs::cs=> .sl (.own (some (3*j+1))) e xs::Js (j+1) cs
 |j,c::cs=>c::Js (j+1) cs
def BZ (fn:Func)(cs:aq AC)(args:aq AV):AS:=
 {nG fn (.one (.ptr 0 0)::args)with boxes:=some (Js 0 cs)::List.replicate (args.length+(fn.ntmps-(args.length+1))) none,io:=[.ptr 0 0]}
def Sn (E:Env)(Γ:xf)(an:An)(Λ:F0)(fn:Func)(rs:aq (Bool×FT))(t:FT)(args:aq AV):ar (hY rs×t.ct.D):=
 match fn.body,args with
 |some c,.val true cs::xs=>if xs.length+1=fn.params.size/\cs.all (AC.zR true)=true then den E Γ an Λ c (BZ fn cs xs) λe st=>
  match e with
  | .exit _=>none
  |_=>aa (aa (nU st E [(true,0)] fn.results.toList) (jB rs)) λr=>
   match st.io,st.boxes with
   |[.ptr 0 0],some mr::_=>match M4 t (mr.map AC.strip)with
    |some (x,[])=>some (r,x)
    |_=>none
   |_,_=>none
  else none
 |_,_=>none
def MW (E:Env)(Γ:xf)(an:An)(Λ:F0)(fn:Func)(t:FT)(args:aq AV):ar t.ct.D:=
 match fn.body with
 |some c=>if args.length=fn.params.size then den E Γ an Λ c (nG fn args) λe st=>
  match e with
  | .exit _=>none
  |_=>match fn.results.toList with
   |[.tmp i]=>match st.get i with
    | .val false [.ptr s 0]=>match (nth st.boxes s).getD none with
      |some cs=>if cs.all AC.KV=true then(match M4 t (cs.map AC.strip)with|some (x,[])=>some x|_=>none) else none
      |none=>none
    |_=>none
   |_=>none
  else none
 |none=>none
end Go.Dn
