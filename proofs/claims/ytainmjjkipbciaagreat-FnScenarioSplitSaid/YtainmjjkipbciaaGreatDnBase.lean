import Derived.Test.YtainmjjkipbciaaGreatDnData
/- An abstract, heap-free semantics of the model's code, for functions that treat their data by value: definitions. -/
namespace Go.Dn
inductive jW where
 |slot (s j:Nat)|box (s j:Nat)|io (j:Nat)
 deriving DecidableEq
inductive pj where
 |own (tag:Option Nat)
 |loc (ep:Nat) (pv:Option (jW×Nat))
 |arg (k:Bool)
 |nest (ep:Nat) (r:jW) (t:Nat) (e:CT) (i:Int) (off:Nat)
 |part (ep:Nat) (r:jW) (t:Nat) (lo:Int)
 |fa (tag:Option Nat) (i:Int) (ep:Option Nat)
inductive AC where
 |int (k:IntKind) (n:Int)|bool (b:Bool)|str (s:List UInt8)
 |sl (fl:pj) (e:CT) (xs:List e.D)
 |jn
 |ptr (s off:Nat)
 |zk (fl:pj) (e:CT) (x:e.D) (i:Int) (off:Nat)
 |fn (f:Nat)
 |un
 |bot
inductive AV where
 |val (agg:Bool) (cs:List AC)
 |uw (vs:List (Bool×List AC))
abbrev AV.one (c:AC):AV:=.val false [c]
abbrev AV.bot:AV:=.val false [.bot]
structure AS where
 slots:List AV
 boxes:List (Option (List AC))
 ep:Nat
 iss:List Bool
 io:List AC
structure Shape where
 agg:Bool
 ct:CT
 jv:List (Nat×Nat):=[]
structure An where
 mask:Nat->List Nat:=λ_=>[]
 merge:Nat->Option Nat:=λ_=>none
 mv:List Nat:=[]
 nest:List Nat:=[]
 mb:Nat->Option Nat:=λ_=>none
 sb:Nat->Option Nat:=λ_=>none
 late:List Nat:=[]
 peel:List Nat:=[]
 nils:List Nat:=[]
 fm:List Nat:=[]
 eb:Nat->Option Nat:=λ_=>none
 es:Nat->Option Nat:=λ_=>none
 er:Nat->Option Nat:=λ_=>none
 cut:List Nat:=[]
def cellsOf:(t:CT)->pj->t.D->aw AC
 | .int k,_,n=>[.int k n]
 | .bool,_,b=>[.bool b]
 | .str,_,s=>[.str s]
 | .sl e,fl,xs=>[.sl fl e xs]
 | .pair a b,fl,x=>cellsOf a fl x.1++cellsOf b fl x.2
def kD:(t:CT)->aw AC->ax (t.D×aw AC)
 | .int k,.int k' n::r=>if k'=k then some (n,r) else none
 | .bool,.bool b::r=>some (b,r)
 | .str,.str s::r=>some (s,r)
 | .sl e,.sl (.own _) e' xs::r=>if h:e'=e then some (h▸xs,r) else none
 | .sl _,.jn::r=>some ([],r)
 | .pair a b,cs=>(kD a cs).bind λx=>(kD b x.2).bind λy=>some ((x.1,y.1),y.2)
 |_,_=>none
def nth {α:Type}:aw α->Nat->ax α
 |[],_=>none
 |a::_,0=>some a
 |_::l,n+1=>nth l n
def gK {α:Type}:aw α->Nat->α->aw α
 |[],_,_=>[]
 |_::l,0,v=>v::l
 |a::l,n+1,v=>a::gK l n v
def AS.get (st:AS)(i:Nat):AV:=(nth st.slots i).getD .bot
def AS.put (st:AS)(d:ax Nat)(v:AV):AS:=
 match d with
 |some d=>{st with slots:=gK st.slots d v}
 |none=>st
def F9 (d j:Nat):Nat:=3*(4096*d+j)+2
def AS.gR (st:AS)(d:ax Nat)(j:Nat):ax Nat:=
 match d with
 |some d=>bif (nth st.iss d).getD true then none else bif Nat.ble 4096 j then none else some (F9 d j)
 |none=>none
def AS.fi (st:AS)(d:ax Nat):AS:=
 match d with
 |some d=>{st with iss:=gK st.iss d true}
 |none=>st
def AS.oE (st:AS)(d:ax Nat)(e:CT)(xs:aw e.D):AS:=
 (st.fi d).put d (.one (.sl (.own (st.gR d 0)) e xs))
def AC.borrow (ep:Nat)(rt:ax jW):AC->AC
 | .sl (.own tag) e xs=> .sl (.loc ep (match rt,tag with|some r,some t=>some (r,t)|_,_=>none)) e xs
 | .sl (.fa tag _ (some JT)) e xs=> .sl (.loc JT (match rt,tag with|some r,some t=>some (r,t)|_,_=>none)) e xs
 | .sl (.fa _ _ none) _ _=> .bot
 |c=>c
def ic (ep:Nat)(f:Nat->jW):Nat->aw AC->aw AC
 |_,[]=>[]
 |j,c::cs=>c.borrow ep (some (f j))::ic ep f (j+1) cs
def aQ (ep:Nat)(cs:aw AC):aw AC:=cs.map (AC.borrow ep none)
def AV.borrow (ep:Nat)(f:Nat->jW):AV->AV
 | .val g cs=> .val g (ic ep f 0 cs)
 | .uw vs=> .uw (vs.map λx=>(x.1,aQ ep x.2))
def AV.aQ (ep:Nat):AV->AV
 | .val g cs=> .val g (Dn.aQ ep cs)
 | .uw vs=> .uw (vs.map λx=>(x.1,Dn.aQ ep x.2))
def ofConst:Value->AV
 | .int k n=> .one (.int k n)
 | .bool b=> .one (.bool b)
 | .string s=> .one (.str s.data.toList)
 | .slice none 0 0=> .one .jn
 |_=> .bot
def AS.rd (st:AS):Operand->AV
 | .tmp t=>(st.get t).borrow st.ep (.slot t)
 | .const v=>ofConst v
 | .func f=> .one (.fn f)
 | .global _=> .bot
def AS.take (st:AS):Operand->AV×AS
 | .tmp t=>(st.get t,st.put (some t) ((st.get t).aQ st.ep))
 |x=>(st.rd x,st)
def AS.eD (st:AS)(s:Nat)(b:ax (aw AC)):AS:={st with boxes:=gK st.boxes s b}
def AC.asArg (ep:Nat):AC->AC
 | .int k n=> .int k n
 | .bool b=> .bool b
 | .str s=> .str s
 | .sl (.own _) e xs=> .sl (.arg false) e xs
 | .sl (.loc ep' _) e xs=>if ep'==ep then .sl (.arg false) e xs else .bot
 | .sl (.arg _) e xs=> .sl (.arg false) e xs
 | .jn=> .jn
 | .fn f=> .fn f
 |_=> .bot
def AV.asArg (ep:Nat):AV->AV
 | .val g cs=> .val g (cs.map (AC.asArg ep))
 | .uw _=> .bot
def AC.Br (ep:Nat)(tag:ax Nat):AC->AC
 | .sl (.own _) e xs=> .sl (.own tag) e xs
 | .sl (.arg _) e xs=> .sl (.loc ep none) e xs
 | .sl (.loc _ _) _ _=> .bot
 | .sl (.nest ..) _ _=> .bot
 | .sl (.part ..) _ _=> .bot
 | .sl (.fa _ i _) e xs=> .sl (.fa none i none) e xs
 | .ptr _ _=> .bot
 | .zk _ _ _ _ _=> .bot
 |c=>c
def FW (ep:Nat)(mk:Nat->ax Nat):Nat->aw AC->aw AC
 |_,[]=>[]
 |j,c::cs=>c.Br ep (mk j)::FW ep mk (j+1) cs
def VV (ep:Nat)(mk:Nat->ax Nat):Nat->aw (Bool×aw AC)->aw (Bool×aw AC)
 |_,[]=>[]
 |j,t::ts=>(t.1,FW ep mk j t.2)::VV ep mk (j+t.2.length) ts
def AV.Br (ep:Nat)(mk:Nat->ax Nat):AV->AV
 | .val g cs=> .val g (FW ep mk 0 cs)
 | .uw vs=> .uw (VV ep mk 0 vs)
def AC.EV:AC->Bool
 | .sl (.arg _) _ _=>true
 | .int ..=>true
 | .bool _=>true
 | .str _=>true
 | .fn _=>true
 |_=>false
structure bg where
 R:Type
 fn:List AV->Option R
 av:R->AV
 io:Bool:=false
 back:R->List AC:=λ_=>[]
 bx:Bool:=false
 pr:Bool:=false
 sel:R->Bool:=λ_=>true
 alt:R->AV:=λ_=> .val false [.bot]
 cur:Bool:=false
 hcur:cur=true->∀y,(back y).all AC.EV=true:=by intro h;cases h
def bg.res (F:bg)(y:F.R):AV:=cond (F.sel y) (F.av y) (F.alt y)
abbrev fy:=Nat->bg
def bg.dead:bg:={R:=Unit,fn:=λ_=>none,av:=λ_=> .val false [.bot]}
def fy.calm (Γ:fy):fy:=λf=>bif (Γ f).io||(Γ f).bx||(Γ f).pr then bg.dead else Γ f
def fy.EE (Γ:fy):fy:=λf=>bif (Γ f).io||(Γ f).pr||((Γ f).bx&& !(Γ f).cur) then bg.dead else Γ f
def FB {R:Type}(op:BinOp)(k:IntKind)(x y:Int)(K:AC->ax R):ax R:=
 match op with
 | .add=>K (.int k (k.wrap (x+y)))
 | .sub=>K (.int k (k.wrap (x-y)))
 | .mul=>K (.int k (k.wrap (x*y)))
 | .quo=>if y=0 then none else K (.int k (k.wrap (x.tdiv y)))
 | .rem=>if y=0 then none else K (.int k (x.tmod y))
 | .and=>K (.int k (k.wrap (BitVec.ofInt k.bits x&&&BitVec.ofInt k.bits y).toNat))
 | .or=>K (.int k (k.wrap (BitVec.ofInt k.bits x|||BitVec.ofInt k.bits y).toNat))
 | .xor=>K (.int k (k.wrap (BitVec.ofInt k.bits x^^^BitVec.ofInt k.bits y).toNat))
 | .andNot=>K (.int k (k.wrap (BitVec.ofInt k.bits x&&&~~~ BitVec.ofInt k.bits y).toNat))
 | .eql=>K (.bool (x==y))
 | .neq=>K (.bool (x !=y))
 | .lss=>K (.bool (decide (x<y)))
 | .leq=>K (.bool (decide (x<=y)))
 | .gtr=>K (.bool (decide (x>y)))
 | .geq=>K (.bool (decide (x>=y)))
 |_=>none
def H6 {R:Type}(op:BinOp)(x y:aw UInt8)(K:AC->ax R):ax R:=
 match op with
 | .add=>room (x.length+y.length) (K (.str (x++y)))
 | .eql=>K (.bool (x==y))
 | .neq=>K (.bool (!(x==y)))
 | .lss=>K (.bool (Op.bytesLess x y))
 | .leq=>K (.bool (Op.bytesLess x y||x==y))
 | .gtr=>K (.bool (!(Op.bytesLess x y||x==y)))
 | .geq=>K (.bool (!(Op.bytesLess x y)))
 |_=>none
def td:aw AC->aw AC->ax Bool
 |[],[]=>some true
 | .int k x::r,.int k' y::r'=>if k=k' then(td r r').bind λb=>some ((x==y)&&b) else none
 | .bool x::r,.bool y::r'=>(td r r').bind λb=>some ((x==y)&&b)
 | .str x::r,.str y::r'=>(td r r').bind λb=>some ((x==y)&&b)
 |_,_=>none
def Dq {R:Type}(op:BinOp)(x y:AV)(K:AC->ax R):ax R:=
 match x,y with
 | .val false [.int k a],.val false [.int k' b]=>
   match op with
   | .shl=>if b<0 then none else K (.int k (k.wrap (a*2^(min b.toNat k.bits))))
   | .shr=>if b<0 then none else K (.int k (a.fdiv (2^(min b.toNat k.bits))))
   |_=>if k=k' then FB op k a b K else none
 | .val false [.str a],.val false [.str b]=>H6 op a b K
 | .val false [.bool a],.val false [.bool b]=>
   match op with
   | .eql=>K (.bool (a==b))
   | .neq=>K (.bool (!(a==b)))
   |_=>none
 | .val true xs,.val true ys=>
   match op with
   | .eql=>aa (td xs ys) λb=>K (.bool b)
   | .neq=>aa (td xs ys) λb=>K (.bool (!b))
   |_=>none
 |_,_=>none
def unC {R:Type}(op:UnOp)(x:AV)(K:AC->ax R):ax R:=
 match op,x with
 | .not,.val false [.bool b]=>K (.bool (!b))
 | .neg,.val false [.int k n]=>K (.int k (k.wrap (0-n)))
 | .xor,.val false [.int k n]=>FB .xor k (if k.signed then-1 else k.max) n K
 |_,_=>none
def dZ (cs:aw AC)(off:Nat)(vs:aw AC):aw AC:=cs.take off++vs++cs.drop (off+vs.length)
def AS.eL (st:AS):jW->ax AC
 | .slot s j=>match st.get s with| .val _ cs=>nth cs j|_=>none
 | .box s j=>((nth st.boxes s).getD none).bind λcs=>nth cs j
 | .io j=>nth st.io j
def AS.eR (st:AS)(r:jW)(c:AC):AS:=
 match r with
 | .slot s j=>match st.get s with| .val g cs=>st.put (some s) (.val g (gK cs j c))|_=>st
 | .box s j=>match (nth st.boxes s).getD none with|some cs=>st.eD s (some (gK cs j c))|none=>st
 | .io j=>{st with io:=gK st.io j c}
def AS.fresh (st:AS):AC->AC
 | .sl (.loc ep (some (r,t))) e xs=>
   bif ep==st.ep then .sl (.loc ep (some (r,t))) e xs else
    match st.eL r with
    |some (.sl (.own (some t')) e' ys)=>if h:e'=e then bif t'==t then .sl (.loc st.ep (some (r,t))) e (h▸ys) else .sl (.loc ep (some (r,t))) e xs else .sl (.loc ep (some (r,t))) e xs
    |_=> .sl (.loc ep (some (r,t))) e xs
 |c=>c
def AV.fresh (st:AS):AV->AV
 | .val g cs=> .val g (cs.map st.fresh)
 | .uw vs=> .uw vs
def AC.now (ep:Nat):AC->Bool
 | .sl (.loc ep' (some _)) _ _=>ep'==ep
 |_=>true
def AS.oe {R:Type}(st:AS)(r:jW)(t:Nat)(e:CT)(i:Int)(off:Nat)(vs:aw AC)(K:AS->ax R):ax R:=
 match st.eL r with
 |some (.sl (.own (some t')) e' xs)=>
  if h:e'=e then
   if t'=t then
    aa (idx (h▸xs:aw e.D) i) λx=>
     match kD e (dZ (cellsOf e (.own none) x) off vs)with
     |some (x',[])=>K {st.eR r (.sl (.own (some t')) e ((h▸xs:aw e.D).set i.toNat x'))with ep:=st.ep+1}
     |_=>none
   else none
  else none
 |some (.sl (.fa (some t') i' _) e' xs)=>
  if h:e'=e then
   if t'=t/\off=0 then
    aa (YG (h▸xs:aw e.D) i' i) λ_=>
     match kD e vs with
     |some (x',[])=>K {st.eR r (.sl (.own (some t')) e ((h▸xs:aw e.D).set i.toNat x'))with ep:=st.ep+1}
     |_=>none
   else none
  else none
 |_=>none
def AV.cells:AV->aw AC
 | .val _ cs=>cs
 | .uw _=>[.bot]
def eM (st:AS):aw Operand->aw AV×AS
 |[]=>([],st)
 |x::xs=>let (v,st1):=st.take x;let (vs,st2):=eM st1 xs;(v::vs,st2)
def zW (e:CT):aw (aw AC)->ax (aw e.D)
 |[]=>some []
 |cs::r=>match kD e cs with
  |some (x,[])=>(zW e r).bind λxs=>some (x::xs)
  |_=>none
def Fz:Nat->aw (Nat×Operand)->Bool
 |_,[]=>true
 |n,(i,_)::r=>i==n&&Fz (n+1) r
def AC.F1:AC->Bool
 | .bot=>false
 | .un=>false
 |_=>true
def uC (jv:aw (Nat×Nat))(zero:aw AC):aw (Nat×aw AC)->ax (aw AC)
 |[]=>some zero
 |(i,cs)::r=>match nth jv i with
  |some (off,n)=>if cs.length=n/\off+n<=zero.length/\cs.all AC.F1 then uC jv (dZ zero off cs) r else none
  |none=>none
inductive LK where
 |int|bool|str
 deriving DecidableEq
structure Env where
 ty:List (Nat×Shape)
 eqs:List (Nat×List LK):=[]
 fts:List ((Nat×Nat)×Nat):=[]
def Nq (l:aw (Nat×aw LK))(t:Nat):ax (aw LK):=
 match l with
 |[]=>none
 |(u,sh)::r=>bif u==t then some sh else Nq r t
def fits:aw LK->aw AC->Bool
 |[],[]=>true
 | .int::ls,.int _ _::r=>fits ls r
 | .bool::ls,.bool _::r=>fits ls r
 | .str::ls,.str _::r=>fits ls r
 |_,_=>false
def SJ (l:aw ((Nat×Nat)×Nat))(S f:Nat):ax Nat:=
 match l with
 |[]=>none
 |((u,k),T)::r=>bif u==S&&k==f then some T else SJ r S f
def iQ (l:aw (Nat×Shape))(t:Nat):ax Shape:=
 match l with
 |[]=>none
 |(u,sh)::r=>bif u==t then some sh else iQ r t
def Env.sl (E:Env)(t:Nat):ax CT:=
 match iQ E.ty t with
 |some ⟨false,.sl e,_⟩=>some e
 |_=>none
def Env.str (E:Env)(t:Nat):Bool:=
 match iQ E.ty t with
 |some ⟨false,.str,_⟩=>true
 |_=>false
def Env.bool (E:Env)(t:Nat):Bool:=
 match iQ E.ty t with
 |some ⟨false,.bool,_⟩=>true
 |_=>false
def Env.bytes (E:Env)(t:Nat):Bool:=
 match iQ E.ty t with
 |some ⟨false,.sl (.int .u8),[(te,_)]⟩=>match iQ E.ty te with|some ⟨false,.int .u8,_⟩=>true|_=>false
 |_=>false
def pj.live (ep:Nat):pj->Bool
 | .loc ep' _=>ep'==ep
 | .arg _=>true
 | .own _=>false
 | .nest ..=>false
 | .part ..=>false
 | .fa ..=>false
def pj.pw (ep:Nat)(flat:Bool):pj->Bool
 | .loc ep' _=>ep'==ep&&flat
 | .arg _=>flat
 | .own _=>true
 | .nest ..=>false
 | .part ..=>false
 | .fa ..=>false
def pj.bare:pj->pj
 | .loc ep _=> .loc ep none
 |f=>f
def AC.je:AC->Bool
 | .int _ _=>true
 | .bool _=>true
 | .str _=>true
 | .fn _=>true
 |_=>false
def tm:Operand->fg
 | .tmp t=>[t]
 |_=>[]
def MB (l:aw Operand):fg:=l.flatMap tm
def CM (an:An)(o:Oper):Bool:=
 match o.dst with
 |some d=>an.mv.contains d&&(an.mb d).isNone
 |none=>false
def aoA (an:An)(o:Oper):Bool:=
 match o.dst with
 |some d=>an.nils.contains d
 |none=>false
def yf (an:An)(o:Oper):Bool:=
 match o.op with
 | .assign (.tmp s)=>an.late.contains s
 | .store _ _ (.tmp s)=>an.late.contains s
 |_=>false
def tmO:ax Operand->fg
 |some x=>tm x
 |none=>[]
def dB (o:Oper):fg:=
 match o.op with
 | .move x=>tm x
 | .assign x=>tm x
 | .pick c a b=>tm c++tm a++tm b
 | .box _ x=>tm x
 | .load _ p=>tm p
 | .store _ p x=>tm p++tm x
 | .nilCheck x=>tm x
 | .binOp _ _ x y _=>tm x++tm y
 | .unOp _ _ x=>tm x
 | .fieldAddr _ p _=>tm p
 | .indexAddr _ x i=>tm x++tm i
 | .index _ x i=>tm x++tm i
 | .build _ parts=>MB (parts.toList.map (·.2))
 | .buildSlice _ _ parts=>MB (parts.toList.map (·.2))
 | .makeSlice _ n c=>tm n++tm c
 | .slice _ x lo hi none=>tm x++tmO lo++tmO hi
 | .convert _ _ x=>tm x
 | .extract (.tmp t) _=>[t]
 | .call {callee:=.builtin _,args,..}=>MB args.toList
 | .call {callee:=.value f,args,..}=>tm f++MB args.toList
 |_=>[]
def CL (an:An)(o:Oper):Bool:=
 match o.op with
 | .move _=>match o.dst with|some d=>an.mv.contains d|none=>false
 | .assign _=>true
 | .box ..=>true
 | .build ..=>true
 | .buildSlice ..=>true
 | .store ..=>true
 | .extract ..=>match o.dst with|some d=>an.mv.contains d|none=>false
 | .call {callee:=.builtin .append,..}=>true
 |_=>false
def CJ (an:An)(o:Oper):Bool:=
 match o.op,o.dst,o.guard with
 | .load _ (.tmp q),some d,none=>an.mv.contains d&&(an.mb d).isNone&&(an.eb q).isSome
 |_,_,_=>false
def yR (an:An)(o:Oper):Bool:=
 match o.op,o.dst,o.guard with
 | .load _ (.tmp q),some d,none=> !an.mv.contains d&& !an.fm.contains d&&(an.sb q).isSome
 |_,_,_=>false
def CO (an:An)(o:Oper):fg:=
 match o.op with
 | .alloc _=>o.dst.toList
 | .box ..=>o.dst.toList
 | .load _ p=>match o.dst with|some d=>bif an.mv.contains d then(an.mb d).toList++(bif CJ an o then(match p with| .tmp q=>(an.eb q).toList|_=>[]) else []) else []|none=>[]
 | .store _ (.tmp p) _=>(an.sb p).toList
 | .call {callee:=.value _,args,..}=>(match args.toList with| .tmp q::_=>(an.sb q).toList|_=>[])
 |_=>[]
def mJ (an:An)(o:Oper):Bool:=
 match o.op with
 | .move _=>true
 | .load ..=>(match o.dst with|some d=> !an.mv.contains d||(an.mb d).isSome|none=>false)||CJ an o
 | .extract (.tmp _) _=>true
 | .store _ (.tmp p) _=>(an.sb p).isSome&& !yf an o
 | .assign _=> !yf an o
 | .pick ..| .alloc _| .box ..| .nilCheck _| .binOp ..| .unOp ..| .fieldAddr ..| .indexAddr ..| .index ..| .build ..| .buildSlice ..| .makeSlice ..| .convert ..=>true
 | .slice _ _ _ _ none=> !CM an o
 | .call {callee:=.builtin .len,..}| .call {callee:=.builtin .min,..}| .call {callee:=.builtin .max,..}| .call {callee:=.builtin .append,..}=>true
 | .call {callee:=.value _,..}=>true
 |_=>false
def writes (an:An)(o:Oper):fg:=o.dst.toList++(bif CL an o then dB o else [])
def AV.now (ep:Nat):AV->Bool
 | .val _ cs=>cs.all (AC.now ep)
 | .uw _=>true
def AC.kz:AC->Bool
 | .int ..=>true
 | .bool _=>true
 | .str _=>true
 | .fn _=>true
 | .ptr ..=>true
 |_=>false
def AV.kz:AV->Bool
 | .val _ cs=>cs.all AC.kz
 | .uw _=>false
def B7 (E:Env)(T:TypeId)(st:AS)(s off:Nat):Bool:=
 match iQ E.ty T,(nth st.boxes s).getD none with
 |some sh,some cs=>((cs.drop off).take sh.ct.size).all AC.kz
 |_,_=>false
def T0 (an:An)(o:Oper):Bool:=match o.dst with|some d=>an.fm.contains d|none=>false
def zE (an:An)(o:Oper):Bool:=
 match o.op,o.dst,o.guard with
 | .load _ (.tmp _),some d,none=>an.mv.contains d&&(an.mb d).isSome
 |_,_,_=>false
def J3 (an:An)(o:Oper):Bool:=
 match o.op,o.dst,o.guard with
 | .load _ (.tmp _),some d,none=> !an.mv.contains d&&an.fm.contains d
 |_,_,_=>false
def erS (an:An)(o:Oper):fg:=
 match o.op,o.dst with
 | .load ..,some d=>(an.er d).toList
 | .call {callee:=.value _,..},some d=>(an.er d).toList
 |_,_=>[]
def AC.acS (l:fg):AC->Bool
 | .sl (.loc _ (some (.slot b _,_))) _ _=>l.contains b
 | .sl (.loc _ _) _ _=>false
 |_=>true
def FZ (l:fg)(st:AS):Operand->Bool
 | .tmp t=>(match st.get t with| .val _ cs=>cs.all (AC.acS l)| .uw _=>true)
 |_=>true
def aa8 (an:An)(X l:fg)(st:AS)(xs:aw Operand)(q:Nat):AV->Bool
 | .val false [.ptr s _]=> !X.contains s&&an.sb q==some s&&(match (nth st.boxes s).getD none with|some cs=>cs.all AC.EV|none=>true)&&xs.all (FZ l st)
 |_=>true
def AV.Xr:AV->Bool
 | .val false [.ptr _ _]=>false
 |_=>true
def rF (an:An)(X l:fg)(st:AS):aw Operand->Bool
 | .tmp q::xs=>aa8 an X l st xs q (st.rd (.tmp q))
 |x::_=>(st.rd x).Xr
 |[]=>true
def dq (E:Env)(an:An)(X:fg)(o:Oper)(st:AS):Bool:=
 match o.op with
 | .move x=> !T0 an o||(st.rd x).kz
 | .indexAddr _ x _=>(st.rd x).now st.ep||(match st.rd x with| .val _ [.sl (.loc _ (some (.box b _,_))) _ _]=> !X.contains b|_=>false)
 | .slice _ x _ _ none=>(st.rd x).now st.ep
 | .call {callee:=.value _,args,..}=>rF an X (erS an o) st args.toList&&args.toList.all λx=>(st.rd x).now st.ep
 | .load T p=>match st.rd p with
   | .val false [.ptr s off]=> !X.contains s&&(match o.dst with|some d=> !an.mv.contains d||an.mb d==some s|none=>true)&&(!T0 an o||B7 E T st s off)
   | .val false [.zk fl _ _ _ _]=>(fl.live st.ep||(match fl with
     | .loc _ (some (.slot b _,_))=>(erS an o).contains b
     | .loc _ (some (.box b _,_))=> !X.contains b
     |_=>false))&& !(T0 an o||zE an o)&& !yR an o&&(!CJ an o||(match p,fl with
     | .tmp q,.loc _ (some (.box b _,_))=>an.eb q==some b&& !X.contains b
     |_,_=>false))
   |_=> !(T0 an o||zE an o)
 | .store _ (.tmp p) _=>((an.sb p).isNone&&(an.eb p).isNone&&(an.es p).isNone)||(match st.rd (.tmp p)with
   | .val false [.ptr s _]=> !X.contains s&&an.sb p==some s
   | .val false [.zk (.loc _ (some (.box b _,_))) _ _ _ _]=>an.eb p==some b&&(an.sb p).isNone&&(an.es p).isNone
   | .val false [.zk (.loc _ (some (.slot b _,_))) _ _ _ _]=>an.es p==some b&&(an.sb p).isNone&&(an.eb p).isNone
   |_=>false)
 | .extract (.tmp t) i=>match st.get t with
   | .uw vs=>match nth vs i with|some x=>x.2.all AC.je||(match o.dst with|some d=>an.mv.contains d|none=>false)|none=>true
   |_=>true
 |_=>true
def Cc (an:An)(ops:aw Oper)(o:Oper):fg:=
 (match o.guard with
 |some (j,_)=>((nth ops j).bind (·.dst)).toList
 |none=>[])++erS an o
def meets (a b:fg):Bool:=a.any λx=>b.contains x
def Uc (an:An)(ops:aw Oper)(X Y:fg)(o p:Oper):Bool:=
 mJ an o&&mJ an p&& !meets (writes an o) (dB p++Cc an ops p++writes an p)&& !meets (writes an p) (dB o++Cc an ops o)&&
 (CO an o).all (λd=>Y.contains d)&&(CO an p).all (λd=>X.contains d)&& !meets (CO an o) (p.dst.toList++CO an p)&& !meets (CO an p) o.dst.toList
def UF (o p:Oper):Bool:=
 match o.op,p.op,o.dst,p.dst,o.guard,p.guard with
 | .extract (.tmp t) i,.extract (.tmp t') j,some d,some d',none,none=>t==t'&& !(i==j)&& !(d==d')&& !(d==t)&& !(d'==t)
 |_,_,_,_,_,_=>false
def UC (an:An)(o p:Oper):Bool:=
 match p.op,p.dst,p.guard with
 | .store _ (.tmp q) (.tmp x),none,none=>((an.eb q).isSome&&(an.es q).isNone||(match an.es q with|some b=>(an.eb q).isNone&& !(b==x)&& !(b==q)&& !meets [b] (o.dst.toList++dB o)|none=>false))&&(an.sb q).isNone&& !yf an p&&(match o.op,o.dst,o.guard with
   | .move (.tmp t),some d,none=> !an.mv.contains d&&an.fm.contains d&& !(d==q)&& !(d==x)&& !(t==x)&& !(t==q)&& !(d==t)
   | .extract (.tmp t) _,some d,none=> !(d==q)&& !(d==x)&& !(t==x)&& !(t==q)&& !(d==t)
   |_,_,_=>false)
 |_,_,_=>false
def Vr (an:An)(o p:Oper):Bool:=
 (zE an o&&J3 an p||J3 an o&&zE an p)&& !meets o.dst.toList (p.dst.toList++dB p)&& !meets p.dst.toList (dB o)
def Uo (an:An)(o p:Oper):Bool:=yR an o&&CJ an p&& !meets o.dst.toList (p.dst.toList++dB p)&& !meets p.dst.toList (dB o)
def acC (an:An)(o p:Oper):Bool:=UF o p||UC an o p||Vr an o p||Uo an o p
def Ja (an:An)(ops:aw Oper)(X Y:fg)(o p:Oper):Bool:=acC an o p||Uc an ops X Y o p
def yS (o:Oper):fg:=(o.after.toList.filter (λe=>Region.binds .any e)).map (·.on)
def Qz (a b:fg):fg:=a.foldl (λs x=>bif s.contains x then s else x::s) b
def QL:aw Oper->aw fg->aw fg
 |[],acc=>acc
 |o::r,acc=>QL r (acc++[(yS o).foldl (λs j=>Qz (j::(nth acc j).getD []) s) []])
def ZT (A:aw fg)(i k:Nat):Bool:=((nth A i).getD []).contains k
def WC (an:An)(A:aw fg)(i:Nat)(fl pl:Bool):Nat->aw Oper->fg
 |_,[]=>[]
 |k,o::r=>(bif !ZT A i k&& !ZT A k i&& !(k==i)&& !(fl&&zE an o)&& !(pl&&CJ an o) then CO an o else [])++WC an A i fl pl (k+1) r
def qP (an:An)(A:aw fg)(i k:Nat)(ops:aw Oper):fg:=WC an A i (match nth ops i with|some o=>J3 an o|none=>false) (match nth ops i with|some o=>yR an o|none=>false) k ops
def KY (an:An)(ops:aw Oper)(A:aw fg)(i:Nat)(oi:Oper):Nat->aw Oper->Bool
 |_,[]=>true
 |j,oj::r=>bif Nat.ble i j then true else(ZT A i j||Ja an ops (qP an A j 0 ops) (qP an A i 0 ops) oj oi)&&KY an ops A i oi (j+1) r
def PZ (an:An)(ops:aw Oper)(A:aw fg):Nat->aw Oper->Bool
 |_,[]=>true
 |i,oi::r=>(yS oi).all (λk=>Nat.blt k i)&&KY an ops A i oi 0 ops&&PZ an ops A (i+1) r
def Rn (an:An)(ops:aw Oper):Bool:=PZ an ops (QL ops []) 0 ops
inductive Ex where
 |normal|ret|exit (id:Nat)
inductive FK where
 |own (tag:Option Nat)|arg|wy|loc|lio (j t:Nat)|nil
def FK.flag:FK->pj
 | .own t=> .own t
 | .arg=> .arg false
 | .wy=> .arg true
 | .loc=> .loc 0 none
 | .lio j t=> .loc 0 (some (.io j,t))
 | .nil=> .arg false
def FK.isNil:FK->Bool
 | .nil=>true
 |_=>false
inductive FT where
 |int (k:IntKind)|bool|str|sl (fl:FK) (e:CT)|pair (a b:FT)
abbrev FT.ct:FT->CT
 | .int k=> .int k
 | .bool=> .bool
 | .str=> .str
 | .sl _ e=> .sl e
 | .pair a b=> .pair a.ct b.ct
def jc:(t:FT)->t.ct.D->aw AC
 | .int k,n=>[.int k n]
 | .bool,b=>[.bool b]
 | .str,s=>[.str s]
 | .sl fl e,xs=>[bif fl.isNil then .jn else .sl fl.flag e xs]
 | .pair a b,x=>jc a x.1++jc b x.2
def FK.fits:FK->pj->Bool
 | .own t,.own t'=>t==t'
 | .arg,.arg k=> !k
 | .wy,.arg k=>k
 | .loc,.loc 0 none=>true
 | .lio j t,.loc 0 (some (.io j',t'))=>j==j'&&t==t'
 |_,_=>false
def IX:(t:FT)->aw AC->ax (t.ct.D×aw AC)
 | .int k,.int k' n::r=>if k'=k then some (n,r) else none
 | .bool,.bool b::r=>some (b,r)
 | .str,.str s::r=>some (s,r)
 | .sl fl e,.sl fl' e' xs::r=>if h:e'=e then bif fl.fits fl' then some (h▸xs,r) else none else none
 | .sl fl _,.jn::r=>bif fl.isNil then some ([],r) else none
 | .pair a b,cs=>(IX a cs).bind λx=>(IX b x.2).bind λy=>some ((x.1,y.1),y.2)
 |_,_=>none
inductive PD where
 |bot|ptr (s off:Nat)|fn (f:Nat)|data (g:Bool) (t:FT)
inductive IoD where
 |none|some (t:FT)|ptr
structure SD where
 slots:List PD
 boxes:List (Option FT)
 io:IoD:=.none
abbrev Hi:aw PD->Type
 |[]=>Unit
 | .data _ t::r=>t.ct.D×Hi r
 |_::r=>Hi r
abbrev Gu:aw (ax FT)->Type
 |[]=>Unit
 |some t::r=>t.ct.D×Gu r
 |none::r=>Gu r
abbrev ioD:IoD->Type
 | .none=>Unit
 | .some t=>t.ct.D
 | .ptr=>Unit
abbrev SD.D (d:SD):Type:=Hi d.slots×Gu d.boxes×ioD d.io
def qR:(l:aw PD)->Hi l->aw AV
 |[],_=>[]
 | .data g t::r,x=> .val g (jc t x.1)::qR r x.2
 | .bot::r,x=> .bot::qR r x
 | .ptr s off::r,x=> .one (.ptr s off)::qR r x
 | .fn f::r,x=> .one (.fn f)::qR r x
def zI:(l:aw (ax FT))->Gu l->aw (ax (aw AC))
 |[],_=>[]
 |some t::r,x=>some (jc t x.1)::zI r x.2
 |none::r,x=>none::zI r x
def abc:(o:IoD)->ioD o->aw AC
 | .none,_=>[]
 | .some t,x=>jc t x
 | .ptr,_=>[.ptr 0 0]
def SD.enc (d:SD)(x:d.D):AS:=⟨qR d.slots x.1,zI d.boxes x.2.1,0,List.replicate d.slots.length false,abc d.io x.2.2⟩
def AV.Xl:AV->Bool
 | .val false [.bot]=>true
 |_=>false
def AV.Xm (s off:Nat):AV->Bool
 | .val false [.ptr s' at5]=>s==s'&&off==at5
 |_=>false
def AV.Zl (f:Nat):AV->Bool
 | .val false [.fn f']=>f==f'
 |_=>false
def jy:(l:aw PD)->aw AV->ax (Hi l)
 |[],[]=>some ()
 | .data g t::r,.val g' cs::vs=>bif g==g' then(match IX t cs with|some (x,[])=>(jy r vs).bind λy=>some (x,y)|_=>none) else none
 | .bot::r,v::vs=>bif v.Xl then jy r vs else none
 | .ptr s off::r,v::vs=>bif v.Xm s off then jy r vs else none
 | .fn f::r,v::vs=>bif v.Zl f then jy r vs else none
 |_,_=>none
def pq:(l:aw (ax FT))->aw (ax (aw AC))->ax (Gu l)
 |[],[]=>some ()
 |some t::r,some cs::bs=>match IX t cs with|some (x,[])=>(pq r bs).bind λy=>some (x,y)|_=>none
 |none::r,none::bs=>pq r bs
 |_,_=>none
def Vk:aw AC->Bool
 |[.ptr 0 0]=>true
 |_=>false
def Rl:(o:IoD)->aw AC->ax (ioD o)
 | .none,[]=>some ()
 | .some t,cs=>match IX t cs with|some (x,[])=>some x|_=>none
 | .ptr,cs=>bif Vk cs then some () else none
 |_,_=>none
def SD.dec (d:SD)(st:AS):ax d.D:=
 bif st.ep==0&&st.iss==List.replicate d.slots.length false then
  (jy d.slots st.slots).bind λx=>(pq d.boxes st.boxes).bind λy=>(Rl d.io st.io).bind λz=>some (x,y,z)
 else none
structure Gr where
 sd:SD
 run:{R:Type}->sd.D->(Ex->AS->Option R)->Option R
abbrev dL:=Nat->Gr
def Gr.go {R:Type}(l:Gr)(st:AS)(K:Ex->AS->ax R):ax R:=aa (l.sd.dec st) λx=>l.run x K
def Gr.none:Gr:=⟨⟨[],[],.none⟩,λ_ _=>Option.none⟩
def dL.nil:dL:=λ_=>Gr.none
def dL.add (Λ:dL)(k:Nat)(l:Gr):dL:=λj=>bif j==k then l else Λ j
section
variable {R:Type} (E:Env) (Γ:fy) (an:An)
def zZ (o:Oper)(x:Operand)(st:AS)(K:AS->ax R):ax R:=
 match o.dst with
 |some d=>if an.mv.contains d then K ((st.take x).2.put o.dst (st.take x).1) else K (st.put o.dst (st.rd x))
 |none=>none
def sX (o:Oper)(x:Operand)(st:AS)(K:AS->ax R):ax R:=
 match st.take x with
 |(.val false [.jn],_)=>match E.sl o.type with
  |some e=>K (st.put o.dst (.one (bif aoA an o then .jn else .sl (.own none) e [])))
  |none=>none
 |(v,bK)=>K (bK.put o.dst v)
def Ct (o:Oper)(c a b:Operand)(st:AS)(K:AS->ax R):ax R:=
 match st.rd c with
 | .val false [.bool t]=>match st.rd a,st.rd b with
   | .val false [.bool x],.val false [.bool y]=>K (st.put o.dst (.one (.bool (cond t x y))))
   |va,vb=>cond t (K (st.put o.dst va)) (K (st.put o.dst vb))
 |_=>none
def Ao (o:Oper)(T:TypeId)(st:AS)(K:AS->ax R):ax R:=
 match o.dst,iQ E.ty T with
 |some d,some sh=>match nth st.boxes d with
  |some none=>K ((st.eD d (some (cellsOf sh.ct (.own none) sh.ct.zero))).put o.dst (.one (.ptr d 0)))
  |_=>none
 |_,_=>none
def Oc (o:Oper)(x:Operand)(st:AS)(K:AS->ax R):ax R:=
 match o.dst,st.take x with
 |some d,(.val _ cs,bK)=>
  match nth bK.boxes d with
  |some none=>if cs.all AC.F1 then K ((bK.eD d (some cs)).put o.dst (.one (.ptr d 0))) else none
  |_=>none
 |_,_=>none
def PT (ep:Nat)(r:jW)(t:Nat)(e:CT)(i:Int):Nat->aw AC->aw AC
 |_,[]=>[]
 |p,.sl _ e' xs::cs=> .sl (.nest ep r t e i p) e' xs::PT ep r t e i (p+1) cs
 |p,c::cs=>c::PT ep r t e i (p+1) cs
def acn (o:Oper)(ep:Nat)(fl:pj)(e:CT)(i:Int)(off:Nat)(cs:aw AC):aw AC:=
 match fl,o.dst with
 | .loc _ (some (r,t)),some d=>bif an.nest.contains d then PT ep r t e i off cs else cs
 |_,_=>cs
def Be (o:Oper)(sh:Shape)(fl:pj)(e:CT)(i:Int)(off:Nat)(st:AS)(K:AS->ax R):ax R:=
 match fl with
 | .loc _ (some (r,t))=>
   match st.eL r with
   |some (.sl (.own (some t')) e' ys)=>
    if h:e'=e then
     if t'=t/\off+sh.ct.size<=e.size then
      aa (idx (h▸ys:aw e.D) i) λy=>K (st.put o.dst (.val sh.agg (((cellsOf e (.loc st.ep none) y).drop off).take sh.ct.size)))
     else none
    else none
   |_=>none
 |_=>none
def wq (o:Oper)(sh:Shape)(fl:pj)(e:CT)(i:Int)(off:Nat)(st:AS)(K:AS->ax R):ax R:=
 match fl with
 | .loc _ (some (r,t))=>
   match st.eL r with
   |some (.sl (.own (some t')) e' ys)=>
    if h:e'=e then
     if t'=t/\off=0/\sh.ct=e then
      aa (idx (h▸ys:aw e.D) i) λy=>K ((st.eR r (.sl (.fa (some t) i (some st.ep)) e (h▸ys))).put o.dst (.val sh.agg (cellsOf e (.own none) y)))
     else none
    else none
   |_=>none
 |_=>none
def nS (o:Oper)(T:TypeId)(p:Operand)(st:AS)(K:AS->ax R):ax R:=
 match iQ E.ty T,st.rd p with
 |some sh,.val false [.ptr s off]=>
  match (nth st.boxes s).getD none with
  |some cs=>
   if off+sh.ct.size<=cs.length then
    match o.dst with
    |some d=>
     if an.mv.contains d then
      K ((st.eD s (some (dZ cs off (aQ st.ep ((cs.drop off).take sh.ct.size))))).put o.dst (.val sh.agg ((cs.drop off).take sh.ct.size)))
     else K (st.put o.dst (.val sh.agg (ic st.ep (.box s) off ((cs.drop off).take sh.ct.size))))
    |none=>none
   else none
  |none=>none
 |some sh,.val false [.zk fl e x i off]=>
  if CM an o then wq o sh fl e i off st K
  else if fl.live st.ep then
   if off+sh.ct.size<=e.size then K (st.put o.dst (.val sh.agg (acn an o st.ep fl e i off (((cellsOf e fl.bare x).drop off).take sh.ct.size)))) else none
  else Be o sh fl e i off st K
 |_,_=>none
def uU (T:TypeId)(p x:Operand)(st:AS)(K:AS->ax R):ax R:=
 match iQ E.ty T,st.rd p with
 |some sh,.val false [.ptr s off]=>
  match st.take x with
  |(.val _ vs,bK)=>
   match (nth bK.boxes s).getD none with
   |some cs=>
    if vs.length=sh.ct.size/\vs.all AC.F1 then
     if off+sh.ct.size<=cs.length then K (bK.eD s (some (dZ cs off vs))) else none
    else none
   |none=>none
  |_=>none
 |some sh,.val false [.zk (.loc _ (some (r,t))) e _ i off]=>
  match st.take x with
  |(.val _ vs,bK)=>
   if vs.length=sh.ct.size/\off+sh.ct.size<=e.size then bK.oe r t e i off vs K else none
  |_=>none
 |_,_=>none
def xS (o:Oper)(S:TypeId)(p:Operand)(f:Nat)(st:AS)(K:AS->ax R):ax R:=
 match iQ E.ty S,st.rd p with
 |some ⟨true,_,jv⟩,.val false [.ptr s off]=>match nth jv f with|some (fo,_)=>K (st.put o.dst (.one (.ptr s (off+fo))))|none=>none
 |some ⟨true,_,jv⟩,.val false [.zk fl e x i off]=>match nth jv f with|some (fo,_)=>K (st.put o.dst (.one (.zk fl e x i (off+fo))))|none=>none
 |_,_=>none
def lJ (o:Oper)(T:TypeId)(x i:Operand)(st:AS)(K:AS->ax R):ax R:=
 match E.sl T,(st.rd x).fresh st,st.rd i with
 |some e',.val false [.sl fl e xs],.val false [.int _ n]=>
  if e'=e/\fl.live st.ep then aa (idx xs n) λy=>K (st.put o.dst (.one (.zk fl e y n 0))) else none
 |_,_,_=>none
def zv (o:Oper)(T:TypeId)(x i:Operand)(st:AS)(K:AS->ax R):ax R:=
 match st.rd x,st.rd i with
 | .val false [.str s],.val false [.int _ n]=>if E.str T then aa (idx s n) λb=>K (st.put o.dst (.one (.int .u8 b.toNat))) else none
 |_,_=>none
def zh (o:Oper)(T:TypeId)(parts:aw (Nat×Operand))(st:AS)(K:AS->ax R):ax R:=
 match iQ E.ty T with
 |some ⟨true,ct,jv⟩=>
  match eM st (parts.map (·.2))with
  |(vs,bK)=>
   match uC jv (cellsOf ct (.own none) ct.zero) ((parts.map (·.1)).zip (vs.map AV.cells))with
   |some cs=>K (bK.put o.dst (.val true cs))
   |none=>none
 |_=>none
def kV (o:Oper)(T:TypeId)(len:Nat)(parts:aw (Nat×Operand))(st:AS)(K:AS->ax R):ax R:=
 match E.sl T with
 |some e=>
  if parts.length=len/\Fz 0 parts/\len<=1000 then
   match eM st (parts.map (·.2))with
   |(vs,bK)=>
    match zW e (vs.map AV.cells)with
    |some xs=>K (bK.oE o.dst e xs)
    |none=>none
  else none
 |none=>none
def nt (o:Oper)(T:TypeId)(n c:Operand)(st:AS)(K:AS->ax R):ax R:=
 match E.sl T,st.rd n,st.rd c with
 |some e,.val false [.int .i64 len],.val false [.int .i64 cap]=>
  if 0<=len/\len<=cap then room cap.toNat (K (st.oE o.dst e (List.replicate len.toNat e.zero))) else none
 |_,_,_=>none
def lU (st:AS)(lo hi:ax Operand)(n:Nat)(K:Int->Int->ax R):ax R:=
 match lo.map st.rd,hi.map st.rd with
 |none,none=>K 0 n
 |some (.val false [.int _ a]),none=>K a n
 |none,some (.val false [.int _ b])=>K 0 b
 |some (.val false [.int _ a]),some (.val false [.int _ b])=>K a b
 |_,_=>none
def uN (o:Oper)(T:TypeId)(x:Operand)(lo hi:ax Operand)(st:AS)(K:AS->ax R):ax R:=
 match st.take x,lo.map st.rd,hi with
 |(.val false [.sl (.own _) e xs],bK),some (.val false [.int _ a]),none=>
  if E.sl T=some e then aa (sub xs a xs.length) λLV=>K (bK.oE o.dst e LV) else none
 |_,_,_=>none
def KZ (o:Oper)(fl:pj)(a:Int):pj:=
 match fl,o.dst with
 | .loc ep (some (r,t)),some d=>bif an.nest.contains d then .part ep r t a else .loc ep none
 |fl,_=>fl.bare
def yn (o:Oper)(T:TypeId)(x:Operand)(lo hi:ax Operand)(st:AS)(K:AS->ax R):ax R:=
 if CM an o then uN E o T x lo hi st K else
 match (st.rd x).fresh st with
 | .val false [.str s]=>if E.str T then lU st lo hi s.length λa b=>aa (sub s a b) λs'=>K (st.put o.dst (.one (.str s'))) else none
 | .val false [.sl fl e xs]=>
   if E.sl T=some e/\fl.live st.ep then lU st lo hi xs.length λa b=>aa (sub xs a b) λLV=>K (st.put o.dst (.one (.sl (KZ an o fl a) e LV))) else none
 |_=>none
def kX (o:Oper)(src dst:TypeId)(x:Operand)(st:AS)(K:AS->ax R):ax R:=
 match iQ E.ty src,iQ E.ty dst,st.rd x with
 |some _,some ⟨false,.int k,_⟩,.val false [.int _ n]=>K (st.put o.dst (.one (.int k (k.wrap n))))
 |some ⟨false,.str,_⟩,some ⟨false,.str,_⟩,.val false [.str s]=>K (st.put o.dst (.one (.str s)))
 |some ⟨false,.str,_⟩,some _,.val false [.str s]=>
  if E.bytes dst then room s.length (K (st.oE o.dst (.int .u8) (di s))) else none
 |some _,some ⟨false,.str,_⟩,.val false [.sl fl (.int .u8) xs]=>
  if E.bytes src/\fl.live st.ep then K (st.put o.dst (.one (.str (aJ xs)))) else none
 |_,_,_=>none
def kZ (o:Oper)(t i:Nat)(st:AS)(K:AS->ax R):ax R:=
 match st.get t with
 | .uw vs=>match nth vs i with
   |some (g,cs)=>K ((st.put (some t) (.uw (gK vs i (g,aQ 0 cs)))).put o.dst (.val g cs))
   |none=>none
 |_=>none
def KL (o:Oper)(ts:aw TypeId)(args:aw Operand)(st:AS)(K:AS->ax R):ax R:=
 match ts,args.map st.rd with
 |[t],[.val false [.str s]]=>if E.str t then K (st.put o.dst (.one (.int .i64 s.length))) else none
 |[t],[.val false [.sl _ _ xs]]=>if(E.sl t).isSome then K (st.put o.dst (.one (.int .i64 xs.length))) else none
 |_,_=>none
def Mi (o:Oper)(args:aw Operand)(st:AS)(K:AS->ax R):ax R:=
 match args.map st.rd with
 |[.val false [.int k x],.val false [.int _ y]]=>K (st.put o.dst (.one (.int k (if y<x then y else x))))
 |_=>none
def Mh (o:Oper)(args:aw Operand)(st:AS)(K:AS->ax R):ax R:=
 match args.map st.rd with
 |[.val false [.int k x],.val false [.int _ y]]=>K (st.put o.dst (.one (.int k (if y>x then y else x))))
 |_=>none
def MJ (o:Oper)(ts:aw TypeId)(args:aw Operand)(st:AS)(K:AS->ax R):ax R:=
 match ts,args.map st.rd with
 |[t,t'],[.val false [.sl (.part ep r tg lo) e xs],.val false [.str s]]=>
  match st.eL r with
  |some (.sl (.own (some tg')) e' ys)=>
   if h:e'=.int .u8 then
    if e=.int .u8/\E.sl t=some (.int .u8)/\E.str t'=true/\ep=st.ep/\tg'=tg then
     K ({st.eR r (.sl (.own (some tg)) (.int .u8) (Aa (h▸ys:aw (CT.int .u8).D) lo.toNat (di (s.take xs.length))))with ep:=st.ep+1}.put o.dst (.one (.int .i64 (min xs.length s.length:Nat))))
    else none
   else none
  |_=>none
 |_,_=>none
def CZ (o:Oper)(S:TypeId)(t f:Nat)(st:AS)(K:AS->ax R):ax R:=
 match iQ E.ty S,st.get t,SJ E.fts S f with
 |some ⟨true,ct,jv⟩,.val true cs,some T=>
  match nth jv f,iQ E.ty T with
  |some (fo,n),some sh=>
   if n=sh.ct.size/\cs.length=ct.size/\fo+n<=cs.length then
    K ((st.put (some t) (.val true (dZ cs fo (aQ st.ep ((cs.drop fo).take n))))).put o.dst (.val sh.agg ((cs.drop fo).take n)))
   else none
  |_,_=>none
 |_,_,_=>none
def uZ (o:Oper)(ts:aw TypeId)(args:aw Operand)(st:AS)(K:AS->ax R):ax R:=
 match ts,args with
 |[t,t'],[s,x]=>
  match st.take s with
  |(.val false [.sl (.own _) e xs],st1)=>
   match st1.take x with
   |(.val false [.sl fl e' ys],st2)=>
    if h:e'=e then
     if E.sl t=some e/\E.sl t'=some e/\fl.pw st.ep e.flat then
      room (xs.length+ys.length) (K (st2.oE o.dst e (xs++(h▸ys:aw e.D))))
     else none
    else none
   |(.val false [.str s],st2)=>
    if h:e=.int .u8 then
     if E.sl t=some e/\E.str t' then room (xs.length+s.length) (K (st2.oE o.dst (.int .u8) ((h▸xs:aw (CT.int .u8).D)++di s))) else none
    else none
   |_=>none
  |_=>none
 |_,_=>none
def MX:Nat->aw AC->ax (jW×Nat)
 |_,[]=>none
 |j,.sl (.loc _ (some (r,_))) _ _::_=>some (r,j)
 |j,_::cs=>MX (j+1) cs
def jW.pos:jW->Nat
 | .slot _ j=>j
 | .box _ j=>j
 | .io j=>j
def AS.FN (st:AS):jW->ax (aw AC)
 | .slot s _=>match st.get s with| .val _ cs=>some cs|_=>none
 | .box s _=>(nth st.boxes s).getD none
 | .io _=>some st.io
def AS.CC (st:AS)(r:jW)(cs:aw AC):AS:=
 match r with
 | .slot s _=>match st.get s with| .val g _=>st.put (some s) (.val g cs)|_=>st
 | .box s _=>st.eD s (some cs)
 | .io _=>{st with io:=cs}
def mM:aw AC->aw AC->ax (aw AC)
 |[],[]=>some []
 | .sl (.loc _ (some (_,t))) _ _::os,.sl (.own (some t')) e xs::ss=>bif t'==t then(mM os ss).bind λr=>some (.sl (.own none) e xs::r) else none
 | .int k n::os,.int _ _::ss=>(mM os ss).bind λr=>some (.int k n::r)
 | .bool b::os,.bool _::ss=>(mM os ss).bind λr=>some (.bool b::r)
 | .str x::os,.str _::ss=>(mM os ss).bind λr=>some (.str x::r)
 |_,_=>none
def AV.je:AV->Bool
 | .val _ cs=>cs.all AC.je
 | .uw vs=>vs.all λx=>x.2.all AC.je
def Og (st:AS)(x:Operand):ax (AV×AS):=
 match st.rd x with
 | .val g cs=>
   match MX 0 cs with
   |some (r,j)=>
    match st.FN r with
    |some WG=>
     match mM cs ((WG.drop (r.pos-j)).take cs.length)with
     |some po=>some (.val g po,st.CC r (dZ WG (r.pos-j) (aQ st.ep ((WG.drop (r.pos-j)).take cs.length))))
     |none=>none
    |none=>none
   |none=>none
 |_=>none
def Nn (o:Oper)(x:Operand)(st:AS)(K:AS->ax R):ax R:=
 match Og st x with
 |some (v,bK)=>K (bK.put o.dst v)
 |none=>none
def uV (T:TypeId)(p x:Operand)(st:AS)(K:AS->ax R):ax R:=
 match iQ E.ty T,st.rd p with
 |some sh,.val false [.ptr s off]=>
  match Og st x with
  |some (.val _ vs,bK)=>
   match (nth bK.boxes s).getD none with
   |some cs=>
    if vs.length=sh.ct.size/\vs.all AC.F1 then
     if off+sh.ct.size<=cs.length then K (bK.eD s (some (dZ cs off vs))) else none
    else none
   |none=>none
  |_=>none
 |_,_=>none
def AC.strip:AC->AC
 | .sl (.own _) e xs=> .sl (.own none) e xs
 | .sl (.loc _ _) _ _=> .bot
 | .sl (.nest ..) _ _=> .bot
 | .sl (.part ..) _ _=> .bot
 | .sl (.fa _ i _) e xs=> .sl (.fa none i none) e xs
 | .ptr _ _=> .bot
 | .zk _ _ _ _ _=> .bot
 |c=>c
def AC.ae8:AC->Bool
 | .sl (.own _) _ _=>true
 |c=>c.je
def AC.wN (k:Bool):AC->Bool
 | .sl (.own _) _ _=>true
 | .sl (.arg k') _ _=>k'==k
 |c=>c.je
def AC.Qr:AC->AC
 | .sl (.own _) e xs=> .sl (.own none) e xs
 | .sl (.arg _) e xs=> .sl (.arg true) e xs
 |c=>c.strip
def AC.ahf (k:Bool)(tag:ax Nat):AC->AC
 | .sl (.own _) e xs=> .sl (.own tag) e xs
 | .sl (.arg _) e xs=> .sl (.arg k) e xs
 |c=>c
def ou (k:Bool)(mk:Nat->ax Nat):Nat->aw AC->aw AC
 |_,[]=>[]
 |j,c::cs=>c.ahf k (mk j)::ou k mk (j+1) cs
def Bq (cs:aw AC):Bool:=cs.any λc=>match c with| .sl (.arg k) _ _=>k|_=>false
def AC.Gt:AC->Bool
 | .sl (.arg k) _ _=> !k
 |c=>c.je
def AV.Gt:AV->Bool
 | .val _ cs=>cs.all AC.Gt
 | .uw _=>false
def AS.Mg (st:AS):AC->AC
 | .sl (.own _) e xs=> .sl (.arg false) e xs
 | .sl (.arg _) e xs=> .sl (.arg false) e xs
 | .sl (.loc _ (some (.slot b j,t))) _ _=>match st.eL (.slot b j)with
   |some (.sl (.own (some t')) e' ys)=>if t'=t then .sl (.arg false) e' ys else .bot
   |_=> .bot
 | .int k n=> .int k n
 | .bool b=> .bool b
 | .str s=> .str s
 | .fn f=> .fn f
 |_=> .bot
def yQ (st:AS):Operand->AV
 | .tmp t=>(match st.get t with| .val g cs=> .val g (cs.map st.Mg)|v=>v)
 |x=>st.rd x
def zV (st:AS):Operand->Bool
 | .tmp t=>(match st.get t with| .val _ cs=>(cs.map st.Mg).all AC.Gt|_=>false)
 |x=>(st.rd x).je
def AC.ZK:AC->Bool
 | .sl (.own _) _ _=>true
 |c=>c.je
def AV.ZK:AV->Bool
 | .val _ cs=>cs.all AC.ZK
 | .uw vs=>vs.all λx=>x.2.all AC.ZK
def WB (st:AS)(s:Nat)(cs:aw AC):AS:={(st.eD s (some cs)).fi (some s)with ep:=st.ep+1}
def sY (o:Oper)(f:Nat)(args:aw Operand)(st:AS)(K:AS->ax R):ax R:=
 match args with
 |x0::xs=>
  match st.rd x0 with
  | .val false [.ptr s 0]=>
    match (nth st.boxes s).getD none with
    |some cs=>
     bif cs.all (AC.wN (Bq cs))&&xs.all (zV st) then
      aa ((Γ f).fn (.val true (cs.map AC.Qr)::xs.map (yQ st))) λy=>
       bif ((Γ f).back y).all (AC.wN true)&&((Γ f).av y).ZK then
        bif (Γ f).cur&&cs.all AC.EV then
         K (((st.eD s (some (ou (Bq cs) (λ_=>none) 0 ((Γ f).back y)))).fi o.dst).put o.dst (((Γ f).av y).Br st.ep (st.gR o.dst)))
        else
        K (((WB st s (ou (Bq cs) (st.gR (some s)) 0 ((Γ f).back y))).fi o.dst).put o.dst
          (((Γ f).av y).Br (st.ep+1) ((WB st s (ou (Bq cs) (st.gR (some s)) 0 ((Γ f).back y))).gR o.dst)))
       else none
     else none
    |none=>none
  |_=>none
 |[]=>none
def ZL (o:Oper)(f:Nat)(args:aw Operand)(st:AS)(K:AS->ax R):ax R:=
 match o.dst with
 |some d=>
  match nth st.boxes d with
  |some none=>
   bif args.all (λx=>(st.rd x).Gt) then
    aa ((Γ f).fn (args.map st.rd)) λy=>
     bif ((Γ f).back y).all AC.Gt then K ((st.eD d (some ((Γ f).back y))).put (some d) (.one (.ptr d 0))) else none
   else none
  |_=>none
 |none=>none
def Bt (o:Oper)(f:Operand)(args:aw Operand)(st:AS)(K:AS->ax R):ax R:=
 match st.rd f with
 | .val false [.fn f]=>
   bif (Γ f).bx then sY Γ o f args st K else
   bif (Γ f).pr then ZL Γ o f args st K else
   bif (Γ f).io then none
   else aa ((Γ f).fn (args.map λx=>((st.rd x).fresh st).asArg st.ep)) λr=>cond ((Γ f).sel r) (K ((st.fi o.dst).put o.dst (((Γ f).av r).Br st.ep (st.gR o.dst)))) (K ((st.fi o.dst).put o.dst (((Γ f).alt r).Br st.ep (st.gR o.dst))))
 |_=>none
def Bu {R:Type}(op:BinOp)(b:Bool)(K:AC->ax R):ax R:=
 match op with
 | .eql=>K (.bool b)
 | .neq=>K (.bool (!b))
 |_=>none
def yA (o:Oper)(op:BinOp)(T:TypeId)(x y:Operand)(st:AS)(K:AS->ax R):ax R:=
 match st.rd x,st.rd y with
 | .val false [.bool a],.val false [.bool b]=>if E.bool T then Dq op (.one (.bool a)) (.one (.bool b)) λc=>K (st.put o.dst (.one c)) else none
 | .val true xs,.val true ys=>match Nq E.eqs T with
   |some ls=>if fits ls xs then Dq op (.val true xs) (.val true ys) λc=>K (st.put o.dst (.one c)) else none
   |none=>none
 | .val false [.sl fl _ xs],.val false [.jn]=>if(E.sl T).isSome/\fl.live st.ep then(if xs.length=0 then none else Bu op false λc=>K (st.put o.dst (.one c))) else none
 | .val false [.jn],.val false [.jn]=>if(E.sl T).isSome then Bu op true λc=>K (st.put o.dst (.one c)) else none
 |a,b=>Dq op a b λc=>K (st.put o.dst (.one c))
def cX (o:Oper)(st:AS)(K:AS->ax R):ax R:=
 match o.op with
 | .move x=>zZ an o x st K
 | .assign x=>if yf an o then Nn o x st K else sX E an o x st K
 | .pick c a b=>Ct o c a b st K
 | .alloc T=>Ao E o T st K
 | .box _ x=>Oc o x st K
 | .load T p=>nS E an o T p st K
 | .store T p x=>match o.dst with|none=>(if yf an o then uV E T p x st K else uU E T p x st K)|some _=>none
 | .nilCheck x=>
   match st.rd x with
   | .val false [.ptr s off]=>K (st.put o.dst (.one (.ptr s off)))
   | .val false [.zk fl e y i off]=>K (st.put o.dst (.one (.zk fl e y i off)))
   |_=>none
 | .binOp op T x y _=>yA E o op T x y st K
 | .unOp op _ x=>unC op (st.rd x) λc=>K (st.put o.dst (.one c))
 | .fieldAddr S p f=>xS E o S p f st K
 | .indexAddr T x i=>lJ E o T x i st K
 | .index T x i=>zv E o T x i st K
 | .build T parts=>zh E o T parts.toList st K
 | .buildSlice T len parts=>kV E o T len parts.toList st K
 | .makeSlice T n c=>nt E o T n c st K
 | .slice T x lo hi none=>yn E an o T x lo hi st K
 | .field S (.tmp t) f=>CZ E o S t f st K
 | .call {callee:=.builtin .copy,args,argTypes}=>MJ E o argTypes.toList args.toList st K
 | .convert src dst x=>kX E o src dst x st K
 | .extract (.tmp t) i=>kZ o t i st K
 | .call {callee:=.builtin .len,args,argTypes}=>KL E o argTypes.toList args.toList st K
 | .call {callee:=.builtin .min,args,..}=>Mi o args.toList st K
 | .call {callee:=.builtin .max,args,..}=>Mh o args.toList st K
 | .call {callee:=.builtin .append,args,argTypes}=>uZ E o argTypes.toList args.toList st K
 | .call {callee:=.value f,args,..}=>Bt Γ o f args.toList st K
 |_=>none
def gh (ops:aw Oper)(o:Oper)(st:AS)(K:AS->ax R):ax R:=
 match o.guard with
 |none=>cX E Γ an o st K
 |some (j,EH)=>
  match (nth ops j).bind (·.dst)with
  |some d=>
   match st.get d with
   | .val false [.bool b]=>
     let go (t:Bool):ax R:=
      if t==EH then cX E Γ an o (st.put (some d) (.one (.bool t))) K else K ((st.put (some d) (.one (.bool t))).put o.dst (.one .un))
     cond b (go true) (go false)
   | .val false [.un]=>K (st.put o.dst (.one .un))
   |_=>none
  |none=>none
def PW (ops:aw Oper):aw Oper->AS->(AS->ax R)->ax R
 |[],st,K=>K st
 |o::r,st,K=>gh E Γ an ops o st λbK=>PW ops r bK K
def fu:Code->Nat
 | .region id _ _=>id
 | .seq a _=>fu a
 | .block _ c=>fu c
 | .loop c=>fu c
 | .cond _ a b=>match fu a with|0=>fu b|n=>n
 |_=>0
def BS (c:Code):Nat:=1000000+2*fu c
def kj (l:fg):Code->aw Code
 | .seq a b=>kj l a++(bif l.contains (fu b) then b::kj l b else kj l b)
 | .cond _ a b=>kj l a++kj l b
 | .block _ c=>kj l c
 | .loop c=>kj l c
 |_=>[]
def ta (l:fg)(fn:Func)(k:Nat):Code:=(nth (kj l (fn.body.getD .skip)) k).getD .skip
def iW:Code->aw Code
 | .seq a b=>iW a++iW b
 | .cond _ a b=>iW a++iW b
 | .block _ c=>iW c
 | .loop c=>c::iW c
 |_=>[]
def aY (fn:Func)(k:Nat):Code:=(nth (iW (fn.body.getD .skip)) k).getD .skip
def Xk (j:Nat):Nat:=3*(4096*1000003+j)
def jW.CI:jW->ax Nat
 | .slot s j=>bif Nat.ble 4096 j then none else bif Nat.ble 1000000 s then none else some (3*(4096*s+j))
 | .box s j=>bif Nat.ble 4096 j then none else some (3*(4096*s+j)+1)
 | .io j=>bif Nat.ble 4096 j then none else some (Xk j)
def AC.ab8 (io:aw AC)(j t:Nat)(e:CT):ax (aw e.D):=
 match nth io j with
 |some (.sl (.own (some t')) e' ys)=>if h:e'=e then bif t'==t then some (h▸ys) else none else none
 |_=>none
def AC.mask (keep:fg)(ep:Nat)(io:aw AC)(rt:jW):AC->AC
 | .ptr s off=>if keep.contains s then .ptr s off else .bot
 | .sl (.loc e pv) t xs=>
   match pv with
   |some (.io j,n)=>match AC.ab8 io j n t with
    |some ys=> .sl (.loc 0 ((jW.CI (.io j)).map λq=>(.io j,q))) t ys
    |none=>if e==ep then .sl (.loc 0 none) t xs else .bot
   |_=>if e==ep then .sl (.loc 0 none) t xs else .bot
 | .sl (.own _) t xs=> .sl (.own rt.CI) t xs
 | .sl (.nest ..) _ _=> .bot
 | .sl (.part ..) _ _=> .bot
 | .sl (.fa _ i _) e xs=> .sl (.fa none i none) e xs
 | .zk _ _ _ _ _=> .bot
 |c=>c
def GX (keep:fg)(ep:Nat)(io:aw AC)(f:Nat->jW):Nat->aw AC->aw AC
 |_,[]=>[]
 |j,c::cs=>c.mask keep ep io (f j)::GX keep ep io f (j+1) cs
def AV.mask (keep:fg)(ep:Nat)(io:aw AC)(s:Nat):AV->AV
 | .val g cs=> .val g (GX keep ep io (.slot s) 0 cs)
 | .uw _=> .bot
def mI (keep:fg)(ep:Nat)(io:aw AC):Nat->aw AV->aw AV
 |_,[]=>[]
 |i,v::r=>(if keep.contains i then v.mask keep ep io i else .bot)::mI keep ep io (i+1) r
def mH (keep:fg)(ep:Nat)(io:aw AC):Nat->aw (ax (aw AC))->aw (ax (aw AC))
 |_,[]=>[]
 |i,b::r=>(if keep.contains i then b.map (GX keep ep io (.box i) 0) else none)::mH keep ep io (i+1) r
def Vw (keep:fg):Nat->aw AC->aw AC
 |_,[]=>[]
 |j,c::cs=>(match c with| .sl (.own _) e xs=> .sl (.own (jW.CI (.io j))) e xs| .sl (.fa _ i _) e xs=> .sl (.fa none i none) e xs| .ptr s off=>if keep.contains s then .ptr s off else .bot|c=>bif c.je then c else .bot)::Vw keep (j+1) cs
def AS.mask (keep:fg)(st:AS):AS:=
 ⟨mI keep st.ep st.io 0 st.slots,mH keep st.ep st.io 0 st.boxes,0,List.replicate st.slots.length false,Vw keep 0 st.io⟩
def getBool (st:AS)(s:Nat):ax Bool:=
 match st.get s with
 | .val false [.bool b]=>some b
 |_=>none
def gn (an:An)(ds:fg)(o:Oper):Bool:=
 match o.op with
 | .assign (.const _)=> !yf an o
 | .assign (.tmp t)=>ds.contains t&& !yf an o
 | .move _| .load ..=>match o.dst with|some d=> !an.mv.contains d|none=>false
 | .slice ..=> !CM an o
 | .pick ..| .binOp ..| .unOp ..| .fieldAddr ..| .indexAddr ..| .index ..| .nilCheck _=>true
 | .build _ ps=>ps.isEmpty
 | .call {callee:=.builtin .len,..}| .call {callee:=.builtin .min,..}| .call {callee:=.builtin .max,..}=>true
 | .call {callee:=.value _,..}=>true
 |_=>false
def Ec (ops:aw Oper):fg:=ops.filterMap (·.dst)
def AS.yJ (st:AS):fg->AS
 |[]=>st
 |d::r=>((st.put (some d) .bot).fi (some d)).yJ r
def Dw (ops:aw Oper)(A:aw fg):Nat->aw Oper->AS->(AS->ax R)->ax R
 |_,[],st,K=>K st
 |i,o::r,st,K=>bif dq E an (qP an A i 0 ops) o st then gh E Γ an ops o st λbK=>Dw ops A (i+1) r bK K else none
def B5 (ops:aw Oper)(draw:Bool)(st:AS)(K:AS->ax R):ax R:=
 bif draw then(bif Rn an ops then Dw E Γ.EE an ops (QL ops []) 0 ops st K else none) else PW E Γ an ops ops st K
def P4 (id:Nat)(ops:aw Oper)(draw:Bool)(st:AS)(K:AS->ax R):ax R:=
 match an.merge id with
 |none=>B5 E Γ an ops draw st K
 |some s=>
  if ops.all (gn an (Ec ops)) then
   aa (B5 E Γ.calm an ops draw st λbK=>getBool bK s) λb=>K ((st.yJ (Ec ops)).put (some s) (.one (.bool b)))
  else none
def BE (key:fg)(B:AS->(Ex->AS->ax R)->ax R):Nat->AS->(Ex->AS->ax R)->ax R
 |0,_,_=>none
 |m+1,st,K=>B st λe bK=>
  match e with
  | .normal=>BE key B m (bK.mask key) K
  |e=>K e (bK.mask key)
def den (Λ:dL):Code->AS->(Ex->AS->ax R)->ax R
 | .skip,st,K=>K .normal st
 | .region id ops draw,st,K=>P4 E Γ an id ops.toList draw st (K .normal)
 | .seq a b,st,K=>den Λ a st λe bK=>match e with
   | .normal=>bif an.cut.contains (fu b) then(Λ (BS b)).go (bK.mask (an.mask (BS b))) K else den Λ b bK K
   |e=>K e bK
 | .cond c a b,st,K=>
   match st.rd c with
   | .val false [.bool t]=>cond t (den Λ a st K) (den Λ b st K)
   |_=>none
 | .block id c,st,K=>den Λ c st λe bK=>
   match e with
   | .exit j=>if j==id then K .normal bK else K (.exit j) bK
   |e=>K e bK
 | .loop c,st,K=>
   bif an.peel.contains (fu c) then den Λ c (st.mask (an.mask (fu c))) λe bK=>
    match e with
    | .normal=>(Λ (fu c)).go (bK.mask (an.mask (fu c))) K
    |e=>K e (bK.mask (an.mask (fu c)))
   else(Λ (fu c)).go (st.mask (an.mask (fu c))) K
 | .exit id,st,K=>K (.exit id) st
 | .ret,st,K=>K .ret st
 |_,_,_=>none
end
def Lb (st:AS)(E:Env):ResultVar->ax ((Bool×Nat)×Bool×aw AC)
 | .tmp t=>match st.get t with| .val g cs=>some ((false,t),g,cs.map AC.strip)|_=>none
 | .cell t T=>match iQ E.ty T,st.get t with
   |some sh,.val false [.ptr s off]=>((nth st.boxes s).getD none).bind λcs=>
    if off+sh.ct.size<=cs.length then some ((true,s),sh.agg,((cs.drop off).take sh.ct.size).map AC.strip) else none
   |_,_=>none
def qN (st:AS)(E:Env):aw (Bool×Nat)->aw ResultVar->ax (aw (Bool×aw AC))
 |_,[]=>some []
 |had,r::rs=>(Lb st E r).bind λx=>if had.contains x.1 then none else(qN st E (x.1::had) rs).bind λxs=>some (x.2::xs)
def results (E:Env)(rs:aw ResultVar)(st:AS):ax AV:=
 match qN st E [] rs with
 |some [(g,cs)]=>some (.val g cs)
 |some vs=>some (.uw vs)
 |none=>none
def start (fn:Func)(args:aw AV):AS:=⟨args++List.replicate (fn.ntmps-args.length) .bot,List.replicate (args.length+(fn.ntmps-args.length)) none,0,List.replicate fn.ntmps false,[]⟩
abbrev kO:aw (Bool×FT)->Type
 |[]=>Unit
 |[(_,t)]=>t.ct.D
 |(_,t)::r=>t.ct.D×kO r
def kM:(l:aw (Bool×FT))->aw (Bool×aw AC)->ax (kO l)
 |[],[]=>some ()
 |[(g,t)],[(g',cs)]=>bif g==g' then(match IX t cs with|some (x,[])=>some x|_=>none) else none
 |(g,t)::p::r,(g',cs)::vs=>bif g==g' then(match IX t cs with|some (x,[])=>(kM (p::r) vs).bind λy=>some (x,y)|_=>none) else none
 |_,_=>none
def ajM:(l:aw (Bool×FT))->kO l->aw (Bool×aw AC)
 |[],_=>[]
 |[(g,t)],x=>[(g,jc t x)]
 |(g,t)::p::r,x=>(g,jc t x.1)::ajM (p::r) x.2
def xM (l:aw (Bool×FT))(x:kO l):AV:=
 match ajM l x with
 |[(g,cs)]=> .val g cs
 |vs=> .uw vs
def JY (E:Env)(Γ:fy)(an:An)(Λ:dL)(fn:Func)(rs:aw (Bool×FT))(args:aw AV):ax (kO rs):=
 match fn.body with
 |some c=>if args.length=fn.params.size then den E Γ an Λ c (start fn args) λe st=>
  match e with
  | .exit _=>none
  |_=>aa (qN st E [] fn.results.toList) (kM rs)
  else none
 |none=>none
def evalAlt (E:Env)(Γ:fy)(an:An)(Λ:dL)(fn:Func)(rs LU:aw (Bool×FT))(h:kO LU=kO rs)(args:aw AV):ax (Bool×kO rs):=
 match fn.body with
 |some c=>if args.length=fn.params.size then den E Γ an Λ c (start fn args) λe st=>
  match e with
  | .exit _=>none
  |_=>aa (qN st E [] fn.results.toList) λys=>
   match kM rs ys with
   |some y=>some (true,y)
   |none=>match kM LU ys with
    |some y=>some (false,cast h y)
    |none=>none
  else none
 |none=>none
def EY:Nat->aw AC->aw AC
 |_,[]=>[]
 |j,.sl (.own _) e xs::cs=> .sl (.own (some (3*j+1))) e xs::EY (j+1) cs
 |j,c::cs=>c::EY (j+1) cs
def yp (fn:Func)(cs:aw AC)(args:aw AV):AS:=
 {start fn (.one (.ptr 0 0)::args)with boxes:=some (EY 0 cs)::List.replicate (args.length+(fn.ntmps-(args.length+1))) none,io:=[.ptr 0 0]}
def W2 (E:Env)(Γ:fy)(an:An)(Λ:dL)(fn:Func)(rs:aw (Bool×FT))(t:FT)(args:aw AV):ax (kO rs×t.ct.D):=
 match fn.body,args with
 |some c,.val true cs::xs=>if xs.length+1=fn.params.size/\cs.all (AC.wN true)=true then den E Γ an Λ c (yp fn cs xs) λe st=>
  match e with
  | .exit _=>none
  |_=>aa (aa (qN st E [(true,0)] fn.results.toList) (kM rs)) λr=>
   match st.io,st.boxes with
   |[.ptr 0 0],some po::_=>match IX t (po.map AC.strip)with
    |some (x,[])=>some (r,x)
    |_=>none
   |_,_=>none
  else none
 |_,_=>none
def O8 (E:Env)(Γ:fy)(an:An)(Λ:dL)(fn:Func)(t:FT)(args:aw AV):ax t.ct.D:=
 match fn.body with
 |some c=>if args.length=fn.params.size then den E Γ an Λ c (start fn args) λe st=>
  match e with
  | .exit _=>none
  |_=>match fn.results.toList with
   |[.tmp i]=>match st.get i with
    | .val false [.ptr s 0]=>match (nth st.boxes s).getD none with
      |some cs=>if cs.all AC.Gt=true then(match IX t (cs.map AC.strip)with|some (x,[])=>some x|_=>none) else none
      |none=>none
    |_=>none
   |_=>none
  else none
 |none=>none
end Go.Dn
