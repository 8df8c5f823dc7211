import Derived.Test.YtfbhfnniblfpbaaGreatDnData
/- An abstract, heap-free semantics of the model's code, for functions that treat their data by value: definitions. -/
namespace Go.Dn
inductive kL where
 |slot (s j:Nat)|box (s j:Nat)|io (j:Nat)
 deriving DecidableEq
inductive rj where
 |own (tag:Option Nat)
 |loc (ep:Nat) (pv:Option (kL×Nat))
 |arg (k:Bool)
 |nest (ep:Nat) (r:kL) (t:Nat) (e:CT) (i:Int) (off:Nat)
 |part (ep:Nat) (r:kL) (t:Nat) (lo:Int)
 |eY (tag:Option Nat) (i:Int) (ep:Option Nat)
inductive AC where
 |int (k:IntKind) (n:Int)|bool (b:Bool)|str (s:List UInt8)
 |sl (fl:rj) (e:CT) (xs:List e.D)
 |jE
 |ptr (s off:Nat)
 |Cd (fl:rj) (e:CT) (x:e.D) (i:Int) (off:Nat)
 |fn (f:Nat)
 |un
 |bot
inductive AV where
 |val (agg:Bool) (cs:List AC)
 |xn (vs:List (Bool×List AC))
abbrev AV.one (c:AC):AV:=.val false [c]
abbrev AV.bot:AV:=.val false [.bot]
structure AS where
 slots:List AV
 boxes:List (Option (List AC))
 ep:Nat
 iss:List Bool
 io:List AC
structure Shape where
 agg:Bool
 ct:CT
 kb:List (Nat×Nat):=[]
structure An where
 mask:Nat->List Nat:=λ_=>[]
 merge:Nat->Option Nat:=λ_=>none
 mv:List Nat:=[]
 nest:List Nat:=[]
 mb:Nat->Option Nat:=λ_=>none
 sb:Nat->Option Nat:=λ_=>none
 late:List Nat:=[]
 peel:List Nat:=[]
 nils:List Nat:=[]
 fm:List Nat:=[]
 eb:Nat->Option Nat:=λ_=>none
 es:Nat->Option Nat:=λ_=>none
 er:Nat->Option Nat:=λ_=>none
 cut:List Nat:=[]
def cellsOf:(t:CT)->rj->t.D->au AC
 | .int k,_,n=>[.int k n]
 | .bool,_,b=>[.bool b]
 | .str,_,s=>[.str s]
 | .sl e,fl,xs=>[.sl fl e xs]
 | .pair a b,fl,x=>cellsOf a fl x.1++cellsOf b fl x.2
def jt:(t:CT)->au AC->ax (t.D×au AC)
 | .int k,.int k' n::r=>if k'=k then some (n,r) else none
 | .bool,.bool b::r=>some (b,r)
 | .str,.str s::r=>some (s,r)
 | .sl e,.sl (.own _) e' xs::r=>if h:e'=e then some (h▸xs,r) else none
 | .sl _,.jE::r=>some ([],r)
 | .pair a b,cs=>(jt a cs).bind λx=>(jt b x.2).bind λy=>some ((x.1,y.1),y.2)
 |_,_=>none
def nth {α:Type}:au α->Nat->ax α
 |[],_=>none
 |a::_,0=>some a
 |_::l,n+1=>nth l n
def gN {α:Type}:au α->Nat->α->au α
 |[],_,_=>[]
 |_::l,0,v=>v::l
 |a::l,n+1,v=>a::gN l n v
def AS.get (st:AS)(i:Nat):AV:=(nth st.slots i).getD .bot
def AS.put (st:AS)(d:ax Nat)(v:AV):AS:=
 match d with
 |some d=>{st with slots:=gN st.slots d v}
 |none=>st
def JO (d j:Nat):Nat:=3*(4096*d+j)+2
def AS.gZ (st:AS)(d:ax Nat)(j:Nat):ax Nat:=
 match d with
 |some d=>bif (nth st.iss d).getD true then none else bif Nat.ble 4096 j then none else some (JO d j)
 |none=>none
def AS.fi (st:AS)(d:ax Nat):AS:=
 match d with
 |some d=>{st with iss:=gN st.iss d true}
 |none=>st
def AS.qt (st:AS)(d:ax Nat)(e:CT)(xs:au e.D):AS:=
 (st.fi d).put d (.one (.sl (.own (st.gZ d 0)) e xs))
def AC.borrow (ep:Nat)(rt:ax kL):AC->AC
 | .sl (.own tag) e xs=> .sl (.loc ep (match rt,tag with|some r,some t=>some (r,t)|_,_=>none)) e xs
 | .sl (.eY tag _ (some Na)) e xs=> .sl (.loc Na (match rt,tag with|some r,some t=>some (r,t)|_,_=>none)) e xs
 | .sl (.eY _ _ none) _ _=> .bot
 |c=>c
def ir (ep:Nat)(f:Nat->kL):Nat->au AC->au AC
 |_,[]=>[]
 |j,c::cs=>c.borrow ep (some (f j))::ir ep f (j+1) cs
def aS (ep:Nat)(cs:au AC):au AC:=cs.map (AC.borrow ep none)
def AV.borrow (ep:Nat)(f:Nat->kL):AV->AV
 | .val g cs=> .val g (ir ep f 0 cs)
 | .xn vs=> .xn (vs.map λx=>(x.1,aS ep x.2))
def AV.aS (ep:Nat):AV->AV
 | .val g cs=> .val g (Dn.aS ep cs)
 | .xn vs=> .xn (vs.map λx=>(x.1,Dn.aS ep x.2))
def ofConst:Value->AV
 | .int k n=> .one (.int k n)
 | .bool b=> .one (.bool b)
 | .string s=> .one (.str s.data.toList)
 | .slice none 0 0=> .one .jE
 |_=> .bot
def AS.rd (st:AS):Operand->AV
 | .tmp t=>(st.get t).borrow st.ep (.slot t)
 | .const v=>ofConst v
 | .func f=> .one (.fn f)
 | .global _=> .bot
def AS.take (st:AS):Operand->AV×AS
 | .tmp t=>(st.get t,st.put (some t) ((st.get t).aS st.ep))
 |x=>(st.rd x,st)
def AS.eE (st:AS)(s:Nat)(b:ax (au AC)):AS:={st with boxes:=gN st.boxes s b}
def AC.asArg (ep:Nat):AC->AC
 | .int k n=> .int k n
 | .bool b=> .bool b
 | .str s=> .str s
 | .sl (.own _) e xs=> .sl (.arg false) e xs
 | .sl (.loc ep' _) e xs=>if ep'==ep then .sl (.arg false) e xs else .bot
 | .sl (.arg _) e xs=> .sl (.arg false) e xs
 | .jE=> .jE
 | .fn f=> .fn f
 |_=> .bot
def AV.asArg (ep:Nat):AV->AV
 | .val g cs=> .val g (cs.map (AC.asArg ep))
 | .xn _=> .bot
def AC.ED (ep:Nat)(tag:ax Nat):AC->AC
 | .sl (.own _) e xs=> .sl (.own tag) e xs
 | .sl (.arg _) e xs=> .sl (.loc ep none) e xs
 | .sl (.loc _ _) _ _=> .bot
 | .sl (.nest ..) _ _=> .bot
 | .sl (.part ..) _ _=> .bot
 | .sl (.eY _ i _) e xs=> .sl (.eY none i none) e xs
 | .ptr _ _=> .bot
 | .Cd _ _ _ _ _=> .bot
 |c=>c
def Jp (ep:Nat)(mk:Nat->ax Nat):Nat->au AC->au AC
 |_,[]=>[]
 |j,c::cs=>c.ED ep (mk j)::Jp ep mk (j+1) cs
def Yj (ep:Nat)(mk:Nat->ax Nat):Nat->au (Bool×au AC)->au (Bool×au AC)
 |_,[]=>[]
 |j,t::ts=>(t.1,Jp ep mk j t.2)::Yj ep mk (j+t.2.length) ts
def AV.ED (ep:Nat)(mk:Nat->ax Nat):AV->AV
 | .val g cs=> .val g (Jp ep mk 0 cs)
 | .xn vs=> .xn (Yj ep mk 0 vs)
def AC.Ii:AC->Bool
 | .sl (.arg _) _ _=>true
 | .int ..=>true
 | .bool _=>true
 | .str _=>true
 | .fn _=>true
 |_=>false
structure zH where
 R:Type
 fn:List AV->Option R
 av:R->AV
 io:Bool:=false
 back:R->List AC:=λ_=>[]
 bx:Bool:=false
 pr:Bool:=false
 sel:R->Bool:=λ_=>true
 alt:R->AV:=λ_=> .val false [.bot]
 cur:Bool:=false
 hcur:cur=true->∀y,(back y).all AC.Ii=true:=by intro h;cases h
def zH.res (F:zH)(y:F.R):AV:=cond (F.sel y) (F.av y) (F.alt y)
abbrev xu:=Nat->zH
def zH.dead:zH:={R:=Unit,fn:=λ_=>none,av:=λ_=> .val false [.bot]}
def xu.calm (Γ:xu):xu:=λf=>bif (Γ f).io||(Γ f).bx||(Γ f).pr then zH.dead else Γ f
def xu.H2 (Γ:xu):xu:=λf=>bif (Γ f).io||(Γ f).pr||((Γ f).bx&& !(Γ f).cur) then zH.dead else Γ f
def I6 {R:Type}(op:BinOp)(k:IntKind)(x y:Int)(K:AC->ax R):ax R:=
 match op with
 | .add=>K (.int k (k.wrap (x+y)))
 | .sub=>K (.int k (k.wrap (x-y)))
 | .mul=>K (.int k (k.wrap (x*y)))
 | .quo=>if y=0 then none else K (.int k (k.wrap (x.tdiv y)))
 | .rem=>if y=0 then none else K (.int k (x.tmod y))
 | .and=>K (.int k (k.wrap (BitVec.ofInt k.bits x&&&BitVec.ofInt k.bits y).toNat))
 | .or=>K (.int k (k.wrap (BitVec.ofInt k.bits x|||BitVec.ofInt k.bits y).toNat))
 | .xor=>K (.int k (k.wrap (BitVec.ofInt k.bits x^^^BitVec.ofInt k.bits y).toNat))
 | .andNot=>K (.int k (k.wrap (BitVec.ofInt k.bits x&&&~~~ BitVec.ofInt k.bits y).toNat))
 | .eql=>K (.bool (x==y))
 | .neq=>K (.bool (x !=y))
 | .lss=>K (.bool (decide (x<y)))
 | .leq=>K (.bool (decide (x<=y)))
 | .gtr=>K (.bool (decide (x>y)))
 | .geq=>K (.bool (decide (x>=y)))
 |_=>none
def LW {R:Type}(op:BinOp)(x y:au UInt8)(K:AC->ax R):ax R:=
 match op with
 | .add=>room (x.length+y.length) (K (.str (x++y)))
 | .eql=>K (.bool (x==y))
 | .neq=>K (.bool (!(x==y)))
 | .lss=>K (.bool (Op.bytesLess x y))
 | .leq=>K (.bool (Op.bytesLess x y||x==y))
 | .gtr=>K (.bool (!(Op.bytesLess x y||x==y)))
 | .geq=>K (.bool (!(Op.bytesLess x y)))
 |_=>none
def vN:au AC->au AC->ax Bool
 |[],[]=>some true
 | .int k x::r,.int k' y::r'=>if k=k' then(vN r r').bind λb=>some ((x==y)&&b) else none
 | .bool x::r,.bool y::r'=>(vN r r').bind λb=>some ((x==y)&&b)
 | .str x::r,.str y::r'=>(vN r r').bind λb=>some ((x==y)&&b)
 |_,_=>none
def GQ {R:Type}(op:BinOp)(x y:AV)(K:AC->ax R):ax R:=
 match x,y with
 | .val false [.int k a],.val false [.int k' b]=>
   match op with
   | .shl=>if b<0 then none else K (.int k (k.wrap (a*2^(min b.toNat k.bits))))
   | .shr=>if b<0 then none else K (.int k (a.fdiv (2^(min b.toNat k.bits))))
   |_=>if k=k' then I6 op k a b K else none
 | .val false [.str a],.val false [.str b]=>LW op a b K
 | .val false [.bool a],.val false [.bool b]=>
   match op with
   | .eql=>K (.bool (a==b))
   | .neq=>K (.bool (!(a==b)))
   |_=>none
 | .val true xs,.val true ys=>
   match op with
   | .eql=>aa (vN xs ys) λb=>K (.bool b)
   | .neq=>aa (vN xs ys) λb=>K (.bool (!b))
   |_=>none
 |_,_=>none
def unC {R:Type}(op:UnOp)(x:AV)(K:AC->ax R):ax R:=
 match op,x with
 | .not,.val false [.bool b]=>K (.bool (!b))
 | .neg,.val false [.int k n]=>K (.int k (k.wrap (0-n)))
 | .xor,.val false [.int k n]=>I6 .xor k (if k.signed then-1 else k.max) n K
 |_,_=>none
def dZ (cs:au AC)(off:Nat)(vs:au AC):au AC:=cs.take off++vs++cs.drop (off+vs.length)
def AS.eL (st:AS):kL->ax AC
 | .slot s j=>match st.get s with| .val _ cs=>nth cs j|_=>none
 | .box s j=>((nth st.boxes s).getD none).bind λcs=>nth cs j
 | .io j=>nth st.io j
def AS.eT (st:AS)(r:kL)(c:AC):AS:=
 match r with
 | .slot s j=>match st.get s with| .val g cs=>st.put (some s) (.val g (gN cs j c))|_=>st
 | .box s j=>match (nth st.boxes s).getD none with|some cs=>st.eE s (some (gN cs j c))|none=>st
 | .io j=>{st with io:=gN st.io j c}
def AS.fresh (st:AS):AC->AC
 | .sl (.loc ep (some (r,t))) e xs=>
   bif ep==st.ep then .sl (.loc ep (some (r,t))) e xs else
    match st.eL r with
    |some (.sl (.own (some t')) e' ys)=>if h:e'=e then bif t'==t then .sl (.loc st.ep (some (r,t))) e (h▸ys) else .sl (.loc ep (some (r,t))) e xs else .sl (.loc ep (some (r,t))) e xs
    |_=> .sl (.loc ep (some (r,t))) e xs
 |c=>c
def AV.fresh (st:AS):AV->AV
 | .val g cs=> .val g (cs.map st.fresh)
 | .xn vs=> .xn vs
def AC.now (ep:Nat):AC->Bool
 | .sl (.loc ep' (some _)) _ _=>ep'==ep
 |_=>true
def AS.pZ {R:Type}(st:AS)(r:kL)(t:Nat)(e:CT)(i:Int)(off:Nat)(vs:au AC)(K:AS->ax R):ax R:=
 match st.eL r with
 |some (.sl (.own (some t')) e' xs)=>
  if h:e'=e then
   if t'=t then
    aa (idx (h▸xs:au e.D) i) λx=>
     match jt e (dZ (cellsOf e (.own none) x) off vs)with
     |some (x',[])=>K {st.eT r (.sl (.own (some t')) e ((h▸xs:au e.D).set i.toNat x'))with ep:=st.ep+1}
     |_=>none
   else none
  else none
 |some (.sl (.eY (some t') i' _) e' xs)=>
  if h:e'=e then
   if t'=t/\off=0 then
    aa (aaJ (h▸xs:au e.D) i' i) λ_=>
     match jt e vs with
     |some (x',[])=>K {st.eT r (.sl (.own (some t')) e ((h▸xs:au e.D).set i.toNat x'))with ep:=st.ep+1}
     |_=>none
   else none
  else none
 |_=>none
def AV.cells:AV->au AC
 | .val _ cs=>cs
 | .xn _=>[.bot]
def eM (st:AS):au Operand->au AV×AS
 |[]=>([],st)
 |x::xs=>let (v,st1):=st.take x;let (vs,st2):=eM st1 xs;(v::vs,st2)
def Dk (e:CT):au (au AC)->ax (au e.D)
 |[]=>some []
 |cs::r=>match jt e cs with
  |some (x,[])=>(Dk e r).bind λxs=>some (x::xs)
  |_=>none
def I4:Nat->au (Nat×Operand)->Bool
 |_,[]=>true
 |n,(i,_)::r=>i==n&&I4 (n+1) r
def AC.Jz:AC->Bool
 | .bot=>false
 | .un=>false
 |_=>true
def xA (kb:au (Nat×Nat))(zero:au AC):au (Nat×au AC)->ax (au AC)
 |[]=>some zero
 |(i,cs)::r=>match nth kb i with
  |some (off,n)=>if cs.length=n/\off+n<=zero.length/\cs.all AC.Jz then xA kb (dZ zero off cs) r else none
  |none=>none
inductive LK where
 |int|bool|str
 deriving DecidableEq
structure Env where
 ty:List (Nat×Shape)
 eqs:List (Nat×List LK):=[]
 fts:List ((Nat×Nat)×Nat):=[]
def QY (l:au (Nat×au LK))(t:Nat):ax (au LK):=
 match l with
 |[]=>none
 |(u,sh)::r=>bif u==t then some sh else QY r t
def fits:au LK->au AC->Bool
 |[],[]=>true
 | .int::ls,.int _ _::r=>fits ls r
 | .bool::ls,.bool _::r=>fits ls r
 | .str::ls,.str _::r=>fits ls r
 |_,_=>false
def U8 (l:au ((Nat×Nat)×Nat))(S f:Nat):ax Nat:=
 match l with
 |[]=>none
 |((u,k),T)::r=>bif u==S&&k==f then some T else U8 r S f
def iY (l:au (Nat×Shape))(t:Nat):ax Shape:=
 match l with
 |[]=>none
 |(u,sh)::r=>bif u==t then some sh else iY r t
def Env.sl (E:Env)(t:Nat):ax CT:=
 match iY E.ty t with
 |some ⟨false,.sl e,_⟩=>some e
 |_=>none
def Env.str (E:Env)(t:Nat):Bool:=
 match iY E.ty t with
 |some ⟨false,.str,_⟩=>true
 |_=>false
def Env.bool (E:Env)(t:Nat):Bool:=
 match iY E.ty t with
 |some ⟨false,.bool,_⟩=>true
 |_=>false
def Env.bytes (E:Env)(t:Nat):Bool:=
 match iY E.ty t with
 |some ⟨false,.sl (.int .u8),[(te,_)]⟩=>match iY E.ty te with|some ⟨false,.int .u8,_⟩=>true|_=>false
 |_=>false
def rj.live (ep:Nat):rj->Bool
 | .loc ep' _=>ep'==ep
 | .arg _=>true
 | .own _=>false
 | .nest ..=>false
 | .part ..=>false
 | .eY ..=>false
def rj.qz (ep:Nat)(flat:Bool):rj->Bool
 | .loc ep' _=>ep'==ep&&flat
 | .arg _=>flat
 | .own _=>true
 | .nest ..=>false
 | .part ..=>false
 | .eY ..=>false
def rj.bare:rj->rj
 | .loc ep _=> .loc ep none
 |f=>f
def AC.jl:AC->Bool
 | .int _ _=>true
 | .bool _=>true
 | .str _=>true
 | .fn _=>true
 |_=>false
def tm:Operand->eo
 | .tmp t=>[t]
 |_=>[]
def P5 (l:au Operand):eo:=l.flatMap tm
def F3 (an:An)(o:Oper):Bool:=
 match o.dst with
 |some d=>an.mv.contains d&&(an.mb d).isNone
 |none=>false
def aiP (an:An)(o:Oper):Bool:=
 match o.dst with
 |some d=>an.nils.contains d
 |none=>false
def BJ (an:An)(o:Oper):Bool:=
 match o.op with
 | .assign (.tmp s)=>an.late.contains s
 | .store _ _ (.tmp s)=>an.late.contains s
 |_=>false
def tmO:ax Operand->eo
 |some x=>tm x
 |none=>[]
def dA (o:Oper):eo:=
 match o.op with
 | .move x=>tm x
 | .assign x=>tm x
 | .pick c a b=>tm c++tm a++tm b
 | .box _ x=>tm x
 | .load _ p=>tm p
 | .store _ p x=>tm p++tm x
 | .nilCheck x=>tm x
 | .binOp _ _ x y _=>tm x++tm y
 | .unOp _ _ x=>tm x
 | .fieldAddr _ p _=>tm p
 | .indexAddr _ x i=>tm x++tm i
 | .index _ x i=>tm x++tm i
 | .build _ parts=>P5 (parts.toList.map (·.2))
 | .buildSlice _ _ parts=>P5 (parts.toList.map (·.2))
 | .makeSlice _ n c=>tm n++tm c
 | .slice _ x lo hi none=>tm x++tmO lo++tmO hi
 | .convert _ _ x=>tm x
 | .extract (.tmp t) _=>[t]
 | .call {callee:=.builtin _,args,..}=>P5 args.toList
 | .call {callee:=.value f,args,..}=>tm f++P5 args.toList
 |_=>[]
def F2 (an:An)(o:Oper):Bool:=
 match o.op with
 | .move _=>match o.dst with|some d=>an.mv.contains d|none=>false
 | .assign _=>true
 | .box ..=>true
 | .build ..=>true
 | .buildSlice ..=>true
 | .store ..=>true
 | .extract ..=>match o.dst with|some d=>an.mv.contains d|none=>false
 | .call {callee:=.builtin .append,..}=>true
 |_=>false
def F1 (an:An)(o:Oper):Bool:=
 match o.op,o.dst,o.guard with
 | .load _ (.tmp q),some d,none=>an.mv.contains d&&(an.mb d).isNone&&(an.eb q).isSome
 |_,_,_=>false
def Cn (an:An)(o:Oper):Bool:=
 match o.op,o.dst,o.guard with
 | .load _ (.tmp q),some d,none=> !an.mv.contains d&& !an.fm.contains d&&(an.sb q).isSome
 |_,_,_=>false
def F5 (an:An)(o:Oper):eo:=
 match o.op with
 | .alloc _=>o.dst.toList
 | .box ..=>o.dst.toList
 | .load _ p=>match o.dst with|some d=>bif an.mv.contains d then(an.mb d).toList++(bif F1 an o then(match p with| .tmp q=>(an.eb q).toList|_=>[]) else []) else []|none=>[]
 | .store _ (.tmp p) _=>(an.sb p).toList
 | .call {callee:=.value _,args,..}=>(match args.toList with| .tmp q::_=>(an.sb q).toList|_=>[])
 |_=>[]
def nO (an:An)(o:Oper):Bool:=
 match o.op with
 | .move _=>true
 | .load ..=>(match o.dst with|some d=> !an.mv.contains d||(an.mb d).isSome|none=>false)||F1 an o
 | .extract (.tmp _) _=>true
 | .store _ (.tmp p) _=>(an.sb p).isSome&& !BJ an o
 | .assign _=> !BJ an o
 | .pick ..| .alloc _| .box ..| .nilCheck _| .binOp ..| .unOp ..| .fieldAddr ..| .indexAddr ..| .index ..| .build ..| .buildSlice ..| .makeSlice ..| .convert ..=>true
 | .slice _ _ _ _ none=> !F3 an o
 | .call {callee:=.builtin .len,..}| .call {callee:=.builtin .min,..}| .call {callee:=.builtin .max,..}| .call {callee:=.builtin .append,..}=>true
 | .call {callee:=.value _,..}=>true
 |_=>false
def writes (an:An)(o:Oper):eo:=o.dst.toList++(bif F2 an o then dA o else [])
def AV.now (ep:Nat):AV->Bool
 | .val _ cs=>cs.all (AC.now ep)
 | .xn _=>true
def AC.ln:AC->Bool
 | .int ..=>true
 | .bool _=>true
 | .str _=>true
 | .fn _=>true
 | .ptr ..=>true
 |_=>false
def AV.ln:AV->Bool
 | .val _ cs=>cs.all AC.ln
 | .xn _=>false
def Fg (E:Env)(T:TypeId)(st:AS)(s off:Nat):Bool:=
 match iY E.ty T,(nth st.boxes s).getD none with
 |some sh,some cs=>((cs.drop off).take sh.ct.size).all AC.ln
 |_,_=>false
def Ww (an:An)(o:Oper):Bool:=match o.dst with|some d=>an.fm.contains d|none=>false
def CV (an:An)(o:Oper):Bool:=
 match o.op,o.dst,o.guard with
 | .load _ (.tmp _),some d,none=>an.mv.contains d&&(an.mb d).isSome
 |_,_,_=>false
def Nl (an:An)(o:Oper):Bool:=
 match o.op,o.dst,o.guard with
 | .load _ (.tmp _),some d,none=> !an.mv.contains d&&an.fm.contains d
 |_,_,_=>false
def erS (an:An)(o:Oper):eo:=
 match o.op,o.dst with
 | .load ..,some d=>(an.er d).toList
 | .call {callee:=.value _,..},some d=>(an.er d).toList
 |_,_=>[]
def AC.aey (l:eo):AC->Bool
 | .sl (.loc _ (some (.slot b _,_))) _ _=>l.contains b
 | .sl (.loc _ _) _ _=>false
 |_=>true
def Jv (l:eo)(st:AS):Operand->Bool
 | .tmp t=>(match st.get t with| .val _ cs=>cs.all (AC.aey l)| .xn _=>true)
 |_=>true
def acW (an:An)(X l:eo)(st:AS)(xs:au Operand)(q:Nat):AV->Bool
 | .val false [.ptr s _]=> !X.contains s&&an.sb q==some s&&(match (nth st.boxes s).getD none with|some cs=>cs.all AC.Ii|none=>true)&&xs.all (Jv l st)
 |_=>true
def AV.ZF:AV->Bool
 | .val false [.ptr _ _]=>false
 |_=>true
def um (an:An)(X l:eo)(st:AS):au Operand->Bool
 | .tmp q::xs=>acW an X l st xs q (st.rd (.tmp q))
 |x::_=>(st.rd x).ZF
 |[]=>true
def dx (E:Env)(an:An)(X:eo)(o:Oper)(st:AS):Bool:=
 match o.op with
 | .move x=> !Ww an o||(st.rd x).ln
 | .indexAddr _ x _=>(st.rd x).now st.ep||(match st.rd x with| .val _ [.sl (.loc _ (some (.box b _,_))) _ _]=> !X.contains b|_=>false)
 | .slice _ x _ _ none=>(st.rd x).now st.ep
 | .call {callee:=.value _,args,..}=>um an X (erS an o) st args.toList&&args.toList.all λx=>(st.rd x).now st.ep
 | .load T p=>match st.rd p with
   | .val false [.ptr s off]=> !X.contains s&&(match o.dst with|some d=> !an.mv.contains d||an.mb d==some s|none=>true)&&(!Ww an o||Fg E T st s off)
   | .val false [.Cd fl _ _ _ _]=>(fl.live st.ep||(match fl with
     | .loc _ (some (.slot b _,_))=>(erS an o).contains b
     | .loc _ (some (.box b _,_))=> !X.contains b
     |_=>false))&& !(Ww an o||CV an o)&& !Cn an o&&(!F1 an o||(match p,fl with
     | .tmp q,.loc _ (some (.box b _,_))=>an.eb q==some b&& !X.contains b
     |_,_=>false))
   |_=> !(Ww an o||CV an o)
 | .store _ (.tmp p) _=>((an.sb p).isNone&&(an.eb p).isNone&&(an.es p).isNone)||(match st.rd (.tmp p)with
   | .val false [.ptr s _]=> !X.contains s&&an.sb p==some s
   | .val false [.Cd (.loc _ (some (.box b _,_))) _ _ _ _]=>an.eb p==some b&&(an.sb p).isNone&&(an.es p).isNone
   | .val false [.Cd (.loc _ (some (.slot b _,_))) _ _ _ _]=>an.es p==some b&&(an.sb p).isNone&&(an.eb p).isNone
   |_=>false)
 | .extract (.tmp t) i=>match st.get t with
   | .xn vs=>match nth vs i with|some x=>x.2.all AC.jl||(match o.dst with|some d=>an.mv.contains d|none=>false)|none=>true
   |_=>true
 |_=>true
def Fm (an:An)(ops:au Oper)(o:Oper):eo:=
 (match o.guard with
 |some (j,_)=>((nth ops j).bind (·.dst)).toList
 |none=>[])++erS an o
def meets (a b:eo):Bool:=a.any λx=>b.contains x
def WO (an:An)(ops:au Oper)(X Y:eo)(o p:Oper):Bool:=
 nO an o&&nO an p&& !meets (writes an o) (dA p++Fm an ops p++writes an p)&& !meets (writes an p) (dA o++Fm an ops o)&&
 (F5 an o).all (λd=>Y.contains d)&&(F5 an p).all (λd=>X.contains d)&& !meets (F5 an o) (p.dst.toList++F5 an p)&& !meets (F5 an p) o.dst.toList
def Xe (o p:Oper):Bool:=
 match o.op,p.op,o.dst,p.dst,o.guard,p.guard with
 | .extract (.tmp t) i,.extract (.tmp t') j,some d,some d',none,none=>t==t'&& !(i==j)&& !(d==d')&& !(d==t)&& !(d'==t)
 |_,_,_,_,_,_=>false
def Xb (an:An)(o p:Oper):Bool:=
 match p.op,p.dst,p.guard with
 | .store _ (.tmp q) (.tmp x),none,none=>((an.eb q).isSome&&(an.es q).isNone||(match an.es q with|some b=>(an.eb q).isNone&& !(b==x)&& !(b==q)&& !meets [b] (o.dst.toList++dA o)|none=>false))&&(an.sb q).isNone&& !BJ an p&&(match o.op,o.dst,o.guard with
   | .move (.tmp t),some d,none=> !an.mv.contains d&&an.fm.contains d&& !(d==q)&& !(d==x)&& !(t==x)&& !(t==q)&& !(d==t)
   | .extract (.tmp t) _,some d,none=> !(d==q)&& !(d==x)&& !(t==x)&& !(t==q)&& !(d==t)
   |_,_,_=>false)
 |_,_,_=>false
def XU (an:An)(o p:Oper):Bool:=
 (CV an o&&Nl an p||Nl an o&&CV an p)&& !meets o.dst.toList (p.dst.toList++dA p)&& !meets p.dst.toList (dA o)
def W0 (an:An)(o p:Oper):Bool:=Cn an o&&F1 an p&& !meets o.dst.toList (p.dst.toList++dA p)&& !meets p.dst.toList (dA o)
def aeg (an:An)(o p:Oper):Bool:=Xe o p||Xb an o p||XU an o p||W0 an o p
def MN (an:An)(ops:au Oper)(X Y:eo)(o p:Oper):Bool:=aeg an o p||WO an ops X Y o p
def Cp (o:Oper):eo:=(o.after.toList.filter (λe=>Region.binds .any e)).map (·.on)
def Tw (a b:eo):eo:=a.foldl (λs x=>bif s.contains x then s else x::s) b
def TN:au Oper->au eo->au eo
 |[],acc=>acc
 |o::r,acc=>TN r (acc++[(Cp o).foldl (λs j=>Tw (j::(nth acc j).getD []) s) []])
def abC (A:au eo)(i k:Nat):Bool:=((nth A i).getD []).contains k
def Za (an:An)(A:au eo)(i:Nat)(fl pl:Bool):Nat->au Oper->eo
 |_,[]=>[]
 |k,o::r=>(bif !abC A i k&& !abC A k i&& !(k==i)&& !(fl&&CV an o)&& !(pl&&F1 an o) then F5 an o else [])++Za an A i fl pl (k+1) r
def tB (an:An)(A:au eo)(i k:Nat)(ops:au Oper):eo:=Za an A i (match nth ops i with|some o=>Nl an o|none=>false) (match nth ops i with|some o=>Cn an o|none=>false) k ops
def Oe (an:An)(ops:au Oper)(A:au eo)(i:Nat)(oi:Oper):Nat->au Oper->Bool
 |_,[]=>true
 |j,oj::r=>bif Nat.ble i j then true else(abC A i j||MN an ops (tB an A j 0 ops) (tB an A i 0 ops) oj oi)&&Oe an ops A i oi (j+1) r
def SY (an:An)(ops:au Oper)(A:au eo):Nat->au Oper->Bool
 |_,[]=>true
 |i,oi::r=>(Cp oi).all (λk=>Nat.blt k i)&&Oe an ops A i oi 0 ops&&SY an ops A (i+1) r
def T3 (an:An)(ops:au Oper):Bool:=SY an ops (TN ops []) 0 ops
inductive Ex where
 |normal|ret|exit (id:Nat)
inductive FK where
 |own (tag:Option Nat)|arg|ae9|loc|lio (j t:Nat)|nil
def FK.flag:FK->rj
 | .own t=> .own t
 | .arg=> .arg false
 | .ae9=> .arg true
 | .loc=> .loc 0 none
 | .lio j t=> .loc 0 (some (.io j,t))
 | .nil=> .arg false
def FK.isNil:FK->Bool
 | .nil=>true
 |_=>false
inductive FT where
 |int (k:IntKind)|bool|str|sl (fl:FK) (e:CT)|pair (a b:FT)
abbrev FT.ct:FT->CT
 | .int k=> .int k
 | .bool=> .bool
 | .str=> .str
 | .sl _ e=> .sl e
 | .pair a b=> .pair a.ct b.ct
def jc:(t:FT)->t.ct.D->au AC
 | .int k,n=>[.int k n]
 | .bool,b=>[.bool b]
 | .str,s=>[.str s]
 | .sl fl e,xs=>[bif fl.isNil then .jE else .sl fl.flag e xs]
 | .pair a b,x=>jc a x.1++jc b x.2
def FK.fits:FK->rj->Bool
 | .own t,.own t'=>t==t'
 | .arg,.arg k=> !k
 | .ae9,.arg k=>k
 | .loc,.loc 0 none=>true
 | .lio j t,.loc 0 (some (.io j',t'))=>j==j'&&t==t'
 |_,_=>false
def Mw:(t:FT)->au AC->ax (t.ct.D×au AC)
 | .int k,.int k' n::r=>if k'=k then some (n,r) else none
 | .bool,.bool b::r=>some (b,r)
 | .str,.str s::r=>some (s,r)
 | .sl fl e,.sl fl' e' xs::r=>if h:e'=e then bif fl.fits fl' then some (h▸xs,r) else none else none
 | .sl fl _,.jE::r=>bif fl.isNil then some ([],r) else none
 | .pair a b,cs=>(Mw a cs).bind λx=>(Mw b x.2).bind λy=>some ((x.1,y.1),y.2)
 |_,_=>none
inductive PD where
 |bot|ptr (s off:Nat)|fn (f:Nat)|data (g:Bool) (t:FT)
inductive IoD where
 |none|some (t:FT)|ptr
structure SD where
 slots:List PD
 boxes:List (Option FT)
 io:IoD:=.none
abbrev Eg:au PD->Type
 |[]=>Unit
 | .data _ t::r=>t.ct.D×Eg r
 |_::r=>Eg r
abbrev DK:au (ax FT)->Type
 |[]=>Unit
 |some t::r=>t.ct.D×DK r
 |none::r=>DK r
abbrev ioD:IoD->Type
 | .none=>Unit
 | .some t=>t.ct.D
 | .ptr=>Unit
abbrev SD.D (d:SD):Type:=Eg d.slots×DK d.boxes×ioD d.io
def tG:(l:au PD)->Eg l->au AV
 |[],_=>[]
 | .data g t::r,x=> .val g (jc t x.1)::tG r x.2
 | .bot::r,x=> .bot::tG r x
 | .ptr s off::r,x=> .one (.ptr s off)::tG r x
 | .fn f::r,x=> .one (.fn f)::tG r x
def C3:(l:au (ax FT))->DK l->au (ax (au AC))
 |[],_=>[]
 |some t::r,x=>some (jc t x.1)::C3 r x.2
 |none::r,x=>none::C3 r x
def ac0:(o:IoD)->ioD o->au AC
 | .none,_=>[]
 | .some t,x=>jc t x
 | .ptr,_=>[.ptr 0 0]
def SD.enc (d:SD)(x:d.D):AS:=⟨tG d.slots x.1,C3 d.boxes x.2.1,0,List.replicate d.slots.length false,ac0 d.io x.2.2⟩
def AV.ZA:AV->Bool
 | .val false [.bot]=>true
 |_=>false
def AV.ZB (s off:Nat):AV->Bool
 | .val false [.ptr s' aoL]=>s==s'&&off==aoL
 |_=>false
def AV.aa7 (f:Nat):AV->Bool
 | .val false [.fn f']=>f==f'
 |_=>false
def kh:(l:au PD)->au AV->ax (Eg l)
 |[],[]=>some ()
 | .data g t::r,.val g' cs::vs=>bif g==g' then(match Mw t cs with|some (x,[])=>(kh r vs).bind λy=>some (x,y)|_=>none) else none
 | .bot::r,v::vs=>bif v.ZA then kh r vs else none
 | .ptr s off::r,v::vs=>bif v.ZB s off then kh r vs else none
 | .fn f::r,v::vs=>bif v.aa7 f then kh r vs else none
 |_,_=>none
def rm:(l:au (ax FT))->au (ax (au AC))->ax (DK l)
 |[],[]=>some ()
 |some t::r,some cs::bs=>match Mw t cs with|some (x,[])=>(rm r bs).bind λy=>some (x,y)|_=>none
 |none::r,none::bs=>rm r bs
 |_,_=>none
def XO:au AC->Bool
 |[.ptr 0 0]=>true
 |_=>false
def T0:(o:IoD)->au AC->ax (ioD o)
 | .none,[]=>some ()
 | .some t,cs=>match Mw t cs with|some (x,[])=>some x|_=>none
 | .ptr,cs=>bif XO cs then some () else none
 |_,_=>none
def SD.dec (d:SD)(st:AS):ax d.D:=
 bif st.ep==0&&st.iss==List.replicate d.slots.length false then
  (kh d.slots st.slots).bind λx=>(rm d.boxes st.boxes).bind λy=>(T0 d.io st.io).bind λz=>some (x,y,z)
 else none
structure J6 where
 sd:SD
 run:{R:Type}->sd.D->(Ex->AS->Option R)->Option R
abbrev ET:=Nat->J6
def J6.go {R:Type}(l:J6)(st:AS)(K:Ex->AS->ax R):ax R:=aa (l.sd.dec st) λx=>l.run x K
def J6.none:J6:=⟨⟨[],[],.none⟩,λ_ _=>Option.none⟩
def ET.nil:ET:=λ_=>J6.none
def ET.add (Λ:ET)(k:Nat)(l:J6):ET:=λj=>bif j==k then l else Λ j
section
variable {R:Type} (E:Env) (Γ:xu) (an:An)
def Dp (o:Oper)(x:Operand)(st:AS)(K:AS->ax R):ax R:=
 match o.dst with
 |some d=>if an.mv.contains d then K ((st.take x).2.put o.dst (st.take x).1) else K (st.put o.dst (st.rd x))
 |none=>none
def vJ (o:Oper)(x:Operand)(st:AS)(K:AS->ax R):ax R:=
 match st.take x with
 |(.val false [.jE],_)=>match E.sl o.type with
  |some e=>K (st.put o.dst (.one (bif aiP an o then .jE else .sl (.own none) e [])))
  |none=>none
 |(v,bM)=>K (bM.put o.dst v)
def FG (o:Oper)(c a b:Operand)(st:AS)(K:AS->ax R):ax R:=
 match st.rd c with
 | .val false [.bool t]=>match st.rd a,st.rd b with
   | .val false [.bool x],.val false [.bool y]=>K (st.put o.dst (.one (.bool (cond t x y))))
   |va,vb=>cond t (K (st.put o.dst va)) (K (st.put o.dst vb))
 |_=>none
def DH (o:Oper)(T:TypeId)(st:AS)(K:AS->ax R):ax R:=
 match o.dst,iY E.ty T with
 |some d,some sh=>match nth st.boxes d with
  |some none=>K ((st.eE d (some (cellsOf sh.ct (.own none) sh.ct.zero))).put o.dst (.one (.ptr d 0)))
  |_=>none
 |_,_=>none
def RX (o:Oper)(x:Operand)(st:AS)(K:AS->ax R):ax R:=
 match o.dst,st.take x with
 |some d,(.val _ cs,bM)=>
  match nth bM.boxes d with
  |some none=>if cs.all AC.Jz then K ((bM.eE d (some cs)).put o.dst (.one (.ptr d 0))) else none
  |_=>none
 |_,_=>none
def SS (ep:Nat)(r:kL)(t:Nat)(e:CT)(i:Int):Nat->au AC->au AC
 |_,[]=>[]
 |p,.sl _ e' xs::cs=> .sl (.nest ep r t e i p) e' xs::SS ep r t e i (p+1) cs
 |p,c::cs=>c::SS ep r t e i (p+1) cs
def ad3 (o:Oper)(ep:Nat)(fl:rj)(e:CT)(i:Int)(off:Nat)(cs:au AC):au AC:=
 match fl,o.dst with
 | .loc _ (some (r,t)),some d=>bif an.nest.contains d then SS ep r t e i off cs else cs
 |_,_=>cs
def Ep (o:Oper)(sh:Shape)(fl:rj)(e:CT)(i:Int)(off:Nat)(st:AS)(K:AS->ax R):ax R:=
 match fl with
 | .loc _ (some (r,t))=>
   match st.eL r with
   |some (.sl (.own (some t')) e' ys)=>
    if h:e'=e then
     if t'=t/\off+sh.ct.size<=e.size then
      aa (idx (h▸ys:au e.D) i) λy=>K (st.put o.dst (.val sh.agg (((cellsOf e (.loc st.ep none) y).drop off).take sh.ct.size)))
     else none
    else none
   |_=>none
 |_=>none
def zF (o:Oper)(sh:Shape)(fl:rj)(e:CT)(i:Int)(off:Nat)(st:AS)(K:AS->ax R):ax R:=
 match fl with
 | .loc _ (some (r,t))=>
   match st.eL r with
   |some (.sl (.own (some t')) e' ys)=>
    if h:e'=e then
     if t'=t/\off=0/\sh.ct=e then
      aa (idx (h▸ys:au e.D) i) λy=>K ((st.eT r (.sl (.eY (some t) i (some st.ep)) e (h▸ys))).put o.dst (.val sh.agg (cellsOf e (.own none) y)))
     else none
    else none
   |_=>none
 |_=>none
def pL (o:Oper)(T:TypeId)(p:Operand)(st:AS)(K:AS->ax R):ax R:=
 match iY E.ty T,st.rd p with
 |some sh,.val false [.ptr s off]=>
  match (nth st.boxes s).getD none with
  |some cs=>
   if off+sh.ct.size<=cs.length then
    match o.dst with
    |some d=>
     if an.mv.contains d then
      K ((st.eE s (some (dZ cs off (aS st.ep ((cs.drop off).take sh.ct.size))))).put o.dst (.val sh.agg ((cs.drop off).take sh.ct.size)))
     else K (st.put o.dst (.val sh.agg (ir st.ep (.box s) off ((cs.drop off).take sh.ct.size))))
    |none=>none
   else none
  |none=>none
 |some sh,.val false [.Cd fl e x i off]=>
  if F3 an o then zF o sh fl e i off st K
  else if fl.live st.ep then
   if off+sh.ct.size<=e.size then K (st.put o.dst (.val sh.agg (ad3 an o st.ep fl e i off (((cellsOf e fl.bare x).drop off).take sh.ct.size)))) else none
  else Ep o sh fl e i off st K
 |_,_=>none
def xY (T:TypeId)(p x:Operand)(st:AS)(K:AS->ax R):ax R:=
 match iY E.ty T,st.rd p with
 |some sh,.val false [.ptr s off]=>
  match st.take x with
  |(.val _ vs,bM)=>
   match (nth bM.boxes s).getD none with
   |some cs=>
    if vs.length=sh.ct.size/\vs.all AC.Jz then
     if off+sh.ct.size<=cs.length then K (bM.eE s (some (dZ cs off vs))) else none
    else none
   |none=>none
  |_=>none
 |some sh,.val false [.Cd (.loc _ (some (r,t))) e _ i off]=>
  match st.take x with
  |(.val _ vs,bM)=>
   if vs.length=sh.ct.size/\off+sh.ct.size<=e.size then bM.pZ r t e i off vs K else none
  |_=>none
 |_,_=>none
def Bu (o:Oper)(S:TypeId)(p:Operand)(f:Nat)(st:AS)(K:AS->ax R):ax R:=
 match iY E.ty S,st.rd p with
 |some ⟨true,_,kb⟩,.val false [.ptr s off]=>match nth kb f with|some (fo,_)=>K (st.put o.dst (.one (.ptr s (off+fo))))|none=>none
 |some ⟨true,_,kb⟩,.val false [.Cd fl e x i off]=>match nth kb f with|some (fo,_)=>K (st.put o.dst (.one (.Cd fl e x i (off+fo))))|none=>none
 |_,_=>none
def mG (o:Oper)(T:TypeId)(x i:Operand)(st:AS)(K:AS->ax R):ax R:=
 match E.sl T,(st.rd x).fresh st,st.rd i with
 |some e',.val false [.sl fl e xs],.val false [.int _ n]=>
  if e'=e/\fl.live st.ep then aa (idx xs n) λy=>K (st.put o.dst (.one (.Cd fl e y n 0))) else none
 |_,_,_=>none
def CL (o:Oper)(T:TypeId)(x i:Operand)(st:AS)(K:AS->ax R):ax R:=
 match st.rd x,st.rd i with
 | .val false [.str s],.val false [.int _ n]=>if E.str T then aa (idx s n) λb=>K (st.put o.dst (.one (.int .u8 b.toNat))) else none
 |_,_=>none
def CE (o:Oper)(T:TypeId)(parts:au (Nat×Operand))(st:AS)(K:AS->ax R):ax R:=
 match iY E.ty T with
 |some ⟨true,ct,kb⟩=>
  match eM st (parts.map (·.2))with
  |(vs,bM)=>
   match xA kb (cellsOf ct (.own none) ct.zero) ((parts.map (·.1)).zip (vs.map AV.cells))with
   |some cs=>K (bM.put o.dst (.val true cs))
   |none=>none
 |_=>none
def lQ (o:Oper)(T:TypeId)(len:Nat)(parts:au (Nat×Operand))(st:AS)(K:AS->ax R):ax R:=
 match E.sl T with
 |some e=>
  if parts.length=len/\I4 0 parts/\len<=1000 then
   match eM st (parts.map (·.2))with
   |(vs,bM)=>
    match Dk e (vs.map AV.cells)with
    |some xs=>K (bM.qt o.dst e xs)
    |none=>none
  else none
 |none=>none
def oW (o:Oper)(T:TypeId)(n c:Operand)(st:AS)(K:AS->ax R):ax R:=
 match E.sl T,st.rd n,st.rd c with
 |some e,.val false [.int .i64 len],.val false [.int .i64 cap]=>
  if 0<=len/\len<=cap then room cap.toNat (K (st.qt o.dst e (List.replicate len.toNat e.zero))) else none
 |_,_,_=>none
def mZ (st:AS)(lo hi:ax Operand)(n:Nat)(K:Int->Int->ax R):ax R:=
 match lo.map st.rd,hi.map st.rd with
 |none,none=>K 0 n
 |some (.val false [.int _ a]),none=>K a n
 |none,some (.val false [.int _ b])=>K 0 b
 |some (.val false [.int _ a]),some (.val false [.int _ b])=>K a b
 |_,_=>none
def xP (o:Oper)(T:TypeId)(x:Operand)(lo hi:ax Operand)(st:AS)(K:AS->ax R):ax R:=
 match st.take x,lo.map st.rd,hi with
 |(.val false [.sl (.own _) e xs],bM),some (.val false [.int _ a]),none=>
  if E.sl T=some e then aa (sub xs a xs.length) λPj=>K (bM.qt o.dst e Pj) else none
 |_,_,_=>none
def Of (o:Oper)(fl:rj)(a:Int):rj:=
 match fl,o.dst with
 | .loc ep (some (r,t)),some d=>bif an.nest.contains d then .part ep r t a else .loc ep none
 |fl,_=>fl.bare
def BQ (o:Oper)(T:TypeId)(x:Operand)(lo hi:ax Operand)(st:AS)(K:AS->ax R):ax R:=
 if F3 an o then xP E o T x lo hi st K else
 match (st.rd x).fresh st with
 | .val false [.str s]=>if E.str T then mZ st lo hi s.length λa b=>aa (sub s a b) λs'=>K (st.put o.dst (.one (.str s'))) else none
 | .val false [.sl fl e xs]=>
   if E.sl T=some e/\fl.live st.ep then mZ st lo hi xs.length λa b=>aa (sub xs a b) λPj=>K (st.put o.dst (.one (.sl (Of an o fl a) e Pj))) else none
 |_=>none
def lR (o:Oper)(src dst:TypeId)(x:Operand)(st:AS)(K:AS->ax R):ax R:=
 match iY E.ty src,iY E.ty dst,st.rd x with
 |some _,some ⟨false,.int k,_⟩,.val false [.int _ n]=>K (st.put o.dst (.one (.int k (k.wrap n))))
 |some ⟨false,.str,_⟩,some ⟨false,.str,_⟩,.val false [.str s]=>K (st.put o.dst (.one (.str s)))
 |some ⟨false,.str,_⟩,some _,.val false [.str s]=>
  if E.bytes dst then room s.length (K (st.qt o.dst (.int .u8) (dq s))) else none
 |some _,some ⟨false,.str,_⟩,.val false [.sl fl (.int .u8) xs]=>
  if E.bytes src/\fl.live st.ep then K (st.put o.dst (.one (.str (aK xs)))) else none
 |_,_,_=>none
def lS (o:Oper)(t i:Nat)(st:AS)(K:AS->ax R):ax R:=
 match st.get t with
 | .xn vs=>match nth vs i with
   |some (g,cs)=>K ((st.put (some t) (.xn (gN vs i (g,aS 0 cs)))).put o.dst (.val g cs))
   |none=>none
 |_=>none
def N1 (o:Oper)(ts:au TypeId)(args:au Operand)(st:AS)(K:AS->ax R):ax R:=
 match ts,args.map st.rd with
 |[t],[.val false [.str s]]=>if E.str t then K (st.put o.dst (.one (.int .i64 s.length))) else none
 |[t],[.val false [.sl _ _ xs]]=>if(E.sl t).isSome then K (st.put o.dst (.one (.int .i64 xs.length))) else none
 |_,_=>none
def PH (o:Oper)(args:au Operand)(st:AS)(K:AS->ax R):ax R:=
 match args.map st.rd with
 |[.val false [.int k x],.val false [.int _ y]]=>K (st.put o.dst (.one (.int k (if y<x then y else x))))
 |_=>none
def PG (o:Oper)(args:au Operand)(st:AS)(K:AS->ax R):ax R:=
 match args.map st.rd with
 |[.val false [.int k x],.val false [.int _ y]]=>K (st.put o.dst (.one (.int k (if y>x then y else x))))
 |_=>none
def Qd (o:Oper)(ts:au TypeId)(args:au Operand)(st:AS)(K:AS->ax R):ax R:=
 match ts,args.map st.rd with
 |[t,t'],[.val false [.sl (.part ep r tg lo) e xs],.val false [.str s]]=>
  match st.eL r with
  |some (.sl (.own (some tg')) e' ys)=>
   if h:e'=.int .u8 then
    if e=.int .u8/\E.sl t=some (.int .u8)/\E.str t'=true/\ep=st.ep/\tg'=tg then
     K ({st.eT r (.sl (.own (some tg)) (.int .u8) (Dq (h▸ys:au (CT.int .u8).D) lo.toNat (dq (s.take xs.length))))with ep:=st.ep+1}.put o.dst (.one (.int .i64 (min xs.length s.length:Nat))))
    else none
   else none
  |_=>none
 |_,_=>none
def Gf (o:Oper)(S:TypeId)(t f:Nat)(st:AS)(K:AS->ax R):ax R:=
 match iY E.ty S,st.get t,U8 E.fts S f with
 |some ⟨true,ct,kb⟩,.val true cs,some T=>
  match nth kb f,iY E.ty T with
  |some (fo,n),some sh=>
   if n=sh.ct.size/\cs.length=ct.size/\fo+n<=cs.length then
    K ((st.put (some t) (.val true (dZ cs fo (aS st.ep ((cs.drop fo).take n))))).put o.dst (.val sh.agg ((cs.drop fo).take n)))
   else none
  |_,_=>none
 |_,_,_=>none
def yd (o:Oper)(ts:au TypeId)(args:au Operand)(st:AS)(K:AS->ax R):ax R:=
 match ts,args with
 |[t,t'],[s,x]=>
  match st.take s with
  |(.val false [.sl (.own _) e xs],st1)=>
   match st1.take x with
   |(.val false [.sl fl e' ys],st2)=>
    if h:e'=e then
     if E.sl t=some e/\E.sl t'=some e/\fl.qz st.ep e.flat then
      room (xs.length+ys.length) (K (st2.qt o.dst e (xs++(h▸ys:au e.D))))
     else none
    else none
   |(.val false [.str s],st2)=>
    if h:e=.int .u8 then
     if E.sl t=some e/\E.str t' then room (xs.length+s.length) (K (st2.qt o.dst (.int .u8) ((h▸xs:au (CT.int .u8).D)++dq s))) else none
    else none
   |_=>none
  |_=>none
 |_,_=>none
def Qt:Nat->au AC->ax (kL×Nat)
 |_,[]=>none
 |j,.sl (.loc _ (some (r,_))) _ _::_=>some (r,j)
 |j,_::cs=>Qt (j+1) cs
def kL.pos:kL->Nat
 | .slot _ j=>j
 | .box _ j=>j
 | .io j=>j
def AS.Jh (st:AS):kL->ax (au AC)
 | .slot s _=>match st.get s with| .val _ cs=>some cs|_=>none
 | .box s _=>(nth st.boxes s).getD none
 | .io _=>some st.io
def AS.FR (st:AS)(r:kL)(cs:au AC):AS:=
 match r with
 | .slot s _=>match st.get s with| .val g _=>st.put (some s) (.val g cs)|_=>st
 | .box s _=>st.eE s (some cs)
 | .io _=>{st with io:=cs}
def nQ:au AC->au AC->ax (au AC)
 |[],[]=>some []
 | .sl (.loc _ (some (_,t))) _ _::os,.sl (.own (some t')) e xs::ss=>bif t'==t then(nQ os ss).bind λr=>some (.sl (.own none) e xs::r) else none
 | .int k n::os,.int _ _::ss=>(nQ os ss).bind λr=>some (.int k n::r)
 | .bool b::os,.bool _::ss=>(nQ os ss).bind λr=>some (.bool b::r)
 | .str x::os,.str _::ss=>(nQ os ss).bind λr=>some (.str x::r)
 |_,_=>none
def AV.jl:AV->Bool
 | .val _ cs=>cs.all AC.jl
 | .xn vs=>vs.all λx=>x.2.all AC.jl
def R0 (st:AS)(x:Operand):ax (AV×AS):=
 match st.rd x with
 | .val g cs=>
   match Qt 0 cs with
   |some (r,j)=>
    match st.Jh r with
    |some Ze=>
     match nQ cs ((Ze.drop (r.pos-j)).take cs.length)with
     |some rf=>some (.val g rf,st.FR r (dZ Ze (r.pos-j) (aS st.ep ((Ze.drop (r.pos-j)).take cs.length))))
     |none=>none
    |none=>none
   |none=>none
 |_=>none
def QV (o:Oper)(x:Operand)(st:AS)(K:AS->ax R):ax R:=
 match R0 st x with
 |some (v,bM)=>K (bM.put o.dst v)
 |none=>none
def xZ (T:TypeId)(p x:Operand)(st:AS)(K:AS->ax R):ax R:=
 match iY E.ty T,st.rd p with
 |some sh,.val false [.ptr s off]=>
  match R0 st x with
  |some (.val _ vs,bM)=>
   match (nth bM.boxes s).getD none with
   |some cs=>
    if vs.length=sh.ct.size/\vs.all AC.Jz then
     if off+sh.ct.size<=cs.length then K (bM.eE s (some (dZ cs off vs))) else none
    else none
   |none=>none
  |_=>none
 |_,_=>none
def AC.strip:AC->AC
 | .sl (.own _) e xs=> .sl (.own none) e xs
 | .sl (.loc _ _) _ _=> .bot
 | .sl (.nest ..) _ _=> .bot
 | .sl (.part ..) _ _=> .bot
 | .sl (.eY _ i _) e xs=> .sl (.eY none i none) e xs
 | .ptr _ _=> .bot
 | .Cd _ _ _ _ _=> .bot
 |c=>c
def AC.XM:AC->Bool
 | .sl (.own _) _ _=>true
 |c=>c.jl
def AC.Ac (k:Bool):AC->Bool
 | .sl (.own _) _ _=>true
 | .sl (.arg k') _ _=>k'==k
 |c=>c.jl
def AC.To:AC->AC
 | .sl (.own _) e xs=> .sl (.own none) e xs
 | .sl (.arg _) e xs=> .sl (.arg true) e xs
 |c=>c.strip
def AC.agR (k:Bool)(tag:ax Nat):AC->AC
 | .sl (.own _) e xs=> .sl (.own tag) e xs
 | .sl (.arg _) e xs=> .sl (.arg k) e xs
 |c=>c
def qd (k:Bool)(mk:Nat->ax Nat):Nat->au AC->au AC
 |_,[]=>[]
 |j,c::cs=>c.agR k (mk j)::qd k mk (j+1) cs
def EC (cs:au AC):Bool:=cs.any λc=>match c with| .sl (.arg k) _ _=>k|_=>false
def AC.J9:AC->Bool
 | .sl (.arg k) _ _=> !k
 |c=>c.jl
def AV.J9:AV->Bool
 | .val _ cs=>cs.all AC.J9
 | .xn _=>false
def AS.PF (st:AS):AC->AC
 | .sl (.own _) e xs=> .sl (.arg false) e xs
 | .sl (.arg _) e xs=> .sl (.arg false) e xs
 | .sl (.loc _ (some (.slot b j,t))) _ _=>match st.eL (.slot b j)with
   |some (.sl (.own (some t')) e' ys)=>if t'=t then .sl (.arg false) e' ys else .bot
   |_=> .bot
 | .int k n=> .int k n
 | .bool b=> .bool b
 | .str s=> .str s
 | .fn f=> .fn f
 |_=> .bot
def Cl (st:AS):Operand->AV
 | .tmp t=>(match st.get t with| .val g cs=> .val g (cs.map st.PF)|v=>v)
 |x=>st.rd x
def Dj (st:AS):Operand->Bool
 | .tmp t=>(match st.get t with| .val _ cs=>(cs.map st.PF).all AC.J9|_=>false)
 |x=>(st.rd x).jl
def AC.abv:AC->Bool
 | .sl (.own _) _ _=>true
 |c=>c.jl
def AV.abv:AV->Bool
 | .val _ cs=>cs.all AC.abv
 | .xn vs=>vs.all λx=>x.2.all AC.abv
def Y9 (st:AS)(s:Nat)(cs:au AC):AS:={(st.eE s (some cs)).fi (some s)with ep:=st.ep+1}
def vK (o:Oper)(f:Nat)(args:au Operand)(st:AS)(K:AS->ax R):ax R:=
 match args with
 |x0::xs=>
  match st.rd x0 with
  | .val false [.ptr s 0]=>
    match (nth st.boxes s).getD none with
    |some cs=>
     bif cs.all (AC.Ac (EC cs))&&xs.all (Dj st) then
      aa ((Γ f).fn (.val true (cs.map AC.To)::xs.map (Cl st))) λy=>
       bif ((Γ f).back y).all (AC.Ac true)&&((Γ f).av y).abv then
        bif (Γ f).cur&&cs.all AC.Ii then
         K (((st.eE s (some (qd (EC cs) (λ_=>none) 0 ((Γ f).back y)))).fi o.dst).put o.dst (((Γ f).av y).ED st.ep (st.gZ o.dst)))
        else
        K (((Y9 st s (qd (EC cs) (st.gZ (some s)) 0 ((Γ f).back y))).fi o.dst).put o.dst
          (((Γ f).av y).ED (st.ep+1) ((Y9 st s (qd (EC cs) (st.gZ (some s)) 0 ((Γ f).back y))).gZ o.dst)))
       else none
     else none
    |none=>none
  |_=>none
 |[]=>none
def abw (o:Oper)(f:Nat)(args:au Operand)(st:AS)(K:AS->ax R):ax R:=
 match o.dst with
 |some d=>
  match nth st.boxes d with
  |some none=>
   bif args.all (λx=>(st.rd x).J9) then
    aa ((Γ f).fn (args.map st.rd)) λy=>
     bif ((Γ f).back y).all AC.J9 then K ((st.eE d (some ((Γ f).back y))).put (some d) (.one (.ptr d 0))) else none
   else none
  |_=>none
 |none=>none
def EE (o:Oper)(f:Operand)(args:au Operand)(st:AS)(K:AS->ax R):ax R:=
 match st.rd f with
 | .val false [.fn f]=>
   bif (Γ f).bx then vK Γ o f args st K else
   bif (Γ f).pr then abw Γ o f args st K else
   bif (Γ f).io then none
   else aa ((Γ f).fn (args.map λx=>((st.rd x).fresh st).asArg st.ep)) λr=>cond ((Γ f).sel r) (K ((st.fi o.dst).put o.dst (((Γ f).av r).ED st.ep (st.gZ o.dst)))) (K ((st.fi o.dst).put o.dst (((Γ f).alt r).ED st.ep (st.gZ o.dst))))
 |_=>none
def EG {R:Type}(op:BinOp)(b:Bool)(K:AC->ax R):ax R:=
 match op with
 | .eql=>K (.bool b)
 | .neq=>K (.bool (!b))
 |_=>none
def B9 (o:Oper)(op:BinOp)(T:TypeId)(x y:Operand)(st:AS)(K:AS->ax R):ax R:=
 match st.rd x,st.rd y with
 | .val false [.bool a],.val false [.bool b]=>if E.bool T then GQ op (.one (.bool a)) (.one (.bool b)) λc=>K (st.put o.dst (.one c)) else none
 | .val true xs,.val true ys=>match QY E.eqs T with
   |some ls=>if fits ls xs then GQ op (.val true xs) (.val true ys) λc=>K (st.put o.dst (.one c)) else none
   |none=>none
 | .val false [.sl fl _ xs],.val false [.jE]=>if(E.sl T).isSome/\fl.live st.ep then(if xs.length=0 then none else EG op false λc=>K (st.put o.dst (.one c))) else none
 | .val false [.jE],.val false [.jE]=>if(E.sl T).isSome then EG op true λc=>K (st.put o.dst (.one c)) else none
 |a,b=>GQ op a b λc=>K (st.put o.dst (.one c))
def dg (o:Oper)(st:AS)(K:AS->ax R):ax R:=
 match o.op with
 | .move x=>Dp an o x st K
 | .assign x=>if BJ an o then QV o x st K else vJ E an o x st K
 | .pick c a b=>FG o c a b st K
 | .alloc T=>DH E o T st K
 | .box _ x=>RX o x st K
 | .load T p=>pL E an o T p st K
 | .store T p x=>match o.dst with|none=>(if BJ an o then xZ E T p x st K else xY E T p x st K)|some _=>none
 | .nilCheck x=>
   match st.rd x with
   | .val false [.ptr s off]=>K (st.put o.dst (.one (.ptr s off)))
   | .val false [.Cd fl e y i off]=>K (st.put o.dst (.one (.Cd fl e y i off)))
   |_=>none
 | .binOp op T x y _=>B9 E o op T x y st K
 | .unOp op _ x=>unC op (st.rd x) λc=>K (st.put o.dst (.one c))
 | .fieldAddr S p f=>Bu E o S p f st K
 | .indexAddr T x i=>mG E o T x i st K
 | .index T x i=>CL E o T x i st K
 | .build T parts=>CE E o T parts.toList st K
 | .buildSlice T len parts=>lQ E o T len parts.toList st K
 | .makeSlice T n c=>oW E o T n c st K
 | .slice T x lo hi none=>BQ E an o T x lo hi st K
 | .field S (.tmp t) f=>Gf E o S t f st K
 | .call {callee:=.builtin .copy,args,argTypes}=>Qd E o argTypes.toList args.toList st K
 | .convert src dst x=>lR E o src dst x st K
 | .extract (.tmp t) i=>lS o t i st K
 | .call {callee:=.builtin .len,args,argTypes}=>N1 E o argTypes.toList args.toList st K
 | .call {callee:=.builtin .min,args,..}=>PH o args.toList st K
 | .call {callee:=.builtin .max,args,..}=>PG o args.toList st K
 | .call {callee:=.builtin .append,args,argTypes}=>yd E o argTypes.toList args.toList st K
 | .call {callee:=.value f,args,..}=>EE Γ o f args.toList st K
 |_=>none
def gi (ops:au Oper)(o:Oper)(st:AS)(K:AS->ax R):ax R:=
 match o.guard with
 |none=>dg E Γ an o st K
 |some (j,H4)=>
  match (nth ops j).bind (·.dst)with
  |some d=>
   match st.get d with
   | .val false [.bool b]=>
     let go (t:Bool):ax R:=
      if t==H4 then dg E Γ an o (st.put (some d) (.one (.bool t))) K else K ((st.put (some d) (.one (.bool t))).put o.dst (.one .un))
     cond b (go true) (go false)
   | .val false [.un]=>K (st.put o.dst (.one .un))
   |_=>none
  |none=>none
def SV (ops:au Oper):au Oper->AS->(AS->ax R)->ax R
 |[],st,K=>K st
 |o::r,st,K=>gi E Γ an ops o st λbM=>SV ops r bM K
def dC:Code->Nat
 | .region id _ _=>id
 | .seq a _=>dC a
 | .block _ c=>dC c
 | .loop c=>dC c
 | .cond _ a b=>match dC a with|0=>dC b|n=>n
 |_=>0
def xC (c:Code):Nat:=1000000+2*dC c
def ky (l:eo):Code->au Code
 | .seq a b=>ky l a++(bif l.contains (dC b) then b::ky l b else ky l b)
 | .cond _ a b=>ky l a++ky l b
 | .block _ c=>ky l c
 | .loop c=>ky l c
 |_=>[]
def Cb (l:eo)(fn:Func)(k:Nat):Code:=(nth (ky l (fn.body.getD .skip)) k).getD .skip
def ia:Code->au Code
 | .seq a b=>ia a++ia b
 | .cond _ a b=>ia a++ia b
 | .block _ c=>ia c
 | .loop c=>c::ia c
 |_=>[]
def fV (fn:Func)(k:Nat):Code:=(nth (ia (fn.body.getD .skip)) k).getD .skip
def AD (j:Nat):Nat:=3*(4096*1000003+j)
def kL.F0:kL->ax Nat
 | .slot s j=>bif Nat.ble 4096 j then none else bif Nat.ble 1000000 s then none else some (3*(4096*s+j))
 | .box s j=>bif Nat.ble 4096 j then none else some (3*(4096*s+j)+1)
 | .io j=>bif Nat.ble 4096 j then none else some (AD j)
def AC.adP (io:au AC)(j t:Nat)(e:CT):ax (au e.D):=
 match nth io j with
 |some (.sl (.own (some t')) e' ys)=>if h:e'=e then bif t'==t then some (h▸ys) else none else none
 |_=>none
def AC.mask (keep:eo)(ep:Nat)(io:au AC)(rt:kL):AC->AC
 | .ptr s off=>if keep.contains s then .ptr s off else .bot
 | .sl (.loc e pv) t xs=>
   match pv with
   |some (.io j,n)=>match AC.adP io j n t with
    |some ys=> .sl (.loc 0 ((kL.F0 (.io j)).map λq=>(.io j,q))) t ys
    |none=>if e==ep then .sl (.loc 0 none) t xs else .bot
   |_=>if e==ep then .sl (.loc 0 none) t xs else .bot
 | .sl (.own _) t xs=> .sl (.own rt.F0) t xs
 | .sl (.nest ..) _ _=> .bot
 | .sl (.part ..) _ _=> .bot
 | .sl (.eY _ i _) e xs=> .sl (.eY none i none) e xs
 | .Cd _ _ _ _ _=> .bot
 |c=>c
def Kz (keep:eo)(ep:Nat)(io:au AC)(f:Nat->kL):Nat->au AC->au AC
 |_,[]=>[]
 |j,c::cs=>c.mask keep ep io (f j)::Kz keep ep io f (j+1) cs
def AV.mask (keep:eo)(ep:Nat)(io:au AC)(s:Nat):AV->AV
 | .val g cs=> .val g (Kz keep ep io (.slot s) 0 cs)
 | .xn _=> .bot
def nN (keep:eo)(ep:Nat)(io:au AC):Nat->au AV->au AV
 |_,[]=>[]
 |i,v::r=>(if keep.contains i then v.mask keep ep io i else .bot)::nN keep ep io (i+1) r
def nM (keep:eo)(ep:Nat)(io:au AC):Nat->au (ax (au AC))->au (ax (au AC))
 |_,[]=>[]
 |i,b::r=>(if keep.contains i then b.map (Kz keep ep io (.box i) 0) else none)::nM keep ep io (i+1) r
def XZ (keep:eo):Nat->au AC->au AC
 |_,[]=>[]
 |j,c::cs=>(match c with| .sl (.own _) e xs=> .sl (.own (kL.F0 (.io j))) e xs| .sl (.eY _ i _) e xs=> .sl (.eY none i none) e xs| .ptr s off=>if keep.contains s then .ptr s off else .bot|c=>bif c.jl then c else .bot)::XZ keep (j+1) cs
def AS.mask (keep:eo)(st:AS):AS:=
 ⟨nN keep st.ep st.io 0 st.slots,nM keep st.ep st.io 0 st.boxes,0,List.replicate st.slots.length false,XZ keep 0 st.io⟩
def getBool (st:AS)(s:Nat):ax Bool:=
 match st.get s with
 | .val false [.bool b]=>some b
 |_=>none
def gq (an:An)(ds:eo)(o:Oper):Bool:=
 match o.op with
 | .assign (.const _)=> !BJ an o
 | .assign (.tmp t)=>ds.contains t&& !BJ an o
 | .move _| .load ..=>match o.dst with|some d=> !an.mv.contains d|none=>false
 | .slice ..=> !F3 an o
 | .pick ..| .binOp ..| .unOp ..| .fieldAddr ..| .indexAddr ..| .index ..| .nilCheck _=>true
 | .build _ ps=>ps.isEmpty
 | .call {callee:=.builtin .len,..}| .call {callee:=.builtin .min,..}| .call {callee:=.builtin .max,..}=>true
 | .call {callee:=.value _,..}=>true
 |_=>false
def HC (ops:au Oper):eo:=ops.filterMap (·.dst)
def AS.Cc (st:AS):eo->AS
 |[]=>st
 |d::r=>((st.put (some d) .bot).fi (some d)).Cc r
def GX (ops:au Oper)(A:au eo):Nat->au Oper->AS->(AS->ax R)->ax R
 |_,[],st,K=>K st
 |i,o::r,st,K=>bif dx E an (tB an A i 0 ops) o st then gi E Γ an ops o st λbM=>GX ops A (i+1) r bM K else none
def E9 (ops:au Oper)(draw:Bool)(st:AS)(K:AS->ax R):ax R:=
 bif draw then(bif T3 an ops then GX E Γ.H2 an ops (TN ops []) 0 ops st K else none) else SV E Γ an ops ops st K
def S2 (id:Nat)(ops:au Oper)(draw:Bool)(st:AS)(K:AS->ax R):ax R:=
 match an.merge id with
 |none=>E9 E Γ an ops draw st K
 |some s=>
  if ops.all (gq an (HC ops)) then
   aa (E9 E Γ.calm an ops draw st λbM=>getBool bM s) λb=>K ((st.Cc (HC ops)).put (some s) (.one (.bool b)))
  else none
def Ah (key:eo)(B:AS->(Ex->AS->ax R)->ax R):Nat->AS->(Ex->AS->ax R)->ax R
 |0,_,_=>none
 |m+1,st,K=>B st λe bM=>
  match e with
  | .normal=>Ah key B m (bM.mask key) K
  |e=>K e (bM.mask key)
def den (Λ:ET):Code->AS->(Ex->AS->ax R)->ax R
 | .skip,st,K=>K .normal st
 | .region id ops draw,st,K=>S2 E Γ an id ops.toList draw st (K .normal)
 | .seq a b,st,K=>den Λ a st λe bM=>match e with
   | .normal=>bif an.cut.contains (dC b) then(Λ (xC b)).go (bM.mask (an.mask (xC b))) K else den Λ b bM K
   |e=>K e bM
 | .cond c a b,st,K=>
   match st.rd c with
   | .val false [.bool t]=>cond t (den Λ a st K) (den Λ b st K)
   |_=>none
 | .block id c,st,K=>den Λ c st λe bM=>
   match e with
   | .exit j=>if j==id then K .normal bM else K (.exit j) bM
   |e=>K e bM
 | .loop c,st,K=>
   bif an.peel.contains (dC c) then den Λ c (st.mask (an.mask (dC c))) λe bM=>
    match e with
    | .normal=>(Λ (dC c)).go (bM.mask (an.mask (dC c))) K
    |e=>K e (bM.mask (an.mask (dC c)))
   else(Λ (dC c)).go (st.mask (an.mask (dC c))) K
 | .exit id,st,K=>K (.exit id) st
 | .ret,st,K=>K .ret st
 |_,_,_=>none
end
def Ow (st:AS)(E:Env):ResultVar->ax ((Bool×Nat)×Bool×au AC)
 | .tmp t=>match st.get t with| .val g cs=>some ((false,t),g,cs.map AC.strip)|_=>none
 | .cell t T=>match iY E.ty T,st.get t with
   |some sh,.val false [.ptr s off]=>((nth st.boxes s).getD none).bind λcs=>
    if off+sh.ct.size<=cs.length then some ((true,s),sh.agg,((cs.drop off).take sh.ct.size).map AC.strip) else none
   |_,_=>none
def oZ (st:AS)(E:Env):au (Bool×Nat)->au ResultVar->ax (au (Bool×au AC))
 |_,[]=>some []
 |had,r::rs=>(Ow st E r).bind λx=>if had.contains x.1 then none else(oZ st E (x.1::had) rs).bind λxs=>some (x.2::xs)
def results (E:Env)(rs:au ResultVar)(st:AS):ax AV:=
 match oZ st E [] rs with
 |some [(g,cs)]=>some (.val g cs)
 |some vs=>some (.xn vs)
 |none=>none
def ox (fn:Func)(args:au AV):AS:=⟨args++List.replicate (fn.ntmps-args.length) .bot,List.replicate (args.length+(fn.ntmps-args.length)) none,0,List.replicate fn.ntmps false,[]⟩
abbrev ij:au (Bool×FT)->Type
 |[]=>Unit
 |[(_,t)]=>t.ct.D
 |(_,t)::r=>t.ct.D×ij r
def ka:(l:au (Bool×FT))->au (Bool×au AC)->ax (ij l)
 |[],[]=>some ()
 |[(g,t)],[(g',cs)]=>bif g==g' then(match Mw t cs with|some (x,[])=>some x|_=>none) else none
 |(g,t)::p::r,(g',cs)::vs=>bif g==g' then(match Mw t cs with|some (x,[])=>(ka (p::r) vs).bind λy=>some (x,y)|_=>none) else none
 |_,_=>none
def ahJ:(l:au (Bool×FT))->ij l->au (Bool×au AC)
 |[],_=>[]
 |[(g,t)],x=>[(g,jc t x)]
 |(g,t)::p::r,x=>(g,jc t x.1)::ahJ (p::r) x.2
def xz (l:au (Bool×FT))(x:ij l):AV:=
 match ahJ l x with
 |[(g,cs)]=> .val g cs
 |vs=> .xn vs
def Fa (E:Env)(Γ:xu)(an:An)(Λ:ET)(fn:Func)(rs:au (Bool×FT))(args:au AV):ax (ij rs):=
 match fn.body with
 |some c=>if args.length=fn.params.size then den E Γ an Λ c (ox fn args) λe st=>
  match e with
  | .exit _=>none
  |_=>aa (oZ st E [] fn.results.toList) (ka rs)
  else none
 |none=>none
def evalAlt (E:Env)(Γ:xu)(an:An)(Λ:ET)(fn:Func)(rs Mc:au (Bool×FT))(h:ij Mc=ij rs)(args:au AV):ax (Bool×ij rs):=
 match fn.body with
 |some c=>if args.length=fn.params.size then den E Γ an Λ c (ox fn args) λe st=>
  match e with
  | .exit _=>none
  |_=>aa (oZ st E [] fn.results.toList) λys=>
   match ka rs ys with
   |some y=>some (true,y)
   |none=>match ka Mc ys with
    |some y=>some (false,cast h y)
    |none=>none
  else none
 |none=>none
def XL:Nat->au AC->au AC
 |_,[]=>[]
 |j,.sl _ e xs::cs=> .sl (.own (some (AD j))) e xs::XL (j+1) cs
 |j,c::cs=>c::XL (j+1) cs
def BI:Nat->au AC->au AC
 |_,[]=>[]
 |j,.sl _ e xs::cs=> .sl (.loc 0 (some (.io j,AD j))) e xs::BI (j+1) cs
 |j,c::cs=>c::BI (j+1) cs
def GM (fn:Func)(g:Bool)(cs:au AC)(args:au AV):AS:={ox fn (.val g (BI 0 cs)::args)with io:=XL 0 cs}
def Xd (E:Env)(Γ:xu)(an:An)(Λ:ET)(fn:Func)(rs:au (Bool×FT))(t:CT)(args:au AV):ax (ij rs×t.D):=
 match fn.body,args with
 |some c,.val g cs::xs=>if xs.length+1=fn.params.size/\cs.all AC.XM=true then den E Γ an Λ c (GM fn g cs xs) λe st=>
  match e with
  | .exit _=>none
  |_=>aa (aa (oZ st E [] fn.results.toList) (ka rs)) λr=>
   match jt t st.io with
   |some (x,[])=>some (r,x)
   |_=>none
  else none
 |_,_=>none
def Io:Nat->au AC->au AC
 |_,[]=>[]
 |j,.sl (.own _) e xs::cs=> .sl (.own (some (3*j+1))) e xs::Io (j+1) cs
 |j,c::cs=>c::Io (j+1) cs
def BU (fn:Func)(cs:au AC)(args:au AV):AS:=
 {ox fn (.one (.ptr 0 0)::args)with boxes:=some (Io 0 cs)::List.replicate (args.length+(fn.ntmps-(args.length+1))) none,io:=[.ptr 0 0]}
def R8 (E:Env)(Γ:xu)(an:An)(Λ:ET)(fn:Func)(rs:au (Bool×FT))(t:FT)(args:au AV):ax (ij rs×t.ct.D):=
 match fn.body,args with
 |some c,.val true cs::xs=>if xs.length+1=fn.params.size/\cs.all (AC.Ac true)=true then den E Γ an Λ c (BU fn cs xs) λe st=>
  match e with
  | .exit _=>none
  |_=>aa (aa (oZ st E [(true,0)] fn.results.toList) (ka rs)) λr=>
   match st.io,st.boxes with
   |[.ptr 0 0],some rf::_=>match Mw t (rf.map AC.strip)with
    |some (x,[])=>some (r,x)
    |_=>none
   |_,_=>none
  else none
 |_,_=>none
def Mq (E:Env)(Γ:xu)(an:An)(Λ:ET)(fn:Func)(t:FT)(args:au AV):ax t.ct.D:=
 match fn.body with
 |some c=>if args.length=fn.params.size then den E Γ an Λ c (ox fn args) λe st=>
  match e with
  | .exit _=>none
  |_=>match fn.results.toList with
   |[.tmp i]=>match st.get i with
    | .val false [.ptr s 0]=>match (nth st.boxes s).getD none with
      |some cs=>if cs.all AC.J9=true then(match Mw t (cs.map AC.strip)with|some (x,[])=>some x|_=>none) else none
      |none=>none
    |_=>none
   |_=>none
  else none
 |none=>none
end Go.Dn
