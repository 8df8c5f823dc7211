import Derived.Test.YtnmppgnbjfdffaaGreatDnData
/- An abstract, heap-free semantics of the model's code, for functions that treat their data by value: definitions. -/
namespace Go.Dn
inductive jU where
 |slot (s j:Nat)|box (s j:Nat)|io (j:Nat)
 deriving DecidableEq
inductive oP where
 |own (tag:Option Nat)
 |loc (ep:Nat) (pv:Option (jU×Nat))
 |arg (k:Bool)
 |nest (ep:Nat) (r:jU) (t:Nat) (e:CT) (i:Int) (off:Nat)
 |part (ep:Nat) (r:jU) (t:Nat) (lo:Int)
 |eX (tag:Option Nat) (i:Int) (ep:Option Nat)
inductive AC where
 |int (k:IntKind) (n:Int)|bool (b:Bool)|str (s:List UInt8)
 |sl (fl:oP) (e:CT) (xs:List e.D)
 |jm
 |ptr (s off:Nat)
 |yP (fl:oP) (e:CT) (x:e.D) (i:Int) (off:Nat)
 |fn (f:Nat)
 |un
 |bot
inductive AV where
 |val (agg:Bool) (cs:List AC)
 |tS (vs:List (Bool×List AC))
abbrev AV.one (c:AC):AV:=.val false [c]
abbrev AV.bot:AV:=.val false [.bot]
structure AS where
 slots:List AV
 boxes:List (Option (List AC))
 ep:Nat
 iss:List Bool
 io:List AC
structure Shape where
 agg:Bool
 ct:CT
 jv:List (Nat×Nat):=[]
structure An where
 mask:Nat->List Nat:=λ_=>[]
 merge:Nat->Option Nat:=λ_=>none
 mv:List Nat:=[]
 nest:List Nat:=[]
 mb:Nat->Option Nat:=λ_=>none
 sb:Nat->Option Nat:=λ_=>none
 late:List Nat:=[]
 peel:List Nat:=[]
 nils:List Nat:=[]
 fm:List Nat:=[]
 eb:Nat->Option Nat:=λ_=>none
 es:Nat->Option Nat:=λ_=>none
 er:Nat->Option Nat:=λ_=>none
 cut:List Nat:=[]
def cellsOf:(t:CT)->oP->t.D->aw AC
 | .int k,_,n=>[.int k n]
 | .bool,_,b=>[.bool b]
 | .str,_,s=>[.str s]
 | .sl e,fl,xs=>[.sl fl e xs]
 | .pair a b,fl,x=>cellsOf a fl x.1++cellsOf b fl x.2
def kB:(t:CT)->aw AC->ay (t.D×aw AC)
 | .int k,.int k' n::r=>if k'=k then some (n,r) else none
 | .bool,.bool b::r=>some (b,r)
 | .str,.str s::r=>some (s,r)
 | .sl e,.sl (.own _) e' xs::r=>if h:e'=e then some (h▸xs,r) else none
 | .sl _,.jm::r=>some ([],r)
 | .pair a b,cs=>(kB a cs).bind λx=>(kB b x.2).bind λy=>some ((x.1,y.1),y.2)
 |_,_=>none
def nth {α:Type}:aw α->Nat->ay α
 |[],_=>none
 |a::_,0=>some a
 |_::l,n+1=>nth l n
def gI {α:Type}:aw α->Nat->α->aw α
 |[],_,_=>[]
 |_::l,0,v=>v::l
 |a::l,n+1,v=>a::gI l n v
def AS.get (st:AS)(i:Nat):AV:=(nth st.slots i).getD .bot
def AS.put (st:AS)(d:ay Nat)(v:AV):AS:=
 match d with
 |some d=>{st with slots:=gI st.slots d v}
 |none=>st
def FR (d j:Nat):Nat:=3*(4096*d+j)+2
def AS.gS (st:AS)(d:ay Nat)(j:Nat):ay Nat:=
 match d with
 |some d=>bif (nth st.iss d).getD true then none else bif Nat.ble 4096 j then none else some (FR d j)
 |none=>none
def AS.fg (st:AS)(d:ay Nat):AS:=
 match d with
 |some d=>{st with iss:=gI st.iss d true}
 |none=>st
def AS.om (st:AS)(d:ay Nat)(e:CT)(xs:aw e.D):AS:=
 (st.fg d).put d (.one (.sl (.own (st.gS d 0)) e xs))
def AC.borrow (ep:Nat)(rt:ay jU):AC->AC
 | .sl (.own tag) e xs=> .sl (.loc ep (match rt,tag with|some r,some t=>some (r,t)|_,_=>none)) e xs
 | .sl (.eX tag _ (some Jg)) e xs=> .sl (.loc Jg (match rt,tag with|some r,some t=>some (r,t)|_,_=>none)) e xs
 | .sl (.eX _ _ none) _ _=> .bot
 |c=>c
def ic (ep:Nat)(f:Nat->jU):Nat->aw AC->aw AC
 |_,[]=>[]
 |j,c::cs=>c.borrow ep (some (f j))::ic ep f (j+1) cs
def aQ (ep:Nat)(cs:aw AC):aw AC:=cs.map (AC.borrow ep none)
def AV.borrow (ep:Nat)(f:Nat->jU):AV->AV
 | .val g cs=> .val g (ic ep f 0 cs)
 | .tS vs=> .tS (vs.map λx=>(x.1,aQ ep x.2))
def AV.aQ (ep:Nat):AV->AV
 | .val g cs=> .val g (Dn.aQ ep cs)
 | .tS vs=> .tS (vs.map λx=>(x.1,Dn.aQ ep x.2))
def ofConst:Value->AV
 | .int k n=> .one (.int k n)
 | .bool b=> .one (.bool b)
 | .string s=> .one (.str s.data.toList)
 | .slice none 0 0=> .one .jm
 |_=> .bot
def AS.rd (st:AS):Operand->AV
 | .tmp t=>(st.get t).borrow st.ep (.slot t)
 | .const v=>ofConst v
 | .func f=> .one (.fn f)
 | .global _=> .bot
def AS.take (st:AS):Operand->AV×AS
 | .tmp t=>(st.get t,st.put (some t) ((st.get t).aQ st.ep))
 |x=>(st.rd x,st)
def AS.eu (st:AS)(s:Nat)(b:ay (aw AC)):AS:={st with boxes:=gI st.boxes s b}
def AC.asArg (ep:Nat):AC->AC
 | .int k n=> .int k n
 | .bool b=> .bool b
 | .str s=> .str s
 | .sl (.own _) e xs=> .sl (.arg false) e xs
 | .sl (.loc ep' _) e xs=>if ep'==ep then .sl (.arg false) e xs else .bot
 | .sl (.arg _) e xs=> .sl (.arg false) e xs
 | .jm=> .jm
 | .fn f=> .fn f
 |_=> .bot
def AV.asArg (ep:Nat):AV->AV
 | .val g cs=> .val g (cs.map (AC.asArg ep))
 | .tS _=> .bot
def AC.AN (ep:Nat)(tag:ay Nat):AC->AC
 | .sl (.own _) e xs=> .sl (.own tag) e xs
 | .sl (.arg _) e xs=> .sl (.loc ep none) e xs
 | .sl (.loc _ _) _ _=> .bot
 | .sl (.nest ..) _ _=> .bot
 | .sl (.part ..) _ _=> .bot
 | .sl (.eX _ i _) e xs=> .sl (.eX none i none) e xs
 | .ptr _ _=> .bot
 | .yP _ _ _ _ _=> .bot
 |c=>c
def FE (ep:Nat)(mk:Nat->ay Nat):Nat->aw AC->aw AC
 |_,[]=>[]
 |j,c::cs=>c.AN ep (mk j)::FE ep mk (j+1) cs
def UM (ep:Nat)(mk:Nat->ay Nat):Nat->aw (Bool×aw AC)->aw (Bool×aw AC)
 |_,[]=>[]
 |j,t::ts=>(t.1,FE ep mk j t.2)::UM ep mk (j+t.2.length) ts
def AV.AN (ep:Nat)(mk:Nat->ay Nat):AV->AV
 | .val g cs=> .val g (FE ep mk 0 cs)
 | .tS vs=> .tS (UM ep mk 0 vs)
def AC.EB:AC->Bool
 | .sl (.arg _) _ _=>true
 | .int ..=>true
 | .bool _=>true
 | .str _=>true
 | .fn _=>true
 |_=>false
structure iW where
 R:Type
 fn:List AV->Option R
 av:R->AV
 io:Bool:=false
 back:R->List AC:=λ_=>[]
 bx:Bool:=false
 pr:Bool:=false
 sel:R->Bool:=λ_=>true
 alt:R->AV:=λ_=> .val false [.bot]
 cur:Bool:=false
 hcur:cur=true->∀y,(back y).all AC.EB=true:=by intro h;cases h
def iW.res (F:iW)(y:F.R):AV:=cond (F.sel y) (F.av y) (F.alt y)
abbrev xl:=Nat->iW
def iW.dead:iW:={R:=Unit,fn:=λ_=>none,av:=λ_=> .val false [.bot]}
def xl.calm (Γ:xl):xl:=λf=>bif (Γ f).io||(Γ f).bx||(Γ f).pr then iW.dead else Γ f
def xl.Ee (Γ:xl):xl:=λf=>bif (Γ f).io||(Γ f).pr||((Γ f).bx&& !(Γ f).cur) then iW.dead else Γ f
def Fi {R:Type}(op:BinOp)(k:IntKind)(x y:Int)(K:AC->ay R):ay R:=
 match op with
 | .add=>K (.int k (k.wrap (x+y)))
 | .sub=>K (.int k (k.wrap (x-y)))
 | .mul=>K (.int k (k.wrap (x*y)))
 | .quo=>if y=0 then none else K (.int k (k.wrap (x.tdiv y)))
 | .rem=>if y=0 then none else K (.int k (x.tmod y))
 | .and=>K (.int k (k.wrap (BitVec.ofInt k.bits x&&&BitVec.ofInt k.bits y).toNat))
 | .or=>K (.int k (k.wrap (BitVec.ofInt k.bits x|||BitVec.ofInt k.bits y).toNat))
 | .xor=>K (.int k (k.wrap (BitVec.ofInt k.bits x^^^BitVec.ofInt k.bits y).toNat))
 | .andNot=>K (.int k (k.wrap (BitVec.ofInt k.bits x&&&~~~ BitVec.ofInt k.bits y).toNat))
 | .eql=>K (.bool (x==y))
 | .neq=>K (.bool (x !=y))
 | .lss=>K (.bool (decide (x<y)))
 | .leq=>K (.bool (decide (x<=y)))
 | .gtr=>K (.bool (decide (x>y)))
 | .geq=>K (.bool (decide (x>=y)))
 |_=>none
def HS {R:Type}(op:BinOp)(x y:aw UInt8)(K:AC->ay R):ay R:=
 match op with
 | .add=>room (x.length+y.length) (K (.str (x++y)))
 | .eql=>K (.bool (x==y))
 | .neq=>K (.bool (!(x==y)))
 | .lss=>K (.bool (Op.bytesLess x y))
 | .leq=>K (.bool (Op.bytesLess x y||x==y))
 | .gtr=>K (.bool (!(Op.bytesLess x y||x==y)))
 | .geq=>K (.bool (!(Op.bytesLess x y)))
 |_=>none
def sH:aw AC->aw AC->ay Bool
 |[],[]=>some true
 | .int k x::r,.int k' y::r'=>if k=k' then(sH r r').bind λb=>some ((x==y)&&b) else none
 | .bool x::r,.bool y::r'=>(sH r r').bind λb=>some ((x==y)&&b)
 | .str x::r,.str y::r'=>(sH r r').bind λb=>some ((x==y)&&b)
 |_,_=>none
def C2 {R:Type}(op:BinOp)(x y:AV)(K:AC->ay R):ay R:=
 match x,y with
 | .val false [.int k a],.val false [.int k' b]=>
   match op with
   | .shl=>if b<0 then none else K (.int k (k.wrap (a*2^(min b.toNat k.bits))))
   | .shr=>if b<0 then none else K (.int k (a.fdiv (2^(min b.toNat k.bits))))
   |_=>if k=k' then Fi op k a b K else none
 | .val false [.str a],.val false [.str b]=>HS op a b K
 | .val false [.bool a],.val false [.bool b]=>
   match op with
   | .eql=>K (.bool (a==b))
   | .neq=>K (.bool (!(a==b)))
   |_=>none
 | .val true xs,.val true ys=>
   match op with
   | .eql=>aa (sH xs ys) λb=>K (.bool b)
   | .neq=>aa (sH xs ys) λb=>K (.bool (!b))
   |_=>none
 |_,_=>none
def unC {R:Type}(op:UnOp)(x:AV)(K:AC->ay R):ay R:=
 match op,x with
 | .not,.val false [.bool b]=>K (.bool (!b))
 | .neg,.val false [.int k n]=>K (.int k (k.wrap (0-n)))
 | .xor,.val false [.int k n]=>Fi .xor k (if k.signed then-1 else k.max) n K
 |_,_=>none
def dT (cs:aw AC)(off:Nat)(vs:aw AC):aw AC:=cs.take off++vs++cs.drop (off+vs.length)
def AS.eJ (st:AS):jU->ay AC
 | .slot s j=>match st.get s with| .val _ cs=>nth cs j|_=>none
 | .box s j=>((nth st.boxes s).getD none).bind λcs=>nth cs j
 | .io j=>nth st.io j
def AS.eP (st:AS)(r:jU)(c:AC):AS:=
 match r with
 | .slot s j=>match st.get s with| .val g cs=>st.put (some s) (.val g (gI cs j c))|_=>st
 | .box s j=>match (nth st.boxes s).getD none with|some cs=>st.eu s (some (gI cs j c))|none=>st
 | .io j=>{st with io:=gI st.io j c}
def AS.fresh (st:AS):AC->AC
 | .sl (.loc ep (some (r,t))) e xs=>
   bif ep==st.ep then .sl (.loc ep (some (r,t))) e xs else
    match st.eJ r with
    |some (.sl (.own (some t')) e' ys)=>if h:e'=e then bif t'==t then .sl (.loc st.ep (some (r,t))) e (h▸ys) else .sl (.loc ep (some (r,t))) e xs else .sl (.loc ep (some (r,t))) e xs
    |_=> .sl (.loc ep (some (r,t))) e xs
 |c=>c
def AV.fresh (st:AS):AV->AV
 | .val g cs=> .val g (cs.map st.fresh)
 | .tS vs=> .tS vs
def AC.now (ep:Nat):AC->Bool
 | .sl (.loc ep' (some _)) _ _=>ep'==ep
 |_=>true
def AS.nT {R:Type}(st:AS)(r:jU)(t:Nat)(e:CT)(i:Int)(off:Nat)(vs:aw AC)(K:AS->ay R):ay R:=
 match st.eJ r with
 |some (.sl (.own (some t')) e' xs)=>
  if h:e'=e then
   if t'=t then
    aa (idx (h▸xs:aw e.D) i) λx=>
     match kB e (dT (cellsOf e (.own none) x) off vs)with
     |some (x',[])=>K {st.eP r (.sl (.own (some t')) e ((h▸xs:aw e.D).set i.toNat x'))with ep:=st.ep+1}
     |_=>none
   else none
  else none
 |some (.sl (.eX (some t') i' _) e' xs)=>
  if h:e'=e then
   if t'=t/\off=0 then
    aa (Xg (h▸xs:aw e.D) i' i) λ_=>
     match kB e vs with
     |some (x',[])=>K {st.eP r (.sl (.own (some t')) e ((h▸xs:aw e.D).set i.toNat x'))with ep:=st.ep+1}
     |_=>none
   else none
  else none
 |_=>none
def AV.cells:AV->aw AC
 | .val _ cs=>cs
 | .tS _=>[.bot]
def eK (st:AS):aw Operand->aw AV×AS
 |[]=>([],st)
 |x::xs=>let (v,st1):=st.take x;let (vs,st2):=eK st1 xs;(v::vs,st2)
def zD (e:CT):aw (aw AC)->ay (aw e.D)
 |[]=>some []
 |cs::r=>match kB e cs with
  |some (x,[])=>(zD e r).bind λxs=>some (x::xs)
  |_=>none
def Fg:Nat->aw (Nat×Operand)->Bool
 |_,[]=>true
 |n,(i,_)::r=>i==n&&Fg (n+1) r
def AC.FI:AC->Bool
 | .bot=>false
 | .un=>false
 |_=>true
def uc (jv:aw (Nat×Nat))(zero:aw AC):aw (Nat×aw AC)->ay (aw AC)
 |[]=>some zero
 |(i,cs)::r=>match nth jv i with
  |some (off,n)=>if cs.length=n/\off+n<=zero.length/\cs.all AC.FI then uc jv (dT zero off cs) r else none
  |none=>none
inductive LK where
 |int|bool|str
 deriving DecidableEq
structure Env where
 ty:List (Nat×Shape)
 eqs:List (Nat×List LK):=[]
 fts:List ((Nat×Nat)×Nat):=[]
def MJ (l:aw (Nat×aw LK))(t:Nat):ay (aw LK):=
 match l with
 |[]=>none
 |(u,sh)::r=>bif u==t then some sh else MJ r t
def fits:aw LK->aw AC->Bool
 |[],[]=>true
 | .int::ls,.int _ _::r=>fits ls r
 | .bool::ls,.bool _::r=>fits ls r
 | .str::ls,.str _::r=>fits ls r
 |_,_=>false
def Rb (l:aw ((Nat×Nat)×Nat))(S f:Nat):ay Nat:=
 match l with
 |[]=>none
 |((u,k),T)::r=>bif u==S&&k==f then some T else Rb r S f
def iP (l:aw (Nat×Shape))(t:Nat):ay Shape:=
 match l with
 |[]=>none
 |(u,sh)::r=>bif u==t then some sh else iP r t
def Env.sl (E:Env)(t:Nat):ay CT:=
 match iP E.ty t with
 |some ⟨false,.sl e,_⟩=>some e
 |_=>none
def Env.str (E:Env)(t:Nat):Bool:=
 match iP E.ty t with
 |some ⟨false,.str,_⟩=>true
 |_=>false
def Env.bool (E:Env)(t:Nat):Bool:=
 match iP E.ty t with
 |some ⟨false,.bool,_⟩=>true
 |_=>false
def Env.bytes (E:Env)(t:Nat):Bool:=
 match iP E.ty t with
 |some ⟨false,.sl (.int .u8),[(te,_)]⟩=>match iP E.ty te with|some ⟨false,.int .u8,_⟩=>true|_=>false
 |_=>false
def oP.live (ep:Nat):oP->Bool
 | .loc ep' _=>ep'==ep
 | .arg _=>true
 | .own _=>false
 | .nest ..=>false
 | .part ..=>false
 | .eX ..=>false
def oP.oU (ep:Nat)(flat:Bool):oP->Bool
 | .loc ep' _=>ep'==ep&&flat
 | .arg _=>flat
 | .own _=>true
 | .nest ..=>false
 | .part ..=>false
 | .eX ..=>false
def oP.bare:oP->oP
 | .loc ep _=> .loc ep none
 |f=>f
def AC.jd:AC->Bool
 | .int _ _=>true
 | .bool _=>true
 | .str _=>true
 | .fn _=>true
 |_=>false
def tm:Operand->ff
 | .tmp t=>[t]
 |_=>[]
def LS (l:aw Operand):ff:=l.flatMap tm
def Cl (an:An)(o:Oper):Bool:=
 match o.dst with
 |some d=>an.mv.contains d&&(an.mb d).isNone
 |none=>false
def ah0 (an:An)(o:Oper):Bool:=
 match o.dst with
 |some d=>an.nils.contains d
 |none=>false
def xP (an:An)(o:Oper):Bool:=
 match o.op with
 | .assign (.tmp s)=>an.late.contains s
 | .store _ _ (.tmp s)=>an.late.contains s
 |_=>false
def tmO:ay Operand->ff
 |some x=>tm x
 |none=>[]
def dA (o:Oper):ff:=
 match o.op with
 | .move x=>tm x
 | .assign x=>tm x
 | .pick c a b=>tm c++tm a++tm b
 | .box _ x=>tm x
 | .load _ p=>tm p
 | .store _ p x=>tm p++tm x
 | .nilCheck x=>tm x
 | .binOp _ _ x y _=>tm x++tm y
 | .unOp _ _ x=>tm x
 | .fieldAddr _ p _=>tm p
 | .indexAddr _ x i=>tm x++tm i
 | .index _ x i=>tm x++tm i
 | .build _ parts=>LS (parts.toList.map (·.2))
 | .buildSlice _ _ parts=>LS (parts.toList.map (·.2))
 | .makeSlice _ n c=>tm n++tm c
 | .slice _ x lo hi none=>tm x++tmO lo++tmO hi
 | .convert _ _ x=>tm x
 | .extract (.tmp t) _=>[t]
 | .call {callee:=.builtin _,args,..}=>LS args.toList
 | .call {callee:=.value f,args,..}=>tm f++LS args.toList
 |_=>[]
def Ck (an:An)(o:Oper):Bool:=
 match o.op with
 | .move _=>match o.dst with|some d=>an.mv.contains d|none=>false
 | .assign _=>true
 | .box ..=>true
 | .build ..=>true
 | .buildSlice ..=>true
 | .store ..=>true
 | .extract ..=>match o.dst with|some d=>an.mv.contains d|none=>false
 | .call {callee:=.builtin .append,..}=>true
 |_=>false
def Ci (an:An)(o:Oper):Bool:=
 match o.op,o.dst,o.guard with
 | .load _ (.tmp q),some d,none=>an.mv.contains d&&(an.mb d).isNone&&(an.eb q).isSome
 |_,_,_=>false
def yz (an:An)(o:Oper):Bool:=
 match o.op,o.dst,o.guard with
 | .load _ (.tmp q),some d,none=> !an.mv.contains d&& !an.fm.contains d&&(an.sb q).isSome
 |_,_,_=>false
def Cn (an:An)(o:Oper):ff:=
 match o.op with
 | .alloc _=>o.dst.toList
 | .box ..=>o.dst.toList
 | .load _ p=>match o.dst with|some d=>bif an.mv.contains d then(an.mb d).toList++(bif Ci an o then(match p with| .tmp q=>(an.eb q).toList|_=>[]) else []) else []|none=>[]
 | .store _ (.tmp p) _=>(an.sb p).toList
 | .call {callee:=.value _,args,..}=>(match args.toList with| .tmp q::_=>(an.sb q).toList|_=>[])
 |_=>[]
def mz (an:An)(o:Oper):Bool:=
 match o.op with
 | .move _=>true
 | .load ..=>(match o.dst with|some d=> !an.mv.contains d||(an.mb d).isSome|none=>false)||Ci an o
 | .extract (.tmp _) _=>true
 | .store _ (.tmp p) _=>(an.sb p).isSome&& !xP an o
 | .assign _=> !xP an o
 | .pick ..| .alloc _| .box ..| .nilCheck _| .binOp ..| .unOp ..| .fieldAddr ..| .indexAddr ..| .index ..| .build ..| .buildSlice ..| .makeSlice ..| .convert ..=>true
 | .slice _ _ _ _ none=> !Cl an o
 | .call {callee:=.builtin .len,..}| .call {callee:=.builtin .min,..}| .call {callee:=.builtin .max,..}| .call {callee:=.builtin .append,..}=>true
 | .call {callee:=.value _,..}=>true
 |_=>false
def writes (an:An)(o:Oper):ff:=o.dst.toList++(bif Ck an o then dA o else [])
def AV.now (ep:Nat):AV->Bool
 | .val _ cs=>cs.all (AC.now ep)
 | .tS _=>true
def AC.kx:AC->Bool
 | .int ..=>true
 | .bool _=>true
 | .str _=>true
 | .fn _=>true
 | .ptr ..=>true
 |_=>false
def AV.kx:AV->Bool
 | .val _ cs=>cs.all AC.kx
 | .tS _=>false
def BA (E:Env)(T:TypeId)(st:AS)(s off:Nat):Bool:=
 match iP E.ty T,(nth st.boxes s).getD none with
 |some sh,some cs=>((cs.drop off).take sh.ct.size).all AC.kx
 |_,_=>false
def Sv (an:An)(o:Oper):Bool:=match o.dst with|some d=>an.fm.contains d|none=>false
def ze (an:An)(o:Oper):Bool:=
 match o.op,o.dst,o.guard with
 | .load _ (.tmp _),some d,none=>an.mv.contains d&&(an.mb d).isSome
 |_,_,_=>false
def Jo (an:An)(o:Oper):Bool:=
 match o.op,o.dst,o.guard with
 | .load _ (.tmp _),some d,none=> !an.mv.contains d&&an.fm.contains d
 |_,_,_=>false
def Zh (an:An)(o:Oper):ff:=
 match o.op,o.dst with
 | .load ..,some d=>(an.er d).toList
 | .call {callee:=.value _,..},some d=>(an.er d).toList
 |_,_=>[]
def AC.abN (l:ff):AC->Bool
 | .sl (.loc _ (some (.slot b _,_))) _ _=>l.contains b
 | .sl (.loc _ _) _ _=>false
 |_=>true
def FG (l:ff)(st:AS):Operand->Bool
 | .tmp t=>(match st.get t with| .val _ cs=>cs.all (AC.abN l)| .tS _=>true)
 |_=>true
def ZN (an:An)(X l:ff)(st:AS)(xs:aw Operand)(q:Nat):AV->Bool
 | .val false [.ptr s _]=> !X.contains s&&an.sb q==some s&&(match (nth st.boxes s).getD none with|some cs=>cs.all AC.EB|none=>true)&&xs.all (FG l st)
 |_=>true
def AV.V7:AV->Bool
 | .val false [.ptr _ _]=>false
 |_=>true
def ra (an:An)(X l:ff)(st:AS):aw Operand->Bool
 | .tmp q::xs=>ZN an X l st xs q (st.rd (.tmp q))
 |x::_=>(st.rd x).V7
 |[]=>true
def dp (E:Env)(an:An)(X:ff)(o:Oper)(st:AS):Bool:=
 match o.op with
 | .move x=> !Sv an o||(st.rd x).kx
 | .indexAddr _ x _=>(st.rd x).now st.ep||(match st.rd x with| .val _ [.sl (.loc _ (some (.box b _,_))) _ _]=> !X.contains b|_=>false)
 | .slice _ x _ _ none=>(st.rd x).now st.ep
 | .call {callee:=.value _,args,..}=>ra an X (Zh an o) st args.toList&&args.toList.all λx=>(st.rd x).now st.ep
 | .load T p=>match st.rd p with
   | .val false [.ptr s off]=> !X.contains s&&(match o.dst with|some d=> !an.mv.contains d||an.mb d==some s|none=>true)&&(!Sv an o||BA E T st s off)
   | .val false [.yP fl _ _ _ _]=>(fl.live st.ep||(match fl with
     | .loc _ (some (.slot b _,_))=>(Zh an o).contains b
     | .loc _ (some (.box b _,_))=> !X.contains b
     |_=>false))&& !(Sv an o||ze an o)&& !yz an o&&(!Ci an o||(match p,fl with
     | .tmp q,.loc _ (some (.box b _,_))=>an.eb q==some b&& !X.contains b
     |_,_=>false))
   |_=> !(Sv an o||ze an o)
 | .store _ (.tmp p) _=>((an.sb p).isNone&&(an.eb p).isNone&&(an.es p).isNone)||(match st.rd (.tmp p)with
   | .val false [.ptr s _]=> !X.contains s&&an.sb p==some s
   | .val false [.yP (.loc _ (some (.box b _,_))) _ _ _ _]=>an.eb p==some b&&(an.sb p).isNone&&(an.es p).isNone
   | .val false [.yP (.loc _ (some (.slot b _,_))) _ _ _ _]=>an.es p==some b&&(an.sb p).isNone&&(an.eb p).isNone
   |_=>false)
 | .extract (.tmp t) i=>match st.get t with
   | .tS vs=>match nth vs i with|some x=>x.2.all AC.jd||(match o.dst with|some d=>an.mv.contains d|none=>false)|none=>true
   |_=>true
 |_=>true
def BG (an:An)(ops:aw Oper)(o:Oper):ff:=
 (match o.guard with
 |some (j,_)=>((nth ops j).bind (·.dst)).toList
 |none=>[])++Zh an o
def meets (a b:ff):Bool:=a.any λx=>b.contains x
def SK (an:An)(ops:aw Oper)(X Y:ff)(o p:Oper):Bool:=
 mz an o&&mz an p&& !meets (writes an o) (dA p++BG an ops p++writes an p)&& !meets (writes an p) (dA o++BG an ops o)&&
 (Cn an o).all (λd=>Y.contains d)&&(Cn an p).all (λd=>X.contains d)&& !meets (Cn an o) (p.dst.toList++Cn an p)&& !meets (Cn an p) o.dst.toList
def Tx (o p:Oper):Bool:=
 match o.op,p.op,o.dst,p.dst,o.guard,p.guard with
 | .extract (.tmp t) i,.extract (.tmp t') j,some d,some d',none,none=>t==t'&& !(i==j)&& !(d==d')&& !(d==t)&& !(d'==t)
 |_,_,_,_,_,_=>false
def Tt (an:An)(o p:Oper):Bool:=
 match p.op,p.dst,p.guard with
 | .store _ (.tmp q) (.tmp x),none,none=>((an.eb q).isSome&&(an.es q).isNone||(match an.es q with|some b=>(an.eb q).isNone&& !(b==x)&& !(b==q)&& !meets [b] (o.dst.toList++dA o)|none=>false))&&(an.sb q).isNone&& !xP an p&&(match o.op,o.dst,o.guard with
   | .move (.tmp t),some d,none=> !an.mv.contains d&&an.fm.contains d&& !(d==q)&& !(d==x)&& !(t==x)&& !(t==q)&& !(d==t)
   | .extract (.tmp t) _,some d,none=> !(d==q)&& !(d==x)&& !(t==x)&& !(t==q)&& !(d==t)
   |_,_,_=>false)
 |_,_,_=>false
def Ug (an:An)(o p:Oper):Bool:=
 (ze an o&&Jo an p||Jo an o&&ze an p)&& !meets o.dst.toList (p.dst.toList++dA p)&& !meets p.dst.toList (dA o)
def SX (an:An)(o p:Oper):Bool:=yz an o&&Ci an p&& !meets o.dst.toList (p.dst.toList++dA p)&& !meets p.dst.toList (dA o)
def abz (an:An)(o p:Oper):Bool:=Tx o p||Tt an o p||Ug an o p||SX an o p
def IT (an:An)(ops:aw Oper)(X Y:ff)(o p:Oper):Bool:=abz an o p||SK an ops X Y o p
def yA (o:Oper):ff:=(o.after.toList.filter (λe=>Region.binds .any e)).map (·.on)
def Pn (a b:ff):ff:=a.foldl (λs x=>bif s.contains x then s else x::s) b
def PA:aw Oper->aw ff->aw ff
 |[],acc=>acc
 |o::r,acc=>PA r (acc++[(yA o).foldl (λs j=>Pn (j::(nth acc j).getD []) s) []])
def Yc (A:aw ff)(i k:Nat):Bool:=((nth A i).getD []).contains k
def Vs (an:An)(A:aw ff)(i:Nat)(fl pl:Bool):Nat->aw Oper->ff
 |_,[]=>[]
 |k,o::r=>(bif !Yc A i k&& !Yc A k i&& !(k==i)&& !(fl&&ze an o)&& !(pl&&Ci an o) then Cn an o else [])++Vs an A i fl pl (k+1) r
def qz (an:An)(A:aw ff)(i k:Nat)(ops:aw Oper):ff:=Vs an A i (match nth ops i with|some o=>Jo an o|none=>false) (match nth ops i with|some o=>yz an o|none=>false) k ops
def Kj (an:An)(ops:aw Oper)(A:aw ff)(i:Nat)(oi:Oper):Nat->aw Oper->Bool
 |_,[]=>true
 |j,oj::r=>bif Nat.ble i j then true else(Yc A i j||IT an ops (qz an A j 0 ops) (qz an A i 0 ops) oj oi)&&Kj an ops A i oi (j+1) r
def OL (an:An)(ops:aw Oper)(A:aw ff):Nat->aw Oper->Bool
 |_,[]=>true
 |i,oi::r=>(yA oi).all (λk=>Nat.blt k i)&&Kj an ops A i oi 0 ops&&OL an ops A (i+1) r
def PX (an:An)(ops:aw Oper):Bool:=OL an ops (PA ops []) 0 ops
inductive Ex where
 |normal|ret|exit (id:Nat)
inductive FK where
 |own (tag:Option Nat)|arg|vT|loc|lio (j t:Nat)|nil
def FK.flag:FK->oP
 | .own t=> .own t
 | .arg=> .arg false
 | .vT=> .arg true
 | .loc=> .loc 0 none
 | .lio j t=> .loc 0 (some (.io j,t))
 | .nil=> .arg false
def FK.isNil:FK->Bool
 | .nil=>true
 |_=>false
inductive FT where
 |int (k:IntKind)|bool|str|sl (fl:FK) (e:CT)|pair (a b:FT)
abbrev FT.ct:FT->CT
 | .int k=> .int k
 | .bool=> .bool
 | .str=> .str
 | .sl _ e=> .sl e
 | .pair a b=> .pair a.ct b.ct
def ja:(t:FT)->t.ct.D->aw AC
 | .int k,n=>[.int k n]
 | .bool,b=>[.bool b]
 | .str,s=>[.str s]
 | .sl fl e,xs=>[bif fl.isNil then .jm else .sl fl.flag e xs]
 | .pair a b,x=>ja a x.1++ja b x.2
def FK.fits:FK->oP->Bool
 | .own t,.own t'=>t==t'
 | .arg,.arg k=> !k
 | .vT,.arg k=>k
 | .loc,.loc 0 none=>true
 | .lio j t,.loc 0 (some (.io j',t'))=>j==j'&&t==t'
 |_,_=>false
def IE:(t:FT)->aw AC->ay (t.ct.D×aw AC)
 | .int k,.int k' n::r=>if k'=k then some (n,r) else none
 | .bool,.bool b::r=>some (b,r)
 | .str,.str s::r=>some (s,r)
 | .sl fl e,.sl fl' e' xs::r=>if h:e'=e then bif fl.fits fl' then some (h▸xs,r) else none else none
 | .sl fl _,.jm::r=>bif fl.isNil then some ([],r) else none
 | .pair a b,cs=>(IE a cs).bind λx=>(IE b x.2).bind λy=>some ((x.1,y.1),y.2)
 |_,_=>none
inductive PD where
 |bot|ptr (s off:Nat)|fn (f:Nat)|data (g:Bool) (t:FT)
inductive IoD where
 |none|some (t:FT)|ptr
structure SD where
 slots:List PD
 boxes:List (Option FT)
 io:IoD:=.none
abbrev G3:aw PD->Type
 |[]=>Unit
 | .data _ t::r=>t.ct.D×G3 r
 |_::r=>G3 r
abbrev Gb:aw (ay FT)->Type
 |[]=>Unit
 |some t::r=>t.ct.D×Gb r
 |none::r=>Gb r
abbrev ioD:IoD->Type
 | .none=>Unit
 | .some t=>t.ct.D
 | .ptr=>Unit
abbrev SD.D (d:SD):Type:=G3 d.slots×Gb d.boxes×ioD d.io
def qB:(l:aw PD)->G3 l->aw AV
 |[],_=>[]
 | .data g t::r,x=> .val g (ja t x.1)::qB r x.2
 | .bot::r,x=> .bot::qB r x
 | .ptr s off::r,x=> .one (.ptr s off)::qB r x
 | .fn f::r,x=> .one (.fn f)::qB r x
def zj:(l:aw (ay FT))->Gb l->aw (ay (aw AC))
 |[],_=>[]
 |some t::r,x=>some (ja t x.1)::zj r x.2
 |none::r,x=>none::zj r x
def aan:(o:IoD)->ioD o->aw AC
 | .none,_=>[]
 | .some t,x=>ja t x
 | .ptr,_=>[.ptr 0 0]
def SD.enc (d:SD)(x:d.D):AS:=⟨qB d.slots x.1,zj d.boxes x.2.1,0,List.replicate d.slots.length false,aan d.io x.2.2⟩
def AV.V1:AV->Bool
 | .val false [.bot]=>true
 |_=>false
def AV.V2 (s off:Nat):AV->Bool
 | .val false [.ptr s' amg]=>s==s'&&off==amg
 |_=>false
def AV.XG (f:Nat):AV->Bool
 | .val false [.fn f']=>f==f'
 |_=>false
def jA:(l:aw PD)->aw AV->ay (G3 l)
 |[],[]=>some ()
 | .data g t::r,.val g' cs::vs=>bif g==g' then(match IE t cs with|some (x,[])=>(jA r vs).bind λy=>some (x,y)|_=>none) else none
 | .bot::r,v::vs=>bif v.V1 then jA r vs else none
 | .ptr s off::r,v::vs=>bif v.V2 s off then jA r vs else none
 | .fn f::r,v::vs=>bif v.XG f then jA r vs else none
 |_,_=>none
def oT:(l:aw (ay FT))->aw (ay (aw AC))->ay (Gb l)
 |[],[]=>some ()
 |some t::r,some cs::bs=>match IE t cs with|some (x,[])=>(oT r bs).bind λy=>some (x,y)|_=>none
 |none::r,none::bs=>oT r bs
 |_,_=>none
def T9:aw AC->Bool
 |[.ptr 0 0]=>true
 |_=>false
def PV:(o:IoD)->aw AC->ay (ioD o)
 | .none,[]=>some ()
 | .some t,cs=>match IE t cs with|some (x,[])=>some x|_=>none
 | .ptr,cs=>bif T9 cs then some () else none
 |_,_=>none
def SD.dec (d:SD)(st:AS):ay d.D:=
 bif st.ep==0&&st.iss==List.replicate d.slots.length false then
  (jA d.slots st.slots).bind λx=>(oT d.boxes st.boxes).bind λy=>(PV d.io st.io).bind λz=>some (x,y,z)
 else none
structure F8 where
 sd:SD
 run:{R:Type}->sd.D->(Ex->AS->Option R)->Option R
abbrev kN:=Nat->F8
def F8.go {R:Type}(l:F8)(st:AS)(K:Ex->AS->ay R):ay R:=aa (l.sd.dec st) λx=>l.run x K
def F8.none:F8:=⟨⟨[],[],.none⟩,λ_ _=>Option.none⟩
def kN.nil:kN:=λ_=>F8.none
def kN.add (Λ:kN)(k:Nat)(l:F8):kN:=λj=>bif j==k then l else Λ j
section
variable {R:Type} (E:Env) (Γ:xl) (an:An)
def zG (o:Oper)(x:Operand)(st:AS)(K:AS->ay R):ay R:=
 match o.dst with
 |some d=>if an.mv.contains d then K ((st.take x).2.put o.dst (st.take x).1) else K (st.put o.dst (st.rd x))
 |none=>none
def sD (o:Oper)(x:Operand)(st:AS)(K:AS->ay R):ay R:=
 match st.take x with
 |(.val false [.jm],_)=>match E.sl o.type with
  |some e=>K (st.put o.dst (.one (bif ah0 an o then .jm else .sl (.own none) e [])))
  |none=>none
 |(v,bI)=>K (bI.put o.dst v)
def B0 (o:Oper)(c a b:Operand)(st:AS)(K:AS->ay R):ay R:=
 match st.rd c with
 | .val false [.bool t]=>match st.rd a,st.rd b with
   | .val false [.bool x],.val false [.bool y]=>K (st.put o.dst (.one (.bool (cond t x y))))
   |va,vb=>cond t (K (st.put o.dst va)) (K (st.put o.dst vb))
 |_=>none
def zS (o:Oper)(T:TypeId)(st:AS)(K:AS->ay R):ay R:=
 match o.dst,iP E.ty T with
 |some d,some sh=>match nth st.boxes d with
  |some none=>K ((st.eu d (some (cellsOf sh.ct (.own none) sh.ct.zero))).put o.dst (.one (.ptr d 0)))
  |_=>none
 |_,_=>none
def Nt (o:Oper)(x:Operand)(st:AS)(K:AS->ay R):ay R:=
 match o.dst,st.take x with
 |some d,(.val _ cs,bI)=>
  match nth bI.boxes d with
  |some none=>if cs.all AC.FI then K ((bI.eu d (some cs)).put o.dst (.one (.ptr d 0))) else none
  |_=>none
 |_,_=>none
def OF (ep:Nat)(r:jU)(t:Nat)(e:CT)(i:Int):Nat->aw AC->aw AC
 |_,[]=>[]
 |p,.sl _ e' xs::cs=> .sl (.nest ep r t e i p) e' xs::OF ep r t e i (p+1) cs
 |p,c::cs=>c::OF ep r t e i (p+1) cs
def abn (o:Oper)(ep:Nat)(fl:oP)(e:CT)(i:Int)(off:Nat)(cs:aw AC):aw AC:=
 match fl,o.dst with
 | .loc _ (some (r,t)),some d=>bif an.nest.contains d then OF ep r t e i off cs else cs
 |_,_=>cs
def AB (o:Oper)(sh:Shape)(fl:oP)(e:CT)(i:Int)(off:Nat)(st:AS)(K:AS->ay R):ay R:=
 match fl with
 | .loc _ (some (r,t))=>
   match st.eJ r with
   |some (.sl (.own (some t')) e' ys)=>
    if h:e'=e then
     if t'=t/\off+sh.ct.size<=e.size then
      aa (idx (h▸ys:aw e.D) i) λy=>K (st.put o.dst (.val sh.agg (((cellsOf e (.loc st.ep none) y).drop off).take sh.ct.size)))
     else none
    else none
   |_=>none
 |_=>none
def vP (o:Oper)(sh:Shape)(fl:oP)(e:CT)(i:Int)(off:Nat)(st:AS)(K:AS->ay R):ay R:=
 match fl with
 | .loc _ (some (r,t))=>
   match st.eJ r with
   |some (.sl (.own (some t')) e' ys)=>
    if h:e'=e then
     if t'=t/\off=0/\sh.ct=e then
      aa (idx (h▸ys:aw e.D) i) λy=>K ((st.eP r (.sl (.eX (some t) i (some st.ep)) e (h▸ys))).put o.dst (.val sh.agg (cellsOf e (.own none) y)))
     else none
    else none
   |_=>none
 |_=>none
def nI (o:Oper)(T:TypeId)(p:Operand)(st:AS)(K:AS->ay R):ay R:=
 match iP E.ty T,st.rd p with
 |some sh,.val false [.ptr s off]=>
  match (nth st.boxes s).getD none with
  |some cs=>
   if off+sh.ct.size<=cs.length then
    match o.dst with
    |some d=>
     if an.mv.contains d then
      K ((st.eu s (some (dT cs off (aQ st.ep ((cs.drop off).take sh.ct.size))))).put o.dst (.val sh.agg ((cs.drop off).take sh.ct.size)))
     else K (st.put o.dst (.val sh.agg (ic st.ep (.box s) off ((cs.drop off).take sh.ct.size))))
    |none=>none
   else none
  |none=>none
 |some sh,.val false [.yP fl e x i off]=>
  if Cl an o then vP o sh fl e i off st K
  else if fl.live st.ep then
   if off+sh.ct.size<=e.size then K (st.put o.dst (.val sh.agg (abn an o st.ep fl e i off (((cellsOf e fl.bare x).drop off).take sh.ct.size)))) else none
  else AB o sh fl e i off st K
 |_,_=>none
def uC (T:TypeId)(p x:Operand)(st:AS)(K:AS->ay R):ay R:=
 match iP E.ty T,st.rd p with
 |some sh,.val false [.ptr s off]=>
  match st.take x with
  |(.val _ vs,bI)=>
   match (nth bI.boxes s).getD none with
   |some cs=>
    if vs.length=sh.ct.size/\vs.all AC.FI then
     if off+sh.ct.size<=cs.length then K (bI.eu s (some (dT cs off vs))) else none
    else none
   |none=>none
  |_=>none
 |some sh,.val false [.yP (.loc _ (some (r,t))) e _ i off]=>
  match st.take x with
  |(.val _ vs,bI)=>
   if vs.length=sh.ct.size/\off+sh.ct.size<=e.size then bI.nT r t e i off vs K else none
  |_=>none
 |_,_=>none
def xC (o:Oper)(S:TypeId)(p:Operand)(f:Nat)(st:AS)(K:AS->ay R):ay R:=
 match iP E.ty S,st.rd p with
 |some ⟨true,_,jv⟩,.val false [.ptr s off]=>match nth jv f with|some (fo,_)=>K (st.put o.dst (.one (.ptr s (off+fo))))|none=>none
 |some ⟨true,_,jv⟩,.val false [.yP fl e x i off]=>match nth jv f with|some (fo,_)=>K (st.put o.dst (.one (.yP fl e x i (off+fo))))|none=>none
 |_,_=>none
def lx (o:Oper)(T:TypeId)(x i:Operand)(st:AS)(K:AS->ay R):ay R:=
 match E.sl T,(st.rd x).fresh st,st.rd i with
 |some e',.val false [.sl fl e xs],.val false [.int _ n]=>
  if e'=e/\fl.live st.ep then aa (idx xs n) λy=>K (st.put o.dst (.one (.yP fl e y n 0))) else none
 |_,_,_=>none
def yW (o:Oper)(T:TypeId)(x i:Operand)(st:AS)(K:AS->ay R):ay R:=
 match st.rd x,st.rd i with
 | .val false [.str s],.val false [.int _ n]=>if E.str T then aa (idx s n) λb=>K (st.put o.dst (.one (.int .u8 b.toNat))) else none
 |_,_=>none
def yM (o:Oper)(T:TypeId)(parts:aw (Nat×Operand))(st:AS)(K:AS->ay R):ay R:=
 match iP E.ty T with
 |some ⟨true,ct,jv⟩=>
  match eK st (parts.map (·.2))with
  |(vs,bI)=>
   match uc jv (cellsOf ct (.own none) ct.zero) ((parts.map (·.1)).zip (vs.map AV.cells))with
   |some cs=>K (bI.put o.dst (.val true cs))
   |none=>none
 |_=>none
def kP (o:Oper)(T:TypeId)(len:Nat)(parts:aw (Nat×Operand))(st:AS)(K:AS->ay R):ay R:=
 match E.sl T with
 |some e=>
  if parts.length=len/\Fg 0 parts/\len<=1000 then
   match eK st (parts.map (·.2))with
   |(vs,bI)=>
    match zD e (vs.map AV.cells)with
    |some xs=>K (bI.om o.dst e xs)
    |none=>none
  else none
 |none=>none
def ni (o:Oper)(T:TypeId)(n c:Operand)(st:AS)(K:AS->ay R):ay R:=
 match E.sl T,st.rd n,st.rd c with
 |some e,.val false [.int .i64 len],.val false [.int .i64 cap]=>
  if 0<=len/\len<=cap then room cap.toNat (K (st.om o.dst e (List.replicate len.toNat e.zero))) else none
 |_,_,_=>none
def lK (st:AS)(lo hi:ay Operand)(n:Nat)(K:Int->Int->ay R):ay R:=
 match lo.map st.rd,hi.map st.rd with
 |none,none=>K 0 n
 |some (.val false [.int _ a]),none=>K a n
 |none,some (.val false [.int _ b])=>K 0 b
 |some (.val false [.int _ a]),some (.val false [.int _ b])=>K a b
 |_,_=>none
def uu (o:Oper)(T:TypeId)(x:Operand)(lo hi:ay Operand)(st:AS)(K:AS->ay R):ay R:=
 match st.take x,lo.map st.rd,hi with
 |(.val false [.sl (.own _) e xs],bI),some (.val false [.int _ a]),none=>
  if E.sl T=some e then aa (sub xs a xs.length) λLc=>K (bI.om o.dst e Lc) else none
 |_,_,_=>none
def Kk (o:Oper)(fl:oP)(a:Int):oP:=
 match fl,o.dst with
 | .loc ep (some (r,t)),some d=>bif an.nest.contains d then .part ep r t a else .loc ep none
 |fl,_=>fl.bare
def xX (o:Oper)(T:TypeId)(x:Operand)(lo hi:ay Operand)(st:AS)(K:AS->ay R):ay R:=
 if Cl an o then uu E o T x lo hi st K else
 match (st.rd x).fresh st with
 | .val false [.str s]=>if E.str T then lK st lo hi s.length λa b=>aa (sub s a b) λs'=>K (st.put o.dst (.one (.str s'))) else none
 | .val false [.sl fl e xs]=>
   if E.sl T=some e/\fl.live st.ep then lK st lo hi xs.length λa b=>aa (sub xs a b) λLc=>K (st.put o.dst (.one (.sl (Kk an o fl a) e Lc))) else none
 |_=>none
def kR (o:Oper)(src dst:TypeId)(x:Operand)(st:AS)(K:AS->ay R):ay R:=
 match iP E.ty src,iP E.ty dst,st.rd x with
 |some _,some ⟨false,.int k,_⟩,.val false [.int _ n]=>K (st.put o.dst (.one (.int k (k.wrap n))))
 |some ⟨false,.str,_⟩,some ⟨false,.str,_⟩,.val false [.str s]=>K (st.put o.dst (.one (.str s)))
 |some ⟨false,.str,_⟩,some _,.val false [.str s]=>
  if E.bytes dst then room s.length (K (st.om o.dst (.int .u8) (di s))) else none
 |some _,some ⟨false,.str,_⟩,.val false [.sl fl (.int .u8) xs]=>
  if E.bytes src/\fl.live st.ep then K (st.put o.dst (.one (.str (aK xs)))) else none
 |_,_,_=>none
def kS (o:Oper)(t i:Nat)(st:AS)(K:AS->ay R):ay R:=
 match st.get t with
 | .tS vs=>match nth vs i with
   |some (g,cs)=>K ((st.put (some t) (.tS (gI vs i (g,aQ 0 cs)))).put o.dst (.val g cs))
   |none=>none
 |_=>none
def J5 (o:Oper)(ts:aw TypeId)(args:aw Operand)(st:AS)(K:AS->ay R):ay R:=
 match ts,args.map st.rd with
 |[t],[.val false [.str s]]=>if E.str t then K (st.put o.dst (.one (.int .i64 s.length))) else none
 |[t],[.val false [.sl _ _ xs]]=>if(E.sl t).isSome then K (st.put o.dst (.one (.int .i64 xs.length))) else none
 |_,_=>none
def Lz (o:Oper)(args:aw Operand)(st:AS)(K:AS->ay R):ay R:=
 match args.map st.rd with
 |[.val false [.int k x],.val false [.int _ y]]=>K (st.put o.dst (.one (.int k (if y<x then y else x))))
 |_=>none
def Ly (o:Oper)(args:aw Operand)(st:AS)(K:AS->ay R):ay R:=
 match args.map st.rd with
 |[.val false [.int k x],.val false [.int _ y]]=>K (st.put o.dst (.one (.int k (if y>x then y else x))))
 |_=>none
def L3 (o:Oper)(ts:aw TypeId)(args:aw Operand)(st:AS)(K:AS->ay R):ay R:=
 match ts,args.map st.rd with
 |[t,t'],[.val false [.sl (.part ep r tg lo) e xs],.val false [.str s]]=>
  match st.eJ r with
  |some (.sl (.own (some tg')) e' ys)=>
   if h:e'=.int .u8 then
    if e=.int .u8/\E.sl t=some (.int .u8)/\E.str t'=true/\ep=st.ep/\tg'=tg then
     K ({st.eP r (.sl (.own (some tg)) (.int .u8) (zH (h▸ys:aw (CT.int .u8).D) lo.toNat (di (s.take xs.length))))with ep:=st.ep+1}.put o.dst (.one (.int .i64 (min xs.length s.length:Nat))))
    else none
   else none
  |_=>none
 |_,_=>none
def Cz (o:Oper)(S:TypeId)(t f:Nat)(st:AS)(K:AS->ay R):ay R:=
 match iP E.ty S,st.get t,Rb E.fts S f with
 |some ⟨true,ct,jv⟩,.val true cs,some T=>
  match nth jv f,iP E.ty T with
  |some (fo,n),some sh=>
   if n=sh.ct.size/\cs.length=ct.size/\fo+n<=cs.length then
    K ((st.put (some t) (.val true (dT cs fo (aQ st.ep ((cs.drop fo).take n))))).put o.dst (.val sh.agg ((cs.drop fo).take n)))
   else none
  |_,_=>none
 |_,_,_=>none
def uG (o:Oper)(ts:aw TypeId)(args:aw Operand)(st:AS)(K:AS->ay R):ay R:=
 match ts,args with
 |[t,t'],[s,x]=>
  match st.take s with
  |(.val false [.sl (.own _) e xs],st1)=>
   match st1.take x with
   |(.val false [.sl fl e' ys],st2)=>
    if h:e'=e then
     if E.sl t=some e/\E.sl t'=some e/\fl.oU st.ep e.flat then
      room (xs.length+ys.length) (K (st2.om o.dst e (xs++(h▸ys:aw e.D))))
     else none
    else none
   |(.val false [.str s],st2)=>
    if h:e=.int .u8 then
     if E.sl t=some e/\E.str t' then room (xs.length+s.length) (K (st2.om o.dst (.int .u8) ((h▸xs:aw (CT.int .u8).D)++di s))) else none
    else none
   |_=>none
  |_=>none
 |_,_=>none
def Mj:Nat->aw AC->ay (jU×Nat)
 |_,[]=>none
 |j,.sl (.loc _ (some (r,_))) _ _::_=>some (r,j)
 |j,_::cs=>Mj (j+1) cs
def jU.pos:jU->Nat
 | .slot _ j=>j
 | .box _ j=>j
 | .io j=>j
def AS.Fx (st:AS):jU->ay (aw AC)
 | .slot s _=>match st.get s with| .val _ cs=>some cs|_=>none
 | .box s _=>(nth st.boxes s).getD none
 | .io _=>some st.io
def AS.Cb (st:AS)(r:jU)(cs:aw AC):AS:=
 match r with
 | .slot s _=>match st.get s with| .val g _=>st.put (some s) (.val g cs)|_=>st
 | .box s _=>st.eu s (some cs)
 | .io _=>{st with io:=cs}
def mD:aw AC->aw AC->ay (aw AC)
 |[],[]=>some []
 | .sl (.loc _ (some (_,t))) _ _::os,.sl (.own (some t')) e xs::ss=>bif t'==t then(mD os ss).bind λr=>some (.sl (.own none) e xs::r) else none
 | .int k n::os,.int _ _::ss=>(mD os ss).bind λr=>some (.int k n::r)
 | .bool b::os,.bool _::ss=>(mD os ss).bind λr=>some (.bool b::r)
 | .str x::os,.str _::ss=>(mD os ss).bind λr=>some (.str x::r)
 |_,_=>none
def AV.jd:AV->Bool
 | .val _ cs=>cs.all AC.jd
 | .tS vs=>vs.all λx=>x.2.all AC.jd
def Nx (st:AS)(x:Operand):ay (AV×AS):=
 match st.rd x with
 | .val g cs=>
   match Mj 0 cs with
   |some (r,j)=>
    match st.Fx r with
    |some Vv=>
     match mD cs ((Vv.drop (r.pos-j)).take cs.length)with
     |some oS=>some (.val g oS,st.Cb r (dT Vv (r.pos-j) (aQ st.ep ((Vv.drop (r.pos-j)).take cs.length))))
     |none=>none
    |none=>none
   |none=>none
 |_=>none
def MG (o:Oper)(x:Operand)(st:AS)(K:AS->ay R):ay R:=
 match Nx st x with
 |some (v,bI)=>K (bI.put o.dst v)
 |none=>none
def uD (T:TypeId)(p x:Operand)(st:AS)(K:AS->ay R):ay R:=
 match iP E.ty T,st.rd p with
 |some sh,.val false [.ptr s off]=>
  match Nx st x with
  |some (.val _ vs,bI)=>
   match (nth bI.boxes s).getD none with
   |some cs=>
    if vs.length=sh.ct.size/\vs.all AC.FI then
     if off+sh.ct.size<=cs.length then K (bI.eu s (some (dT cs off vs))) else none
    else none
   |none=>none
  |_=>none
 |_,_=>none
def AC.strip:AC->AC
 | .sl (.own _) e xs=> .sl (.own none) e xs
 | .sl (.loc _ _) _ _=> .bot
 | .sl (.nest ..) _ _=> .bot
 | .sl (.part ..) _ _=> .bot
 | .sl (.eX _ i _) e xs=> .sl (.eX none i none) e xs
 | .ptr _ _=> .bot
 | .yP _ _ _ _ _=> .bot
 |c=>c
def AC.adm:AC->Bool
 | .sl (.own _) _ _=>true
 |c=>c.jd
def AC.wo (k:Bool):AC->Bool
 | .sl (.own _) _ _=>true
 | .sl (.arg k') _ _=>k'==k
 |c=>c.jd
def AC.Pb:AC->AC
 | .sl (.own _) e xs=> .sl (.own none) e xs
 | .sl (.arg _) e xs=> .sl (.arg true) e xs
 |c=>c.strip
def AC.ae0 (k:Bool)(tag:ay Nat):AC->AC
 | .sl (.own _) e xs=> .sl (.own tag) e xs
 | .sl (.arg _) e xs=> .sl (.arg k) e xs
 |c=>c
def nX (k:Bool)(mk:Nat->ay Nat):Nat->aw AC->aw AC
 |_,[]=>[]
 |j,c::cs=>c.ae0 k (mk j)::nX k mk (j+1) cs
def AM (cs:aw AC):Bool:=cs.any λc=>match c with| .sl (.arg k) _ _=>k|_=>false
def AC.Ga:AC->Bool
 | .sl (.arg k) _ _=> !k
 |c=>c.jd
def AV.Ga:AV->Bool
 | .val _ cs=>cs.all AC.Ga
 | .tS _=>false
def AS.Lx (st:AS):AC->AC
 | .sl (.own _) e xs=> .sl (.arg false) e xs
 | .sl (.arg _) e xs=> .sl (.arg false) e xs
 | .sl (.loc _ (some (.slot b j,t))) _ _=>match st.eJ (.slot b j)with
   |some (.sl (.own (some t')) e' ys)=>if t'=t then .sl (.arg false) e' ys else .bot
   |_=> .bot
 | .int k n=> .int k n
 | .bool b=> .bool b
 | .str s=> .str s
 | .fn f=> .fn f
 |_=> .bot
def yx (st:AS):Operand->AV
 | .tmp t=>(match st.get t with| .val g cs=> .val g (cs.map st.Lx)|v=>v)
 |x=>st.rd x
def zC (st:AS):Operand->Bool
 | .tmp t=>(match st.get t with| .val _ cs=>(cs.map st.Lx).all AC.Ga|_=>false)
 |x=>(st.rd x).jd
def AC.X6:AC->Bool
 | .sl (.own _) _ _=>true
 |c=>c.jd
def AV.X6:AV->Bool
 | .val _ cs=>cs.all AC.X6
 | .tS vs=>vs.all λx=>x.2.all AC.X6
def Vr (st:AS)(s:Nat)(cs:aw AC):AS:={(st.eu s (some cs)).fg (some s)with ep:=st.ep+1}
def sE (o:Oper)(f:Nat)(args:aw Operand)(st:AS)(K:AS->ay R):ay R:=
 match args with
 |x0::xs=>
  match st.rd x0 with
  | .val false [.ptr s 0]=>
    match (nth st.boxes s).getD none with
    |some cs=>
     bif cs.all (AC.wo (AM cs))&&xs.all (zC st) then
      aa ((Γ f).fn (.val true (cs.map AC.Pb)::xs.map (yx st))) λy=>
       bif ((Γ f).back y).all (AC.wo true)&&((Γ f).av y).X6 then
        bif (Γ f).cur&&cs.all AC.EB then
         K (((st.eu s (some (nX (AM cs) (λ_=>none) 0 ((Γ f).back y)))).fg o.dst).put o.dst (((Γ f).av y).AN st.ep (st.gS o.dst)))
        else
        K (((Vr st s (nX (AM cs) (st.gS (some s)) 0 ((Γ f).back y))).fg o.dst).put o.dst
          (((Γ f).av y).AN (st.ep+1) ((Vr st s (nX (AM cs) (st.gS (some s)) 0 ((Γ f).back y))).gS o.dst)))
       else none
     else none
    |none=>none
  |_=>none
 |[]=>none
def X7 (o:Oper)(f:Nat)(args:aw Operand)(st:AS)(K:AS->ay R):ay R:=
 match o.dst with
 |some d=>
  match nth st.boxes d with
  |some none=>
   bif args.all (λx=>(st.rd x).Ga) then
    aa ((Γ f).fn (args.map st.rd)) λy=>
     bif ((Γ f).back y).all AC.Ga then K ((st.eu d (some ((Γ f).back y))).put (some d) (.one (.ptr d 0))) else none
   else none
  |_=>none
 |none=>none
def AP (o:Oper)(f:Operand)(args:aw Operand)(st:AS)(K:AS->ay R):ay R:=
 match st.rd f with
 | .val false [.fn f]=>
   bif (Γ f).bx then sE Γ o f args st K else
   bif (Γ f).pr then X7 Γ o f args st K else
   bif (Γ f).io then none
   else aa ((Γ f).fn (args.map λx=>((st.rd x).fresh st).asArg st.ep)) λr=>cond ((Γ f).sel r) (K ((st.fg o.dst).put o.dst (((Γ f).av r).AN st.ep (st.gS o.dst)))) (K ((st.fg o.dst).put o.dst (((Γ f).alt r).AN st.ep (st.gS o.dst))))
 |_=>none
def AQ {R:Type}(op:BinOp)(b:Bool)(K:AC->ay R):ay R:=
 match op with
 | .eql=>K (.bool b)
 | .neq=>K (.bool (!b))
 |_=>none
def yi (o:Oper)(op:BinOp)(T:TypeId)(x y:Operand)(st:AS)(K:AS->ay R):ay R:=
 match st.rd x,st.rd y with
 | .val false [.bool a],.val false [.bool b]=>if E.bool T then C2 op (.one (.bool a)) (.one (.bool b)) λc=>K (st.put o.dst (.one c)) else none
 | .val true xs,.val true ys=>match MJ E.eqs T with
   |some ls=>if fits ls xs then C2 op (.val true xs) (.val true ys) λc=>K (st.put o.dst (.one c)) else none
   |none=>none
 | .val false [.sl fl _ xs],.val false [.jm]=>if(E.sl T).isSome/\fl.live st.ep then(if xs.length=0 then none else AQ op false λc=>K (st.put o.dst (.one c))) else none
 | .val false [.jm],.val false [.jm]=>if(E.sl T).isSome then AQ op true λc=>K (st.put o.dst (.one c)) else none
 |a,b=>C2 op a b λc=>K (st.put o.dst (.one c))
def cU (o:Oper)(st:AS)(K:AS->ay R):ay R:=
 match o.op with
 | .move x=>zG an o x st K
 | .assign x=>if xP an o then MG o x st K else sD E an o x st K
 | .pick c a b=>B0 o c a b st K
 | .alloc T=>zS E o T st K
 | .box _ x=>Nt o x st K
 | .load T p=>nI E an o T p st K
 | .store T p x=>match o.dst with|none=>(if xP an o then uD E T p x st K else uC E T p x st K)|some _=>none
 | .nilCheck x=>
   match st.rd x with
   | .val false [.ptr s off]=>K (st.put o.dst (.one (.ptr s off)))
   | .val false [.yP fl e y i off]=>K (st.put o.dst (.one (.yP fl e y i off)))
   |_=>none
 | .binOp op T x y _=>yi E o op T x y st K
 | .unOp op _ x=>unC op (st.rd x) λc=>K (st.put o.dst (.one c))
 | .fieldAddr S p f=>xC E o S p f st K
 | .indexAddr T x i=>lx E o T x i st K
 | .index T x i=>yW E o T x i st K
 | .build T parts=>yM E o T parts.toList st K
 | .buildSlice T len parts=>kP E o T len parts.toList st K
 | .makeSlice T n c=>ni E o T n c st K
 | .slice T x lo hi none=>xX E an o T x lo hi st K
 | .field S (.tmp t) f=>Cz E o S t f st K
 | .call {callee:=.builtin .copy,args,argTypes}=>L3 E o argTypes.toList args.toList st K
 | .convert src dst x=>kR E o src dst x st K
 | .extract (.tmp t) i=>kS o t i st K
 | .call {callee:=.builtin .len,args,argTypes}=>J5 E o argTypes.toList args.toList st K
 | .call {callee:=.builtin .min,args,..}=>Lz o args.toList st K
 | .call {callee:=.builtin .max,args,..}=>Ly o args.toList st K
 | .call {callee:=.builtin .append,args,argTypes}=>uG E o argTypes.toList args.toList st K
 | .call {callee:=.value f,args,..}=>AP Γ o f args.toList st K
 |_=>none
def fZ (ops:aw Oper)(o:Oper)(st:AS)(K:AS->ay R):ay R:=
 match o.guard with
 |none=>cU E Γ an o st K
 |some (j,Ei)=>
  match (nth ops j).bind (·.dst)with
  |some d=>
   match st.get d with
   | .val false [.bool b]=>
     let go (t:Bool):ay R:=
      if t==Ei then cU E Γ an o (st.put (some d) (.one (.bool t))) K else K ((st.put (some d) (.one (.bool t))).put o.dst (.one .un))
     cond b (go true) (go false)
   | .val false [.un]=>K (st.put o.dst (.one .un))
   |_=>none
  |none=>none
def OI (ops:aw Oper):aw Oper->AS->(AS->ay R)->ay R
 |[],st,K=>K st
 |o::r,st,K=>fZ E Γ an ops o st λbI=>OI ops r bI K
def dU:Code->Nat
 | .region id _ _=>id
 | .seq a _=>dU a
 | .block _ c=>dU c
 | .loop c=>dU c
 | .cond _ a b=>match dU a with|0=>dU b|n=>n
 |_=>0
def Bo (c:Code):Nat:=1000000+2*dU c
def kf (l:ff):Code->aw Code
 | .seq a b=>kf l a++(bif l.contains (dU b) then b::kf l b else kf l b)
 | .cond _ a b=>kf l a++kf l b
 | .block _ c=>kf l c
 | .loop c=>kf l c
 |_=>[]
def sG (l:ff)(fn:Func)(k:Nat):Code:=(nth (kf l (fn.body.getD .skip)) k).getD .skip
def gY:Code->aw Code
 | .seq a b=>gY a++gY b
 | .cond _ a b=>gY a++gY b
 | .block _ c=>gY c
 | .loop c=>c::gY c
 |_=>[]
def cG (fn:Func)(k:Nat):Code:=(nth (gY (fn.body.getD .skip)) k).getD .skip
def V0 (j:Nat):Nat:=3*(4096*1000003+j)
def jU.Ch:jU->ay Nat
 | .slot s j=>bif Nat.ble 4096 j then none else bif Nat.ble 1000000 s then none else some (3*(4096*s+j))
 | .box s j=>bif Nat.ble 4096 j then none else some (3*(4096*s+j)+1)
 | .io j=>bif Nat.ble 4096 j then none else some (V0 j)
def AC.aa9 (io:aw AC)(j t:Nat)(e:CT):ay (aw e.D):=
 match nth io j with
 |some (.sl (.own (some t')) e' ys)=>if h:e'=e then bif t'==t then some (h▸ys) else none else none
 |_=>none
def AC.mask (keep:ff)(ep:Nat)(io:aw AC)(rt:jU):AC->AC
 | .ptr s off=>if keep.contains s then .ptr s off else .bot
 | .sl (.loc e pv) t xs=>
   match pv with
   |some (.io j,n)=>match AC.aa9 io j n t with
    |some ys=> .sl (.loc 0 ((jU.Ch (.io j)).map λq=>(.io j,q))) t ys
    |none=>if e==ep then .sl (.loc 0 none) t xs else .bot
   |_=>if e==ep then .sl (.loc 0 none) t xs else .bot
 | .sl (.own _) t xs=> .sl (.own rt.Ch) t xs
 | .sl (.nest ..) _ _=> .bot
 | .sl (.part ..) _ _=> .bot
 | .sl (.eX _ i _) e xs=> .sl (.eX none i none) e xs
 | .yP _ _ _ _ _=> .bot
 |c=>c
def GF (keep:ff)(ep:Nat)(io:aw AC)(f:Nat->jU):Nat->aw AC->aw AC
 |_,[]=>[]
 |j,c::cs=>c.mask keep ep io (f j)::GF keep ep io f (j+1) cs
def AV.mask (keep:ff)(ep:Nat)(io:aw AC)(s:Nat):AV->AV
 | .val g cs=> .val g (GF keep ep io (.slot s) 0 cs)
 | .tS _=> .bot
def my (keep:ff)(ep:Nat)(io:aw AC):Nat->aw AV->aw AV
 |_,[]=>[]
 |i,v::r=>(if keep.contains i then v.mask keep ep io i else .bot)::my keep ep io (i+1) r
def mx (keep:ff)(ep:Nat)(io:aw AC):Nat->aw (ay (aw AC))->aw (ay (aw AC))
 |_,[]=>[]
 |i,b::r=>(if keep.contains i then b.map (GF keep ep io (.box i) 0) else none)::mx keep ep io (i+1) r
def Up (keep:ff):Nat->aw AC->aw AC
 |_,[]=>[]
 |j,c::cs=>(match c with| .sl (.own _) e xs=> .sl (.own (jU.Ch (.io j))) e xs| .sl (.eX _ i _) e xs=> .sl (.eX none i none) e xs| .ptr s off=>if keep.contains s then .ptr s off else .bot|c=>bif c.jd then c else .bot)::Up keep (j+1) cs
def AS.mask (keep:ff)(st:AS):AS:=
 ⟨my keep st.ep st.io 0 st.slots,mx keep st.ep st.io 0 st.boxes,0,List.replicate st.slots.length false,Up keep 0 st.io⟩
def getBool (st:AS)(s:Nat):ay Bool:=
 match st.get s with
 | .val false [.bool b]=>some b
 |_=>none
def gi (an:An)(ds:ff)(o:Oper):Bool:=
 match o.op with
 | .assign (.const _)=> !xP an o
 | .assign (.tmp t)=>ds.contains t&& !xP an o
 | .move _| .load ..=>match o.dst with|some d=> !an.mv.contains d|none=>false
 | .slice ..=> !Cl an o
 | .pick ..| .binOp ..| .unOp ..| .fieldAddr ..| .indexAddr ..| .index ..| .nilCheck _=>true
 | .build _ ps=>ps.isEmpty
 | .call {callee:=.builtin .len,..}| .call {callee:=.builtin .min,..}| .call {callee:=.builtin .max,..}=>true
 | .call {callee:=.value _,..}=>true
 |_=>false
def DN (ops:aw Oper):ff:=ops.filterMap (·.dst)
def AS.yr (st:AS):ff->AS
 |[]=>st
 |d::r=>((st.put (some d) .bot).fg (some d)).yr r
def C6 (ops:aw Oper)(A:aw ff):Nat->aw Oper->AS->(AS->ay R)->ay R
 |_,[],st,K=>K st
 |i,o::r,st,K=>bif dp E an (qz an A i 0 ops) o st then fZ E Γ an ops o st λbI=>C6 ops A (i+1) r bI K else none
def Bw (ops:aw Oper)(draw:Bool)(st:AS)(K:AS->ay R):ay R:=
 bif draw then(bif PX an ops then C6 E Γ.Ee an ops (PA ops []) 0 ops st K else none) else OI E Γ an ops ops st K
def OQ (id:Nat)(ops:aw Oper)(draw:Bool)(st:AS)(K:AS->ay R):ay R:=
 match an.merge id with
 |none=>Bw E Γ an ops draw st K
 |some s=>
  if ops.all (gi an (DN ops)) then
   aa (Bw E Γ.calm an ops draw st λbI=>getBool bI s) λb=>K ((st.yr (DN ops)).put (some s) (.one (.bool b)))
  else none
def yy (key:ff)(B:AS->(Ex->AS->ay R)->ay R):Nat->AS->(Ex->AS->ay R)->ay R
 |0,_,_=>none
 |m+1,st,K=>B st λe bI=>
  match e with
  | .normal=>yy key B m (bI.mask key) K
  |e=>K e (bI.mask key)
def den (Λ:kN):Code->AS->(Ex->AS->ay R)->ay R
 | .skip,st,K=>K .normal st
 | .region id ops draw,st,K=>OQ E Γ an id ops.toList draw st (K .normal)
 | .seq a b,st,K=>den Λ a st λe bI=>match e with
   | .normal=>bif an.cut.contains (dU b) then(Λ (Bo b)).go (bI.mask (an.mask (Bo b))) K else den Λ b bI K
   |e=>K e bI
 | .cond c a b,st,K=>
   match st.rd c with
   | .val false [.bool t]=>cond t (den Λ a st K) (den Λ b st K)
   |_=>none
 | .block id c,st,K=>den Λ c st λe bI=>
   match e with
   | .exit j=>if j==id then K .normal bI else K (.exit j) bI
   |e=>K e bI
 | .loop c,st,K=>
   bif an.peel.contains (dU c) then den Λ c (st.mask (an.mask (dU c))) λe bI=>
    match e with
    | .normal=>(Λ (dU c)).go (bI.mask (an.mask (dU c))) K
    |e=>K e (bI.mask (an.mask (dU c)))
   else(Λ (dU c)).go (st.mask (an.mask (dU c))) K
 | .exit id,st,K=>K (.exit id) st
 | .ret,st,K=>K .ret st
 |_,_,_=>none
end
def Kx (st:AS)(E:Env):ResultVar->ay ((Bool×Nat)×Bool×aw AC)
 | .tmp t=>match st.get t with| .val g cs=>some ((false,t),g,cs.map AC.strip)|_=>none
 | .cell t T=>match iP E.ty T,st.get t with
   |some sh,.val false [.ptr s off]=>((nth st.boxes s).getD none).bind λcs=>
    if off+sh.ct.size<=cs.length then some ((true,s),sh.agg,((cs.drop off).take sh.ct.size).map AC.strip) else none
   |_,_=>none
def qw (st:AS)(E:Env):aw (Bool×Nat)->aw ResultVar->ay (aw (Bool×aw AC))
 |_,[]=>some []
 |had,r::rs=>(Kx st E r).bind λx=>if had.contains x.1 then none else(qw st E (x.1::had) rs).bind λxs=>some (x.2::xs)
def results (E:Env)(rs:aw ResultVar)(st:AS):ay AV:=
 match qw st E [] rs with
 |some [(g,cs)]=>some (.val g cs)
 |some vs=>some (.tS vs)
 |none=>none
def start (fn:Func)(args:aw AV):AS:=⟨args++List.replicate (fn.ntmps-args.length) .bot,List.replicate (args.length+(fn.ntmps-args.length)) none,0,List.replicate fn.ntmps false,[]⟩
abbrev jZ:aw (Bool×FT)->Type
 |[]=>Unit
 |[(_,t)]=>t.ct.D
 |(_,t)::r=>t.ct.D×jZ r
def kI:(l:aw (Bool×FT))->aw (Bool×aw AC)->ay (jZ l)
 |[],[]=>some ()
 |[(g,t)],[(g',cs)]=>bif g==g' then(match IE t cs with|some (x,[])=>some x|_=>none) else none
 |(g,t)::p::r,(g',cs)::vs=>bif g==g' then(match IE t cs with|some (x,[])=>(kI (p::r) vs).bind λy=>some (x,y)|_=>none) else none
 |_,_=>none
def agk:(l:aw (Bool×FT))->jZ l->aw (Bool×aw AC)
 |[],_=>[]
 |[(g,t)],x=>[(g,ja t x)]
 |(g,t)::p::r,x=>(g,ja t x.1)::agk (p::r) x.2
def xx (l:aw (Bool×FT))(x:jZ l):AV:=
 match agk l x with
 |[(g,cs)]=> .val g cs
 |vs=> .tS vs
def Bx (E:Env)(Γ:xl)(an:An)(Λ:kN)(fn:Func)(rs:aw (Bool×FT))(args:aw AV):ay (jZ rs):=
 match fn.body with
 |some c=>if args.length=fn.params.size then den E Γ an Λ c (start fn args) λe st=>
  match e with
  | .exit _=>none
  |_=>aa (qw st E [] fn.results.toList) (kI rs)
  else none
 |none=>none
def evalAlt (E:Env)(Γ:xl)(an:An)(Λ:kN)(fn:Func)(rs Lb:aw (Bool×FT))(h:jZ Lb=jZ rs)(args:aw AV):ay (Bool×jZ rs):=
 match fn.body with
 |some c=>if args.length=fn.params.size then den E Γ an Λ c (start fn args) λe st=>
  match e with
  | .exit _=>none
  |_=>aa (qw st E [] fn.results.toList) λys=>
   match kI rs ys with
   |some y=>some (true,y)
   |none=>match kI Lb ys with
    |some y=>some (false,cast h y)
    |none=>none
  else none
 |none=>none
def EE:Nat->aw AC->aw AC
 |_,[]=>[]
 |j,.sl (.own _) e xs::cs=> .sl (.own (some (3*j+1))) e xs::EE (j+1) cs
 |j,c::cs=>c::EE (j+1) cs
def xZ (fn:Func)(cs:aw AC)(args:aw AV):AS:=
 {start fn (.one (.ptr 0 0)::args)with boxes:=some (EE 0 cs)::List.replicate (args.length+(fn.ntmps-(args.length+1))) none,io:=[.ptr 0 0]}
def VI (E:Env)(Γ:xl)(an:An)(Λ:kN)(fn:Func)(rs:aw (Bool×FT))(t:FT)(args:aw AV):ay (jZ rs×t.ct.D):=
 match fn.body,args with
 |some c,.val true cs::xs=>if xs.length+1=fn.params.size/\cs.all (AC.wo true)=true then den E Γ an Λ c (xZ fn cs xs) λe st=>
  match e with
  | .exit _=>none
  |_=>aa (aa (qw st E [(true,0)] fn.results.toList) (kI rs)) λr=>
   match st.io,st.boxes with
   |[.ptr 0 0],some oS::_=>match IE t (oS.map AC.strip)with
    |some (x,[])=>some (r,x)
    |_=>none
   |_,_=>none
  else none
 |_,_=>none
def NY (E:Env)(Γ:xl)(an:An)(Λ:kN)(fn:Func)(t:FT)(args:aw AV):ay t.ct.D:=
 match fn.body with
 |some c=>if args.length=fn.params.size then den E Γ an Λ c (start fn args) λe st=>
  match e with
  | .exit _=>none
  |_=>match fn.results.toList with
   |[.tmp i]=>match st.get i with
    | .val false [.ptr s 0]=>match (nth st.boxes s).getD none with
      |some cs=>if cs.all AC.Ga=true then(match IE t (cs.map AC.strip)with|some (x,[])=>some x|_=>none) else none
      |none=>none
    |_=>none
   |_=>none
  else none
 |none=>none
end Go.Dn
