import Derived.Test.YtnmppgnbjfdffaaGreatDnData
/- An abstract, heap-free semantics of the model's code, for functions that treat their data by value: definitions. -/
namespace Go.Dn
inductive ka where
 |slot (s j:Nat)|box (s j:Nat)|io (j:Nat)
 deriving DecidableEq
inductive pE where
 |own (tag:Option Nat)
 |loc (ep:Nat) (pv:Option (ka×Nat))
 |arg (k:Bool)
 |nest (ep:Nat) (r:ka) (t:Nat) (e:CT) (i:Int) (off:Nat)
 |part (ep:Nat) (r:ka) (t:Nat) (lo:Int)
 |fg (tag:Option Nat) (i:Int) (ep:Option Nat)
inductive AC where
 |int (k:IntKind) (n:Int)|bool (b:Bool)|str (s:List UInt8)
 |sl (fl:pE) (e:CT) (xs:List e.D)
 |jm
 |ptr (s off:Nat)
 |zM (fl:pE) (e:CT) (x:e.D) (i:Int) (off:Nat)
 |fn (f:Nat)
 |un
 |bot
inductive AV where
 |val (agg:Bool) (cs:List AC)
 |uF (vs:List (Bool×List AC))
abbrev AV.one (c:AC):AV:=.val false [c]
abbrev AV.bot:AV:=.val false [.bot]
structure AS where
 slots:List AV
 boxes:List (Option (List AC))
 ep:Nat
 iss:List Bool
 io:List AC
structure Shape where
 agg:Bool
 ct:CT
 jw:List (Nat×Nat):=[]
structure An where
 mask:Nat->List Nat:=λ_=>[]
 merge:Nat->Option Nat:=λ_=>none
 mv:List Nat:=[]
 nest:List Nat:=[]
 mb:Nat->Option Nat:=λ_=>none
 sb:Nat->Option Nat:=λ_=>none
 late:List Nat:=[]
 peel:List Nat:=[]
 nils:List Nat:=[]
 fm:List Nat:=[]
 eb:Nat->Option Nat:=λ_=>none
 es:Nat->Option Nat:=λ_=>none
 er:Nat->Option Nat:=λ_=>none
 cut:List Nat:=[]
def cellsOf:(t:CT)->pE->t.D->aw AC
 | .int k,_,n=>[.int k n]
 | .bool,_,b=>[.bool b]
 | .str,_,s=>[.str s]
 | .sl e,fl,xs=>[.sl fl e xs]
 | .pair a b,fl,x=>cellsOf a fl x.1++cellsOf b fl x.2
def kJ:(t:CT)->aw AC->ax (t.D×aw AC)
 | .int k,.int k' n::r=>if k'=k then some (n,r) else none
 | .bool,.bool b::r=>some (b,r)
 | .str,.str s::r=>some (s,r)
 | .sl e,.sl (.own _) e' xs::r=>if h:e'=e then some (h▸xs,r) else none
 | .sl _,.jm::r=>some ([],r)
 | .pair a b,cs=>(kJ a cs).bind λx=>(kJ b x.2).bind λy=>some ((x.1,y.1),y.2)
 |_,_=>none
def nth {α:Type}:aw α->Nat->ax α
 |[],_=>none
 |a::_,0=>some a
 |_::l,n+1=>nth l n
def gK {α:Type}:aw α->Nat->α->aw α
 |[],_,_=>[]
 |_::l,0,v=>v::l
 |a::l,n+1,v=>a::gK l n v
def AS.get (st:AS)(i:Nat):AV:=(nth st.slots i).getD .bot
def AS.put (st:AS)(d:ax Nat)(v:AV):AS:=
 match d with
 |some d=>{st with slots:=gK st.slots d v}
 |none=>st
def GF (d j:Nat):Nat:=3*(4096*d+j)+2
def AS.gS (st:AS)(d:ax Nat)(j:Nat):ax Nat:=
 match d with
 |some d=>bif (nth st.iss d).getD true then none else bif Nat.ble 4096 j then none else some (GF d j)
 |none=>none
def AS.fz (st:AS)(d:ax Nat):AS:=
 match d with
 |some d=>{st with iss:=gK st.iss d true}
 |none=>st
def AS.oQ (st:AS)(d:ax Nat)(e:CT)(xs:aw e.D):AS:=
 (st.fz d).put d (.one (.sl (.own (st.gS d 0)) e xs))
def AC.borrow (ep:Nat)(rt:ax ka):AC->AC
 | .sl (.own tag) e xs=> .sl (.loc ep (match rt,tag with|some r,some t=>some (r,t)|_,_=>none)) e xs
 | .sl (.fg tag _ (some J5)) e xs=> .sl (.loc J5 (match rt,tag with|some r,some t=>some (r,t)|_,_=>none)) e xs
 | .sl (.fg _ _ none) _ _=> .bot
 |c=>c
def ib (ep:Nat)(f:Nat->ka):Nat->aw AC->aw AC
 |_,[]=>[]
 |j,c::cs=>c.borrow ep (some (f j))::ib ep f (j+1) cs
def aR (ep:Nat)(cs:aw AC):aw AC:=cs.map (AC.borrow ep none)
def AV.borrow (ep:Nat)(f:Nat->ka):AV->AV
 | .val g cs=> .val g (ib ep f 0 cs)
 | .uF vs=> .uF (vs.map λx=>(x.1,aR ep x.2))
def AV.aR (ep:Nat):AV->AV
 | .val g cs=> .val g (Dn.aR ep cs)
 | .uF vs=> .uF (vs.map λx=>(x.1,Dn.aR ep x.2))
def ofConst:Value->AV
 | .int k n=> .one (.int k n)
 | .bool b=> .one (.bool b)
 | .string s=> .one (.str s.data.toList)
 | .slice none 0 0=> .one .jm
 |_=> .bot
def AS.rd (st:AS):Operand->AV
 | .tmp t=>(st.get t).borrow st.ep (.slot t)
 | .const v=>ofConst v
 | .func f=> .one (.fn f)
 | .global _=> .bot
def AS.take (st:AS):Operand->AV×AS
 | .tmp t=>(st.get t,st.put (some t) ((st.get t).aR st.ep))
 |x=>(st.rd x,st)
def AS.eF (st:AS)(s:Nat)(b:ax (aw AC)):AS:={st with boxes:=gK st.boxes s b}
def AC.asArg (ep:Nat):AC->AC
 | .int k n=> .int k n
 | .bool b=> .bool b
 | .str s=> .str s
 | .sl (.own _) e xs=> .sl (.arg false) e xs
 | .sl (.loc ep' _) e xs=>if ep'==ep then .sl (.arg false) e xs else .bot
 | .sl (.arg _) e xs=> .sl (.arg false) e xs
 | .jm=> .jm
 | .fn f=> .fn f
 |_=> .bot
def AV.asArg (ep:Nat):AV->AV
 | .val g cs=> .val g (cs.map (AC.asArg ep))
 | .uF _=> .bot
def AC.BJ (ep:Nat)(tag:ax Nat):AC->AC
 | .sl (.own _) e xs=> .sl (.own tag) e xs
 | .sl (.arg _) e xs=> .sl (.loc ep none) e xs
 | .sl (.loc _ _) _ _=> .bot
 | .sl (.nest ..) _ _=> .bot
 | .sl (.part ..) _ _=> .bot
 | .sl (.fg _ i _) e xs=> .sl (.fg none i none) e xs
 | .ptr _ _=> .bot
 | .zM _ _ _ _ _=> .bot
 |c=>c
def Gq (ep:Nat)(mk:Nat->ax Nat):Nat->aw AC->aw AC
 |_,[]=>[]
 |j,c::cs=>c.BJ ep (mk j)::Gq ep mk (j+1) cs
def V0 (ep:Nat)(mk:Nat->ax Nat):Nat->aw (Bool×aw AC)->aw (Bool×aw AC)
 |_,[]=>[]
 |j,t::ts=>(t.1,Gq ep mk j t.2)::V0 ep mk (j+t.2.length) ts
def AV.BJ (ep:Nat)(mk:Nat->ax Nat):AV->AV
 | .val g cs=> .val g (Gq ep mk 0 cs)
 | .uF vs=> .uF (V0 ep mk 0 vs)
def AC.Fm:AC->Bool
 | .sl (.arg _) _ _=>true
 | .int ..=>true
 | .bool _=>true
 | .str _=>true
 | .fn _=>true
 |_=>false
structure iZ where
 R:Type
 fn:List AV->Option R
 av:R->AV
 io:Bool:=false
 back:R->List AC:=λ_=>[]
 bx:Bool:=false
 pr:Bool:=false
 sel:R->Bool:=λ_=>true
 alt:R->AV:=λ_=> .val false [.bot]
 cur:Bool:=false
 hcur:cur=true->∀y,(back y).all AC.Fm=true:=by intro h;cases h
def iZ.res (F:iZ)(y:F.R):AV:=cond (F.sel y) (F.av y) (F.alt y)
abbrev xT:=Nat->iZ
def iZ.dead:iZ:={R:=Unit,fn:=λ_=>none,av:=λ_=> .val false [.bot]}
def xT.calm (Γ:xT):xT:=λf=>bif (Γ f).io||(Γ f).bx||(Γ f).pr then iZ.dead else Γ f
def xT.E1 (Γ:xT):xT:=λf=>bif (Γ f).io||(Γ f).pr||((Γ f).bx&& !(Γ f).cur) then iZ.dead else Γ f
def F5 {R:Type}(op:BinOp)(k:IntKind)(x y:Int)(K:AC->ax R):ax R:=
 match op with
 | .add=>K (.int k (k.wrap (x+y)))
 | .sub=>K (.int k (k.wrap (x-y)))
 | .mul=>K (.int k (k.wrap (x*y)))
 | .quo=>if y=0 then none else K (.int k (k.wrap (x.tdiv y)))
 | .rem=>if y=0 then none else K (.int k (x.tmod y))
 | .and=>K (.int k (k.wrap (BitVec.ofInt k.bits x&&&BitVec.ofInt k.bits y).toNat))
 | .or=>K (.int k (k.wrap (BitVec.ofInt k.bits x|||BitVec.ofInt k.bits y).toNat))
 | .xor=>K (.int k (k.wrap (BitVec.ofInt k.bits x^^^BitVec.ofInt k.bits y).toNat))
 | .andNot=>K (.int k (k.wrap (BitVec.ofInt k.bits x&&&~~~ BitVec.ofInt k.bits y).toNat))
 | .eql=>K (.bool (x==y))
 | .neq=>K (.bool (x !=y))
 | .lss=>K (.bool (decide (x<y)))
 | .leq=>K (.bool (decide (x<=y)))
 | .gtr=>K (.bool (decide (x>y)))
 | .geq=>K (.bool (decide (x>=y)))
 |_=>none
def IM {R:Type}(op:BinOp)(x y:aw UInt8)(K:AC->ax R):ax R:=
 match op with
 | .add=>room (x.length+y.length) (K (.str (x++y)))
 | .eql=>K (.bool (x==y))
 | .neq=>K (.bool (!(x==y)))
 | .lss=>K (.bool (Op.bytesLess x y))
 | .leq=>K (.bool (Op.bytesLess x y||x==y))
 | .gtr=>K (.bool (!(Op.bytesLess x y||x==y)))
 | .geq=>K (.bool (!(Op.bytesLess x y)))
 |_=>none
def tr:aw AC->aw AC->ax Bool
 |[],[]=>some true
 | .int k x::r,.int k' y::r'=>if k=k' then(tr r r').bind λb=>some ((x==y)&&b) else none
 | .bool x::r,.bool y::r'=>(tr r r').bind λb=>some ((x==y)&&b)
 | .str x::r,.str y::r'=>(tr r r').bind λb=>some ((x==y)&&b)
 |_,_=>none
def DM {R:Type}(op:BinOp)(x y:AV)(K:AC->ax R):ax R:=
 match x,y with
 | .val false [.int k a],.val false [.int k' b]=>
   match op with
   | .shl=>if b<0 then none else K (.int k (k.wrap (a*2^(min b.toNat k.bits))))
   | .shr=>if b<0 then none else K (.int k (a.fdiv (2^(min b.toNat k.bits))))
   |_=>if k=k' then F5 op k a b K else none
 | .val false [.str a],.val false [.str b]=>IM op a b K
 | .val false [.bool a],.val false [.bool b]=>
   match op with
   | .eql=>K (.bool (a==b))
   | .neq=>K (.bool (!(a==b)))
   |_=>none
 | .val true xs,.val true ys=>
   match op with
   | .eql=>aa (tr xs ys) λb=>K (.bool b)
   | .neq=>aa (tr xs ys) λb=>K (.bool (!b))
   |_=>none
 |_,_=>none
def unC {R:Type}(op:UnOp)(x:AV)(K:AC->ax R):ax R:=
 match op,x with
 | .not,.val false [.bool b]=>K (.bool (!b))
 | .neg,.val false [.int k n]=>K (.int k (k.wrap (0-n)))
 | .xor,.val false [.int k n]=>F5 .xor k (if k.signed then-1 else k.max) n K
 |_,_=>none
def dZ (cs:aw AC)(off:Nat)(vs:aw AC):aw AC:=cs.take off++vs++cs.drop (off+vs.length)
def AS.eM (st:AS):ka->ax AC
 | .slot s j=>match st.get s with| .val _ cs=>nth cs j|_=>none
 | .box s j=>((nth st.boxes s).getD none).bind λcs=>nth cs j
 | .io j=>nth st.io j
def AS.eU (st:AS)(r:ka)(c:AC):AS:=
 match r with
 | .slot s j=>match st.get s with| .val g cs=>st.put (some s) (.val g (gK cs j c))|_=>st
 | .box s j=>match (nth st.boxes s).getD none with|some cs=>st.eF s (some (gK cs j c))|none=>st
 | .io j=>{st with io:=gK st.io j c}
def AS.fresh (st:AS):AC->AC
 | .sl (.loc ep (some (r,t))) e xs=>
   bif ep==st.ep then .sl (.loc ep (some (r,t))) e xs else
    match st.eM r with
    |some (.sl (.own (some t')) e' ys)=>if h:e'=e then bif t'==t then .sl (.loc st.ep (some (r,t))) e (h▸ys) else .sl (.loc ep (some (r,t))) e xs else .sl (.loc ep (some (r,t))) e xs
    |_=> .sl (.loc ep (some (r,t))) e xs
 |c=>c
def AV.fresh (st:AS):AV->AV
 | .val g cs=> .val g (cs.map st.fresh)
 | .uF vs=> .uF vs
def AC.now (ep:Nat):AC->Bool
 | .sl (.loc ep' (some _)) _ _=>ep'==ep
 |_=>true
def AS.oz {R:Type}(st:AS)(r:ka)(t:Nat)(e:CT)(i:Int)(off:Nat)(vs:aw AC)(K:AS->ax R):ax R:=
 match st.eM r with
 |some (.sl (.own (some t')) e' xs)=>
  if h:e'=e then
   if t'=t then
    aa (idx (h▸xs:aw e.D) i) λx=>
     match kJ e (dZ (cellsOf e (.own none) x) off vs)with
     |some (x',[])=>K {st.eU r (.sl (.own (some t')) e ((h▸xs:aw e.D).set i.toNat x'))with ep:=st.ep+1}
     |_=>none
   else none
  else none
 |some (.sl (.fg (some t') i' _) e' xs)=>
  if h:e'=e then
   if t'=t/\off=0 then
    aa (YB (h▸xs:aw e.D) i' i) λ_=>
     match kJ e vs with
     |some (x',[])=>K {st.eU r (.sl (.own (some t')) e ((h▸xs:aw e.D).set i.toNat x'))with ep:=st.ep+1}
     |_=>none
   else none
  else none
 |_=>none
def AV.cells:AV->aw AC
 | .val _ cs=>cs
 | .uF _=>[.bot]
def eO (st:AS):aw Operand->aw AV×AS
 |[]=>([],st)
 |x::xs=>let (v,st1):=st.take x;let (vs,st2):=eO st1 xs;(v::vs,st2)
def Av (e:CT):aw (aw AC)->ax (aw e.D)
 |[]=>some []
 |cs::r=>match kJ e cs with
  |some (x,[])=>(Av e r).bind λxs=>some (x::xs)
  |_=>none
def F3:Nat->aw (Nat×Operand)->Bool
 |_,[]=>true
 |n,(i,_)::r=>i==n&&F3 (n+1) r
def AC.Gw:AC->Bool
 | .bot=>false
 | .un=>false
 |_=>true
def uN (jw:aw (Nat×Nat))(zero:aw AC):aw (Nat×aw AC)->ax (aw AC)
 |[]=>some zero
 |(i,cs)::r=>match nth jw i with
  |some (off,n)=>if cs.length=n/\off+n<=zero.length/\cs.all AC.Gw then uN jw (dZ zero off cs) r else none
  |none=>none
inductive LK where
 |int|bool|str
 deriving DecidableEq
structure Env where
 ty:List (Nat×Shape)
 eqs:List (Nat×List LK):=[]
 fts:List ((Nat×Nat)×Nat):=[]
def NF (l:aw (Nat×aw LK))(t:Nat):ax (aw LK):=
 match l with
 |[]=>none
 |(u,sh)::r=>bif u==t then some sh else NF r t
def fits:aw LK->aw AC->Bool
 |[],[]=>true
 | .int::ls,.int _ _::r=>fits ls r
 | .bool::ls,.bool _::r=>fits ls r
 | .str::ls,.str _::r=>fits ls r
 |_,_=>false
def Sm (l:aw ((Nat×Nat)×Nat))(S f:Nat):ax Nat:=
 match l with
 |[]=>none
 |((u,k),T)::r=>bif u==S&&k==f then some T else Sm r S f
def iR (l:aw (Nat×Shape))(t:Nat):ax Shape:=
 match l with
 |[]=>none
 |(u,sh)::r=>bif u==t then some sh else iR r t
def Env.sl (E:Env)(t:Nat):ax CT:=
 match iR E.ty t with
 |some ⟨false,.sl e,_⟩=>some e
 |_=>none
def Env.str (E:Env)(t:Nat):Bool:=
 match iR E.ty t with
 |some ⟨false,.str,_⟩=>true
 |_=>false
def Env.bool (E:Env)(t:Nat):Bool:=
 match iR E.ty t with
 |some ⟨false,.bool,_⟩=>true
 |_=>false
def Env.bytes (E:Env)(t:Nat):Bool:=
 match iR E.ty t with
 |some ⟨false,.sl (.int .u8),[(te,_)]⟩=>match iR E.ty te with|some ⟨false,.int .u8,_⟩=>true|_=>false
 |_=>false
def pE.live (ep:Nat):pE->Bool
 | .loc ep' _=>ep'==ep
 | .arg _=>true
 | .own _=>false
 | .nest ..=>false
 | .part ..=>false
 | .fg ..=>false
def pE.pL (ep:Nat)(flat:Bool):pE->Bool
 | .loc ep' _=>ep'==ep&&flat
 | .arg _=>flat
 | .own _=>true
 | .nest ..=>false
 | .part ..=>false
 | .fg ..=>false
def pE.bare:pE->pE
 | .loc ep _=> .loc ep none
 |f=>f
def AC.je:AC->Bool
 | .int _ _=>true
 | .bool _=>true
 | .str _=>true
 | .fn _=>true
 |_=>false
def tm:Operand->fw
 | .tmp t=>[t]
 |_=>[]
def MN (l:aw Operand):fw:=l.flatMap tm
def C2 (an:An)(o:Oper):Bool:=
 match o.dst with
 |some d=>an.mv.contains d&&(an.mb d).isNone
 |none=>false
def ajG (an:An)(o:Oper):Bool:=
 match o.dst with
 |some d=>an.nils.contains d
 |none=>false
def yA (an:An)(o:Oper):Bool:=
 match o.op with
 | .assign (.tmp s)=>an.late.contains s
 | .store _ _ (.tmp s)=>an.late.contains s
 |_=>false
def tmO:ax Operand->fw
 |some x=>tm x
 |none=>[]
def dB (o:Oper):fw:=
 match o.op with
 | .move x=>tm x
 | .assign x=>tm x
 | .pick c a b=>tm c++tm a++tm b
 | .box _ x=>tm x
 | .load _ p=>tm p
 | .store _ p x=>tm p++tm x
 | .nilCheck x=>tm x
 | .binOp _ _ x y _=>tm x++tm y
 | .unOp _ _ x=>tm x
 | .fieldAddr _ p _=>tm p
 | .indexAddr _ x i=>tm x++tm i
 | .index _ x i=>tm x++tm i
 | .build _ parts=>MN (parts.toList.map (·.2))
 | .buildSlice _ _ parts=>MN (parts.toList.map (·.2))
 | .makeSlice _ n c=>tm n++tm c
 | .slice _ x lo hi none=>tm x++tmO lo++tmO hi
 | .convert _ _ x=>tm x
 | .extract (.tmp t) _=>[t]
 | .call {callee:=.builtin _,args,..}=>MN args.toList
 | .call {callee:=.value f,args,..}=>tm f++MN args.toList
 |_=>[]
def C0 (an:An)(o:Oper):Bool:=
 match o.op with
 | .move _=>match o.dst with|some d=>an.mv.contains d|none=>false
 | .assign _=>true
 | .box ..=>true
 | .build ..=>true
 | .buildSlice ..=>true
 | .store ..=>true
 | .extract ..=>match o.dst with|some d=>an.mv.contains d|none=>false
 | .call {callee:=.builtin .append,..}=>true
 |_=>false
def CY (an:An)(o:Oper):Bool:=
 match o.op,o.dst,o.guard with
 | .load _ (.tmp q),some d,none=>an.mv.contains d&&(an.mb d).isNone&&(an.eb q).isSome
 |_,_,_=>false
def zw (an:An)(o:Oper):Bool:=
 match o.op,o.dst,o.guard with
 | .load _ (.tmp q),some d,none=> !an.mv.contains d&& !an.fm.contains d&&(an.sb q).isSome
 |_,_,_=>false
def C4 (an:An)(o:Oper):fw:=
 match o.op with
 | .alloc _=>o.dst.toList
 | .box ..=>o.dst.toList
 | .load _ p=>match o.dst with|some d=>bif an.mv.contains d then(an.mb d).toList++(bif CY an o then(match p with| .tmp q=>(an.eb q).toList|_=>[]) else []) else []|none=>[]
 | .store _ (.tmp p) _=>(an.sb p).toList
 | .call {callee:=.value _,args,..}=>(match args.toList with| .tmp q::_=>(an.sb q).toList|_=>[])
 |_=>[]
def mV (an:An)(o:Oper):Bool:=
 match o.op with
 | .move _=>true
 | .load ..=>(match o.dst with|some d=> !an.mv.contains d||(an.mb d).isSome|none=>false)||CY an o
 | .extract (.tmp _) _=>true
 | .store _ (.tmp p) _=>(an.sb p).isSome&& !yA an o
 | .assign _=> !yA an o
 | .pick ..| .alloc _| .box ..| .nilCheck _| .binOp ..| .unOp ..| .fieldAddr ..| .indexAddr ..| .index ..| .build ..| .buildSlice ..| .makeSlice ..| .convert ..=>true
 | .slice _ _ _ _ none=> !C2 an o
 | .call {callee:=.builtin .len,..}| .call {callee:=.builtin .min,..}| .call {callee:=.builtin .max,..}| .call {callee:=.builtin .append,..}=>true
 | .call {callee:=.value _,..}=>true
 |_=>false
def writes (an:An)(o:Oper):fw:=o.dst.toList++(bif C0 an o then dB o else [])
def AV.now (ep:Nat):AV->Bool
 | .val _ cs=>cs.all (AC.now ep)
 | .uF _=>true
def AC.kF:AC->Bool
 | .int ..=>true
 | .bool _=>true
 | .str _=>true
 | .fn _=>true
 | .ptr ..=>true
 |_=>false
def AV.kF:AV->Bool
 | .val _ cs=>cs.all AC.kF
 | .uF _=>false
def Ck (E:Env)(T:TypeId)(st:AS)(s off:Nat):Bool:=
 match iR E.ty T,(nth st.boxes s).getD none with
 |some sh,some cs=>((cs.drop off).take sh.ct.size).all AC.kF
 |_,_=>false
def TG (an:An)(o:Oper):Bool:=match o.dst with|some d=>an.fm.contains d|none=>false
def zZ (an:An)(o:Oper):Bool:=
 match o.op,o.dst,o.guard with
 | .load _ (.tmp _),some d,none=>an.mv.contains d&&(an.mb d).isSome
 |_,_,_=>false
def Kd (an:An)(o:Oper):Bool:=
 match o.op,o.dst,o.guard with
 | .load _ (.tmp _),some d,none=> !an.mv.contains d&&an.fm.contains d
 |_,_,_=>false
def erS (an:An)(o:Oper):fw:=
 match o.op,o.dst with
 | .load ..,some d=>(an.er d).toList
 | .call {callee:=.value _,..},some d=>(an.er d).toList
 |_,_=>[]
def AC.adp (l:fw):AC->Bool
 | .sl (.loc _ (some (.slot b _,_))) _ _=>l.contains b
 | .sl (.loc _ _) _ _=>false
 |_=>true
def Gu (l:fw)(st:AS):Operand->Bool
 | .tmp t=>(match st.get t with| .val _ cs=>cs.all (AC.adp l)| .uF _=>true)
 |_=>true
def aa4 (an:An)(X l:fw)(st:AS)(xs:aw Operand)(q:Nat):AV->Bool
 | .val false [.ptr s _]=> !X.contains s&&an.sb q==some s&&(match (nth st.boxes s).getD none with|some cs=>cs.all AC.Fm|none=>true)&&xs.all (Gu l st)
 |_=>true
def AV.Xq:AV->Bool
 | .val false [.ptr _ _]=>false
 |_=>true
def rR (an:An)(X l:fw)(st:AS):aw Operand->Bool
 | .tmp q::xs=>aa4 an X l st xs q (st.rd (.tmp q))
 |x::_=>(st.rd x).Xq
 |[]=>true
def dq (E:Env)(an:An)(X:fw)(o:Oper)(st:AS):Bool:=
 match o.op with
 | .move x=> !TG an o||(st.rd x).kF
 | .indexAddr _ x _=>(st.rd x).now st.ep||(match st.rd x with| .val _ [.sl (.loc _ (some (.box b _,_))) _ _]=> !X.contains b|_=>false)
 | .slice _ x _ _ none=>(st.rd x).now st.ep
 | .call {callee:=.value _,args,..}=>rR an X (erS an o) st args.toList&&args.toList.all λx=>(st.rd x).now st.ep
 | .load T p=>match st.rd p with
   | .val false [.ptr s off]=> !X.contains s&&(match o.dst with|some d=> !an.mv.contains d||an.mb d==some s|none=>true)&&(!TG an o||Ck E T st s off)
   | .val false [.zM fl _ _ _ _]=>(fl.live st.ep||(match fl with
     | .loc _ (some (.slot b _,_))=>(erS an o).contains b
     | .loc _ (some (.box b _,_))=> !X.contains b
     |_=>false))&& !(TG an o||zZ an o)&& !zw an o&&(!CY an o||(match p,fl with
     | .tmp q,.loc _ (some (.box b _,_))=>an.eb q==some b&& !X.contains b
     |_,_=>false))
   |_=> !(TG an o||zZ an o)
 | .store _ (.tmp p) _=>((an.sb p).isNone&&(an.eb p).isNone&&(an.es p).isNone)||(match st.rd (.tmp p)with
   | .val false [.ptr s _]=> !X.contains s&&an.sb p==some s
   | .val false [.zM (.loc _ (some (.box b _,_))) _ _ _ _]=>an.eb p==some b&&(an.sb p).isNone&&(an.es p).isNone
   | .val false [.zM (.loc _ (some (.slot b _,_))) _ _ _ _]=>an.es p==some b&&(an.sb p).isNone&&(an.eb p).isNone
   |_=>false)
 | .extract (.tmp t) i=>match st.get t with
   | .uF vs=>match nth vs i with|some x=>x.2.all AC.je||(match o.dst with|some d=>an.mv.contains d|none=>false)|none=>true
   |_=>true
 |_=>true
def Cq (an:An)(ops:aw Oper)(o:Oper):fw:=
 (match o.guard with
 |some (j,_)=>((nth ops j).bind (·.dst)).toList
 |none=>[])++erS an o
def meets (a b:fw):Bool:=a.any λx=>b.contains x
def TR (an:An)(ops:aw Oper)(X Y:fw)(o p:Oper):Bool:=
 mV an o&&mV an p&& !meets (writes an o) (dB p++Cq an ops p++writes an p)&& !meets (writes an p) (dB o++Cq an ops o)&&
 (C4 an o).all (λd=>Y.contains d)&&(C4 an p).all (λd=>X.contains d)&& !meets (C4 an o) (p.dst.toList++C4 an p)&& !meets (C4 an p) o.dst.toList
def UH (o p:Oper):Bool:=
 match o.op,p.op,o.dst,p.dst,o.guard,p.guard with
 | .extract (.tmp t) i,.extract (.tmp t') j,some d,some d',none,none=>t==t'&& !(i==j)&& !(d==d')&& !(d==t)&& !(d'==t)
 |_,_,_,_,_,_=>false
def UD (an:An)(o p:Oper):Bool:=
 match p.op,p.dst,p.guard with
 | .store _ (.tmp q) (.tmp x),none,none=>((an.eb q).isSome&&(an.es q).isNone||(match an.es q with|some b=>(an.eb q).isNone&& !(b==x)&& !(b==q)&& !meets [b] (o.dst.toList++dB o)|none=>false))&&(an.sb q).isNone&& !yA an p&&(match o.op,o.dst,o.guard with
   | .move (.tmp t),some d,none=> !an.mv.contains d&&an.fm.contains d&& !(d==q)&& !(d==x)&& !(t==x)&& !(t==q)&& !(d==t)
   | .extract (.tmp t) _,some d,none=> !(d==q)&& !(d==x)&& !(t==x)&& !(t==q)&& !(d==t)
   |_,_,_=>false)
 |_,_,_=>false
def Vw (an:An)(o p:Oper):Bool:=
 (zZ an o&&Kd an p||Kd an o&&zZ an p)&& !meets o.dst.toList (p.dst.toList++dB p)&& !meets p.dst.toList (dB o)
def T4 (an:An)(o p:Oper):Bool:=zw an o&&CY an p&& !meets o.dst.toList (p.dst.toList++dB p)&& !meets p.dst.toList (dB o)
def ac7 (an:An)(o p:Oper):Bool:=UH o p||UD an o p||Vw an o p||T4 an o p
def JI (an:An)(ops:aw Oper)(X Y:fw)(o p:Oper):Bool:=ac7 an o p||TR an ops X Y o p
def zx (o:Oper):fw:=(o.after.toList.filter (λe=>Region.binds .any e)).map (·.on)
def Qt (a b:fw):fw:=a.foldl (λs x=>bif s.contains x then s else x::s) b
def QF:aw Oper->aw fw->aw fw
 |[],acc=>acc
 |o::r,acc=>QF r (acc++[(zx o).foldl (λs j=>Qt (j::(nth acc j).getD []) s) []])
def ZL (A:aw fw)(i k:Nat):Bool:=((nth A i).getD []).contains k
def WL (an:An)(A:aw fw)(i:Nat)(fl pl:Bool):Nat->aw Oper->fw
 |_,[]=>[]
 |k,o::r=>(bif !ZL A i k&& !ZL A k i&& !(k==i)&& !(fl&&zZ an o)&& !(pl&&CY an o) then C4 an o else [])++WL an A i fl pl (k+1) r
def rf (an:An)(A:aw fw)(i k:Nat)(ops:aw Oper):fw:=WL an A i (match nth ops i with|some o=>Kd an o|none=>false) (match nth ops i with|some o=>zw an o|none=>false) k ops
def Lb (an:An)(ops:aw Oper)(A:aw fw)(i:Nat)(oi:Oper):Nat->aw Oper->Bool
 |_,[]=>true
 |j,oj::r=>bif Nat.ble i j then true else(ZL A i j||JI an ops (rf an A j 0 ops) (rf an A i 0 ops) oj oi)&&Lb an ops A i oi (j+1) r
def PR (an:An)(ops:aw Oper)(A:aw fw):Nat->aw Oper->Bool
 |_,[]=>true
 |i,oi::r=>(zx oi).all (λk=>Nat.blt k i)&&Lb an ops A i oi 0 ops&&PR an ops A (i+1) r
def Q0 (an:An)(ops:aw Oper):Bool:=PR an ops (QF ops []) 0 ops
inductive Ex where
 |normal|ret|exit (id:Nat)
inductive FK where
 |own (tag:Option Nat)|arg|wJ|loc|lio (j t:Nat)|nil
def FK.flag:FK->pE
 | .own t=> .own t
 | .arg=> .arg false
 | .wJ=> .arg true
 | .loc=> .loc 0 none
 | .lio j t=> .loc 0 (some (.io j,t))
 | .nil=> .arg false
def FK.isNil:FK->Bool
 | .nil=>true
 |_=>false
inductive FT where
 |int (k:IntKind)|bool|str|sl (fl:FK) (e:CT)|pair (a b:FT)
abbrev FT.ct:FT->CT
 | .int k=> .int k
 | .bool=> .bool
 | .str=> .str
 | .sl _ e=> .sl e
 | .pair a b=> .pair a.ct b.ct
def jc:(t:FT)->t.ct.D->aw AC
 | .int k,n=>[.int k n]
 | .bool,b=>[.bool b]
 | .str,s=>[.str s]
 | .sl fl e,xs=>[bif fl.isNil then .jm else .sl fl.flag e xs]
 | .pair a b,x=>jc a x.1++jc b x.2
def FK.fits:FK->pE->Bool
 | .own t,.own t'=>t==t'
 | .arg,.arg k=> !k
 | .wJ,.arg k=>k
 | .loc,.loc 0 none=>true
 | .lio j t,.loc 0 (some (.io j',t'))=>j==j'&&t==t'
 |_,_=>false
def Jv:(t:FT)->aw AC->ax (t.ct.D×aw AC)
 | .int k,.int k' n::r=>if k'=k then some (n,r) else none
 | .bool,.bool b::r=>some (b,r)
 | .str,.str s::r=>some (s,r)
 | .sl fl e,.sl fl' e' xs::r=>if h:e'=e then bif fl.fits fl' then some (h▸xs,r) else none else none
 | .sl fl _,.jm::r=>bif fl.isNil then some ([],r) else none
 | .pair a b,cs=>(Jv a cs).bind λx=>(Jv b x.2).bind λy=>some ((x.1,y.1),y.2)
 |_,_=>none
inductive PD where
 |bot|ptr (s off:Nat)|fn (f:Nat)|data (g:Bool) (t:FT)
inductive IoD where
 |none|some (t:FT)|ptr
structure SD where
 slots:List PD
 boxes:List (Option FT)
 io:IoD:=.none
abbrev HR:aw PD->Type
 |[]=>Unit
 | .data _ t::r=>t.ct.D×HR r
 |_::r=>HR r
abbrev GY:aw (ax FT)->Type
 |[]=>Unit
 |some t::r=>t.ct.D×GY r
 |none::r=>GY r
abbrev ioD:IoD->Type
 | .none=>Unit
 | .some t=>t.ct.D
 | .ptr=>Unit
abbrev SD.D (d:SD):Type:=HR d.slots×GY d.boxes×ioD d.io
def ri:(l:aw PD)->HR l->aw AV
 |[],_=>[]
 | .data g t::r,x=> .val g (jc t x.1)::ri r x.2
 | .bot::r,x=> .bot::ri r x
 | .ptr s off::r,x=> .one (.ptr s off)::ri r x
 | .fn f::r,x=> .one (.fn f)::ri r x
def Ae:(l:aw (ax FT))->GY l->aw (ax (aw AC))
 |[],_=>[]
 |some t::r,x=>some (jc t x.1)::Ae r x.2
 |none::r,x=>none::Ae r x
def abM:(o:IoD)->ioD o->aw AC
 | .none,_=>[]
 | .some t,x=>jc t x
 | .ptr,_=>[.ptr 0 0]
def SD.enc (d:SD)(x:d.D):AS:=⟨ri d.slots x.1,Ae d.boxes x.2.1,0,List.replicate d.slots.length false,abM d.io x.2.2⟩
def AV.Xk:AV->Bool
 | .val false [.bot]=>true
 |_=>false
def AV.Xl (s off:Nat):AV->Bool
 | .val false [.ptr s' an0]=>s==s'&&off==an0
 |_=>false
def AV.Zf (f:Nat):AV->Bool
 | .val false [.fn f']=>f==f'
 |_=>false
def jz:(l:aw PD)->aw AV->ax (HR l)
 |[],[]=>some ()
 | .data g t::r,.val g' cs::vs=>bif g==g' then(match Jv t cs with|some (x,[])=>(jz r vs).bind λy=>some (x,y)|_=>none) else none
 | .bot::r,v::vs=>bif v.Xk then jz r vs else none
 | .ptr s off::r,v::vs=>bif v.Xl s off then jz r vs else none
 | .fn f::r,v::vs=>bif v.Zf f then jz r vs else none
 |_,_=>none
def pJ:(l:aw (ax FT))->aw (ax (aw AC))->ax (GY l)
 |[],[]=>some ()
 |some t::r,some cs::bs=>match Jv t cs with|some (x,[])=>(pJ r bs).bind λy=>some (x,y)|_=>none
 |none::r,none::bs=>pJ r bs
 |_,_=>none
def Vp:aw AC->Bool
 |[.ptr 0 0]=>true
 |_=>false
def QY:(o:IoD)->aw AC->ax (ioD o)
 | .none,[]=>some ()
 | .some t,cs=>match Jv t cs with|some (x,[])=>some x|_=>none
 | .ptr,cs=>bif Vp cs then some () else none
 |_,_=>none
def SD.dec (d:SD)(st:AS):ax d.D:=
 bif st.ep==0&&st.iss==List.replicate d.slots.length false then
  (jz d.slots st.slots).bind λx=>(pJ d.boxes st.boxes).bind λy=>(QY d.io st.io).bind λz=>some (x,y,z)
 else none
structure GV where
 sd:SD
 run:{R:Type}->sd.D->(Ex->AS->Option R)->Option R
abbrev kZ:=Nat->GV
def GV.go {R:Type}(l:GV)(st:AS)(K:Ex->AS->ax R):ax R:=aa (l.sd.dec st) λx=>l.run x K
def GV.none:GV:=⟨⟨[],[],.none⟩,λ_ _=>Option.none⟩
def kZ.nil:kZ:=λ_=>GV.none
def kZ.add (Λ:kZ)(k:Nat)(l:GV):kZ:=λj=>bif j==k then l else Λ j
section
variable {R:Type} (E:Env) (Γ:xT) (an:An)
def Ay (o:Oper)(x:Operand)(st:AS)(K:AS->ax R):ax R:=
 match o.dst with
 |some d=>if an.mv.contains d then K ((st.take x).2.put o.dst (st.take x).1) else K (st.put o.dst (st.rd x))
 |none=>none
def tk (o:Oper)(x:Operand)(st:AS)(K:AS->ax R):ax R:=
 match st.take x with
 |(.val false [.jm],_)=>match E.sl o.type with
  |some e=>K (st.put o.dst (.one (bif ajG an o then .jm else .sl (.own none) e [])))
  |none=>none
 |(v,bH)=>K (bH.put o.dst v)
def CI (o:Oper)(c a b:Operand)(st:AS)(K:AS->ax R):ax R:=
 match st.rd c with
 | .val false [.bool t]=>match st.rd a,st.rd b with
   | .val false [.bool x],.val false [.bool y]=>K (st.put o.dst (.one (.bool (cond t x y))))
   |va,vb=>cond t (K (st.put o.dst va)) (K (st.put o.dst vb))
 |_=>none
def AK (o:Oper)(T:TypeId)(st:AS)(K:AS->ax R):ax R:=
 match o.dst,iR E.ty T with
 |some d,some sh=>match nth st.boxes d with
  |some none=>K ((st.eF d (some (cellsOf sh.ct (.own none) sh.ct.zero))).put o.dst (.one (.ptr d 0)))
  |_=>none
 |_,_=>none
def Ou (o:Oper)(x:Operand)(st:AS)(K:AS->ax R):ax R:=
 match o.dst,st.take x with
 |some d,(.val _ cs,bH)=>
  match nth bH.boxes d with
  |some none=>if cs.all AC.Gw then K ((bH.eF d (some cs)).put o.dst (.one (.ptr d 0))) else none
  |_=>none
 |_,_=>none
def PK (ep:Nat)(r:ka)(t:Nat)(e:CT)(i:Int):Nat->aw AC->aw AC
 |_,[]=>[]
 |p,.sl _ e' xs::cs=> .sl (.nest ep r t e i p) e' xs::PK ep r t e i (p+1) cs
 |p,c::cs=>c::PK ep r t e i (p+1) cs
def acW (o:Oper)(ep:Nat)(fl:pE)(e:CT)(i:Int)(off:Nat)(cs:aw AC):aw AC:=
 match fl,o.dst with
 | .loc _ (some (r,t)),some d=>bif an.nest.contains d then PK ep r t e i off cs else cs
 |_,_=>cs
def Bw (o:Oper)(sh:Shape)(fl:pE)(e:CT)(i:Int)(off:Nat)(st:AS)(K:AS->ax R):ax R:=
 match fl with
 | .loc _ (some (r,t))=>
   match st.eM r with
   |some (.sl (.own (some t')) e' ys)=>
    if h:e'=e then
     if t'=t/\off+sh.ct.size<=e.size then
      aa (idx (h▸ys:aw e.D) i) λy=>K (st.put o.dst (.val sh.agg (((cellsOf e (.loc st.ep none) y).drop off).take sh.ct.size)))
     else none
    else none
   |_=>none
 |_=>none
def wF (o:Oper)(sh:Shape)(fl:pE)(e:CT)(i:Int)(off:Nat)(st:AS)(K:AS->ax R):ax R:=
 match fl with
 | .loc _ (some (r,t))=>
   match st.eM r with
   |some (.sl (.own (some t')) e' ys)=>
    if h:e'=e then
     if t'=t/\off=0/\sh.ct=e then
      aa (idx (h▸ys:aw e.D) i) λy=>K ((st.eU r (.sl (.fg (some t) i (some st.ep)) e (h▸ys))).put o.dst (.val sh.agg (cellsOf e (.own none) y)))
     else none
    else none
   |_=>none
 |_=>none
def oh (o:Oper)(T:TypeId)(p:Operand)(st:AS)(K:AS->ax R):ax R:=
 match iR E.ty T,st.rd p with
 |some sh,.val false [.ptr s off]=>
  match (nth st.boxes s).getD none with
  |some cs=>
   if off+sh.ct.size<=cs.length then
    match o.dst with
    |some d=>
     if an.mv.contains d then
      K ((st.eF s (some (dZ cs off (aR st.ep ((cs.drop off).take sh.ct.size))))).put o.dst (.val sh.agg ((cs.drop off).take sh.ct.size)))
     else K (st.put o.dst (.val sh.agg (ib st.ep (.box s) off ((cs.drop off).take sh.ct.size))))
    |none=>none
   else none
  |none=>none
 |some sh,.val false [.zM fl e x i off]=>
  if C2 an o then wF o sh fl e i off st K
  else if fl.live st.ep then
   if off+sh.ct.size<=e.size then K (st.put o.dst (.val sh.agg (acW an o st.ep fl e i off (((cellsOf e fl.bare x).drop off).take sh.ct.size)))) else none
  else Bw o sh fl e i off st K
 |_,_=>none
def vi (T:TypeId)(p x:Operand)(st:AS)(K:AS->ax R):ax R:=
 match iR E.ty T,st.rd p with
 |some sh,.val false [.ptr s off]=>
  match st.take x with
  |(.val _ vs,bH)=>
   match (nth bH.boxes s).getD none with
   |some cs=>
    if vs.length=sh.ct.size/\vs.all AC.Gw then
     if off+sh.ct.size<=cs.length then K (bH.eF s (some (dZ cs off vs))) else none
    else none
   |none=>none
  |_=>none
 |some sh,.val false [.zM (.loc _ (some (r,t))) e _ i off]=>
  match st.take x with
  |(.val _ vs,bH)=>
   if vs.length=sh.ct.size/\off+sh.ct.size<=e.size then bH.oz r t e i off vs K else none
  |_=>none
 |_,_=>none
def ym (o:Oper)(S:TypeId)(p:Operand)(f:Nat)(st:AS)(K:AS->ax R):ax R:=
 match iR E.ty S,st.rd p with
 |some ⟨true,_,jw⟩,.val false [.ptr s off]=>match nth jw f with|some (fo,_)=>K (st.put o.dst (.one (.ptr s (off+fo))))|none=>none
 |some ⟨true,_,jw⟩,.val false [.zM fl e x i off]=>match nth jw f with|some (fo,_)=>K (st.put o.dst (.one (.zM fl e x i (off+fo))))|none=>none
 |_,_=>none
def lS (o:Oper)(T:TypeId)(x i:Operand)(st:AS)(K:AS->ax R):ax R:=
 match E.sl T,(st.rd x).fresh st,st.rd i with
 |some e',.val false [.sl fl e xs],.val false [.int _ n]=>
  if e'=e/\fl.live st.ep then aa (idx xs n) λy=>K (st.put o.dst (.one (.zM fl e y n 0))) else none
 |_,_,_=>none
def zS (o:Oper)(T:TypeId)(x i:Operand)(st:AS)(K:AS->ax R):ax R:=
 match st.rd x,st.rd i with
 | .val false [.str s],.val false [.int _ n]=>if E.str T then aa (idx s n) λb=>K (st.put o.dst (.one (.int .u8 b.toNat))) else none
 |_,_=>none
def zJ (o:Oper)(T:TypeId)(parts:aw (Nat×Operand))(st:AS)(K:AS->ax R):ax R:=
 match iR E.ty T with
 |some ⟨true,ct,jw⟩=>
  match eO st (parts.map (·.2))with
  |(vs,bH)=>
   match uN jw (cellsOf ct (.own none) ct.zero) ((parts.map (·.1)).zip (vs.map AV.cells))with
   |some cs=>K (bH.put o.dst (.val true cs))
   |none=>none
 |_=>none
def lf (o:Oper)(T:TypeId)(len:Nat)(parts:aw (Nat×Operand))(st:AS)(K:AS->ax R):ax R:=
 match E.sl T with
 |some e=>
  if parts.length=len/\F3 0 parts/\len<=1000 then
   match eO st (parts.map (·.2))with
   |(vs,bH)=>
    match Av e (vs.map AV.cells)with
    |some xs=>K (bH.oQ o.dst e xs)
    |none=>none
  else none
 |none=>none
def nJ (o:Oper)(T:TypeId)(n c:Operand)(st:AS)(K:AS->ax R):ax R:=
 match E.sl T,st.rd n,st.rd c with
 |some e,.val false [.int .i64 len],.val false [.int .i64 cap]=>
  if 0<=len/\len<=cap then room cap.toNat (K (st.oQ o.dst e (List.replicate len.toNat e.zero))) else none
 |_,_,_=>none
def me (st:AS)(lo hi:ax Operand)(n:Nat)(K:Int->Int->ax R):ax R:=
 match lo.map st.rd,hi.map st.rd with
 |none,none=>K 0 n
 |some (.val false [.int _ a]),none=>K a n
 |none,some (.val false [.int _ b])=>K 0 b
 |some (.val false [.int _ a]),some (.val false [.int _ b])=>K a b
 |_,_=>none
def uX (o:Oper)(T:TypeId)(x:Operand)(lo hi:ax Operand)(st:AS)(K:AS->ax R):ax R:=
 match st.take x,lo.map st.rd,hi with
 |(.val false [.sl (.own _) e xs],bH),some (.val false [.int _ a]),none=>
  if E.sl T=some e then aa (sub xs a xs.length) λMa=>K (bH.oQ o.dst e Ma) else none
 |_,_,_=>none
def Lc (o:Oper)(fl:pE)(a:Int):pE:=
 match fl,o.dst with
 | .loc ep (some (r,t)),some d=>bif an.nest.contains d then .part ep r t a else .loc ep none
 |fl,_=>fl.bare
def yJ (o:Oper)(T:TypeId)(x:Operand)(lo hi:ax Operand)(st:AS)(K:AS->ax R):ax R:=
 if C2 an o then uX E o T x lo hi st K else
 match (st.rd x).fresh st with
 | .val false [.str s]=>if E.str T then me st lo hi s.length λa b=>aa (sub s a b) λs'=>K (st.put o.dst (.one (.str s'))) else none
 | .val false [.sl fl e xs]=>
   if E.sl T=some e/\fl.live st.ep then me st lo hi xs.length λa b=>aa (sub xs a b) λMa=>K (st.put o.dst (.one (.sl (Lc an o fl a) e Ma))) else none
 |_=>none
def lh (o:Oper)(src dst:TypeId)(x:Operand)(st:AS)(K:AS->ax R):ax R:=
 match iR E.ty src,iR E.ty dst,st.rd x with
 |some _,some ⟨false,.int k,_⟩,.val false [.int _ n]=>K (st.put o.dst (.one (.int k (k.wrap n))))
 |some ⟨false,.str,_⟩,some ⟨false,.str,_⟩,.val false [.str s]=>K (st.put o.dst (.one (.str s)))
 |some ⟨false,.str,_⟩,some _,.val false [.str s]=>
  if E.bytes dst then room s.length (K (st.oQ o.dst (.int .u8) (dj s))) else none
 |some _,some ⟨false,.str,_⟩,.val false [.sl fl (.int .u8) xs]=>
  if E.bytes src/\fl.live st.ep then K (st.put o.dst (.one (.str (aJ xs)))) else none
 |_,_,_=>none
def ll (o:Oper)(t i:Nat)(st:AS)(K:AS->ax R):ax R:=
 match st.get t with
 | .uF vs=>match nth vs i with
   |some (g,cs)=>K ((st.put (some t) (.uF (gK vs i (g,aR 0 cs)))).put o.dst (.val g cs))
   |none=>none
 |_=>none
def KU (o:Oper)(ts:aw TypeId)(args:aw Operand)(st:AS)(K:AS->ax R):ax R:=
 match ts,args.map st.rd with
 |[t],[.val false [.str s]]=>if E.str t then K (st.put o.dst (.one (.int .i64 s.length))) else none
 |[t],[.val false [.sl _ _ xs]]=>if(E.sl t).isSome then K (st.put o.dst (.one (.int .i64 xs.length))) else none
 |_,_=>none
def Mw (o:Oper)(args:aw Operand)(st:AS)(K:AS->ax R):ax R:=
 match args.map st.rd with
 |[.val false [.int k x],.val false [.int _ y]]=>K (st.put o.dst (.one (.int k (if y<x then y else x))))
 |_=>none
def Mv (o:Oper)(args:aw Operand)(st:AS)(K:AS->ax R):ax R:=
 match args.map st.rd with
 |[.val false [.int k x],.val false [.int _ y]]=>K (st.put o.dst (.one (.int k (if y>x then y else x))))
 |_=>none
def MV (o:Oper)(ts:aw TypeId)(args:aw Operand)(st:AS)(K:AS->ax R):ax R:=
 match ts,args.map st.rd with
 |[t,t'],[.val false [.sl (.part ep r tg lo) e xs],.val false [.str s]]=>
  match st.eM r with
  |some (.sl (.own (some tg')) e' ys)=>
   if h:e'=.int .u8 then
    if e=.int .u8/\E.sl t=some (.int .u8)/\E.str t'=true/\ep=st.ep/\tg'=tg then
     K ({st.eU r (.sl (.own (some tg)) (.int .u8) (Az (h▸ys:aw (CT.int .u8).D) lo.toNat (dj (s.take xs.length))))with ep:=st.ep+1}.put o.dst (.one (.int .i64 (min xs.length s.length:Nat))))
    else none
   else none
  |_=>none
 |_,_=>none
def Dg (o:Oper)(S:TypeId)(t f:Nat)(st:AS)(K:AS->ax R):ax R:=
 match iR E.ty S,st.get t,Sm E.fts S f with
 |some ⟨true,ct,jw⟩,.val true cs,some T=>
  match nth jw f,iR E.ty T with
  |some (fo,n),some sh=>
   if n=sh.ct.size/\cs.length=ct.size/\fo+n<=cs.length then
    K ((st.put (some t) (.val true (dZ cs fo (aR st.ep ((cs.drop fo).take n))))).put o.dst (.val sh.agg ((cs.drop fo).take n)))
   else none
  |_,_=>none
 |_,_,_=>none
def vo (o:Oper)(ts:aw TypeId)(args:aw Operand)(st:AS)(K:AS->ax R):ax R:=
 match ts,args with
 |[t,t'],[s,x]=>
  match st.take s with
  |(.val false [.sl (.own _) e xs],st1)=>
   match st1.take x with
   |(.val false [.sl fl e' ys],st2)=>
    if h:e'=e then
     if E.sl t=some e/\E.sl t'=some e/\fl.pL st.ep e.flat then
      room (xs.length+ys.length) (K (st2.oQ o.dst e (xs++(h▸ys:aw e.D))))
     else none
    else none
   |(.val false [.str s],st2)=>
    if h:e=.int .u8 then
     if E.sl t=some e/\E.str t' then room (xs.length+s.length) (K (st2.oQ o.dst (.int .u8) ((h▸xs:aw (CT.int .u8).D)++dj s))) else none
    else none
   |_=>none
  |_=>none
 |_,_=>none
def Nc:Nat->aw AC->ax (ka×Nat)
 |_,[]=>none
 |j,.sl (.loc _ (some (r,_))) _ _::_=>some (r,j)
 |j,_::cs=>Nc (j+1) cs
def ka.pos:ka->Nat
 | .slot _ j=>j
 | .box _ j=>j
 | .io j=>j
def AS.Gi (st:AS):ka->ax (aw AC)
 | .slot s _=>match st.get s with| .val _ cs=>some cs|_=>none
 | .box s _=>(nth st.boxes s).getD none
 | .io _=>some st.io
def AS.CQ (st:AS)(r:ka)(cs:aw AC):AS:=
 match r with
 | .slot s _=>match st.get s with| .val g _=>st.put (some s) (.val g cs)|_=>st
 | .box s _=>st.eF s (some cs)
 | .io _=>{st with io:=cs}
def mY:aw AC->aw AC->ax (aw AC)
 |[],[]=>some []
 | .sl (.loc _ (some (_,t))) _ _::os,.sl (.own (some t')) e xs::ss=>bif t'==t then(mY os ss).bind λr=>some (.sl (.own none) e xs::r) else none
 | .int k n::os,.int _ _::ss=>(mY os ss).bind λr=>some (.int k n::r)
 | .bool b::os,.bool _::ss=>(mY os ss).bind λr=>some (.bool b::r)
 | .str x::os,.str _::ss=>(mY os ss).bind λr=>some (.str x::r)
 |_,_=>none
def AV.je:AV->Bool
 | .val _ cs=>cs.all AC.je
 | .uF vs=>vs.all λx=>x.2.all AC.je
def OA (st:AS)(x:Operand):ax (AV×AS):=
 match st.rd x with
 | .val g cs=>
   match Nc 0 cs with
   |some (r,j)=>
    match st.Gi r with
    |some WO=>
     match mY cs ((WO.drop (r.pos-j)).take cs.length)with
     |some pH=>some (.val g pH,st.CQ r (dZ WO (r.pos-j) (aR st.ep ((WO.drop (r.pos-j)).take cs.length))))
     |none=>none
    |none=>none
   |none=>none
 |_=>none
def NB (o:Oper)(x:Operand)(st:AS)(K:AS->ax R):ax R:=
 match OA st x with
 |some (v,bH)=>K (bH.put o.dst v)
 |none=>none
def vj (T:TypeId)(p x:Operand)(st:AS)(K:AS->ax R):ax R:=
 match iR E.ty T,st.rd p with
 |some sh,.val false [.ptr s off]=>
  match OA st x with
  |some (.val _ vs,bH)=>
   match (nth bH.boxes s).getD none with
   |some cs=>
    if vs.length=sh.ct.size/\vs.all AC.Gw then
     if off+sh.ct.size<=cs.length then K (bH.eF s (some (dZ cs off vs))) else none
    else none
   |none=>none
  |_=>none
 |_,_=>none
def AC.strip:AC->AC
 | .sl (.own _) e xs=> .sl (.own none) e xs
 | .sl (.loc _ _) _ _=> .bot
 | .sl (.nest ..) _ _=> .bot
 | .sl (.part ..) _ _=> .bot
 | .sl (.fg _ i _) e xs=> .sl (.fg none i none) e xs
 | .ptr _ _=> .bot
 | .zM _ _ _ _ _=> .bot
 |c=>c
def AC.aeV:AC->Bool
 | .sl (.own _) _ _=>true
 |c=>c.je
def AC.xc (k:Bool):AC->Bool
 | .sl (.own _) _ _=>true
 | .sl (.arg k') _ _=>k'==k
 |c=>c.je
def AC.Ql:AC->AC
 | .sl (.own _) e xs=> .sl (.own none) e xs
 | .sl (.arg _) e xs=> .sl (.arg true) e xs
 |c=>c.strip
def AC.agE (k:Bool)(tag:ax Nat):AC->AC
 | .sl (.own _) e xs=> .sl (.own tag) e xs
 | .sl (.arg _) e xs=> .sl (.arg k) e xs
 |c=>c
def oG (k:Bool)(mk:Nat->ax Nat):Nat->aw AC->aw AC
 |_,[]=>[]
 |j,c::cs=>c.agE k (mk j)::oG k mk (j+1) cs
def BI (cs:aw AC):Bool:=cs.any λc=>match c with| .sl (.arg k) _ _=>k|_=>false
def AC.GX:AC->Bool
 | .sl (.arg k) _ _=> !k
 |c=>c.je
def AV.GX:AV->Bool
 | .val _ cs=>cs.all AC.GX
 | .uF _=>false
def AS.Mu (st:AS):AC->AC
 | .sl (.own _) e xs=> .sl (.arg false) e xs
 | .sl (.arg _) e xs=> .sl (.arg false) e xs
 | .sl (.loc _ (some (.slot b j,t))) _ _=>match st.eM (.slot b j)with
   |some (.sl (.own (some t')) e' ys)=>if t'=t then .sl (.arg false) e' ys else .bot
   |_=> .bot
 | .int k n=> .int k n
 | .bool b=> .bool b
 | .str s=> .str s
 | .fn f=> .fn f
 |_=> .bot
def zu (st:AS):Operand->AV
 | .tmp t=>(match st.get t with| .val g cs=> .val g (cs.map st.Mu)|v=>v)
 |x=>st.rd x
def Au (st:AS):Operand->Bool
 | .tmp t=>(match st.get t with| .val _ cs=>(cs.map st.Mu).all AC.GX|_=>false)
 |x=>(st.rd x).je
def AC.ZF:AC->Bool
 | .sl (.own _) _ _=>true
 |c=>c.je
def AV.ZF:AV->Bool
 | .val _ cs=>cs.all AC.ZF
 | .uF vs=>vs.all λx=>x.2.all AC.ZF
def WK (st:AS)(s:Nat)(cs:aw AC):AS:={(st.eF s (some cs)).fz (some s)with ep:=st.ep+1}
def tn (o:Oper)(f:Nat)(args:aw Operand)(st:AS)(K:AS->ax R):ax R:=
 match args with
 |x0::xs=>
  match st.rd x0 with
  | .val false [.ptr s 0]=>
    match (nth st.boxes s).getD none with
    |some cs=>
     bif cs.all (AC.xc (BI cs))&&xs.all (Au st) then
      aa ((Γ f).fn (.val true (cs.map AC.Ql)::xs.map (zu st))) λy=>
       bif ((Γ f).back y).all (AC.xc true)&&((Γ f).av y).ZF then
        bif (Γ f).cur&&cs.all AC.Fm then
         K (((st.eF s (some (oG (BI cs) (λ_=>none) 0 ((Γ f).back y)))).fz o.dst).put o.dst (((Γ f).av y).BJ st.ep (st.gS o.dst)))
        else
        K (((WK st s (oG (BI cs) (st.gS (some s)) 0 ((Γ f).back y))).fz o.dst).put o.dst
          (((Γ f).av y).BJ (st.ep+1) ((WK st s (oG (BI cs) (st.gS (some s)) 0 ((Γ f).back y))).gS o.dst)))
       else none
     else none
    |none=>none
  |_=>none
 |[]=>none
def ZG (o:Oper)(f:Nat)(args:aw Operand)(st:AS)(K:AS->ax R):ax R:=
 match o.dst with
 |some d=>
  match nth st.boxes d with
  |some none=>
   bif args.all (λx=>(st.rd x).GX) then
    aa ((Γ f).fn (args.map st.rd)) λy=>
     bif ((Γ f).back y).all AC.GX then K ((st.eF d (some ((Γ f).back y))).put (some d) (.one (.ptr d 0))) else none
   else none
  |_=>none
 |none=>none
def BK (o:Oper)(f:Operand)(args:aw Operand)(st:AS)(K:AS->ax R):ax R:=
 match st.rd f with
 | .val false [.fn f]=>
   bif (Γ f).bx then tn Γ o f args st K else
   bif (Γ f).pr then ZG Γ o f args st K else
   bif (Γ f).io then none
   else aa ((Γ f).fn (args.map λx=>((st.rd x).fresh st).asArg st.ep)) λr=>cond ((Γ f).sel r) (K ((st.fz o.dst).put o.dst (((Γ f).av r).BJ st.ep (st.gS o.dst)))) (K ((st.fz o.dst).put o.dst (((Γ f).alt r).BJ st.ep (st.gS o.dst))))
 |_=>none
def BL {R:Type}(op:BinOp)(b:Bool)(K:AC->ax R):ax R:=
 match op with
 | .eql=>K (.bool b)
 | .neq=>K (.bool (!b))
 |_=>none
def yV (o:Oper)(op:BinOp)(T:TypeId)(x y:Operand)(st:AS)(K:AS->ax R):ax R:=
 match st.rd x,st.rd y with
 | .val false [.bool a],.val false [.bool b]=>if E.bool T then DM op (.one (.bool a)) (.one (.bool b)) λc=>K (st.put o.dst (.one c)) else none
 | .val true xs,.val true ys=>match NF E.eqs T with
   |some ls=>if fits ls xs then DM op (.val true xs) (.val true ys) λc=>K (st.put o.dst (.one c)) else none
   |none=>none
 | .val false [.sl fl _ xs],.val false [.jm]=>if(E.sl T).isSome/\fl.live st.ep then(if xs.length=0 then none else BL op false λc=>K (st.put o.dst (.one c))) else none
 | .val false [.jm],.val false [.jm]=>if(E.sl T).isSome then BL op true λc=>K (st.put o.dst (.one c)) else none
 |a,b=>DM op a b λc=>K (st.put o.dst (.one c))
def cY (o:Oper)(st:AS)(K:AS->ax R):ax R:=
 match o.op with
 | .move x=>Ay an o x st K
 | .assign x=>if yA an o then NB o x st K else tk E an o x st K
 | .pick c a b=>CI o c a b st K
 | .alloc T=>AK E o T st K
 | .box _ x=>Ou o x st K
 | .load T p=>oh E an o T p st K
 | .store T p x=>match o.dst with|none=>(if yA an o then vj E T p x st K else vi E T p x st K)|some _=>none
 | .nilCheck x=>
   match st.rd x with
   | .val false [.ptr s off]=>K (st.put o.dst (.one (.ptr s off)))
   | .val false [.zM fl e y i off]=>K (st.put o.dst (.one (.zM fl e y i off)))
   |_=>none
 | .binOp op T x y _=>yV E o op T x y st K
 | .unOp op _ x=>unC op (st.rd x) λc=>K (st.put o.dst (.one c))
 | .fieldAddr S p f=>ym E o S p f st K
 | .indexAddr T x i=>lS E o T x i st K
 | .index T x i=>zS E o T x i st K
 | .build T parts=>zJ E o T parts.toList st K
 | .buildSlice T len parts=>lf E o T len parts.toList st K
 | .makeSlice T n c=>nJ E o T n c st K
 | .slice T x lo hi none=>yJ E an o T x lo hi st K
 | .field S (.tmp t) f=>Dg E o S t f st K
 | .call {callee:=.builtin .copy,args,argTypes}=>MV E o argTypes.toList args.toList st K
 | .convert src dst x=>lh E o src dst x st K
 | .extract (.tmp t) i=>ll o t i st K
 | .call {callee:=.builtin .len,args,argTypes}=>KU E o argTypes.toList args.toList st K
 | .call {callee:=.builtin .min,args,..}=>Mw o args.toList st K
 | .call {callee:=.builtin .max,args,..}=>Mv o args.toList st K
 | .call {callee:=.builtin .append,args,argTypes}=>vo E o argTypes.toList args.toList st K
 | .call {callee:=.value f,args,..}=>BK Γ o f args.toList st K
 |_=>none
def gb (ops:aw Oper)(o:Oper)(st:AS)(K:AS->ax R):ax R:=
 match o.guard with
 |none=>cY E Γ an o st K
 |some (j,E5)=>
  match (nth ops j).bind (·.dst)with
  |some d=>
   match st.get d with
   | .val false [.bool b]=>
     let go (t:Bool):ax R:=
      if t==E5 then cY E Γ an o (st.put (some d) (.one (.bool t))) K else K ((st.put (some d) (.one (.bool t))).put o.dst (.one .un))
     cond b (go true) (go false)
   | .val false [.un]=>K (st.put o.dst (.one .un))
   |_=>none
  |none=>none
def PN (ops:aw Oper):aw Oper->AS->(AS->ax R)->ax R
 |[],st,K=>K st
 |o::r,st,K=>gb E Γ an ops o st λbH=>PN ops r bH K
def ed:Code->Nat
 | .region id _ _=>id
 | .seq a _=>ed a
 | .block _ c=>ed c
 | .loop c=>ed c
 | .cond _ a b=>match ed a with|0=>ed b|n=>n
 |_=>0
def B8 (c:Code):Nat:=1000000+2*ed c
def ks (l:fw):Code->aw Code
 | .seq a b=>ks l a++(bif l.contains (ed b) then b::ks l b else ks l b)
 | .cond _ a b=>ks l a++ks l b
 | .block _ c=>ks l c
 | .loop c=>ks l c
 |_=>[]
def tq (l:fw)(fn:Func)(k:Nat):Code:=(nth (ks l (fn.body.getD .skip)) k).getD .skip
def gX:Code->aw Code
 | .seq a b=>gX a++gX b
 | .cond _ a b=>gX a++gX b
 | .block _ c=>gX c
 | .loop c=>c::gX c
 |_=>[]
def cJ (fn:Func)(k:Nat):Code:=(nth (gX (fn.body.getD .skip)) k).getD .skip
def Xj (j:Nat):Nat:=3*(4096*1000003+j)
def ka.CX:ka->ax Nat
 | .slot s j=>bif Nat.ble 4096 j then none else bif Nat.ble 1000000 s then none else some (3*(4096*s+j))
 | .box s j=>bif Nat.ble 4096 j then none else some (3*(4096*s+j)+1)
 | .io j=>bif Nat.ble 4096 j then none else some (Xj j)
def AC.acI (io:aw AC)(j t:Nat)(e:CT):ax (aw e.D):=
 match nth io j with
 |some (.sl (.own (some t')) e' ys)=>if h:e'=e then bif t'==t then some (h▸ys) else none else none
 |_=>none
def AC.mask (keep:fw)(ep:Nat)(io:aw AC)(rt:ka):AC->AC
 | .ptr s off=>if keep.contains s then .ptr s off else .bot
 | .sl (.loc e pv) t xs=>
   match pv with
   |some (.io j,n)=>match AC.acI io j n t with
    |some ys=> .sl (.loc 0 ((ka.CX (.io j)).map λq=>(.io j,q))) t ys
    |none=>if e==ep then .sl (.loc 0 none) t xs else .bot
   |_=>if e==ep then .sl (.loc 0 none) t xs else .bot
 | .sl (.own _) t xs=> .sl (.own rt.CX) t xs
 | .sl (.nest ..) _ _=> .bot
 | .sl (.part ..) _ _=> .bot
 | .sl (.fg _ i _) e xs=> .sl (.fg none i none) e xs
 | .zM _ _ _ _ _=> .bot
 |c=>c
def Hw (keep:fw)(ep:Nat)(io:aw AC)(f:Nat->ka):Nat->aw AC->aw AC
 |_,[]=>[]
 |j,c::cs=>c.mask keep ep io (f j)::Hw keep ep io f (j+1) cs
def AV.mask (keep:fw)(ep:Nat)(io:aw AC)(s:Nat):AV->AV
 | .val g cs=> .val g (Hw keep ep io (.slot s) 0 cs)
 | .uF _=> .bot
def mU (keep:fw)(ep:Nat)(io:aw AC):Nat->aw AV->aw AV
 |_,[]=>[]
 |i,v::r=>(if keep.contains i then v.mask keep ep io i else .bot)::mU keep ep io (i+1) r
def mT (keep:fw)(ep:Nat)(io:aw AC):Nat->aw (ax (aw AC))->aw (ax (aw AC))
 |_,[]=>[]
 |i,b::r=>(if keep.contains i then b.map (Hw keep ep io (.box i) 0) else none)::mT keep ep io (i+1) r
def VB (keep:fw):Nat->aw AC->aw AC
 |_,[]=>[]
 |j,c::cs=>(match c with| .sl (.own _) e xs=> .sl (.own (ka.CX (.io j))) e xs| .sl (.fg _ i _) e xs=> .sl (.fg none i none) e xs| .ptr s off=>if keep.contains s then .ptr s off else .bot|c=>bif c.je then c else .bot)::VB keep (j+1) cs
def AS.mask (keep:fw)(st:AS):AS:=
 ⟨mU keep st.ep st.io 0 st.slots,mT keep st.ep st.io 0 st.boxes,0,List.replicate st.slots.length false,VB keep 0 st.io⟩
def getBool (st:AS)(s:Nat):ax Bool:=
 match st.get s with
 | .val false [.bool b]=>some b
 |_=>none
def gk (an:An)(ds:fw)(o:Oper):Bool:=
 match o.op with
 | .assign (.const _)=> !yA an o
 | .assign (.tmp t)=>ds.contains t&& !yA an o
 | .move _| .load ..=>match o.dst with|some d=> !an.mv.contains d|none=>false
 | .slice ..=> !C2 an o
 | .pick ..| .binOp ..| .unOp ..| .fieldAddr ..| .indexAddr ..| .index ..| .nilCheck _=>true
 | .build _ ps=>ps.isEmpty
 | .call {callee:=.builtin .len,..}| .call {callee:=.builtin .min,..}| .call {callee:=.builtin .max,..}=>true
 | .call {callee:=.value _,..}=>true
 |_=>false
def Ez (ops:aw Oper):fw:=ops.filterMap (·.dst)
def AS.zi (st:AS):fw->AS
 |[]=>st
 |d::r=>((st.put (some d) .bot).fz (some d)).zi r
def DS (ops:aw Oper)(A:aw fw):Nat->aw Oper->AS->(AS->ax R)->ax R
 |_,[],st,K=>K st
 |i,o::r,st,K=>bif dq E an (rf an A i 0 ops) o st then gb E Γ an ops o st λbH=>DS ops A (i+1) r bH K else none
def Ch (ops:aw Oper)(draw:Bool)(st:AS)(K:AS->ax R):ax R:=
 bif draw then(bif Q0 an ops then DS E Γ.E1 an ops (QF ops []) 0 ops st K else none) else PN E Γ an ops ops st K
def PX (id:Nat)(ops:aw Oper)(draw:Bool)(st:AS)(K:AS->ax R):ax R:=
 match an.merge id with
 |none=>Ch E Γ an ops draw st K
 |some s=>
  if ops.all (gk an (Ez ops)) then
   aa (Ch E Γ.calm an ops draw st λbH=>getBool bH s) λb=>K ((st.zi (Ez ops)).put (some s) (.one (.bool b)))
  else none
def zv (key:fw)(B:AS->(Ex->AS->ax R)->ax R):Nat->AS->(Ex->AS->ax R)->ax R
 |0,_,_=>none
 |m+1,st,K=>B st λe bH=>
  match e with
  | .normal=>zv key B m (bH.mask key) K
  |e=>K e (bH.mask key)
def den (Λ:kZ):Code->AS->(Ex->AS->ax R)->ax R
 | .skip,st,K=>K .normal st
 | .region id ops draw,st,K=>PX E Γ an id ops.toList draw st (K .normal)
 | .seq a b,st,K=>den Λ a st λe bH=>match e with
   | .normal=>bif an.cut.contains (ed b) then(Λ (B8 b)).go (bH.mask (an.mask (B8 b))) K else den Λ b bH K
   |e=>K e bH
 | .cond c a b,st,K=>
   match st.rd c with
   | .val false [.bool t]=>cond t (den Λ a st K) (den Λ b st K)
   |_=>none
 | .block id c,st,K=>den Λ c st λe bH=>
   match e with
   | .exit j=>if j==id then K .normal bH else K (.exit j) bH
   |e=>K e bH
 | .loop c,st,K=>
   bif an.peel.contains (ed c) then den Λ c (st.mask (an.mask (ed c))) λe bH=>
    match e with
    | .normal=>(Λ (ed c)).go (bH.mask (an.mask (ed c))) K
    |e=>K e (bH.mask (an.mask (ed c)))
   else(Λ (ed c)).go (st.mask (an.mask (ed c))) K
 | .exit id,st,K=>K (.exit id) st
 | .ret,st,K=>K .ret st
 |_,_,_=>none
end
def Lp (st:AS)(E:Env):ResultVar->ax ((Bool×Nat)×Bool×aw AC)
 | .tmp t=>match st.get t with| .val g cs=>some ((false,t),g,cs.map AC.strip)|_=>none
 | .cell t T=>match iR E.ty T,st.get t with
   |some sh,.val false [.ptr s off]=>((nth st.boxes s).getD none).bind λcs=>
    if off+sh.ct.size<=cs.length then some ((true,s),sh.agg,((cs.drop off).take sh.ct.size).map AC.strip) else none
   |_,_=>none
def ra (st:AS)(E:Env):aw (Bool×Nat)->aw ResultVar->ax (aw (Bool×aw AC))
 |_,[]=>some []
 |had,r::rs=>(Lp st E r).bind λx=>if had.contains x.1 then none else(ra st E (x.1::had) rs).bind λxs=>some (x.2::xs)
def results (E:Env)(rs:aw ResultVar)(st:AS):ax AV:=
 match ra st E [] rs with
 |some [(g,cs)]=>some (.val g cs)
 |some vs=>some (.uF vs)
 |none=>none
def start (fn:Func)(args:aw AV):AS:=⟨args++List.replicate (fn.ntmps-args.length) .bot,List.replicate (args.length+(fn.ntmps-args.length)) none,0,List.replicate fn.ntmps false,[]⟩
abbrev kj:aw (Bool×FT)->Type
 |[]=>Unit
 |[(_,t)]=>t.ct.D
 |(_,t)::r=>t.ct.D×kj r
def kT:(l:aw (Bool×FT))->aw (Bool×aw AC)->ax (kj l)
 |[],[]=>some ()
 |[(g,t)],[(g',cs)]=>bif g==g' then(match Jv t cs with|some (x,[])=>some x|_=>none) else none
 |(g,t)::p::r,(g',cs)::vs=>bif g==g' then(match Jv t cs with|some (x,[])=>(kT (p::r) vs).bind λy=>some (x,y)|_=>none) else none
 |_,_=>none
def ah0:(l:aw (Bool×FT))->kj l->aw (Bool×aw AC)
 |[],_=>[]
 |[(g,t)],x=>[(g,jc t x)]
 |(g,t)::p::r,x=>(g,jc t x.1)::ah0 (p::r) x.2
def yh (l:aw (Bool×FT))(x:kj l):AV:=
 match ah0 l x with
 |[(g,cs)]=> .val g cs
 |vs=> .uF vs
def Ci (E:Env)(Γ:xT)(an:An)(Λ:kZ)(fn:Func)(rs:aw (Bool×FT))(args:aw AV):ax (kj rs):=
 match fn.body with
 |some c=>if args.length=fn.params.size then den E Γ an Λ c (start fn args) λe st=>
  match e with
  | .exit _=>none
  |_=>aa (ra st E [] fn.results.toList) (kT rs)
  else none
 |none=>none
def evalAlt (E:Env)(Γ:xT)(an:An)(Λ:kZ)(fn:Func)(rs L7:aw (Bool×FT))(h:kj L7=kj rs)(args:aw AV):ax (Bool×kj rs):=
 match fn.body with
 |some c=>if args.length=fn.params.size then den E Γ an Λ c (start fn args) λe st=>
  match e with
  | .exit _=>none
  |_=>aa (ra st E [] fn.results.toList) λys=>
   match kT rs ys with
   |some y=>some (true,y)
   |none=>match kT L7 ys with
    |some y=>some (false,cast h y)
    |none=>none
  else none
 |none=>none
def Fq:Nat->aw AC->aw AC
 |_,[]=>[]
 |j,.sl (.own _) e xs::cs=> .sl (.own (some (3*j+1))) e xs::Fq (j+1) cs
 |j,c::cs=>c::Fq (j+1) cs
def yL (fn:Func)(cs:aw AC)(args:aw AV):AS:=
 {start fn (.one (.ptr 0 0)::args)with boxes:=some (Fq 0 cs)::List.replicate (args.length+(fn.ntmps-(args.length+1))) none,io:=[.ptr 0 0]}
def W1 (E:Env)(Γ:xT)(an:An)(Λ:kZ)(fn:Func)(rs:aw (Bool×FT))(t:FT)(args:aw AV):ax (kj rs×t.ct.D):=
 match fn.body,args with
 |some c,.val true cs::xs=>if xs.length+1=fn.params.size/\cs.all (AC.xc true)=true then den E Γ an Λ c (yL fn cs xs) λe st=>
  match e with
  | .exit _=>none
  |_=>aa (aa (ra st E [(true,0)] fn.results.toList) (kT rs)) λr=>
   match st.io,st.boxes with
   |[.ptr 0 0],some pH::_=>match Jv t (pH.map AC.strip)with
    |some (x,[])=>some (r,x)
    |_=>none
   |_,_=>none
  else none
 |_,_=>none
def O0 (E:Env)(Γ:xT)(an:An)(Λ:kZ)(fn:Func)(t:FT)(args:aw AV):ax t.ct.D:=
 match fn.body with
 |some c=>if args.length=fn.params.size then den E Γ an Λ c (start fn args) λe st=>
  match e with
  | .exit _=>none
  |_=>match fn.results.toList with
   |[.tmp i]=>match st.get i with
    | .val false [.ptr s 0]=>match (nth st.boxes s).getD none with
      |some cs=>if cs.all AC.GX=true then(match Jv t (cs.map AC.strip)with|some (x,[])=>some x|_=>none) else none
      |none=>none
    |_=>none
   |_=>none
  else none
 |none=>none
end Go.Dn
