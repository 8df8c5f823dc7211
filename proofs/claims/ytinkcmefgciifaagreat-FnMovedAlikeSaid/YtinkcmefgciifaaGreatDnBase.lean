import Derived.Test.YtinkcmefgciifaaGreatDnData
/- An abstract, heap-free semantics of the model's code, for functions that treat their data by value: definitions. -/
namespace Go.Dn
inductive ky where
 |slot (s j:Nat)|box (s j:Nat)|io (j:Nat)
 deriving DecidableEq
inductive qd where
 |own (tag:Option Nat)
 |loc (ep:Nat) (pv:Option (ky×Nat))
 |arg (k:Bool)
 |nest (ep:Nat) (r:ky) (t:Nat) (e:CT) (i:Int) (off:Nat)
 |part (ep:Nat) (r:ky) (t:Nat) (lo:Int)
 |fi (tag:Option Nat) (i:Int) (ep:Option Nat)
inductive AC where
 |int (k:IntKind) (n:Int)|bool (b:Bool)|str (s:List UInt8)
 |sl (fl:qd) (e:CT) (xs:List e.D)
 |jB
 |ptr (s off:Nat)
 |zX (fl:qd) (e:CT) (x:e.D) (i:Int) (off:Nat)
 |fn (f:Nat)
 |un
 |bot
inductive AV where
 |val (agg:Bool) (cs:List AC)
 |uW (vs:List (Bool×List AC))
abbrev AV.one (c:AC):AV:=.val false [c]
abbrev AV.bot:AV:=.val false [.bot]
structure AS where
 slots:List AV
 boxes:List (Option (List AC))
 ep:Nat
 iss:List Bool
 io:List AC
structure Shape where
 agg:Bool
 ct:CT
 jJ:List (Nat×Nat):=[]
structure An where
 mask:Nat->List Nat:=λ_=>[]
 merge:Nat->Option Nat:=λ_=>none
 mv:List Nat:=[]
 nest:List Nat:=[]
 mb:Nat->Option Nat:=λ_=>none
 sb:Nat->Option Nat:=λ_=>none
 late:List Nat:=[]
 peel:List Nat:=[]
 nils:List Nat:=[]
 fm:List Nat:=[]
 eb:Nat->Option Nat:=λ_=>none
 es:Nat->Option Nat:=λ_=>none
 er:Nat->Option Nat:=λ_=>none
 cut:List Nat:=[]
def cellsOf:(t:CT)->qd->t.D->ax AC
 | .int k,_,n=>[.int k n]
 | .bool,_,b=>[.bool b]
 | .str,_,s=>[.str s]
 | .sl e,fl,xs=>[.sl fl e xs]
 | .pair a b,fl,x=>cellsOf a fl x.1++cellsOf b fl x.2
def ld:(t:CT)->ax AC->ay (t.D×ax AC)
 | .int k,.int k' n::r=>if k'=k then some (n,r) else none
 | .bool,.bool b::r=>some (b,r)
 | .str,.str s::r=>some (s,r)
 | .sl e,.sl (.own _) e' xs::r=>if h:e'=e then some (h▸xs,r) else none
 | .sl _,.jB::r=>some ([],r)
 | .pair a b,cs=>(ld a cs).bind λx=>(ld b x.2).bind λy=>some ((x.1,y.1),y.2)
 |_,_=>none
def nth {α:Type}:ax α->Nat->ay α
 |[],_=>none
 |a::_,0=>some a
 |_::l,n+1=>nth l n
def gU {α:Type}:ax α->Nat->α->ax α
 |[],_,_=>[]
 |_::l,0,v=>v::l
 |a::l,n+1,v=>a::gU l n v
def AS.get (st:AS)(i:Nat):AV:=(nth st.slots i).getD .bot
def AS.put (st:AS)(d:ay Nat)(v:AV):AS:=
 match d with
 |some d=>{st with slots:=gU st.slots d v}
 |none=>st
def GW (d j:Nat):Nat:=3*(4096*d+j)+2
def AS.hZ (st:AS)(d:ay Nat)(j:Nat):ay Nat:=
 match d with
 |some d=>bif (nth st.iss d).getD true then none else bif Nat.ble 4096 j then none else some (GW d j)
 |none=>none
def AS.fz (st:AS)(d:ay Nat):AS:=
 match d with
 |some d=>{st with iss:=gU st.iss d true}
 |none=>st
def AS.pw (st:AS)(d:ay Nat)(e:CT)(xs:ax e.D):AS:=
 (st.fz d).put d (.one (.sl (.own (st.hZ d 0)) e xs))
def AC.borrow (ep:Nat)(rt:ay ky):AC->AC
 | .sl (.own tag) e xs=> .sl (.loc ep (match rt,tag with|some r,some t=>some (r,t)|_,_=>none)) e xs
 | .sl (.fi tag _ (some Ks)) e xs=> .sl (.loc Ks (match rt,tag with|some r,some t=>some (r,t)|_,_=>none)) e xs
 | .sl (.fi _ _ none) _ _=> .bot
 |c=>c
def iv (ep:Nat)(f:Nat->ky):Nat->ax AC->ax AC
 |_,[]=>[]
 |j,c::cs=>c.borrow ep (some (f j))::iv ep f (j+1) cs
def aU (ep:Nat)(cs:ax AC):ax AC:=cs.map (AC.borrow ep none)
def AV.borrow (ep:Nat)(f:Nat->ky):AV->AV
 | .val g cs=> .val g (iv ep f 0 cs)
 | .uW vs=> .uW (vs.map λx=>(x.1,aU ep x.2))
def AV.aU (ep:Nat):AV->AV
 | .val g cs=> .val g (Dn.aU ep cs)
 | .uW vs=> .uW (vs.map λx=>(x.1,Dn.aU ep x.2))
def ofConst:Value->AV
 | .int k n=> .one (.int k n)
 | .bool b=> .one (.bool b)
 | .string s=> .one (.str s.data.toList)
 | .slice none 0 0=> .one .jB
 |_=> .bot
def AS.rd (st:AS):Operand->AV
 | .tmp t=>(st.get t).borrow st.ep (.slot t)
 | .const v=>ofConst v
 | .func f=> .one (.fn f)
 | .global _=> .bot
def AS.take (st:AS):Operand->AV×AS
 | .tmp t=>(st.get t,st.put (some t) ((st.get t).aU st.ep))
 |x=>(st.rd x,st)
def AS.eI (st:AS)(s:Nat)(b:ay (ax AC)):AS:={st with boxes:=gU st.boxes s b}
def AC.asArg (ep:Nat):AC->AC
 | .int k n=> .int k n
 | .bool b=> .bool b
 | .str s=> .str s
 | .sl (.own _) e xs=> .sl (.arg false) e xs
 | .sl (.loc ep' _) e xs=>if ep'==ep then .sl (.arg false) e xs else .bot
 | .sl (.arg _) e xs=> .sl (.arg false) e xs
 | .jB=> .jB
 | .fn f=> .fn f
 |_=> .bot
def AV.asArg (ep:Nat):AV->AV
 | .val g cs=> .val g (cs.map (AC.asArg ep))
 | .uW _=> .bot
def AC.BP (ep:Nat)(tag:ay Nat):AC->AC
 | .sl (.own _) e xs=> .sl (.own tag) e xs
 | .sl (.arg _) e xs=> .sl (.loc ep none) e xs
 | .sl (.loc _ _) _ _=> .bot
 | .sl (.nest ..) _ _=> .bot
 | .sl (.part ..) _ _=> .bot
 | .sl (.fi _ i _) e xs=> .sl (.fi none i none) e xs
 | .ptr _ _=> .bot
 | .zX _ _ _ _ _=> .bot
 |c=>c
def GG (ep:Nat)(mk:Nat->ay Nat):Nat->ax AC->ax AC
 |_,[]=>[]
 |j,c::cs=>c.BP ep (mk j)::GG ep mk (j+1) cs
def WC (ep:Nat)(mk:Nat->ay Nat):Nat->ax (Bool×ax AC)->ax (Bool×ax AC)
 |_,[]=>[]
 |j,t::ts=>(t.1,GG ep mk j t.2)::WC ep mk (j+t.2.length) ts
def AV.BP (ep:Nat)(mk:Nat->ay Nat):AV->AV
 | .val g cs=> .val g (GG ep mk 0 cs)
 | .uW vs=> .uW (WC ep mk 0 vs)
def AC.Fx:AC->Bool
 | .sl (.arg _) _ _=>true
 | .int ..=>true
 | .bool _=>true
 | .str _=>true
 | .fn _=>true
 |_=>false
structure jj where
 R:Type
 fn:List AV->Option R
 av:R->AV
 io:Bool:=false
 back:R->List AC:=λ_=>[]
 bx:Bool:=false
 pr:Bool:=false
 sel:R->Bool:=λ_=>true
 alt:R->AV:=λ_=> .val false [.bot]
 cur:Bool:=false
 hcur:cur=true->∀y,(back y).all AC.Fx=true:=by intro h;cases h
def jj.res (F:jj)(y:F.R):AV:=cond (F.sel y) (F.av y) (F.alt y)
abbrev yk:=Nat->jj
def jj.dead:jj:={R:=Unit,fn:=λ_=>none,av:=λ_=> .val false [.bot]}
def yk.calm (Γ:yk):yk:=λf=>bif (Γ f).io||(Γ f).bx||(Γ f).pr then jj.dead else Γ f
def yk.Fb (Γ:yk):yk:=λf=>bif (Γ f).io||(Γ f).pr||((Γ f).bx&& !(Γ f).cur) then jj.dead else Γ f
def Gg {R:Type}(op:BinOp)(k:IntKind)(x y:Int)(K:AC->ay R):ay R:=
 match op with
 | .add=>K (.int k (k.wrap (x+y)))
 | .sub=>K (.int k (k.wrap (x-y)))
 | .mul=>K (.int k (k.wrap (x*y)))
 | .quo=>if y=0 then none else K (.int k (k.wrap (x.tdiv y)))
 | .rem=>if y=0 then none else K (.int k (x.tmod y))
 | .and=>K (.int k (k.wrap (BitVec.ofInt k.bits x&&&BitVec.ofInt k.bits y).toNat))
 | .or=>K (.int k (k.wrap (BitVec.ofInt k.bits x|||BitVec.ofInt k.bits y).toNat))
 | .xor=>K (.int k (k.wrap (BitVec.ofInt k.bits x^^^BitVec.ofInt k.bits y).toNat))
 | .andNot=>K (.int k (k.wrap (BitVec.ofInt k.bits x&&&~~~ BitVec.ofInt k.bits y).toNat))
 | .eql=>K (.bool (x==y))
 | .neq=>K (.bool (x !=y))
 | .lss=>K (.bool (decide (x<y)))
 | .leq=>K (.bool (decide (x<=y)))
 | .gtr=>K (.bool (decide (x>y)))
 | .geq=>K (.bool (decide (x>=y)))
 |_=>none
def I6 {R:Type}(op:BinOp)(x y:ax UInt8)(K:AC->ay R):ay R:=
 match op with
 | .add=>room (x.length+y.length) (K (.str (x++y)))
 | .eql=>K (.bool (x==y))
 | .neq=>K (.bool (!(x==y)))
 | .lss=>K (.bool (Op.bytesLess x y))
 | .leq=>K (.bool (Op.bytesLess x y||x==y))
 | .gtr=>K (.bool (!(Op.bytesLess x y||x==y)))
 | .geq=>K (.bool (!(Op.bytesLess x y)))
 |_=>none
def tM:ax AC->ax AC->ay Bool
 |[],[]=>some true
 | .int k x::r,.int k' y::r'=>if k=k' then(tM r r').bind λb=>some ((x==y)&&b) else none
 | .bool x::r,.bool y::r'=>(tM r r').bind λb=>some ((x==y)&&b)
 | .str x::r,.str y::r'=>(tM r r').bind λb=>some ((x==y)&&b)
 |_,_=>none
def DY {R:Type}(op:BinOp)(x y:AV)(K:AC->ay R):ay R:=
 match x,y with
 | .val false [.int k a],.val false [.int k' b]=>
   match op with
   | .shl=>if b<0 then none else K (.int k (k.wrap (a*2^(min b.toNat k.bits))))
   | .shr=>if b<0 then none else K (.int k (a.fdiv (2^(min b.toNat k.bits))))
   |_=>if k=k' then Gg op k a b K else none
 | .val false [.str a],.val false [.str b]=>I6 op a b K
 | .val false [.bool a],.val false [.bool b]=>
   match op with
   | .eql=>K (.bool (a==b))
   | .neq=>K (.bool (!(a==b)))
   |_=>none
 | .val true xs,.val true ys=>
   match op with
   | .eql=>aa (tM xs ys) λb=>K (.bool b)
   | .neq=>aa (tM xs ys) λb=>K (.bool (!b))
   |_=>none
 |_,_=>none
def unC {R:Type}(op:UnOp)(x:AV)(K:AC->ay R):ay R:=
 match op,x with
 | .not,.val false [.bool b]=>K (.bool (!b))
 | .neg,.val false [.int k n]=>K (.int k (k.wrap (0-n)))
 | .xor,.val false [.int k n]=>Gg .xor k (if k.signed then-1 else k.max) n K
 |_,_=>none
def dZ (cs:ax AC)(off:Nat)(vs:ax AC):ax AC:=cs.take off++vs++cs.drop (off+vs.length)
def AS.eR (st:AS):ky->ay AC
 | .slot s j=>match st.get s with| .val _ cs=>nth cs j|_=>none
 | .box s j=>((nth st.boxes s).getD none).bind λcs=>nth cs j
 | .io j=>nth st.io j
def AS.eV (st:AS)(r:ky)(c:AC):AS:=
 match r with
 | .slot s j=>match st.get s with| .val g cs=>st.put (some s) (.val g (gU cs j c))|_=>st
 | .box s j=>match (nth st.boxes s).getD none with|some cs=>st.eI s (some (gU cs j c))|none=>st
 | .io j=>{st with io:=gU st.io j c}
def AS.fresh (st:AS):AC->AC
 | .sl (.loc ep (some (r,t))) e xs=>
   bif ep==st.ep then .sl (.loc ep (some (r,t))) e xs else
    match st.eR r with
    |some (.sl (.own (some t')) e' ys)=>if h:e'=e then bif t'==t then .sl (.loc st.ep (some (r,t))) e (h▸ys) else .sl (.loc ep (some (r,t))) e xs else .sl (.loc ep (some (r,t))) e xs
    |_=> .sl (.loc ep (some (r,t))) e xs
 |c=>c
def AV.fresh (st:AS):AV->AV
 | .val g cs=> .val g (cs.map st.fresh)
 | .uW vs=> .uW vs
def AC.now (ep:Nat):AC->Bool
 | .sl (.loc ep' (some _)) _ _=>ep'==ep
 |_=>true
def AS.oR {R:Type}(st:AS)(r:ky)(t:Nat)(e:CT)(i:Int)(off:Nat)(vs:ax AC)(K:AS->ay R):ay R:=
 match st.eR r with
 |some (.sl (.own (some t')) e' xs)=>
  if h:e'=e then
   if t'=t then
    aa (idx (h▸xs:ax e.D) i) λx=>
     match ld e (dZ (cellsOf e (.own none) x) off vs)with
     |some (x',[])=>K {st.eV r (.sl (.own (some t')) e ((h▸xs:ax e.D).set i.toNat x'))with ep:=st.ep+1}
     |_=>none
   else none
  else none
 |some (.sl (.fi (some t') i' _) e' xs)=>
  if h:e'=e then
   if t'=t/\off=0 then
    aa (Zo (h▸xs:ax e.D) i' i) λ_=>
     match ld e vs with
     |some (x',[])=>K {st.eV r (.sl (.own (some t')) e ((h▸xs:ax e.D).set i.toNat x'))with ep:=st.ep+1}
     |_=>none
   else none
  else none
 |_=>none
def AV.cells:AV->ax AC
 | .val _ cs=>cs
 | .uW _=>[.bot]
def eS (st:AS):ax Operand->ax AV×AS
 |[]=>([],st)
 |x::xs=>let (v,st1):=st.take x;let (vs,st2):=eS st1 xs;(v::vs,st2)
def AF (e:CT):ax (ax AC)->ay (ax e.D)
 |[]=>some []
 |cs::r=>match ld e cs with
  |some (x,[])=>(AF e r).bind λxs=>some (x::xs)
  |_=>none
def Ge:Nat->ax (Nat×Operand)->Bool
 |_,[]=>true
 |n,(i,_)::r=>i==n&&Ge (n+1) r
def AC.GN:AC->Bool
 | .bot=>false
 | .un=>false
 |_=>true
def vg (jJ:ax (Nat×Nat))(zero:ax AC):ax (Nat×ax AC)->ay (ax AC)
 |[]=>some zero
 |(i,cs)::r=>match nth jJ i with
  |some (off,n)=>if cs.length=n/\off+n<=zero.length/\cs.all AC.GN then vg jJ (dZ zero off cs) r else none
  |none=>none
inductive LK where
 |int|bool|str
 deriving DecidableEq
structure Env where
 ty:List (Nat×Shape)
 eqs:List (Nat×List LK):=[]
 fts:List ((Nat×Nat)×Nat):=[]
def NY (l:ax (Nat×ax LK))(t:Nat):ay (ax LK):=
 match l with
 |[]=>none
 |(u,sh)::r=>bif u==t then some sh else NY r t
def fits:ax LK->ax AC->Bool
 |[],[]=>true
 | .int::ls,.int _ _::r=>fits ls r
 | .bool::ls,.bool _::r=>fits ls r
 | .str::ls,.str _::r=>fits ls r
 |_,_=>false
def SB (l:ax ((Nat×Nat)×Nat))(S f:Nat):ay Nat:=
 match l with
 |[]=>none
 |((u,k),T)::r=>bif u==S&&k==f then some T else SB r S f
def ja (l:ax (Nat×Shape))(t:Nat):ay Shape:=
 match l with
 |[]=>none
 |(u,sh)::r=>bif u==t then some sh else ja r t
def Env.sl (E:Env)(t:Nat):ay CT:=
 match ja E.ty t with
 |some ⟨false,.sl e,_⟩=>some e
 |_=>none
def Env.str (E:Env)(t:Nat):Bool:=
 match ja E.ty t with
 |some ⟨false,.str,_⟩=>true
 |_=>false
def Env.bool (E:Env)(t:Nat):Bool:=
 match ja E.ty t with
 |some ⟨false,.bool,_⟩=>true
 |_=>false
def Env.bytes (E:Env)(t:Nat):Bool:=
 match ja E.ty t with
 |some ⟨false,.sl (.int .u8),[(te,_)]⟩=>match ja E.ty te with|some ⟨false,.int .u8,_⟩=>true|_=>false
 |_=>false
def qd.live (ep:Nat):qd->Bool
 | .loc ep' _=>ep'==ep
 | .arg _=>true
 | .own _=>false
 | .nest ..=>false
 | .part ..=>false
 | .fi ..=>false
def qd.qj (ep:Nat)(flat:Bool):qd->Bool
 | .loc ep' _=>ep'==ep&&flat
 | .arg _=>flat
 | .own _=>true
 | .nest ..=>false
 | .part ..=>false
 | .fi ..=>false
def qd.bare:qd->qd
 | .loc ep _=> .loc ep none
 |f=>f
def AC.jo:AC->Bool
 | .int _ _=>true
 | .bool _=>true
 | .str _=>true
 | .fn _=>true
 |_=>false
def tm:Operand->fy
 | .tmp t=>[t]
 |_=>[]
def M4 (l:ax Operand):fy:=l.flatMap tm
def De (an:An)(o:Oper):Bool:=
 match o.dst with
 |some d=>an.mv.contains d&&(an.mb d).isNone
 |none=>false
def akr (an:An)(o:Oper):Bool:=
 match o.dst with
 |some d=>an.nils.contains d
 |none=>false
def yN (an:An)(o:Oper):Bool:=
 match o.op with
 | .assign (.tmp s)=>an.late.contains s
 | .store _ _ (.tmp s)=>an.late.contains s
 |_=>false
def tmO:ay Operand->fy
 |some x=>tm x
 |none=>[]
def dE (o:Oper):fy:=
 match o.op with
 | .move x=>tm x
 | .assign x=>tm x
 | .pick c a b=>tm c++tm a++tm b
 | .box _ x=>tm x
 | .load _ p=>tm p
 | .store _ p x=>tm p++tm x
 | .nilCheck x=>tm x
 | .binOp _ _ x y _=>tm x++tm y
 | .unOp _ _ x=>tm x
 | .fieldAddr _ p _=>tm p
 | .indexAddr _ x i=>tm x++tm i
 | .index _ x i=>tm x++tm i
 | .build _ parts=>M4 (parts.toList.map (·.2))
 | .buildSlice _ _ parts=>M4 (parts.toList.map (·.2))
 | .makeSlice _ n c=>tm n++tm c
 | .slice _ x lo hi none=>tm x++tmO lo++tmO hi
 | .convert _ _ x=>tm x
 | .extract (.tmp t) _=>[t]
 | .call {callee:=.builtin _,args,..}=>M4 args.toList
 | .call {callee:=.value f,args,..}=>tm f++M4 args.toList
 |_=>[]
def Dd (an:An)(o:Oper):Bool:=
 match o.op with
 | .move _=>match o.dst with|some d=>an.mv.contains d|none=>false
 | .assign _=>true
 | .box ..=>true
 | .build ..=>true
 | .buildSlice ..=>true
 | .store ..=>true
 | .extract ..=>match o.dst with|some d=>an.mv.contains d|none=>false
 | .call {callee:=.builtin .append,..}=>true
 |_=>false
def Db (an:An)(o:Oper):Bool:=
 match o.op,o.dst,o.guard with
 | .load _ (.tmp q),some d,none=>an.mv.contains d&&(an.mb d).isNone&&(an.eb q).isSome
 |_,_,_=>false
def zH (an:An)(o:Oper):Bool:=
 match o.op,o.dst,o.guard with
 | .load _ (.tmp q),some d,none=> !an.mv.contains d&& !an.fm.contains d&&(an.sb q).isSome
 |_,_,_=>false
def Dg (an:An)(o:Oper):fy:=
 match o.op with
 | .alloc _=>o.dst.toList
 | .box ..=>o.dst.toList
 | .load _ p=>match o.dst with|some d=>bif an.mv.contains d then(an.mb d).toList++(bif Db an o then(match p with| .tmp q=>(an.eb q).toList|_=>[]) else []) else []|none=>[]
 | .store _ (.tmp p) _=>(an.sb p).toList
 | .call {callee:=.value _,args,..}=>(match args.toList with| .tmp q::_=>(an.sb q).toList|_=>[])
 |_=>[]
def nk (an:An)(o:Oper):Bool:=
 match o.op with
 | .move _=>true
 | .load ..=>(match o.dst with|some d=> !an.mv.contains d||(an.mb d).isSome|none=>false)||Db an o
 | .extract (.tmp _) _=>true
 | .store _ (.tmp p) _=>(an.sb p).isSome&& !yN an o
 | .assign _=> !yN an o
 | .pick ..| .alloc _| .box ..| .nilCheck _| .binOp ..| .unOp ..| .fieldAddr ..| .indexAddr ..| .index ..| .build ..| .buildSlice ..| .makeSlice ..| .convert ..=>true
 | .slice _ _ _ _ none=> !De an o
 | .call {callee:=.builtin .len,..}| .call {callee:=.builtin .min,..}| .call {callee:=.builtin .max,..}| .call {callee:=.builtin .append,..}=>true
 | .call {callee:=.value _,..}=>true
 |_=>false
def writes (an:An)(o:Oper):fy:=o.dst.toList++(bif Dd an o then dE o else [])
def AV.now (ep:Nat):AV->Bool
 | .val _ cs=>cs.all (AC.now ep)
 | .uW _=>true
def AC.kW:AC->Bool
 | .int ..=>true
 | .bool _=>true
 | .str _=>true
 | .fn _=>true
 | .ptr ..=>true
 |_=>false
def AV.kW:AV->Bool
 | .val _ cs=>cs.all AC.kW
 | .uW _=>false
def Cv (E:Env)(T:TypeId)(st:AS)(s off:Nat):Bool:=
 match ja E.ty T,(nth st.boxes s).getD none with
 |some sh,some cs=>((cs.drop off).take sh.ct.size).all AC.kW
 |_,_=>false
def T0 (an:An)(o:Oper):Bool:=match o.dst with|some d=>an.fm.contains d|none=>false
def Aj (an:An)(o:Oper):Bool:=
 match o.op,o.dst,o.guard with
 | .load _ (.tmp _),some d,none=>an.mv.contains d&&(an.mb d).isSome
 |_,_,_=>false
def KA (an:An)(o:Oper):Bool:=
 match o.op,o.dst,o.guard with
 | .load _ (.tmp _),some d,none=> !an.mv.contains d&&an.fm.contains d
 |_,_,_=>false
def erS (an:An)(o:Oper):fy:=
 match o.op,o.dst with
 | .load ..,some d=>(an.er d).toList
 | .call {callee:=.value _,..},some d=>(an.er d).toList
 |_,_=>[]
def AC.ad2 (l:fy):AC->Bool
 | .sl (.loc _ (some (.slot b _,_))) _ _=>l.contains b
 | .sl (.loc _ _) _ _=>false
 |_=>true
def GL (l:fy)(st:AS):Operand->Bool
 | .tmp t=>(match st.get t with| .val _ cs=>cs.all (AC.ad2 l)| .uW _=>true)
 |_=>true
def abK (an:An)(X l:fy)(st:AS)(xs:ax Operand)(q:Nat):AV->Bool
 | .val false [.ptr s _]=> !X.contains s&&an.sb q==some s&&(match (nth st.boxes s).getD none with|some cs=>cs.all AC.Fx|none=>true)&&xs.all (GL l st)
 |_=>true
def AV.X1:AV->Bool
 | .val false [.ptr _ _]=>false
 |_=>true
def sr (an:An)(X l:fy)(st:AS):ax Operand->Bool
 | .tmp q::xs=>abK an X l st xs q (st.rd (.tmp q))
 |x::_=>(st.rd x).X1
 |[]=>true
def dv (E:Env)(an:An)(X:fy)(o:Oper)(st:AS):Bool:=
 match o.op with
 | .move x=> !T0 an o||(st.rd x).kW
 | .indexAddr _ x _=>(st.rd x).now st.ep||(match st.rd x with| .val _ [.sl (.loc _ (some (.box b _,_))) _ _]=> !X.contains b|_=>false)
 | .slice _ x _ _ none=>(st.rd x).now st.ep
 | .call {callee:=.value _,args,..}=>sr an X (erS an o) st args.toList&&args.toList.all λx=>(st.rd x).now st.ep
 | .load T p=>match st.rd p with
   | .val false [.ptr s off]=> !X.contains s&&(match o.dst with|some d=> !an.mv.contains d||an.mb d==some s|none=>true)&&(!T0 an o||Cv E T st s off)
   | .val false [.zX fl _ _ _ _]=>(fl.live st.ep||(match fl with
     | .loc _ (some (.slot b _,_))=>(erS an o).contains b
     | .loc _ (some (.box b _,_))=> !X.contains b
     |_=>false))&& !(T0 an o||Aj an o)&& !zH an o&&(!Db an o||(match p,fl with
     | .tmp q,.loc _ (some (.box b _,_))=>an.eb q==some b&& !X.contains b
     |_,_=>false))
   |_=> !(T0 an o||Aj an o)
 | .store _ (.tmp p) _=>((an.sb p).isNone&&(an.eb p).isNone&&(an.es p).isNone)||(match st.rd (.tmp p)with
   | .val false [.ptr s _]=> !X.contains s&&an.sb p==some s
   | .val false [.zX (.loc _ (some (.box b _,_))) _ _ _ _]=>an.eb p==some b&&(an.sb p).isNone&&(an.es p).isNone
   | .val false [.zX (.loc _ (some (.slot b _,_))) _ _ _ _]=>an.es p==some b&&(an.sb p).isNone&&(an.eb p).isNone
   |_=>false)
 | .extract (.tmp t) i=>match st.get t with
   | .uW vs=>match nth vs i with|some x=>x.2.all AC.jo||(match o.dst with|some d=>an.mv.contains d|none=>false)|none=>true
   |_=>true
 |_=>true
def CB (an:An)(ops:ax Oper)(o:Oper):fy:=
 (match o.guard with
 |some (j,_)=>((nth ops j).bind (·.dst)).toList
 |none=>[])++erS an o
def meets (a b:fy):Bool:=a.any λx=>b.contains x
def Uf (an:An)(ops:ax Oper)(X Y:fy)(o p:Oper):Bool:=
 nk an o&&nk an p&& !meets (writes an o) (dE p++CB an ops p++writes an p)&& !meets (writes an p) (dE o++CB an ops o)&&
 (Dg an o).all (λd=>Y.contains d)&&(Dg an p).all (λd=>X.contains d)&& !meets (Dg an o) (p.dst.toList++Dg an p)&& !meets (Dg an p) o.dst.toList
def Vd (o p:Oper):Bool:=
 match o.op,p.op,o.dst,p.dst,o.guard,p.guard with
 | .extract (.tmp t) i,.extract (.tmp t') j,some d,some d',none,none=>t==t'&& !(i==j)&& !(d==d')&& !(d==t)&& !(d'==t)
 |_,_,_,_,_,_=>false
def U8 (an:An)(o p:Oper):Bool:=
 match p.op,p.dst,p.guard with
 | .store _ (.tmp q) (.tmp x),none,none=>((an.eb q).isSome&&(an.es q).isNone||(match an.es q with|some b=>(an.eb q).isNone&& !(b==x)&& !(b==q)&& !meets [b] (o.dst.toList++dE o)|none=>false))&&(an.sb q).isNone&& !yN an p&&(match o.op,o.dst,o.guard with
   | .move (.tmp t),some d,none=> !an.mv.contains d&&an.fm.contains d&& !(d==q)&& !(d==x)&& !(t==x)&& !(t==q)&& !(d==t)
   | .extract (.tmp t) _,some d,none=> !(d==q)&& !(d==x)&& !(t==x)&& !(t==q)&& !(d==t)
   |_,_,_=>false)
 |_,_,_=>false
def V1 (an:An)(o p:Oper):Bool:=
 (Aj an o&&KA an p||KA an o&&Aj an p)&& !meets o.dst.toList (p.dst.toList++dE p)&& !meets p.dst.toList (dE o)
def Us (an:An)(o p:Oper):Bool:=zH an o&&Db an p&& !meets o.dst.toList (p.dst.toList++dE p)&& !meets p.dst.toList (dE o)
def adK (an:An)(o p:Oper):Bool:=Vd o p||U8 an o p||V1 an o p||Us an o p
def J2 (an:An)(ops:ax Oper)(X Y:fy)(o p:Oper):Bool:=adK an o p||Uf an ops X Y o p
def zJ (o:Oper):fy:=(o.after.toList.filter (λe=>Region.binds .any e)).map (·.on)
def QJ (a b:fy):fy:=a.foldl (λs x=>bif s.contains x then s else x::s) b
def QT:ax Oper->ax fy->ax fy
 |[],acc=>acc
 |o::r,acc=>QT r (acc++[(zJ o).foldl (λs j=>QJ (j::(nth acc j).getD []) s) []])
def aan (A:ax fy)(i k:Nat):Bool:=((nth A i).getD []).contains k
def Xn (an:An)(A:ax fy)(i:Nat)(fl pl:Bool):Nat->ax Oper->fy
 |_,[]=>[]
 |k,o::r=>(bif !aan A i k&& !aan A k i&& !(k==i)&& !(fl&&Aj an o)&& !(pl&&Db an o) then Dg an o else [])++Xn an A i fl pl (k+1) r
def rF (an:An)(A:ax fy)(i k:Nat)(ops:ax Oper):fy:=Xn an A i (match nth ops i with|some o=>KA an o|none=>false) (match nth ops i with|some o=>zH an o|none=>false) k ops
def Lt (an:An)(ops:ax Oper)(A:ax fy)(i:Nat)(oi:Oper):Nat->ax Oper->Bool
 |_,[]=>true
 |j,oj::r=>bif Nat.ble i j then true else(aan A i j||J2 an ops (rF an A j 0 ops) (rF an A i 0 ops) oj oi)&&Lt an ops A i oi (j+1) r
def P9 (an:An)(ops:ax Oper)(A:ax fy):Nat->ax Oper->Bool
 |_,[]=>true
 |i,oi::r=>(zJ oi).all (λk=>Nat.blt k i)&&Lt an ops A i oi 0 ops&&P9 an ops A (i+1) r
def Re (an:An)(ops:ax Oper):Bool:=P9 an ops (QT ops []) 0 ops
inductive Ex where
 |normal|ret|exit (id:Nat)
inductive FK where
 |own (tag:Option Nat)|arg|xa|loc|lio (j t:Nat)|nil
def FK.flag:FK->qd
 | .own t=> .own t
 | .arg=> .arg false
 | .xa=> .arg true
 | .loc=> .loc 0 none
 | .lio j t=> .loc 0 (some (.io j,t))
 | .nil=> .arg false
def FK.isNil:FK->Bool
 | .nil=>true
 |_=>false
inductive FT where
 |int (k:IntKind)|bool|str|sl (fl:FK) (e:CT)|pair (a b:FT)
abbrev FT.ct:FT->CT
 | .int k=> .int k
 | .bool=> .bool
 | .str=> .str
 | .sl _ e=> .sl e
 | .pair a b=> .pair a.ct b.ct
def jm:(t:FT)->t.ct.D->ax AC
 | .int k,n=>[.int k n]
 | .bool,b=>[.bool b]
 | .str,s=>[.str s]
 | .sl fl e,xs=>[bif fl.isNil then .jB else .sl fl.flag e xs]
 | .pair a b,x=>jm a x.1++jm b x.2
def FK.fits:FK->qd->Bool
 | .own t,.own t'=>t==t'
 | .arg,.arg k=> !k
 | .xa,.arg k=>k
 | .loc,.loc 0 none=>true
 | .lio j t,.loc 0 (some (.io j',t'))=>j==j'&&t==t'
 |_,_=>false
def JS:(t:FT)->ax AC->ay (t.ct.D×ax AC)
 | .int k,.int k' n::r=>if k'=k then some (n,r) else none
 | .bool,.bool b::r=>some (b,r)
 | .str,.str s::r=>some (s,r)
 | .sl fl e,.sl fl' e' xs::r=>if h:e'=e then bif fl.fits fl' then some (h▸xs,r) else none else none
 | .sl fl _,.jB::r=>bif fl.isNil then some ([],r) else none
 | .pair a b,cs=>(JS a cs).bind λx=>(JS b x.2).bind λy=>some ((x.1,y.1),y.2)
 |_,_=>none
inductive PD where
 |bot|ptr (s off:Nat)|fn (f:Nat)|data (g:Bool) (t:FT)
inductive IoD where
 |none|some (t:FT)|ptr
structure SD where
 slots:List PD
 boxes:List (Option FT)
 io:IoD:=.none
abbrev Ia:ax PD->Type
 |[]=>Unit
 | .data _ t::r=>t.ct.D×Ia r
 |_::r=>Ia r
abbrev Hl:ax (ay FT)->Type
 |[]=>Unit
 |some t::r=>t.ct.D×Hl r
 |none::r=>Hl r
abbrev ioD:IoD->Type
 | .none=>Unit
 | .some t=>t.ct.D
 | .ptr=>Unit
abbrev SD.D (d:SD):Type:=Ia d.slots×Hl d.boxes×ioD d.io
def rH:(l:ax PD)->Ia l->ax AV
 |[],_=>[]
 | .data g t::r,x=> .val g (jm t x.1)::rH r x.2
 | .bot::r,x=> .bot::rH r x
 | .ptr s off::r,x=> .one (.ptr s off)::rH r x
 | .fn f::r,x=> .one (.fn f)::rH r x
def Ap:(l:ax (ay FT))->Hl l->ax (ay (ax AC))
 |[],_=>[]
 |some t::r,x=>some (jm t x.1)::Ap r x.2
 |none::r,x=>none::Ap r x
def acs:(o:IoD)->ioD o->ax AC
 | .none,_=>[]
 | .some t,x=>jm t x
 | .ptr,_=>[.ptr 0 0]
def SD.enc (d:SD)(x:d.D):AS:=⟨rH d.slots x.1,Ap d.boxes x.2.1,0,List.replicate d.slots.length false,acs d.io x.2.2⟩
def AV.XV:AV->Bool
 | .val false [.bot]=>true
 |_=>false
def AV.XW (s off:Nat):AV->Bool
 | .val false [.ptr s' aoY]=>s==s'&&off==aoY
 |_=>false
def AV.ZT (f:Nat):AV->Bool
 | .val false [.fn f']=>f==f'
 |_=>false
def jN:(l:ax PD)->ax AV->ay (Ia l)
 |[],[]=>some ()
 | .data g t::r,.val g' cs::vs=>bif g==g' then(match JS t cs with|some (x,[])=>(jN r vs).bind λy=>some (x,y)|_=>none) else none
 | .bot::r,v::vs=>bif v.XV then jN r vs else none
 | .ptr s off::r,v::vs=>bif v.XW s off then jN r vs else none
 | .fn f::r,v::vs=>bif v.ZT f then jN r vs else none
 |_,_=>none
def qh:(l:ax (ay FT))->ax (ay (ax AC))->ay (Hl l)
 |[],[]=>some ()
 |some t::r,some cs::bs=>match JS t cs with|some (x,[])=>(qh r bs).bind λy=>some (x,y)|_=>none
 |none::r,none::bs=>qh r bs
 |_,_=>none
def VU:ax AC->Bool
 |[.ptr 0 0]=>true
 |_=>false
def Rc:(o:IoD)->ax AC->ay (ioD o)
 | .none,[]=>some ()
 | .some t,cs=>match JS t cs with|some (x,[])=>some x|_=>none
 | .ptr,cs=>bif VU cs then some () else none
 |_,_=>none
def SD.dec (d:SD)(st:AS):ay d.D:=
 bif st.ep==0&&st.iss==List.replicate d.slots.length false then
  (jN d.slots st.slots).bind λx=>(qh d.boxes st.boxes).bind λy=>(Rc d.io st.io).bind λz=>some (x,y,z)
 else none
structure Hh where
 sd:SD
 run:{R:Type}->sd.D->(Ex->AS->Option R)->Option R
abbrev lB:=Nat->Hh
def Hh.go {R:Type}(l:Hh)(st:AS)(K:Ex->AS->ay R):ay R:=aa (l.sd.dec st) λx=>l.run x K
def Hh.none:Hh:=⟨⟨[],[],.none⟩,λ_ _=>Option.none⟩
def lB.nil:lB:=λ_=>Hh.none
def lB.add (Λ:lB)(k:Nat)(l:Hh):lB:=λj=>bif j==k then l else Λ j
section
variable {R:Type} (E:Env) (Γ:yk) (an:An)
def AI (o:Oper)(x:Operand)(st:AS)(K:AS->ay R):ay R:=
 match o.dst with
 |some d=>if an.mv.contains d then K ((st.take x).2.put o.dst (st.take x).1) else K (st.put o.dst (st.rd x))
 |none=>none
def tJ (o:Oper)(x:Operand)(st:AS)(K:AS->ay R):ay R:=
 match st.take x with
 |(.val false [.jB],_)=>match E.sl o.type with
  |some e=>K (st.put o.dst (.one (bif akr an o then .jB else .sl (.own none) e [])))
  |none=>none
 |(v,bN)=>K (bN.put o.dst v)
def CV (o:Oper)(c a b:Operand)(st:AS)(K:AS->ay R):ay R:=
 match st.rd c with
 | .val false [.bool t]=>match st.rd a,st.rd b with
   | .val false [.bool x],.val false [.bool y]=>K (st.put o.dst (.one (.bool (cond t x y))))
   |va,vb=>cond t (K (st.put o.dst va)) (K (st.put o.dst vb))
 |_=>none
def AY (o:Oper)(T:TypeId)(st:AS)(K:AS->ay R):ay R:=
 match o.dst,ja E.ty T with
 |some d,some sh=>match nth st.boxes d with
  |some none=>K ((st.eI d (some (cellsOf sh.ct (.own none) sh.ct.zero))).put o.dst (.one (.ptr d 0)))
  |_=>none
 |_,_=>none
def OO (o:Oper)(x:Operand)(st:AS)(K:AS->ay R):ay R:=
 match o.dst,st.take x with
 |some d,(.val _ cs,bN)=>
  match nth bN.boxes d with
  |some none=>if cs.all AC.GN then K ((bN.eI d (some cs)).put o.dst (.one (.ptr d 0))) else none
  |_=>none
 |_,_=>none
def P4 (ep:Nat)(r:ky)(t:Nat)(e:CT)(i:Int):Nat->ax AC->ax AC
 |_,[]=>[]
 |p,.sl _ e' xs::cs=> .sl (.nest ep r t e i p) e' xs::P4 ep r t e i (p+1) cs
 |p,c::cs=>c::P4 ep r t e i (p+1) cs
def ady (o:Oper)(ep:Nat)(fl:qd)(e:CT)(i:Int)(off:Nat)(cs:ax AC):ax AC:=
 match fl,o.dst with
 | .loc _ (some (r,t)),some d=>bif an.nest.contains d then P4 ep r t e i off cs else cs
 |_,_=>cs
def BD (o:Oper)(sh:Shape)(fl:qd)(e:CT)(i:Int)(off:Nat)(st:AS)(K:AS->ay R):ay R:=
 match fl with
 | .loc _ (some (r,t))=>
   match st.eR r with
   |some (.sl (.own (some t')) e' ys)=>
    if h:e'=e then
     if t'=t/\off+sh.ct.size<=e.size then
      aa (idx (h▸ys:ax e.D) i) λy=>K (st.put o.dst (.val sh.agg (((cellsOf e (.loc st.ep none) y).drop off).take sh.ct.size)))
     else none
    else none
   |_=>none
 |_=>none
def wV (o:Oper)(sh:Shape)(fl:qd)(e:CT)(i:Int)(off:Nat)(st:AS)(K:AS->ay R):ay R:=
 match fl with
 | .loc _ (some (r,t))=>
   match st.eR r with
   |some (.sl (.own (some t')) e' ys)=>
    if h:e'=e then
     if t'=t/\off=0/\sh.ct=e then
      aa (idx (h▸ys:ax e.D) i) λy=>K ((st.eV r (.sl (.fi (some t) i (some st.ep)) e (h▸ys))).put o.dst (.val sh.agg (cellsOf e (.own none) y)))
     else none
    else none
   |_=>none
 |_=>none
def oG (o:Oper)(T:TypeId)(p:Operand)(st:AS)(K:AS->ay R):ay R:=
 match ja E.ty T,st.rd p with
 |some sh,.val false [.ptr s off]=>
  match (nth st.boxes s).getD none with
  |some cs=>
   if off+sh.ct.size<=cs.length then
    match o.dst with
    |some d=>
     if an.mv.contains d then
      K ((st.eI s (some (dZ cs off (aU st.ep ((cs.drop off).take sh.ct.size))))).put o.dst (.val sh.agg ((cs.drop off).take sh.ct.size)))
     else K (st.put o.dst (.val sh.agg (iv st.ep (.box s) off ((cs.drop off).take sh.ct.size))))
    |none=>none
   else none
  |none=>none
 |some sh,.val false [.zX fl e x i off]=>
  if De an o then wV o sh fl e i off st K
  else if fl.live st.ep then
   if off+sh.ct.size<=e.size then K (st.put o.dst (.val sh.agg (ady an o st.ep fl e i off (((cellsOf e fl.bare x).drop off).take sh.ct.size)))) else none
  else BD o sh fl e i off st K
 |_,_=>none
def vB (T:TypeId)(p x:Operand)(st:AS)(K:AS->ay R):ay R:=
 match ja E.ty T,st.rd p with
 |some sh,.val false [.ptr s off]=>
  match st.take x with
  |(.val _ vs,bN)=>
   match (nth bN.boxes s).getD none with
   |some cs=>
    if vs.length=sh.ct.size/\vs.all AC.GN then
     if off+sh.ct.size<=cs.length then K (bN.eI s (some (dZ cs off vs))) else none
    else none
   |none=>none
  |_=>none
 |some sh,.val false [.zX (.loc _ (some (r,t))) e _ i off]=>
  match st.take x with
  |(.val _ vs,bN)=>
   if vs.length=sh.ct.size/\off+sh.ct.size<=e.size then bN.oR r t e i off vs K else none
  |_=>none
 |_,_=>none
def yA (o:Oper)(S:TypeId)(p:Operand)(f:Nat)(st:AS)(K:AS->ay R):ay R:=
 match ja E.ty S,st.rd p with
 |some ⟨true,_,jJ⟩,.val false [.ptr s off]=>match nth jJ f with|some (fo,_)=>K (st.put o.dst (.one (.ptr s (off+fo))))|none=>none
 |some ⟨true,_,jJ⟩,.val false [.zX fl e x i off]=>match nth jJ f with|some (fo,_)=>K (st.put o.dst (.one (.zX fl e x i (off+fo))))|none=>none
 |_,_=>none
def mn (o:Oper)(T:TypeId)(x i:Operand)(st:AS)(K:AS->ay R):ay R:=
 match E.sl T,(st.rd x).fresh st,st.rd i with
 |some e',.val false [.sl fl e xs],.val false [.int _ n]=>
  if e'=e/\fl.live st.ep then aa (idx xs n) λy=>K (st.put o.dst (.one (.zX fl e y n 0))) else none
 |_,_,_=>none
def Ad (o:Oper)(T:TypeId)(x i:Operand)(st:AS)(K:AS->ay R):ay R:=
 match st.rd x,st.rd i with
 | .val false [.str s],.val false [.int _ n]=>if E.str T then aa (idx s n) λb=>K (st.put o.dst (.one (.int .u8 b.toNat))) else none
 |_,_=>none
def zV (o:Oper)(T:TypeId)(parts:ax (Nat×Operand))(st:AS)(K:AS->ay R):ay R:=
 match ja E.ty T with
 |some ⟨true,ct,jJ⟩=>
  match eS st (parts.map (·.2))with
  |(vs,bN)=>
   match vg jJ (cellsOf ct (.own none) ct.zero) ((parts.map (·.1)).zip (vs.map AV.cells))with
   |some cs=>K (bN.put o.dst (.val true cs))
   |none=>none
 |_=>none
def lD (o:Oper)(T:TypeId)(len:Nat)(parts:ax (Nat×Operand))(st:AS)(K:AS->ay R):ay R:=
 match E.sl T with
 |some e=>
  if parts.length=len/\Ge 0 parts/\len<=1000 then
   match eS st (parts.map (·.2))with
   |(vs,bN)=>
    match AF e (vs.map AV.cells)with
    |some xs=>K (bN.pw o.dst e xs)
    |none=>none
  else none
 |none=>none
def nZ (o:Oper)(T:TypeId)(n c:Operand)(st:AS)(K:AS->ay R):ay R:=
 match E.sl T,st.rd n,st.rd c with
 |some e,.val false [.int .i64 len],.val false [.int .i64 cap]=>
  if 0<=len/\len<=cap then room cap.toNat (K (st.pw o.dst e (List.replicate len.toNat e.zero))) else none
 |_,_,_=>none
def mD (st:AS)(lo hi:ay Operand)(n:Nat)(K:Int->Int->ay R):ay R:=
 match lo.map st.rd,hi.map st.rd with
 |none,none=>K 0 n
 |some (.val false [.int _ a]),none=>K a n
 |none,some (.val false [.int _ b])=>K 0 b
 |some (.val false [.int _ a]),some (.val false [.int _ b])=>K a b
 |_,_=>none
def vq (o:Oper)(T:TypeId)(x:Operand)(lo hi:ay Operand)(st:AS)(K:AS->ay R):ay R:=
 match st.take x,lo.map st.rd,hi with
 |(.val false [.sl (.own _) e xs],bN),some (.val false [.int _ a]),none=>
  if E.sl T=some e then aa (sub xs a xs.length) λMo=>K (bN.pw o.dst e Mo) else none
 |_,_,_=>none
def Lu (o:Oper)(fl:qd)(a:Int):qd:=
 match fl,o.dst with
 | .loc ep (some (r,t)),some d=>bif an.nest.contains d then .part ep r t a else .loc ep none
 |fl,_=>fl.bare
def yV (o:Oper)(T:TypeId)(x:Operand)(lo hi:ay Operand)(st:AS)(K:AS->ay R):ay R:=
 if De an o then vq E o T x lo hi st K else
 match (st.rd x).fresh st with
 | .val false [.str s]=>if E.str T then mD st lo hi s.length λa b=>aa (sub s a b) λs'=>K (st.put o.dst (.one (.str s'))) else none
 | .val false [.sl fl e xs]=>
   if E.sl T=some e/\fl.live st.ep then mD st lo hi xs.length λa b=>aa (sub xs a b) λMo=>K (st.put o.dst (.one (.sl (Lu an o fl a) e Mo))) else none
 |_=>none
def lF (o:Oper)(src dst:TypeId)(x:Operand)(st:AS)(K:AS->ay R):ay R:=
 match ja E.ty src,ja E.ty dst,st.rd x with
 |some _,some ⟨false,.int k,_⟩,.val false [.int _ n]=>K (st.put o.dst (.one (.int k (k.wrap n))))
 |some ⟨false,.str,_⟩,some ⟨false,.str,_⟩,.val false [.str s]=>K (st.put o.dst (.one (.str s)))
 |some ⟨false,.str,_⟩,some _,.val false [.str s]=>
  if E.bytes dst then room s.length (K (st.pw o.dst (.int .u8) (dk s))) else none
 |some _,some ⟨false,.str,_⟩,.val false [.sl fl (.int .u8) xs]=>
  if E.bytes src/\fl.live st.ep then K (st.put o.dst (.one (.str (aL xs)))) else none
 |_,_,_=>none
def lH (o:Oper)(t i:Nat)(st:AS)(K:AS->ay R):ay R:=
 match st.get t with
 | .uW vs=>match nth vs i with
   |some (g,cs)=>K ((st.put (some t) (.uW (gU vs i (g,aU 0 cs)))).put o.dst (.val g cs))
   |none=>none
 |_=>none
def Lg (o:Oper)(ts:ax TypeId)(args:ax Operand)(st:AS)(K:AS->ay R):ay R:=
 match ts,args.map st.rd with
 |[t],[.val false [.str s]]=>if E.str t then K (st.put o.dst (.one (.int .i64 s.length))) else none
 |[t],[.val false [.sl _ _ xs]]=>if(E.sl t).isSome then K (st.put o.dst (.one (.int .i64 xs.length))) else none
 |_,_=>none
def ML (o:Oper)(args:ax Operand)(st:AS)(K:AS->ay R):ay R:=
 match args.map st.rd with
 |[.val false [.int k x],.val false [.int _ y]]=>K (st.put o.dst (.one (.int k (if y<x then y else x))))
 |_=>none
def MK (o:Oper)(args:ax Operand)(st:AS)(K:AS->ay R):ay R:=
 match args.map st.rd with
 |[.val false [.int k x],.val false [.int _ y]]=>K (st.put o.dst (.one (.int k (if y>x then y else x))))
 |_=>none
def Nc (o:Oper)(ts:ax TypeId)(args:ax Operand)(st:AS)(K:AS->ay R):ay R:=
 match ts,args.map st.rd with
 |[t,t'],[.val false [.sl (.part ep r tg lo) e xs],.val false [.str s]]=>
  match st.eR r with
  |some (.sl (.own (some tg')) e' ys)=>
   if h:e'=.int .u8 then
    if e=.int .u8/\E.sl t=some (.int .u8)/\E.str t'=true/\ep=st.ep/\tg'=tg then
     K ({st.eV r (.sl (.own (some tg)) (.int .u8) (AJ (h▸ys:ax (CT.int .u8).D) lo.toNat (dk (s.take xs.length))))with ep:=st.ep+1}.put o.dst (.one (.int .i64 (min xs.length s.length:Nat))))
    else none
   else none
  |_=>none
 |_,_=>none
def Ds (o:Oper)(S:TypeId)(t f:Nat)(st:AS)(K:AS->ay R):ay R:=
 match ja E.ty S,st.get t,SB E.fts S f with
 |some ⟨true,ct,jJ⟩,.val true cs,some T=>
  match nth jJ f,ja E.ty T with
  |some (fo,n),some sh=>
   if n=sh.ct.size/\cs.length=ct.size/\fo+n<=cs.length then
    K ((st.put (some t) (.val true (dZ cs fo (aU st.ep ((cs.drop fo).take n))))).put o.dst (.val sh.agg ((cs.drop fo).take n)))
   else none
  |_,_=>none
 |_,_,_=>none
def vG (o:Oper)(ts:ax TypeId)(args:ax Operand)(st:AS)(K:AS->ay R):ay R:=
 match ts,args with
 |[t,t'],[s,x]=>
  match st.take s with
  |(.val false [.sl (.own _) e xs],st1)=>
   match st1.take x with
   |(.val false [.sl fl e' ys],st2)=>
    if h:e'=e then
     if E.sl t=some e/\E.sl t'=some e/\fl.qj st.ep e.flat then
      room (xs.length+ys.length) (K (st2.pw o.dst e (xs++(h▸ys:ax e.D))))
     else none
    else none
   |(.val false [.str s],st2)=>
    if h:e=.int .u8 then
     if E.sl t=some e/\E.str t' then room (xs.length+s.length) (K (st2.pw o.dst (.int .u8) ((h▸xs:ax (CT.int .u8).D)++dk s))) else none
    else none
   |_=>none
  |_=>none
 |_,_=>none
def Nu:Nat->ax AC->ay (ky×Nat)
 |_,[]=>none
 |j,.sl (.loc _ (some (r,_))) _ _::_=>some (r,j)
 |j,_::cs=>Nu (j+1) cs
def ky.pos:ky->Nat
 | .slot _ j=>j
 | .box _ j=>j
 | .io j=>j
def AS.Gu (st:AS):ky->ay (ax AC)
 | .slot s _=>match st.get s with| .val _ cs=>some cs|_=>none
 | .box s _=>(nth st.boxes s).getD none
 | .io _=>some st.io
def AS.C3 (st:AS)(r:ky)(cs:ax AC):AS:=
 match r with
 | .slot s _=>match st.get s with| .val g _=>st.put (some s) (.val g cs)|_=>st
 | .box s _=>st.eI s (some cs)
 | .io _=>{st with io:=cs}
def np:ax AC->ax AC->ay (ax AC)
 |[],[]=>some []
 | .sl (.loc _ (some (_,t))) _ _::os,.sl (.own (some t')) e xs::ss=>bif t'==t then(np os ss).bind λr=>some (.sl (.own none) e xs::r) else none
 | .int k n::os,.int _ _::ss=>(np os ss).bind λr=>some (.int k n::r)
 | .bool b::os,.bool _::ss=>(np os ss).bind λr=>some (.bool b::r)
 | .str x::os,.str _::ss=>(np os ss).bind λr=>some (.str x::r)
 |_,_=>none
def AV.jo:AV->Bool
 | .val _ cs=>cs.all AC.jo
 | .uW vs=>vs.all λx=>x.2.all AC.jo
def OS (st:AS)(x:Operand):ay (AV×AS):=
 match st.rd x with
 | .val g cs=>
   match Nu 0 cs with
   |some (r,j)=>
    match st.Gu r with
    |some Xq=>
     match np cs ((Xq.drop (r.pos-j)).take cs.length)with
     |some qg=>some (.val g qg,st.C3 r (dZ Xq (r.pos-j) (aU st.ep ((Xq.drop (r.pos-j)).take cs.length))))
     |none=>none
    |none=>none
   |none=>none
 |_=>none
def NV (o:Oper)(x:Operand)(st:AS)(K:AS->ay R):ay R:=
 match OS st x with
 |some (v,bN)=>K (bN.put o.dst v)
 |none=>none
def vC (T:TypeId)(p x:Operand)(st:AS)(K:AS->ay R):ay R:=
 match ja E.ty T,st.rd p with
 |some sh,.val false [.ptr s off]=>
  match OS st x with
  |some (.val _ vs,bN)=>
   match (nth bN.boxes s).getD none with
   |some cs=>
    if vs.length=sh.ct.size/\vs.all AC.GN then
     if off+sh.ct.size<=cs.length then K (bN.eI s (some (dZ cs off vs))) else none
    else none
   |none=>none
  |_=>none
 |_,_=>none
def AC.strip:AC->AC
 | .sl (.own _) e xs=> .sl (.own none) e xs
 | .sl (.loc _ _) _ _=> .bot
 | .sl (.nest ..) _ _=> .bot
 | .sl (.part ..) _ _=> .bot
 | .sl (.fi _ i _) e xs=> .sl (.fi none i none) e xs
 | .ptr _ _=> .bot
 | .zX _ _ _ _ _=> .bot
 |c=>c
def AC.afF:AC->Bool
 | .sl (.own _) _ _=>true
 |c=>c.jo
def AC.xv (k:Bool):AC->Bool
 | .sl (.own _) _ _=>true
 | .sl (.arg k') _ _=>k'==k
 |c=>c.jo
def AC.Qy:AC->AC
 | .sl (.own _) e xs=> .sl (.own none) e xs
 | .sl (.arg _) e xs=> .sl (.arg true) e xs
 |c=>c.strip
def AC.ahi (k:Bool)(tag:ay Nat):AC->AC
 | .sl (.own _) e xs=> .sl (.own tag) e xs
 | .sl (.arg _) e xs=> .sl (.arg k) e xs
 |c=>c
def oY (k:Bool)(mk:Nat->ay Nat):Nat->ax AC->ax AC
 |_,[]=>[]
 |j,c::cs=>c.ahi k (mk j)::oY k mk (j+1) cs
def BO (cs:ax AC):Bool:=cs.any λc=>match c with| .sl (.arg k) _ _=>k|_=>false
def AC.Hk:AC->Bool
 | .sl (.arg k) _ _=> !k
 |c=>c.jo
def AV.Hk:AV->Bool
 | .val _ cs=>cs.all AC.Hk
 | .uW _=>false
def AS.MJ (st:AS):AC->AC
 | .sl (.own _) e xs=> .sl (.arg false) e xs
 | .sl (.arg _) e xs=> .sl (.arg false) e xs
 | .sl (.loc _ (some (.slot b j,t))) _ _=>match st.eR (.slot b j)with
   |some (.sl (.own (some t')) e' ys)=>if t'=t then .sl (.arg false) e' ys else .bot
   |_=> .bot
 | .int k n=> .int k n
 | .bool b=> .bool b
 | .str s=> .str s
 | .fn f=> .fn f
 |_=> .bot
def zF (st:AS):Operand->AV
 | .tmp t=>(match st.get t with| .val g cs=> .val g (cs.map st.MJ)|v=>v)
 |x=>st.rd x
def AE (st:AS):Operand->Bool
 | .tmp t=>(match st.get t with| .val _ cs=>(cs.map st.MJ).all AC.Hk|_=>false)
 |x=>(st.rd x).jo
def AC.aah:AC->Bool
 | .sl (.own _) _ _=>true
 |c=>c.jo
def AV.aah:AV->Bool
 | .val _ cs=>cs.all AC.aah
 | .uW vs=>vs.all λx=>x.2.all AC.aah
def Xm (st:AS)(s:Nat)(cs:ax AC):AS:={(st.eI s (some cs)).fz (some s)with ep:=st.ep+1}
def tK (o:Oper)(f:Nat)(args:ax Operand)(st:AS)(K:AS->ay R):ay R:=
 match args with
 |x0::xs=>
  match st.rd x0 with
  | .val false [.ptr s 0]=>
    match (nth st.boxes s).getD none with
    |some cs=>
     bif cs.all (AC.xv (BO cs))&&xs.all (AE st) then
      aa ((Γ f).fn (.val true (cs.map AC.Qy)::xs.map (zF st))) λy=>
       bif ((Γ f).back y).all (AC.xv true)&&((Γ f).av y).aah then
        bif (Γ f).cur&&cs.all AC.Fx then
         K (((st.eI s (some (oY (BO cs) (λ_=>none) 0 ((Γ f).back y)))).fz o.dst).put o.dst (((Γ f).av y).BP st.ep (st.hZ o.dst)))
        else
        K (((Xm st s (oY (BO cs) (st.hZ (some s)) 0 ((Γ f).back y))).fz o.dst).put o.dst
          (((Γ f).av y).BP (st.ep+1) ((Xm st s (oY (BO cs) (st.hZ (some s)) 0 ((Γ f).back y))).hZ o.dst)))
       else none
     else none
    |none=>none
  |_=>none
 |[]=>none
def aai (o:Oper)(f:Nat)(args:ax Operand)(st:AS)(K:AS->ay R):ay R:=
 match o.dst with
 |some d=>
  match nth st.boxes d with
  |some none=>
   bif args.all (λx=>(st.rd x).Hk) then
    aa ((Γ f).fn (args.map st.rd)) λy=>
     bif ((Γ f).back y).all AC.Hk then K ((st.eI d (some ((Γ f).back y))).put (some d) (.one (.ptr d 0))) else none
   else none
  |_=>none
 |none=>none
def BR (o:Oper)(f:Operand)(args:ax Operand)(st:AS)(K:AS->ay R):ay R:=
 match st.rd f with
 | .val false [.fn f]=>
   bif (Γ f).bx then tK Γ o f args st K else
   bif (Γ f).pr then aai Γ o f args st K else
   bif (Γ f).io then none
   else aa ((Γ f).fn (args.map λx=>((st.rd x).fresh st).asArg st.ep)) λr=>cond ((Γ f).sel r) (K ((st.fz o.dst).put o.dst (((Γ f).av r).BP st.ep (st.hZ o.dst)))) (K ((st.fz o.dst).put o.dst (((Γ f).alt r).BP st.ep (st.hZ o.dst))))
 |_=>none
def BS {R:Type}(op:BinOp)(b:Bool)(K:AC->ay R):ay R:=
 match op with
 | .eql=>K (.bool b)
 | .neq=>K (.bool (!b))
 |_=>none
def zj (o:Oper)(op:BinOp)(T:TypeId)(x y:Operand)(st:AS)(K:AS->ay R):ay R:=
 match st.rd x,st.rd y with
 | .val false [.bool a],.val false [.bool b]=>if E.bool T then DY op (.one (.bool a)) (.one (.bool b)) λc=>K (st.put o.dst (.one c)) else none
 | .val true xs,.val true ys=>match NY E.eqs T with
   |some ls=>if fits ls xs then DY op (.val true xs) (.val true ys) λc=>K (st.put o.dst (.one c)) else none
   |none=>none
 | .val false [.sl fl _ xs],.val false [.jB]=>if(E.sl T).isSome/\fl.live st.ep then(if xs.length=0 then none else BS op false λc=>K (st.put o.dst (.one c))) else none
 | .val false [.jB],.val false [.jB]=>if(E.sl T).isSome then BS op true λc=>K (st.put o.dst (.one c)) else none
 |a,b=>DY op a b λc=>K (st.put o.dst (.one c))
def da (o:Oper)(st:AS)(K:AS->ay R):ay R:=
 match o.op with
 | .move x=>AI an o x st K
 | .assign x=>if yN an o then NV o x st K else tJ E an o x st K
 | .pick c a b=>CV o c a b st K
 | .alloc T=>AY E o T st K
 | .box _ x=>OO o x st K
 | .load T p=>oG E an o T p st K
 | .store T p x=>match o.dst with|none=>(if yN an o then vC E T p x st K else vB E T p x st K)|some _=>none
 | .nilCheck x=>
   match st.rd x with
   | .val false [.ptr s off]=>K (st.put o.dst (.one (.ptr s off)))
   | .val false [.zX fl e y i off]=>K (st.put o.dst (.one (.zX fl e y i off)))
   |_=>none
 | .binOp op T x y _=>zj E o op T x y st K
 | .unOp op _ x=>unC op (st.rd x) λc=>K (st.put o.dst (.one c))
 | .fieldAddr S p f=>yA E o S p f st K
 | .indexAddr T x i=>mn E o T x i st K
 | .index T x i=>Ad E o T x i st K
 | .build T parts=>zV E o T parts.toList st K
 | .buildSlice T len parts=>lD E o T len parts.toList st K
 | .makeSlice T n c=>nZ E o T n c st K
 | .slice T x lo hi none=>yV E an o T x lo hi st K
 | .field S (.tmp t) f=>Ds E o S t f st K
 | .call {callee:=.builtin .copy,args,argTypes}=>Nc E o argTypes.toList args.toList st K
 | .convert src dst x=>lF E o src dst x st K
 | .extract (.tmp t) i=>lH o t i st K
 | .call {callee:=.builtin .len,args,argTypes}=>Lg E o argTypes.toList args.toList st K
 | .call {callee:=.builtin .min,args,..}=>ML o args.toList st K
 | .call {callee:=.builtin .max,args,..}=>MK o args.toList st K
 | .call {callee:=.builtin .append,args,argTypes}=>vG E o argTypes.toList args.toList st K
 | .call {callee:=.value f,args,..}=>BR Γ o f args.toList st K
 |_=>none
def gu (ops:ax Oper)(o:Oper)(st:AS)(K:AS->ay R):ay R:=
 match o.guard with
 |none=>da E Γ an o st K
 |some (j,Fg)=>
  match (nth ops j).bind (·.dst)with
  |some d=>
   match st.get d with
   | .val false [.bool b]=>
     let go (t:Bool):ay R:=
      if t==Fg then da E Γ an o (st.put (some d) (.one (.bool t))) K else K ((st.put (some d) (.one (.bool t))).put o.dst (.one .un))
     cond b (go true) (go false)
   | .val false [.un]=>K (st.put o.dst (.one .un))
   |_=>none
  |none=>none
def P6 (ops:ax Oper):ax Oper->AS->(AS->ay R)->ay R
 |[],st,K=>K st
 |o::r,st,K=>gu E Γ an ops o st λbN=>P6 ops r bN K
def ec:Code->Nat
 | .region id _ _=>id
 | .seq a _=>ec a
 | .block _ c=>ec c
 | .loop c=>ec c
 | .cond _ a b=>match ec a with|0=>ec b|n=>n
 |_=>0
def Cj (c:Code):Nat:=1000000+2*ec c
def kL (l:fy):Code->ax Code
 | .seq a b=>kL l a++(bif l.contains (ec b) then b::kL l b else kL l b)
 | .cond _ a b=>kL l a++kL l b
 | .block _ c=>kL l c
 | .loop c=>kL l c
 |_=>[]
def tL (l:fy)(fn:Func)(k:Nat):Code:=(nth (kL l (fn.body.getD .skip)) k).getD .skip
def ig:Code->ax Code
 | .seq a b=>ig a++ig b
 | .cond _ a b=>ig a++ig b
 | .block _ c=>ig c
 | .loop c=>c::ig c
 |_=>[]
def cL (fn:Func)(k:Nat):Code:=(nth (ig (fn.body.getD .skip)) k).getD .skip
def XU (j:Nat):Nat:=3*(4096*1000003+j)
def ky.C9:ky->ay Nat
 | .slot s j=>bif Nat.ble 4096 j then none else bif Nat.ble 1000000 s then none else some (3*(4096*s+j))
 | .box s j=>bif Nat.ble 4096 j then none else some (3*(4096*s+j)+1)
 | .io j=>bif Nat.ble 4096 j then none else some (XU j)
def AC.adm (io:ax AC)(j t:Nat)(e:CT):ay (ax e.D):=
 match nth io j with
 |some (.sl (.own (some t')) e' ys)=>if h:e'=e then bif t'==t then some (h▸ys) else none else none
 |_=>none
def AC.mask (keep:fy)(ep:Nat)(io:ax AC)(rt:ky):AC->AC
 | .ptr s off=>if keep.contains s then .ptr s off else .bot
 | .sl (.loc e pv) t xs=>
   match pv with
   |some (.io j,n)=>match AC.adm io j n t with
    |some ys=> .sl (.loc 0 ((ky.C9 (.io j)).map λq=>(.io j,q))) t ys
    |none=>if e==ep then .sl (.loc 0 none) t xs else .bot
   |_=>if e==ep then .sl (.loc 0 none) t xs else .bot
 | .sl (.own _) t xs=> .sl (.own rt.C9) t xs
 | .sl (.nest ..) _ _=> .bot
 | .sl (.part ..) _ _=> .bot
 | .sl (.fi _ i _) e xs=> .sl (.fi none i none) e xs
 | .zX _ _ _ _ _=> .bot
 |c=>c
def HL (keep:fy)(ep:Nat)(io:ax AC)(f:Nat->ky):Nat->ax AC->ax AC
 |_,[]=>[]
 |j,c::cs=>c.mask keep ep io (f j)::HL keep ep io f (j+1) cs
def AV.mask (keep:fy)(ep:Nat)(io:ax AC)(s:Nat):AV->AV
 | .val g cs=> .val g (HL keep ep io (.slot s) 0 cs)
 | .uW _=> .bot
def nj (keep:fy)(ep:Nat)(io:ax AC):Nat->ax AV->ax AV
 |_,[]=>[]
 |i,v::r=>(if keep.contains i then v.mask keep ep io i else .bot)::nj keep ep io (i+1) r
def ni (keep:fy)(ep:Nat)(io:ax AC):Nat->ax (ay (ax AC))->ax (ay (ax AC))
 |_,[]=>[]
 |i,b::r=>(if keep.contains i then b.map (HL keep ep io (.box i) 0) else none)::ni keep ep io (i+1) r
def Wb (keep:fy):Nat->ax AC->ax AC
 |_,[]=>[]
 |j,c::cs=>(match c with| .sl (.own _) e xs=> .sl (.own (ky.C9 (.io j))) e xs| .sl (.fi _ i _) e xs=> .sl (.fi none i none) e xs| .ptr s off=>if keep.contains s then .ptr s off else .bot|c=>bif c.jo then c else .bot)::Wb keep (j+1) cs
def AS.mask (keep:fy)(st:AS):AS:=
 ⟨nj keep st.ep st.io 0 st.slots,ni keep st.ep st.io 0 st.boxes,0,List.replicate st.slots.length false,Wb keep 0 st.io⟩
def getBool (st:AS)(s:Nat):ay Bool:=
 match st.get s with
 | .val false [.bool b]=>some b
 |_=>none
def gz (an:An)(ds:fy)(o:Oper):Bool:=
 match o.op with
 | .assign (.const _)=> !yN an o
 | .assign (.tmp t)=>ds.contains t&& !yN an o
 | .move _| .load ..=>match o.dst with|some d=> !an.mv.contains d|none=>false
 | .slice ..=> !De an o
 | .pick ..| .binOp ..| .unOp ..| .fieldAddr ..| .indexAddr ..| .index ..| .nilCheck _=>true
 | .build _ ps=>ps.isEmpty
 | .call {callee:=.builtin .len,..}| .call {callee:=.builtin .min,..}| .call {callee:=.builtin .max,..}=>true
 | .call {callee:=.value _,..}=>true
 |_=>false
def EJ (ops:ax Oper):fy:=ops.filterMap (·.dst)
def AS.zy (st:AS):fy->AS
 |[]=>st
 |d::r=>((st.put (some d) .bot).fz (some d)).zy r
def D5 (ops:ax Oper)(A:ax fy):Nat->ax Oper->AS->(AS->ay R)->ay R
 |_,[],st,K=>K st
 |i,o::r,st,K=>bif dv E an (rF an A i 0 ops) o st then gu E Γ an ops o st λbN=>D5 ops A (i+1) r bN K else none
def Cr (ops:ax Oper)(draw:Bool)(st:AS)(K:AS->ay R):ay R:=
 bif draw then(bif Re an ops then D5 E Γ.Fb an ops (QT ops []) 0 ops st K else none) else P6 E Γ an ops ops st K
def Qd (id:Nat)(ops:ax Oper)(draw:Bool)(st:AS)(K:AS->ay R):ay R:=
 match an.merge id with
 |none=>Cr E Γ an ops draw st K
 |some s=>
  if ops.all (gz an (EJ ops)) then
   aa (Cr E Γ.calm an ops draw st λbN=>getBool bN s) λb=>K ((st.zy (EJ ops)).put (some s) (.one (.bool b)))
  else none
def zG (key:fy)(B:AS->(Ex->AS->ay R)->ay R):Nat->AS->(Ex->AS->ay R)->ay R
 |0,_,_=>none
 |m+1,st,K=>B st λe bN=>
  match e with
  | .normal=>zG key B m (bN.mask key) K
  |e=>K e (bN.mask key)
def den (Λ:lB):Code->AS->(Ex->AS->ay R)->ay R
 | .skip,st,K=>K .normal st
 | .region id ops draw,st,K=>Qd E Γ an id ops.toList draw st (K .normal)
 | .seq a b,st,K=>den Λ a st λe bN=>match e with
   | .normal=>bif an.cut.contains (ec b) then(Λ (Cj b)).go (bN.mask (an.mask (Cj b))) K else den Λ b bN K
   |e=>K e bN
 | .cond c a b,st,K=>
   match st.rd c with
   | .val false [.bool t]=>cond t (den Λ a st K) (den Λ b st K)
   |_=>none
 | .block id c,st,K=>den Λ c st λe bN=>
   match e with
   | .exit j=>if j==id then K .normal bN else K (.exit j) bN
   |e=>K e bN
 | .loop c,st,K=>
   bif an.peel.contains (ec c) then den Λ c (st.mask (an.mask (ec c))) λe bN=>
    match e with
    | .normal=>(Λ (ec c)).go (bN.mask (an.mask (ec c))) K
    |e=>K e (bN.mask (an.mask (ec c)))
   else(Λ (ec c)).go (st.mask (an.mask (ec c))) K
 | .exit id,st,K=>K (.exit id) st
 | .ret,st,K=>K .ret st
 |_,_,_=>none
end
def LF (st:AS)(E:Env):ResultVar->ay ((Bool×Nat)×Bool×ax AC)
 | .tmp t=>match st.get t with| .val g cs=>some ((false,t),g,cs.map AC.strip)|_=>none
 | .cell t T=>match ja E.ty T,st.get t with
   |some sh,.val false [.ptr s off]=>((nth st.boxes s).getD none).bind λcs=>
    if off+sh.ct.size<=cs.length then some ((true,s),sh.agg,((cs.drop off).take sh.ct.size).map AC.strip) else none
   |_,_=>none
def rC (st:AS)(E:Env):ax (Bool×Nat)->ax ResultVar->ay (ax (Bool×ax AC))
 |_,[]=>some []
 |had,r::rs=>(LF st E r).bind λx=>if had.contains x.1 then none else(rC st E (x.1::had) rs).bind λxs=>some (x.2::xs)
def results (E:Env)(rs:ax ResultVar)(st:AS):ay AV:=
 match rC st E [] rs with
 |some [(g,cs)]=>some (.val g cs)
 |some vs=>some (.uW vs)
 |none=>none
def start (fn:Func)(args:ax AV):AS:=⟨args++List.replicate (fn.ntmps-args.length) .bot,List.replicate (args.length+(fn.ntmps-args.length)) none,0,List.replicate fn.ntmps false,[]⟩
abbrev kG:ax (Bool×FT)->Type
 |[]=>Unit
 |[(_,t)]=>t.ct.D
 |(_,t)::r=>t.ct.D×kG r
def lu:(l:ax (Bool×FT))->ax (Bool×ax AC)->ay (kG l)
 |[],[]=>some ()
 |[(g,t)],[(g',cs)]=>bif g==g' then(match JS t cs with|some (x,[])=>some x|_=>none) else none
 |(g,t)::p::r,(g',cs)::vs=>bif g==g' then(match JS t cs with|some (x,[])=>(lu (p::r) vs).bind λy=>some (x,y)|_=>none) else none
 |_,_=>none
def aiG:(l:ax (Bool×FT))->kG l->ax (Bool×ax AC)
 |[],_=>[]
 |[(g,t)],x=>[(g,jm t x)]
 |(g,t)::p::r,x=>(g,jm t x.1)::aiG (p::r) x.2
def yw (l:ax (Bool×FT))(x:kG l):AV:=
 match aiG l x with
 |[(g,cs)]=> .val g cs
 |vs=> .uW vs
def Cs (E:Env)(Γ:yk)(an:An)(Λ:lB)(fn:Func)(rs:ax (Bool×FT))(args:ax AV):ay (kG rs):=
 match fn.body with
 |some c=>if args.length=fn.params.size then den E Γ an Λ c (start fn args) λe st=>
  match e with
  | .exit _=>none
  |_=>aa (rC st E [] fn.results.toList) (lu rs)
  else none
 |none=>none
def evalAlt (E:Env)(Γ:yk)(an:An)(Λ:lB)(fn:Func)(rs Mn:ax (Bool×FT))(h:kG Mn=kG rs)(args:ax AV):ay (Bool×kG rs):=
 match fn.body with
 |some c=>if args.length=fn.params.size then den E Γ an Λ c (start fn args) λe st=>
  match e with
  | .exit _=>none
  |_=>aa (rC st E [] fn.results.toList) λys=>
   match lu rs ys with
   |some y=>some (true,y)
   |none=>match lu Mn ys with
    |some y=>some (false,cast h y)
    |none=>none
  else none
 |none=>none
def FA:Nat->ax AC->ax AC
 |_,[]=>[]
 |j,.sl (.own _) e xs::cs=> .sl (.own (some (3*j+1))) e xs::FA (j+1) cs
 |j,c::cs=>c::FA (j+1) cs
def yX (fn:Func)(cs:ax AC)(args:ax AV):AS:=
 {start fn (.one (.ptr 0 0)::args)with boxes:=some (FA 0 cs)::List.replicate (args.length+(fn.ntmps-(args.length+1))) none,io:=[.ptr 0 0]}
def XC (E:Env)(Γ:yk)(an:An)(Λ:lB)(fn:Func)(rs:ax (Bool×FT))(t:FT)(args:ax AV):ay (kG rs×t.ct.D):=
 match fn.body,args with
 |some c,.val true cs::xs=>if xs.length+1=fn.params.size/\cs.all (AC.xv true)=true then den E Γ an Λ c (yX fn cs xs) λe st=>
  match e with
  | .exit _=>none
  |_=>aa (aa (rC st E [(true,0)] fn.results.toList) (lu rs)) λr=>
   match st.io,st.boxes with
   |[.ptr 0 0],some qg::_=>match JS t (qg.map AC.strip)with
    |some (x,[])=>some (r,x)
    |_=>none
   |_,_=>none
  else none
 |_,_=>none
def Pk (E:Env)(Γ:yk)(an:An)(Λ:lB)(fn:Func)(t:FT)(args:ax AV):ay t.ct.D:=
 match fn.body with
 |some c=>if args.length=fn.params.size then den E Γ an Λ c (start fn args) λe st=>
  match e with
  | .exit _=>none
  |_=>match fn.results.toList with
   |[.tmp i]=>match st.get i with
    | .val false [.ptr s 0]=>match (nth st.boxes s).getD none with
      |some cs=>if cs.all AC.Hk=true then(match JS t (cs.map AC.strip)with|some (x,[])=>some x|_=>none) else none
      |none=>none
    |_=>none
   |_=>none
  else none
 |none=>none
end Go.Dn
