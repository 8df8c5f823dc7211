import Derived.Test.YthllnaiaikjelaaGreatDnData
/- An abstract, heap-free semantics of the model's code, for functions that treat their data by value: definitions. -/
namespace Go.Dn
inductive lS where
 |slot (s j:Nat)|box (s j:Nat)|io (j:Nat)
 deriving DecidableEq
inductive uv where
 |own (tag:Option Nat)
 |loc (ep:Nat) (pv:Option (lS×Nat))
 |arg (k:Bool)
 |nest (ep:Nat) (r:lS) (t:Nat) (e:CT) (i:Int) (off:Nat)
 |part (ep:Nat) (r:lS) (t:Nat) (lo:Int)
 |fK (tag:Option Nat) (i:Int) (ep:Option Nat)
inductive AC where
 |int (k:IntKind) (n:Int)|bool (b:Bool)|str (s:List UInt8)
 |sl (fl:uv) (e:CT) (xs:List e.D)
 |kL
 |ptr (s off:Nat)
 |Hy (fl:uv) (e:CT) (x:e.D) (i:Int) (off:Nat)
 |fn (f:Nat)
 |un
 |bot
inductive AV where
 |val (agg:Bool) (cs:List AC)
 |zU (vs:List (Bool×List AC))
abbrev AV.one (c:AC):AV:=.val false [c]
abbrev AV.bot:AV:=.val false [.bot]
structure AS where
 slots:List AV
 boxes:List (Option (List AC))
 ep:Nat
 iss:List Bool
 io:List AC
structure Shape where
 agg:Bool
 ct:CT
 lA:List (Nat×Nat):=[]
structure An where
 mask:Nat->List Nat:=λ_=>[]
 merge:Nat->Option Nat:=λ_=>none
 mv:List Nat:=[]
 nest:List Nat:=[]
 mb:Nat->Option Nat:=λ_=>none
 sb:Nat->Option Nat:=λ_=>none
 late:List Nat:=[]
 peel:List Nat:=[]
 nils:List Nat:=[]
 fm:List Nat:=[]
 eb:Nat->Option Nat:=λ_=>none
 es:Nat->Option Nat:=λ_=>none
 er:Nat->Option Nat:=λ_=>none
 cut:List Nat:=[]
def cellsOf:(t:CT)->uv->t.D->ar AC
 | .int k,_,n=>[.int k n]
 | .bool,_,b=>[.bool b]
 | .str,_,s=>[.str s]
 | .sl e,fl,xs=>[.sl fl e xs]
 | .pair a b,fl,x=>cellsOf a fl x.1++cellsOf b fl x.2
def jM:(t:CT)->ar AC->au (t.D×ar AC)
 | .int k,.int k' n::r=>if k'=k then some (n,r) else none
 | .bool,.bool b::r=>some (b,r)
 | .str,.str s::r=>some (s,r)
 | .sl e,.sl (.own _) e' xs::r=>if h:e'=e then some (h▸xs,r) else none
 | .sl _,.kL::r=>some ([],r)
 | .pair a b,cs=>(jM a cs).bind λx=>(jM b x.2).bind λy=>some ((x.1,y.1),y.2)
 |_,_=>none
def nth {α:Type}:ar α->Nat->au α
 |[],_=>none
 |a::_,0=>some a
 |_::l,n+1=>nth l n
def iO {α:Type}:ar α->Nat->α->ar α
 |[],_,_=>[]
 |_::l,0,v=>v::l
 |a::l,n+1,v=>a::iO l n v
def AS.get (st:AS)(i:Nat):AV:=(nth st.slots i).getD .bot
def AS.put (st:AS)(d:au Nat)(v:AV):AS:=
 match d with
 |some d=>{st with slots:=iO st.slots d v}
 |none=>st
def QO (d j:Nat):Nat:=3*(4096*d+j)+2
def AS.iZ (st:AS)(d:au Nat)(j:Nat):au Nat:=
 match d with
 |some d=>bif (nth st.iss d).getD true then none else bif Nat.ble 4096 j then none else some (QO d j)
 |none=>none
def AS.fQ (st:AS)(d:au Nat):AS:=
 match d with
 |some d=>{st with iss:=iO st.iss d true}
 |none=>st
def AS.ti (st:AS)(d:au Nat)(e:CT)(xs:ar e.D):AS:=
 (st.fQ d).put d (.one (.sl (.own (st.iZ d 0)) e xs))
def AC.borrow (ep:Nat)(rt:au lS):AC->AC
 | .sl (.own tag) e xs=> .sl (.loc ep (match rt,tag with|some r,some t=>some (r,t)|_,_=>none)) e xs
 | .sl (.fK tag _ (some UC)) e xs=> .sl (.loc UC (match rt,tag with|some r,some t=>some (r,t)|_,_=>none)) e xs
 | .sl (.fK _ _ none) _ _=> .bot
 |c=>c
def jj (ep:Nat)(f:Nat->lS):Nat->ar AC->ar AC
 |_,[]=>[]
 |j,c::cs=>c.borrow ep (some (f j))::jj ep f (j+1) cs
def bc (ep:Nat)(cs:ar AC):ar AC:=cs.map (AC.borrow ep none)
def AV.borrow (ep:Nat)(f:Nat->lS):AV->AV
 | .val g cs=> .val g (jj ep f 0 cs)
 | .zU vs=> .zU (vs.map λx=>(x.1,bc ep x.2))
def AV.bc (ep:Nat):AV->AV
 | .val g cs=> .val g (Dn.bc ep cs)
 | .zU vs=> .zU (vs.map λx=>(x.1,Dn.bc ep x.2))
def ofConst:Value->AV
 | .int k n=> .one (.int k n)
 | .bool b=> .one (.bool b)
 | .string s=> .one (.str s.data.toList)
 | .slice none 0 0=> .one .kL
 |_=> .bot
def AS.rd (st:AS):Operand->AV
 | .tmp t=>(st.get t).borrow st.ep (.slot t)
 | .const v=>ofConst v
 | .func f=> .one (.fn f)
 | .global _=> .bot
def AS.take (st:AS):Operand->AV×AS
 | .tmp t=>(st.get t,st.put (some t) ((st.get t).bc st.ep))
 |x=>(st.rd x,st)
def AS.eY (st:AS)(s:Nat)(b:au (ar AC)):AS:={st with boxes:=iO st.boxes s b}
def AC.asArg (ep:Nat):AC->AC
 | .int k n=> .int k n
 | .bool b=> .bool b
 | .str s=> .str s
 | .sl (.own _) e xs=> .sl (.arg false) e xs
 | .sl (.loc ep' _) e xs=>if ep'==ep then .sl (.arg false) e xs else .bot
 | .sl (.arg _) e xs=> .sl (.arg false) e xs
 | .kL=> .kL
 | .fn f=> .fn f
 |_=> .bot
def AV.asArg (ep:Nat):AV->AV
 | .val g cs=> .val g (cs.map (AC.asArg ep))
 | .zU _=> .bot
def AC.KR (ep:Nat)(tag:au Nat):AC->AC
 | .sl (.own _) e xs=> .sl (.own tag) e xs
 | .sl (.arg _) e xs=> .sl (.loc ep none) e xs
 | .sl (.loc _ _) _ _=> .bot
 | .sl (.nest ..) _ _=> .bot
 | .sl (.part ..) _ _=> .bot
 | .sl (.fK _ i _) e xs=> .sl (.fK none i none) e xs
 | .ptr _ _=> .bot
 | .Hy _ _ _ _ _=> .bot
 |c=>c
def Qq (ep:Nat)(mk:Nat->au Nat):Nat->ar AC->ar AC
 |_,[]=>[]
 |j,c::cs=>c.KR ep (mk j)::Qq ep mk (j+1) cs
def af9 (ep:Nat)(mk:Nat->au Nat):Nat->ar (Bool×ar AC)->ar (Bool×ar AC)
 |_,[]=>[]
 |j,t::ts=>(t.1,Qq ep mk j t.2)::af9 ep mk (j+t.2.length) ts
def AV.KR (ep:Nat)(mk:Nat->au Nat):AV->AV
 | .val g cs=> .val g (Qq ep mk 0 cs)
 | .zU vs=> .zU (af9 ep mk 0 vs)
def AC.Ph:AC->Bool
 | .sl (.arg _) _ _=>true
 | .int ..=>true
 | .bool _=>true
 | .str _=>true
 | .fn _=>true
 |_=>false
structure Ez where
 R:Type
 fn:List AV->Option R
 av:R->AV
 io:Bool:=false
 back:R->List AC:=λ_=>[]
 bx:Bool:=false
 pr:Bool:=false
 sel:R->Bool:=λ_=>true
 alt:R->AV:=λ_=> .val false [.bot]
 cur:Bool:=false
 hcur:cur=true->∀y,(back y).all AC.Ph=true:=by intro h;cases h
def Ez.res (F:Ez)(y:F.R):AV:=cond (F.sel y) (F.av y) (F.alt y)
abbrev Ci:=Nat->Ez
def Ez.dead:Ez:={R:=Unit,fn:=λ_=>none,av:=λ_=> .val false [.bot]}
def Ci.calm (Γ:Ci):Ci:=λf=>bif (Γ f).io||(Γ f).bx||(Γ f).pr then Ez.dead else Γ f
def Ci.O5 (Γ:Ci):Ci:=λf=>bif (Γ f).io||(Γ f).pr||((Γ f).bx&& !(Γ f).cur) then Ez.dead else Γ f
def Qc {R:Type}(op:BinOp)(k:IntKind)(x y:Int)(K:AC->au R):au R:=
 match op with
 | .add=>K (.int k (k.wrap (x+y)))
 | .sub=>K (.int k (k.wrap (x-y)))
 | .mul=>K (.int k (k.wrap (x*y)))
 | .quo=>if y=0 then none else K (.int k (k.wrap (x.tdiv y)))
 | .rem=>if y=0 then none else K (.int k (x.tmod y))
 | .and=>K (.int k (k.wrap (BitVec.ofInt k.bits x&&&BitVec.ofInt k.bits y).toNat))
 | .or=>K (.int k (k.wrap (BitVec.ofInt k.bits x|||BitVec.ofInt k.bits y).toNat))
 | .xor=>K (.int k (k.wrap (BitVec.ofInt k.bits x^^^BitVec.ofInt k.bits y).toNat))
 | .andNot=>K (.int k (k.wrap (BitVec.ofInt k.bits x&&&~~~ BitVec.ofInt k.bits y).toNat))
 | .eql=>K (.bool (x==y))
 | .neq=>K (.bool (x !=y))
 | .lss=>K (.bool (decide (x<y)))
 | .leq=>K (.bool (decide (x<=y)))
 | .gtr=>K (.bool (decide (x>y)))
 | .geq=>K (.bool (decide (x>=y)))
 |_=>none
def S2 {R:Type}(op:BinOp)(x y:ar UInt8)(K:AC->au R):au R:=
 match op with
 | .add=>room (x.length+y.length) (K (.str (x++y)))
 | .eql=>K (.bool (x==y))
 | .neq=>K (.bool (!(x==y)))
 | .lss=>K (.bool (Op.bytesLess x y))
 | .leq=>K (.bool (Op.bytesLess x y||x==y))
 | .gtr=>K (.bool (!(Op.bytesLess x y||x==y)))
 | .geq=>K (.bool (!(Op.bytesLess x y)))
 |_=>none
def Ac:ar AC->ar AC->au Bool
 |[],[]=>some true
 | .int k x::r,.int k' y::r'=>if k=k' then(Ac r r').bind λb=>some ((x==y)&&b) else none
 | .bool x::r,.bool y::r'=>(Ac r r').bind λb=>some ((x==y)&&b)
 | .str x::r,.str y::r'=>(Ac r r').bind λb=>some ((x==y)&&b)
 |_,_=>none
def Ny {R:Type}(op:BinOp)(x y:AV)(K:AC->au R):au R:=
 match x,y with
 | .val false [.int k a],.val false [.int k' b]=>
   match op with
   | .shl=>if b<0 then none else K (.int k (k.wrap (a*2^(min b.toNat k.bits))))
   | .shr=>if b<0 then none else K (.int k (a.fdiv (2^(min b.toNat k.bits))))
   |_=>if k=k' then Qc op k a b K else none
 | .val false [.str a],.val false [.str b]=>S2 op a b K
 | .val false [.bool a],.val false [.bool b]=>
   match op with
   | .eql=>K (.bool (a==b))
   | .neq=>K (.bool (!(a==b)))
   |_=>none
 | .val true xs,.val true ys=>
   match op with
   | .eql=>aa (Ac xs ys) λb=>K (.bool b)
   | .neq=>aa (Ac xs ys) λb=>K (.bool (!b))
   |_=>none
 |_,_=>none
def unC {R:Type}(op:UnOp)(x:AV)(K:AC->au R):au R:=
 match op,x with
 | .not,.val false [.bool b]=>K (.bool (!b))
 | .neg,.val false [.int k n]=>K (.int k (k.wrap (0-n)))
 | .xor,.val false [.int k n]=>Qc .xor k (if k.signed then-1 else k.max) n K
 |_,_=>none
def du (cs:ar AC)(off:Nat)(vs:ar AC):ar AC:=cs.take off++vs++cs.drop (off+vs.length)
def AS.fi (st:AS):lS->au AC
 | .slot s j=>match st.get s with| .val _ cs=>nth cs j|_=>none
 | .box s j=>((nth st.boxes s).getD none).bind λcs=>nth cs j
 | .io j=>nth st.io j
def AS.fC (st:AS)(r:lS)(c:AC):AS:=
 match r with
 | .slot s j=>match st.get s with| .val g cs=>st.put (some s) (.val g (iO cs j c))|_=>st
 | .box s j=>match (nth st.boxes s).getD none with|some cs=>st.eY s (some (iO cs j c))|none=>st
 | .io j=>{st with io:=iO st.io j c}
def AS.fresh (st:AS):AC->AC
 | .sl (.loc ep (some (r,t))) e xs=>
   bif ep==st.ep then .sl (.loc ep (some (r,t))) e xs else
    match st.fi r with
    |some (.sl (.own (some t')) e' ys)=>if h:e'=e then bif t'==t then .sl (.loc st.ep (some (r,t))) e (h▸ys) else .sl (.loc ep (some (r,t))) e xs else .sl (.loc ep (some (r,t))) e xs
    |_=> .sl (.loc ep (some (r,t))) e xs
 |c=>c
def AV.fresh (st:AS):AV->AV
 | .val g cs=> .val g (cs.map st.fresh)
 | .zU vs=> .zU vs
def AC.now (ep:Nat):AC->Bool
 | .sl (.loc ep' (some _)) _ _=>ep'==ep
 |_=>true
def AS.sJ {R:Type}(st:AS)(r:lS)(t:Nat)(e:CT)(i:Int)(off:Nat)(vs:ar AC)(K:AS->au R):au R:=
 match st.fi r with
 |some (.sl (.own (some t')) e' xs)=>
  if h:e'=e then
   if t'=t then
    aa (idx (h▸xs:ar e.D) i) λx=>
     match jM e (du (cellsOf e (.own none) x) off vs)with
     |some (x',[])=>K {st.fC r (.sl (.own (some t')) e ((h▸xs:ar e.D).set i.toNat x'))with ep:=st.ep+1}
     |_=>none
   else none
  else none
 |some (.sl (.fK (some t') i' _) e' xs)=>
  if h:e'=e then
   if t'=t/\off=0 then
    aa (aiQ (h▸xs:ar e.D) i' i) λ_=>
     match jM e vs with
     |some (x',[])=>K {st.fC r (.sl (.own (some t')) e ((h▸xs:ar e.D).set i.toNat x'))with ep:=st.ep+1}
     |_=>none
   else none
  else none
 |_=>none
def AV.cells:AV->ar AC
 | .val _ cs=>cs
 | .zU _=>[.bot]
def fj (st:AS):ar Operand->ar AV×AS
 |[]=>([],st)
 |x::xs=>let (v,st1):=st.take x;let (vs,st2):=fj st1 xs;(v::vs,st2)
def I2 (e:CT):ar (ar AC)->au (ar e.D)
 |[]=>some []
 |cs::r=>match jM e cs with
  |some (x,[])=>(I2 e r).bind λxs=>some (x::xs)
  |_=>none
def Qa:Nat->ar (Nat×Operand)->Bool
 |_,[]=>true
 |n,(i,_)::r=>i==n&&Qa (n+1) r
def AC.Qy:AC->Bool
 | .bot=>false
 | .un=>false
 |_=>true
def Cn (lA:ar (Nat×Nat))(zero:ar AC):ar (Nat×ar AC)->au (ar AC)
 |[]=>some zero
 |(i,cs)::r=>match nth lA i with
  |some (off,n)=>if cs.length=n/\off+n<=zero.length/\cs.all AC.Qy then Cn lA (du zero off cs) r else none
  |none=>none
inductive LK where
 |int|bool|str
 deriving DecidableEq
structure Env where
 ty:List (Nat×Shape)
 eqs:List (Nat×List LK):=[]
 fts:List ((Nat×Nat)×Nat):=[]
def Yp (l:ar (Nat×ar LK))(t:Nat):au (ar LK):=
 match l with
 |[]=>none
 |(u,sh)::r=>bif u==t then some sh else Yp r t
def fits:ar LK->ar AC->Bool
 |[],[]=>true
 | .int::ls,.int _ _::r=>fits ls r
 | .bool::ls,.bool _::r=>fits ls r
 | .str::ls,.str _::r=>fits ls r
 |_,_=>false
def acI (l:ar ((Nat×Nat)×Nat))(S f:Nat):au Nat:=
 match l with
 |[]=>none
 |((u,k),T)::r=>bif u==S&&k==f then some T else acI r S f
def jR (l:ar (Nat×Shape))(t:Nat):au Shape:=
 match l with
 |[]=>none
 |(u,sh)::r=>bif u==t then some sh else jR r t
def Env.sl (E:Env)(t:Nat):au CT:=
 match jR E.ty t with
 |some ⟨false,.sl e,_⟩=>some e
 |_=>none
def Env.str (E:Env)(t:Nat):Bool:=
 match jR E.ty t with
 |some ⟨false,.str,_⟩=>true
 |_=>false
def Env.bool (E:Env)(t:Nat):Bool:=
 match jR E.ty t with
 |some ⟨false,.bool,_⟩=>true
 |_=>false
def Env.bytes (E:Env)(t:Nat):Bool:=
 match jR E.ty t with
 |some ⟨false,.sl (.int .u8),[(te,_)]⟩=>match jR E.ty te with|some ⟨false,.int .u8,_⟩=>true|_=>false
 |_=>false
def uv.live (ep:Nat):uv->Bool
 | .loc ep' _=>ep'==ep
 | .arg _=>true
 | .own _=>false
 | .nest ..=>false
 | .part ..=>false
 | .fK ..=>false
def uv.zw (ep:Nat)(flat:Bool):uv->Bool
 | .loc ep' _=>ep'==ep&&flat
 | .arg _=>flat
 | .own _=>true
 | .nest ..=>false
 | .part ..=>false
 | .fK ..=>false
def uv.bare:uv->uv
 | .loc ep _=> .loc ep none
 |f=>f
def AC.gZ:AC->Bool
 | .int _ _=>true
 | .bool _=>true
 | .str _=>true
 | .fn _=>true
 |_=>false
def tm:Operand->ec
 | .tmp t=>[t]
 |_=>[]
def Xo (l:ar Operand):ec:=l.flatMap tm
def MG (an:An)(o:Oper):Bool:=
 match o.dst with
 |some d=>an.mv.contains d&&(an.mb d).isNone
 |none=>false
def arC (an:An)(o:Oper):Bool:=
 match o.dst with
 |some d=>an.nils.contains d
 |none=>false
def GJ (an:An)(o:Oper):Bool:=
 match o.op with
 | .assign (.tmp s)=>an.late.contains s
 | .store _ _ (.tmp s)=>an.late.contains s
 |_=>false
def tmO:au Operand->ec
 |some x=>tm x
 |none=>[]
def dL (o:Oper):ec:=
 match o.op with
 | .move x=>tm x
 | .assign x=>tm x
 | .pick c a b=>tm c++tm a++tm b
 | .box _ x=>tm x
 | .load _ p=>tm p
 | .store _ p x=>tm p++tm x
 | .nilCheck x=>tm x
 | .binOp _ _ x y _=>tm x++tm y
 | .unOp _ _ x=>tm x
 | .fieldAddr _ p _=>tm p
 | .indexAddr _ x i=>tm x++tm i
 | .index _ x i=>tm x++tm i
 | .build _ parts=>Xo (parts.toList.map (·.2))
 | .buildSlice _ _ parts=>Xo (parts.toList.map (·.2))
 | .makeSlice _ n c=>tm n++tm c
 | .slice _ x lo hi none=>tm x++tmO lo++tmO hi
 | .convert _ _ x=>tm x
 | .extract (.tmp t) _=>[t]
 | .call {callee:=.builtin _,args,..}=>Xo args.toList
 | .call {callee:=.value f,args,..}=>tm f++Xo args.toList
 |_=>[]
def MF (an:An)(o:Oper):Bool:=
 match o.op with
 | .move _=>match o.dst with|some d=>an.mv.contains d|none=>false
 | .assign _=>true
 | .box ..=>true
 | .build ..=>true
 | .buildSlice ..=>true
 | .store ..=>true
 | .extract ..=>match o.dst with|some d=>an.mv.contains d|none=>false
 | .call {callee:=.builtin .append,..}=>true
 |_=>false
def ME (an:An)(o:Oper):Bool:=
 match o.op,o.dst,o.guard with
 | .load _ (.tmp q),some d,none=>an.mv.contains d&&(an.mb d).isNone&&(an.eb q).isSome
 |_,_,_=>false
def HY (an:An)(o:Oper):Bool:=
 match o.op,o.dst,o.guard with
 | .load _ (.tmp q),some d,none=> !an.mv.contains d&& !an.fm.contains d&&(an.sb q).isSome
 |_,_,_=>false
def MI (an:An)(o:Oper):ec:=
 match o.op with
 | .alloc _=>o.dst.toList
 | .box ..=>o.dst.toList
 | .load _ p=>match o.dst with|some d=>bif an.mv.contains d then(an.mb d).toList++(bif ME an o then(match p with| .tmp q=>(an.eb q).toList|_=>[]) else []) else []|none=>[]
 | .store _ (.tmp p) _=>(an.sb p).toList
 | .call {callee:=.value _,args,..}=>(match args.toList with| .tmp q::_=>(an.sb q).toList|_=>[])
 |_=>[]
def qx (an:An)(o:Oper):Bool:=
 match o.op with
 | .move _=>true
 | .load ..=>(match o.dst with|some d=> !an.mv.contains d||(an.mb d).isSome|none=>false)||ME an o
 | .extract (.tmp _) _=>true
 | .store _ (.tmp p) _=>(an.sb p).isSome&& !GJ an o
 | .assign _=> !GJ an o
 | .pick ..| .alloc _| .box ..| .nilCheck _| .binOp ..| .unOp ..| .fieldAddr ..| .indexAddr ..| .index ..| .build ..| .buildSlice ..| .makeSlice ..| .convert ..=>true
 | .slice _ _ _ _ none=> !MG an o
 | .call {callee:=.builtin .len,..}| .call {callee:=.builtin .min,..}| .call {callee:=.builtin .max,..}| .call {callee:=.builtin .append,..}=>true
 | .call {callee:=.value _,..}=>true
 |_=>false
def writes (an:An)(o:Oper):ec:=o.dst.toList++(bif MF an o then dL o else [])
def AV.now (ep:Nat):AV->Bool
 | .val _ cs=>cs.all (AC.now ep)
 | .zU _=>true
def AC.mS:AC->Bool
 | .int ..=>true
 | .bool _=>true
 | .str _=>true
 | .fn _=>true
 | .ptr ..=>true
 |_=>false
def AV.mS:AV->Bool
 | .val _ cs=>cs.all AC.mS
 | .zU _=>false
def LO (E:Env)(T:TypeId)(st:AS)(s off:Nat):Bool:=
 match jR E.ty T,(nth st.boxes s).getD none with
 |some sh,some cs=>((cs.drop off).take sh.ct.size).all AC.mS
 |_,_=>false
def fmB (an:An)(o:Oper):Bool:=match o.dst with|some d=>an.fm.contains d|none=>false
def Ix (an:An)(o:Oper):Bool:=
 match o.op,o.dst,o.guard with
 | .load _ (.tmp _),some d,none=>an.mv.contains d&&(an.mb d).isSome
 |_,_,_=>false
def UO (an:An)(o:Oper):Bool:=
 match o.op,o.dst,o.guard with
 | .load _ (.tmp _),some d,none=> !an.mv.contains d&&an.fm.contains d
 |_,_,_=>false
def erS (an:An)(o:Oper):ec:=
 match o.op,o.dst with
 | .load ..,some d=>(an.er d).toList
 | .call {callee:=.value _,..},some d=>(an.er d).toList
 |_,_=>[]
def AC.am9 (l:ec):AC->Bool
 | .sl (.loc _ (some (.slot b _,_))) _ _=>l.contains b
 | .sl (.loc _ _) _ _=>false
 |_=>true
def Qu (l:ec)(st:AS):Operand->Bool
 | .tmp t=>(match st.get t with| .val _ cs=>cs.all (AC.am9 l)| .zU _=>true)
 |_=>true
def ak2 (an:An)(X l:ec)(st:AS)(xs:ar Operand)(q:Nat):AV->Bool
 | .val false [.ptr s _]=> !X.contains s&&an.sb q==some s&&(match (nth st.boxes s).getD none with|some cs=>cs.all AC.Ph|none=>true)&&xs.all (Qu l st)
 |_=>true
def AV.ahI:AV->Bool
 | .val false [.ptr _ _]=>false
 |_=>true
def yj (an:An)(X l:ec)(st:AS):ar Operand->Bool
 | .tmp q::xs=>ak2 an X l st xs q (st.rd (.tmp q))
 |x::_=>(st.rd x).ahI
 |[]=>true
def dH (E:Env)(an:An)(X:ec)(o:Oper)(st:AS):Bool:=
 match o.op with
 | .move x=> !fmB an o||(st.rd x).mS
 | .indexAddr _ x _=>(st.rd x).now st.ep||(match st.rd x with| .val _ [.sl (.loc _ (some (.box b _,_))) _ _]=> !X.contains b|_=>false)
 | .slice _ x _ _ none=>(st.rd x).now st.ep
 | .call {callee:=.value _,args,..}=>yj an X (erS an o) st args.toList&&args.toList.all λx=>(st.rd x).now st.ep
 | .load T p=>match st.rd p with
   | .val false [.ptr s off]=> !X.contains s&&(match o.dst with|some d=> !an.mv.contains d||an.mb d==some s|none=>true)&&(!fmB an o||LO E T st s off)
   | .val false [.Hy fl _ _ _ _]=>(fl.live st.ep||(match fl with
     | .loc _ (some (.slot b _,_))=>(erS an o).contains b
     | .loc _ (some (.box b _,_))=> !X.contains b
     |_=>false))&& !(fmB an o||Ix an o)&& !HY an o&&(!ME an o||(match p,fl with
     | .tmp q,.loc _ (some (.box b _,_))=>an.eb q==some b&& !X.contains b
     |_,_=>false))
   |_=> !(fmB an o||Ix an o)
 | .store _ (.tmp p) _=>((an.sb p).isNone&&(an.eb p).isNone&&(an.es p).isNone)||(match st.rd (.tmp p)with
   | .val false [.ptr s _]=> !X.contains s&&an.sb p==some s
   | .val false [.Hy (.loc _ (some (.box b _,_))) _ _ _ _]=>an.eb p==some b&&(an.sb p).isNone&&(an.es p).isNone
   | .val false [.Hy (.loc _ (some (.slot b _,_))) _ _ _ _]=>an.es p==some b&&(an.sb p).isNone&&(an.eb p).isNone
   |_=>false)
 | .extract (.tmp t) i=>match st.get t with
   | .zU vs=>match nth vs i with|some x=>x.2.all AC.gZ||(match o.dst with|some d=>an.mv.contains d|none=>false)|none=>true
   |_=>true
 |_=>true
def LR (an:An)(ops:ar Oper)(o:Oper):ec:=
 (match o.guard with
 |some (j,_)=>((nth ops j).bind (·.dst)).toList
 |none=>[])++erS an o
def meets (a b:ec):Bool:=a.any λx=>b.contains x
def aev (an:An)(ops:ar Oper)(X Y:ec)(o p:Oper):Bool:=
 qx an o&&qx an p&& !meets (writes an o) (dL p++LR an ops p++writes an p)&& !meets (writes an p) (dL o++LR an ops o)&&
 (MI an o).all (λd=>Y.contains d)&&(MI an p).all (λd=>X.contains d)&& !meets (MI an o) (p.dst.toList++MI an p)&& !meets (MI an p) o.dst.toList
def ae3 (o p:Oper):Bool:=
 match o.op,p.op,o.dst,p.dst,o.guard,p.guard with
 | .extract (.tmp t) i,.extract (.tmp t') j,some d,some d',none,none=>t==t'&& !(i==j)&& !(d==d')&& !(d==t)&& !(d'==t)
 |_,_,_,_,_,_=>false
def aeS (an:An)(o p:Oper):Bool:=
 match p.op,p.dst,p.guard with
 | .store _ (.tmp q) (.tmp x),none,none=>((an.eb q).isSome&&(an.es q).isNone||(match an.es q with|some b=>(an.eb q).isNone&& !(b==x)&& !(b==q)&& !meets [b] (o.dst.toList++dL o)|none=>false))&&(an.sb q).isNone&& !GJ an p&&(match o.op,o.dst,o.guard with
   | .move (.tmp t),some d,none=> !an.mv.contains d&&an.fm.contains d&& !(d==q)&& !(d==x)&& !(t==x)&& !(t==q)&& !(d==t)
   | .extract (.tmp t) _,some d,none=> !(d==q)&& !(d==x)&& !(t==x)&& !(t==q)&& !(d==t)
   |_,_,_=>false)
 |_,_,_=>false
def afL (an:An)(o p:Oper):Bool:=
 (Ix an o&&UO an p||UO an o&&Ix an p)&& !meets o.dst.toList (p.dst.toList++dL p)&& !meets p.dst.toList (dL o)
def aeH (an:An)(o p:Oper):Bool:=HY an o&&ME an p&& !meets o.dst.toList (p.dst.toList++dL p)&& !meets p.dst.toList (dL o)
def amT (an:An)(o p:Oper):Bool:=ae3 o p||aeS an o p||afL an o p||aeH an o p
def Uh (an:An)(ops:ar Oper)(X Y:ec)(o p:Oper):Bool:=amT an o p||aev an ops X Y o p
def H0 (o:Oper):ec:=(o.after.toList.filter (λe=>Region.binds .any e)).map (·.on)
def aa2 (a b:ec):ec:=a.foldl (λs x=>bif s.contains x then s else x::s) b
def aa9:ar Oper->ar ec->ar ec
 |[],acc=>acc
 |o::r,acc=>aa9 r (acc++[(H0 o).foldl (λs j=>aa2 (j::(nth acc j).getD []) s) []])
def ajJ (A:ar ec)(i k:Nat):Bool:=((nth A i).getD []).contains k
def ag6 (an:An)(A:ar ec)(i:Nat)(fl pl:Bool):Nat->ar Oper->ec
 |_,[]=>[]
 |k,o::r=>(bif !ajJ A i k&& !ajJ A k i&& !(k==i)&& !(fl&&Ix an o)&& !(pl&&ME an o) then MI an o else [])++ag6 an A i fl pl (k+1) r
def xq (an:An)(A:ar ec)(i k:Nat)(ops:ar Oper):ec:=ag6 an A i (match nth ops i with|some o=>UO an o|none=>false) (match nth ops i with|some o=>HY an o|none=>false) k ops
def VD (an:An)(ops:ar Oper)(A:ar ec)(i:Nat)(oi:Oper):Nat->ar Oper->Bool
 |_,[]=>true
 |j,oj::r=>bif Nat.ble i j then true else(ajJ A i j||Uh an ops (xq an A j 0 ops) (xq an A i 0 ops) oj oi)&&VD an ops A i oi (j+1) r
def aas (an:An)(ops:ar Oper)(A:ar ec):Nat->ar Oper->Bool
 |_,[]=>true
 |i,oi::r=>(H0 oi).all (λk=>Nat.blt k i)&&VD an ops A i oi 0 ops&&aas an ops A (i+1) r
def abu (an:An)(ops:ar Oper):Bool:=aas an ops (aa9 ops []) 0 ops
inductive Ex where
 |normal|ret|exit (id:Nat)
inductive FK where
 |own (tag:Option Nat)|arg|anZ|loc|lio (j t:Nat)|nil
def FK.flag:FK->uv
 | .own t=> .own t
 | .arg=> .arg false
 | .anZ=> .arg true
 | .loc=> .loc 0 none
 | .lio j t=> .loc 0 (some (.io j,t))
 | .nil=> .arg false
def FK.isNil:FK->Bool
 | .nil=>true
 |_=>false
inductive FT where
 |int (k:IntKind)|bool|str|sl (fl:FK) (e:CT)|pair (a b:FT)
abbrev FT.ct:FT->CT
 | .int k=> .int k
 | .bool=> .bool
 | .str=> .str
 | .sl _ e=> .sl e
 | .pair a b=> .pair a.ct b.ct
def jT:(t:FT)->t.ct.D->ar AC
 | .int k,n=>[.int k n]
 | .bool,b=>[.bool b]
 | .str,s=>[.str s]
 | .sl fl e,xs=>[bif fl.isNil then .kL else .sl fl.flag e xs]
 | .pair a b,x=>jT a x.1++jT b x.2
def FK.fits:FK->uv->Bool
 | .own t,.own t'=>t==t'
 | .arg,.arg k=> !k
 | .anZ,.arg k=>k
 | .loc,.loc 0 none=>true
 | .lio j t,.loc 0 (some (.io j',t'))=>j==j'&&t==t'
 |_,_=>false
def TQ:(t:FT)->ar AC->au (t.ct.D×ar AC)
 | .int k,.int k' n::r=>if k'=k then some (n,r) else none
 | .bool,.bool b::r=>some (b,r)
 | .str,.str s::r=>some (s,r)
 | .sl fl e,.sl fl' e' xs::r=>if h:e'=e then bif fl.fits fl' then some (h▸xs,r) else none else none
 | .sl fl _,.kL::r=>bif fl.isNil then some ([],r) else none
 | .pair a b,cs=>(TQ a cs).bind λx=>(TQ b x.2).bind λy=>some ((x.1,y.1),y.2)
 |_,_=>none
inductive PD where
 |bot|ptr (s off:Nat)|fn (f:Nat)|data (g:Bool) (t:FT)
inductive IoD where
 |none|some (t:FT)|ptr
structure SD where
 slots:List PD
 boxes:List (Option FT)
 io:IoD:=.none
abbrev Kr:ar PD->Type
 |[]=>Unit
 | .data _ t::r=>t.ct.D×Kr r
 |_::r=>Kr r
abbrev Js:ar (au FT)->Type
 |[]=>Unit
 |some t::r=>t.ct.D×Js r
 |none::r=>Js r
abbrev ioD:IoD->Type
 | .none=>Unit
 | .some t=>t.ct.D
 | .ptr=>Unit
abbrev SD.D (d:SD):Type:=Kr d.slots×Js d.boxes×ioD d.io
def xu:(l:ar PD)->Kr l->ar AV
 |[],_=>[]
 | .data g t::r,x=> .val g (jT t x.1)::xu r x.2
 | .bot::r,x=> .bot::xu r x
 | .ptr s off::r,x=> .one (.ptr s off)::xu r x
 | .fn f::r,x=> .one (.fn f)::xu r x
def IK:(l:ar (au FT))->Js l->ar (au (ar AC))
 |[],_=>[]
 |some t::r,x=>some (jT t x.1)::IK r x.2
 |none::r,x=>none::IK r x
def ak7:(o:IoD)->ioD o->ar AC
 | .none,_=>[]
 | .some t,x=>jT t x
 | .ptr,_=>[.ptr 0 0]
def SD.enc (d:SD)(x:d.D):AS:=⟨xu d.slots x.1,IK d.boxes x.2.1,0,List.replicate d.slots.length false,ak7 d.io x.2.2⟩
def AV.ahx:AV->Bool
 | .val false [.bot]=>true
 |_=>false
def AV.ahy (s off:Nat):AV->Bool
 | .val false [.ptr s' az5]=>s==s'&&off==az5
 |_=>false
def AV.ajk (f:Nat):AV->Bool
 | .val false [.fn f']=>f==f'
 |_=>false
def lH:(l:ar PD)->ar AV->au (Kr l)
 |[],[]=>some ()
 | .data g t::r,.val g' cs::vs=>bif g==g' then(match TQ t cs with|some (x,[])=>(lH r vs).bind λy=>some (x,y)|_=>none) else none
 | .bot::r,v::vs=>bif v.ahx then lH r vs else none
 | .ptr s off::r,v::vs=>bif v.ahy s off then lH r vs else none
 | .fn f::r,v::vs=>bif v.ajk f then lH r vs else none
 |_,_=>none
def uA:(l:ar (au FT))->ar (au (ar AC))->au (Js l)
 |[],[]=>some ()
 |some t::r,some cs::bs=>match TQ t cs with|some (x,[])=>(uA r bs).bind λy=>some (x,y)|_=>none
 |none::r,none::bs=>uA r bs
 |_,_=>none
def afG:ar AC->Bool
 |[.ptr 0 0]=>true
 |_=>false
def abp:(o:IoD)->ar AC->au (ioD o)
 | .none,[]=>some ()
 | .some t,cs=>match TQ t cs with|some (x,[])=>some x|_=>none
 | .ptr,cs=>bif afG cs then some () else none
 |_,_=>none
def SD.dec (d:SD)(st:AS):au d.D:=
 bif st.ep==0&&st.iss==List.replicate d.slots.length false then
  (lH d.slots st.slots).bind λx=>(uA d.boxes st.boxes).bind λy=>(abp d.io st.io).bind λz=>some (x,y,z)
 else none
structure Q6 where
 sd:SD
 run:{R:Type}->sd.D->(Ex->AS->Option R)->Option R
abbrev Lm:=Nat->Q6
def Q6.go {R:Type}(l:Q6)(st:AS)(K:Ex->AS->au R):au R:=aa (l.sd.dec st) λx=>l.run x K
def Q6.none:Q6:=⟨⟨[],[],.none⟩,λ_ _=>Option.none⟩
def Lm.nil:Lm:=λ_=>Q6.none
def Lm.add (Λ:Lm)(k:Nat)(l:Q6):Lm:=λj=>bif j==k then l else Λ j
section
variable {R:Type} (E:Env) (Γ:Ci) (an:An)
def I5 (o:Oper)(x:Operand)(st:AS)(K:AS->au R):au R:=
 match o.dst with
 |some d=>if an.mv.contains d then K ((st.take x).2.put o.dst (st.take x).1) else K (st.put o.dst (st.rd x))
 |none=>none
def zY (o:Oper)(x:Operand)(st:AS)(K:AS->au R):au R:=
 match st.take x with
 |(.val false [.kL],_)=>match E.sl o.type with
  |some e=>K (st.put o.dst (.one (bif arC an o then .kL else .sl (.own none) e [])))
  |none=>none
 |(v,st')=>K (st'.put o.dst v)
def Ml (o:Oper)(c a b:Operand)(st:AS)(K:AS->au R):au R:=
 match st.rd c with
 | .val false [.bool t]=>match st.rd a,st.rd b with
   | .val false [.bool x],.val false [.bool y]=>K (st.put o.dst (.one (.bool (cond t x y))))
   |va,vb=>cond t (K (st.put o.dst va)) (K (st.put o.dst vb))
 |_=>none
def Jq (o:Oper)(T:TypeId)(st:AS)(K:AS->au R):au R:=
 match o.dst,jR E.ty T with
 |some d,some sh=>match nth st.boxes d with
  |some none=>K ((st.eY d (some (cellsOf sh.ct (.own none) sh.ct.zero))).put o.dst (.one (.ptr d 0)))
  |_=>none
 |_,_=>none
def Zr (o:Oper)(x:Operand)(st:AS)(K:AS->au R):au R:=
 match o.dst,st.take x with
 |some d,(.val _ cs,st')=>
  match nth st'.boxes d with
  |some none=>if cs.all AC.Qy then K ((st'.eY d (some cs)).put o.dst (.one (.ptr d 0))) else none
  |_=>none
 |_,_=>none
def aam (ep:Nat)(r:lS)(t:Nat)(e:CT)(i:Int):Nat->ar AC->ar AC
 |_,[]=>[]
 |p,.sl _ e' xs::cs=> .sl (.nest ep r t e i p) e' xs::aam ep r t e i (p+1) cs
 |p,c::cs=>c::aam ep r t e i (p+1) cs
def amJ (o:Oper)(ep:Nat)(fl:uv)(e:CT)(i:Int)(off:Nat)(cs:ar AC):ar AC:=
 match fl,o.dst with
 | .loc _ (some (r,t)),some d=>bif an.nest.contains d then aam ep r t e i off cs else cs
 |_,_=>cs
def Ky (o:Oper)(sh:Shape)(fl:uv)(e:CT)(i:Int)(off:Nat)(st:AS)(K:AS->au R):au R:=
 match fl with
 | .loc _ (some (r,t))=>
   match st.fi r with
   |some (.sl (.own (some t')) e' ys)=>
    if h:e'=e then
     if t'=t/\off+sh.ct.size<=e.size then
      aa (idx (h▸ys:ar e.D) i) λy=>K (st.put o.dst (.val sh.agg (((cellsOf e (.loc st.ep none) y).drop off).take sh.ct.size)))
     else none
    else none
   |_=>none
 |_=>none
def Et (o:Oper)(sh:Shape)(fl:uv)(e:CT)(i:Int)(off:Nat)(st:AS)(K:AS->au R):au R:=
 match fl with
 | .loc _ (some (r,t))=>
   match st.fi r with
   |some (.sl (.own (some t')) e' ys)=>
    if h:e'=e then
     if t'=t/\off=0/\sh.ct=e then
      aa (idx (h▸ys:ar e.D) i) λy=>K ((st.fC r (.sl (.fK (some t) i (some st.ep)) e (h▸ys))).put o.dst (.val sh.agg (cellsOf e (.own none) y)))
     else none
    else none
   |_=>none
 |_=>none
def sy (o:Oper)(T:TypeId)(p:Operand)(st:AS)(K:AS->au R):au R:=
 match jR E.ty T,st.rd p with
 |some sh,.val false [.ptr s off]=>
  match (nth st.boxes s).getD none with
  |some cs=>
   if off+sh.ct.size<=cs.length then
    match o.dst with
    |some d=>
     if an.mv.contains d then
      K ((st.eY s (some (du cs off (bc st.ep ((cs.drop off).take sh.ct.size))))).put o.dst (.val sh.agg ((cs.drop off).take sh.ct.size)))
     else K (st.put o.dst (.val sh.agg (jj st.ep (.box s) off ((cs.drop off).take sh.ct.size))))
    |none=>none
   else none
  |none=>none
 |some sh,.val false [.Hy fl e x i off]=>
  if MG an o then Et o sh fl e i off st K
  else if fl.live st.ep then
   if off+sh.ct.size<=e.size then K (st.put o.dst (.val sh.agg (amJ an o st.ep fl e i off (((cellsOf e fl.bare x).drop off).take sh.ct.size)))) else none
  else Ky o sh fl e i off st K
 |_,_=>none
def CR (T:TypeId)(p x:Operand)(st:AS)(K:AS->au R):au R:=
 match jR E.ty T,st.rd p with
 |some sh,.val false [.ptr s off]=>
  match st.take x with
  |(.val _ vs,st')=>
   match (nth st'.boxes s).getD none with
   |some cs=>
    if vs.length=sh.ct.size/\vs.all AC.Qy then
     if off+sh.ct.size<=cs.length then K (st'.eY s (some (du cs off vs))) else none
    else none
   |none=>none
  |_=>none
 |some sh,.val false [.Hy (.loc _ (some (r,t))) e _ i off]=>
  match st.take x with
  |(.val _ vs,st')=>
   if vs.length=sh.ct.size/\off+sh.ct.size<=e.size then st'.sJ r t e i off vs K else none
  |_=>none
 |_,_=>none
def Gr (o:Oper)(S:TypeId)(p:Operand)(f:Nat)(st:AS)(K:AS->au R):au R:=
 match jR E.ty S,st.rd p with
 |some ⟨true,_,lA⟩,.val false [.ptr s off]=>match nth lA f with|some (fo,_)=>K (st.put o.dst (.one (.ptr s (off+fo))))|none=>none
 |some ⟨true,_,lA⟩,.val false [.Hy fl e x i off]=>match nth lA f with|some (fo,_)=>K (st.put o.dst (.one (.Hy fl e x i (off+fo))))|none=>none
 |_,_=>none
def oL (o:Oper)(T:TypeId)(x i:Operand)(st:AS)(K:AS->au R):au R:=
 match E.sl T,(st.rd x).fresh st,st.rd i with
 |some e',.val false [.sl fl e xs],.val false [.int _ n]=>
  if e'=e/\fl.live st.ep then aa (idx xs n) λy=>K (st.put o.dst (.one (.Hy fl e y n 0))) else none
 |_,_,_=>none
def Ik (o:Oper)(T:TypeId)(x i:Operand)(st:AS)(K:AS->au R):au R:=
 match st.rd x,st.rd i with
 | .val false [.str s],.val false [.int _ n]=>if E.str T then aa (idx s n) λb=>K (st.put o.dst (.one (.int .u8 b.toNat))) else none
 |_,_=>none
def Ib (o:Oper)(T:TypeId)(parts:ar (Nat×Operand))(st:AS)(K:AS->au R):au R:=
 match jR E.ty T with
 |some ⟨true,ct,lA⟩=>
  match fj st (parts.map (·.2))with
  |(vs,st')=>
   match Cn lA (cellsOf ct (.own none) ct.zero) ((parts.map (·.1)).zip (vs.map AV.cells))with
   |some cs=>K (st'.put o.dst (.val true cs))
   |none=>none
 |_=>none
def nH (o:Oper)(T:TypeId)(len:Nat)(parts:ar (Nat×Operand))(st:AS)(K:AS->au R):au R:=
 match E.sl T with
 |some e=>
  if parts.length=len/\Qa 0 parts/\len<=1000 then
   match fj st (parts.map (·.2))with
   |(vs,st')=>
    match I2 e (vs.map AV.cells)with
    |some xs=>K (st'.ti o.dst e xs)
    |none=>none
  else none
 |none=>none
def rF (o:Oper)(T:TypeId)(n c:Operand)(st:AS)(K:AS->au R):au R:=
 match E.sl T,st.rd n,st.rd c with
 |some e,.val false [.int .i64 len],.val false [.int .i64 cap]=>
  if 0<=len/\len<=cap then room cap.toNat (K (st.ti o.dst e (List.replicate len.toNat e.zero))) else none
 |_,_,_=>none
def pa (st:AS)(lo hi:au Operand)(n:Nat)(K:Int->Int->au R):au R:=
 match lo.map st.rd,hi.map st.rd with
 |none,none=>K 0 n
 |some (.val false [.int _ a]),none=>K a n
 |none,some (.val false [.int _ b])=>K 0 b
 |some (.val false [.int _ a]),some (.val false [.int _ b])=>K a b
 |_,_=>none
def CI (o:Oper)(T:TypeId)(x:Operand)(lo hi:au Operand)(st:AS)(K:AS->au R):au R:=
 match st.take x,lo.map st.rd,hi with
 |(.val false [.sl (.own _) e xs],st'),some (.val false [.int _ a]),none=>
  if E.sl T=some e then aa (sub xs a xs.length) λWI=>K (st'.ti o.dst e WI) else none
 |_,_,_=>none
def VE (o:Oper)(fl:uv)(a:Int):uv:=
 match fl,o.dst with
 | .loc ep (some (r,t)),some d=>bif an.nest.contains d then .part ep r t a else .loc ep none
 |fl,_=>fl.bare
def Hg (o:Oper)(T:TypeId)(x:Operand)(lo hi:au Operand)(st:AS)(K:AS->au R):au R:=
 if MG an o then CI E o T x lo hi st K else
 match (st.rd x).fresh st with
 | .val false [.str s]=>if E.str T then pa st lo hi s.length λa b=>aa (sub s a b) λs'=>K (st.put o.dst (.one (.str s'))) else none
 | .val false [.sl fl e xs]=>
   if E.sl T=some e/\fl.live st.ep then pa st lo hi xs.length λa b=>aa (sub xs a b) λWI=>K (st.put o.dst (.one (.sl (VE an o fl a) e WI))) else none
 |_=>none
def nL (o:Oper)(src dst:TypeId)(x:Operand)(st:AS)(K:AS->au R):au R:=
 match jR E.ty src,jR E.ty dst,st.rd x with
 |some _,some ⟨false,.int k,_⟩,.val false [.int _ n]=>K (st.put o.dst (.one (.int k (k.wrap n))))
 |some ⟨false,.str,_⟩,some ⟨false,.str,_⟩,.val false [.str s]=>K (st.put o.dst (.one (.str s)))
 |some ⟨false,.str,_⟩,some _,.val false [.str s]=>
  if E.bytes dst then room s.length (K (st.ti o.dst (.int .u8) (da s))) else none
 |some _,some ⟨false,.str,_⟩,.val false [.sl fl (.int .u8) xs]=>
  if E.bytes src/\fl.live st.ep then K (st.put o.dst (.one (.str (aS xs)))) else none
 |_,_,_=>none
def nN (o:Oper)(t i:Nat)(st:AS)(K:AS->au R):au R:=
 match st.get t with
 | .zU vs=>match nth vs i with
   |some (g,cs)=>K ((st.put (some t) (.zU (iO vs i (g,bc 0 cs)))).put o.dst (.val g cs))
   |none=>none
 |_=>none
def Vt (o:Oper)(ts:ar TypeId)(args:ar Operand)(st:AS)(K:AS->au R):au R:=
 match ts,args.map st.rd with
 |[t],[.val false [.str s]]=>if E.str t then K (st.put o.dst (.one (.int .i64 s.length))) else none
 |[t],[.val false [.sl _ _ xs]]=>if(E.sl t).isSome then K (st.put o.dst (.one (.int .i64 xs.length))) else none
 |_,_=>none
def W5 (o:Oper)(args:ar Operand)(st:AS)(K:AS->au R):au R:=
 match args.map st.rd with
 |[.val false [.int k x],.val false [.int _ y]]=>K (st.put o.dst (.one (.int k (if y<x then y else x))))
 |_=>none
def W4 (o:Oper)(args:ar Operand)(st:AS)(K:AS->au R):au R:=
 match args.map st.rd with
 |[.val false [.int k x],.val false [.int _ y]]=>K (st.put o.dst (.one (.int k (if y>x then y else x))))
 |_=>none
def XC (o:Oper)(ts:ar TypeId)(args:ar Operand)(st:AS)(K:AS->au R):au R:=
 match ts,args.map st.rd with
 |[t,t'],[.val false [.sl (.part ep r tg lo) e xs],.val false [.str s]]=>
  match st.fi r with
  |some (.sl (.own (some tg')) e' ys)=>
   if h:e'=.int .u8 then
    if e=.int .u8/\E.sl t=some (.int .u8)/\E.str t'=true/\ep=st.ep/\tg'=tg then
     K ({st.fC r (.sl (.own (some tg)) (.int .u8) (I6 (h▸ys:ar (CT.int .u8).D) lo.toNat (da (s.take xs.length))))with ep:=st.ep+1}.put o.dst (.one (.int .i64 (min xs.length s.length:Nat))))
    else none
   else none
  |_=>none
 |_,_=>none
def MT (o:Oper)(S:TypeId)(t f:Nat)(st:AS)(K:AS->au R):au R:=
 match jR E.ty S,st.get t,acI E.fts S f with
 |some ⟨true,ct,lA⟩,.val true cs,some T=>
  match nth lA f,jR E.ty T with
  |some (fo,n),some sh=>
   if n=sh.ct.size/\cs.length=ct.size/\fo+n<=cs.length then
    K ((st.put (some t) (.val true (du cs fo (bc st.ep ((cs.drop fo).take n))))).put o.dst (.val sh.agg ((cs.drop fo).take n)))
   else none
  |_,_=>none
 |_,_,_=>none
def CY (o:Oper)(ts:ar TypeId)(args:ar Operand)(st:AS)(K:AS->au R):au R:=
 match ts,args with
 |[t,t'],[s,x]=>
  match st.take s with
  |(.val false [.sl (.own _) e xs],st1)=>
   match st1.take x with
   |(.val false [.sl fl e' ys],st2)=>
    if h:e'=e then
     if E.sl t=some e/\E.sl t'=some e/\fl.zw st.ep e.flat then
      room (xs.length+ys.length) (K (st2.ti o.dst e (xs++(h▸ys:ar e.D))))
     else none
    else none
   |(.val false [.str s],st2)=>
    if h:e=.int .u8 then
     if E.sl t=some e/\E.str t' then room (xs.length+s.length) (K (st2.ti o.dst (.int .u8) ((h▸xs:ar (CT.int .u8).D)++da s))) else none
    else none
   |_=>none
  |_=>none
 |_,_=>none
def Rj:Nat->ar AC->au (lS×Nat)
 |_,[]=>none
 |j,.sl (.loc _ (some (r,_))) _ _::_=>some (r,j)
 |j,_::cs=>Rj (j+1) cs
def lS.pos:lS->Nat
 | .slot _ j=>j
 | .box _ j=>j
 | .io j=>j
def AS.xT (st:AS):lS->au (ar AC)
 | .slot s _=>match st.get s with| .val _ cs=>some cs|_=>none
 | .box s _=>(nth st.boxes s).getD none
 | .io _=>some st.io
def AS.tj (st:AS)(r:lS)(cs:ar AC):AS:=
 match r with
 | .slot s _=>match st.get s with| .val g _=>st.put (some s) (.val g cs)|_=>st
 | .box s _=>st.eY s (some cs)
 | .io _=>{st with io:=cs}
def oP:ar AC->ar AC->au (ar AC)
 |[],[]=>some []
 | .sl (.loc _ (some (_,t))) _ _::os,.sl (.own (some t')) e xs::ss=>bif t'==t then(oP os ss).bind λr=>some (.sl (.own none) e xs::r) else none
 | .int k n::os,.int _ _::ss=>(oP os ss).bind λr=>some (.int k n::r)
 | .bool b::os,.bool _::ss=>(oP os ss).bind λr=>some (.bool b::r)
 | .str x::os,.str _::ss=>(oP os ss).bind λr=>some (.str x::r)
 |_,_=>none
def H5:ar AC->ar AC->ar AC->au (ar AC)
 |[],[],[]=>some []
 | .sl (.loc _ (some (_,t'))) _ _::os,.sl (.own (some t)) _ _::ss,.sl (.own _) e ys::bs=>bif t==t' then(H5 os ss bs).bind λr=>some (.sl (.own (some t)) e ys::r) else none
 | .int _ _::os,.int k n::ss,.int _ _::bs=>(H5 os ss bs).bind λr=>some (.int k n::r)
 | .bool _::os,.bool b::ss,.bool _::bs=>(H5 os ss bs).bind λr=>some (.bool b::r)
 | .str _::os,.str x::ss,.str _::bs=>(H5 os ss bs).bind λr=>some (.str x::r)
 |_,_,_=>none
def AV.gZ:AV->Bool
 | .val _ cs=>cs.all AC.gZ
 | .zU vs=>vs.all λx=>x.2.all AC.gZ
def Zv (st:AS)(x:Operand):au (AV×AS):=
 match st.rd x with
 | .val g cs=>
   match Rj 0 cs with
   |some (r,j)=>
    match st.xT r with
    |some IA=>
     match oP cs ((IA.drop (r.pos-j)).take cs.length)with
     |some oY=>some (.val g oY,st.tj r (du IA (r.pos-j) (bc st.ep ((IA.drop (r.pos-j)).take cs.length))))
     |none=>none
    |none=>none
   |none=>none
 |_=>none
def Ym (o:Oper)(x:Operand)(st:AS)(K:AS->au R):au R:=
 match Zv st x with
 |some (v,st')=>K (st'.put o.dst v)
 |none=>none
def CU (T:TypeId)(p x:Operand)(st:AS)(K:AS->au R):au R:=
 match jR E.ty T,st.rd p with
 |some sh,.val false [.ptr s off]=>
  match Zv st x with
  |some (.val _ vs,st')=>
   match (nth st'.boxes s).getD none with
   |some cs=>
    if vs.length=sh.ct.size/\vs.all AC.Qy then
     if off+sh.ct.size<=cs.length then K (st'.eY s (some (du cs off vs))) else none
    else none
   |none=>none
  |_=>none
 |_,_=>none
def Yv (o:Oper)(f:Nat)(g:Bool)(cs:ar AC)(xs:ar Operand)(st:AS)(K:AS->au R):au R:=
 match cs with
 |[.sl (.nest ep r t en i off) _ _]=>
  match st.xT r with
  |some IA=>
   match (IA.drop r.pos).take 1 with
   |[.sl (.own (some t')) e ys]=>
    bif (ep==st.ep)&&(t'==t)&&(en.size==e.size)&&xs.all (λx=>(st.rd x).gZ) then
     aa (idx ys i) λx=>
      match ((cellsOf e (.own none) x).drop off).take 1 with
      |[.sl (.own _) e2 zs]=>
       aa ((Γ f).fn (.val g [.sl (.own none) e2 zs]::xs.map st.rd)) λy=>
        match (Γ f).back y with
        |[.sl (.own _) e3 zs']=>
         match jM e (du (cellsOf e (.own none) x) off [.sl (.own none) e3 zs'])with
         |some (x',[])=>bif ((Γ f).av y).gZ then K ({st.tj r (du IA r.pos [.sl (.own (some t)) e (ys.set i.toNat x')])with ep:=st.ep+1}.put o.dst ((Γ f).av y)) else none
         |_=>none
        |_=>none
      |_=>none
    else none
   |_=>none
  |none=>none
 |_=>none
def ioC (o:Oper)(f:Nat)(args:ar Operand)(st:AS)(K:AS->au R):au R:=
 match args with
 |x0::xs=>
  match st.rd x0 with
  | .val g cs=>
    match Rj 0 cs with
    |some (r,j)=>
     match st.xT r with
     |some IA=>
      match oP cs ((IA.drop (r.pos-j)).take cs.length)with
      |some oY=>
       bif xs.all (λx=>(st.rd x).gZ) then
        aa ((Γ f).fn (.val g oY::xs.map st.rd)) λy=>
         match H5 cs ((IA.drop (r.pos-j)).take cs.length) ((Γ f).back y)with
         |some seg=>bif ((Γ f).av y).gZ then K ({st.tj r (du IA (r.pos-j) seg)with ep:=st.ep+1}.put o.dst ((Γ f).av y)) else none
         |none=>none
       else none
      |none=>none
     |none=>none
    |none=>Yv Γ o f g cs xs st K
  |_=>none
 |[]=>none
def AC.strip:AC->AC
 | .sl (.own _) e xs=> .sl (.own none) e xs
 | .sl (.loc _ _) _ _=> .bot
 | .sl (.nest ..) _ _=> .bot
 | .sl (.part ..) _ _=> .bot
 | .sl (.fK _ i _) e xs=> .sl (.fK none i none) e xs
 | .ptr _ _=> .bot
 | .Hy _ _ _ _ _=> .bot
 |c=>c
def AC.afE:AC->Bool
 | .sl (.own _) _ _=>true
 |c=>c.gZ
def AC.EZ (k:Bool):AC->Bool
 | .sl (.own _) _ _=>true
 | .sl (.arg k') _ _=>k'==k
 |c=>c.gZ
def AC.aaU:AC->AC
 | .sl (.own _) e xs=> .sl (.own none) e xs
 | .sl (.arg _) e xs=> .sl (.arg true) e xs
 |c=>c.strip
def AC.apJ (k:Bool)(tag:au Nat):AC->AC
 | .sl (.own _) e xs=> .sl (.own tag) e xs
 | .sl (.arg _) e xs=> .sl (.arg k) e xs
 |c=>c
def sM (k:Bool)(mk:Nat->au Nat):Nat->ar AC->ar AC
 |_,[]=>[]
 |j,c::cs=>c.apJ k (mk j)::sM k mk (j+1) cs
def KQ (cs:ar AC):Bool:=cs.any λc=>match c with| .sl (.arg k) _ _=>k|_=>false
def AC.Q9:AC->Bool
 | .sl (.arg k) _ _=> !k
 |c=>c.gZ
def AV.Q9:AV->Bool
 | .val _ cs=>cs.all AC.Q9
 | .zU _=>false
def AS.W2 (st:AS):AC->AC
 | .sl (.own _) e xs=> .sl (.arg false) e xs
 | .sl (.arg _) e xs=> .sl (.arg false) e xs
 | .sl (.loc _ (some (.slot b j,t))) _ _=>match st.fi (.slot b j)with
   |some (.sl (.own (some t')) e' ys)=>if t'=t then .sl (.arg false) e' ys else .bot
   |_=> .bot
 | .int k n=> .int k n
 | .bool b=> .bool b
 | .str s=> .str s
 | .fn f=> .fn f
 |_=> .bot
def HW (st:AS):Operand->AV
 | .tmp t=>(match st.get t with| .val g cs=> .val g (cs.map st.W2)|v=>v)
 |x=>st.rd x
def I1 (st:AS):Operand->Bool
 | .tmp t=>(match st.get t with| .val _ cs=>(cs.map st.W2).all AC.Q9|_=>false)
 |x=>(st.rd x).gZ
def AC.ajC:AC->Bool
 | .sl (.own _) _ _=>true
 |c=>c.gZ
def AV.ajC:AV->Bool
 | .val _ cs=>cs.all AC.ajC
 | .zU vs=>vs.all λx=>x.2.all AC.ajC
def ag5 (st:AS)(s:Nat)(cs:ar AC):AS:={(st.eY s (some cs)).fQ (some s)with ep:=st.ep+1}
def zZ (o:Oper)(f:Nat)(args:ar Operand)(st:AS)(K:AS->au R):au R:=
 match args with
 |x0::xs=>
  match st.rd x0 with
  | .val false [.ptr s 0]=>
    match (nth st.boxes s).getD none with
    |some cs=>
     bif cs.all (AC.EZ (KQ cs))&&xs.all (I1 st) then
      aa ((Γ f).fn (.val true (cs.map AC.aaU)::xs.map (HW st))) λy=>
       bif ((Γ f).back y).all (AC.EZ true)&&((Γ f).av y).ajC then
        bif (Γ f).cur&&cs.all AC.Ph then
         K (((st.eY s (some (sM (KQ cs) (λ_=>none) 0 ((Γ f).back y)))).fQ o.dst).put o.dst (((Γ f).av y).KR st.ep (st.iZ o.dst)))
        else
        K (((ag5 st s (sM (KQ cs) (st.iZ (some s)) 0 ((Γ f).back y))).fQ o.dst).put o.dst
          (((Γ f).av y).KR (st.ep+1) ((ag5 st s (sM (KQ cs) (st.iZ (some s)) 0 ((Γ f).back y))).iZ o.dst)))
       else none
     else none
    |none=>none
  |_=>none
 |[]=>none
def ajD (o:Oper)(f:Nat)(args:ar Operand)(st:AS)(K:AS->au R):au R:=
 match o.dst with
 |some d=>
  match nth st.boxes d with
  |some none=>
   bif args.all (λx=>(st.rd x).Q9) then
    aa ((Γ f).fn (args.map st.rd)) λy=>
     bif ((Γ f).back y).all AC.Q9 then K ((st.eY d (some ((Γ f).back y))).put (some d) (.one (.ptr d 0))) else none
   else none
  |_=>none
 |none=>none
def KS (o:Oper)(f:Operand)(args:ar Operand)(st:AS)(K:AS->au R):au R:=
 match st.rd f with
 | .val false [.fn f]=>
   bif (Γ f).bx then zZ Γ o f args st K else
   bif (Γ f).pr then ajD Γ o f args st K else
   bif (Γ f).io then ioC Γ o f args st K
   else aa ((Γ f).fn (args.map λx=>((st.rd x).fresh st).asArg st.ep)) λr=>cond ((Γ f).sel r) (K ((st.fQ o.dst).put o.dst (((Γ f).av r).KR st.ep (st.iZ o.dst)))) (K ((st.fQ o.dst).put o.dst (((Γ f).alt r).KR st.ep (st.iZ o.dst))))
 |_=>none
def KU {R:Type}(op:BinOp)(b:Bool)(K:AC->au R):au R:=
 match op with
 | .eql=>K (.bool b)
 | .neq=>K (.bool (!b))
 |_=>none
def Hu (o:Oper)(op:BinOp)(T:TypeId)(x y:Operand)(st:AS)(K:AS->au R):au R:=
 match st.rd x,st.rd y with
 | .val false [.bool a],.val false [.bool b]=>if E.bool T then Ny op (.one (.bool a)) (.one (.bool b)) λc=>K (st.put o.dst (.one c)) else none
 | .val true xs,.val true ys=>match Yp E.eqs T with
   |some ls=>if fits ls xs then Ny op (.val true xs) (.val true ys) λc=>K (st.put o.dst (.one c)) else none
   |none=>none
 | .val false [.sl fl _ xs],.val false [.kL]=>if(E.sl T).isSome/\fl.live st.ep then(if xs.length=0 then none else KU op false λc=>K (st.put o.dst (.one c))) else none
 | .val false [.kL],.val false [.kL]=>if(E.sl T).isSome then KU op true λc=>K (st.put o.dst (.one c)) else none
 |a,b=>Ny op a b λc=>K (st.put o.dst (.one c))
def db (o:Oper)(st:AS)(K:AS->au R):au R:=
 match o.op with
 | .move x=>I5 an o x st K
 | .assign x=>if GJ an o then Ym o x st K else zY E an o x st K
 | .pick c a b=>Ml o c a b st K
 | .alloc T=>Jq E o T st K
 | .box _ x=>Zr o x st K
 | .load T p=>sy E an o T p st K
 | .store T p x=>match o.dst with|none=>(if GJ an o then CU E T p x st K else CR E T p x st K)|some _=>none
 | .nilCheck x=>
   match st.rd x with
   | .val false [.ptr s off]=>K (st.put o.dst (.one (.ptr s off)))
   | .val false [.Hy fl e y i off]=>K (st.put o.dst (.one (.Hy fl e y i off)))
   |_=>none
 | .binOp op T x y _=>Hu E o op T x y st K
 | .unOp op _ x=>unC op (st.rd x) λc=>K (st.put o.dst (.one c))
 | .fieldAddr S p f=>Gr E o S p f st K
 | .indexAddr T x i=>oL E o T x i st K
 | .index T x i=>Ik E o T x i st K
 | .build T parts=>Ib E o T parts.toList st K
 | .buildSlice T len parts=>nH E o T len parts.toList st K
 | .makeSlice T n c=>rF E o T n c st K
 | .slice T x lo hi none=>Hg E an o T x lo hi st K
 | .field S (.tmp t) f=>MT E o S t f st K
 | .call {callee:=.builtin .copy,args,argTypes}=>XC E o argTypes.toList args.toList st K
 | .convert src dst x=>nL E o src dst x st K
 | .extract (.tmp t) i=>nN o t i st K
 | .call {callee:=.builtin .len,args,argTypes}=>Vt E o argTypes.toList args.toList st K
 | .call {callee:=.builtin .min,args,..}=>W5 o args.toList st K
 | .call {callee:=.builtin .max,args,..}=>W4 o args.toList st K
 | .call {callee:=.builtin .append,args,argTypes}=>CY E o argTypes.toList args.toList st K
 | .call {callee:=.value f,args,..}=>KS Γ o f args.toList st K
 |_=>none
def ig (ops:ar Oper)(o:Oper)(st:AS)(K:AS->au R):au R:=
 match o.guard with
 |none=>db E Γ an o st K
 |some (j,O9)=>
  match (nth ops j).bind (·.dst)with
  |some d=>
   match st.get d with
   | .val false [.bool b]=>
     let go (t:Bool):au R:=
      if t==O9 then db E Γ an o (st.put (some d) (.one (.bool t))) K else K ((st.put (some d) (.one (.bool t))).put o.dst (.one .un))
     cond b (go true) (go false)
   | .val false [.un]=>K (st.put o.dst (.one .un))
   |_=>none
  |none=>none
def aap (ops:ar Oper):ar Oper->AS->(AS->au R)->au R
 |[],st,K=>K st
 |o::r,st,K=>ig E Γ an ops o st λst'=>aap ops r st' K
def dR:Code->Nat
 | .region id _ _=>id
 | .seq a _=>dR a
 | .block _ c=>dR c
 | .loop c=>dR c
 | .cond _ a b=>match dR a with|0=>dR b|n=>n
 |_=>0
def Cp (c:Code):Nat:=1000000+2*dR c
def lW (l:ec):Code->ar Code
 | .seq a b=>lW l a++(bif l.contains (dR b) then b::lW l b else lW l b)
 | .cond _ a b=>lW l a++lW l b
 | .block _ c=>lW l c
 | .loop c=>lW l c
 |_=>[]
def Hw (l:ec)(fn:Func)(k:Nat):Code:=(nth (lW l (fn.body.getD .skip)) k).getD .skip
def jd:Code->ar Code
 | .seq a b=>jd a++jd b
 | .cond _ a b=>jd a++jd b
 | .block _ c=>jd c
 | .loop c=>c::jd c
 |_=>[]
def gJ (fn:Func)(k:Nat):Code:=(nth (jd (fn.body.getD .skip)) k).getD .skip
def Fs (j:Nat):Nat:=3*(4096*1000003+j)
def lS.MC:lS->au Nat
 | .slot s j=>bif Nat.ble 4096 j then none else bif Nat.ble 1000000 s then none else some (3*(4096*s+j))
 | .box s j=>bif Nat.ble 4096 j then none else some (3*(4096*s+j)+1)
 | .io j=>bif Nat.ble 4096 j then none else some (Fs j)
def AC.amp (io:ar AC)(j t:Nat)(e:CT):au (ar e.D):=
 match nth io j with
 |some (.sl (.own (some t')) e' ys)=>if h:e'=e then bif t'==t then some (h▸ys) else none else none
 |_=>none
def AC.mask (keep:ec)(ep:Nat)(io:ar AC)(rt:lS):AC->AC
 | .ptr s off=>if keep.contains s then .ptr s off else .bot
 | .sl (.loc e pv) t xs=>
   match pv with
   |some (.io j,n)=>match AC.amp io j n t with
    |some ys=> .sl (.loc 0 ((lS.MC (.io j)).map λq=>(.io j,q))) t ys
    |none=>if e==ep then .sl (.loc 0 none) t xs else .bot
   |_=>if e==ep then .sl (.loc 0 none) t xs else .bot
 | .sl (.own _) t xs=> .sl (.own rt.MC) t xs
 | .sl (.nest ..) _ _=> .bot
 | .sl (.part ..) _ _=> .bot
 | .sl (.fK _ i _) e xs=> .sl (.fK none i none) e xs
 | .Hy _ _ _ _ _=> .bot
 |c=>c
def RF (keep:ec)(ep:Nat)(io:ar AC)(f:Nat->lS):Nat->ar AC->ar AC
 |_,[]=>[]
 |j,c::cs=>c.mask keep ep io (f j)::RF keep ep io f (j+1) cs
def AV.mask (keep:ec)(ep:Nat)(io:ar AC)(s:Nat):AV->AV
 | .val g cs=> .val g (RF keep ep io (.slot s) 0 cs)
 | .zU _=> .bot
def qw (keep:ec)(ep:Nat)(io:ar AC):Nat->ar AV->ar AV
 |_,[]=>[]
 |i,v::r=>(if keep.contains i then v.mask keep ep io i else .bot)::qw keep ep io (i+1) r
def qv (keep:ec)(ep:Nat)(io:ar AC):Nat->ar (au (ar AC))->ar (au (ar AC))
 |_,[]=>[]
 |i,b::r=>(if keep.contains i then b.map (RF keep ep io (.box i) 0) else none)::qv keep ep io (i+1) r
def afO (keep:ec):Nat->ar AC->ar AC
 |_,[]=>[]
 |j,c::cs=>(match c with| .sl (.own _) e xs=> .sl (.own (lS.MC (.io j))) e xs| .sl (.fK _ i _) e xs=> .sl (.fK none i none) e xs| .ptr s off=>if keep.contains s then .ptr s off else .bot|c=>bif c.gZ then c else .bot)::afO keep (j+1) cs
def AS.mask (keep:ec)(st:AS):AS:=
 ⟨qw keep st.ep st.io 0 st.slots,qv keep st.ep st.io 0 st.boxes,0,List.replicate st.slots.length false,afO keep 0 st.io⟩
def getBool (st:AS)(s:Nat):au Bool:=
 match st.get s with
 | .val false [.bool b]=>some b
 |_=>none
def iq (an:An)(ds:ec)(o:Oper):Bool:=
 match o.op with
 | .assign (.const _)=> !GJ an o
 | .assign (.tmp t)=>ds.contains t&& !GJ an o
 | .move _| .load ..=>match o.dst with|some d=> !an.mv.contains d|none=>false
 | .slice ..=> !MG an o
 | .pick ..| .binOp ..| .unOp ..| .fieldAddr ..| .indexAddr ..| .index ..| .nilCheck _=>true
 | .build _ ps=>ps.isEmpty
 | .call {callee:=.builtin .len,..}| .call {callee:=.builtin .min,..}| .call {callee:=.builtin .max,..}=>true
 | .call {callee:=.value _,..}=>true
 |_=>false
def OB (ops:ar Oper):ec:=ops.filterMap (·.dst)
def AS.Hx (st:AS):ec->AS
 |[]=>st
 |d::r=>((st.put (some d) .bot).fQ (some d)).Hx r
def NK (ops:ar Oper)(A:ar ec):Nat->ar Oper->AS->(AS->au R)->au R
 |_,[],st,K=>K st
 |i,o::r,st,K=>bif dH E an (xq an A i 0 ops) o st then ig E Γ an ops o st λst'=>NK ops A (i+1) r st' K else none
def LH (ops:ar Oper)(draw:Bool)(st:AS)(K:AS->au R):au R:=
 bif draw then(bif abu an ops then NK E Γ.O5 an ops (aa9 ops []) 0 ops st K else none) else aap E Γ an ops ops st K
def aax (id:Nat)(ops:ar Oper)(draw:Bool)(st:AS)(K:AS->au R):au R:=
 match an.merge id with
 |none=>LH E Γ an ops draw st K
 |some s=>
  if ops.all (iq an (OB ops)) then
   aa (LH E Γ.calm an ops draw st λst'=>getBool st' s) λb=>K ((st.Hx (OB ops)).put (some s) (.one (.bool b)))
  else none
def E3 (key:ec)(B:AS->(Ex->AS->au R)->au R):Nat->AS->(Ex->AS->au R)->au R
 |0,_,_=>none
 |m+1,st,K=>B st λe st'=>
  match e with
  | .normal=>E3 key B m (st'.mask key) K
  |e=>K e (st'.mask key)
def den (Λ:Lm):Code->AS->(Ex->AS->au R)->au R
 | .skip,st,K=>K .normal st
 | .region id ops draw,st,K=>aax E Γ an id ops.toList draw st (K .normal)
 | .seq a b,st,K=>den Λ a st λe st'=>match e with
   | .normal=>bif an.cut.contains (dR b) then(Λ (Cp b)).go (st'.mask (an.mask (Cp b))) K else den Λ b st' K
   |e=>K e st'
 | .cond c a b,st,K=>
   match st.rd c with
   | .val false [.bool t]=>cond t (den Λ a st K) (den Λ b st K)
   |_=>none
 | .block id c,st,K=>den Λ c st λe st'=>
   match e with
   | .exit j=>if j==id then K .normal st' else K (.exit j) st'
   |e=>K e st'
 | .loop c,st,K=>
   bif an.peel.contains (dR c) then den Λ c (st.mask (an.mask (dR c))) λe st'=>
    match e with
    | .normal=>(Λ (dR c)).go (st'.mask (an.mask (dR c))) K
    |e=>K e (st'.mask (an.mask (dR c)))
   else(Λ (dR c)).go (st.mask (an.mask (dR c))) K
 | .exit id,st,K=>K (.exit id) st
 | .ret,st,K=>K .ret st
 |_,_,_=>none
end
def VR (st:AS)(E:Env):ResultVar->au ((Bool×Nat)×Bool×ar AC)
 | .tmp t=>match st.get t with| .val g cs=>some ((false,t),g,cs.map AC.strip)|_=>none
 | .cell t T=>match jR E.ty T,st.get t with
   |some sh,.val false [.ptr s off]=>((nth st.boxes s).getD none).bind λcs=>
    if off+sh.ct.size<=cs.length then some ((true,s),sh.agg,((cs.drop off).take sh.ct.size).map AC.strip) else none
   |_,_=>none
def rG (st:AS)(E:Env):ar (Bool×Nat)->ar ResultVar->au (ar (Bool×ar AC))
 |_,[]=>some []
 |had,r::rs=>(VR st E r).bind λx=>if had.contains x.1 then none else(rG st E (x.1::had) rs).bind λxs=>some (x.2::xs)
def results (E:Env)(rs:ar ResultVar)(st:AS):au AV:=
 match rG st E [] rs with
 |some [(g,cs)]=>some (.val g cs)
 |some vs=>some (.zU vs)
 |none=>none
def qT (fn:Func)(args:ar AV):AS:=⟨args++List.replicate (fn.ntmps-args.length) .bot,List.replicate (args.length+(fn.ntmps-args.length)) none,0,List.replicate fn.ntmps false,[]⟩
abbrev jf:ar (Bool×FT)->Type
 |[]=>Unit
 |[(_,t)]=>t.ct.D
 |(_,t)::r=>t.ct.D×jf r
def lz:(l:ar (Bool×FT))->ar (Bool×ar AC)->au (jf l)
 |[],[]=>some ()
 |[(g,t)],[(g',cs)]=>bif g==g' then(match TQ t cs with|some (x,[])=>some x|_=>none) else none
 |(g,t)::p::r,(g',cs)::vs=>bif g==g' then(match TQ t cs with|some (x,[])=>(lz (p::r) vs).bind λy=>some (x,y)|_=>none) else none
 |_,_=>none
def aqy:(l:ar (Bool×FT))->jf l->ar (Bool×ar AC)
 |[],_=>[]
 |[(g,t)],x=>[(g,jT t x)]
 |(g,t)::p::r,x=>(g,jT t x.1)::aqy (p::r) x.2
def Cm (l:ar (Bool×FT))(x:jf l):AV:=
 match aqy l x with
 |[(g,cs)]=> .val g cs
 |vs=> .zU vs
def LI (E:Env)(Γ:Ci)(an:An)(Λ:Lm)(fn:Func)(rs:ar (Bool×FT))(args:ar AV):au (jf rs):=
 match fn.body with
 |some c=>if args.length=fn.params.size then den E Γ an Λ c (qT fn args) λe st=>
  match e with
  | .exit _=>none
  |_=>aa (rG st E [] fn.results.toList) (lz rs)
  else none
 |none=>none
def evalAlt (E:Env)(Γ:Ci)(an:An)(Λ:Lm)(fn:Func)(rs Tt:ar (Bool×FT))(h:jf Tt=jf rs)(args:ar AV):au (Bool×jf rs):=
 match fn.body with
 |some c=>if args.length=fn.params.size then den E Γ an Λ c (qT fn args) λe st=>
  match e with
  | .exit _=>none
  |_=>aa (rG st E [] fn.results.toList) λys=>
   match lz rs ys with
   |some y=>some (true,y)
   |none=>match lz Tt ys with
    |some y=>some (false,cast h y)
    |none=>none
  else none
 |none=>none
def afD:Nat->ar AC->ar AC
 |_,[]=>[]
 |j,.sl _ e xs::cs=> .sl (.own (some (Fs j))) e xs::afD (j+1) cs
 |j,c::cs=>c::afD (j+1) cs
def GI:Nat->ar AC->ar AC
 |_,[]=>[]
 |j,.sl _ e xs::cs=> .sl (.loc 0 (some (.io j,Fs j))) e xs::GI (j+1) cs
 |j,c::cs=>c::GI (j+1) cs
def Nu (fn:Func)(g:Bool)(cs:ar AC)(args:ar AV):AS:={qT fn (.val g (GI 0 cs)::args)with io:=afD 0 cs}
def ae2 (E:Env)(Γ:Ci)(an:An)(Λ:Lm)(fn:Func)(rs:ar (Bool×FT))(t:CT)(args:ar AV):au (jf rs×t.D):=
 match fn.body,args with
 |some c,.val g cs::xs=>if xs.length+1=fn.params.size/\cs.all AC.afE=true then den E Γ an Λ c (Nu fn g cs xs) λe st=>
  match e with
  | .exit _=>none
  |_=>aa (aa (rG st E [] fn.results.toList) (lz rs)) λr=>
   match jM t st.io with
   |some (x,[])=>some (r,x)
   |_=>none
  else none
 |_,_=>none
def Pn:Nat->ar AC->ar AC
 |_,[]=>[]
 |j,.sl (.own _) e xs::cs=> .sl (.own (some (3*j+1))) e xs::Pn (j+1) cs
 |j,c::cs=>c::Pn (j+1) cs
def Hk (fn:Func)(cs:ar AC)(args:ar AV):AS:=
 {qT fn (.one (.ptr 0 0)::args)with boxes:=some (Pn 0 cs)::List.replicate (args.length+(fn.ntmps-(args.length+1))) none,io:=[.ptr 0 0]}
def ZI (E:Env)(Γ:Ci)(an:An)(Λ:Lm)(fn:Func)(rs:ar (Bool×FT))(t:FT)(args:ar AV):au (jf rs×t.ct.D):=
 match fn.body,args with
 |some c,.val true cs::xs=>if xs.length+1=fn.params.size/\cs.all (AC.EZ true)=true then den E Γ an Λ c (Hk fn cs xs) λe st=>
  match e with
  | .exit _=>none
  |_=>aa (aa (rG st E [(true,0)] fn.results.toList) (lz rs)) λr=>
   match st.io,st.boxes with
   |[.ptr 0 0],some oY::_=>match TQ t (oY.map AC.strip)with
    |some (x,[])=>some (r,x)
    |_=>none
   |_,_=>none
  else none
 |_,_=>none
def TK (E:Env)(Γ:Ci)(an:An)(Λ:Lm)(fn:Func)(t:FT)(args:ar AV):au t.ct.D:=
 match fn.body with
 |some c=>if args.length=fn.params.size then den E Γ an Λ c (qT fn args) λe st=>
  match e with
  | .exit _=>none
  |_=>match fn.results.toList with
   |[.tmp i]=>match st.get i with
    | .val false [.ptr s 0]=>match (nth st.boxes s).getD none with
      |some cs=>if cs.all AC.Q9=true then(match TQ t (cs.map AC.strip)with|some (x,[])=>some x|_=>none) else none
      |none=>none
    |_=>none
   |_=>none
  else none
 |none=>none
end Go.Dn
