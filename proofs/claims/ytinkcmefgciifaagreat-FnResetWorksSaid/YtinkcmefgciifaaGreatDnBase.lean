import Derived.Test.YtinkcmefgciifaaGreatDnData
/- An abstract, heap-free semantics of the model's code, for functions that treat their data by value: definitions. -/
namespace Go.Dn
inductive mq where
 |slot (s j:Nat)|box (s j:Nat)|io (j:Nat)
 deriving DecidableEq
inductive sC where
 |own (tag:Option Nat)
 |loc (ep:Nat) (pv:Option (mq×Nat))
 |arg (k:Bool)
 |nest (ep:Nat) (r:mq) (t:Nat) (e:CT) (i:Int) (off:Nat)
 |part (ep:Nat) (r:mq) (t:Nat) (lo:Int)
 |gH (tag:Option Nat) (i:Int) (ep:Option Nat)
inductive AC where
 |int (k:IntKind) (n:Int)|bool (b:Bool)|str (s:List UInt8)
 |sl (fl:sC) (e:CT) (xs:List e.D)
 |lj
 |ptr (s off:Nat)
 |C5 (fl:sC) (e:CT) (x:e.D) (i:Int) (off:Nat)
 |fn (f:Nat)
 |un
 |bot
inductive AV where
 |val (agg:Bool) (cs:List AC)
 |xN (vs:List (Bool×List AC))
abbrev AV.one (c:AC):AV:=.val false [c]
abbrev AV.bot:AV:=.val false [.bot]
structure AS where
 slots:List AV
 boxes:List (Option (List AC))
 ep:Nat
 iss:List Bool
 io:List AC
structure Shape where
 agg:Bool
 ct:CT
 lD:List (Nat×Nat):=[]
structure An where
 mask:Nat->List Nat:=λ_=>[]
 merge:Nat->Option Nat:=λ_=>none
 mv:List Nat:=[]
 nest:List Nat:=[]
 mb:Nat->Option Nat:=λ_=>none
 sb:Nat->Option Nat:=λ_=>none
 late:List Nat:=[]
 peel:List Nat:=[]
 nils:List Nat:=[]
 fm:List Nat:=[]
 eb:Nat->Option Nat:=λ_=>none
 es:Nat->Option Nat:=λ_=>none
 er:Nat->Option Nat:=λ_=>none
 cut:List Nat:=[]
def cellsOf:(t:CT)->sC->t.D->az AC
 | .int k,_,n=>[.int k n]
 | .bool,_,b=>[.bool b]
 | .str,_,s=>[.str s]
 | .sl e,fl,xs=>[.sl fl e xs]
 | .pair a b,fl,x=>cellsOf a fl x.1++cellsOf b fl x.2
def mW:(t:CT)->az AC->aC (t.D×az AC)
 | .int k,.int k' n::r=>if k'=k then some (n,r) else none
 | .bool,.bool b::r=>some (b,r)
 | .str,.str s::r=>some (s,r)
 | .sl e,.sl (.own _) e' xs::r=>if h:e'=e then some (h▸xs,r) else none
 | .sl _,.lj::r=>some ([],r)
 | .pair a b,cs=>(mW a cs).bind λx=>(mW b x.2).bind λy=>some ((x.1,y.1),y.2)
 |_,_=>none
def nth {α:Type}:az α->Nat->aC α
 |[],_=>none
 |a::_,0=>some a
 |_::l,n+1=>nth l n
def jt {α:Type}:az α->Nat->α->az α
 |[],_,_=>[]
 |_::l,0,v=>v::l
 |a::l,n+1,v=>a::jt l n v
def AS.get (st:AS)(i:Nat):AV:=(nth st.slots i).getD .bot
def AS.put (st:AS)(d:aC Nat)(v:AV):AS:=
 match d with
 |some d=>{st with slots:=jt st.slots d v}
 |none=>st
def Kc (d j:Nat):Nat:=3*(4096*d+j)+2
def AS.jz (st:AS)(d:aC Nat)(j:Nat):aC Nat:=
 match d with
 |some d=>bif (nth st.iss d).getD true then none else bif Nat.ble 4096 j then none else some (Kc d j)
 |none=>none
def AS.gO (st:AS)(d:aC Nat):AS:=
 match d with
 |some d=>{st with iss:=jt st.iss d true}
 |none=>st
def AS.rF (st:AS)(d:aC Nat)(e:CT)(xs:az e.D):AS:=
 (st.gO d).put d (.one (.sl (.own (st.jz d 0)) e xs))
def AC.borrow (ep:Nat)(rt:aC mq):AC->AC
 | .sl (.own tag) e xs=> .sl (.loc ep (match rt,tag with|some r,some t=>some (r,t)|_,_=>none)) e xs
 | .sl (.gH tag _ (some Ol)) e xs=> .sl (.loc Ol (match rt,tag with|some r,some t=>some (r,t)|_,_=>none)) e xs
 | .sl (.gH _ _ none) _ _=> .bot
 |c=>c
def jK (ep:Nat)(f:Nat->mq):Nat->az AC->az AC
 |_,[]=>[]
 |j,c::cs=>c.borrow ep (some (f j))::jK ep f (j+1) cs
def bg (ep:Nat)(cs:az AC):az AC:=cs.map (AC.borrow ep none)
def AV.borrow (ep:Nat)(f:Nat->mq):AV->AV
 | .val g cs=> .val g (jK ep f 0 cs)
 | .xN vs=> .xN (vs.map λx=>(x.1,bg ep x.2))
def AV.bg (ep:Nat):AV->AV
 | .val g cs=> .val g (Dn.bg ep cs)
 | .xN vs=> .xN (vs.map λx=>(x.1,Dn.bg ep x.2))
def ofConst:Value->AV
 | .int k n=> .one (.int k n)
 | .bool b=> .one (.bool b)
 | .string s=> .one (.str s.data.toList)
 | .slice none 0 0=> .one .lj
 |_=> .bot
def AS.rd (st:AS):Operand->AV
 | .tmp t=>(st.get t).borrow st.ep (.slot t)
 | .const v=>ofConst v
 | .func f=> .one (.fn f)
 | .global _=> .bot
def AS.take (st:AS):Operand->AV×AS
 | .tmp t=>(st.get t,st.put (some t) ((st.get t).bg st.ep))
 |x=>(st.rd x,st)
def AS.fU (st:AS)(s:Nat)(b:aC (az AC)):AS:={st with boxes:=jt st.boxes s b}
def AC.asArg (ep:Nat):AC->AC
 | .int k n=> .int k n
 | .bool b=> .bool b
 | .str s=> .str s
 | .sl (.own _) e xs=> .sl (.arg false) e xs
 | .sl (.loc ep' _) e xs=>if ep'==ep then .sl (.arg false) e xs else .bot
 | .sl (.arg _) e xs=> .sl (.arg false) e xs
 | .lj=> .lj
 | .fn f=> .fn f
 |_=> .bot
def AV.asArg (ep:Nat):AV->AV
 | .val g cs=> .val g (cs.map (AC.asArg ep))
 | .xN _=> .bot
def AC.E8 (ep:Nat)(tag:aC Nat):AC->AC
 | .sl (.own _) e xs=> .sl (.own tag) e xs
 | .sl (.arg _) e xs=> .sl (.loc ep none) e xs
 | .sl (.loc _ _) _ _=> .bot
 | .sl (.nest ..) _ _=> .bot
 | .sl (.part ..) _ _=> .bot
 | .sl (.gH _ i _) e xs=> .sl (.gH none i none) e xs
 | .ptr _ _=> .bot
 | .C5 _ _ _ _ _=> .bot
 |c=>c
def JX (ep:Nat)(mk:Nat->aC Nat):Nat->az AC->az AC
 |_,[]=>[]
 |j,c::cs=>c.E8 ep (mk j)::JX ep mk (j+1) cs
def aa6 (ep:Nat)(mk:Nat->aC Nat):Nat->az (Bool×az AC)->az (Bool×az AC)
 |_,[]=>[]
 |j,t::ts=>(t.1,JX ep mk j t.2)::aa6 ep mk (j+t.2.length) ts
def AV.E8 (ep:Nat)(mk:Nat->aC Nat):AV->AV
 | .val g cs=> .val g (JX ep mk 0 cs)
 | .xN vs=> .xN (aa6 ep mk 0 vs)
def AC.IL:AC->Bool
 | .sl (.arg _) _ _=>true
 | .int ..=>true
 | .bool _=>true
 | .str _=>true
 | .fn _=>true
 |_=>false
structure kH where
 R:Type
 fn:List AV->Option R
 av:R->AV
 io:Bool:=false
 back:R->List AC:=λ_=>[]
 bx:Bool:=false
 pr:Bool:=false
 sel:R->Bool:=λ_=>true
 alt:R->AV:=λ_=> .val false [.bot]
 cur:Bool:=false
 hcur:cur=true->∀y,(back y).all AC.IL=true:=by intro h;cases h
def kH.res (F:kH)(y:F.R):AV:=cond (F.sel y) (F.av y) (F.alt y)
abbrev Bx:=Nat->kH
def kH.dead:kH:={R:=Unit,fn:=λ_=>none,av:=λ_=> .val false [.bot]}
def Bx.calm (Γ:Bx):Bx:=λf=>bif (Γ f).io||(Γ f).bx||(Γ f).pr then kH.dead else Γ f
def Bx.Iu (Γ:Bx):Bx:=λf=>bif (Γ f).io||(Γ f).pr||((Γ f).bx&& !(Γ f).cur) then kH.dead else Γ f
def Jy {R:Type}(op:BinOp)(k:IntKind)(x y:Int)(K:AC->aC R):aC R:=
 match op with
 | .add=>K (.int k (k.wrap (x+y)))
 | .sub=>K (.int k (k.wrap (x-y)))
 | .mul=>K (.int k (k.wrap (x*y)))
 | .quo=>if y=0 then none else K (.int k (k.wrap (x.tdiv y)))
 | .rem=>if y=0 then none else K (.int k (x.tmod y))
 | .and=>K (.int k (k.wrap (BitVec.ofInt k.bits x&&&BitVec.ofInt k.bits y).toNat))
 | .or=>K (.int k (k.wrap (BitVec.ofInt k.bits x|||BitVec.ofInt k.bits y).toNat))
 | .xor=>K (.int k (k.wrap (BitVec.ofInt k.bits x^^^BitVec.ofInt k.bits y).toNat))
 | .andNot=>K (.int k (k.wrap (BitVec.ofInt k.bits x&&&~~~ BitVec.ofInt k.bits y).toNat))
 | .eql=>K (.bool (x==y))
 | .neq=>K (.bool (x !=y))
 | .lss=>K (.bool (decide (x<y)))
 | .leq=>K (.bool (decide (x<=y)))
 | .gtr=>K (.bool (decide (x>y)))
 | .geq=>K (.bool (decide (x>=y)))
 |_=>none
def MB {R:Type}(op:BinOp)(x y:az UInt8)(K:AC->aC R):aC R:=
 match op with
 | .add=>room (x.length+y.length) (K (.str (x++y)))
 | .eql=>K (.bool (x==y))
 | .neq=>K (.bool (!(x==y)))
 | .lss=>K (.bool (Op.bytesLess x y))
 | .leq=>K (.bool (Op.bytesLess x y||x==y))
 | .gtr=>K (.bool (!(Op.bytesLess x y||x==y)))
 | .geq=>K (.bool (!(Op.bytesLess x y)))
 |_=>none
def wB:az AC->az AC->aC Bool
 |[],[]=>some true
 | .int k x::r,.int k' y::r'=>if k=k' then(wB r r').bind λb=>some ((x==y)&&b) else none
 | .bool x::r,.bool y::r'=>(wB r r').bind λb=>some ((x==y)&&b)
 | .str x::r,.str y::r'=>(wB r r').bind λb=>some ((x==y)&&b)
 |_,_=>none
def Hi {R:Type}(op:BinOp)(x y:AV)(K:AC->aC R):aC R:=
 match x,y with
 | .val false [.int k a],.val false [.int k' b]=>
   match op with
   | .shl=>if b<0 then none else K (.int k (k.wrap (a*2^(min b.toNat k.bits))))
   | .shr=>if b<0 then none else K (.int k (a.fdiv (2^(min b.toNat k.bits))))
   |_=>if k=k' then Jy op k a b K else none
 | .val false [.str a],.val false [.str b]=>MB op a b K
 | .val false [.bool a],.val false [.bool b]=>
   match op with
   | .eql=>K (.bool (a==b))
   | .neq=>K (.bool (!(a==b)))
   |_=>none
 | .val true xs,.val true ys=>
   match op with
   | .eql=>aa (wB xs ys) λb=>K (.bool b)
   | .neq=>aa (wB xs ys) λb=>K (.bool (!b))
   |_=>none
 |_,_=>none
def unC {R:Type}(op:UnOp)(x:AV)(K:AC->aC R):aC R:=
 match op,x with
 | .not,.val false [.bool b]=>K (.bool (!b))
 | .neg,.val false [.int k n]=>K (.int k (k.wrap (0-n)))
 | .xor,.val false [.int k n]=>Jy .xor k (if k.signed then-1 else k.max) n K
 |_,_=>none
def fD (cs:az AC)(off:Nat)(vs:az AC):az AC:=cs.take off++vs++cs.drop (off+vs.length)
def AS.gh (st:AS):mq->aC AC
 | .slot s j=>match st.get s with| .val _ cs=>nth cs j|_=>none
 | .box s j=>((nth st.boxes s).getD none).bind λcs=>nth cs j
 | .io j=>nth st.io j
def AS.gq (st:AS)(r:mq)(c:AC):AS:=
 match r with
 | .slot s j=>match st.get s with| .val g cs=>st.put (some s) (.val g (jt cs j c))|_=>st
 | .box s j=>match (nth st.boxes s).getD none with|some cs=>st.fU s (some (jt cs j c))|none=>st
 | .io j=>{st with io:=jt st.io j c}
def AS.fresh (st:AS):AC->AC
 | .sl (.loc ep (some (r,t))) e xs=>
   bif ep==st.ep then .sl (.loc ep (some (r,t))) e xs else
    match st.gh r with
    |some (.sl (.own (some t')) e' ys)=>if h:e'=e then bif t'==t then .sl (.loc st.ep (some (r,t))) e (h▸ys) else .sl (.loc ep (some (r,t))) e xs else .sl (.loc ep (some (r,t))) e xs
    |_=> .sl (.loc ep (some (r,t))) e xs
 |c=>c
def AV.fresh (st:AS):AV->AV
 | .val g cs=> .val g (cs.map st.fresh)
 | .xN vs=> .xN vs
def AC.now (ep:Nat):AC->Bool
 | .sl (.loc ep' (some _)) _ _=>ep'==ep
 |_=>true
def AS.rb {R:Type}(st:AS)(r:mq)(t:Nat)(e:CT)(i:Int)(off:Nat)(vs:az AC)(K:AS->aC R):aC R:=
 match st.gh r with
 |some (.sl (.own (some t')) e' xs)=>
  if h:e'=e then
   if t'=t then
    aa (idx (h▸xs:az e.D) i) λx=>
     match mW e (fD (cellsOf e (.own none) x) off vs)with
     |some (x',[])=>K {st.gq r (.sl (.own (some t')) e ((h▸xs:az e.D).set i.toNat x'))with ep:=st.ep+1}
     |_=>none
   else none
  else none
 |some (.sl (.gH (some t') i' _) e' xs)=>
  if h:e'=e then
   if t'=t/\off=0 then
    aa (adA (h▸xs:az e.D) i' i) λ_=>
     match mW e vs with
     |some (x',[])=>K {st.gq r (.sl (.own (some t')) e ((h▸xs:az e.D).set i.toNat x'))with ep:=st.ep+1}
     |_=>none
   else none
  else none
 |_=>none
def AV.cells:AV->az AC
 | .val _ cs=>cs
 | .xN _=>[.bot]
def gi (st:AS):az Operand->az AV×AS
 |[]=>([],st)
 |x::xs=>let (v,st1):=st.take x;let (vs,st2):=gi st1 xs;(v::vs,st2)
def DR (e:CT):az (az AC)->aC (az e.D)
 |[]=>some []
 |cs::r=>match mW e cs with
  |some (x,[])=>(DR e r).bind λxs=>some (x::xs)
  |_=>none
def Jw:Nat->az (Nat×Operand)->Bool
 |_,[]=>true
 |n,(i,_)::r=>i==n&&Jw (n+1) r
def AC.J4:AC->Bool
 | .bot=>false
 | .un=>false
 |_=>true
def ya (lD:az (Nat×Nat))(zero:az AC):az (Nat×az AC)->aC (az AC)
 |[]=>some zero
 |(i,cs)::r=>match nth lD i with
  |some (off,n)=>if cs.length=n/\off+n<=zero.length/\cs.all AC.J4 then ya lD (fD zero off cs) r else none
  |none=>none
inductive LK where
 |int|bool|str
 deriving DecidableEq
structure Env where
 ty:List (Nat×Shape)
 eqs:List (Nat×List LK):=[]
 fts:List ((Nat×Nat)×Nat):=[]
def St (l:az (Nat×az LK))(t:Nat):aC (az LK):=
 match l with
 |[]=>none
 |(u,sh)::r=>bif u==t then some sh else St r t
def fits:az LK->az AC->Bool
 |[],[]=>true
 | .int::ls,.int _ _::r=>fits ls r
 | .bool::ls,.bool _::r=>fits ls r
 | .str::ls,.str _::r=>fits ls r
 |_,_=>false
def Xe (l:az ((Nat×Nat)×Nat))(S f:Nat):aC Nat:=
 match l with
 |[]=>none
 |((u,k),T)::r=>bif u==S&&k==f then some T else Xe r S f
def kv (l:az (Nat×Shape))(t:Nat):aC Shape:=
 match l with
 |[]=>none
 |(u,sh)::r=>bif u==t then some sh else kv r t
def Env.sl (E:Env)(t:Nat):aC CT:=
 match kv E.ty t with
 |some ⟨false,.sl e,_⟩=>some e
 |_=>none
def Env.str (E:Env)(t:Nat):Bool:=
 match kv E.ty t with
 |some ⟨false,.str,_⟩=>true
 |_=>false
def Env.bool (E:Env)(t:Nat):Bool:=
 match kv E.ty t with
 |some ⟨false,.bool,_⟩=>true
 |_=>false
def Env.bytes (E:Env)(t:Nat):Bool:=
 match kv E.ty t with
 |some ⟨false,.sl (.int .u8),[(te,_)]⟩=>match kv E.ty te with|some ⟨false,.int .u8,_⟩=>true|_=>false
 |_=>false
def sC.live (ep:Nat):sC->Bool
 | .loc ep' _=>ep'==ep
 | .arg _=>true
 | .own _=>false
 | .nest ..=>false
 | .part ..=>false
 | .gH ..=>false
def sC.ou (ep:Nat)(flat:Bool):sC->Bool
 | .loc ep' _=>ep'==ep&&flat
 | .arg _=>flat
 | .own _=>true
 | .nest ..=>false
 | .part ..=>false
 | .gH ..=>false
def sC.bare:sC->sC
 | .loc ep _=> .loc ep none
 |f=>f
def AC.kP:AC->Bool
 | .int _ _=>true
 | .bool _=>true
 | .str _=>true
 | .fn _=>true
 |_=>false
def tm:Operand->gk
 | .tmp t=>[t]
 |_=>[]
def Rx (l:az Operand):gk:=l.flatMap tm
def GB (an:An)(o:Oper):Bool:=
 match o.dst with
 |some d=>an.mv.contains d&&(an.mb d).isNone
 |none=>false
def aou (an:An)(o:Oper):Bool:=
 match o.dst with
 |some d=>an.nils.contains d
 |none=>false
def B6 (an:An)(o:Oper):Bool:=
 match o.op with
 | .assign (.tmp s)=>an.late.contains s
 | .store _ _ (.tmp s)=>an.late.contains s
 |_=>false
def tmO:aC Operand->gk
 |some x=>tm x
 |none=>[]
def eF (o:Oper):gk:=
 match o.op with
 | .move x=>tm x
 | .assign x=>tm x
 | .pick c a b=>tm c++tm a++tm b
 | .box _ x=>tm x
 | .load _ p=>tm p
 | .store _ p x=>tm p++tm x
 | .nilCheck x=>tm x
 | .binOp _ _ x y _=>tm x++tm y
 | .unOp _ _ x=>tm x
 | .fieldAddr _ p _=>tm p
 | .indexAddr _ x i=>tm x++tm i
 | .index _ x i=>tm x++tm i
 | .build _ parts=>Rx (parts.toList.map (·.2))
 | .buildSlice _ _ parts=>Rx (parts.toList.map (·.2))
 | .makeSlice _ n c=>tm n++tm c
 | .slice _ x lo hi none=>tm x++tmO lo++tmO hi
 | .convert _ _ x=>tm x
 | .extract (.tmp t) _=>[t]
 | .call {callee:=.builtin _,args,..}=>Rx args.toList
 | .call {callee:=.value f,args,..}=>tm f++Rx args.toList
 |_=>[]
def Gz (an:An)(o:Oper):Bool:=
 match o.op with
 | .move _=>match o.dst with|some d=>an.mv.contains d|none=>false
 | .assign _=>true
 | .box ..=>true
 | .build ..=>true
 | .buildSlice ..=>true
 | .store ..=>true
 | .extract ..=>match o.dst with|some d=>an.mv.contains d|none=>false
 | .call {callee:=.builtin .append,..}=>true
 |_=>false
def Gx (an:An)(o:Oper):Bool:=
 match o.op,o.dst,o.guard with
 | .load _ (.tmp q),some d,none=>an.mv.contains d&&(an.mb d).isNone&&(an.eb q).isSome
 |_,_,_=>false
def CK (an:An)(o:Oper):Bool:=
 match o.op,o.dst,o.guard with
 | .load _ (.tmp q),some d,none=> !an.mv.contains d&& !an.fm.contains d&&(an.sb q).isSome
 |_,_,_=>false
def GF (an:An)(o:Oper):gk:=
 match o.op with
 | .alloc _=>o.dst.toList
 | .box ..=>o.dst.toList
 | .load _ p=>match o.dst with|some d=>bif an.mv.contains d then(an.mb d).toList++(bif Gx an o then(match p with| .tmp q=>(an.eb q).toList|_=>[]) else []) else []|none=>[]
 | .store _ (.tmp p) _=>(an.sb p).toList
 | .call {callee:=.value _,args,..}=>(match args.toList with| .tmp q::_=>(an.sb q).toList|_=>[])
 |_=>[]
def px (an:An)(o:Oper):Bool:=
 match o.op with
 | .move _=>true
 | .load ..=>(match o.dst with|some d=> !an.mv.contains d||(an.mb d).isSome|none=>false)||Gx an o
 | .extract (.tmp _) _=>true
 | .store _ (.tmp p) _=>(an.sb p).isSome&& !B6 an o
 | .assign _=> !B6 an o
 | .pick ..| .alloc _| .box ..| .nilCheck _| .binOp ..| .unOp ..| .fieldAddr ..| .indexAddr ..| .index ..| .build ..| .buildSlice ..| .makeSlice ..| .convert ..=>true
 | .slice _ _ _ _ none=> !GB an o
 | .call {callee:=.builtin .len,..}| .call {callee:=.builtin .min,..}| .call {callee:=.builtin .max,..}| .call {callee:=.builtin .append,..}=>true
 | .call {callee:=.value _,..}=>true
 |_=>false
def writes (an:An)(o:Oper):gk:=o.dst.toList++(bif Gz an o then eF o else [])
def AV.now (ep:Nat):AV->Bool
 | .val _ cs=>cs.all (AC.now ep)
 | .xN _=>true
def AC.mS:AC->Bool
 | .int ..=>true
 | .bool _=>true
 | .str _=>true
 | .fn _=>true
 | .ptr ..=>true
 |_=>false
def AV.mS:AV->Bool
 | .val _ cs=>cs.all AC.mS
 | .xN _=>false
def FN (E:Env)(T:TypeId)(st:AS)(s off:Nat):Bool:=
 match kv E.ty T,(nth st.boxes s).getD none with
 |some sh,some cs=>((cs.drop off).take sh.ct.size).all AC.mS
 |_,_=>false
def YC (an:An)(o:Oper):Bool:=match o.dst with|some d=>an.fm.contains d|none=>false
def Dk (an:An)(o:Oper):Bool:=
 match o.op,o.dst,o.guard with
 | .load _ (.tmp _),some d,none=>an.mv.contains d&&(an.mb d).isSome
 |_,_,_=>false
def OC (an:An)(o:Oper):Bool:=
 match o.op,o.dst,o.guard with
 | .load _ (.tmp _),some d,none=> !an.mv.contains d&&an.fm.contains d
 |_,_,_=>false
def erS (an:An)(o:Oper):gk:=
 match o.op,o.dst with
 | .load ..,some d=>(an.er d).toList
 | .call {callee:=.value _,..},some d=>(an.er d).toList
 |_,_=>[]
def AC.aid (l:gk):AC->Bool
 | .sl (.loc _ (some (.slot b _,_))) _ _=>l.contains b
 | .sl (.loc _ _) _ _=>false
 |_=>true
def J0 (l:gk)(st:AS):Operand->Bool
 | .tmp t=>(match st.get t with| .val _ cs=>cs.all (AC.aid l)| .xN _=>true)
 |_=>true
def afU (an:An)(X l:gk)(st:AS)(xs:az Operand)(q:Nat):AV->Bool
 | .val false [.ptr s _]=> !X.contains s&&an.sb q==some s&&(match (nth st.boxes s).getD none with|some cs=>cs.all AC.IL|none=>true)&&xs.all (J0 l st)
 |_=>true
def AV.acv:AV->Bool
 | .val false [.ptr _ _]=>false
 |_=>true
def uV (an:An)(X l:gk)(st:AS):az Operand->Bool
 | .tmp q::xs=>afU an X l st xs q (st.rd (.tmp q))
 |x::_=>(st.rd x).acv
 |[]=>true
def dV (E:Env)(an:An)(X:gk)(o:Oper)(st:AS):Bool:=
 match o.op with
 | .move x=> !YC an o||(st.rd x).mS
 | .indexAddr _ x _=>(st.rd x).now st.ep||(match st.rd x with| .val _ [.sl (.loc _ (some (.box b _,_))) _ _]=> !X.contains b|_=>false)
 | .slice _ x _ _ none=>(st.rd x).now st.ep
 | .call {callee:=.value _,args,..}=>uV an X (erS an o) st args.toList&&args.toList.all λx=>(st.rd x).now st.ep
 | .load T p=>match st.rd p with
   | .val false [.ptr s off]=> !X.contains s&&(match o.dst with|some d=> !an.mv.contains d||an.mb d==some s|none=>true)&&(!YC an o||FN E T st s off)
   | .val false [.C5 fl _ _ _ _]=>(fl.live st.ep||(match fl with
     | .loc _ (some (.slot b _,_))=>(erS an o).contains b
     | .loc _ (some (.box b _,_))=> !X.contains b
     |_=>false))&& !(YC an o||Dk an o)&& !CK an o&&(!Gx an o||(match p,fl with
     | .tmp q,.loc _ (some (.box b _,_))=>an.eb q==some b&& !X.contains b
     |_,_=>false))
   |_=> !(YC an o||Dk an o)
 | .store _ (.tmp p) _=>((an.sb p).isNone&&(an.eb p).isNone&&(an.es p).isNone)||(match st.rd (.tmp p)with
   | .val false [.ptr s _]=> !X.contains s&&an.sb p==some s
   | .val false [.C5 (.loc _ (some (.box b _,_))) _ _ _ _]=>an.eb p==some b&&(an.sb p).isNone&&(an.es p).isNone
   | .val false [.C5 (.loc _ (some (.slot b _,_))) _ _ _ _]=>an.es p==some b&&(an.sb p).isNone&&(an.eb p).isNone
   |_=>false)
 | .extract (.tmp t) i=>match st.get t with
   | .xN vs=>match nth vs i with|some x=>x.2.all AC.kP||(match o.dst with|some d=>an.mv.contains d|none=>false)|none=>true
   |_=>true
 |_=>true
def FU (an:An)(ops:az Oper)(o:Oper):gk:=
 (match o.guard with
 |some (j,_)=>((nth ops j).bind (·.dst)).toList
 |none=>[])++erS an o
def meets (a b:gk):Bool:=a.any λx=>b.contains x
def YR (an:An)(ops:az Oper)(X Y:gk)(o p:Oper):Bool:=
 px an o&&px an p&& !meets (writes an o) (eF p++FU an ops p++writes an p)&& !meets (writes an p) (eF o++FU an ops o)&&
 (GF an o).all (λd=>Y.contains d)&&(GF an p).all (λd=>X.contains d)&& !meets (GF an o) (p.dst.toList++GF an p)&& !meets (GF an p) o.dst.toList
def ZQ (o p:Oper):Bool:=
 match o.op,p.op,o.dst,p.dst,o.guard,p.guard with
 | .extract (.tmp t) i,.extract (.tmp t') j,some d,some d',none,none=>t==t'&& !(i==j)&& !(d==d')&& !(d==t)&& !(d'==t)
 |_,_,_,_,_,_=>false
def ZM (an:An)(o p:Oper):Bool:=
 match p.op,p.dst,p.guard with
 | .store _ (.tmp q) (.tmp x),none,none=>((an.eb q).isSome&&(an.es q).isNone||(match an.es q with|some b=>(an.eb q).isNone&& !(b==x)&& !(b==q)&& !meets [b] (o.dst.toList++eF o)|none=>false))&&(an.sb q).isNone&& !B6 an p&&(match o.op,o.dst,o.guard with
   | .move (.tmp t),some d,none=> !an.mv.contains d&&an.fm.contains d&& !(d==q)&& !(d==x)&& !(t==x)&& !(t==q)&& !(d==t)
   | .extract (.tmp t) _,some d,none=> !(d==q)&& !(d==x)&& !(t==x)&& !(t==q)&& !(d==t)
   |_,_,_=>false)
 |_,_,_=>false
def aaz (an:An)(o p:Oper):Bool:=
 (Dk an o&&OC an p||OC an o&&Dk an p)&& !meets o.dst.toList (p.dst.toList++eF p)&& !meets p.dst.toList (eF o)
def Zd (an:An)(o p:Oper):Bool:=CK an o&&Gx an p&& !meets o.dst.toList (p.dst.toList++eF p)&& !meets p.dst.toList (eF o)
def ahV (an:An)(o p:Oper):Bool:=ZQ o p||ZM an o p||aaz an o p||Zd an o p
def NP (an:An)(ops:az Oper)(X Y:gk)(o p:Oper):Bool:=ahV an o p||YR an ops X Y o p
def CL (o:Oper):gk:=(o.after.toList.filter (λe=>Region.binds .any e)).map (·.on)
def Vo (a b:gk):gk:=a.foldl (λs x=>bif s.contains x then s else x::s) b
def Vz:az Oper->az gk->az gk
 |[],acc=>acc
 |o::r,acc=>Vz r (acc++[(CL o).foldl (λs j=>Vo (j::(nth acc j).getD []) s) []])
def aeA (A:az gk)(i k:Nat):Bool:=((nth A i).getD []).contains k
def abL (an:An)(A:az gk)(i:Nat)(fl pl:Bool):Nat->az Oper->gk
 |_,[]=>[]
 |k,o::r=>(bif !aeA A i k&& !aeA A k i&& !(k==i)&& !(fl&&Dk an o)&& !(pl&&Gx an o) then GF an o else [])++abL an A i fl pl (k+1) r
def uu (an:An)(A:az gk)(i k:Nat)(ops:az Oper):gk:=abL an A i (match nth ops i with|some o=>OC an o|none=>false) (match nth ops i with|some o=>CK an o|none=>false) k ops
def PI (an:An)(ops:az Oper)(A:az gk)(i:Nat)(oi:Oper):Nat->az Oper->Bool
 |_,[]=>true
 |j,oj::r=>bif Nat.ble i j then true else(aeA A i j||NP an ops (uu an A j 0 ops) (uu an A i 0 ops) oj oi)&&PI an ops A i oi (j+1) r
def UK (an:An)(ops:az Oper)(A:az gk):Nat->az Oper->Bool
 |_,[]=>true
 |i,oi::r=>(CL oi).all (λk=>Nat.blt k i)&&PI an ops A i oi 0 ops&&UK an ops A (i+1) r
def VT (an:An)(ops:az Oper):Bool:=UK an ops (Vz ops []) 0 ops
inductive Ex where
 |normal|ret|exit (id:Nat)
inductive FK where
 |own (tag:Option Nat)|arg|zX|loc|lio (j t:Nat)|nil
def FK.flag:FK->sC
 | .own t=> .own t
 | .arg=> .arg false
 | .zX=> .arg true
 | .loc=> .loc 0 none
 | .lio j t=> .loc 0 (some (.io j,t))
 | .nil=> .arg false
def FK.isNil:FK->Bool
 | .nil=>true
 |_=>false
inductive FT where
 |int (k:IntKind)|bool|str|sl (fl:FK) (e:CT)|pair (a b:FT)
abbrev FT.ct:FT->CT
 | .int k=> .int k
 | .bool=> .bool
 | .str=> .str
 | .sl _ e=> .sl e
 | .pair a b=> .pair a.ct b.ct
def kM:(t:FT)->t.ct.D->az AC
 | .int k,n=>[.int k n]
 | .bool,b=>[.bool b]
 | .str,s=>[.str s]
 | .sl fl e,xs=>[bif fl.isNil then .lj else .sl fl.flag e xs]
 | .pair a b,x=>kM a x.1++kM b x.2
def FK.fits:FK->sC->Bool
 | .own t,.own t'=>t==t'
 | .arg,.arg k=> !k
 | .zX,.arg k=>k
 | .loc,.loc 0 none=>true
 | .lio j t,.loc 0 (some (.io j',t'))=>j==j'&&t==t'
 |_,_=>false
def NA:(t:FT)->az AC->aC (t.ct.D×az AC)
 | .int k,.int k' n::r=>if k'=k then some (n,r) else none
 | .bool,.bool b::r=>some (b,r)
 | .str,.str s::r=>some (s,r)
 | .sl fl e,.sl fl' e' xs::r=>if h:e'=e then bif fl.fits fl' then some (h▸xs,r) else none else none
 | .sl fl _,.lj::r=>bif fl.isNil then some ([],r) else none
 | .pair a b,cs=>(NA a cs).bind λx=>(NA b x.2).bind λy=>some ((x.1,y.1),y.2)
 |_,_=>none
inductive PD where
 |bot|ptr (s off:Nat)|fn (f:Nat)|data (g:Bool) (t:FT)
inductive IoD where
 |none|some (t:FT)|ptr
structure SD where
 slots:List PD
 boxes:List (Option FT)
 io:IoD:=.none
abbrev Ly:az PD->Type
 |[]=>Unit
 | .data _ t::r=>t.ct.D×Ly r
 |_::r=>Ly r
abbrev Kz:az (aC FT)->Type
 |[]=>Unit
 |some t::r=>t.ct.D×Kz r
 |none::r=>Kz r
abbrev ioD:IoD->Type
 | .none=>Unit
 | .some t=>t.ct.D
 | .ptr=>Unit
abbrev SD.D (d:SD):Type:=Ly d.slots×Kz d.boxes×ioD d.io
def uw:(l:az PD)->Ly l->az AV
 |[],_=>[]
 | .data g t::r,x=> .val g (kM t x.1)::uw r x.2
 | .bot::r,x=> .bot::uw r x
 | .ptr s off::r,x=> .one (.ptr s off)::uw r x
 | .fn f::r,x=> .one (.fn f)::uw r x
def Dv:(l:az (aC FT))->Kz l->az (aC (az AC))
 |[],_=>[]
 |some t::r,x=>some (kM t x.1)::Dv r x.2
 |none::r,x=>none::Dv r x
def agD:(o:IoD)->ioD o->az AC
 | .none,_=>[]
 | .some t,x=>kM t x
 | .ptr,_=>[.ptr 0 0]
def SD.enc (d:SD)(x:d.D):AS:=⟨uw d.slots x.1,Dv d.boxes x.2.1,0,List.replicate d.slots.length false,agD d.io x.2.2⟩
def AV.acn:AV->Bool
 | .val false [.bot]=>true
 |_=>false
def AV.aco (s off:Nat):AV->Bool
 | .val false [.ptr s' as7]=>s==s'&&off==as7
 |_=>false
def AV.ad1 (f:Nat):AV->Bool
 | .val false [.fn f']=>f==f'
 |_=>false
def lJ:(l:az PD)->az AV->aC (Ly l)
 |[],[]=>some ()
 | .data g t::r,.val g' cs::vs=>bif g==g' then(match NA t cs with|some (x,[])=>(lJ r vs).bind λy=>some (x,y)|_=>none) else none
 | .bot::r,v::vs=>bif v.acn then lJ r vs else none
 | .ptr s off::r,v::vs=>bif v.aco s off then lJ r vs else none
 | .fn f::r,v::vs=>bif v.ad1 f then lJ r vs else none
 |_,_=>none
def sG:(l:az (aC FT))->az (aC (az AC))->aC (Kz l)
 |[],[]=>some ()
 |some t::r,some cs::bs=>match NA t cs with|some (x,[])=>(sG r bs).bind λy=>some (x,y)|_=>none
 |none::r,none::bs=>sG r bs
 |_,_=>none
def aat:az AC->Bool
 |[.ptr 0 0]=>true
 |_=>false
def VR:(o:IoD)->az AC->aC (ioD o)
 | .none,[]=>some ()
 | .some t,cs=>match NA t cs with|some (x,[])=>some x|_=>none
 | .ptr,cs=>bif aat cs then some () else none
 |_,_=>none
def SD.dec (d:SD)(st:AS):aC d.D:=
 bif st.ep==0&&st.iss==List.replicate d.slots.length false then
  (lJ d.slots st.slots).bind λx=>(sG d.boxes st.boxes).bind λy=>(VR d.io st.io).bind λz=>some (x,y,z)
 else none
structure Kw where
 sd:SD
 run:{R:Type}->sd.D->(Ex->AS->Option R)->Option R
abbrev nq:=Nat->Kw
def Kw.go {R:Type}(l:Kw)(st:AS)(K:Ex->AS->aC R):aC R:=aa (l.sd.dec st) λx=>l.run x K
def Kw.none:Kw:=⟨⟨[],[],.none⟩,λ_ _=>Option.none⟩
def nq.nil:nq:=λ_=>Kw.none
def nq.add (Λ:nq)(k:Nat)(l:Kw):nq:=λj=>bif j==k then l else Λ j
section
variable {R:Type} (E:Env) (Γ:Bx) (an:An)
def DT (o:Oper)(x:Operand)(st:AS)(K:AS->aC R):aC R:=
 match o.dst with
 |some d=>if an.mv.contains d then K ((st.take x).2.put o.dst (st.take x).1) else K (st.put o.dst (st.rd x))
 |none=>none
def wx (o:Oper)(x:Operand)(st:AS)(K:AS->aC R):aC R:=
 match st.take x with
 |(.val false [.lj],_)=>match E.sl o.type with
  |some e=>K (st.put o.dst (.one (bif aou an o then .lj else .sl (.own none) e [])))
  |none=>none
 |(v,cc)=>K (cc.put o.dst v)
def Ge (o:Oper)(c a b:Operand)(st:AS)(K:AS->aC R):aC R:=
 match st.rd c with
 | .val false [.bool t]=>match st.rd a,st.rd b with
   | .val false [.bool x],.val false [.bool y]=>K (st.put o.dst (.one (.bool (cond t x y))))
   |va,vb=>cond t (K (st.put o.dst va)) (K (st.put o.dst vb))
 |_=>none
def Ef (o:Oper)(T:TypeId)(st:AS)(K:AS->aC R):aC R:=
 match o.dst,kv E.ty T with
 |some d,some sh=>match nth st.boxes d with
  |some none=>K ((st.fU d (some (cellsOf sh.ct (.own none) sh.ct.zero))).put o.dst (.one (.ptr d 0)))
  |_=>none
 |_,_=>none
def Tz (o:Oper)(x:Operand)(st:AS)(K:AS->aC R):aC R:=
 match o.dst,st.take x with
 |some d,(.val _ cs,cc)=>
  match nth cc.boxes d with
  |some none=>if cs.all AC.J4 then K ((cc.fU d (some cs)).put o.dst (.one (.ptr d 0))) else none
  |_=>none
 |_,_=>none
def UG (ep:Nat)(r:mq)(t:Nat)(e:CT)(i:Int):Nat->az AC->az AC
 |_,[]=>[]
 |p,.sl _ e' xs::cs=> .sl (.nest ep r t e i p) e' xs::UG ep r t e i (p+1) cs
 |p,c::cs=>c::UG ep r t e i (p+1) cs
def ahG (o:Oper)(ep:Nat)(fl:sC)(e:CT)(i:Int)(off:Nat)(cs:az AC):az AC:=
 match fl,o.dst with
 | .loc _ (some (r,t)),some d=>bif an.nest.contains d then UG ep r t e i off cs else cs
 |_,_=>cs
def EU (o:Oper)(sh:Shape)(fl:sC)(e:CT)(i:Int)(off:Nat)(st:AS)(K:AS->aC R):aC R:=
 match fl with
 | .loc _ (some (r,t))=>
   match st.gh r with
   |some (.sl (.own (some t')) e' ys)=>
    if h:e'=e then
     if t'=t/\off+sh.ct.size<=e.size then
      aa (idx (h▸ys:az e.D) i) λy=>K (st.put o.dst (.val sh.agg (((cellsOf e (.loc st.ep none) y).drop off).take sh.ct.size)))
     else none
    else none
   |_=>none
 |_=>none
def zS (o:Oper)(sh:Shape)(fl:sC)(e:CT)(i:Int)(off:Nat)(st:AS)(K:AS->aC R):aC R:=
 match fl with
 | .loc _ (some (r,t))=>
   match st.gh r with
   |some (.sl (.own (some t')) e' ys)=>
    if h:e'=e then
     if t'=t/\off=0/\sh.ct=e then
      aa (idx (h▸ys:az e.D) i) λy=>K ((st.gq r (.sl (.gH (some t) i (some st.ep)) e (h▸ys))).put o.dst (.val sh.agg (cellsOf e (.own none) y)))
     else none
    else none
   |_=>none
 |_=>none
def qO (o:Oper)(T:TypeId)(p:Operand)(st:AS)(K:AS->aC R):aC R:=
 match kv E.ty T,st.rd p with
 |some sh,.val false [.ptr s off]=>
  match (nth st.boxes s).getD none with
  |some cs=>
   if off+sh.ct.size<=cs.length then
    match o.dst with
    |some d=>
     if an.mv.contains d then
      K ((st.fU s (some (fD cs off (bg st.ep ((cs.drop off).take sh.ct.size))))).put o.dst (.val sh.agg ((cs.drop off).take sh.ct.size)))
     else K (st.put o.dst (.val sh.agg (jK st.ep (.box s) off ((cs.drop off).take sh.ct.size))))
    |none=>none
   else none
  |none=>none
 |some sh,.val false [.C5 fl e x i off]=>
  if GB an o then zS o sh fl e i off st K
  else if fl.live st.ep then
   if off+sh.ct.size<=e.size then K (st.put o.dst (.val sh.agg (ahG an o st.ep fl e i off (((cellsOf e fl.bare x).drop off).take sh.ct.size)))) else none
  else EU o sh fl e i off st K
 |_,_=>none
def yt (T:TypeId)(p x:Operand)(st:AS)(K:AS->aC R):aC R:=
 match kv E.ty T,st.rd p with
 |some sh,.val false [.ptr s off]=>
  match st.take x with
  |(.val _ vs,cc)=>
   match (nth cc.boxes s).getD none with
   |some cs=>
    if vs.length=sh.ct.size/\vs.all AC.J4 then
     if off+sh.ct.size<=cs.length then K (cc.fU s (some (fD cs off vs))) else none
    else none
   |none=>none
  |_=>none
 |some sh,.val false [.C5 (.loc _ (some (r,t))) e _ i off]=>
  match st.take x with
  |(.val _ vs,cc)=>
   if vs.length=sh.ct.size/\off+sh.ct.size<=e.size then cc.rb r t e i off vs K else none
  |_=>none
 |_,_=>none
def BP (o:Oper)(S:TypeId)(p:Operand)(f:Nat)(st:AS)(K:AS->aC R):aC R:=
 match kv E.ty S,st.rd p with
 |some ⟨true,_,lD⟩,.val false [.ptr s off]=>match nth lD f with|some (fo,_)=>K (st.put o.dst (.one (.ptr s (off+fo))))|none=>none
 |some ⟨true,_,lD⟩,.val false [.C5 fl e x i off]=>match nth lD f with|some (fo,_)=>K (st.put o.dst (.one (.C5 fl e x i (off+fo))))|none=>none
 |_,_=>none
def oa (o:Oper)(T:TypeId)(x i:Operand)(st:AS)(K:AS->aC R):aC R:=
 match E.sl T,(st.rd x).fresh st,st.rd i with
 |some e',.val false [.sl fl e xs],.val false [.int _ n]=>
  if e'=e/\fl.live st.ep then aa (idx xs n) λy=>K (st.put o.dst (.one (.C5 fl e y n 0))) else none
 |_,_,_=>none
def Dc (o:Oper)(T:TypeId)(x i:Operand)(st:AS)(K:AS->aC R):aC R:=
 match st.rd x,st.rd i with
 | .val false [.str s],.val false [.int _ n]=>if E.str T then aa (idx s n) λb=>K (st.put o.dst (.one (.int .u8 b.toNat))) else none
 |_,_=>none
def C1 (o:Oper)(T:TypeId)(parts:az (Nat×Operand))(st:AS)(K:AS->aC R):aC R:=
 match kv E.ty T with
 |some ⟨true,ct,lD⟩=>
  match gi st (parts.map (·.2))with
  |(vs,cc)=>
   match ya lD (cellsOf ct (.own none) ct.zero) ((parts.map (·.1)).zip (vs.map AV.cells))with
   |some cs=>K (cc.put o.dst (.val true cs))
   |none=>none
 |_=>none
def nt (o:Oper)(T:TypeId)(len:Nat)(parts:az (Nat×Operand))(st:AS)(K:AS->aC R):aC R:=
 match E.sl T with
 |some e=>
  if parts.length=len/\Jw 0 parts/\len<=1000 then
   match gi st (parts.map (·.2))with
   |(vs,cc)=>
    match DR e (vs.map AV.cells)with
    |some xs=>K (cc.rF o.dst e xs)
    |none=>none
  else none
 |none=>none
def qs (o:Oper)(T:TypeId)(n c:Operand)(st:AS)(K:AS->aC R):aC R:=
 match E.sl T,st.rd n,st.rd c with
 |some e,.val false [.int .i64 len],.val false [.int .i64 cap]=>
  if 0<=len/\len<=cap then room cap.toNat (K (st.rF o.dst e (List.replicate len.toNat e.zero))) else none
 |_,_,_=>none
def oA (st:AS)(lo hi:aC Operand)(n:Nat)(K:Int->Int->aC R):aC R:=
 match lo.map st.rd,hi.map st.rd with
 |none,none=>K 0 n
 |some (.val false [.int _ a]),none=>K a n
 |none,some (.val false [.int _ b])=>K 0 b
 |some (.val false [.int _ a]),some (.val false [.int _ b])=>K a b
 |_,_=>none
def yj (o:Oper)(T:TypeId)(x:Operand)(lo hi:aC Operand)(st:AS)(K:AS->aC R):aC R:=
 match st.take x,lo.map st.rd,hi with
 |(.val false [.sl (.own _) e xs],cc),some (.val false [.int _ a]),none=>
  if E.sl T=some e then aa (sub xs a xs.length) λQM=>K (cc.rF o.dst e QM) else none
 |_,_,_=>none
def PJ (o:Oper)(fl:sC)(a:Int):sC:=
 match fl,o.dst with
 | .loc ep (some (r,t)),some d=>bif an.nest.contains d then .part ep r t a else .loc ep none
 |fl,_=>fl.bare
def Cf (o:Oper)(T:TypeId)(x:Operand)(lo hi:aC Operand)(st:AS)(K:AS->aC R):aC R:=
 if GB an o then yj E o T x lo hi st K else
 match (st.rd x).fresh st with
 | .val false [.str s]=>if E.str T then oA st lo hi s.length λa b=>aa (sub s a b) λs'=>K (st.put o.dst (.one (.str s'))) else none
 | .val false [.sl fl e xs]=>
   if E.sl T=some e/\fl.live st.ep then oA st lo hi xs.length λa b=>aa (sub xs a b) λQM=>K (st.put o.dst (.one (.sl (PJ an o fl a) e QM))) else none
 |_=>none
def nw (o:Oper)(src dst:TypeId)(x:Operand)(st:AS)(K:AS->aC R):aC R:=
 match kv E.ty src,kv E.ty dst,st.rd x with
 |some _,some ⟨false,.int k,_⟩,.val false [.int _ n]=>K (st.put o.dst (.one (.int k (k.wrap n))))
 |some ⟨false,.str,_⟩,some ⟨false,.str,_⟩,.val false [.str s]=>K (st.put o.dst (.one (.str s)))
 |some ⟨false,.str,_⟩,some _,.val false [.str s]=>
  if E.bytes dst then room s.length (K (st.rF o.dst (.int .u8) (dQ s))) else none
 |some _,some ⟨false,.str,_⟩,.val false [.sl fl (.int .u8) xs]=>
  if E.bytes src/\fl.live st.ep then K (st.put o.dst (.one (.str (aR xs)))) else none
 |_,_,_=>none
def nA (o:Oper)(t i:Nat)(st:AS)(K:AS->aC R):aC R:=
 match st.get t with
 | .xN vs=>match nth vs i with
   |some (g,cs)=>K ((st.put (some t) (.xN (jt vs i (g,bg 0 cs)))).put o.dst (.val g cs))
   |none=>none
 |_=>none
def Pq (o:Oper)(ts:az TypeId)(args:az Operand)(st:AS)(K:AS->aC R):aC R:=
 match ts,args.map st.rd with
 |[t],[.val false [.str s]]=>if E.str t then K (st.put o.dst (.one (.int .i64 s.length))) else none
 |[t],[.val false [.sl _ _ xs]]=>if(E.sl t).isSome then K (st.put o.dst (.one (.int .i64 xs.length))) else none
 |_,_=>none
def Re (o:Oper)(args:az Operand)(st:AS)(K:AS->aC R):aC R:=
 match args.map st.rd with
 |[.val false [.int k x],.val false [.int _ y]]=>K (st.put o.dst (.one (.int k (if y<x then y else x))))
 |_=>none
def Rd (o:Oper)(args:az Operand)(st:AS)(K:AS->aC R):aC R:=
 match args.map st.rd with
 |[.val false [.int k x],.val false [.int _ y]]=>K (st.put o.dst (.one (.int k (if y>x then y else x))))
 |_=>none
def RJ (o:Oper)(ts:az TypeId)(args:az Operand)(st:AS)(K:AS->aC R):aC R:=
 match ts,args.map st.rd with
 |[t,t'],[.val false [.sl (.part ep r tg lo) e xs],.val false [.str s]]=>
  match st.gh r with
  |some (.sl (.own (some tg')) e' ys)=>
   if h:e'=.int .u8 then
    if e=.int .u8/\E.sl t=some (.int .u8)/\E.str t'=true/\ep=st.ep/\tg'=tg then
     K ({st.gq r (.sl (.own (some tg)) (.int .u8) (DU (h▸ys:az (CT.int .u8).D) lo.toNat (dQ (s.take xs.length))))with ep:=st.ep+1}.put o.dst (.one (.int .i64 (min xs.length s.length:Nat))))
    else none
   else none
  |_=>none
 |_,_=>none
def GM (o:Oper)(S:TypeId)(t f:Nat)(st:AS)(K:AS->aC R):aC R:=
 match kv E.ty S,st.get t,Xe E.fts S f with
 |some ⟨true,ct,lD⟩,.val true cs,some T=>
  match nth lD f,kv E.ty T with
  |some (fo,n),some sh=>
   if n=sh.ct.size/\cs.length=ct.size/\fo+n<=cs.length then
    K ((st.put (some t) (.val true (fD cs fo (bg st.ep ((cs.drop fo).take n))))).put o.dst (.val sh.agg ((cs.drop fo).take n)))
   else none
  |_,_=>none
 |_,_,_=>none
def yA (o:Oper)(ts:az TypeId)(args:az Operand)(st:AS)(K:AS->aC R):aC R:=
 match ts,args with
 |[t,t'],[s,x]=>
  match st.take s with
  |(.val false [.sl (.own _) e xs],st1)=>
   match st1.take x with
   |(.val false [.sl fl e' ys],st2)=>
    if h:e'=e then
     if E.sl t=some e/\E.sl t'=some e/\fl.ou st.ep e.flat then
      room (xs.length+ys.length) (K (st2.rF o.dst e (xs++(h▸ys:az e.D))))
     else none
    else none
   |(.val false [.str s],st2)=>
    if h:e=.int .u8 then
     if E.sl t=some e/\E.str t' then room (xs.length+s.length) (K (st2.rF o.dst (.int .u8) ((h▸xs:az (CT.int .u8).D)++dQ s))) else none
    else none
   |_=>none
  |_=>none
 |_,_=>none
def R2:Nat->az AC->aC (mq×Nat)
 |_,[]=>none
 |j,.sl (.loc _ (some (r,_))) _ _::_=>some (r,j)
 |j,_::cs=>R2 (j+1) cs
def mq.pos:mq->Nat
 | .slot _ j=>j
 | .box _ j=>j
 | .io j=>j
def AS.JQ (st:AS):mq->aC (az AC)
 | .slot s _=>match st.get s with| .val _ cs=>some cs|_=>none
 | .box s _=>(nth st.boxes s).getD none
 | .io _=>some st.io
def AS.Gp (st:AS)(r:mq)(cs:az AC):AS:=
 match r with
 | .slot s _=>match st.get s with| .val g _=>st.put (some s) (.val g cs)|_=>st
 | .box s _=>st.fU s (some cs)
 | .io _=>{st with io:=cs}
def pB:az AC->az AC->aC (az AC)
 |[],[]=>some []
 | .sl (.loc _ (some (_,t))) _ _::os,.sl (.own (some t')) e xs::ss=>bif t'==t then(pB os ss).bind λr=>some (.sl (.own none) e xs::r) else none
 | .int k n::os,.int _ _::ss=>(pB os ss).bind λr=>some (.int k n::r)
 | .bool b::os,.bool _::ss=>(pB os ss).bind λr=>some (.bool b::r)
 | .str x::os,.str _::ss=>(pB os ss).bind λr=>some (.str x::r)
 |_,_=>none
def AV.kP:AV->Bool
 | .val _ cs=>cs.all AC.kP
 | .xN vs=>vs.all λx=>x.2.all AC.kP
def TE (st:AS)(x:Operand):aC (AV×AS):=
 match st.rd x with
 | .val g cs=>
   match R2 0 cs with
   |some (r,j)=>
    match st.JQ r with
    |some csO=>
     match pB cs ((csO.drop (r.pos-j)).take cs.length)with
     |some sF=>some (.val g sF,st.Gp r (fD csO (r.pos-j) (bg st.ep ((csO.drop (r.pos-j)).take cs.length))))
     |none=>none
    |none=>none
   |none=>none
 |_=>none
def Sq (o:Oper)(x:Operand)(st:AS)(K:AS->aC R):aC R:=
 match TE st x with
 |some (v,cc)=>K (cc.put o.dst v)
 |none=>none
def yu (T:TypeId)(p x:Operand)(st:AS)(K:AS->aC R):aC R:=
 match kv E.ty T,st.rd p with
 |some sh,.val false [.ptr s off]=>
  match TE st x with
  |some (.val _ vs,cc)=>
   match (nth cc.boxes s).getD none with
   |some cs=>
    if vs.length=sh.ct.size/\vs.all AC.J4 then
     if off+sh.ct.size<=cs.length then K (cc.fU s (some (fD cs off vs))) else none
    else none
   |none=>none
  |_=>none
 |_,_=>none
def AC.strip:AC->AC
 | .sl (.own _) e xs=> .sl (.own none) e xs
 | .sl (.loc _ _) _ _=> .bot
 | .sl (.nest ..) _ _=> .bot
 | .sl (.part ..) _ _=> .bot
 | .sl (.gH _ i _) e xs=> .sl (.gH none i none) e xs
 | .ptr _ _=> .bot
 | .C5 _ _ _ _ _=> .bot
 |c=>c
def AC.ajN:AC->Bool
 | .sl (.own _) _ _=>true
 |c=>c.kP
def AC.Aw (k:Bool):AC->Bool
 | .sl (.own _) _ _=>true
 | .sl (.arg k') _ _=>k'==k
 |c=>c.kP
def AC.Ve:AC->AC
 | .sl (.own _) e xs=> .sl (.own none) e xs
 | .sl (.arg _) e xs=> .sl (.arg true) e xs
 |c=>c.strip
def AC.alv (k:Bool)(tag:aC Nat):AC->AC
 | .sl (.own _) e xs=> .sl (.own tag) e xs
 | .sl (.arg _) e xs=> .sl (.arg k) e xs
 |c=>c
def rk (k:Bool)(mk:Nat->aC Nat):Nat->az AC->az AC
 |_,[]=>[]
 |j,c::cs=>c.alv k (mk j)::rk k mk (j+1) cs
def E7 (cs:az AC):Bool:=cs.any λc=>match c with| .sl (.arg k) _ _=>k|_=>false
def AC.Ky:AC->Bool
 | .sl (.arg k) _ _=> !k
 |c=>c.kP
def AV.Ky:AV->Bool
 | .val _ cs=>cs.all AC.Ky
 | .xN _=>false
def AS.Rc (st:AS):AC->AC
 | .sl (.own _) e xs=> .sl (.arg false) e xs
 | .sl (.arg _) e xs=> .sl (.arg false) e xs
 | .sl (.loc _ (some (.slot b j,t))) _ _=>match st.gh (.slot b j)with
   |some (.sl (.own (some t')) e' ys)=>if t'=t then .sl (.arg false) e' ys else .bot
   |_=> .bot
 | .int k n=> .int k n
 | .bool b=> .bool b
 | .str s=> .str s
 | .fn f=> .fn f
 |_=> .bot
def CI (st:AS):Operand->AV
 | .tmp t=>(match st.get t with| .val g cs=> .val g (cs.map st.Rc)|v=>v)
 |x=>st.rd x
def DQ (st:AS):Operand->Bool
 | .tmp t=>(match st.get t with| .val _ cs=>(cs.map st.Rc).all AC.Ky|_=>false)
 |x=>(st.rd x).kP
def AC.aet:AC->Bool
 | .sl (.own _) _ _=>true
 |c=>c.kP
def AV.aet:AV->Bool
 | .val _ cs=>cs.all AC.aet
 | .xN vs=>vs.all λx=>x.2.all AC.aet
def abK (st:AS)(s:Nat)(cs:az AC):AS:={(st.fU s (some cs)).gO (some s)with ep:=st.ep+1}
def wy (o:Oper)(f:Nat)(args:az Operand)(st:AS)(K:AS->aC R):aC R:=
 match args with
 |x0::xs=>
  match st.rd x0 with
  | .val false [.ptr s 0]=>
    match (nth st.boxes s).getD none with
    |some cs=>
     bif cs.all (AC.Aw (E7 cs))&&xs.all (DQ st) then
      aa ((Γ f).fn (.val true (cs.map AC.Ve)::xs.map (CI st))) λy=>
       bif ((Γ f).back y).all (AC.Aw true)&&((Γ f).av y).aet then
        bif (Γ f).cur&&cs.all AC.IL then
         K (((st.fU s (some (rk (E7 cs) (λ_=>none) 0 ((Γ f).back y)))).gO o.dst).put o.dst (((Γ f).av y).E8 st.ep (st.jz o.dst)))
        else
        K (((abK st s (rk (E7 cs) (st.jz (some s)) 0 ((Γ f).back y))).gO o.dst).put o.dst
          (((Γ f).av y).E8 (st.ep+1) ((abK st s (rk (E7 cs) (st.jz (some s)) 0 ((Γ f).back y))).jz o.dst)))
       else none
     else none
    |none=>none
  |_=>none
 |[]=>none
def aeu (o:Oper)(f:Nat)(args:az Operand)(st:AS)(K:AS->aC R):aC R:=
 match o.dst with
 |some d=>
  match nth st.boxes d with
  |some none=>
   bif args.all (λx=>(st.rd x).Ky) then
    aa ((Γ f).fn (args.map st.rd)) λy=>
     bif ((Γ f).back y).all AC.Ky then K ((st.fU d (some ((Γ f).back y))).put (some d) (.one (.ptr d 0))) else none
   else none
  |_=>none
 |none=>none
def Fa (o:Oper)(f:Operand)(args:az Operand)(st:AS)(K:AS->aC R):aC R:=
 match st.rd f with
 | .val false [.fn f]=>
   bif (Γ f).bx then wy Γ o f args st K else
   bif (Γ f).pr then aeu Γ o f args st K else
   bif (Γ f).io then none
   else aa ((Γ f).fn (args.map λx=>((st.rd x).fresh st).asArg st.ep)) λr=>cond ((Γ f).sel r) (K ((st.gO o.dst).put o.dst (((Γ f).av r).E8 st.ep (st.jz o.dst)))) (K ((st.gO o.dst).put o.dst (((Γ f).alt r).E8 st.ep (st.jz o.dst))))
 |_=>none
def Fc {R:Type}(op:BinOp)(b:Bool)(K:AC->aC R):aC R:=
 match op with
 | .eql=>K (.bool b)
 | .neq=>K (.bool (!b))
 |_=>none
def Ct (o:Oper)(op:BinOp)(T:TypeId)(x y:Operand)(st:AS)(K:AS->aC R):aC R:=
 match st.rd x,st.rd y with
 | .val false [.bool a],.val false [.bool b]=>if E.bool T then Hi op (.one (.bool a)) (.one (.bool b)) λc=>K (st.put o.dst (.one c)) else none
 | .val true xs,.val true ys=>match St E.eqs T with
   |some ls=>if fits ls xs then Hi op (.val true xs) (.val true ys) λc=>K (st.put o.dst (.one c)) else none
   |none=>none
 | .val false [.sl fl _ xs],.val false [.lj]=>if(E.sl T).isSome/\fl.live st.ep then(if xs.length=0 then none else Fc op false λc=>K (st.put o.dst (.one c))) else none
 | .val false [.lj],.val false [.lj]=>if(E.sl T).isSome then Fc op true λc=>K (st.put o.dst (.one c)) else none
 |a,b=>Hi op a b λc=>K (st.put o.dst (.one c))
def dG (o:Oper)(st:AS)(K:AS->aC R):aC R:=
 match o.op with
 | .move x=>DT an o x st K
 | .assign x=>if B6 an o then Sq o x st K else wx E an o x st K
 | .pick c a b=>Ge o c a b st K
 | .alloc T=>Ef E o T st K
 | .box _ x=>Tz o x st K
 | .load T p=>qO E an o T p st K
 | .store T p x=>match o.dst with|none=>(if B6 an o then yu E T p x st K else yt E T p x st K)|some _=>none
 | .nilCheck x=>
   match st.rd x with
   | .val false [.ptr s off]=>K (st.put o.dst (.one (.ptr s off)))
   | .val false [.C5 fl e y i off]=>K (st.put o.dst (.one (.C5 fl e y i off)))
   |_=>none
 | .binOp op T x y _=>Ct E o op T x y st K
 | .unOp op _ x=>unC op (st.rd x) λc=>K (st.put o.dst (.one c))
 | .fieldAddr S p f=>BP E o S p f st K
 | .indexAddr T x i=>oa E o T x i st K
 | .index T x i=>Dc E o T x i st K
 | .build T parts=>C1 E o T parts.toList st K
 | .buildSlice T len parts=>nt E o T len parts.toList st K
 | .makeSlice T n c=>qs E o T n c st K
 | .slice T x lo hi none=>Cf E an o T x lo hi st K
 | .field S (.tmp t) f=>GM E o S t f st K
 | .call {callee:=.builtin .copy,args,argTypes}=>RJ E o argTypes.toList args.toList st K
 | .convert src dst x=>nw E o src dst x st K
 | .extract (.tmp t) i=>nA o t i st K
 | .call {callee:=.builtin .len,args,argTypes}=>Pq E o argTypes.toList args.toList st K
 | .call {callee:=.builtin .min,args,..}=>Re o args.toList st K
 | .call {callee:=.builtin .max,args,..}=>Rd o args.toList st K
 | .call {callee:=.builtin .append,args,argTypes}=>yA E o argTypes.toList args.toList st K
 | .call {callee:=.value f,args,..}=>Fa Γ o f args.toList st K
 |_=>none
def iK (ops:az Oper)(o:Oper)(st:AS)(K:AS->aC R):aC R:=
 match o.guard with
 |none=>dG E Γ an o st K
 |some (j,Iz)=>
  match (nth ops j).bind (·.dst)with
  |some d=>
   match st.get d with
   | .val false [.bool b]=>
     let go (t:Bool):aC R:=
      if t==Iz then dG E Γ an o (st.put (some d) (.one (.bool t))) K else K ((st.put (some d) (.one (.bool t))).put o.dst (.one .un))
     cond b (go true) (go false)
   | .val false [.un]=>K (st.put o.dst (.one .un))
   |_=>none
  |none=>none
def UI (ops:az Oper):az Oper->AS->(AS->aC R)->aC R
 |[],st,K=>K st
 |o::r,st,K=>iK E Γ an ops o st λcc=>UI ops r cc K
def fF:Code->Nat
 | .region id _ _=>id
 | .seq a _=>fF a
 | .block _ c=>fF c
 | .loop c=>fF c
 | .cond _ a b=>match fF a with|0=>fF b|n=>n
 |_=>0
def FD (c:Code):Nat:=1000000+2*fF c
def mI (l:gk):Code->az Code
 | .seq a b=>mI l a++(bif l.contains (fF b) then b::mI l b else mI l b)
 | .cond _ a b=>mI l a++mI l b
 | .block _ c=>mI l c
 | .loop c=>mI l c
 |_=>[]
def wz (l:gk)(fn:Func)(k:Nat):Code:=(nth (mI l (fn.body.getD .skip)) k).getD .skip
def jE:Code->az Code
 | .seq a b=>jE a++jE b
 | .cond _ a b=>jE a++jE b
 | .block _ c=>jE c
 | .loop c=>c::jE c
 |_=>[]
def dm (fn:Func)(k:Nat):Code:=(nth (jE (fn.body.getD .skip)) k).getD .skip
def acm (j:Nat):Nat:=3*(4096*1000003+j)
def mq.Gw:mq->aC Nat
 | .slot s j=>bif Nat.ble 4096 j then none else bif Nat.ble 1000000 s then none else some (3*(4096*s+j))
 | .box s j=>bif Nat.ble 4096 j then none else some (3*(4096*s+j)+1)
 | .io j=>bif Nat.ble 4096 j then none else some (acm j)
def AC.aht (io:az AC)(j t:Nat)(e:CT):aC (az e.D):=
 match nth io j with
 |some (.sl (.own (some t')) e' ys)=>if h:e'=e then bif t'==t then some (h▸ys) else none else none
 |_=>none
def AC.mask (jn:gk)(ep:Nat)(io:az AC)(rt:mq):AC->AC
 | .ptr s off=>if jn.contains s then .ptr s off else .bot
 | .sl (.loc e pv) t xs=>
   match pv with
   |some (.io j,n)=>match AC.aht io j n t with
    |some ys=> .sl (.loc 0 ((mq.Gw (.io j)).map λq=>(.io j,q))) t ys
    |none=>if e==ep then .sl (.loc 0 none) t xs else .bot
   |_=>if e==ep then .sl (.loc 0 none) t xs else .bot
 | .sl (.own _) t xs=> .sl (.own rt.Gw) t xs
 | .sl (.nest ..) _ _=> .bot
 | .sl (.part ..) _ _=> .bot
 | .sl (.gH _ i _) e xs=> .sl (.gH none i none) e xs
 | .C5 _ _ _ _ _=> .bot
 |c=>c
def K6 (jn:gk)(ep:Nat)(io:az AC)(f:Nat->mq):Nat->az AC->az AC
 |_,[]=>[]
 |j,c::cs=>c.mask jn ep io (f j)::K6 jn ep io f (j+1) cs
def AV.mask (jn:gk)(ep:Nat)(io:az AC)(s:Nat):AV->AV
 | .val g cs=> .val g (K6 jn ep io (.slot s) 0 cs)
 | .xN _=> .bot
def pw (jn:gk)(ep:Nat)(io:az AC):Nat->az AV->az AV
 |_,[]=>[]
 |i,v::r=>(if jn.contains i then v.mask jn ep io i else .bot)::pw jn ep io (i+1) r
def pt (jn:gk)(ep:Nat)(io:az AC):Nat->az (aC (az AC))->az (aC (az AC))
 |_,[]=>[]
 |i,b::r=>(if jn.contains i then b.map (K6 jn ep io (.box i) 0) else none)::pt jn ep io (i+1) r
def aaJ (jn:gk):Nat->az AC->az AC
 |_,[]=>[]
 |j,c::cs=>(match c with| .sl (.own _) e xs=> .sl (.own (mq.Gw (.io j))) e xs| .sl (.gH _ i _) e xs=> .sl (.gH none i none) e xs| .ptr s off=>if jn.contains s then .ptr s off else .bot|c=>bif c.kP then c else .bot)::aaJ jn (j+1) cs
def AS.mask (jn:gk)(st:AS):AS:=
 ⟨pw jn st.ep st.io 0 st.slots,pt jn st.ep st.io 0 st.boxes,0,List.replicate st.slots.length false,aaJ jn 0 st.io⟩
def getBool (st:AS)(s:Nat):aC Bool:=
 match st.get s with
 | .val false [.bool b]=>some b
 |_=>none
def iP (an:An)(ds:gk)(o:Oper):Bool:=
 match o.op with
 | .assign (.const _)=> !B6 an o
 | .assign (.tmp t)=>ds.contains t&& !B6 an o
 | .move _| .load ..=>match o.dst with|some d=> !an.mv.contains d|none=>false
 | .slice ..=> !GB an o
 | .pick ..| .binOp ..| .unOp ..| .fieldAddr ..| .indexAddr ..| .index ..| .nilCheck _=>true
 | .build _ ps=>ps.isEmpty
 | .call {callee:=.builtin .len,..}| .call {callee:=.builtin .min,..}| .call {callee:=.builtin .max,..}=>true
 | .call {callee:=.value _,..}=>true
 |_=>false
def H0 (ops:az Oper):gk:=ops.filterMap (·.dst)
def AS.iG (st:AS):gk->AS
 |[]=>st
 |d::r=>((st.put (some d) .bot).gO (some d)).iG r
def Hq (ops:az Oper)(A:az gk):Nat->az Oper->AS->(AS->aC R)->aC R
 |_,[],st,K=>K st
 |i,o::r,st,K=>bif dV E an (uu an A i 0 ops) o st then iK E Γ an ops o st λcc=>Hq ops A (i+1) r cc K else none
def FJ (ops:az Oper)(draw:Bool)(st:AS)(K:AS->aC R):aC R:=
 bif draw then(bif VT an ops then Hq E Γ.Iu an ops (Vz ops []) 0 ops st K else none) else UI E Γ an ops ops st K
def UQ (id:Nat)(ops:az Oper)(draw:Bool)(st:AS)(K:AS->aC R):aC R:=
 match an.merge id with
 |none=>FJ E Γ an ops draw st K
 |some s=>
  if ops.all (iP an (H0 ops)) then
   aa (FJ E Γ.calm an ops draw st λcc=>getBool cc s) λb=>K ((st.iG (H0 ops)).put (some s) (.one (.bool b)))
  else none
def CJ (key:gk)(B:AS->(Ex->AS->aC R)->aC R):Nat->AS->(Ex->AS->aC R)->aC R
 |0,_,_=>none
 |m+1,st,K=>B st λe cc=>
  match e with
  | .normal=>CJ key B m (cc.mask key) K
  |e=>K e (cc.mask key)
def den (Λ:nq):Code->AS->(Ex->AS->aC R)->aC R
 | .skip,st,K=>K .normal st
 | .region id ops draw,st,K=>UQ E Γ an id ops.toList draw st (K .normal)
 | .seq a b,st,K=>den Λ a st λe cc=>match e with
   | .normal=>bif an.cut.contains (fF b) then(Λ (FD b)).go (cc.mask (an.mask (FD b))) K else den Λ b cc K
   |e=>K e cc
 | .cond c a b,st,K=>
   match st.rd c with
   | .val false [.bool t]=>cond t (den Λ a st K) (den Λ b st K)
   |_=>none
 | .block id c,st,K=>den Λ c st λe cc=>
   match e with
   | .exit j=>if j==id then K .normal cc else K (.exit j) cc
   |e=>K e cc
 | .loop c,st,K=>
   bif an.peel.contains (fF c) then den Λ c (st.mask (an.mask (fF c))) λe cc=>
    match e with
    | .normal=>(Λ (fF c)).go (cc.mask (an.mask (fF c))) K
    |e=>K e (cc.mask (an.mask (fF c)))
   else(Λ (fF c)).go (st.mask (an.mask (fF c))) K
 | .exit id,st,K=>K (.exit id) st
 | .ret,st,K=>K .ret st
 |_,_,_=>none
end
def P5 (st:AS)(E:Env):ResultVar->aC ((Bool×Nat)×Bool×az AC)
 | .tmp t=>match st.get t with| .val g cs=>some ((false,t),g,cs.map AC.strip)|_=>none
 | .cell t T=>match kv E.ty T,st.get t with
   |some sh,.val false [.ptr s off]=>((nth st.boxes s).getD none).bind λcs=>
    if off+sh.ct.size<=cs.length then some ((true,s),sh.agg,((cs.drop off).take sh.ct.size).map AC.strip) else none
   |_,_=>none
def uk (st:AS)(E:Env):az (Bool×Nat)->az ResultVar->aC (az (Bool×az AC))
 |_,[]=>some []
 |had,r::rs=>(P5 st E r).bind λx=>if had.contains x.1 then none else(uk st E (x.1::had) rs).bind λxs=>some (x.2::xs)
def results (E:Env)(rs:az ResultVar)(st:AS):aC AV:=
 match uk st E [] rs with
 |some [(g,cs)]=>some (.val g cs)
 |some vs=>some (.xN vs)
 |none=>none
def start (fn:Func)(args:az AV):AS:=⟨args++List.replicate (fn.ntmps-args.length) .bot,List.replicate (args.length+(fn.ntmps-args.length)) none,0,List.replicate fn.ntmps false,[]⟩
abbrev mA:az (Bool×FT)->Type
 |[]=>Unit
 |[(_,t)]=>t.ct.D
 |(_,t)::r=>t.ct.D×mA r
def nh:(l:az (Bool×FT))->az (Bool×az AC)->aC (mA l)
 |[],[]=>some ()
 |[(g,t)],[(g',cs)]=>bif g==g' then(match NA t cs with|some (x,[])=>some x|_=>none) else none
 |(g,t)::p::r,(g',cs)::vs=>bif g==g' then(match NA t cs with|some (x,[])=>(nh (p::r) vs).bind λy=>some (x,y)|_=>none) else none
 |_,_=>none
def amP:(l:az (Bool×FT))->mA l->az (Bool×az AC)
 |[],_=>[]
 |[(g,t)],x=>[(g,kM t x)]
 |(g,t)::p::r,x=>(g,kM t x.1)::amP (p::r) x.2
def BN (l:az (Bool×FT))(x:mA l):AV:=
 match amP l x with
 |[(g,cs)]=> .val g cs
 |vs=> .xN vs
def FL (E:Env)(Γ:Bx)(an:An)(Λ:nq)(fn:Func)(rs:az (Bool×FT))(args:az AV):aC (mA rs):=
 match fn.body with
 |some c=>if args.length=fn.params.size then den E Γ an Λ c (start fn args) λe st=>
  match e with
  | .exit _=>none
  |_=>aa (uk st E [] fn.results.toList) (nh rs)
  else none
 |none=>none
def evalAlt (E:Env)(Γ:Bx)(an:An)(Λ:nq)(fn:Func)(rs QL:az (Bool×FT))(h:mA QL=mA rs)(args:az AV):aC (Bool×mA rs):=
 match fn.body with
 |some c=>if args.length=fn.params.size then den E Γ an Λ c (start fn args) λe st=>
  match e with
  | .exit _=>none
  |_=>aa (uk st E [] fn.results.toList) λys=>
   match nh rs ys with
   |some y=>some (true,y)
   |none=>match nh QL ys with
    |some y=>some (false,cast h y)
    |none=>none
  else none
 |none=>none
def IS:Nat->az AC->az AC
 |_,[]=>[]
 |j,.sl (.own _) e xs::cs=> .sl (.own (some (3*j+1))) e xs::IS (j+1) cs
 |j,c::cs=>c::IS (j+1) cs
def Ci (fn:Func)(cs:az AC)(args:az AV):AS:=
 {start fn (.one (.ptr 0 0)::args)with boxes:=some (IS 0 cs)::List.replicate (args.length+(fn.ntmps-(args.length+1))) none,io:=[.ptr 0 0]}
def ab2 (E:Env)(Γ:Bx)(an:An)(Λ:nq)(fn:Func)(rs:az (Bool×FT))(t:FT)(args:az AV):aC (mA rs×t.ct.D):=
 match fn.body,args with
 |some c,.val true cs::xs=>if xs.length+1=fn.params.size/\cs.all (AC.Aw true)=true then den E Γ an Λ c (Ci fn cs xs) λe st=>
  match e with
  | .exit _=>none
  |_=>aa (aa (uk st E [(true,0)] fn.results.toList) (nh rs)) λr=>
   match st.io,st.boxes with
   |[.ptr 0 0],some sF::_=>match NA t (sF.map AC.strip)with
    |some (x,[])=>some (r,x)
    |_=>none
   |_,_=>none
  else none
 |_,_=>none
def T5 (E:Env)(Γ:Bx)(an:An)(Λ:nq)(fn:Func)(t:FT)(args:az AV):aC t.ct.D:=
 match fn.body with
 |some c=>if args.length=fn.params.size then den E Γ an Λ c (start fn args) λe st=>
  match e with
  | .exit _=>none
  |_=>match fn.results.toList with
   |[.tmp i]=>match st.get i with
    | .val false [.ptr s 0]=>match (nth st.boxes s).getD none with
      |some cs=>if cs.all AC.Ky=true then(match NA t (cs.map AC.strip)with|some (x,[])=>some x|_=>none) else none
      |none=>none
    |_=>none
   |_=>none
  else none
 |none=>none
end Go.Dn
