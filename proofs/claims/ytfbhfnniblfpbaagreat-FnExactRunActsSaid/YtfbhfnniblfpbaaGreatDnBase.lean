import Derived.Test.YtfbhfnniblfpbaaGreatDnData
/- An abstract, heap-free semantics of the model's code, for functions that treat their data by value: definitions. -/
namespace Go.Dn
inductive kv where
 |slot (s j:Nat)|box (s j:Nat)|io (j:Nat)
 deriving DecidableEq
inductive qL where
 |own (tag:Option Nat)
 |loc (ep:Nat) (pv:Option (kv×Nat))
 |arg (k:Bool)
 |nest (ep:Nat) (r:kv) (t:Nat) (e:CT) (i:Int) (off:Nat)
 |part (ep:Nat) (r:kv) (t:Nat) (lo:Int)
 |fe (tag:Option Nat) (i:Int) (ep:Option Nat)
inductive AC where
 |int (k:IntKind) (n:Int)|bool (b:Bool)|str (s:List UInt8)
 |sl (fl:qL) (e:CT) (xs:List e.D)
 |jB
 |ptr (s off:Nat)
 |Da (fl:qL) (e:CT) (x:e.D) (i:Int) (off:Nat)
 |fn (f:Nat)
 |un
 |bot
inductive AV where
 |val (agg:Bool) (cs:List AC)
 |vU (vs:List (Bool×List AC))
abbrev AV.one (c:AC):AV:=.val false [c]
abbrev AV.bot:AV:=.val false [.bot]
structure AS where
 slots:List AV
 boxes:List (Option (List AC))
 ep:Nat
 iss:List Bool
 io:List AC
structure Shape where
 agg:Bool
 ct:CT
 jZ:List (Nat×Nat):=[]
structure An where
 mask:Nat->List Nat:=λ_=>[]
 merge:Nat->Option Nat:=λ_=>none
 mv:List Nat:=[]
 nest:List Nat:=[]
 mb:Nat->Option Nat:=λ_=>none
 sb:Nat->Option Nat:=λ_=>none
 late:List Nat:=[]
 peel:List Nat:=[]
 nils:List Nat:=[]
 fm:List Nat:=[]
 eb:Nat->Option Nat:=λ_=>none
 es:Nat->Option Nat:=λ_=>none
 er:Nat->Option Nat:=λ_=>none
 cut:List Nat:=[]
def cellsOf:(t:CT)->qL->t.D->aq AC
 | .int k,_,n=>[.int k n]
 | .bool,_,b=>[.bool b]
 | .str,_,s=>[.str s]
 | .sl e,fl,xs=>[.sl fl e xs]
 | .pair a b,fl,x=>cellsOf a fl x.1++cellsOf b fl x.2
def iS:(t:CT)->aq AC->au (t.D×aq AC)
 | .int k,.int k' n::r=>if k'=k then some (n,r) else none
 | .bool,.bool b::r=>some (b,r)
 | .str,.str s::r=>some (s,r)
 | .sl e,.sl (.own _) e' xs::r=>if h:e'=e then some (h▸xs,r) else none
 | .sl _,.jB::r=>some ([],r)
 | .pair a b,cs=>(iS a cs).bind λx=>(iS b x.2).bind λy=>some ((x.1,y.1),y.2)
 |_,_=>none
def nth {α:Type}:aq α->Nat->au α
 |[],_=>none
 |a::_,0=>some a
 |_::l,n+1=>nth l n
def gZ {α:Type}:aq α->Nat->α->aq α
 |[],_,_=>[]
 |_::l,0,v=>v::l
 |a::l,n+1,v=>a::gZ l n v
def AS.get (st:AS)(i:Nat):AV:=(nth st.slots i).getD .bot
def AS.put (st:AS)(d:au Nat)(v:AV):AS:=
 match d with
 |some d=>{st with slots:=gZ st.slots d v}
 |none=>st
def K6 (d j:Nat):Nat:=3*(4096*d+j)+2
def AS.il (st:AS)(d:au Nat)(j:Nat):au Nat:=
 match d with
 |some d=>bif (nth st.iss d).getD true then none else bif Nat.ble 4096 j then none else some (K6 d j)
 |none=>none
def AS.fw (st:AS)(d:au Nat):AS:=
 match d with
 |some d=>{st with iss:=gZ st.iss d true}
 |none=>st
def AS.qb (st:AS)(d:au Nat)(e:CT)(xs:aq e.D):AS:=
 (st.fw d).put d (.one (.sl (.own (st.il d 0)) e xs))
def AC.borrow (ep:Nat)(rt:au kv):AC->AC
 | .sl (.own tag) e xs=> .sl (.loc ep (match rt,tag with|some r,some t=>some (r,t)|_,_=>none)) e xs
 | .sl (.fe tag _ (some Ol)) e xs=> .sl (.loc Ol (match rt,tag with|some r,some t=>some (r,t)|_,_=>none)) e xs
 | .sl (.fe _ _ none) _ _=> .bot
 |c=>c
def iz (ep:Nat)(f:Nat->kv):Nat->aq AC->aq AC
 |_,[]=>[]
 |j,c::cs=>c.borrow ep (some (f j))::iz ep f (j+1) cs
def aS (ep:Nat)(cs:aq AC):aq AC:=cs.map (AC.borrow ep none)
def AV.borrow (ep:Nat)(f:Nat->kv):AV->AV
 | .val g cs=> .val g (iz ep f 0 cs)
 | .vU vs=> .vU (vs.map λx=>(x.1,aS ep x.2))
def AV.aS (ep:Nat):AV->AV
 | .val g cs=> .val g (Dn.aS ep cs)
 | .vU vs=> .vU (vs.map λx=>(x.1,Dn.aS ep x.2))
def ofConst:Value->AV
 | .int k n=> .one (.int k n)
 | .bool b=> .one (.bool b)
 | .string s=> .one (.str s.data.toList)
 | .slice none 0 0=> .one .jB
 |_=> .bot
def AS.rd (st:AS):Operand->AV
 | .tmp t=>(st.get t).borrow st.ep (.slot t)
 | .const v=>ofConst v
 | .func f=> .one (.fn f)
 | .global _=> .bot
def AS.take (st:AS):Operand->AV×AS
 | .tmp t=>(st.get t,st.put (some t) ((st.get t).aS st.ep))
 |x=>(st.rd x,st)
def AS.eG (st:AS)(s:Nat)(b:au (aq AC)):AS:={st with boxes:=gZ st.boxes s b}
def AC.asArg (ep:Nat):AC->AC
 | .int k n=> .int k n
 | .bool b=> .bool b
 | .str s=> .str s
 | .sl (.own _) e xs=> .sl (.arg false) e xs
 | .sl (.loc ep' _) e xs=>if ep'==ep then .sl (.arg false) e xs else .bot
 | .sl (.arg _) e xs=> .sl (.arg false) e xs
 | .jB=> .jB
 | .fn f=> .fn f
 |_=> .bot
def AV.asArg (ep:Nat):AV->AV
 | .val g cs=> .val g (cs.map (AC.asArg ep))
 | .vU _=> .bot
def AC.Ga (ep:Nat)(tag:au Nat):AC->AC
 | .sl (.own _) e xs=> .sl (.own tag) e xs
 | .sl (.arg _) e xs=> .sl (.loc ep none) e xs
 | .sl (.loc _ _) _ _=> .bot
 | .sl (.nest ..) _ _=> .bot
 | .sl (.part ..) _ _=> .bot
 | .sl (.fe _ i _) e xs=> .sl (.fe none i none) e xs
 | .ptr _ _=> .bot
 | .Da _ _ _ _ _=> .bot
 |c=>c
def KM (ep:Nat)(mk:Nat->au Nat):Nat->aq AC->aq AC
 |_,[]=>[]
 |j,c::cs=>c.Ga ep (mk j)::KM ep mk (j+1) cs
def Zs (ep:Nat)(mk:Nat->au Nat):Nat->aq (Bool×aq AC)->aq (Bool×aq AC)
 |_,[]=>[]
 |j,t::ts=>(t.1,KM ep mk j t.2)::Zs ep mk (j+t.2.length) ts
def AV.Ga (ep:Nat)(mk:Nat->au Nat):AV->AV
 | .val g cs=> .val g (KM ep mk 0 cs)
 | .vU vs=> .vU (Zs ep mk 0 vs)
def AC.JU:AC->Bool
 | .sl (.arg _) _ _=>true
 | .int ..=>true
 | .bool _=>true
 | .str _=>true
 | .fn _=>true
 |_=>false
structure Aq where
 R:Type
 fn:List AV->Option R
 av:R->AV
 io:Bool:=false
 back:R->List AC:=λ_=>[]
 bx:Bool:=false
 pr:Bool:=false
 sel:R->Bool:=λ_=>true
 alt:R->AV:=λ_=> .val false [.bot]
 cur:Bool:=false
 hcur:cur=true->∀y,(back y).all AC.JU=true:=by intro h;cases h
def Aq.res (F:Aq)(y:F.R):AV:=cond (F.sel y) (F.av y) (F.alt y)
abbrev xV:=Nat->Aq
def Aq.dead:Aq:={R:=Unit,fn:=λ_=>none,av:=λ_=> .val false [.bot]}
def xV.calm (Γ:xV):xV:=λf=>bif (Γ f).io||(Γ f).bx||(Γ f).pr then Aq.dead else Γ f
def xV.JM (Γ:xV):xV:=λf=>bif (Γ f).io||(Γ f).pr||((Γ f).bx&& !(Γ f).cur) then Aq.dead else Γ f
def Kx {R:Type}(op:BinOp)(k:IntKind)(x y:Int)(K:AC->au R):au R:=
 match op with
 | .add=>K (.int k (k.wrap (x+y)))
 | .sub=>K (.int k (k.wrap (x-y)))
 | .mul=>K (.int k (k.wrap (x*y)))
 | .quo=>if y=0 then none else K (.int k (k.wrap (x.tdiv y)))
 | .rem=>if y=0 then none else K (.int k (x.tmod y))
 | .and=>K (.int k (k.wrap (BitVec.ofInt k.bits x&&&BitVec.ofInt k.bits y).toNat))
 | .or=>K (.int k (k.wrap (BitVec.ofInt k.bits x|||BitVec.ofInt k.bits y).toNat))
 | .xor=>K (.int k (k.wrap (BitVec.ofInt k.bits x^^^BitVec.ofInt k.bits y).toNat))
 | .andNot=>K (.int k (k.wrap (BitVec.ofInt k.bits x&&&~~~ BitVec.ofInt k.bits y).toNat))
 | .eql=>K (.bool (x==y))
 | .neq=>K (.bool (x !=y))
 | .lss=>K (.bool (decide (x<y)))
 | .leq=>K (.bool (decide (x<=y)))
 | .gtr=>K (.bool (decide (x>y)))
 | .geq=>K (.bool (decide (x>=y)))
 |_=>none
def MY {R:Type}(op:BinOp)(x y:aq UInt8)(K:AC->au R):au R:=
 match op with
 | .add=>room (x.length+y.length) (K (.str (x++y)))
 | .eql=>K (.bool (x==y))
 | .neq=>K (.bool (!(x==y)))
 | .lss=>K (.bool (Op.bytesLess x y))
 | .leq=>K (.bool (Op.bytesLess x y||x==y))
 | .gtr=>K (.bool (!(Op.bytesLess x y||x==y)))
 | .geq=>K (.bool (!(Op.bytesLess x y)))
 |_=>none
def vY:aq AC->aq AC->au Bool
 |[],[]=>some true
 | .int k x::r,.int k' y::r'=>if k=k' then(vY r r').bind λb=>some ((x==y)&&b) else none
 | .bool x::r,.bool y::r'=>(vY r r').bind λb=>some ((x==y)&&b)
 | .str x::r,.str y::r'=>(vY r r').bind λb=>some ((x==y)&&b)
 |_,_=>none
def Iy {R:Type}(op:BinOp)(x y:AV)(K:AC->au R):au R:=
 match x,y with
 | .val false [.int k a],.val false [.int k' b]=>
   match op with
   | .shl=>if b<0 then none else K (.int k (k.wrap (a*2^(min b.toNat k.bits))))
   | .shr=>if b<0 then none else K (.int k (a.fdiv (2^(min b.toNat k.bits))))
   |_=>if k=k' then Kx op k a b K else none
 | .val false [.str a],.val false [.str b]=>MY op a b K
 | .val false [.bool a],.val false [.bool b]=>
   match op with
   | .eql=>K (.bool (a==b))
   | .neq=>K (.bool (!(a==b)))
   |_=>none
 | .val true xs,.val true ys=>
   match op with
   | .eql=>aa (vY xs ys) λb=>K (.bool b)
   | .neq=>aa (vY xs ys) λb=>K (.bool (!b))
   |_=>none
 |_,_=>none
def unC {R:Type}(op:UnOp)(x:AV)(K:AC->au R):au R:=
 match op,x with
 | .not,.val false [.bool b]=>K (.bool (!b))
 | .neg,.val false [.int k n]=>K (.int k (k.wrap (0-n)))
 | .xor,.val false [.int k n]=>Kx .xor k (if k.signed then-1 else k.max) n K
 |_,_=>none
def db (cs:aq AC)(off:Nat)(vs:aq AC):aq AC:=cs.take off++vs++cs.drop (off+vs.length)
def AS.eM (st:AS):kv->au AC
 | .slot s j=>match st.get s with| .val _ cs=>nth cs j|_=>none
 | .box s j=>((nth st.boxes s).getD none).bind λcs=>nth cs j
 | .io j=>nth st.io j
def AS.eU (st:AS)(r:kv)(c:AC):AS:=
 match r with
 | .slot s j=>match st.get s with| .val g cs=>st.put (some s) (.val g (gZ cs j c))|_=>st
 | .box s j=>match (nth st.boxes s).getD none with|some cs=>st.eG s (some (gZ cs j c))|none=>st
 | .io j=>{st with io:=gZ st.io j c}
def AS.fresh (st:AS):AC->AC
 | .sl (.loc ep (some (r,t))) e xs=>
   bif ep==st.ep then .sl (.loc ep (some (r,t))) e xs else
    match st.eM r with
    |some (.sl (.own (some t')) e' ys)=>if h:e'=e then bif t'==t then .sl (.loc st.ep (some (r,t))) e (h▸ys) else .sl (.loc ep (some (r,t))) e xs else .sl (.loc ep (some (r,t))) e xs
    |_=> .sl (.loc ep (some (r,t))) e xs
 |c=>c
def AV.fresh (st:AS):AV->AV
 | .val g cs=> .val g (cs.map st.fresh)
 | .vU vs=> .vU vs
def AC.now (ep:Nat):AC->Bool
 | .sl (.loc ep' (some _)) _ _=>ep'==ep
 |_=>true
def AS.pG {R:Type}(st:AS)(r:kv)(t:Nat)(e:CT)(i:Int)(off:Nat)(vs:aq AC)(K:AS->au R):au R:=
 match st.eM r with
 |some (.sl (.own (some t')) e' xs)=>
  if h:e'=e then
   if t'=t then
    aa (idx (h▸xs:aq e.D) i) λx=>
     match iS e (db (cellsOf e (.own none) x) off vs)with
     |some (x',[])=>K {st.eU r (.sl (.own (some t')) e ((h▸xs:aq e.D).set i.toNat x'))with ep:=st.ep+1}
     |_=>none
   else none
  else none
 |some (.sl (.fe (some t') i' _) e' xs)=>
  if h:e'=e then
   if t'=t/\off=0 then
    aa (abG (h▸xs:aq e.D) i' i) λ_=>
     match iS e vs with
     |some (x',[])=>K {st.eU r (.sl (.own (some t')) e ((h▸xs:aq e.D).set i.toNat x'))with ep:=st.ep+1}
     |_=>none
   else none
  else none
 |_=>none
def AV.cells:AV->aq AC
 | .val _ cs=>cs
 | .vU _=>[.bot]
def eO (st:AS):aq Operand->aq AV×AS
 |[]=>([],st)
 |x::xs=>let (v,st1):=st.take x;let (vs,st2):=eO st1 xs;(v::vs,st2)
def Eu (e:CT):aq (aq AC)->au (aq e.D)
 |[]=>some []
 |cs::r=>match iS e cs with
  |some (x,[])=>(Eu e r).bind λxs=>some (x::xs)
  |_=>none
def Kv:Nat->aq (Nat×Operand)->Bool
 |_,[]=>true
 |n,(i,_)::r=>i==n&&Kv (n+1) r
def AC.KT:AC->Bool
 | .bot=>false
 | .un=>false
 |_=>true
def ya (jZ:aq (Nat×Nat))(zero:aq AC):aq (Nat×aq AC)->au (aq AC)
 |[]=>some zero
 |(i,cs)::r=>match nth jZ i with
  |some (off,n)=>if cs.length=n/\off+n<=zero.length/\cs.all AC.KT then ya jZ (db zero off cs) r else none
  |none=>none
inductive LK where
 |int|bool|str
 deriving DecidableEq
structure Env where
 ty:List (Nat×Shape)
 eqs:List (Nat×List LK):=[]
 fts:List ((Nat×Nat)×Nat):=[]
def R2 (l:aq (Nat×aq LK))(t:Nat):au (aq LK):=
 match l with
 |[]=>none
 |(u,sh)::r=>bif u==t then some sh else R2 r t
def fits:aq LK->aq AC->Bool
 |[],[]=>true
 | .int::ls,.int _ _::r=>fits ls r
 | .bool::ls,.bool _::r=>fits ls r
 | .str::ls,.str _::r=>fits ls r
 |_,_=>false
def V8 (l:aq ((Nat×Nat)×Nat))(S f:Nat):au Nat:=
 match l with
 |[]=>none
 |((u,k),T)::r=>bif u==S&&k==f then some T else V8 r S f
def iV (l:aq (Nat×Shape))(t:Nat):au Shape:=
 match l with
 |[]=>none
 |(u,sh)::r=>bif u==t then some sh else iV r t
def Env.sl (E:Env)(t:Nat):au CT:=
 match iV E.ty t with
 |some ⟨false,.sl e,_⟩=>some e
 |_=>none
def Env.str (E:Env)(t:Nat):Bool:=
 match iV E.ty t with
 |some ⟨false,.str,_⟩=>true
 |_=>false
def Env.bool (E:Env)(t:Nat):Bool:=
 match iV E.ty t with
 |some ⟨false,.bool,_⟩=>true
 |_=>false
def Env.bytes (E:Env)(t:Nat):Bool:=
 match iV E.ty t with
 |some ⟨false,.sl (.int .u8),[(te,_)]⟩=>match iV E.ty te with|some ⟨false,.int .u8,_⟩=>true|_=>false
 |_=>false
def qL.live (ep:Nat):qL->Bool
 | .loc ep' _=>ep'==ep
 | .arg _=>true
 | .own _=>false
 | .nest ..=>false
 | .part ..=>false
 | .fe ..=>false
def qL.vx (ep:Nat)(flat:Bool):qL->Bool
 | .loc ep' _=>ep'==ep&&flat
 | .arg _=>flat
 | .own _=>true
 | .nest ..=>false
 | .part ..=>false
 | .fe ..=>false
def qL.bare:qL->qL
 | .loc ep _=> .loc ep none
 |f=>f
def AC.gv:AC->Bool
 | .int _ _=>true
 | .bool _=>true
 | .str _=>true
 | .fn _=>true
 |_=>false
def tm:Operand->dX
 | .tmp t=>[t]
 |_=>[]
def Rb (l:aq Operand):dX:=l.flatMap tm
def HM (an:An)(o:Oper):Bool:=
 match o.dst with
 |some d=>an.mv.contains d&&(an.mb d).isNone
 |none=>false
def ajI (an:An)(o:Oper):Bool:=
 match o.dst with
 |some d=>an.nils.contains d
 |none=>false
def Ci (an:An)(o:Oper):Bool:=
 match o.op with
 | .assign (.tmp s)=>an.late.contains s
 | .store _ _ (.tmp s)=>an.late.contains s
 |_=>false
def tmO:au Operand->dX
 |some x=>tm x
 |none=>[]
def dw (o:Oper):dX:=
 match o.op with
 | .move x=>tm x
 | .assign x=>tm x
 | .pick c a b=>tm c++tm a++tm b
 | .box _ x=>tm x
 | .load _ p=>tm p
 | .store _ p x=>tm p++tm x
 | .nilCheck x=>tm x
 | .binOp _ _ x y _=>tm x++tm y
 | .unOp _ _ x=>tm x
 | .fieldAddr _ p _=>tm p
 | .indexAddr _ x i=>tm x++tm i
 | .index _ x i=>tm x++tm i
 | .build _ parts=>Rb (parts.toList.map (·.2))
 | .buildSlice _ _ parts=>Rb (parts.toList.map (·.2))
 | .makeSlice _ n c=>tm n++tm c
 | .slice _ x lo hi none=>tm x++tmO lo++tmO hi
 | .convert _ _ x=>tm x
 | .extract (.tmp t) _=>[t]
 | .call {callee:=.builtin _,args,..}=>Rb args.toList
 | .call {callee:=.value f,args,..}=>tm f++Rb args.toList
 |_=>[]
def HK (an:An)(o:Oper):Bool:=
 match o.op with
 | .move _=>match o.dst with|some d=>an.mv.contains d|none=>false
 | .assign _=>true
 | .box ..=>true
 | .build ..=>true
 | .buildSlice ..=>true
 | .store ..=>true
 | .extract ..=>match o.dst with|some d=>an.mv.contains d|none=>false
 | .call {callee:=.builtin .append,..}=>true
 |_=>false
def HJ (an:An)(o:Oper):Bool:=
 match o.op,o.dst,o.guard with
 | .load _ (.tmp q),some d,none=>an.mv.contains d&&(an.mb d).isNone&&(an.eb q).isSome
 |_,_,_=>false
def DE (an:An)(o:Oper):Bool:=
 match o.op,o.dst,o.guard with
 | .load _ (.tmp q),some d,none=> !an.mv.contains d&& !an.fm.contains d&&(an.sb q).isSome
 |_,_,_=>false
def HN (an:An)(o:Oper):dX:=
 match o.op with
 | .alloc _=>o.dst.toList
 | .box ..=>o.dst.toList
 | .load _ p=>match o.dst with|some d=>bif an.mv.contains d then(an.mb d).toList++(bif HJ an o then(match p with| .tmp q=>(an.eb q).toList|_=>[]) else []) else []|none=>[]
 | .store _ (.tmp p) _=>(an.sb p).toList
 | .call {callee:=.value _,args,..}=>(match args.toList with| .tmp q::_=>(an.sb q).toList|_=>[])
 |_=>[]
def nR (an:An)(o:Oper):Bool:=
 match o.op with
 | .move _=>true
 | .load ..=>(match o.dst with|some d=> !an.mv.contains d||(an.mb d).isSome|none=>false)||HJ an o
 | .extract (.tmp _) _=>true
 | .store _ (.tmp p) _=>(an.sb p).isSome&& !Ci an o
 | .assign _=> !Ci an o
 | .pick ..| .alloc _| .box ..| .nilCheck _| .binOp ..| .unOp ..| .fieldAddr ..| .indexAddr ..| .index ..| .build ..| .buildSlice ..| .makeSlice ..| .convert ..=>true
 | .slice _ _ _ _ none=> !HM an o
 | .call {callee:=.builtin .len,..}| .call {callee:=.builtin .min,..}| .call {callee:=.builtin .max,..}| .call {callee:=.builtin .append,..}=>true
 | .call {callee:=.value _,..}=>true
 |_=>false
def writes (an:An)(o:Oper):dX:=o.dst.toList++(bif HK an o then dw o else [])
def AV.now (ep:Nat):AV->Bool
 | .val _ cs=>cs.all (AC.now ep)
 | .vU _=>true
def AC.lv:AC->Bool
 | .int ..=>true
 | .bool _=>true
 | .str _=>true
 | .fn _=>true
 | .ptr ..=>true
 |_=>false
def AV.lv:AV->Bool
 | .val _ cs=>cs.all AC.lv
 | .vU _=>false
def G4 (E:Env)(T:TypeId)(st:AS)(s off:Nat):Bool:=
 match iV E.ty T,(nth st.boxes s).getD none with
 |some sh,some cs=>((cs.drop off).take sh.ct.size).all AC.lv
 |_,_=>false
def Xw (an:An)(o:Oper):Bool:=match o.dst with|some d=>an.fm.contains d|none=>false
def D5 (an:An)(o:Oper):Bool:=
 match o.op,o.dst,o.guard with
 | .load _ (.tmp _),some d,none=>an.mv.contains d&&(an.mb d).isSome
 |_,_,_=>false
def Oz (an:An)(o:Oper):Bool:=
 match o.op,o.dst,o.guard with
 | .load _ (.tmp _),some d,none=> !an.mv.contains d&&an.fm.contains d
 |_,_,_=>false
def erS (an:An)(o:Oper):dX:=
 match o.op,o.dst with
 | .load ..,some d=>(an.er d).toList
 | .call {callee:=.value _,..},some d=>(an.er d).toList
 |_,_=>[]
def AC.afB (l:dX):AC->Bool
 | .sl (.loc _ (some (.slot b _,_))) _ _=>l.contains b
 | .sl (.loc _ _) _ _=>false
 |_=>true
def KR (l:dX)(st:AS):Operand->Bool
 | .tmp t=>(match st.get t with| .val _ cs=>cs.all (AC.afB l)| .vU _=>true)
 |_=>true
def adM (an:An)(X l:dX)(st:AS)(xs:aq Operand)(q:Nat):AV->Bool
 | .val false [.ptr s _]=> !X.contains s&&an.sb q==some s&&(match (nth st.boxes s).getD none with|some cs=>cs.all AC.JU|none=>true)&&xs.all (KR l st)
 |_=>true
def AV.aaF:AV->Bool
 | .val false [.ptr _ _]=>false
 |_=>true
def uv (an:An)(X l:dX)(st:AS):aq Operand->Bool
 | .tmp q::xs=>adM an X l st xs q (st.rd (.tmp q))
 |x::_=>(st.rd x).aaF
 |[]=>true
def du (E:Env)(an:An)(X:dX)(o:Oper)(st:AS):Bool:=
 match o.op with
 | .move x=> !Xw an o||(st.rd x).lv
 | .indexAddr _ x _=>(st.rd x).now st.ep||(match st.rd x with| .val _ [.sl (.loc _ (some (.box b _,_))) _ _]=> !X.contains b|_=>false)
 | .slice _ x _ _ none=>(st.rd x).now st.ep
 | .call {callee:=.value _,args,..}=>uv an X (erS an o) st args.toList&&args.toList.all λx=>(st.rd x).now st.ep
 | .load T p=>match st.rd p with
   | .val false [.ptr s off]=> !X.contains s&&(match o.dst with|some d=> !an.mv.contains d||an.mb d==some s|none=>true)&&(!Xw an o||G4 E T st s off)
   | .val false [.Da fl _ _ _ _]=>(fl.live st.ep||(match fl with
     | .loc _ (some (.slot b _,_))=>(erS an o).contains b
     | .loc _ (some (.box b _,_))=> !X.contains b
     |_=>false))&& !(Xw an o||D5 an o)&& !DE an o&&(!HJ an o||(match p,fl with
     | .tmp q,.loc _ (some (.box b _,_))=>an.eb q==some b&& !X.contains b
     |_,_=>false))
   |_=> !(Xw an o||D5 an o)
 | .store _ (.tmp p) _=>((an.sb p).isNone&&(an.eb p).isNone&&(an.es p).isNone)||(match st.rd (.tmp p)with
   | .val false [.ptr s _]=> !X.contains s&&an.sb p==some s
   | .val false [.Da (.loc _ (some (.box b _,_))) _ _ _ _]=>an.eb p==some b&&(an.sb p).isNone&&(an.es p).isNone
   | .val false [.Da (.loc _ (some (.slot b _,_))) _ _ _ _]=>an.es p==some b&&(an.sb p).isNone&&(an.eb p).isNone
   |_=>false)
 | .extract (.tmp t) i=>match st.get t with
   | .vU vs=>match nth vs i with|some x=>x.2.all AC.gv||(match o.dst with|some d=>an.mv.contains d|none=>false)|none=>true
   |_=>true
 |_=>true
def G7 (an:An)(ops:aq Oper)(o:Oper):dX:=
 (match o.guard with
 |some (j,_)=>((nth ops j).bind (·.dst)).toList
 |none=>[])++erS an o
def meets (a b:dX):Bool:=a.any λx=>b.contains x
def XO (an:An)(ops:aq Oper)(X Y:dX)(o p:Oper):Bool:=
 nR an o&&nR an p&& !meets (writes an o) (dw p++G7 an ops p++writes an p)&& !meets (writes an p) (dw o++G7 an ops o)&&
 (HN an o).all (λd=>Y.contains d)&&(HN an p).all (λd=>X.contains d)&& !meets (HN an o) (p.dst.toList++HN an p)&& !meets (HN an p) o.dst.toList
def Yh (o p:Oper):Bool:=
 match o.op,p.op,o.dst,p.dst,o.guard,p.guard with
 | .extract (.tmp t) i,.extract (.tmp t') j,some d,some d',none,none=>t==t'&& !(i==j)&& !(d==d')&& !(d==t)&& !(d'==t)
 |_,_,_,_,_,_=>false
def X8 (an:An)(o p:Oper):Bool:=
 match p.op,p.dst,p.guard with
 | .store _ (.tmp q) (.tmp x),none,none=>((an.eb q).isSome&&(an.es q).isNone||(match an.es q with|some b=>(an.eb q).isNone&& !(b==x)&& !(b==q)&& !meets [b] (o.dst.toList++dw o)|none=>false))&&(an.sb q).isNone&& !Ci an p&&(match o.op,o.dst,o.guard with
   | .move (.tmp t),some d,none=> !an.mv.contains d&&an.fm.contains d&& !(d==q)&& !(d==x)&& !(t==x)&& !(t==q)&& !(d==t)
   | .extract (.tmp t) _,some d,none=> !(d==q)&& !(d==x)&& !(t==x)&& !(t==q)&& !(d==t)
   |_,_,_=>false)
 |_,_,_=>false
def YZ (an:An)(o p:Oper):Bool:=
 (D5 an o&&Oz an p||Oz an o&&D5 an p)&& !meets o.dst.toList (p.dst.toList++dw p)&& !meets p.dst.toList (dw o)
def XZ (an:An)(o p:Oper):Bool:=DE an o&&HJ an p&& !meets o.dst.toList (p.dst.toList++dw p)&& !meets p.dst.toList (dw o)
def afp (an:An)(o p:Oper):Bool:=Yh o p||X8 an o p||YZ an o p||XZ an o p
def N1 (an:An)(ops:aq Oper)(X Y:dX)(o p:Oper):Bool:=afp an o p||XO an ops X Y o p
def DG (o:Oper):dX:=(o.after.toList.filter (λe=>Region.binds .any e)).map (·.on)
def UF (a b:dX):dX:=a.foldl (λs x=>bif s.contains x then s else x::s) b
def UW:aq Oper->aq dX->aq dX
 |[],acc=>acc
 |o::r,acc=>UW r (acc++[(DG o).foldl (λs j=>UF (j::(nth acc j).getD []) s) []])
def acA (A:aq dX)(i k:Nat):Bool:=((nth A i).getD []).contains k
def aac (an:An)(A:aq dX)(i:Nat)(fl pl:Bool):Nat->aq Oper->dX
 |_,[]=>[]
 |k,o::r=>(bif !acA A i k&& !acA A k i&& !(k==i)&& !(fl&&D5 an o)&& !(pl&&HJ an o) then HN an o else [])++aac an A i fl pl (k+1) r
def tA (an:An)(A:aq dX)(i k:Nat)(ops:aq Oper):dX:=aac an A i (match nth ops i with|some o=>Oz an o|none=>false) (match nth ops i with|some o=>DE an o|none=>false) k ops
def Pp (an:An)(ops:aq Oper)(A:aq dX)(i:Nat)(oi:Oper):Nat->aq Oper->Bool
 |_,[]=>true
 |j,oj::r=>bif Nat.ble i j then true else(acA A i j||N1 an ops (tA an A j 0 ops) (tA an A i 0 ops) oj oi)&&Pp an ops A i oi (j+1) r
def T4 (an:An)(ops:aq Oper)(A:aq dX):Nat->aq Oper->Bool
 |_,[]=>true
 |i,oi::r=>(DG oi).all (λk=>Nat.blt k i)&&Pp an ops A i oi 0 ops&&T4 an ops A (i+1) r
def Va (an:An)(ops:aq Oper):Bool:=T4 an ops (UW ops []) 0 ops
inductive Ex where
 |normal|ret|exit (id:Nat)
inductive FK where
 |own (tag:Option Nat)|arg|age|loc|lio (j t:Nat)|nil
def FK.flag:FK->qL
 | .own t=> .own t
 | .arg=> .arg false
 | .age=> .arg true
 | .loc=> .loc 0 none
 | .lio j t=> .loc 0 (some (.io j,t))
 | .nil=> .arg false
def FK.isNil:FK->Bool
 | .nil=>true
 |_=>false
inductive FT where
 |int (k:IntKind)|bool|str|sl (fl:FK) (e:CT)|pair (a b:FT)
abbrev FT.ct:FT->CT
 | .int k=> .int k
 | .bool=> .bool
 | .str=> .str
 | .sl _ e=> .sl e
 | .pair a b=> .pair a.ct b.ct
def iY:(t:FT)->t.ct.D->aq AC
 | .int k,n=>[.int k n]
 | .bool,b=>[.bool b]
 | .str,s=>[.str s]
 | .sl fl e,xs=>[bif fl.isNil then .jB else .sl fl.flag e xs]
 | .pair a b,x=>iY a x.1++iY b x.2
def FK.fits:FK->qL->Bool
 | .own t,.own t'=>t==t'
 | .arg,.arg k=> !k
 | .age,.arg k=>k
 | .loc,.loc 0 none=>true
 | .lio j t,.loc 0 (some (.io j',t'))=>j==j'&&t==t'
 |_,_=>false
def NL:(t:FT)->aq AC->au (t.ct.D×aq AC)
 | .int k,.int k' n::r=>if k'=k then some (n,r) else none
 | .bool,.bool b::r=>some (b,r)
 | .str,.str s::r=>some (s,r)
 | .sl fl e,.sl fl' e' xs::r=>if h:e'=e then bif fl.fits fl' then some (h▸xs,r) else none else none
 | .sl fl _,.jB::r=>bif fl.isNil then some ([],r) else none
 | .pair a b,cs=>(NL a cs).bind λx=>(NL b x.2).bind λy=>some ((x.1,y.1),y.2)
 |_,_=>none
inductive PD where
 |bot|ptr (s off:Nat)|fn (f:Nat)|data (g:Bool) (t:FT)
inductive IoD where
 |none|some (t:FT)|ptr
structure SD where
 slots:List PD
 boxes:List (Option FT)
 io:IoD:=.none
abbrev FJ:aq PD->Type
 |[]=>Unit
 | .data _ t::r=>t.ct.D×FJ r
 |_::r=>FJ r
abbrev ER:aq (au FT)->Type
 |[]=>Unit
 |some t::r=>t.ct.D×ER r
 |none::r=>ER r
abbrev ioD:IoD->Type
 | .none=>Unit
 | .some t=>t.ct.D
 | .ptr=>Unit
abbrev SD.D (d:SD):Type:=FJ d.slots×ER d.boxes×ioD d.io
def tE:(l:aq PD)->FJ l->aq AV
 |[],_=>[]
 | .data g t::r,x=> .val g (iY t x.1)::tE r x.2
 | .bot::r,x=> .bot::tE r x
 | .ptr s off::r,x=> .one (.ptr s off)::tE r x
 | .fn f::r,x=> .one (.fn f)::tE r x
def Eg:(l:aq (au FT))->ER l->aq (au (aq AC))
 |[],_=>[]
 |some t::r,x=>some (iY t x.1)::Eg r x.2
 |none::r,x=>none::Eg r x
def adR:(o:IoD)->ioD o->aq AC
 | .none,_=>[]
 | .some t,x=>iY t x
 | .ptr,_=>[.ptr 0 0]
def SD.enc (d:SD)(x:d.D):AS:=⟨tE d.slots x.1,Eg d.boxes x.2.1,0,List.replicate d.slots.length false,adR d.io x.2.2⟩
def AV.aay:AV->Bool
 | .val false [.bot]=>true
 |_=>false
def AV.aaz (s off:Nat):AV->Bool
 | .val false [.ptr s' aqT]=>s==s'&&off==aqT
 |_=>false
def AV.ab6 (f:Nat):AV->Bool
 | .val false [.fn f']=>f==f'
 |_=>false
def kg:(l:aq PD)->aq AV->au (FJ l)
 |[],[]=>some ()
 | .data g t::r,.val g' cs::vs=>bif g==g' then(match NL t cs with|some (x,[])=>(kg r vs).bind λy=>some (x,y)|_=>none) else none
 | .bot::r,v::vs=>bif v.aay then kg r vs else none
 | .ptr s off::r,v::vs=>bif v.aaz s off then kg r vs else none
 | .fn f::r,v::vs=>bif v.ab6 f then kg r vs else none
 |_,_=>none
def qP:(l:aq (au FT))->aq (au (aq AC))->au (ER l)
 |[],[]=>some ()
 |some t::r,some cs::bs=>match NL t cs with|some (x,[])=>(qP r bs).bind λy=>some (x,y)|_=>none
 |none::r,none::bs=>qP r bs
 |_,_=>none
def YU:aq AC->Bool
 |[.ptr 0 0]=>true
 |_=>false
def U8:(o:IoD)->aq AC->au (ioD o)
 | .none,[]=>some ()
 | .some t,cs=>match NL t cs with|some (x,[])=>some x|_=>none
 | .ptr,cs=>bif YU cs then some () else none
 |_,_=>none
def SD.dec (d:SD)(st:AS):au d.D:=
 bif st.ep==0&&st.iss==List.replicate d.slots.length false then
  (kg d.slots st.slots).bind λx=>(qP d.boxes st.boxes).bind λy=>(U8 d.io st.io).bind λz=>some (x,y,z)
 else none
structure Lo where
 sd:SD
 run:{R:Type}->sd.D->(Ex->AS->Option R)->Option R
abbrev GD:=Nat->Lo
def Lo.go {R:Type}(l:Lo)(st:AS)(K:Ex->AS->au R):au R:=aa (l.sd.dec st) λx=>l.run x K
def Lo.none:Lo:=⟨⟨[],[],.none⟩,λ_ _=>Option.none⟩
def GD.nil:GD:=λ_=>Lo.none
def GD.add (Λ:GD)(k:Nat)(l:Lo):GD:=λj=>bif j==k then l else Λ j
section
variable {R:Type} (E:Env) (Γ:xV) (an:An)
def Ew (o:Oper)(x:Operand)(st:AS)(K:AS->au R):au R:=
 match o.dst with
 |some d=>if an.mv.contains d then K ((st.take x).2.put o.dst (st.take x).1) else K (st.put o.dst (st.rd x))
 |none=>none
def vV (o:Oper)(x:Operand)(st:AS)(K:AS->au R):au R:=
 match st.take x with
 |(.val false [.jB],_)=>match E.sl o.type with
  |some e=>K (st.put o.dst (.one (bif ajI an o then .jB else .sl (.own none) e [])))
  |none=>none
 |(v,st')=>K (st'.put o.dst v)
def Hv (o:Oper)(c a b:Operand)(st:AS)(K:AS->au R):au R:=
 match st.rd c with
 | .val false [.bool t]=>match st.rd a,st.rd b with
   | .val false [.bool x],.val false [.bool y]=>K (st.put o.dst (.one (.bool (cond t x y))))
   |va,vb=>cond t (K (st.put o.dst va)) (K (st.put o.dst vb))
 |_=>none
def EO (o:Oper)(T:TypeId)(st:AS)(K:AS->au R):au R:=
 match o.dst,iV E.ty T with
 |some d,some sh=>match nth st.boxes d with
  |some none=>K ((st.eG d (some (cellsOf sh.ct (.own none) sh.ct.zero))).put o.dst (.one (.ptr d 0)))
  |_=>none
 |_,_=>none
def SY (o:Oper)(x:Operand)(st:AS)(K:AS->au R):au R:=
 match o.dst,st.take x with
 |some d,(.val _ cs,st')=>
  match nth st'.boxes d with
  |some none=>if cs.all AC.KT then K ((st'.eG d (some cs)).put o.dst (.one (.ptr d 0))) else none
  |_=>none
 |_,_=>none
def TX (ep:Nat)(r:kv)(t:Nat)(e:CT)(i:Int):Nat->aq AC->aq AC
 |_,[]=>[]
 |p,.sl _ e' xs::cs=> .sl (.nest ep r t e i p) e' xs::TX ep r t e i (p+1) cs
 |p,c::cs=>c::TX ep r t e i (p+1) cs
def aff (o:Oper)(ep:Nat)(fl:qL)(e:CT)(i:Int)(off:Nat)(cs:aq AC):aq AC:=
 match fl,o.dst with
 | .loc _ (some (r,t)),some d=>bif an.nest.contains d then TX ep r t e i off cs else cs
 |_,_=>cs
def FW (o:Oper)(sh:Shape)(fl:qL)(e:CT)(i:Int)(off:Nat)(st:AS)(K:AS->au R):au R:=
 match fl with
 | .loc _ (some (r,t))=>
   match st.eM r with
   |some (.sl (.own (some t')) e' ys)=>
    if h:e'=e then
     if t'=t/\off+sh.ct.size<=e.size then
      aa (idx (h▸ys:aq e.D) i) λy=>K (st.put o.dst (.val sh.agg (((cellsOf e (.loc st.ep none) y).drop off).take sh.ct.size)))
     else none
    else none
   |_=>none
 |_=>none
def Am (o:Oper)(sh:Shape)(fl:qL)(e:CT)(i:Int)(off:Nat)(st:AS)(K:AS->au R):au R:=
 match fl with
 | .loc _ (some (r,t))=>
   match st.eM r with
   |some (.sl (.own (some t')) e' ys)=>
    if h:e'=e then
     if t'=t/\off=0/\sh.ct=e then
      aa (idx (h▸ys:aq e.D) i) λy=>K ((st.eU r (.sl (.fe (some t) i (some st.ep)) e (h▸ys))).put o.dst (.val sh.agg (cellsOf e (.own none) y)))
     else none
    else none
   |_=>none
 |_=>none
def py (o:Oper)(T:TypeId)(p:Operand)(st:AS)(K:AS->au R):au R:=
 match iV E.ty T,st.rd p with
 |some sh,.val false [.ptr s off]=>
  match (nth st.boxes s).getD none with
  |some cs=>
   if off+sh.ct.size<=cs.length then
    match o.dst with
    |some d=>
     if an.mv.contains d then
      K ((st.eG s (some (db cs off (aS st.ep ((cs.drop off).take sh.ct.size))))).put o.dst (.val sh.agg ((cs.drop off).take sh.ct.size)))
     else K (st.put o.dst (.val sh.agg (iz st.ep (.box s) off ((cs.drop off).take sh.ct.size))))
    |none=>none
   else none
  |none=>none
 |some sh,.val false [.Da fl e x i off]=>
  if HM an o then Am o sh fl e i off st K
  else if fl.live st.ep then
   if off+sh.ct.size<=e.size then K (st.put o.dst (.val sh.agg (aff an o st.ep fl e i off (((cellsOf e fl.bare x).drop off).take sh.ct.size)))) else none
  else FW o sh fl e i off st K
 |_,_=>none
def yy (T:TypeId)(p x:Operand)(st:AS)(K:AS->au R):au R:=
 match iV E.ty T,st.rd p with
 |some sh,.val false [.ptr s off]=>
  match st.take x with
  |(.val _ vs,st')=>
   match (nth st'.boxes s).getD none with
   |some cs=>
    if vs.length=sh.ct.size/\vs.all AC.KT then
     if off+sh.ct.size<=cs.length then K (st'.eG s (some (db cs off vs))) else none
    else none
   |none=>none
  |_=>none
 |some sh,.val false [.Da (.loc _ (some (r,t))) e _ i off]=>
  match st.take x with
  |(.val _ vs,st')=>
   if vs.length=sh.ct.size/\off+sh.ct.size<=e.size then st'.pG r t e i off vs K else none
  |_=>none
 |_,_=>none
def B4 (o:Oper)(S:TypeId)(p:Operand)(f:Nat)(st:AS)(K:AS->au R):au R:=
 match iV E.ty S,st.rd p with
 |some ⟨true,_,jZ⟩,.val false [.ptr s off]=>match nth jZ f with|some (fo,_)=>K (st.put o.dst (.one (.ptr s (off+fo))))|none=>none
 |some ⟨true,_,jZ⟩,.val false [.Da fl e x i off]=>match nth jZ f with|some (fo,_)=>K (st.put o.dst (.one (.Da fl e x i (off+fo))))|none=>none
 |_,_=>none
def mN (o:Oper)(T:TypeId)(x i:Operand)(st:AS)(K:AS->au R):au R:=
 match E.sl T,(st.rd x).fresh st,st.rd i with
 |some e',.val false [.sl fl e xs],.val false [.int _ n]=>
  if e'=e/\fl.live st.ep then aa (idx xs n) λy=>K (st.put o.dst (.one (.Da fl e y n 0))) else none
 |_,_,_=>none
def DV (o:Oper)(T:TypeId)(x i:Operand)(st:AS)(K:AS->au R):au R:=
 match st.rd x,st.rd i with
 | .val false [.str s],.val false [.int _ n]=>if E.str T then aa (idx s n) λb=>K (st.put o.dst (.one (.int .u8 b.toNat))) else none
 |_,_=>none
def DP (o:Oper)(T:TypeId)(parts:aq (Nat×Operand))(st:AS)(K:AS->au R):au R:=
 match iV E.ty T with
 |some ⟨true,ct,jZ⟩=>
  match eO st (parts.map (·.2))with
  |(vs,st')=>
   match ya jZ (cellsOf ct (.own none) ct.zero) ((parts.map (·.1)).zip (vs.map AV.cells))with
   |some cs=>K (st'.put o.dst (.val true cs))
   |none=>none
 |_=>none
def lY (o:Oper)(T:TypeId)(len:Nat)(parts:aq (Nat×Operand))(st:AS)(K:AS->au R):au R:=
 match E.sl T with
 |some e=>
  if parts.length=len/\Kv 0 parts/\len<=1000 then
   match eO st (parts.map (·.2))with
   |(vs,st')=>
    match Eu e (vs.map AV.cells)with
    |some xs=>K (st'.qb o.dst e xs)
    |none=>none
  else none
 |none=>none
def oP (o:Oper)(T:TypeId)(n c:Operand)(st:AS)(K:AS->au R):au R:=
 match E.sl T,st.rd n,st.rd c with
 |some e,.val false [.int .i64 len],.val false [.int .i64 cap]=>
  if 0<=len/\len<=cap then room cap.toNat (K (st.qb o.dst e (List.replicate len.toNat e.zero))) else none
 |_,_,_=>none
def ng (st:AS)(lo hi:au Operand)(n:Nat)(K:Int->Int->au R):au R:=
 match lo.map st.rd,hi.map st.rd with
 |none,none=>K 0 n
 |some (.val false [.int _ a]),none=>K a n
 |none,some (.val false [.int _ b])=>K 0 b
 |some (.val false [.int _ a]),some (.val false [.int _ b])=>K a b
 |_,_=>none
def yr (o:Oper)(T:TypeId)(x:Operand)(lo hi:au Operand)(st:AS)(K:AS->au R):au R:=
 match st.take x,lo.map st.rd,hi with
 |(.val false [.sl (.own _) e xs],st'),some (.val false [.int _ a]),none=>
  if E.sl T=some e then aa (sub xs a xs.length) λQw=>K (st'.qb o.dst e Qw) else none
 |_,_,_=>none
def Pq (o:Oper)(fl:qL)(a:Int):qL:=
 match fl,o.dst with
 | .loc ep (some (r,t)),some d=>bif an.nest.contains d then .part ep r t a else .loc ep none
 |fl,_=>fl.bare
def CQ (o:Oper)(T:TypeId)(x:Operand)(lo hi:au Operand)(st:AS)(K:AS->au R):au R:=
 if HM an o then yr E o T x lo hi st K else
 match (st.rd x).fresh st with
 | .val false [.str s]=>if E.str T then ng st lo hi s.length λa b=>aa (sub s a b) λs'=>K (st.put o.dst (.one (.str s'))) else none
 | .val false [.sl fl e xs]=>
   if E.sl T=some e/\fl.live st.ep then ng st lo hi xs.length λa b=>aa (sub xs a b) λQw=>K (st.put o.dst (.one (.sl (Pq an o fl a) e Qw))) else none
 |_=>none
def mc (o:Oper)(src dst:TypeId)(x:Operand)(st:AS)(K:AS->au R):au R:=
 match iV E.ty src,iV E.ty dst,st.rd x with
 |some _,some ⟨false,.int k,_⟩,.val false [.int _ n]=>K (st.put o.dst (.one (.int k (k.wrap n))))
 |some ⟨false,.str,_⟩,some ⟨false,.str,_⟩,.val false [.str s]=>K (st.put o.dst (.one (.str s)))
 |some ⟨false,.str,_⟩,some _,.val false [.str s]=>
  if E.bytes dst then room s.length (K (st.qb o.dst (.int .u8) (dp s))) else none
 |some _,some ⟨false,.str,_⟩,.val false [.sl fl (.int .u8) xs]=>
  if E.bytes src/\fl.live st.ep then K (st.put o.dst (.one (.str (aM xs)))) else none
 |_,_,_=>none
def md (o:Oper)(t i:Nat)(st:AS)(K:AS->au R):au R:=
 match st.get t with
 | .vU vs=>match nth vs i with
   |some (g,cs)=>K ((st.put (some t) (.vU (gZ vs i (g,aS 0 cs)))).put o.dst (.val g cs))
   |none=>none
 |_=>none
def Pa (o:Oper)(ts:aq TypeId)(args:aq Operand)(st:AS)(K:AS->au R):au R:=
 match ts,args.map st.rd with
 |[t],[.val false [.str s]]=>if E.str t then K (st.put o.dst (.one (.int .i64 s.length))) else none
 |[t],[.val false [.sl _ _ xs]]=>if(E.sl t).isSome then K (st.put o.dst (.one (.int .i64 xs.length))) else none
 |_,_=>none
def QS (o:Oper)(args:aq Operand)(st:AS)(K:AS->au R):au R:=
 match args.map st.rd with
 |[.val false [.int k x],.val false [.int _ y]]=>K (st.put o.dst (.one (.int k (if y<x then y else x))))
 |_=>none
def QR (o:Oper)(args:aq Operand)(st:AS)(K:AS->au R):au R:=
 match args.map st.rd with
 |[.val false [.int k x],.val false [.int _ y]]=>K (st.put o.dst (.one (.int k (if y>x then y else x))))
 |_=>none
def Ri (o:Oper)(ts:aq TypeId)(args:aq Operand)(st:AS)(K:AS->au R):au R:=
 match ts,args.map st.rd with
 |[t,t'],[.val false [.sl (.part ep r tg lo) e xs],.val false [.str s]]=>
  match st.eM r with
  |some (.sl (.own (some tg')) e' ys)=>
   if h:e'=.int .u8 then
    if e=.int .u8/\E.sl t=some (.int .u8)/\E.str t'=true/\ep=st.ep/\tg'=tg then
     K ({st.eU r (.sl (.own (some tg)) (.int .u8) (Ey (h▸ys:aq (CT.int .u8).D) lo.toNat (dp (s.take xs.length))))with ep:=st.ep+1}.put o.dst (.one (.int .i64 (min xs.length s.length:Nat))))
    else none
   else none
  |_=>none
 |_,_=>none
def HV (o:Oper)(S:TypeId)(t f:Nat)(st:AS)(K:AS->au R):au R:=
 match iV E.ty S,st.get t,V8 E.fts S f with
 |some ⟨true,ct,jZ⟩,.val true cs,some T=>
  match nth jZ f,iV E.ty T with
  |some (fo,n),some sh=>
   if n=sh.ct.size/\cs.length=ct.size/\fo+n<=cs.length then
    K ((st.put (some t) (.val true (db cs fo (aS st.ep ((cs.drop fo).take n))))).put o.dst (.val sh.agg ((cs.drop fo).take n)))
   else none
  |_,_=>none
 |_,_,_=>none
def yC (o:Oper)(ts:aq TypeId)(args:aq Operand)(st:AS)(K:AS->au R):au R:=
 match ts,args with
 |[t,t'],[s,x]=>
  match st.take s with
  |(.val false [.sl (.own _) e xs],st1)=>
   match st1.take x with
   |(.val false [.sl fl e' ys],st2)=>
    if h:e'=e then
     if E.sl t=some e/\E.sl t'=some e/\fl.vx st.ep e.flat then
      room (xs.length+ys.length) (K (st2.qb o.dst e (xs++(h▸ys:aq e.D))))
     else none
    else none
   |(.val false [.str s],st2)=>
    if h:e=.int .u8 then
     if E.sl t=some e/\E.str t' then room (xs.length+s.length) (K (st2.qb o.dst (.int .u8) ((h▸xs:aq (CT.int .u8).D)++dp s))) else none
    else none
   |_=>none
  |_=>none
 |_,_=>none
def Lx:Nat->aq AC->au (kv×Nat)
 |_,[]=>none
 |j,.sl (.loc _ (some (r,_))) _ _::_=>some (r,j)
 |j,_::cs=>Lx (j+1) cs
def kv.pos:kv->Nat
 | .slot _ j=>j
 | .box _ j=>j
 | .io j=>j
def AS.uc (st:AS):kv->au (aq AC)
 | .slot s _=>match st.get s with| .val _ cs=>some cs|_=>none
 | .box s _=>(nth st.boxes s).getD none
 | .io _=>some st.io
def AS.qd (st:AS)(r:kv)(cs:aq AC):AS:=
 match r with
 | .slot s _=>match st.get s with| .val g _=>st.put (some s) (.val g cs)|_=>st
 | .box s _=>st.eG s (some cs)
 | .io _=>{st with io:=cs}
def mR:aq AC->aq AC->au (aq AC)
 |[],[]=>some []
 | .sl (.loc _ (some (_,t))) _ _::os,.sl (.own (some t')) e xs::ss=>bif t'==t then(mR os ss).bind λr=>some (.sl (.own none) e xs::r) else none
 | .int k n::os,.int _ _::ss=>(mR os ss).bind λr=>some (.int k n::r)
 | .bool b::os,.bool _::ss=>(mR os ss).bind λr=>some (.bool b::r)
 | .str x::os,.str _::ss=>(mR os ss).bind λr=>some (.str x::r)
 |_,_=>none
def DK:aq AC->aq AC->aq AC->au (aq AC)
 |[],[],[]=>some []
 | .sl (.loc _ (some (_,t'))) _ _::os,.sl (.own (some t)) _ _::ss,.sl (.own _) e ys::bs=>bif t==t' then(DK os ss bs).bind λr=>some (.sl (.own (some t)) e ys::r) else none
 | .int _ _::os,.int k n::ss,.int _ _::bs=>(DK os ss bs).bind λr=>some (.int k n::r)
 | .bool _::os,.bool b::ss,.bool _::bs=>(DK os ss bs).bind λr=>some (.bool b::r)
 | .str _::os,.str x::ss,.str _::bs=>(DK os ss bs).bind λr=>some (.str x::r)
 |_,_,_=>none
def AV.gv:AV->Bool
 | .val _ cs=>cs.all AC.gv
 | .vU vs=>vs.all λx=>x.2.all AC.gv
def S2 (st:AS)(x:Operand):au (AV×AS):=
 match st.rd x with
 | .val g cs=>
   match Lx 0 cs with
   |some (r,j)=>
    match st.uc r with
    |some D8=>
     match mR cs ((D8.drop (r.pos-j)).take cs.length)with
     |some nd=>some (.val g nd,st.qd r (db D8 (r.pos-j) (aS st.ep ((D8.drop (r.pos-j)).take cs.length))))
     |none=>none
    |none=>none
   |none=>none
 |_=>none
def RZ (o:Oper)(x:Operand)(st:AS)(K:AS->au R):au R:=
 match S2 st x with
 |some (v,st')=>K (st'.put o.dst v)
 |none=>none
def yz (T:TypeId)(p x:Operand)(st:AS)(K:AS->au R):au R:=
 match iV E.ty T,st.rd p with
 |some sh,.val false [.ptr s off]=>
  match S2 st x with
  |some (.val _ vs,st')=>
   match (nth st'.boxes s).getD none with
   |some cs=>
    if vs.length=sh.ct.size/\vs.all AC.KT then
     if off+sh.ct.size<=cs.length then K (st'.eG s (some (db cs off vs))) else none
    else none
   |none=>none
  |_=>none
 |_,_=>none
def Sb (o:Oper)(f:Nat)(g:Bool)(cs:aq AC)(xs:aq Operand)(st:AS)(K:AS->au R):au R:=
 match cs with
 |[.sl (.nest ep r t en i off) _ _]=>
  match st.uc r with
  |some D8=>
   match (D8.drop r.pos).take 1 with
   |[.sl (.own (some t')) e ys]=>
    bif (ep==st.ep)&&(t'==t)&&(en.size==e.size)&&xs.all (λx=>(st.rd x).gv) then
     aa (idx ys i) λx=>
      match ((cellsOf e (.own none) x).drop off).take 1 with
      |[.sl (.own _) e2 zs]=>
       aa ((Γ f).fn (.val g [.sl (.own none) e2 zs]::xs.map st.rd)) λy=>
        match (Γ f).back y with
        |[.sl (.own _) e3 zs']=>
         match iS e (db (cellsOf e (.own none) x) off [.sl (.own none) e3 zs'])with
         |some (x',[])=>bif ((Γ f).av y).gv then K ({st.qd r (db D8 r.pos [.sl (.own (some t)) e (ys.set i.toNat x')])with ep:=st.ep+1}.put o.dst ((Γ f).av y)) else none
         |_=>none
        |_=>none
      |_=>none
    else none
   |_=>none
  |none=>none
 |_=>none
def ioC (o:Oper)(f:Nat)(args:aq Operand)(st:AS)(K:AS->au R):au R:=
 match args with
 |x0::xs=>
  match st.rd x0 with
  | .val g cs=>
    match Lx 0 cs with
    |some (r,j)=>
     match st.uc r with
     |some D8=>
      match mR cs ((D8.drop (r.pos-j)).take cs.length)with
      |some nd=>
       bif xs.all (λx=>(st.rd x).gv) then
        aa ((Γ f).fn (.val g nd::xs.map st.rd)) λy=>
         match DK cs ((D8.drop (r.pos-j)).take cs.length) ((Γ f).back y)with
         |some seg=>bif ((Γ f).av y).gv then K ({st.qd r (db D8 (r.pos-j) seg)with ep:=st.ep+1}.put o.dst ((Γ f).av y)) else none
         |none=>none
       else none
      |none=>none
     |none=>none
    |none=>Sb Γ o f g cs xs st K
  |_=>none
 |[]=>none
def AC.strip:AC->AC
 | .sl (.own _) e xs=> .sl (.own none) e xs
 | .sl (.loc _ _) _ _=> .bot
 | .sl (.nest ..) _ _=> .bot
 | .sl (.part ..) _ _=> .bot
 | .sl (.fe _ i _) e xs=> .sl (.fe none i none) e xs
 | .ptr _ _=> .bot
 | .Da _ _ _ _ _=> .bot
 |c=>c
def AC.YS:AC->Bool
 | .sl (.own _) _ _=>true
 |c=>c.gv
def AC.AO (k:Bool):AC->Bool
 | .sl (.own _) _ _=>true
 | .sl (.arg k') _ _=>k'==k
 |c=>c.gv
def AC.Uw:AC->AC
 | .sl (.own _) e xs=> .sl (.own none) e xs
 | .sl (.arg _) e xs=> .sl (.arg true) e xs
 |c=>c.strip
def AC.ahZ (k:Bool)(tag:au Nat):AC->AC
 | .sl (.own _) e xs=> .sl (.own tag) e xs
 | .sl (.arg _) e xs=> .sl (.arg k) e xs
 |c=>c
def pM (k:Bool)(mk:Nat->au Nat):Nat->aq AC->aq AC
 |_,[]=>[]
 |j,c::cs=>c.ahZ k (mk j)::pM k mk (j+1) cs
def F9 (cs:aq AC):Bool:=cs.any λc=>match c with| .sl (.arg k) _ _=>k|_=>false
def AC.Lq:AC->Bool
 | .sl (.arg k) _ _=> !k
 |c=>c.gv
def AV.Lq:AV->Bool
 | .val _ cs=>cs.all AC.Lq
 | .vU _=>false
def AS.QP (st:AS):AC->AC
 | .sl (.own _) e xs=> .sl (.arg false) e xs
 | .sl (.arg _) e xs=> .sl (.arg false) e xs
 | .sl (.loc _ (some (.slot b j,t))) _ _=>match st.eM (.slot b j)with
   |some (.sl (.own (some t')) e' ys)=>if t'=t then .sl (.arg false) e' ys else .bot
   |_=> .bot
 | .int k n=> .int k n
 | .bool b=> .bool b
 | .str s=> .str s
 | .fn f=> .fn f
 |_=> .bot
def DA (st:AS):Operand->AV
 | .tmp t=>(match st.get t with| .val g cs=> .val g (cs.map st.QP)|v=>v)
 |x=>st.rd x
def Et (st:AS):Operand->Bool
 | .tmp t=>(match st.get t with| .val _ cs=>(cs.map st.QP).all AC.Lq|_=>false)
 |x=>(st.rd x).gv
def AC.acs:AC->Bool
 | .sl (.own _) _ _=>true
 |c=>c.gv
def AV.acs:AV->Bool
 | .val _ cs=>cs.all AC.acs
 | .vU vs=>vs.all λx=>x.2.all AC.acs
def aab (st:AS)(s:Nat)(cs:aq AC):AS:={(st.eG s (some cs)).fw (some s)with ep:=st.ep+1}
def vW (o:Oper)(f:Nat)(args:aq Operand)(st:AS)(K:AS->au R):au R:=
 match args with
 |x0::xs=>
  match st.rd x0 with
  | .val false [.ptr s 0]=>
    match (nth st.boxes s).getD none with
    |some cs=>
     bif cs.all (AC.AO (F9 cs))&&xs.all (Et st) then
      aa ((Γ f).fn (.val true (cs.map AC.Uw)::xs.map (DA st))) λy=>
       bif ((Γ f).back y).all (AC.AO true)&&((Γ f).av y).acs then
        bif (Γ f).cur&&cs.all AC.JU then
         K (((st.eG s (some (pM (F9 cs) (λ_=>none) 0 ((Γ f).back y)))).fw o.dst).put o.dst (((Γ f).av y).Ga st.ep (st.il o.dst)))
        else
        K (((aab st s (pM (F9 cs) (st.il (some s)) 0 ((Γ f).back y))).fw o.dst).put o.dst
          (((Γ f).av y).Ga (st.ep+1) ((aab st s (pM (F9 cs) (st.il (some s)) 0 ((Γ f).back y))).il o.dst)))
       else none
     else none
    |none=>none
  |_=>none
 |[]=>none
def acu (o:Oper)(f:Nat)(args:aq Operand)(st:AS)(K:AS->au R):au R:=
 match o.dst with
 |some d=>
  match nth st.boxes d with
  |some none=>
   bif args.all (λx=>(st.rd x).Lq) then
    aa ((Γ f).fn (args.map st.rd)) λy=>
     bif ((Γ f).back y).all AC.Lq then K ((st.eG d (some ((Γ f).back y))).put (some d) (.one (.ptr d 0))) else none
   else none
  |_=>none
 |none=>none
def Gb (o:Oper)(f:Operand)(args:aq Operand)(st:AS)(K:AS->au R):au R:=
 match st.rd f with
 | .val false [.fn f]=>
   bif (Γ f).bx then vW Γ o f args st K else
   bif (Γ f).pr then acu Γ o f args st K else
   bif (Γ f).io then ioC Γ o f args st K
   else aa ((Γ f).fn (args.map λx=>((st.rd x).fresh st).asArg st.ep)) λr=>cond ((Γ f).sel r) (K ((st.fw o.dst).put o.dst (((Γ f).av r).Ga st.ep (st.il o.dst)))) (K ((st.fw o.dst).put o.dst (((Γ f).alt r).Ga st.ep (st.il o.dst))))
 |_=>none
def Gd {R:Type}(op:BinOp)(b:Bool)(K:AC->au R):au R:=
 match op with
 | .eql=>K (.bool b)
 | .neq=>K (.bool (!b))
 |_=>none
def C5 (o:Oper)(op:BinOp)(T:TypeId)(x y:Operand)(st:AS)(K:AS->au R):au R:=
 match st.rd x,st.rd y with
 | .val false [.bool a],.val false [.bool b]=>if E.bool T then Iy op (.one (.bool a)) (.one (.bool b)) λc=>K (st.put o.dst (.one c)) else none
 | .val true xs,.val true ys=>match R2 E.eqs T with
   |some ls=>if fits ls xs then Iy op (.val true xs) (.val true ys) λc=>K (st.put o.dst (.one c)) else none
   |none=>none
 | .val false [.sl fl _ xs],.val false [.jB]=>if(E.sl T).isSome/\fl.live st.ep then(if xs.length=0 then none else Gd op false λc=>K (st.put o.dst (.one c))) else none
 | .val false [.jB],.val false [.jB]=>if(E.sl T).isSome then Gd op true λc=>K (st.put o.dst (.one c)) else none
 |a,b=>Iy op a b λc=>K (st.put o.dst (.one c))
def dc (o:Oper)(st:AS)(K:AS->au R):au R:=
 match o.op with
 | .move x=>Ew an o x st K
 | .assign x=>if Ci an o then RZ o x st K else vV E an o x st K
 | .pick c a b=>Hv o c a b st K
 | .alloc T=>EO E o T st K
 | .box _ x=>SY o x st K
 | .load T p=>py E an o T p st K
 | .store T p x=>match o.dst with|none=>(if Ci an o then yz E T p x st K else yy E T p x st K)|some _=>none
 | .nilCheck x=>
   match st.rd x with
   | .val false [.ptr s off]=>K (st.put o.dst (.one (.ptr s off)))
   | .val false [.Da fl e y i off]=>K (st.put o.dst (.one (.Da fl e y i off)))
   |_=>none
 | .binOp op T x y _=>C5 E o op T x y st K
 | .unOp op _ x=>unC op (st.rd x) λc=>K (st.put o.dst (.one c))
 | .fieldAddr S p f=>B4 E o S p f st K
 | .indexAddr T x i=>mN E o T x i st K
 | .index T x i=>DV E o T x i st K
 | .build T parts=>DP E o T parts.toList st K
 | .buildSlice T len parts=>lY E o T len parts.toList st K
 | .makeSlice T n c=>oP E o T n c st K
 | .slice T x lo hi none=>CQ E an o T x lo hi st K
 | .field S (.tmp t) f=>HV E o S t f st K
 | .call {callee:=.builtin .copy,args,argTypes}=>Ri E o argTypes.toList args.toList st K
 | .convert src dst x=>mc E o src dst x st K
 | .extract (.tmp t) i=>md o t i st K
 | .call {callee:=.builtin .len,args,argTypes}=>Pa E o argTypes.toList args.toList st K
 | .call {callee:=.builtin .min,args,..}=>QS o args.toList st K
 | .call {callee:=.builtin .max,args,..}=>QR o args.toList st K
 | .call {callee:=.builtin .append,args,argTypes}=>yC E o argTypes.toList args.toList st K
 | .call {callee:=.value f,args,..}=>Gb Γ o f args.toList st K
 |_=>none
def gB (ops:aq Oper)(o:Oper)(st:AS)(K:AS->au R):au R:=
 match o.guard with
 |none=>dc E Γ an o st K
 |some (j,JP)=>
  match (nth ops j).bind (·.dst)with
  |some d=>
   match st.get d with
   | .val false [.bool b]=>
     let go (t:Bool):au R:=
      if t==JP then dc E Γ an o (st.put (some d) (.one (.bool t))) K else K ((st.put (some d) (.one (.bool t))).put o.dst (.one .un))
     cond b (go true) (go false)
   | .val false [.un]=>K (st.put o.dst (.one .un))
   |_=>none
  |none=>none
def T0 (ops:aq Oper):aq Oper->AS->(AS->au R)->au R
 |[],st,K=>K st
 |o::r,st,K=>gB E Γ an ops o st λst'=>T0 ops r st' K
def dz:Code->Nat
 | .region id _ _=>id
 | .seq a _=>dz a
 | .block _ c=>dz c
 | .loop c=>dz c
 | .cond _ a b=>match dz a with|0=>dz b|n=>n
 |_=>0
def yb (c:Code):Nat:=1000000+2*dz c
def kA (l:dX):Code->aq Code
 | .seq a b=>kA l a++(bif l.contains (dz b) then b::kA l b else kA l b)
 | .cond _ a b=>kA l a++kA l b
 | .block _ c=>kA l c
 | .loop c=>kA l c
 |_=>[]
def C8 (l:dX)(fn:Func)(k:Nat):Code:=(nth (kA l (fn.body.getD .skip)) k).getD .skip
def iq:Code->aq Code
 | .seq a b=>iq a++iq b
 | .cond _ a b=>iq a++iq b
 | .block _ c=>iq c
 | .loop c=>c::iq c
 |_=>[]
def gk (fn:Func)(k:Nat):Code:=(nth (iq (fn.body.getD .skip)) k).getD .skip
def Bk (j:Nat):Nat:=3*(4096*1000003+j)
def kv.HI:kv->au Nat
 | .slot s j=>bif Nat.ble 4096 j then none else bif Nat.ble 1000000 s then none else some (3*(4096*s+j))
 | .box s j=>bif Nat.ble 4096 j then none else some (3*(4096*s+j)+1)
 | .io j=>bif Nat.ble 4096 j then none else some (Bk j)
def AC.aeX (io:aq AC)(j t:Nat)(e:CT):au (aq e.D):=
 match nth io j with
 |some (.sl (.own (some t')) e' ys)=>if h:e'=e then bif t'==t then some (h▸ys) else none else none
 |_=>none
def AC.mask (keep:dX)(ep:Nat)(io:aq AC)(rt:kv):AC->AC
 | .ptr s off=>if keep.contains s then .ptr s off else .bot
 | .sl (.loc e pv) t xs=>
   match pv with
   |some (.io j,n)=>match AC.aeX io j n t with
    |some ys=> .sl (.loc 0 ((kv.HI (.io j)).map λq=>(.io j,q))) t ys
    |none=>if e==ep then .sl (.loc 0 none) t xs else .bot
   |_=>if e==ep then .sl (.loc 0 none) t xs else .bot
 | .sl (.own _) t xs=> .sl (.own rt.HI) t xs
 | .sl (.nest ..) _ _=> .bot
 | .sl (.part ..) _ _=> .bot
 | .sl (.fe _ i _) e xs=> .sl (.fe none i none) e xs
 | .Da _ _ _ _ _=> .bot
 |c=>c
def LQ (keep:dX)(ep:Nat)(io:aq AC)(f:Nat->kv):Nat->aq AC->aq AC
 |_,[]=>[]
 |j,c::cs=>c.mask keep ep io (f j)::LQ keep ep io f (j+1) cs
def AV.mask (keep:dX)(ep:Nat)(io:aq AC)(s:Nat):AV->AV
 | .val g cs=> .val g (LQ keep ep io (.slot s) 0 cs)
 | .vU _=> .bot
def nQ (keep:dX)(ep:Nat)(io:aq AC):Nat->aq AV->aq AV
 |_,[]=>[]
 |i,v::r=>(if keep.contains i then v.mask keep ep io i else .bot)::nQ keep ep io (i+1) r
def nP (keep:dX)(ep:Nat)(io:aq AC):Nat->aq (au (aq AC))->aq (au (aq AC))
 |_,[]=>[]
 |i,b::r=>(if keep.contains i then b.map (LQ keep ep io (.box i) 0) else none)::nP keep ep io (i+1) r
def Y5 (keep:dX):Nat->aq AC->aq AC
 |_,[]=>[]
 |j,c::cs=>(match c with| .sl (.own _) e xs=> .sl (.own (kv.HI (.io j))) e xs| .sl (.fe _ i _) e xs=> .sl (.fe none i none) e xs| .ptr s off=>if keep.contains s then .ptr s off else .bot|c=>bif c.gv then c else .bot)::Y5 keep (j+1) cs
def AS.mask (keep:dX)(st:AS):AS:=
 ⟨nQ keep st.ep st.io 0 st.slots,nP keep st.ep st.io 0 st.boxes,0,List.replicate st.slots.length false,Y5 keep 0 st.io⟩
def getBool (st:AS)(s:Nat):au Bool:=
 match st.get s with
 | .val false [.bool b]=>some b
 |_=>none
def gE (an:An)(ds:dX)(o:Oper):Bool:=
 match o.op with
 | .assign (.const _)=> !Ci an o
 | .assign (.tmp t)=>ds.contains t&& !Ci an o
 | .move _| .load ..=>match o.dst with|some d=> !an.mv.contains d|none=>false
 | .slice ..=> !HM an o
 | .pick ..| .binOp ..| .unOp ..| .fieldAddr ..| .indexAddr ..| .index ..| .nilCheck _=>true
 | .build _ ps=>ps.isEmpty
 | .call {callee:=.builtin .len,..}| .call {callee:=.builtin .min,..}| .call {callee:=.builtin .max,..}=>true
 | .call {callee:=.value _,..}=>true
 |_=>false
def Jm (ops:aq Oper):dX:=ops.filterMap (·.dst)
def AS.C9 (st:AS):dX->AS
 |[]=>st
 |d::r=>((st.put (some d) .bot).fw (some d)).C9 r
def ID (ops:aq Oper)(A:aq dX):Nat->aq Oper->AS->(AS->au R)->au R
 |_,[],st,K=>K st
 |i,o::r,st,K=>bif du E an (tA an A i 0 ops) o st then gB E Γ an ops o st λst'=>ID ops A (i+1) r st' K else none
def GY (ops:aq Oper)(draw:Bool)(st:AS)(K:AS->au R):au R:=
 bif draw then(bif Va an ops then ID E Γ.JM an ops (UW ops []) 0 ops st K else none) else T0 E Γ an ops ops st K
def T9 (id:Nat)(ops:aq Oper)(draw:Bool)(st:AS)(K:AS->au R):au R:=
 match an.merge id with
 |none=>GY E Γ an ops draw st K
 |some s=>
  if ops.all (gE an (Jm ops)) then
   aa (GY E Γ.calm an ops draw st λst'=>getBool st' s) λb=>K ((st.C9 (Jm ops)).put (some s) (.one (.bool b)))
  else none
def AU (key:dX)(B:AS->(Ex->AS->au R)->au R):Nat->AS->(Ex->AS->au R)->au R
 |0,_,_=>none
 |m+1,st,K=>B st λe st'=>
  match e with
  | .normal=>AU key B m (st'.mask key) K
  |e=>K e (st'.mask key)
def den (Λ:GD):Code->AS->(Ex->AS->au R)->au R
 | .skip,st,K=>K .normal st
 | .region id ops draw,st,K=>T9 E Γ an id ops.toList draw st (K .normal)
 | .seq a b,st,K=>den Λ a st λe st'=>match e with
   | .normal=>bif an.cut.contains (dz b) then(Λ (yb b)).go (st'.mask (an.mask (yb b))) K else den Λ b st' K
   |e=>K e st'
 | .cond c a b,st,K=>
   match st.rd c with
   | .val false [.bool t]=>cond t (den Λ a st K) (den Λ b st K)
   |_=>none
 | .block id c,st,K=>den Λ c st λe st'=>
   match e with
   | .exit j=>if j==id then K .normal st' else K (.exit j) st'
   |e=>K e st'
 | .loop c,st,K=>
   bif an.peel.contains (dz c) then den Λ c (st.mask (an.mask (dz c))) λe st'=>
    match e with
    | .normal=>(Λ (dz c)).go (st'.mask (an.mask (dz c))) K
    |e=>K e (st'.mask (an.mask (dz c)))
   else(Λ (dz c)).go (st.mask (an.mask (dz c))) K
 | .exit id,st,K=>K (.exit id) st
 | .ret,st,K=>K .ret st
 |_,_,_=>none
end
def PC (st:AS)(E:Env):ResultVar->au ((Bool×Nat)×Bool×aq AC)
 | .tmp t=>match st.get t with| .val g cs=>some ((false,t),g,cs.map AC.strip)|_=>none
 | .cell t T=>match iV E.ty T,st.get t with
   |some sh,.val false [.ptr s off]=>((nth st.boxes s).getD none).bind λcs=>
    if off+sh.ct.size<=cs.length then some ((true,s),sh.agg,((cs.drop off).take sh.ct.size).map AC.strip) else none
   |_,_=>none
def oQ (st:AS)(E:Env):aq (Bool×Nat)->aq ResultVar->au (aq (Bool×aq AC))
 |_,[]=>some []
 |had,r::rs=>(PC st E r).bind λx=>if had.contains x.1 then none else(oQ st E (x.1::had) rs).bind λxs=>some (x.2::xs)
def results (E:Env)(rs:aq ResultVar)(st:AS):au AV:=
 match oQ st E [] rs with
 |some [(g,cs)]=>some (.val g cs)
 |some vs=>some (.vU vs)
 |none=>none
def oh (fn:Func)(args:aq AV):AS:=⟨args++List.replicate (fn.ntmps-args.length) .bot,List.replicate (args.length+(fn.ntmps-args.length)) none,0,List.replicate fn.ntmps false,[]⟩
abbrev iu:aq (Bool×FT)->Type
 |[]=>Unit
 |[(_,t)]=>t.ct.D
 |(_,t)::r=>t.ct.D×iu r
def jY:(l:aq (Bool×FT))->aq (Bool×aq AC)->au (iu l)
 |[],[]=>some ()
 |[(g,t)],[(g',cs)]=>bif g==g' then(match NL t cs with|some (x,[])=>some x|_=>none) else none
 |(g,t)::p::r,(g',cs)::vs=>bif g==g' then(match NL t cs with|some (x,[])=>(jY (p::r) vs).bind λy=>some (x,y)|_=>none) else none
 |_,_=>none
def aiL:(l:aq (Bool×FT))->iu l->aq (Bool×aq AC)
 |[],_=>[]
 |[(g,t)],x=>[(g,iY t x)]
 |(g,t)::p::r,x=>(g,iY t x.1)::aiL (p::r) x.2
def xZ (l:aq (Bool×FT))(x:iu l):AV:=
 match aiL l x with
 |[(g,cs)]=> .val g cs
 |vs=> .vU vs
def GZ (E:Env)(Γ:xV)(an:An)(Λ:GD)(fn:Func)(rs:aq (Bool×FT))(args:aq AV):au (iu rs):=
 match fn.body with
 |some c=>if args.length=fn.params.size then den E Γ an Λ c (oh fn args) λe st=>
  match e with
  | .exit _=>none
  |_=>aa (oQ st E [] fn.results.toList) (jY rs)
  else none
 |none=>none
def evalAlt (E:Env)(Γ:xV)(an:An)(Λ:GD)(fn:Func)(rs Np:aq (Bool×FT))(h:iu Np=iu rs)(args:aq AV):au (Bool×iu rs):=
 match fn.body with
 |some c=>if args.length=fn.params.size then den E Γ an Λ c (oh fn args) λe st=>
  match e with
  | .exit _=>none
  |_=>aa (oQ st E [] fn.results.toList) λys=>
   match jY rs ys with
   |some y=>some (true,y)
   |none=>match jY Np ys with
    |some y=>some (false,cast h y)
    |none=>none
  else none
 |none=>none
def YR:Nat->aq AC->aq AC
 |_,[]=>[]
 |j,.sl _ e xs::cs=> .sl (.own (some (Bk j))) e xs::YR (j+1) cs
 |j,c::cs=>c::YR (j+1) cs
def Ch:Nat->aq AC->aq AC
 |_,[]=>[]
 |j,.sl _ e xs::cs=> .sl (.loc 0 (some (.io j,Bk j))) e xs::Ch (j+1) cs
 |j,c::cs=>c::Ch (j+1) cs
def It (fn:Func)(g:Bool)(cs:aq AC)(args:aq AV):AS:={oh fn (.val g (Ch 0 cs)::args)with io:=YR 0 cs}
def Yg (E:Env)(Γ:xV)(an:An)(Λ:GD)(fn:Func)(rs:aq (Bool×FT))(t:CT)(args:aq AV):au (iu rs×t.D):=
 match fn.body,args with
 |some c,.val g cs::xs=>if xs.length+1=fn.params.size/\cs.all AC.YS=true then den E Γ an Λ c (It fn g cs xs) λe st=>
  match e with
  | .exit _=>none
  |_=>aa (aa (oQ st E [] fn.results.toList) (jY rs)) λr=>
   match iS t st.io with
   |some (x,[])=>some (r,x)
   |_=>none
  else none
 |_,_=>none
def JY:Nat->aq AC->aq AC
 |_,[]=>[]
 |j,.sl (.own _) e xs::cs=> .sl (.own (some (3*j+1))) e xs::JY (j+1) cs
 |j,c::cs=>c::JY (j+1) cs
def CV (fn:Func)(cs:aq AC)(args:aq AV):AS:=
 {oh fn (.one (.ptr 0 0)::args)with boxes:=some (JY 0 cs)::List.replicate (args.length+(fn.ntmps-(args.length+1))) none,io:=[.ptr 0 0]}
def Tc (E:Env)(Γ:xV)(an:An)(Λ:GD)(fn:Func)(rs:aq (Bool×FT))(t:FT)(args:aq AV):au (iu rs×t.ct.D):=
 match fn.body,args with
 |some c,.val true cs::xs=>if xs.length+1=fn.params.size/\cs.all (AC.AO true)=true then den E Γ an Λ c (CV fn cs xs) λe st=>
  match e with
  | .exit _=>none
  |_=>aa (aa (oQ st E [(true,0)] fn.results.toList) (jY rs)) λr=>
   match st.io,st.boxes with
   |[.ptr 0 0],some nd::_=>match NL t (nd.map AC.strip)with
    |some (x,[])=>some (r,x)
    |_=>none
   |_,_=>none
  else none
 |_,_=>none
def NF (E:Env)(Γ:xV)(an:An)(Λ:GD)(fn:Func)(t:FT)(args:aq AV):au t.ct.D:=
 match fn.body with
 |some c=>if args.length=fn.params.size then den E Γ an Λ c (oh fn args) λe st=>
  match e with
  | .exit _=>none
  |_=>match fn.results.toList with
   |[.tmp i]=>match st.get i with
    | .val false [.ptr s 0]=>match (nth st.boxes s).getD none with
      |some cs=>if cs.all AC.Lq=true then(match NL t (cs.map AC.strip)with|some (x,[])=>some x|_=>none) else none
      |none=>none
    |_=>none
   |_=>none
  else none
 |none=>none
end Go.Dn
