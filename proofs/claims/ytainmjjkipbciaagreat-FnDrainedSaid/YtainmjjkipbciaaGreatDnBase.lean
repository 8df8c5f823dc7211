import Derived.Test.YtainmjjkipbciaaGreatDnData
/- An abstract, heap-free semantics of the model's code, for functions that treat their data by value: definitions. -/
namespace Go.Dn
inductive kv where
 |slot (s j:Nat)|box (s j:Nat)|io (j:Nat)
 deriving DecidableEq
inductive pH where
 |own (tag:Option Nat)
 |loc (ep:Nat) (pv:Option (kv×Nat))
 |arg (k:Bool)
 |nest (ep:Nat) (r:kv) (t:Nat) (e:CT) (i:Int) (off:Nat)
 |part (ep:Nat) (r:kv) (t:Nat) (lo:Int)
 |holed (tag:Option Nat) (i:Int) (ep:Option Nat)
inductive AC where
 |int (k:IntKind) (n:Int)|bool (b:Bool)|str (s:List UInt8)
 |sl (fl:pH) (e:CT) (xs:List e.D)
 |nilsl
 |ptr (s off:Nat)
 |elt (fl:pH) (e:CT) (x:e.D) (i:Int) (off:Nat)
 |fn (f:Nat)
 |un
 |bot
inductive AV where
 |val (agg:Bool) (cs:List AC)
 |tup (vs:List (Bool×List AC))
abbrev AV.one (c:AC):AV:=.val false [c]
abbrev AV.bot:AV:=.val false [.bot]
structure AS where
 slots:List AV
 boxes:List (Option (List AC))
 ep:Nat
 iss:List Bool
 io:List AC
structure Shape where
 agg:Bool
 ct:CT
 offs:List (Nat×Nat):=[]
structure An where
 mask:Nat->List Nat:=λ_=>[]
 merge:Nat->Option Nat:=λ_=>none
 mv:List Nat:=[]
 nest:List Nat:=[]
 mb:Nat->Option Nat:=λ_=>none
 sb:Nat->Option Nat:=λ_=>none
 late:List Nat:=[]
 peel:List Nat:=[]
 nils:List Nat:=[]
 fm:List Nat:=[]
 eb:Nat->Option Nat:=λ_=>none
 es:Nat->Option Nat:=λ_=>none
 er:Nat->Option Nat:=λ_=>none
 cut:List Nat:=[]
def cellsOf:(t:CT)->pH->t.D->ax AC
 | .int k,_,n=>[.int k n]
 | .bool,_,b=>[.bool b]
 | .str,_,s=>[.str s]
 | .sl e,fl,xs=>[.sl fl e xs]
 | .pair a b,fl,x=>cellsOf a fl x.1++cellsOf b fl x.2
def kT:(t:CT)->ax AC->aB (t.D×ax AC)
 | .int k,.int k' n::r=>if k'=k then some (n,r) else none
 | .bool,.bool b::r=>some (b,r)
 | .str,.str s::r=>some (s,r)
 | .sl e,.sl (.own _) e' xs::r=>if h:e'=e then some (h▸xs,r) else none
 | .sl _,.nilsl::r=>some ([],r)
 | .pair a b,cs=>(kT a cs).bind λx=>(kT b x.2).bind λy=>some ((x.1,y.1),y.2)
 |_,_=>none
def nth {α:Type}:ax α->Nat->aB α
 |[],_=>none
 |a::_,0=>some a
 |_::l,n+1=>nth l n
def ie {α:Type}:ax α->Nat->α->ax α
 |[],_,_=>[]
 |_::l,0,v=>v::l
 |a::l,n+1,v=>a::ie l n v
def AS.get (st:AS)(i:Nat):AV:=(nth st.slots i).getD .bot
def AS.put (st:AS)(d:aB Nat)(v:AV):AS:=
 match d with
 |some d=>{st with slots:=ie st.slots d v}
 |none=>st
def Fa (d j:Nat):Nat:=3*(4096*d+j)+2
def AS.iu (st:AS)(d:aB Nat)(j:Nat):aB Nat:=
 match d with
 |some d=>bif (nth st.iss d).getD true then none else bif Nat.ble 4096 j then none else some (Fa d j)
 |none=>none
def AS.fU (st:AS)(d:aB Nat):AS:=
 match d with
 |some d=>{st with iss:=ie st.iss d true}
 |none=>st
def AS.oV (st:AS)(d:aB Nat)(e:CT)(xs:ax e.D):AS:=
 (st.fU d).put d (.one (.sl (.own (st.iu d 0)) e xs))
def AC.borrow (ep:Nat)(rt:aB kv):AC->AC
 | .sl (.own tag) e xs=> .sl (.loc ep (match rt,tag with|some r,some t=>some (r,t)|_,_=>none)) e xs
 | .sl (.holed tag _ (some ep0)) e xs=> .sl (.loc ep0 (match rt,tag with|some r,some t=>some (r,t)|_,_=>none)) e xs
 | .sl (.holed _ _ none) _ _=> .bot
 |c=>c
def iE (ep:Nat)(f:Nat->kv):Nat->ax AC->ax AC
 |_,[]=>[]
 |j,c::cs=>c.borrow ep (some (f j))::iE ep f (j+1) cs
def aV (ep:Nat)(cs:ax AC):ax AC:=cs.map (AC.borrow ep none)
def AV.borrow (ep:Nat)(f:Nat->kv):AV->AV
 | .val g cs=> .val g (iE ep f 0 cs)
 | .tup vs=> .tup (vs.map λx=>(x.1,aV ep x.2))
def AV.aV (ep:Nat):AV->AV
 | .val g cs=> .val g (Dn.aV ep cs)
 | .tup vs=> .tup (vs.map λx=>(x.1,Dn.aV ep x.2))
def ofConst:Value->AV
 | .int k n=> .one (.int k n)
 | .bool b=> .one (.bool b)
 | .string s=> .one (.str s.data.toList)
 | .slice none 0 0=> .one .nilsl
 |_=> .bot
def AS.rd (st:AS):Operand->AV
 | .tmp t=>(st.get t).borrow st.ep (.slot t)
 | .const v=>ofConst v
 | .func f=> .one (.fn f)
 | .global _=> .bot
def AS.take (st:AS):Operand->AV×AS
 | .tmp t=>(st.get t,st.put (some t) ((st.get t).aV st.ep))
 |x=>(st.rd x,st)
def AS.fg (st:AS)(s:Nat)(b:aB (ax AC)):AS:={st with boxes:=ie st.boxes s b}
def AC.asArg (ep:Nat):AC->AC
 | .int k n=> .int k n
 | .bool b=> .bool b
 | .str s=> .str s
 | .sl (.own _) e xs=> .sl (.arg false) e xs
 | .sl (.loc ep' _) e xs=>if ep'==ep then .sl (.arg false) e xs else .bot
 | .sl (.arg _) e xs=> .sl (.arg false) e xs
 | .nilsl=> .nilsl
 | .fn f=> .fn f
 |_=> .bot
def AV.asArg (ep:Nat):AV->AV
 | .val g cs=> .val g (cs.map (AC.asArg ep))
 | .tup _=> .bot
def AC.AY (ep:Nat)(tag:aB Nat):AC->AC
 | .sl (.own _) e xs=> .sl (.own tag) e xs
 | .sl (.arg _) e xs=> .sl (.loc ep none) e xs
 | .sl (.loc _ _) _ _=> .bot
 | .sl (.nest ..) _ _=> .bot
 | .sl (.part ..) _ _=> .bot
 | .sl (.holed _ i _) e xs=> .sl (.holed none i none) e xs
 | .ptr _ _=> .bot
 | .elt _ _ _ _ _=> .bot
 |c=>c
def EX (ep:Nat)(mk:Nat->aB Nat):Nat->ax AC->ax AC
 |_,[]=>[]
 |j,c::cs=>c.AY ep (mk j)::EX ep mk (j+1) cs
def TU (ep:Nat)(mk:Nat->aB Nat):Nat->ax (Bool×ax AC)->ax (Bool×ax AC)
 |_,[]=>[]
 |j,t::ts=>(t.1,EX ep mk j t.2)::TU ep mk (j+t.2.length) ts
def AV.AY (ep:Nat)(mk:Nat->aB Nat):AV->AV
 | .val g cs=> .val g (EX ep mk 0 cs)
 | .tup vs=> .tup (TU ep mk 0 vs)
def AC.D4:AC->Bool
 | .sl (.arg _) _ _=>true
 | .int ..=>true
 | .bool _=>true
 | .str _=>true
 | .fn _=>true
 |_=>false
structure bp where
 R:Type
 fn:List AV->Option R
 av:R->AV
 io:Bool:=false
 back:R->List AC:=λ_=>[]
 bx:Bool:=false
 pr:Bool:=false
 sel:R->Bool:=λ_=>true
 alt:R->AV:=λ_=> .val false [.bot]
 cur:Bool:=false
 hcur:cur=true->∀y,(back y).all AC.D4=true:=by intro h;cases h
def bp.res (F:bp)(y:F.R):AV:=cond (F.sel y) (F.av y) (F.alt y)
abbrev eE:=Nat->bp
def bp.dead:bp:={R:=Unit,fn:=λ_=>none,av:=λ_=> .val false [.bot]}
def eE.calm (Γ:eE):eE:=λf=>bif (Γ f).io||(Γ f).bx||(Γ f).pr then bp.dead else Γ f
def eE.DU (Γ:eE):eE:=λf=>bif (Γ f).io||(Γ f).pr||((Γ f).bx&& !(Γ f).cur) then bp.dead else Γ f
def EF {R:Type}(op:BinOp)(k:IntKind)(x y:Int)(K:AC->aB R):aB R:=
 match op with
 | .add=>K (.int k (k.wrap (x+y)))
 | .sub=>K (.int k (k.wrap (x-y)))
 | .mul=>K (.int k (k.wrap (x*y)))
 | .quo=>if y=0 then none else K (.int k (k.wrap (x.tdiv y)))
 | .rem=>if y=0 then none else K (.int k (x.tmod y))
 | .and=>K (.int k (k.wrap (BitVec.ofInt k.bits x&&&BitVec.ofInt k.bits y).toNat))
 | .or=>K (.int k (k.wrap (BitVec.ofInt k.bits x|||BitVec.ofInt k.bits y).toNat))
 | .xor=>K (.int k (k.wrap (BitVec.ofInt k.bits x^^^BitVec.ofInt k.bits y).toNat))
 | .andNot=>K (.int k (k.wrap (BitVec.ofInt k.bits x&&&~~~ BitVec.ofInt k.bits y).toNat))
 | .eql=>K (.bool (x==y))
 | .neq=>K (.bool (x !=y))
 | .lss=>K (.bool (decide (x<y)))
 | .leq=>K (.bool (decide (x<=y)))
 | .gtr=>K (.bool (decide (x>y)))
 | .geq=>K (.bool (decide (x>=y)))
 |_=>none
def Hc {R:Type}(op:BinOp)(x y:ax UInt8)(K:AC->aB R):aB R:=
 match op with
 | .add=>room (x.length+y.length) (K (.str (x++y)))
 | .eql=>K (.bool (x==y))
 | .neq=>K (.bool (!(x==y)))
 | .lss=>K (.bool (Op.bytesLess x y))
 | .leq=>K (.bool (Op.bytesLess x y||x==y))
 | .gtr=>K (.bool (!(Op.bytesLess x y||x==y)))
 | .geq=>K (.bool (!(Op.bytesLess x y)))
 |_=>none
def tn:ax AC->ax AC->aB Bool
 |[],[]=>some true
 | .int k x::r,.int k' y::r'=>if k=k' then(tn r r').bind λb=>some ((x==y)&&b) else none
 | .bool x::r,.bool y::r'=>(tn r r').bind λb=>some ((x==y)&&b)
 | .str x::r,.str y::r'=>(tn r r').bind λb=>some ((x==y)&&b)
 |_,_=>none
def CN {R:Type}(op:BinOp)(x y:AV)(K:AC->aB R):aB R:=
 match x,y with
 | .val false [.int k a],.val false [.int k' b]=>
   match op with
   | .shl=>if b<0 then none else K (.int k (k.wrap (a*2^(min b.toNat k.bits))))
   | .shr=>if b<0 then none else K (.int k (a.fdiv (2^(min b.toNat k.bits))))
   |_=>if k=k' then EF op k a b K else none
 | .val false [.str a],.val false [.str b]=>Hc op a b K
 | .val false [.bool a],.val false [.bool b]=>
   match op with
   | .eql=>K (.bool (a==b))
   | .neq=>K (.bool (!(a==b)))
   |_=>none
 | .val true xs,.val true ys=>
   match op with
   | .eql=>aa (tn xs ys) λb=>K (.bool b)
   | .neq=>aa (tn xs ys) λb=>K (.bool (!b))
   |_=>none
 |_,_=>none
def unC {R:Type}(op:UnOp)(x:AV)(K:AC->aB R):aB R:=
 match op,x with
 | .not,.val false [.bool b]=>K (.bool (!b))
 | .neg,.val false [.int k n]=>K (.int k (k.wrap (0-n)))
 | .xor,.val false [.int k n]=>EF .xor k (if k.signed then-1 else k.max) n K
 |_,_=>none
def eK (cs:ax AC)(off:Nat)(vs:ax AC):ax AC:=cs.take off++vs++cs.drop (off+vs.length)
def AS.fB (st:AS):kv->aB AC
 | .slot s j=>match st.get s with| .val _ cs=>nth cs j|_=>none
 | .box s j=>((nth st.boxes s).getD none).bind λcs=>nth cs j
 | .io j=>nth st.io j
def AS.fG (st:AS)(r:kv)(c:AC):AS:=
 match r with
 | .slot s j=>match st.get s with| .val g cs=>st.put (some s) (.val g (ie cs j c))|_=>st
 | .box s j=>match (nth st.boxes s).getD none with|some cs=>st.fg s (some (ie cs j c))|none=>st
 | .io j=>{st with io:=ie st.io j c}
def AS.fresh (st:AS):AC->AC
 | .sl (.loc ep (some (r,t))) e xs=>
   bif ep==st.ep then .sl (.loc ep (some (r,t))) e xs else
    match st.fB r with
    |some (.sl (.own (some t')) e' ys)=>if h:e'=e then bif t'==t then .sl (.loc st.ep (some (r,t))) e (h▸ys) else .sl (.loc ep (some (r,t))) e xs else .sl (.loc ep (some (r,t))) e xs
    |_=> .sl (.loc ep (some (r,t))) e xs
 |c=>c
def AV.fresh (st:AS):AV->AV
 | .val g cs=> .val g (cs.map st.fresh)
 | .tup vs=> .tup vs
def AC.now (ep:Nat):AC->Bool
 | .sl (.loc ep' (some _)) _ _=>ep'==ep
 |_=>true
def AS.oH {R:Type}(st:AS)(r:kv)(t:Nat)(e:CT)(i:Int)(off:Nat)(vs:ax AC)(K:AS->aB R):aB R:=
 match st.fB r with
 |some (.sl (.own (some t')) e' xs)=>
  if h:e'=e then
   if t'=t then
    aa (idx (h▸xs:ax e.D) i) λx=>
     match kT e (eK (cellsOf e (.own none) x) off vs)with
     |some (x',[])=>K {st.fG r (.sl (.own (some t')) e ((h▸xs:ax e.D).set i.toNat x'))with ep:=st.ep+1}
     |_=>none
   else none
  else none
 |some (.sl (.holed (some t') i' _) e' xs)=>
  if h:e'=e then
   if t'=t/\off=0 then
    aa (Wp (h▸xs:ax e.D) i' i) λ_=>
     match kT e vs with
     |some (x',[])=>K {st.fG r (.sl (.own (some t')) e ((h▸xs:ax e.D).set i.toNat x'))with ep:=st.ep+1}
     |_=>none
   else none
  else none
 |_=>none
def AV.cells:AV->ax AC
 | .val _ cs=>cs
 | .tup _=>[.bot]
def fC (st:AS):ax Operand->ax AV×AS
 |[]=>([],st)
 |x::xs=>let (v,st1):=st.take x;let (vs,st2):=fC st1 xs;(v::vs,st2)
def zI (e:CT):ax (ax AC)->aB (ax e.D)
 |[]=>some []
 |cs::r=>match kT e cs with
  |some (x,[])=>(zI e r).bind λxs=>some (x::xs)
  |_=>none
def ED:Nat->ax (Nat×Operand)->Bool
 |_,[]=>true
 |n,(i,_)::r=>i==n&&ED (n+1) r
def AC.E2:AC->Bool
 | .bot=>false
 | .un=>false
 |_=>true
def uz (offs:ax (Nat×Nat))(zero:ax AC):ax (Nat×ax AC)->aB (ax AC)
 |[]=>some zero
 |(i,cs)::r=>match nth offs i with
  |some (off,n)=>if cs.length=n/\off+n<=zero.length/\cs.all AC.E2 then uz offs (eK zero off cs) r else none
  |none=>none
inductive LK where
 |int|bool|str
 deriving DecidableEq
structure Env where
 ty:List (Nat×Shape)
 eqs:List (Nat×List LK):=[]
 fts:List ((Nat×Nat)×Nat):=[]
def Ma (l:ax (Nat×ax LK))(t:Nat):aB (ax LK):=
 match l with
 |[]=>none
 |(u,sh)::r=>bif u==t then some sh else Ma r t
def fits:ax LK->ax AC->Bool
 |[],[]=>true
 | .int::ls,.int _ _::r=>fits ls r
 | .bool::ls,.bool _::r=>fits ls r
 | .str::ls,.str _::r=>fits ls r
 |_,_=>false
def QV (l:ax ((Nat×Nat)×Nat))(S f:Nat):aB Nat:=
 match l with
 |[]=>none
 |((u,k),T)::r=>bif u==S&&k==f then some T else QV r S f
def je (l:ax (Nat×Shape))(t:Nat):aB Shape:=
 match l with
 |[]=>none
 |(u,sh)::r=>bif u==t then some sh else je r t
def Env.sl (E:Env)(t:Nat):aB CT:=
 match je E.ty t with
 |some ⟨false,.sl e,_⟩=>some e
 |_=>none
def Env.str (E:Env)(t:Nat):Bool:=
 match je E.ty t with
 |some ⟨false,.str,_⟩=>true
 |_=>false
def Env.bool (E:Env)(t:Nat):Bool:=
 match je E.ty t with
 |some ⟨false,.bool,_⟩=>true
 |_=>false
def Env.bytes (E:Env)(t:Nat):Bool:=
 match je E.ty t with
 |some ⟨false,.sl (.int .u8),[(te,_)]⟩=>match je E.ty te with|some ⟨false,.int .u8,_⟩=>true|_=>false
 |_=>false
def pH.live (ep:Nat):pH->Bool
 | .loc ep' _=>ep'==ep
 | .arg _=>true
 | .own _=>false
 | .nest ..=>false
 | .part ..=>false
 | .holed ..=>false
def pH.mi (ep:Nat)(flat:Bool):pH->Bool
 | .loc ep' _=>ep'==ep&&flat
 | .arg _=>flat
 | .own _=>true
 | .nest ..=>false
 | .part ..=>false
 | .holed ..=>false
def pH.bare:pH->pH
 | .loc ep _=> .loc ep none
 |f=>f
def AC.jx:AC->Bool
 | .int _ _=>true
 | .bool _=>true
 | .str _=>true
 | .fn _=>true
 |_=>false
def tm:Operand->fF
 | .tmp t=>[t]
 |_=>[]
def Ll (l:ax Operand):fF:=l.flatMap tm
def Cc (an:An)(o:Oper):Bool:=
 match o.dst with
 |some d=>an.mv.contains d&&(an.mb d).isNone
 |none=>false
def alN (an:An)(o:Oper):Bool:=
 match o.dst with
 |some d=>an.nils.contains d
 |none=>false
def yc (an:An)(o:Oper):Bool:=
 match o.op with
 | .assign (.tmp s)=>an.late.contains s
 | .store _ _ (.tmp s)=>an.late.contains s
 |_=>false
def tmO:aB Operand->fF
 |some x=>tm x
 |none=>[]
def dR (o:Oper):fF:=
 match o.op with
 | .move x=>tm x
 | .assign x=>tm x
 | .pick c a b=>tm c++tm a++tm b
 | .box _ x=>tm x
 | .load _ p=>tm p
 | .store _ p x=>tm p++tm x
 | .nilCheck x=>tm x
 | .binOp _ _ x y _=>tm x++tm y
 | .unOp _ _ x=>tm x
 | .fieldAddr _ p _=>tm p
 | .indexAddr _ x i=>tm x++tm i
 | .index _ x i=>tm x++tm i
 | .build _ parts=>Ll (parts.toList.map (·.2))
 | .buildSlice _ _ parts=>Ll (parts.toList.map (·.2))
 | .makeSlice _ n c=>tm n++tm c
 | .slice _ x lo hi none=>tm x++tmO lo++tmO hi
 | .convert _ _ x=>tm x
 | .extract (.tmp t) _=>[t]
 | .call {callee:=.builtin _,args,..}=>Ll args.toList
 | .call {callee:=.value f,args,..}=>tm f++Ll args.toList
 |_=>[]
def Ca (an:An)(o:Oper):Bool:=
 match o.op with
 | .move _=>match o.dst with|some d=>an.mv.contains d|none=>false
 | .assign _=>true
 | .box ..=>true
 | .build ..=>true
 | .buildSlice ..=>true
 | .store ..=>true
 | .extract ..=>match o.dst with|some d=>an.mv.contains d|none=>false
 | .call {callee:=.builtin .append,..}=>true
 |_=>false
def B8 (an:An)(o:Oper):Bool:=
 match o.op,o.dst,o.guard with
 | .load _ (.tmp q),some d,none=>an.mv.contains d&&(an.mb d).isNone&&(an.eb q).isSome
 |_,_,_=>false
def yF (an:An)(o:Oper):Bool:=
 match o.op,o.dst,o.guard with
 | .load _ (.tmp q),some d,none=> !an.mv.contains d&& !an.fm.contains d&&(an.sb q).isSome
 |_,_,_=>false
def Cf (an:An)(o:Oper):fF:=
 match o.op with
 | .alloc _=>o.dst.toList
 | .box ..=>o.dst.toList
 | .load _ p=>match o.dst with|some d=>bif an.mv.contains d then(an.mb d).toList++(bif B8 an o then(match p with| .tmp q=>(an.eb q).toList|_=>[]) else []) else []|none=>[]
 | .store _ (.tmp p) _=>(an.sb p).toList
 | .call {callee:=.value _,args,..}=>(match args.toList with| .tmp q::_=>(an.sb q).toList|_=>[])
 |_=>[]
def na (an:An)(o:Oper):Bool:=
 match o.op with
 | .move _=>true
 | .load ..=>(match o.dst with|some d=> !an.mv.contains d||(an.mb d).isSome|none=>false)||B8 an o
 | .extract (.tmp _) _=>true
 | .store _ (.tmp p) _=>(an.sb p).isSome&& !yc an o
 | .assign _=> !yc an o
 | .pick ..| .alloc _| .box ..| .nilCheck _| .binOp ..| .unOp ..| .fieldAddr ..| .indexAddr ..| .index ..| .build ..| .buildSlice ..| .makeSlice ..| .convert ..=>true
 | .slice _ _ _ _ none=> !Cc an o
 | .call {callee:=.builtin .len,..}| .call {callee:=.builtin .min,..}| .call {callee:=.builtin .max,..}| .call {callee:=.builtin .append,..}=>true
 | .call {callee:=.value _,..}=>true
 |_=>false
def writes (an:An)(o:Oper):fF:=o.dst.toList++(bif Ca an o then dR o else [])
def AV.now (ep:Nat):AV->Bool
 | .val _ cs=>cs.all (AC.now ep)
 | .tup _=>true
def AC.kP:AC->Bool
 | .int ..=>true
 | .bool _=>true
 | .str _=>true
 | .fn _=>true
 | .ptr ..=>true
 |_=>false
def AV.kP:AV->Bool
 | .val _ cs=>cs.all AC.kP
 | .tup _=>false
def BA (E:Env)(T:TypeId)(st:AS)(s off:Nat):Bool:=
 match je E.ty T,(nth st.boxes s).getD none with
 |some sh,some cs=>((cs.drop off).take sh.ct.size).all AC.kP
 |_,_=>false
def Se (an:An)(o:Oper):Bool:=match o.dst with|some d=>an.fm.contains d|none=>false
def ze (an:An)(o:Oper):Bool:=
 match o.op,o.dst,o.guard with
 | .load _ (.tmp _),some d,none=>an.mv.contains d&&(an.mb d).isSome
 |_,_,_=>false
def I6 (an:An)(o:Oper):Bool:=
 match o.op,o.dst,o.guard with
 | .load _ (.tmp _),some d,none=> !an.mv.contains d&&an.fm.contains d
 |_,_,_=>false
def Yt (an:An)(o:Oper):fF:=
 match o.op,o.dst with
 | .load ..,some d=>(an.er d).toList
 | .call {callee:=.value _,..},some d=>(an.er d).toList
 |_,_=>[]
def AC.aaj (l:fF):AC->Bool
 | .sl (.loc _ (some (.slot b _,_))) _ _=>l.contains b
 | .sl (.loc _ _) _ _=>false
 |_=>true
def E0 (l:fF)(st:AS):Operand->Bool
 | .tmp t=>(match st.get t with| .val _ cs=>cs.all (AC.aaj l)| .tup _=>true)
 |_=>true
def YQ (an:An)(X l:fF)(st:AS)(xs:ax Operand)(q:Nat):AV->Bool
 | .val false [.ptr s _]=> !X.contains s&&an.sb q==some s&&(match (nth st.boxes s).getD none with|some cs=>cs.all AC.D4|none=>true)&&xs.all (E0 l st)
 |_=>true
def AV.Vo:AV->Bool
 | .val false [.ptr _ _]=>false
 |_=>true
def rV (an:An)(X l:fF)(st:AS):ax Operand->Bool
 | .tmp q::xs=>YQ an X l st xs q (st.rd (.tmp q))
 |x::_=>(st.rd x).Vo
 |[]=>true
def dF (E:Env)(an:An)(X:fF)(o:Oper)(st:AS):Bool:=
 match o.op with
 | .move x=> !Se an o||(st.rd x).kP
 | .indexAddr _ x _=>(st.rd x).now st.ep||(match st.rd x with| .val _ [.sl (.loc _ (some (.box b _,_))) _ _]=> !X.contains b|_=>false)
 | .slice _ x _ _ none=>(st.rd x).now st.ep
 | .call {callee:=.value _,args,..}=>rV an X (Yt an o) st args.toList&&args.toList.all λx=>(st.rd x).now st.ep
 | .load T p=>match st.rd p with
   | .val false [.ptr s off]=> !X.contains s&&(match o.dst with|some d=> !an.mv.contains d||an.mb d==some s|none=>true)&&(!Se an o||BA E T st s off)
   | .val false [.elt fl _ _ _ _]=>(fl.live st.ep||(match fl with
     | .loc _ (some (.slot b _,_))=>(Yt an o).contains b
     | .loc _ (some (.box b _,_))=> !X.contains b
     |_=>false))&& !(Se an o||ze an o)&& !yF an o&&(!B8 an o||(match p,fl with
     | .tmp q,.loc _ (some (.box b _,_))=>an.eb q==some b&& !X.contains b
     |_,_=>false))
   |_=> !(Se an o||ze an o)
 | .store _ (.tmp p) _=>((an.sb p).isNone&&(an.eb p).isNone&&(an.es p).isNone)||(match st.rd (.tmp p)with
   | .val false [.ptr s _]=> !X.contains s&&an.sb p==some s
   | .val false [.elt (.loc _ (some (.box b _,_))) _ _ _ _]=>an.eb p==some b&&(an.sb p).isNone&&(an.es p).isNone
   | .val false [.elt (.loc _ (some (.slot b _,_))) _ _ _ _]=>an.es p==some b&&(an.sb p).isNone&&(an.eb p).isNone
   |_=>false)
 | .extract (.tmp t) i=>match st.get t with
   | .tup vs=>match nth vs i with|some x=>x.2.all AC.jx||(match o.dst with|some d=>an.mv.contains d|none=>false)|none=>true
   |_=>true
 |_=>true
def BF (an:An)(ops:ax Oper)(o:Oper):fF:=
 (match o.guard with
 |some (j,_)=>((nth ops j).bind (·.dst)).toList
 |none=>[])++Yt an o
def meets (a b:fF):Bool:=a.any λx=>b.contains x
def Sk (an:An)(ops:ax Oper)(X Y:fF)(o p:Oper):Bool:=
 na an o&&na an p&& !meets (writes an o) (dR p++BF an ops p++writes an p)&& !meets (writes an p) (dR o++BF an ops o)&&
 (Cf an o).all (λd=>Y.contains d)&&(Cf an p).all (λd=>X.contains d)&& !meets (Cf an o) (p.dst.toList++Cf an p)&& !meets (Cf an p) o.dst.toList
def SN (o p:Oper):Bool:=
 match o.op,p.op,o.dst,p.dst,o.guard,p.guard with
 | .extract (.tmp t) i,.extract (.tmp t') j,some d,some d',none,none=>t==t'&& !(i==j)&& !(d==d')&& !(d==t)&& !(d'==t)
 |_,_,_,_,_,_=>false
def SK (an:An)(o p:Oper):Bool:=
 match p.op,p.dst,p.guard with
 | .store _ (.tmp q) (.tmp x),none,none=>((an.eb q).isSome&&(an.es q).isNone||(match an.es q with|some b=>(an.eb q).isNone&& !(b==x)&& !(b==q)&& !meets [b] (o.dst.toList++dR o)|none=>false))&&(an.sb q).isNone&& !yc an p&&(match o.op,o.dst,o.guard with
   | .move (.tmp t),some d,none=> !an.mv.contains d&&an.fm.contains d&& !(d==q)&& !(d==x)&& !(t==x)&& !(t==q)&& !(d==t)
   | .extract (.tmp t) _,some d,none=> !(d==q)&& !(d==x)&& !(t==x)&& !(t==q)&& !(d==t)
   |_,_,_=>false)
 |_,_,_=>false
def Tn (an:An)(o p:Oper):Bool:=
 (ze an o&&I6 an p||I6 an o&&ze an p)&& !meets o.dst.toList (p.dst.toList++dR p)&& !meets p.dst.toList (dR o)
def Sv (an:An)(o p:Oper):Bool:=yF an o&&B8 an p&& !meets o.dst.toList (p.dst.toList++dR p)&& !meets p.dst.toList (dR o)
def Z3 (an:An)(o p:Oper):Bool:=SN o p||SK an o p||Tn an o p||Sv an o p
def H5 (an:An)(ops:ax Oper)(X Y:fF)(o p:Oper):Bool:=Z3 an o p||Sk an ops X Y o p
def yG (o:Oper):fF:=(o.after.toList.filter (λe=>Region.binds .any e)).map (·.on)
def OV (a b:fF):fF:=a.foldl (λs x=>bif s.contains x then s else x::s) b
def O6:ax Oper->ax fF->ax fF
 |[],acc=>acc
 |o::r,acc=>O6 r (acc++[(yG o).foldl (λs j=>OV (j::(nth acc j).getD []) s) []])
def Xv (A:ax fF)(i k:Nat):Bool:=((nth A i).getD []).contains k
def Uz (an:An)(A:ax fF)(i:Nat)(fl pl:Bool):Nat->ax Oper->fF
 |_,[]=>[]
 |k,o::r=>(bif !Xv A i k&& !Xv A k i&& !(k==i)&& !(fl&&ze an o)&& !(pl&&B8 an o) then Cf an o else [])++Uz an A i fl pl (k+1) r
def rm (an:An)(A:ax fF)(i k:Nat)(ops:ax Oper):fF:=Uz an A i (match nth ops i with|some o=>I6 an o|none=>false) (match nth ops i with|some o=>yF an o|none=>false) k ops
def JW (an:An)(ops:ax Oper)(A:ax fF)(i:Nat)(oi:Oper):Nat->ax Oper->Bool
 |_,[]=>true
 |j,oj::r=>bif Nat.ble i j then true else(Xv A i j||H5 an ops (rm an A j 0 ops) (rm an A i 0 ops) oj oi)&&JW an ops A i oi (j+1) r
def Ol (an:An)(ops:ax Oper)(A:ax fF):Nat->ax Oper->Bool
 |_,[]=>true
 |i,oi::r=>(yG oi).all (λk=>Nat.blt k i)&&JW an ops A i oi 0 ops&&Ol an ops A (i+1) r
def PE (an:An)(ops:ax Oper):Bool:=Ol an ops (O6 ops []) 0 ops
inductive Ex where
 |normal|ret|exit (id:Nat)
inductive FK where
 |own (tag:Option Nat)|arg|arg0|loc|lio (j t:Nat)|nil
def FK.flag:FK->pH
 | .own t=> .own t
 | .arg=> .arg false
 | .arg0=> .arg true
 | .loc=> .loc 0 none
 | .lio j t=> .loc 0 (some (.io j,t))
 | .nil=> .arg false
def FK.isNil:FK->Bool
 | .nil=>true
 |_=>false
inductive FT where
 |int (k:IntKind)|bool|str|sl (fl:FK) (e:CT)|pair (a b:FT)
abbrev FT.ct:FT->CT
 | .int k=> .int k
 | .bool=> .bool
 | .str=> .str
 | .sl _ e=> .sl e
 | .pair a b=> .pair a.ct b.ct
def jt:(t:FT)->t.ct.D->ax AC
 | .int k,n=>[.int k n]
 | .bool,b=>[.bool b]
 | .str,s=>[.str s]
 | .sl fl e,xs=>[bif fl.isNil then .nilsl else .sl fl.flag e xs]
 | .pair a b,x=>jt a x.1++jt b x.2
def FK.fits:FK->pH->Bool
 | .own t,.own t'=>t==t'
 | .arg,.arg k=> !k
 | .arg0,.arg k=>k
 | .loc,.loc 0 none=>true
 | .lio j t,.loc 0 (some (.io j',t'))=>j==j'&&t==t'
 |_,_=>false
def HR:(t:FT)->ax AC->aB (t.ct.D×ax AC)
 | .int k,.int k' n::r=>if k'=k then some (n,r) else none
 | .bool,.bool b::r=>some (b,r)
 | .str,.str s::r=>some (s,r)
 | .sl fl e,.sl fl' e' xs::r=>if h:e'=e then bif fl.fits fl' then some (h▸xs,r) else none else none
 | .sl fl _,.nilsl::r=>bif fl.isNil then some ([],r) else none
 | .pair a b,cs=>(HR a cs).bind λx=>(HR b x.2).bind λy=>some ((x.1,y.1),y.2)
 |_,_=>none
inductive PD where
 |bot|ptr (s off:Nat)|fn (f:Nat)|data (g:Bool) (t:FT)
inductive IoD where
 |none|some (t:FT)|ptr
structure SD where
 slots:List PD
 boxes:List (Option FT)
 io:IoD:=.none
abbrev Gg:ax PD->Type
 |[]=>Unit
 | .data _ t::r=>t.ct.D×Gg r
 |_::r=>Gg r
abbrev Ft:ax (aB FT)->Type
 |[]=>Unit
 |some t::r=>t.ct.D×Ft r
 |none::r=>Ft r
abbrev ioD:IoD->Type
 | .none=>Unit
 | .some t=>t.ct.D
 | .ptr=>Unit
abbrev SD.D (d:SD):Type:=Gg d.slots×Ft d.boxes×ioD d.io
def rp:(l:ax PD)->Gg l->ax AV
 |[],_=>[]
 | .data g t::r,x=> .val g (jt t x.1)::rp r x.2
 | .bot::r,x=> .bot::rp r x
 | .ptr s off::r,x=> .one (.ptr s off)::rp r x
 | .fn f::r,x=> .one (.fn f)::rp r x
def zx:(l:ax (aB FT))->Ft l->ax (aB (ax AC))
 |[],_=>[]
 |some t::r,x=>some (jt t x.1)::zx r x.2
 |none::r,x=>none::zx r x
def YU:(o:IoD)->ioD o->ax AC
 | .none,_=>[]
 | .some t,x=>jt t x
 | .ptr,_=>[.ptr 0 0]
def SD.enc (d:SD)(x:d.D):AS:=⟨rp d.slots x.1,zx d.boxes x.2.1,0,List.replicate d.slots.length false,YU d.io x.2.2⟩
def AV.Vi:AV->Bool
 | .val false [.bot]=>true
 |_=>false
def AV.Vj (s off:Nat):AV->Bool
 | .val false [.ptr s' off']=>s==s'&&off==off'
 |_=>false
def AV.WT (f:Nat):AV->Bool
 | .val false [.fn f']=>f==f'
 |_=>false
def jU:(l:ax PD)->ax AV->aB (Gg l)
 |[],[]=>some ()
 | .data g t::r,.val g' cs::vs=>bif g==g' then(match HR t cs with|some (x,[])=>(jU r vs).bind λy=>some (x,y)|_=>none) else none
 | .bot::r,v::vs=>bif v.Vi then jU r vs else none
 | .ptr s off::r,v::vs=>bif v.Vj s off then jU r vs else none
 | .fn f::r,v::vs=>bif v.WT f then jU r vs else none
 |_,_=>none
def pL:(l:ax (aB FT))->ax (aB (ax AC))->aB (Ft l)
 |[],[]=>some ()
 |some t::r,some cs::bs=>match HR t cs with|some (x,[])=>(pL r bs).bind λy=>some (x,y)|_=>none
 |none::r,none::bs=>pL r bs
 |_,_=>none
def Th:ax AC->Bool
 |[.ptr 0 0]=>true
 |_=>false
def Pz:(o:IoD)->ax AC->aB (ioD o)
 | .none,[]=>some ()
 | .some t,cs=>match HR t cs with|some (x,[])=>some x|_=>none
 | .ptr,cs=>bif Th cs then some () else none
 |_,_=>none
def SD.dec (d:SD)(st:AS):aB d.D:=
 bif st.ep==0&&st.iss==List.replicate d.slots.length false then
  (jU d.slots st.slots).bind λx=>(pL d.boxes st.boxes).bind λy=>(Pz d.io st.io).bind λz=>some (x,y,z)
 else none
structure dI where
 sd:SD
 run:{R:Type}->sd.D->(Ex->AS->Option R)->Option R
abbrev eP:=Nat->dI
def dI.go {R:Type}(l:dI)(st:AS)(K:Ex->AS->aB R):aB R:=aa (l.sd.dec st) λx=>l.run x K
def dI.none:dI:=⟨⟨[],[],.none⟩,λ_ _=>Option.none⟩
def eP.nil:eP:=λ_=>dI.none
def eP.add (Λ:eP)(k:Nat)(l:dI):eP:=λj=>bif j==k then l else Λ j
section
variable {R:Type} (E:Env) (Γ:eE) (an:An)
def zK (o:Oper)(x:Operand)(st:AS)(K:AS->aB R):aB R:=
 match o.dst with
 |some d=>if an.mv.contains d then K ((st.take x).2.put o.dst (st.take x).1) else K (st.put o.dst (st.rd x))
 |none=>none
def tf (o:Oper)(x:Operand)(st:AS)(K:AS->aB R):aB R:=
 match st.take x with
 |(.val false [.nilsl],_)=>match E.sl o.type with
  |some e=>K (st.put o.dst (.one (bif alN an o then .nilsl else .sl (.own none) e [])))
  |none=>none
 |(v,st')=>K (st'.put o.dst v)
def BO (o:Oper)(c a b:Operand)(st:AS)(K:AS->aB R):aB R:=
 match st.rd c with
 | .val false [.bool t]=>match st.rd a,st.rd b with
   | .val false [.bool x],.val false [.bool y]=>K (st.put o.dst (.one (.bool (cond t x y))))
   |va,vb=>cond t (K (st.put o.dst va)) (K (st.put o.dst vb))
 |_=>none
def zU (o:Oper)(T:TypeId)(st:AS)(K:AS->aB R):aB R:=
 match o.dst,je E.ty T with
 |some d,some sh=>match nth st.boxes d with
  |some none=>K ((st.fg d (some (cellsOf sh.ct (.own none) sh.ct.zero))).put o.dst (.one (.ptr d 0)))
  |_=>none
 |_,_=>none
def MV (o:Oper)(x:Operand)(st:AS)(K:AS->aB R):aB R:=
 match o.dst,st.take x with
 |some d,(.val _ cs,st')=>
  match nth st'.boxes d with
  |some none=>if cs.all AC.E2 then K ((st'.fg d (some cs)).put o.dst (.one (.ptr d 0))) else none
  |_=>none
 |_,_=>none
def Oh (ep:Nat)(r:kv)(t:Nat)(e:CT)(i:Int):Nat->ax AC->ax AC
 |_,[]=>[]
 |p,.sl _ e' xs::cs=> .sl (.nest ep r t e i p) e' xs::Oh ep r t e i (p+1) cs
 |p,c::cs=>c::Oh ep r t e i (p+1) cs
def ZN (o:Oper)(ep:Nat)(fl:pH)(e:CT)(i:Int)(off:Nat)(cs:ax AC):ax AC:=
 match fl,o.dst with
 | .loc _ (some (r,t)),some d=>bif an.nest.contains d then Oh ep r t e i off cs else cs
 |_,_=>cs
def AG (o:Oper)(sh:Shape)(fl:pH)(e:CT)(i:Int)(off:Nat)(st:AS)(K:AS->aB R):aB R:=
 match fl with
 | .loc _ (some (r,t))=>
   match st.fB r with
   |some (.sl (.own (some t')) e' ys)=>
    if h:e'=e then
     if t'=t/\off+sh.ct.size<=e.size then
      aa (idx (h▸ys:ax e.D) i) λy=>K (st.put o.dst (.val sh.agg (((cellsOf e (.loc st.ep none) y).drop off).take sh.ct.size)))
     else none
    else none
   |_=>none
 |_=>none
def wo (o:Oper)(sh:Shape)(fl:pH)(e:CT)(i:Int)(off:Nat)(st:AS)(K:AS->aB R):aB R:=
 match fl with
 | .loc _ (some (r,t))=>
   match st.fB r with
   |some (.sl (.own (some t')) e' ys)=>
    if h:e'=e then
     if t'=t/\off=0/\sh.ct=e then
      aa (idx (h▸ys:ax e.D) i) λy=>K ((st.fG r (.sl (.holed (some t) i (some st.ep)) e (h▸ys))).put o.dst (.val sh.agg (cellsOf e (.own none) y)))
     else none
    else none
   |_=>none
 |_=>none
def oy (o:Oper)(T:TypeId)(p:Operand)(st:AS)(K:AS->aB R):aB R:=
 match je E.ty T,st.rd p with
 |some sh,.val false [.ptr s off]=>
  match (nth st.boxes s).getD none with
  |some cs=>
   if off+sh.ct.size<=cs.length then
    match o.dst with
    |some d=>
     if an.mv.contains d then
      K ((st.fg s (some (eK cs off (aV st.ep ((cs.drop off).take sh.ct.size))))).put o.dst (.val sh.agg ((cs.drop off).take sh.ct.size)))
     else K (st.put o.dst (.val sh.agg (iE st.ep (.box s) off ((cs.drop off).take sh.ct.size))))
    |none=>none
   else none
  |none=>none
 |some sh,.val false [.elt fl e x i off]=>
  if Cc an o then wo o sh fl e i off st K
  else if fl.live st.ep then
   if off+sh.ct.size<=e.size then K (st.put o.dst (.val sh.agg (ZN an o st.ep fl e i off (((cellsOf e fl.bare x).drop off).take sh.ct.size)))) else none
  else AG o sh fl e i off st K
 |_,_=>none
def uT (T:TypeId)(p x:Operand)(st:AS)(K:AS->aB R):aB R:=
 match je E.ty T,st.rd p with
 |some sh,.val false [.ptr s off]=>
  match st.take x with
  |(.val _ vs,st')=>
   match (nth st'.boxes s).getD none with
   |some cs=>
    if vs.length=sh.ct.size/\vs.all AC.E2 then
     if off+sh.ct.size<=cs.length then K (st'.fg s (some (eK cs off vs))) else none
    else none
   |none=>none
  |_=>none
 |some sh,.val false [.elt (.loc _ (some (r,t))) e _ i off]=>
  match st.take x with
  |(.val _ vs,st')=>
   if vs.length=sh.ct.size/\off+sh.ct.size<=e.size then st'.oH r t e i off vs K else none
  |_=>none
 |_,_=>none
def xQ (o:Oper)(S:TypeId)(p:Operand)(f:Nat)(st:AS)(K:AS->aB R):aB R:=
 match je E.ty S,st.rd p with
 |some ⟨true,_,offs⟩,.val false [.ptr s off]=>match nth offs f with|some (fo,_)=>K (st.put o.dst (.one (.ptr s (off+fo))))|none=>none
 |some ⟨true,_,offs⟩,.val false [.elt fl e x i off]=>match nth offs f with|some (fo,_)=>K (st.put o.dst (.one (.elt fl e x i (off+fo))))|none=>none
 |_,_=>none
def lZ (o:Oper)(T:TypeId)(x i:Operand)(st:AS)(K:AS->aB R):aB R:=
 match E.sl T,(st.rd x).fresh st,st.rd i with
 |some e',.val false [.sl fl e xs],.val false [.int _ n]=>
  if e'=e/\fl.live st.ep then aa (idx xs n) λy=>K (st.put o.dst (.one (.elt fl e y n 0))) else none
 |_,_,_=>none
def yV (o:Oper)(T:TypeId)(x i:Operand)(st:AS)(K:AS->aB R):aB R:=
 match st.rd x,st.rd i with
 | .val false [.str s],.val false [.int _ n]=>if E.str T then aa (idx s n) λb=>K (st.put o.dst (.one (.int .u8 b.toNat))) else none
 |_,_=>none
def yR (o:Oper)(T:TypeId)(parts:ax (Nat×Operand))(st:AS)(K:AS->aB R):aB R:=
 match je E.ty T with
 |some ⟨true,ct,offs⟩=>
  match fC st (parts.map (·.2))with
  |(vs,st')=>
   match uz offs (cellsOf ct (.own none) ct.zero) ((parts.map (·.1)).zip (vs.map AV.cells))with
   |some cs=>K (st'.put o.dst (.val true cs))
   |none=>none
 |_=>none
def ll (o:Oper)(T:TypeId)(len:Nat)(parts:ax (Nat×Operand))(st:AS)(K:AS->aB R):aB R:=
 match E.sl T with
 |some e=>
  if parts.length=len/\ED 0 parts/\len<=1000 then
   match fC st (parts.map (·.2))with
   |(vs,st')=>
    match zI e (vs.map AV.cells)with
    |some xs=>K (st'.oV o.dst e xs)
    |none=>none
  else none
 |none=>none
def nU (o:Oper)(T:TypeId)(n c:Operand)(st:AS)(K:AS->aB R):aB R:=
 match E.sl T,st.rd n,st.rd c with
 |some e,.val false [.int .i64 len],.val false [.int .i64 cap]=>
  if 0<=len/\len<=cap then room cap.toNat (K (st.oV o.dst e (List.replicate len.toNat e.zero))) else none
 |_,_,_=>none
def mr (st:AS)(lo hi:aB Operand)(n:Nat)(K:Int->Int->aB R):aB R:=
 match lo.map st.rd,hi.map st.rd with
 |none,none=>K 0 n
 |some (.val false [.int _ a]),none=>K a n
 |none,some (.val false [.int _ b])=>K 0 b
 |some (.val false [.int _ a]),some (.val false [.int _ b])=>K a b
 |_,_=>none
def uM (o:Oper)(T:TypeId)(x:Operand)(lo hi:aB Operand)(st:AS)(K:AS->aB R):aB R:=
 match st.take x,lo.map st.rd,hi with
 |(.val false [.sl (.own _) e xs],st'),some (.val false [.int _ a]),none=>
  if E.sl T=some e then aa (sub xs a xs.length) λxs'=>K (st'.oV o.dst e xs') else none
 |_,_,_=>none
def JX (o:Oper)(fl:pH)(a:Int):pH:=
 match fl,o.dst with
 | .loc ep (some (r,t)),some d=>bif an.nest.contains d then .part ep r t a else .loc ep none
 |fl,_=>fl.bare
def yi (o:Oper)(T:TypeId)(x:Operand)(lo hi:aB Operand)(st:AS)(K:AS->aB R):aB R:=
 if Cc an o then uM E o T x lo hi st K else
 match (st.rd x).fresh st with
 | .val false [.str s]=>if E.str T then mr st lo hi s.length λa b=>aa (sub s a b) λs'=>K (st.put o.dst (.one (.str s'))) else none
 | .val false [.sl fl e xs]=>
   if E.sl T=some e/\fl.live st.ep then mr st lo hi xs.length λa b=>aa (sub xs a b) λxs'=>K (st.put o.dst (.one (.sl (JX an o fl a) e xs'))) else none
 |_=>none
def lq (o:Oper)(src dst:TypeId)(x:Operand)(st:AS)(K:AS->aB R):aB R:=
 match je E.ty src,je E.ty dst,st.rd x with
 |some _,some ⟨false,.int k,_⟩,.val false [.int _ n]=>K (st.put o.dst (.one (.int k (k.wrap n))))
 |some ⟨false,.str,_⟩,some ⟨false,.str,_⟩,.val false [.str s]=>K (st.put o.dst (.one (.str s)))
 |some ⟨false,.str,_⟩,some _,.val false [.str s]=>
  if E.bytes dst then room s.length (K (st.oV o.dst (.int .u8) (dD s))) else none
 |some _,some ⟨false,.str,_⟩,.val false [.sl fl (.int .u8) xs]=>
  if E.bytes src/\fl.live st.ep then K (st.put o.dst (.one (.str (aM xs)))) else none
 |_,_,_=>none
def lu (o:Oper)(t i:Nat)(st:AS)(K:AS->aB R):aB R:=
 match st.get t with
 | .tup vs=>match nth vs i with
   |some (g,cs)=>K ((st.put (some t) (.tup (ie vs i (g,aV 0 cs)))).put o.dst (.val g cs))
   |none=>none
 |_=>none
def JF (o:Oper)(ts:ax TypeId)(args:ax Operand)(st:AS)(K:AS->aB R):aB R:=
 match ts,args.map st.rd with
 |[t],[.val false [.str s]]=>if E.str t then K (st.put o.dst (.one (.int .i64 s.length))) else none
 |[t],[.val false [.sl _ _ xs]]=>if(E.sl t).isSome then K (st.put o.dst (.one (.int .i64 xs.length))) else none
 |_,_=>none
def K3 (o:Oper)(args:ax Operand)(st:AS)(K:AS->aB R):aB R:=
 match args.map st.rd with
 |[.val false [.int k x],.val false [.int _ y]]=>K (st.put o.dst (.one (.int k (if y<x then y else x))))
 |_=>none
def K2 (o:Oper)(args:ax Operand)(st:AS)(K:AS->aB R):aB R:=
 match args.map st.rd with
 |[.val false [.int k x],.val false [.int _ y]]=>K (st.put o.dst (.one (.int k (if y>x then y else x))))
 |_=>none
def Lv (o:Oper)(ts:ax TypeId)(args:ax Operand)(st:AS)(K:AS->aB R):aB R:=
 match ts,args.map st.rd with
 |[t,t'],[.val false [.sl (.part ep r tg lo) e xs],.val false [.str s]]=>
  match st.fB r with
  |some (.sl (.own (some tg')) e' ys)=>
   if h:e'=.int .u8 then
    if e=.int .u8/\E.sl t=some (.int .u8)/\E.str t'=true/\ep=st.ep/\tg'=tg then
     K ({st.fG r (.sl (.own (some tg)) (.int .u8) (zL (h▸ys:ax (CT.int .u8).D) lo.toNat (dD (s.take xs.length))))with ep:=st.ep+1}.put o.dst (.one (.int .i64 (min xs.length s.length:Nat))))
    else none
   else none
  |_=>none
 |_,_=>none
def Cn (o:Oper)(S:TypeId)(t f:Nat)(st:AS)(K:AS->aB R):aB R:=
 match je E.ty S,st.get t,QV E.fts S f with
 |some ⟨true,ct,offs⟩,.val true cs,some T=>
  match nth offs f,je E.ty T with
  |some (fo,n),some sh=>
   if n=sh.ct.size/\cs.length=ct.size/\fo+n<=cs.length then
    K ((st.put (some t) (.val true (eK cs fo (aV st.ep ((cs.drop fo).take n))))).put o.dst (.val sh.agg ((cs.drop fo).take n)))
   else none
  |_,_=>none
 |_,_,_=>none
def uY (o:Oper)(ts:ax TypeId)(args:ax Operand)(st:AS)(K:AS->aB R):aB R:=
 match ts,args with
 |[t,t'],[s,x]=>
  match st.take s with
  |(.val false [.sl (.own _) e xs],st1)=>
   match st1.take x with
   |(.val false [.sl fl e' ys],st2)=>
    if h:e'=e then
     if E.sl t=some e/\E.sl t'=some e/\fl.mi st.ep e.flat then
      room (xs.length+ys.length) (K (st2.oV o.dst e (xs++(h▸ys:ax e.D))))
     else none
    else none
   |(.val false [.str s],st2)=>
    if h:e=.int .u8 then
     if E.sl t=some e/\E.str t' then room (xs.length+s.length) (K (st2.oV o.dst (.int .u8) ((h▸xs:ax (CT.int .u8).D)++dD s))) else none
    else none
   |_=>none
  |_=>none
 |_,_=>none
def LN:Nat->ax AC->aB (kv×Nat)
 |_,[]=>none
 |j,.sl (.loc _ (some (r,_))) _ _::_=>some (r,j)
 |j,_::cs=>LN (j+1) cs
def kv.pos:kv->Nat
 | .slot _ j=>j
 | .box _ j=>j
 | .io j=>j
def AS.ES (st:AS):kv->aB (ax AC)
 | .slot s _=>match st.get s with| .val _ cs=>some cs|_=>none
 | .box s _=>(nth st.boxes s).getD none
 | .io _=>some st.io
def AS.BX (st:AS)(r:kv)(cs:ax AC):AS:=
 match r with
 | .slot s _=>match st.get s with| .val g _=>st.put (some s) (.val g cs)|_=>st
 | .box s _=>st.fg s (some cs)
 | .io _=>{st with io:=cs}
def nj:ax AC->ax AC->aB (ax AC)
 |[],[]=>some []
 | .sl (.loc _ (some (_,t))) _ _::os,.sl (.own (some t')) e xs::ss=>bif t'==t then(nj os ss).bind λr=>some (.sl (.own none) e xs::r) else none
 | .int k n::os,.int _ _::ss=>(nj os ss).bind λr=>some (.int k n::r)
 | .bool b::os,.bool _::ss=>(nj os ss).bind λr=>some (.bool b::r)
 | .str x::os,.str _::ss=>(nj os ss).bind λr=>some (.str x::r)
 |_,_=>none
def AV.jx:AV->Bool
 | .val _ cs=>cs.all AC.jx
 | .tup vs=>vs.all λx=>x.2.all AC.jx
def MZ (st:AS)(x:Operand):aB (AV×AS):=
 match st.rd x with
 | .val g cs=>
   match LN 0 cs with
   |some (r,j)=>
    match st.ES r with
    |some csO=>
     match nj cs ((csO.drop (r.pos-j)).take cs.length)with
     |some cs'=>some (.val g cs',st.BX r (eK csO (r.pos-j) (aV st.ep ((csO.drop (r.pos-j)).take cs.length))))
     |none=>none
    |none=>none
   |none=>none
 |_=>none
def L6 (o:Oper)(x:Operand)(st:AS)(K:AS->aB R):aB R:=
 match MZ st x with
 |some (v,st')=>K (st'.put o.dst v)
 |none=>none
def uU (T:TypeId)(p x:Operand)(st:AS)(K:AS->aB R):aB R:=
 match je E.ty T,st.rd p with
 |some sh,.val false [.ptr s off]=>
  match MZ st x with
  |some (.val _ vs,st')=>
   match (nth st'.boxes s).getD none with
   |some cs=>
    if vs.length=sh.ct.size/\vs.all AC.E2 then
     if off+sh.ct.size<=cs.length then K (st'.fg s (some (eK cs off vs))) else none
    else none
   |none=>none
  |_=>none
 |_,_=>none
def AC.strip:AC->AC
 | .sl (.own _) e xs=> .sl (.own none) e xs
 | .sl (.loc _ _) _ _=> .bot
 | .sl (.nest ..) _ _=> .bot
 | .sl (.part ..) _ _=> .bot
 | .sl (.holed _ i _) e xs=> .sl (.holed none i none) e xs
 | .ptr _ _=> .bot
 | .elt _ _ _ _ _=> .bot
 |c=>c
def AC.acn:AC->Bool
 | .sl (.own _) _ _=>true
 |c=>c.jx
def AC.wL (k:Bool):AC->Bool
 | .sl (.own _) _ _=>true
 | .sl (.arg k') _ _=>k'==k
 |c=>c.jx
def AC.ON:AC->AC
 | .sl (.own _) e xs=> .sl (.own none) e xs
 | .sl (.arg _) e xs=> .sl (.arg true) e xs
 |c=>c.strip
def AC.aem (k:Bool)(tag:aB Nat):AC->AC
 | .sl (.own _) e xs=> .sl (.own tag) e xs
 | .sl (.arg _) e xs=> .sl (.arg k) e xs
 |c=>c
def oL (k:Bool)(mk:Nat->aB Nat):Nat->ax AC->ax AC
 |_,[]=>[]
 |j,c::cs=>c.aem k (mk j)::oL k mk (j+1) cs
def AX (cs:ax AC):Bool:=cs.any λc=>match c with| .sl (.arg k) _ _=>k|_=>false
def AC.Fs:AC->Bool
 | .sl (.arg k) _ _=> !k
 |c=>c.jx
def AV.Fs:AV->Bool
 | .val _ cs=>cs.all AC.Fs
 | .tup _=>false
def AS.K0 (st:AS):AC->AC
 | .sl (.own _) e xs=> .sl (.arg false) e xs
 | .sl (.arg _) e xs=> .sl (.arg false) e xs
 | .sl (.loc _ (some (.slot b j,t))) _ _=>match st.fB (.slot b j)with
   |some (.sl (.own (some t')) e' ys)=>if t'=t then .sl (.arg false) e' ys else .bot
   |_=> .bot
 | .int k n=> .int k n
 | .bool b=> .bool b
 | .str s=> .str s
 | .fn f=> .fn f
 |_=> .bot
def yE (st:AS):Operand->AV
 | .tmp t=>(match st.get t with| .val g cs=> .val g (cs.map st.K0)|v=>v)
 |x=>st.rd x
def zH (st:AS):Operand->Bool
 | .tmp t=>(match st.get t with| .val _ cs=>(cs.map st.K0).all AC.Fs|_=>false)
 |x=>(st.rd x).jx
def AC.Xk:AC->Bool
 | .sl (.own _) _ _=>true
 |c=>c.jx
def AV.Xk:AV->Bool
 | .val _ cs=>cs.all AC.Xk
 | .tup vs=>vs.all λx=>x.2.all AC.Xk
def Uy (st:AS)(s:Nat)(cs:ax AC):AS:={(st.fg s (some cs)).fU (some s)with ep:=st.ep+1}
def th (o:Oper)(f:Nat)(args:ax Operand)(st:AS)(K:AS->aB R):aB R:=
 match args with
 |x0::xs=>
  match st.rd x0 with
  | .val false [.ptr s 0]=>
    match (nth st.boxes s).getD none with
    |some cs=>
     bif cs.all (AC.wL (AX cs))&&xs.all (zH st) then
      aa ((Γ f).fn (.val true (cs.map AC.ON)::xs.map (yE st))) λy=>
       bif ((Γ f).back y).all (AC.wL true)&&((Γ f).av y).Xk then
        bif (Γ f).cur&&cs.all AC.D4 then
         K (((st.fg s (some (oL (AX cs) (λ_=>none) 0 ((Γ f).back y)))).fU o.dst).put o.dst (((Γ f).av y).AY st.ep (st.iu o.dst)))
        else
        K (((Uy st s (oL (AX cs) (st.iu (some s)) 0 ((Γ f).back y))).fU o.dst).put o.dst
          (((Γ f).av y).AY (st.ep+1) ((Uy st s (oL (AX cs) (st.iu (some s)) 0 ((Γ f).back y))).iu o.dst)))
       else none
     else none
    |none=>none
  |_=>none
 |[]=>none
def Xl (o:Oper)(f:Nat)(args:ax Operand)(st:AS)(K:AS->aB R):aB R:=
 match o.dst with
 |some d=>
  match nth st.boxes d with
  |some none=>
   bif args.all (λx=>(st.rd x).Fs) then
    aa ((Γ f).fn (args.map st.rd)) λy=>
     bif ((Γ f).back y).all AC.Fs then K ((st.fg d (some ((Γ f).back y))).put (some d) (.one (.ptr d 0))) else none
   else none
  |_=>none
 |none=>none
def Ba (o:Oper)(f:Operand)(args:ax Operand)(st:AS)(K:AS->aB R):aB R:=
 match st.rd f with
 | .val false [.fn f]=>
   bif (Γ f).bx then th Γ o f args st K else
   bif (Γ f).pr then Xl Γ o f args st K else
   bif (Γ f).io then none
   else aa ((Γ f).fn (args.map λx=>((st.rd x).fresh st).asArg st.ep)) λr=>cond ((Γ f).sel r) (K ((st.fU o.dst).put o.dst (((Γ f).av r).AY st.ep (st.iu o.dst)))) (K ((st.fU o.dst).put o.dst (((Γ f).alt r).AY st.ep (st.iu o.dst))))
 |_=>none
def Bc {R:Type}(op:BinOp)(b:Bool)(K:AC->aB R):aB R:=
 match op with
 | .eql=>K (.bool b)
 | .neq=>K (.bool (!b))
 |_=>none
def yq (o:Oper)(op:BinOp)(T:TypeId)(x y:Operand)(st:AS)(K:AS->aB R):aB R:=
 match st.rd x,st.rd y with
 | .val false [.bool a],.val false [.bool b]=>if E.bool T then CN op (.one (.bool a)) (.one (.bool b)) λc=>K (st.put o.dst (.one c)) else none
 | .val true xs,.val true ys=>match Ma E.eqs T with
   |some ls=>if fits ls xs then CN op (.val true xs) (.val true ys) λc=>K (st.put o.dst (.one c)) else none
   |none=>none
 | .val false [.sl fl _ xs],.val false [.nilsl]=>if(E.sl T).isSome/\fl.live st.ep then(if xs.length=0 then none else Bc op false λc=>K (st.put o.dst (.one c))) else none
 | .val false [.nilsl],.val false [.nilsl]=>if(E.sl T).isSome then Bc op true λc=>K (st.put o.dst (.one c)) else none
 |a,b=>CN op a b λc=>K (st.put o.dst (.one c))
def dq (o:Oper)(st:AS)(K:AS->aB R):aB R:=
 match o.op with
 | .move x=>zK an o x st K
 | .assign x=>if yc an o then L6 o x st K else tf E an o x st K
 | .pick c a b=>BO o c a b st K
 | .alloc T=>zU E o T st K
 | .box _ x=>MV o x st K
 | .load T p=>oy E an o T p st K
 | .store T p x=>match o.dst with|none=>(if yc an o then uU E T p x st K else uT E T p x st K)|some _=>none
 | .nilCheck x=>
   match st.rd x with
   | .val false [.ptr s off]=>K (st.put o.dst (.one (.ptr s off)))
   | .val false [.elt fl e y i off]=>K (st.put o.dst (.one (.elt fl e y i off)))
   |_=>none
 | .binOp op T x y _=>yq E o op T x y st K
 | .unOp op _ x=>unC op (st.rd x) λc=>K (st.put o.dst (.one c))
 | .fieldAddr S p f=>xQ E o S p f st K
 | .indexAddr T x i=>lZ E o T x i st K
 | .index T x i=>yV E o T x i st K
 | .build T parts=>yR E o T parts.toList st K
 | .buildSlice T len parts=>ll E o T len parts.toList st K
 | .makeSlice T n c=>nU E o T n c st K
 | .slice T x lo hi none=>yi E an o T x lo hi st K
 | .field S (.tmp t) f=>Cn E o S t f st K
 | .call {callee:=.builtin .copy,args,argTypes}=>Lv E o argTypes.toList args.toList st K
 | .convert src dst x=>lq E o src dst x st K
 | .extract (.tmp t) i=>lu o t i st K
 | .call {callee:=.builtin .len,args,argTypes}=>JF E o argTypes.toList args.toList st K
 | .call {callee:=.builtin .min,args,..}=>K3 o args.toList st K
 | .call {callee:=.builtin .max,args,..}=>K2 o args.toList st K
 | .call {callee:=.builtin .append,args,argTypes}=>uY E o argTypes.toList args.toList st K
 | .call {callee:=.value f,args,..}=>Ba Γ o f args.toList st K
 |_=>none
def gQ (ops:ax Oper)(o:Oper)(st:AS)(K:AS->aB R):aB R:=
 match o.guard with
 |none=>dq E Γ an o st K
 |some (j,want)=>
  match (nth ops j).bind (·.dst)with
  |some d=>
   match st.get d with
   | .val false [.bool b]=>
     let go (t:Bool):aB R:=
      if t==want then dq E Γ an o (st.put (some d) (.one (.bool t))) K else K ((st.put (some d) (.one (.bool t))).put o.dst (.one .un))
     cond b (go true) (go false)
   | .val false [.un]=>K (st.put o.dst (.one .un))
   |_=>none
  |none=>none
def Oi (ops:ax Oper):ax Oper->AS->(AS->aB R)->aB R
 |[],st,K=>K st
 |o::r,st,K=>gQ E Γ an ops o st λst'=>Oi ops r st' K
def fY:Code->Nat
 | .region id _ _=>id
 | .seq a _=>fY a
 | .block _ c=>fY c
 | .loop c=>fY c
 | .cond _ a b=>match fY a with|0=>fY b|n=>n
 |_=>0
def Bq (c:Code):Nat:=1000000+2*fY c
def kF (l:fF):Code->ax Code
 | .seq a b=>kF l a++(bif l.contains (fY b) then b::kF l b else kF l b)
 | .cond _ a b=>kF l a++kF l b
 | .block _ c=>kF l c
 | .loop c=>kF l c
 |_=>[]
def ti (l:fF)(fn:Func)(k:Nat):Code:=(nth (kF l (fn.body.getD .skip)) k).getD .skip
def jm:Code->ax Code
 | .seq a b=>jm a++jm b
 | .cond _ a b=>jm a++jm b
 | .block _ c=>jm c
 | .loop c=>c::jm c
 |_=>[]
def bl (fn:Func)(k:Nat):Code:=(nth (jm (fn.body.getD .skip)) k).getD .skip
def Vh (j:Nat):Nat:=3*(4096*1000003+j)
def kv.B7:kv->aB Nat
 | .slot s j=>bif Nat.ble 4096 j then none else bif Nat.ble 1000000 s then none else some (3*(4096*s+j))
 | .box s j=>bif Nat.ble 4096 j then none else some (3*(4096*s+j)+1)
 | .io j=>bif Nat.ble 4096 j then none else some (Vh j)
def AC.ZC (io:ax AC)(j t:Nat)(e:CT):aB (ax e.D):=
 match nth io j with
 |some (.sl (.own (some t')) e' ys)=>if h:e'=e then bif t'==t then some (h▸ys) else none else none
 |_=>none
def AC.mask (keep:fF)(ep:Nat)(io:ax AC)(rt:kv):AC->AC
 | .ptr s off=>if keep.contains s then .ptr s off else .bot
 | .sl (.loc e pv) t xs=>
   match pv with
   |some (.io j,n)=>match AC.ZC io j n t with
    |some ys=> .sl (.loc 0 ((kv.B7 (.io j)).map λq=>(.io j,q))) t ys
    |none=>if e==ep then .sl (.loc 0 none) t xs else .bot
   |_=>if e==ep then .sl (.loc 0 none) t xs else .bot
 | .sl (.own _) t xs=> .sl (.own rt.B7) t xs
 | .sl (.nest ..) _ _=> .bot
 | .sl (.part ..) _ _=> .bot
 | .sl (.holed _ i _) e xs=> .sl (.holed none i none) e xs
 | .elt _ _ _ _ _=> .bot
 |c=>c
def FU (keep:fF)(ep:Nat)(io:ax AC)(f:Nat->kv):Nat->ax AC->ax AC
 |_,[]=>[]
 |j,c::cs=>c.mask keep ep io (f j)::FU keep ep io f (j+1) cs
def AV.mask (keep:fF)(ep:Nat)(io:ax AC)(s:Nat):AV->AV
 | .val g cs=> .val g (FU keep ep io (.slot s) 0 cs)
 | .tup _=> .bot
def mZ (keep:fF)(ep:Nat)(io:ax AC):Nat->ax AV->ax AV
 |_,[]=>[]
 |i,v::r=>(if keep.contains i then v.mask keep ep io i else .bot)::mZ keep ep io (i+1) r
def mY (keep:fF)(ep:Nat)(io:ax AC):Nat->ax (aB (ax AC))->ax (aB (ax AC))
 |_,[]=>[]
 |i,b::r=>(if keep.contains i then b.map (FU keep ep io (.box i) 0) else none)::mY keep ep io (i+1) r
def Tv (keep:fF):Nat->ax AC->ax AC
 |_,[]=>[]
 |j,c::cs=>(match c with| .sl (.own _) e xs=> .sl (.own (kv.B7 (.io j))) e xs| .sl (.holed _ i _) e xs=> .sl (.holed none i none) e xs| .ptr s off=>if keep.contains s then .ptr s off else .bot|c=>bif c.jx then c else .bot)::Tv keep (j+1) cs
def AS.mask (keep:fF)(st:AS):AS:=
 ⟨mZ keep st.ep st.io 0 st.slots,mY keep st.ep st.io 0 st.boxes,0,List.replicate st.slots.length false,Tv keep 0 st.io⟩
def getBool (st:AS)(s:Nat):aB Bool:=
 match st.get s with
 | .val false [.bool b]=>some b
 |_=>none
def gT (an:An)(ds:fF)(o:Oper):Bool:=
 match o.op with
 | .assign (.const _)=> !yc an o
 | .assign (.tmp t)=>ds.contains t&& !yc an o
 | .move _| .load ..=>match o.dst with|some d=> !an.mv.contains d|none=>false
 | .slice ..=> !Cc an o
 | .pick ..| .binOp ..| .unOp ..| .fieldAddr ..| .indexAddr ..| .index ..| .nilCheck _=>true
 | .build _ ps=>ps.isEmpty
 | .call {callee:=.builtin .len,..}| .call {callee:=.builtin .min,..}| .call {callee:=.builtin .max,..}=>true
 | .call {callee:=.value _,..}=>true
 |_=>false
def Dx (ops:ax Oper):fF:=ops.filterMap (·.dst)
def AS.yA (st:AS):fF->AS
 |[]=>st
 |d::r=>((st.put (some d) .bot).fU (some d)).yA r
def CS (ops:ax Oper)(A:ax fF):Nat->ax Oper->AS->(AS->aB R)->aB R
 |_,[],st,K=>K st
 |i,o::r,st,K=>bif dF E an (rm an A i 0 ops) o st then gQ E Γ an ops o st λst'=>CS ops A (i+1) r st' K else none
def Bw (ops:ax Oper)(draw:Bool)(st:AS)(K:AS->aB R):aB R:=
 bif draw then(bif PE an ops then CS E Γ.DU an ops (O6 ops []) 0 ops st K else none) else Oi E Γ an ops ops st K
def Ot (id:Nat)(ops:ax Oper)(draw:Bool)(st:AS)(K:AS->aB R):aB R:=
 match an.merge id with
 |none=>Bw E Γ an ops draw st K
 |some s=>
  if ops.all (gT an (Dx ops)) then
   aa (Bw E Γ.calm an ops draw st λst'=>getBool st' s) λb=>K ((st.yA (Dx ops)).put (some s) (.one (.bool b)))
  else none
def Bf (key:fF)(B:AS->(Ex->AS->aB R)->aB R):Nat->AS->(Ex->AS->aB R)->aB R
 |0,_,_=>none
 |m+1,st,K=>B st λe st'=>
  match e with
  | .normal=>Bf key B m (st'.mask key) K
  |e=>K e (st'.mask key)
def den (Λ:eP):Code->AS->(Ex->AS->aB R)->aB R
 | .skip,st,K=>K .normal st
 | .region id ops draw,st,K=>Ot E Γ an id ops.toList draw st (K .normal)
 | .seq a b,st,K=>den Λ a st λe st'=>match e with
   | .normal=>bif an.cut.contains (fY b) then(Λ (Bq b)).go (st'.mask (an.mask (Bq b))) K else den Λ b st' K
   |e=>K e st'
 | .cond c a b,st,K=>
   match st.rd c with
   | .val false [.bool t]=>cond t (den Λ a st K) (den Λ b st K)
   |_=>none
 | .block id c,st,K=>den Λ c st λe st'=>
   match e with
   | .exit j=>if j==id then K .normal st' else K (.exit j) st'
   |e=>K e st'
 | .loop c,st,K=>
   bif an.peel.contains (fY c) then den Λ c (st.mask (an.mask (fY c))) λe st'=>
    match e with
    | .normal=>(Λ (fY c)).go (st'.mask (an.mask (fY c))) K
    |e=>K e (st'.mask (an.mask (fY c)))
   else(Λ (fY c)).go (st.mask (an.mask (fY c))) K
 | .exit id,st,K=>K (.exit id) st
 | .ret,st,K=>K .ret st
 |_,_,_=>none
end
def Kc (st:AS)(E:Env):ResultVar->aB ((Bool×Nat)×Bool×ax AC)
 | .tmp t=>match st.get t with| .val g cs=>some ((false,t),g,cs.map AC.strip)|_=>none
 | .cell t T=>match je E.ty T,st.get t with
   |some sh,.val false [.ptr s off]=>((nth st.boxes s).getD none).bind λcs=>
    if off+sh.ct.size<=cs.length then some ((true,s),sh.agg,((cs.drop off).take sh.ct.size).map AC.strip) else none
   |_,_=>none
def rh (st:AS)(E:Env):ax (Bool×Nat)->ax ResultVar->aB (ax (Bool×ax AC))
 |_,[]=>some []
 |had,r::rs=>(Kc st E r).bind λx=>if had.contains x.1 then none else(rh st E (x.1::had) rs).bind λxs=>some (x.2::xs)
def results (E:Env)(rs:ax ResultVar)(st:AS):aB AV:=
 match rh st E [] rs with
 |some [(g,cs)]=>some (.val g cs)
 |some vs=>some (.tup vs)
 |none=>none
def start (fn:Func)(args:ax AV):AS:=⟨args++List.replicate (fn.ntmps-args.length) .bot,List.replicate (args.length+(fn.ntmps-args.length)) none,0,List.replicate fn.ntmps false,[]⟩
abbrev la:ax (Bool×FT)->Type
 |[]=>Unit
 |[(_,t)]=>t.ct.D
 |(_,t)::r=>t.ct.D×la r
def kZ:(l:ax (Bool×FT))->ax (Bool×ax AC)->aB (la l)
 |[],[]=>some ()
 |[(g,t)],[(g',cs)]=>bif g==g' then(match HR t cs with|some (x,[])=>some x|_=>none) else none
 |(g,t)::p::r,(g',cs)::vs=>bif g==g' then(match HR t cs with|some (x,[])=>(kZ (p::r) vs).bind λy=>some (x,y)|_=>none) else none
 |_,_=>none
def ahv:(l:ax (Bool×FT))->la l->ax (Bool×ax AC)
 |[],_=>[]
 |[(g,t)],x=>[(g,jt t x)]
 |(g,t)::p::r,x=>(g,jt t x.1)::ahv (p::r) x.2
def xM (l:ax (Bool×FT))(x:la l):AV:=
 match ahv l x with
 |[(g,cs)]=> .val g cs
 |vs=> .tup vs
def I0 (E:Env)(Γ:eE)(an:An)(Λ:eP)(fn:Func)(rs:ax (Bool×FT))(args:ax AV):aB (la rs):=
 match fn.body with
 |some c=>if args.length=fn.params.size then den E Γ an Λ c (start fn args) λe st=>
  match e with
  | .exit _=>none
  |_=>aa (rh st E [] fn.results.toList) (kZ rs)
  else none
 |none=>none
def evalAlt (E:Env)(Γ:eE)(an:An)(Λ:eP)(fn:Func)(rs rs2:ax (Bool×FT))(h:la rs2=la rs)(args:ax AV):aB (Bool×la rs):=
 match fn.body with
 |some c=>if args.length=fn.params.size then den E Γ an Λ c (start fn args) λe st=>
  match e with
  | .exit _=>none
  |_=>aa (rh st E [] fn.results.toList) λys=>
   match kZ rs ys with
   |some y=>some (true,y)
   |none=>match kZ rs2 ys with
    |some y=>some (false,cast h y)
    |none=>none
  else none
 |none=>none
def D7:Nat->ax AC->ax AC
 |_,[]=>[]
 |j,.sl (.own _) e xs::cs=> .sl (.own (some (3*j+1))) e xs::D7 (j+1) cs
 |j,c::cs=>c::D7 (j+1) cs
def yk (fn:Func)(cs:ax AC)(args:ax AV):AS:=
 {start fn (.one (.ptr 0 0)::args)with boxes:=some (D7 0 cs)::List.replicate (args.length+(fn.ntmps-(args.length+1))) none,io:=[.ptr 0 0]}
def U1 (E:Env)(Γ:eE)(an:An)(Λ:eP)(fn:Func)(rs:ax (Bool×FT))(t:FT)(args:ax AV):aB (la rs×t.ct.D):=
 match fn.body,args with
 |some c,.val true cs::xs=>if xs.length+1=fn.params.size/\cs.all (AC.wL true)=true then den E Γ an Λ c (yk fn cs xs) λe st=>
  match e with
  | .exit _=>none
  |_=>aa (aa (rh st E [(true,0)] fn.results.toList) (kZ rs)) λr=>
   match st.io,st.boxes with
   |[.ptr 0 0],some cs'::_=>match HR t (cs'.map AC.strip)with
    |some (x,[])=>some (r,x)
    |_=>none
   |_,_=>none
  else none
 |_,_=>none
def NS (E:Env)(Γ:eE)(an:An)(Λ:eP)(fn:Func)(t:FT)(args:ax AV):aB t.ct.D:=
 match fn.body with
 |some c=>if args.length=fn.params.size then den E Γ an Λ c (start fn args) λe st=>
  match e with
  | .exit _=>none
  |_=>match fn.results.toList with
   |[.tmp i]=>match st.get i with
    | .val false [.ptr s 0]=>match (nth st.boxes s).getD none with
      |some cs=>if cs.all AC.Fs=true then(match HR t (cs.map AC.strip)with|some (x,[])=>some x|_=>none) else none
      |none=>none
    |_=>none
   |_=>none
  else none
 |none=>none
end Go.Dn
