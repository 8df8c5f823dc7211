import Derived.Test.YtbebkmajekhclaaGreatDnData
/- An abstract, heap-free semantics of the model's code, for functions that treat their data by value: definitions. -/
namespace Go.Dn
inductive lx where
 |slot (s j:Nat)|box (s j:Nat)|io (j:Nat)
 deriving DecidableEq
inductive sn where
 |own (tag:Option Nat)
 |loc (ep:Nat) (pv:Option (lx×Nat))
 |arg (k:Bool)
 |nest (ep:Nat) (r:lx) (t:Nat) (e:CT) (i:Int) (off:Nat)
 |part (ep:Nat) (r:lx) (t:Nat) (lo:Int)
 |fS (tag:Option Nat) (i:Int) (ep:Option Nat)
inductive AC where
 |int (k:IntKind) (n:Int)|bool (b:Bool)|str (s:List UInt8)
 |sl (fl:sn) (e:CT) (xs:List e.D)
 |kv
 |ptr (s off:Nat)
 |Ey (fl:sn) (e:CT) (x:e.D) (i:Int) (off:Nat)
 |fn (f:Nat)
 |un
 |bot
inductive AV where
 |val (agg:Bool) (cs:List AC)
 |yC (vs:List (Bool×List AC))
abbrev AV.one (c:AC):AV:=.val false [c]
abbrev AV.bot:AV:=.val false [.bot]
structure AS where
 slots:List AV
 boxes:List (Option (List AC))
 ep:Nat
 iss:List Bool
 io:List AC
structure Shape where
 agg:Bool
 ct:CT
 kF:List (Nat×Nat):=[]
structure An where
 mask:Nat->List Nat:=λ_=>[]
 merge:Nat->Option Nat:=λ_=>none
 mv:List Nat:=[]
 nest:List Nat:=[]
 mb:Nat->Option Nat:=λ_=>none
 sb:Nat->Option Nat:=λ_=>none
 late:List Nat:=[]
 atq:List Nat:=[]
 ayJ:List Nat:=[]
 fm:List Nat:=[]
 eb:Nat->Option Nat:=λ_=>none
 es:Nat->Option Nat:=λ_=>none
 er:Nat->Option Nat:=λ_=>none
 cut:List Nat:=[]
def cellsOf:(t:CT)->sn->t.D->aw AC
 | .int k,_,n=>[.int k n]
 | .bool,_,b=>[.bool b]
 | .str,_,s=>[.str s]
 | .sl e,fl,xs=>[.sl fl e xs]
 | .pair a b,fl,x=>cellsOf a fl x.1++cellsOf b fl x.2
def mc:(t:CT)->aw AC->az (t.D×aw AC)
 | .int k,.int k' n::r=>if k'=k then some (n,r) else none
 | .bool,.bool b::r=>some (b,r)
 | .str,.str s::r=>some (s,r)
 | .sl e,.sl (.own _) e' xs::r=>if h:e'=e then some (h▸xs,r) else none
 | .sl _,.kv::r=>some ([],r)
 | .pair a b,cs=>(mc a cs).bind λx=>(mc b x.2).bind λy=>some ((x.1,y.1),y.2)
 |_,_=>none
def nth {α:Type}:aw α->Nat->az α
 |[],_=>none
 |a::_,0=>some a
 |_::l,n+1=>nth l n
def iO {α:Type}:aw α->Nat->α->aw α
 |[],_,_=>[]
 |_::l,0,v=>v::l
 |a::l,n+1,v=>a::iO l n v
def AS.get (st:AS)(i:Nat):AV:=(nth st.slots i).getD .bot
def AS.put (st:AS)(d:az Nat)(v:AV):AS:=
 match d with
 |some d=>{st with slots:=iO st.slots d v}
 |none=>st
def Mm (d j:Nat):Nat:=3*(4096*d+j)+2
def AS.iU (st:AS)(d:az Nat)(j:Nat):az Nat:=
 match d with
 |some d=>bif (nth st.iss d).getD true then none else bif Nat.ble 4096 j then none else some (Mm d j)
 |none=>none
def AS.fW (st:AS)(d:az Nat):AS:=
 match d with
 |some d=>{st with iss:=iO st.iss d true}
 |none=>st
def AS.ri (st:AS)(d:az Nat)(e:CT)(xs:aw e.D):AS:=
 (st.fW d).put d (.one (.sl (.own (st.iU d 0)) e xs))
def AC.borrow (ep:Nat)(rt:az lx):AC->AC
 | .sl (.own tag) e xs=> .sl (.loc ep (match rt,tag with|some r,some t=>some (r,t)|_,_=>none)) e xs
 | .sl (.fS tag _ (some Qw)) e xs=> .sl (.loc Qw (match rt,tag with|some r,some t=>some (r,t)|_,_=>none)) e xs
 | .sl (.fS _ _ none) _ _=> .bot
 |c=>c
def iZ (ep:Nat)(f:Nat->lx):Nat->aw AC->aw AC
 |_,[]=>[]
 |j,c::cs=>c.borrow ep (some (f j))::iZ ep f (j+1) cs
def bl (ep:Nat)(cs:aw AC):aw AC:=cs.map (AC.borrow ep none)
def AV.borrow (ep:Nat)(f:Nat->lx):AV->AV
 | .val g cs=> .val g (iZ ep f 0 cs)
 | .yC vs=> .yC (vs.map λx=>(x.1,bl ep x.2))
def AV.bl (ep:Nat):AV->AV
 | .val g cs=> .val g (Dn.bl ep cs)
 | .yC vs=> .yC (vs.map λx=>(x.1,Dn.bl ep x.2))
def ofConst:Value->AV
 | .int k n=> .one (.int k n)
 | .bool b=> .one (.bool b)
 | .string s=> .one (.str s.data.toList)
 | .slice none 0 0=> .one .kv
 |_=> .bot
def AS.rd (st:AS):Operand->AV
 | .tmp t=>(st.get t).borrow st.ep (.slot t)
 | .const v=>ofConst v
 | .func f=> .one (.fn f)
 | .global _=> .bot
def AS.take (st:AS):Operand->AV×AS
 | .tmp t=>(st.get t,st.put (some t) ((st.get t).bl st.ep))
 |x=>(st.rd x,st)
def AS.fD (st:AS)(s:Nat)(b:az (aw AC)):AS:={st with boxes:=iO st.boxes s b}
def AC.asArg (ep:Nat):AC->AC
 | .int k n=> .int k n
 | .bool b=> .bool b
 | .str s=> .str s
 | .sl (.own _) e xs=> .sl (.arg false) e xs
 | .sl (.loc ep' _) e xs=>if ep'==ep then .sl (.arg false) e xs else .bot
 | .sl (.arg _) e xs=> .sl (.arg false) e xs
 | .kv=> .kv
 | .fn f=> .fn f
 |_=> .bot
def AV.asArg (ep:Nat):AV->AV
 | .val g cs=> .val g (cs.map (AC.asArg ep))
 | .yC _=> .bot
def AC.GM (ep:Nat)(tag:az Nat):AC->AC
 | .sl (.own _) e xs=> .sl (.own tag) e xs
 | .sl (.arg _) e xs=> .sl (.loc ep none) e xs
 | .sl (.loc _ _) _ _=> .bot
 | .sl (.nest ..) _ _=> .bot
 | .sl (.part ..) _ _=> .bot
 | .sl (.fS _ i _) e xs=> .sl (.fS none i none) e xs
 | .ptr _ _=> .bot
 | .Ey _ _ _ _ _=> .bot
 |c=>c
def LX (ep:Nat)(mk:Nat->az Nat):Nat->aw AC->aw AC
 |_,[]=>[]
 |j,c::cs=>c.GM ep (mk j)::LX ep mk (j+1) cs
def aee (ep:Nat)(mk:Nat->az Nat):Nat->aw (Bool×aw AC)->aw (Bool×aw AC)
 |_,[]=>[]
 |j,t::ts=>(t.1,LX ep mk j t.2)::aee ep mk (j+t.2.length) ts
def AV.GM (ep:Nat)(mk:Nat->az Nat):AV->AV
 | .val g cs=> .val g (LX ep mk 0 cs)
 | .yC vs=> .yC (aee ep mk 0 vs)
def AC.KW:AC->Bool
 | .sl (.arg _) _ _=>true
 | .int ..=>true
 | .bool _=>true
 | .str _=>true
 | .fn _=>true
 |_=>false
structure lH where
 R:Type
 fn:List AV->Option R
 av:R->AV
 io:Bool:=false
 back:R->List AC:=λ_=>[]
 bx:Bool:=false
 pr:Bool:=false
 sel:R->Bool:=λ_=>true
 alt:R->AV:=λ_=> .val false [.bot]
 cur:Bool:=false
 hcur:cur=true->∀y,(back y).all AC.KW=true:=by intro h;cases h
def lH.res (F:lH)(y:F.R):AV:=cond (F.sel y) (F.av y) (F.alt y)
abbrev Dy:=Nat->lH
def lH.dead:lH:={R:=Unit,fn:=λ_=>none,av:=λ_=> .val false [.bot]}
def Dy.calm (Γ:Dy):Dy:=λf=>bif (Γ f).io||(Γ f).bx||(Γ f).pr then lH.dead else Γ f
def Dy.KF (Γ:Dy):Dy:=λf=>bif (Γ f).io||(Γ f).pr||((Γ f).bx&& !(Γ f).cur) then lH.dead else Γ f
def LA {R:Type}(op:BinOp)(k:IntKind)(x y:Int)(K:AC->az R):az R:=
 match op with
 | .add=>K (.int k (k.wrap (x+y)))
 | .sub=>K (.int k (k.wrap (x-y)))
 | .mul=>K (.int k (k.wrap (x*y)))
 | .quo=>if y=0 then none else K (.int k (k.wrap (x.tdiv y)))
 | .rem=>if y=0 then none else K (.int k (x.tmod y))
 | .and=>K (.int k (k.wrap (BitVec.ofInt k.bits x&&&BitVec.ofInt k.bits y).toNat))
 | .or=>K (.int k (k.wrap (BitVec.ofInt k.bits x|||BitVec.ofInt k.bits y).toNat))
 | .xor=>K (.int k (k.wrap (BitVec.ofInt k.bits x^^^BitVec.ofInt k.bits y).toNat))
 | .andNot=>K (.int k (k.wrap (BitVec.ofInt k.bits x&&&~~~ BitVec.ofInt k.bits y).toNat))
 | .eql=>K (.bool (x==y))
 | .neq=>K (.bool (x !=y))
 | .lss=>K (.bool (decide (x<y)))
 | .leq=>K (.bool (decide (x<=y)))
 | .gtr=>K (.bool (decide (x>y)))
 | .geq=>K (.bool (decide (x>=y)))
 |_=>none
def Ow {R:Type}(op:BinOp)(x y:aw UInt8)(K:AC->az R):az R:=
 match op with
 | .add=>room (x.length+y.length) (K (.str (x++y)))
 | .eql=>K (.bool (x==y))
 | .neq=>K (.bool (!(x==y)))
 | .lss=>K (.bool (Op.bytesLess x y))
 | .leq=>K (.bool (Op.bytesLess x y||x==y))
 | .gtr=>K (.bool (!(Op.bytesLess x y||x==y)))
 | .geq=>K (.bool (!(Op.bytesLess x y)))
 |_=>none
def xl:aw AC->aw AC->az Bool
 |[],[]=>some true
 | .int k x::r,.int k' y::r'=>if k=k' then(xl r r').bind λb=>some ((x==y)&&b) else none
 | .bool x::r,.bool y::r'=>(xl r r').bind λb=>some ((x==y)&&b)
 | .str x::r,.str y::r'=>(xl r r').bind λb=>some ((x==y)&&b)
 |_,_=>none
def Jc {R:Type}(op:BinOp)(x y:AV)(K:AC->az R):az R:=
 match x,y with
 | .val false [.int k a],.val false [.int k' b]=>
   match op with
   | .shl=>if b<0 then none else K (.int k (k.wrap (a*2^(min b.toNat k.bits))))
   | .shr=>if b<0 then none else K (.int k (a.fdiv (2^(min b.toNat k.bits))))
   |_=>if k=k' then LA op k a b K else none
 | .val false [.str a],.val false [.str b]=>Ow op a b K
 | .val false [.bool a],.val false [.bool b]=>
   match op with
   | .eql=>K (.bool (a==b))
   | .neq=>K (.bool (!(a==b)))
   |_=>none
 | .val true xs,.val true ys=>
   match op with
   | .eql=>aa (xl xs ys) λb=>K (.bool b)
   | .neq=>aa (xl xs ys) λb=>K (.bool (!b))
   |_=>none
 |_,_=>none
def unC {R:Type}(op:UnOp)(x:AV)(K:AC->az R):az R:=
 match op,x with
 | .not,.val false [.bool b]=>K (.bool (!b))
 | .neg,.val false [.int k n]=>K (.int k (k.wrap (0-n)))
 | .xor,.val false [.int k n]=>LA .xor k (if k.signed then-1 else k.max) n K
 |_,_=>none
def eX (cs:aw AC)(off:Nat)(vs:aw AC):aw AC:=cs.take off++vs++cs.drop (off+vs.length)
def AS.fL (st:AS):lx->az AC
 | .slot s j=>match st.get s with| .val _ cs=>nth cs j|_=>none
 | .box s j=>((nth st.boxes s).getD none).bind λcs=>nth cs j
 | .io j=>nth st.io j
def AS.fP (st:AS)(r:lx)(c:AC):AS:=
 match r with
 | .slot s j=>match st.get s with| .val g cs=>st.put (some s) (.val g (iO cs j c))|_=>st
 | .box s j=>match (nth st.boxes s).getD none with|some cs=>st.fD s (some (iO cs j c))|none=>st
 | .io j=>{st with io:=iO st.io j c}
def AS.fresh (st:AS):AC->AC
 | .sl (.loc ep (some (r,t))) e xs=>
   bif ep==st.ep then .sl (.loc ep (some (r,t))) e xs else
    match st.fL r with
    |some (.sl (.own (some t')) e' ys)=>if h:e'=e then bif t'==t then .sl (.loc st.ep (some (r,t))) e (h▸ys) else .sl (.loc ep (some (r,t))) e xs else .sl (.loc ep (some (r,t))) e xs
    |_=> .sl (.loc ep (some (r,t))) e xs
 |c=>c
def AV.fresh (st:AS):AV->AV
 | .val g cs=> .val g (cs.map st.fresh)
 | .yC vs=> .yC vs
def AC.now (ep:Nat):AC->Bool
 | .sl (.loc ep' (some _)) _ _=>ep'==ep
 |_=>true
def AS.qL {R:Type}(st:AS)(r:lx)(t:Nat)(e:CT)(i:Int)(off:Nat)(vs:aw AC)(K:AS->az R):az R:=
 match st.fL r with
 |some (.sl (.own (some t')) e' xs)=>
  if h:e'=e then
   if t'=t then
    aa (idx (h▸xs:aw e.D) i) λx=>
     match mc e (eX (cellsOf e (.own none) x) off vs)with
     |some (x',[])=>K {st.fP r (.sl (.own (some t')) e ((h▸xs:aw e.D).set i.toNat x'))with ep:=st.ep+1}
     |_=>none
   else none
  else none
 |some (.sl (.fS (some t') i' _) e' xs)=>
  if h:e'=e then
   if t'=t/\off=0 then
    aa (Zz (h▸xs:aw e.D) i' i) λ_=>
     match mc e vs with
     |some (x',[])=>K {st.fP r (.sl (.own (some t')) e ((h▸xs:aw e.D).set i.toNat x'))with ep:=st.ep+1}
     |_=>none
   else none
  else none
 |_=>none
def AV.cells:AV->aw AC
 | .val _ cs=>cs
 | .yC _=>[.bot]
def fM (st:AS):aw Operand->aw AV×AS
 |[]=>([],st)
 |x::xs=>let (v,st1):=st.take x;let (vs,st2):=fM st1 xs;(v::vs,st2)
def Fk (e:CT):aw (aw AC)->az (aw e.D)
 |[]=>some []
 |cs::r=>match mc e cs with
  |some (x,[])=>(Fk e r).bind λxs=>some (x::xs)
  |_=>none
def Ly:Nat->aw (Nat×Operand)->Bool
 |_,[]=>true
 |n,(i,_)::r=>i==n&&Ly (n+1) r
def AC.L3:AC->Bool
 | .bot=>false
 | .un=>false
 |_=>true
def yP (kF:aw (Nat×Nat))(zero:aw AC):aw (Nat×aw AC)->az (aw AC)
 |[]=>some zero
 |(i,cs)::r=>match nth kF i with
  |some (off,n)=>if cs.length=n/\off+n<=zero.length/\cs.all AC.L3 then yP kF (eX zero off cs) r else none
  |none=>none
inductive LK where
 |int|bool|str
 deriving DecidableEq
structure Env where
 ty:List (Nat×Shape)
 eqs:List (Nat×List LK):=[]
 fts:List ((Nat×Nat)×Nat):=[]
def UR (l:aw (Nat×aw LK))(t:Nat):az (aw LK):=
 match l with
 |[]=>none
 |(u,sh)::r=>bif u==t then some sh else UR r t
def fits:aw LK->aw AC->Bool
 |[],[]=>true
 | .int::ls,.int _ _::r=>fits ls r
 | .bool::ls,.bool _::r=>fits ls r
 | .str::ls,.str _::r=>fits ls r
 |_,_=>false
def aak (l:aw ((Nat×Nat)×Nat))(S f:Nat):az Nat:=
 match l with
 |[]=>none
 |((u,k),T)::r=>bif u==S&&k==f then some T else aak r S f
def jK (l:aw (Nat×Shape))(t:Nat):az Shape:=
 match l with
 |[]=>none
 |(u,sh)::r=>bif u==t then some sh else jK r t
def Env.sl (E:Env)(t:Nat):az CT:=
 match jK E.ty t with
 |some ⟨false,.sl e,_⟩=>some e
 |_=>none
def Env.str (E:Env)(t:Nat):Bool:=
 match jK E.ty t with
 |some ⟨false,.str,_⟩=>true
 |_=>false
def Env.bool (E:Env)(t:Nat):Bool:=
 match jK E.ty t with
 |some ⟨false,.bool,_⟩=>true
 |_=>false
def Env.bytes (E:Env)(t:Nat):Bool:=
 match jK E.ty t with
 |some ⟨false,.sl (.int .u8),[(te,_)]⟩=>match jK E.ty te with|some ⟨false,.int .u8,_⟩=>true|_=>false
 |_=>false
def sn.live (ep:Nat):sn->Bool
 | .loc ep' _=>ep'==ep
 | .arg _=>true
 | .own _=>false
 | .nest ..=>false
 | .part ..=>false
 | .fS ..=>false
def sn.sG (ep:Nat)(flat:Bool):sn->Bool
 | .loc ep' _=>ep'==ep&&flat
 | .arg _=>flat
 | .own _=>true
 | .nest ..=>false
 | .part ..=>false
 | .fS ..=>false
def sn.bare:sn->sn
 | .loc ep _=> .loc ep none
 |f=>f
def AC.kh:AC->Bool
 | .int _ _=>true
 | .bool _=>true
 | .str _=>true
 | .fn _=>true
 |_=>false
def tm:Operand->fA
 | .tmp t=>[t]
 |_=>[]
def TK (l:aw Operand):fA:=l.flatMap tm
def Ih (an:An)(o:Oper):Bool:=
 match o.dst with
 |some d=>an.mv.contains d&&(an.mb d).isNone
 |none=>false
def atm (an:An)(o:Oper):Bool:=
 match o.dst with
 |some d=>an.ayJ.contains d
 |none=>false
def C2 (an:An)(o:Oper):Bool:=
 match o.op with
 | .assign (.tmp s)=>an.late.contains s
 | .store _ _ (.tmp s)=>an.late.contains s
 |_=>false
def tmO:az Operand->fA
 |some x=>tm x
 |none=>[]
def dZ (o:Oper):fA:=
 match o.op with
 | .move x=>tm x
 | .assign x=>tm x
 | .pick c a b=>tm c++tm a++tm b
 | .box _ x=>tm x
 | .load _ p=>tm p
 | .store _ p x=>tm p++tm x
 | .nilCheck x=>tm x
 | .binOp _ _ x y _=>tm x++tm y
 | .unOp _ _ x=>tm x
 | .fieldAddr _ p _=>tm p
 | .indexAddr _ x i=>tm x++tm i
 | .index _ x i=>tm x++tm i
 | .build _ parts=>TK (parts.toList.map (·.2))
 | .buildSlice _ _ parts=>TK (parts.toList.map (·.2))
 | .makeSlice _ n c=>tm n++tm c
 | .slice _ x lo hi none=>tm x++tmO lo++tmO hi
 | .convert _ _ x=>tm x
 | .extract (.tmp t) _=>[t]
 | .call {callee:=.builtin _,args,..}=>TK args.toList
 | .call {callee:=.value f,args,..}=>tm f++TK args.toList
 |_=>[]
def Ig (an:An)(o:Oper):Bool:=
 match o.op with
 | .move _=>match o.dst with|some d=>an.mv.contains d|none=>false
 | .assign _=>true
 | .box ..=>true
 | .build ..=>true
 | .buildSlice ..=>true
 | .store ..=>true
 | .extract ..=>match o.dst with|some d=>an.mv.contains d|none=>false
 | .call {callee:=.builtin .append,..}=>true
 |_=>false
def Ic (an:An)(o:Oper):Bool:=
 match o.op,o.dst,o.guard with
 | .load _ (.tmp q),some d,none=>an.mv.contains d&&(an.mb d).isNone&&(an.eb q).isSome
 |_,_,_=>false
def Ee (an:An)(o:Oper):Bool:=
 match o.op,o.dst,o.guard with
 | .load _ (.tmp q),some d,none=> !an.mv.contains d&& !an.fm.contains d&&(an.sb q).isSome
 |_,_,_=>false
def Ij (an:An)(o:Oper):fA:=
 match o.op with
 | .alloc _=>o.dst.toList
 | .box ..=>o.dst.toList
 | .load _ p=>match o.dst with|some d=>bif an.mv.contains d then(an.mb d).toList++(bif Ic an o then(match p with| .tmp q=>(an.eb q).toList|_=>[]) else []) else []|none=>[]
 | .store _ (.tmp p) _=>(an.sb p).toList
 | .call {callee:=.value _,args,..}=>(match args.toList with| .tmp q::_=>(an.sb q).toList|_=>[])
 |_=>[]
def oI (an:An)(o:Oper):Bool:=
 match o.op with
 | .move _=>true
 | .load ..=>(match o.dst with|some d=> !an.mv.contains d||(an.mb d).isSome|none=>false)||Ic an o
 | .extract (.tmp _) _=>true
 | .store _ (.tmp p) _=>(an.sb p).isSome&& !C2 an o
 | .assign _=> !C2 an o
 | .pick ..| .alloc _| .box ..| .nilCheck _| .binOp ..| .unOp ..| .fieldAddr ..| .indexAddr ..| .index ..| .build ..| .buildSlice ..| .makeSlice ..| .convert ..=>true
 | .slice _ _ _ _ none=> !Ih an o
 | .call {callee:=.builtin .len,..}| .call {callee:=.builtin .min,..}| .call {callee:=.builtin .max,..}| .call {callee:=.builtin .append,..}=>true
 | .call {callee:=.value _,..}=>true
 |_=>false
def writes (an:An)(o:Oper):fA:=o.dst.toList++(bif Ig an o then dZ o else [])
def AV.now (ep:Nat):AV->Bool
 | .val _ cs=>cs.all (AC.now ep)
 | .yC _=>true
def AC.lW:AC->Bool
 | .int ..=>true
 | .bool _=>true
 | .str _=>true
 | .fn _=>true
 | .ptr ..=>true
 |_=>false
def AV.lW:AV->Bool
 | .val _ cs=>cs.all AC.lW
 | .yC _=>false
def Hu (E:Env)(T:TypeId)(st:AS)(s off:Nat):Bool:=
 match jK E.ty T,(nth st.boxes s).getD none with
 |some sh,some cs=>((cs.drop off).take sh.ct.size).all AC.lW
 |_,_=>false
def fmB (an:An)(o:Oper):Bool:=match o.dst with|some d=>an.fm.contains d|none=>false
def ER (an:An)(o:Oper):Bool:=
 match o.op,o.dst,o.guard with
 | .load _ (.tmp _),some d,none=>an.mv.contains d&&(an.mb d).isSome
 |_,_,_=>false
def QK (an:An)(o:Oper):Bool:=
 match o.op,o.dst,o.guard with
 | .load _ (.tmp _),some d,none=> !an.mv.contains d&&an.fm.contains d
 |_,_,_=>false
def erS (an:An)(o:Oper):fA:=
 match o.op,o.dst with
 | .load ..,some d=>(an.er d).toList
 | .call {callee:=.value _,..},some d=>(an.er d).toList
 |_,_=>[]
def AC.al4 (l:fA):AC->Bool
 | .sl (.loc _ (some (.slot b _,_))) _ _=>l.contains b
 | .sl (.loc _ _) _ _=>false
 |_=>true
def LZ (l:fA)(st:AS):Operand->Bool
 | .tmp t=>(match st.get t with| .val _ cs=>cs.all (AC.al4 l)| .yC _=>true)
 |_=>true
def ajx (an:An)(X l:fA)(st:AS)(xs:aw Operand)(q:Nat):AV->Bool
 | .val false [.ptr s _]=> !X.contains s&&an.sb q==some s&&(match (nth st.boxes s).getD none with|some cs=>cs.all AC.KW|none=>true)&&xs.all (LZ l st)
 |_=>true
def AV.afJ:AV->Bool
 | .val false [.ptr _ _]=>false
 |_=>true
def vJ (an:An)(X l:fA)(st:AS):aw Operand->Bool
 | .tmp q::xs=>ajx an X l st xs q (st.rd (.tmp q))
 |x::_=>(st.rd x).afJ
 |[]=>true
def dM (E:Env)(an:An)(X:fA)(o:Oper)(st:AS):Bool:=
 match o.op with
 | .move x=> !fmB an o||(st.rd x).lW
 | .indexAddr _ x _=>(st.rd x).now st.ep||(match st.rd x with| .val _ [.sl (.loc _ (some (.box b _,_))) _ _]=> !X.contains b|_=>false)
 | .slice _ x _ _ none=>(st.rd x).now st.ep
 | .call {callee:=.value _,args,..}=>vJ an X (erS an o) st args.toList&&args.toList.all λx=>(st.rd x).now st.ep
 | .load T p=>match st.rd p with
   | .val false [.ptr s off]=> !X.contains s&&(match o.dst with|some d=> !an.mv.contains d||an.mb d==some s|none=>true)&&(!fmB an o||Hu E T st s off)
   | .val false [.Ey fl _ _ _ _]=>(fl.live st.ep||(match fl with
     | .loc _ (some (.slot b _,_))=>(erS an o).contains b
     | .loc _ (some (.box b _,_))=> !X.contains b
     |_=>false))&& !(fmB an o||ER an o)&& !Ee an o&&(!Ic an o||(match p,fl with
     | .tmp q,.loc _ (some (.box b _,_))=>an.eb q==some b&& !X.contains b
     |_,_=>false))
   |_=> !(fmB an o||ER an o)
 | .store _ (.tmp p) _=>((an.sb p).isNone&&(an.eb p).isNone&&(an.es p).isNone)||(match st.rd (.tmp p)with
   | .val false [.ptr s _]=> !X.contains s&&an.sb p==some s
   | .val false [.Ey (.loc _ (some (.box b _,_))) _ _ _ _]=>an.eb p==some b&&(an.sb p).isNone&&(an.es p).isNone
   | .val false [.Ey (.loc _ (some (.slot b _,_))) _ _ _ _]=>an.es p==some b&&(an.sb p).isNone&&(an.eb p).isNone
   |_=>false)
 | .extract (.tmp t) i=>match st.get t with
   | .yC vs=>match nth vs i with|some x=>x.2.all AC.kh||(match o.dst with|some d=>an.mv.contains d|none=>false)|none=>true
   |_=>true
 |_=>true
def HA (an:An)(ops:aw Oper)(o:Oper):fA:=
 (match o.guard with
 |some (j,_)=>((nth ops j).bind (·.dst)).toList
 |none=>[])++erS an o
def meets (a b:fA):Bool:=a.any λx=>b.contains x
def abM (an:An)(ops:aw Oper)(X Y:fA)(o p:Oper):Bool:=
 oI an o&&oI an p&& !meets (writes an o) (dZ p++HA an ops p++writes an p)&& !meets (writes an p) (dZ o++HA an ops o)&&
 (Ij an o).all (λd=>Y.contains d)&&(Ij an p).all (λd=>X.contains d)&& !meets (Ij an o) (p.dst.toList++Ij an p)&& !meets (Ij an p) o.dst.toList
def acS (o p:Oper):Bool:=
 match o.op,p.op,o.dst,p.dst,o.guard,p.guard with
 | .extract (.tmp t) i,.extract (.tmp t') j,some d,some d',none,none=>t==t'&& !(i==j)&& !(d==d')&& !(d==t)&& !(d'==t)
 |_,_,_,_,_,_=>false
def acO (an:An)(o p:Oper):Bool:=
 match p.op,p.dst,p.guard with
 | .store _ (.tmp q) (.tmp x),none,none=>((an.eb q).isSome&&(an.es q).isNone||(match an.es q with|some b=>(an.eb q).isNone&& !(b==x)&& !(b==q)&& !meets [b] (o.dst.toList++dZ o)|none=>false))&&(an.sb q).isNone&& !C2 an p&&(match o.op,o.dst,o.guard with
   | .move (.tmp t),some d,none=> !an.mv.contains d&&an.fm.contains d&& !(d==q)&& !(d==x)&& !(t==x)&& !(t==q)&& !(d==t)
   | .extract (.tmp t) _,some d,none=> !(d==q)&& !(d==x)&& !(t==x)&& !(t==q)&& !(d==t)
   |_,_,_=>false)
 |_,_,_=>false
def adJ (an:An)(o p:Oper):Bool:=
 (ER an o&&QK an p||QK an o&&ER an p)&& !meets o.dst.toList (p.dst.toList++dZ p)&& !meets p.dst.toList (dZ o)
def abX (an:An)(o p:Oper):Bool:=Ee an o&&Ic an p&& !meets o.dst.toList (p.dst.toList++dZ p)&& !meets p.dst.toList (dZ o)
def alO (an:An)(o p:Oper):Bool:=acS o p||acO an o p||adJ an o p||abX an o p
def PX (an:An)(ops:aw Oper)(X Y:fA)(o p:Oper):Bool:=alO an o p||abM an ops X Y o p
def Ef (o:Oper):fA:=(o.after.toList.filter (λe=>Region.binds .any e)).map (·.on)
def XX (a b:fA):fA:=a.foldl (λs x=>bif s.contains x then s else x::s) b
def X8:aw Oper->aw fA->aw fA
 |[],acc=>acc
 |o::r,acc=>X8 r (acc++[(Ef o).foldl (λs j=>XX (j::(nth acc j).getD []) s) []])
def ahZ (A:aw fA)(i k:Nat):Bool:=((nth A i).getD []).contains k
def ae3 (an:An)(A:aw fA)(i:Nat)(fl pl:Bool):Nat->aw Oper->fA
 |_,[]=>[]
 |k,o::r=>(bif !ahZ A i k&& !ahZ A k i&& !(k==i)&& !(fl&&ER an o)&& !(pl&&Ic an o) then Ij an o else [])++ae3 an A i fl pl (k+1) r
def uV (an:An)(A:aw fA)(i k:Nat)(ops:aw Oper):fA:=ae3 an A i (match nth ops i with|some o=>QK an o|none=>false) (match nth ops i with|some o=>Ee an o|none=>false) k ops
def RK (an:An)(ops:aw Oper)(A:aw fA)(i:Nat)(oi:Oper):Nat->aw Oper->Bool
 |_,[]=>true
 |j,oj::r=>bif Nat.ble i j then true else(ahZ A i j||PX an ops (uV an A j 0 ops) (uV an A i 0 ops) oj oi)&&RK an ops A i oi (j+1) r
def Xi (an:An)(ops:aw Oper)(A:aw fA):Nat->aw Oper->Bool
 |_,[]=>true
 |i,oi::r=>(Ef oi).all (λk=>Nat.blt k i)&&RK an ops A i oi 0 ops&&Xi an ops A (i+1) r
def Yy (an:An)(ops:aw Oper):Bool:=Xi an ops (X8 ops []) 0 ops
inductive Ex where
 |normal|ret|exit (id:Nat)
inductive FK where
 |own (tag:Option Nat)|arg|Bn|loc|lio (j t:Nat)|nil
def FK.flag:FK->sn
 | .own t=> .own t
 | .arg=> .arg false
 | .Bn=> .arg true
 | .loc=> .loc 0 none
 | .lio j t=> .loc 0 (some (.io j,t))
 | .nil=> .arg false
def FK.isNil:FK->Bool
 | .nil=>true
 |_=>false
inductive FT where
 |int (k:IntKind)|bool|str|sl (fl:FK) (e:CT)|pair (a b:FT)
abbrev FT.ct:FT->CT
 | .int k=> .int k
 | .bool=> .bool
 | .str=> .str
 | .sl _ e=> .sl e
 | .pair a b=> .pair a.ct b.ct
def kc:(t:FT)->t.ct.D->aw AC
 | .int k,n=>[.int k n]
 | .bool,b=>[.bool b]
 | .str,s=>[.str s]
 | .sl fl e,xs=>[bif fl.isNil then .kv else .sl fl.flag e xs]
 | .pair a b,x=>kc a x.1++kc b x.2
def FK.fits:FK->sn->Bool
 | .own t,.own t'=>t==t'
 | .arg,.arg k=> !k
 | .Bn,.arg k=>k
 | .loc,.loc 0 none=>true
 | .lio j t,.loc 0 (some (.io j',t'))=>j==j'&&t==t'
 |_,_=>false
def PC:(t:FT)->aw AC->az (t.ct.D×aw AC)
 | .int k,.int k' n::r=>if k'=k then some (n,r) else none
 | .bool,.bool b::r=>some (b,r)
 | .str,.str s::r=>some (s,r)
 | .sl fl e,.sl fl' e' xs::r=>if h:e'=e then bif fl.fits fl' then some (h▸xs,r) else none else none
 | .sl fl _,.kv::r=>bif fl.isNil then some ([],r) else none
 | .pair a b,cs=>(PC a cs).bind λx=>(PC b x.2).bind λy=>some ((x.1,y.1),y.2)
 |_,_=>none
inductive PD where
 |bot|ptr (s off:Nat)|fn (f:Nat)|data (g:Bool) (t:FT)
inductive IoD where
 |none|some (t:FT)|ptr
structure SD where
 slots:List PD
 boxes:List (Option FT)
 io:IoD:=.none
abbrev Ns:aw PD->Type
 |[]=>Unit
 | .data _ t::r=>t.ct.D×Ns r
 |_::r=>Ns r
abbrev MJ:aw (az FT)->Type
 |[]=>Unit
 |some t::r=>t.ct.D×MJ r
 |none::r=>MJ r
abbrev ioD:IoD->Type
 | .none=>Unit
 | .some t=>t.ct.D
 | .ptr=>Unit
abbrev SD.D (d:SD):Type:=Ns d.slots×MJ d.boxes×ioD d.io
def uY:(l:aw PD)->Ns l->aw AV
 |[],_=>[]
 | .data g t::r,x=> .val g (kc t x.1)::uY r x.2
 | .bot::r,x=> .bot::uY r x
 | .ptr s off::r,x=> .one (.ptr s off)::uY r x
 | .fn f::r,x=> .one (.fn f)::uY r x
def E2:(l:aw (az FT))->MJ l->aw (az (aw AC))
 |[],_=>[]
 |some t::r,x=>some (kc t x.1)::E2 r x.2
 |none::r,x=>none::E2 r x
def aks:(o:IoD)->ioD o->aw AC
 | .none,_=>[]
 | .some t,x=>kc t x
 | .ptr,_=>[.ptr 0 0]
def SD.enc (d:SD)(x:d.D):AS:=⟨uY d.slots x.1,E2 d.boxes x.2.1,0,List.replicate d.slots.length false,aks d.io x.2.2⟩
def AV.afA:AV->Bool
 | .val false [.bot]=>true
 |_=>false
def AV.afB (s off:Nat):AV->Bool
 | .val false [.ptr s' ayV]=>s==s'&&off==ayV
 |_=>false
def AV.ahu (f:Nat):AV->Bool
 | .val false [.fn f']=>f==f'
 |_=>false
def kP:(l:aw PD)->aw AV->az (Ns l)
 |[],[]=>some ()
 | .data g t::r,.val g' cs::vs=>bif g==g' then(match PC t cs with|some (x,[])=>(kP r vs).bind λy=>some (x,y)|_=>none) else none
 | .bot::r,v::vs=>bif v.afA then kP r vs else none
 | .ptr s off::r,v::vs=>bif v.afB s off then kP r vs else none
 | .fn f::r,v::vs=>bif v.ahu f then kP r vs else none
 |_,_=>none
def sC:(l:aw (az FT))->aw (az (aw AC))->az (MJ l)
 |[],[]=>some ()
 |some t::r,some cs::bs=>match PC t cs with|some (x,[])=>(sC r bs).bind λy=>some (x,y)|_=>none
 |none::r,none::bs=>sC r bs
 |_,_=>none
def adB:aw AC->Bool
 |[.ptr 0 0]=>true
 |_=>false
def Yw:(o:IoD)->aw AC->az (ioD o)
 | .none,[]=>some ()
 | .some t,cs=>match PC t cs with|some (x,[])=>some x|_=>none
 | .ptr,cs=>bif adB cs then some () else none
 |_,_=>none
def SD.dec (d:SD)(st:AS):az d.D:=
 bif st.ep==0&&st.iss==List.replicate d.slots.length false then
  (kP d.slots st.slots).bind λx=>(sC d.boxes st.boxes).bind λy=>(Yw d.io st.io).bind λz=>some (x,y,z)
 else none
structure MF where
 sd:SD
 run:{R:Type}->sd.D->(Ex->AS->Option R)->Option R
abbrev kC:=Nat->MF
def MF.go {R:Type}(l:MF)(st:AS)(K:Ex->AS->az R):az R:=aa (l.sd.dec st) λx=>l.run x K
def MF.none:MF:=⟨⟨[],[],.none⟩,λ_ _=>Option.none⟩
def kC.nil:kC:=λ_=>MF.none
def kC.add (Λ:kC)(k:Nat)(l:MF):kC:=λj=>bif j==k then l else Λ j
section
variable {R:Type} (E:Env) (Γ:Dy) (an:An)
def Fs (o:Oper)(x:Operand)(st:AS)(K:AS->az R):az R:=
 match o.dst with
 |some d=>if an.mv.contains d then K ((st.take x).2.put o.dst (st.take x).1) else K (st.put o.dst (st.rd x))
 |none=>none
def xg (o:Oper)(x:Operand)(st:AS)(K:AS->az R):az R:=
 match st.take x with
 |(.val false [.kv],_)=>match E.sl o.type with
  |some e=>K (st.put o.dst (.one (bif atm an o then .kv else .sl (.own none) e [])))
  |none=>none
 |(v,cp)=>K (cp.put o.dst v)
def HO (o:Oper)(c a b:Operand)(st:AS)(K:AS->az R):az R:=
 match st.rd c with
 | .val false [.bool t]=>match st.rd a,st.rd b with
   | .val false [.bool x],.val false [.bool y]=>K (st.put o.dst (.one (.bool (cond t x y))))
   |va,vb=>cond t (K (st.put o.dst va)) (K (st.put o.dst vb))
 |_=>none
def FI (o:Oper)(T:TypeId)(st:AS)(K:AS->az R):az R:=
 match o.dst,jK E.ty T with
 |some d,some sh=>match nth st.boxes d with
  |some none=>K ((st.fD d (some (cellsOf sh.ct (.own none) sh.ct.zero))).put o.dst (.one (.ptr d 0)))
  |_=>none
 |_,_=>none
def VV (o:Oper)(x:Operand)(st:AS)(K:AS->az R):az R:=
 match o.dst,st.take x with
 |some d,(.val _ cs,cp)=>
  match nth cp.boxes d with
  |some none=>if cs.all AC.L3 then K ((cp.fD d (some cs)).put o.dst (.one (.ptr d 0))) else none
  |_=>none
 |_,_=>none
def Xc (ep:Nat)(r:lx)(t:Nat)(e:CT)(i:Int):Nat->aw AC->aw AC
 |_,[]=>[]
 |p,.sl _ e' xs::cs=> .sl (.nest ep r t e i p) e' xs::Xc ep r t e i (p+1) cs
 |p,c::cs=>c::Xc ep r t e i (p+1) cs
def alA (o:Oper)(ep:Nat)(fl:sn)(e:CT)(i:Int)(off:Nat)(cs:aw AC):aw AC:=
 match fl,o.dst with
 | .loc _ (some (r,t)),some d=>bif an.nest.contains d then Xc ep r t e i off cs else cs
 |_,_=>cs
def Gz (o:Oper)(sh:Shape)(fl:sn)(e:CT)(i:Int)(off:Nat)(st:AS)(K:AS->az R):az R:=
 match fl with
 | .loc _ (some (r,t))=>
   match st.fL r with
   |some (.sl (.own (some t')) e' ys)=>
    if h:e'=e then
     if t'=t/\off+sh.ct.size<=e.size then
      aa (idx (h▸ys:aw e.D) i) λy=>K (st.put o.dst (.val sh.agg (((cellsOf e (.loc st.ep none) y).drop off).take sh.ct.size)))
     else none
    else none
   |_=>none
 |_=>none
def Bh (o:Oper)(sh:Shape)(fl:sn)(e:CT)(i:Int)(off:Nat)(st:AS)(K:AS->az R):az R:=
 match fl with
 | .loc _ (some (r,t))=>
   match st.fL r with
   |some (.sl (.own (some t')) e' ys)=>
    if h:e'=e then
     if t'=t/\off=0/\sh.ct=e then
      aa (idx (h▸ys:aw e.D) i) λy=>K ((st.fP r (.sl (.fS (some t) i (some st.ep)) e (h▸ys))).put o.dst (.val sh.agg (cellsOf e (.own none) y)))
     else none
    else none
   |_=>none
 |_=>none
def qv (o:Oper)(T:TypeId)(p:Operand)(st:AS)(K:AS->az R):az R:=
 match jK E.ty T,st.rd p with
 |some sh,.val false [.ptr s off]=>
  match (nth st.boxes s).getD none with
  |some cs=>
   if off+sh.ct.size<=cs.length then
    match o.dst with
    |some d=>
     if an.mv.contains d then
      K ((st.fD s (some (eX cs off (bl st.ep ((cs.drop off).take sh.ct.size))))).put o.dst (.val sh.agg ((cs.drop off).take sh.ct.size)))
     else K (st.put o.dst (.val sh.agg (iZ st.ep (.box s) off ((cs.drop off).take sh.ct.size))))
    |none=>none
   else none
  |none=>none
 |some sh,.val false [.Ey fl e x i off]=>
  if Ih an o then Bh o sh fl e i off st K
  else if fl.live st.ep then
   if off+sh.ct.size<=e.size then K (st.put o.dst (.val sh.agg (alA an o st.ep fl e i off (((cellsOf e fl.bare x).drop off).take sh.ct.size)))) else none
  else Gz o sh fl e i off st K
 |_,_=>none
def zC (T:TypeId)(p x:Operand)(st:AS)(K:AS->az R):az R:=
 match jK E.ty T,st.rd p with
 |some sh,.val false [.ptr s off]=>
  match st.take x with
  |(.val _ vs,cp)=>
   match (nth cp.boxes s).getD none with
   |some cs=>
    if vs.length=sh.ct.size/\vs.all AC.L3 then
     if off+sh.ct.size<=cs.length then K (cp.fD s (some (eX cs off vs))) else none
    else none
   |none=>none
  |_=>none
 |some sh,.val false [.Ey (.loc _ (some (r,t))) e _ i off]=>
  match st.take x with
  |(.val _ vs,cp)=>
   if vs.length=sh.ct.size/\off+sh.ct.size<=e.size then cp.qL r t e i off vs K else none
  |_=>none
 |_,_=>none
def CO (o:Oper)(S:TypeId)(p:Operand)(f:Nat)(st:AS)(K:AS->az R):az R:=
 match jK E.ty S,st.rd p with
 |some ⟨true,_,kF⟩,.val false [.ptr s off]=>match nth kF f with|some (fo,_)=>K (st.put o.dst (.one (.ptr s (off+fo))))|none=>none
 |some ⟨true,_,kF⟩,.val false [.Ey fl e x i off]=>match nth kF f with|some (fo,_)=>K (st.put o.dst (.one (.Ey fl e x i (off+fo))))|none=>none
 |_,_=>none
def np (o:Oper)(T:TypeId)(x i:Operand)(st:AS)(K:AS->az R):az R:=
 match E.sl T,(st.rd x).fresh st,st.rd i with
 |some e',.val false [.sl fl e xs],.val false [.int _ n]=>
  if e'=e/\fl.live st.ep then aa (idx xs n) λy=>K (st.put o.dst (.one (.Ey fl e y n 0))) else none
 |_,_,_=>none
def EH (o:Oper)(T:TypeId)(x i:Operand)(st:AS)(K:AS->az R):az R:=
 match st.rd x,st.rd i with
 | .val false [.str s],.val false [.int _ n]=>if E.str T then aa (idx s n) λb=>K (st.put o.dst (.one (.int .u8 b.toNat))) else none
 |_,_=>none
def Eu (o:Oper)(T:TypeId)(parts:aw (Nat×Operand))(st:AS)(K:AS->az R):az R:=
 match jK E.ty T with
 |some ⟨true,ct,kF⟩=>
  match fM st (parts.map (·.2))with
  |(vs,cp)=>
   match yP kF (cellsOf ct (.own none) ct.zero) ((parts.map (·.1)).zip (vs.map AV.cells))with
   |some cs=>K (cp.put o.dst (.val true cs))
   |none=>none
 |_=>none
def mG (o:Oper)(T:TypeId)(len:Nat)(parts:aw (Nat×Operand))(st:AS)(K:AS->az R):az R:=
 match E.sl T with
 |some e=>
  if parts.length=len/\Ly 0 parts/\len<=1000 then
   match fM st (parts.map (·.2))with
   |(vs,cp)=>
    match Fk e (vs.map AV.cells)with
    |some xs=>K (cp.ri o.dst e xs)
    |none=>none
  else none
 |none=>none
def pK (o:Oper)(T:TypeId)(n c:Operand)(st:AS)(K:AS->az R):az R:=
 match E.sl T,st.rd n,st.rd c with
 |some e,.val false [.int .i64 len],.val false [.int .i64 cap]=>
  if 0<=len/\len<=cap then room cap.toNat (K (st.ri o.dst e (List.replicate len.toNat e.zero))) else none
 |_,_,_=>none
def nK (st:AS)(lo hi:az Operand)(n:Nat)(K:Int->Int->az R):az R:=
 match lo.map st.rd,hi.map st.rd with
 |none,none=>K 0 n
 |some (.val false [.int _ a]),none=>K a n
 |none,some (.val false [.int _ b])=>K 0 b
 |some (.val false [.int _ a]),some (.val false [.int _ b])=>K a b
 |_,_=>none
def zd (o:Oper)(T:TypeId)(x:Operand)(lo hi:az Operand)(st:AS)(K:AS->az R):az R:=
 match st.take x,lo.map st.rd,hi with
 |(.val false [.sl (.own _) e xs],cp),some (.val false [.int _ a]),none=>
  if E.sl T=some e then aa (sub xs a xs.length) λSY=>K (cp.ri o.dst e SY) else none
 |_,_,_=>none
def RL (o:Oper)(fl:sn)(a:Int):sn:=
 match fl,o.dst with
 | .loc ep (some (r,t)),some d=>bif an.nest.contains d then .part ep r t a else .loc ep none
 |fl,_=>fl.bare
def Dh (o:Oper)(T:TypeId)(x:Operand)(lo hi:az Operand)(st:AS)(K:AS->az R):az R:=
 if Ih an o then zd E o T x lo hi st K else
 match (st.rd x).fresh st with
 | .val false [.str s]=>if E.str T then nK st lo hi s.length λa b=>aa (sub s a b) λs'=>K (st.put o.dst (.one (.str s'))) else none
 | .val false [.sl fl e xs]=>
   if E.sl T=some e/\fl.live st.ep then nK st lo hi xs.length λa b=>aa (sub xs a b) λSY=>K (st.put o.dst (.one (.sl (RL an o fl a) e SY))) else none
 |_=>none
def mI (o:Oper)(src dst:TypeId)(x:Operand)(st:AS)(K:AS->az R):az R:=
 match jK E.ty src,jK E.ty dst,st.rd x with
 |some _,some ⟨false,.int k,_⟩,.val false [.int _ n]=>K (st.put o.dst (.one (.int k (k.wrap n))))
 |some ⟨false,.str,_⟩,some ⟨false,.str,_⟩,.val false [.str s]=>K (st.put o.dst (.one (.str s)))
 |some ⟨false,.str,_⟩,some _,.val false [.str s]=>
  if E.bytes dst then room s.length (K (st.ri o.dst (.int .u8) (fX s))) else none
 |some _,some ⟨false,.str,_⟩,.val false [.sl fl (.int .u8) xs]=>
  if E.bytes src/\fl.live st.ep then K (st.put o.dst (.one (.str (bf xs)))) else none
 |_,_,_=>none
def mJ (o:Oper)(t i:Nat)(st:AS)(K:AS->az R):az R:=
 match st.get t with
 | .yC vs=>match nth vs i with
   |some (g,cs)=>K ((st.put (some t) (.yC (iO vs i (g,bl 0 cs)))).put o.dst (.val g cs))
   |none=>none
 |_=>none
def Rt (o:Oper)(ts:aw TypeId)(args:aw Operand)(st:AS)(K:AS->az R):az R:=
 match ts,args.map st.rd with
 |[t],[.val false [.str s]]=>if E.str t then K (st.put o.dst (.one (.int .i64 s.length))) else none
 |[t],[.val false [.sl _ _ xs]]=>if(E.sl t).isSome then K (st.put o.dst (.one (.int .i64 xs.length))) else none
 |_,_=>none
def Tq (o:Oper)(args:aw Operand)(st:AS)(K:AS->az R):az R:=
 match args.map st.rd with
 |[.val false [.int k x],.val false [.int _ y]]=>K (st.put o.dst (.one (.int k (if y<x then y else x))))
 |_=>none
def Tp (o:Oper)(args:aw Operand)(st:AS)(K:AS->az R):az R:=
 match args.map st.rd with
 |[.val false [.int k x],.val false [.int _ y]]=>K (st.put o.dst (.one (.int k (if y>x then y else x))))
 |_=>none
def TX (o:Oper)(ts:aw TypeId)(args:aw Operand)(st:AS)(K:AS->az R):az R:=
 match ts,args.map st.rd with
 |[t,t'],[.val false [.sl (.part ep r tg lo) e xs],.val false [.str s]]=>
  match st.fL r with
  |some (.sl (.own (some tg')) e' ys)=>
   if h:e'=.int .u8 then
    if e=.int .u8/\E.sl t=some (.int .u8)/\E.str t'=true/\ep=st.ep/\tg'=tg then
     K ({st.fP r (.sl (.own (some tg)) (.int .u8) (LJ (h▸ys:aw (CT.int .u8).D) lo.toNat (fX (s.take xs.length))))with ep:=st.ep+1}.put o.dst (.one (.int .i64 (min xs.length s.length:Nat))))
    else none
   else none
  |_=>none
 |_,_=>none
def Iy (o:Oper)(S:TypeId)(t f:Nat)(st:AS)(K:AS->az R):az R:=
 match jK E.ty S,st.get t,aak E.fts S f with
 |some ⟨true,ct,kF⟩,.val true cs,some T=>
  match nth kF f,jK E.ty T with
  |some (fo,n),some sh=>
   if n=sh.ct.size/\cs.length=ct.size/\fo+n<=cs.length then
    K ((st.put (some t) (.val true (eX cs fo (bl st.ep ((cs.drop fo).take n))))).put o.dst (.val sh.agg ((cs.drop fo).take n)))
   else none
  |_,_=>none
 |_,_,_=>none
def zF (o:Oper)(ts:aw TypeId)(args:aw Operand)(st:AS)(K:AS->az R):az R:=
 match ts,args with
 |[t,t'],[s,x]=>
  match st.take s with
  |(.val false [.sl (.own _) e xs],st1)=>
   match st1.take x with
   |(.val false [.sl fl e' ys],st2)=>
    if h:e'=e then
     if E.sl t=some e/\E.sl t'=some e/\fl.sG st.ep e.flat then
      room (xs.length+ys.length) (K (st2.ri o.dst e (xs++(h▸ys:aw e.D))))
     else none
    else none
   |(.val false [.str s],st2)=>
    if h:e=.int .u8 then
     if E.sl t=some e/\E.str t' then room (xs.length+s.length) (K (st2.ri o.dst (.int .u8) ((h▸xs:aw (CT.int .u8).D)++fX s))) else none
    else none
   |_=>none
  |_=>none
 |_,_=>none
def Uf:Nat->aw AC->az (lx×Nat)
 |_,[]=>none
 |j,.sl (.loc _ (some (r,_))) _ _::_=>some (r,j)
 |j,_::cs=>Uf (j+1) cs
def lx.pos:lx->Nat
 | .slot _ j=>j
 | .box _ j=>j
 | .io j=>j
def AS.LM (st:AS):lx->az (aw AC)
 | .slot s _=>match st.get s with| .val _ cs=>some cs|_=>none
 | .box s _=>(nth st.boxes s).getD none
 | .io _=>some st.io
def AS.H3 (st:AS)(r:lx)(cs:aw AC):AS:=
 match r with
 | .slot s _=>match st.get s with| .val g _=>st.put (some s) (.val g cs)|_=>st
 | .box s _=>st.fD s (some cs)
 | .io _=>{st with io:=cs}
def oL:aw AC->aw AC->az (aw AC)
 |[],[]=>some []
 | .sl (.loc _ (some (_,t))) _ _::os,.sl (.own (some t')) e xs::ss=>bif t'==t then(oL os ss).bind λr=>some (.sl (.own none) e xs::r) else none
 | .int k n::os,.int _ _::ss=>(oL os ss).bind λr=>some (.int k n::r)
 | .bool b::os,.bool _::ss=>(oL os ss).bind λr=>some (.bool b::r)
 | .str x::os,.str _::ss=>(oL os ss).bind λr=>some (.str x::r)
 |_,_=>none
def AV.kh:AV->Bool
 | .val _ cs=>cs.all AC.kh
 | .yC vs=>vs.all λx=>x.2.all AC.kh
def VY (st:AS)(x:Operand):az (AV×AS):=
 match st.rd x with
 | .val g cs=>
   match Uf 0 cs with
   |some (r,j)=>
    match st.LM r with
    |some csO=>
     match oL cs ((csO.drop (r.pos-j)).take cs.length)with
     |some sB=>some (.val g sB,st.H3 r (eX csO (r.pos-j) (bl st.ep ((csO.drop (r.pos-j)).take cs.length))))
     |none=>none
    |none=>none
   |none=>none
 |_=>none
def UO (o:Oper)(x:Operand)(st:AS)(K:AS->az R):az R:=
 match VY st x with
 |some (v,cp)=>K (cp.put o.dst v)
 |none=>none
def zD (T:TypeId)(p x:Operand)(st:AS)(K:AS->az R):az R:=
 match jK E.ty T,st.rd p with
 |some sh,.val false [.ptr s off]=>
  match VY st x with
  |some (.val _ vs,cp)=>
   match (nth cp.boxes s).getD none with
   |some cs=>
    if vs.length=sh.ct.size/\vs.all AC.L3 then
     if off+sh.ct.size<=cs.length then K (cp.fD s (some (eX cs off vs))) else none
    else none
   |none=>none
  |_=>none
 |_,_=>none
def AC.strip:AC->AC
 | .sl (.own _) e xs=> .sl (.own none) e xs
 | .sl (.loc _ _) _ _=> .bot
 | .sl (.nest ..) _ _=> .bot
 | .sl (.part ..) _ _=> .bot
 | .sl (.fS _ i _) e xs=> .sl (.fS none i none) e xs
 | .ptr _ _=> .bot
 | .Ey _ _ _ _ _=> .bot
 |c=>c
def AC.anY:AC->Bool
 | .sl (.own _) _ _=>true
 |c=>c.kh
def AC.BE (k:Bool):AC->Bool
 | .sl (.own _) _ _=>true
 | .sl (.arg k') _ _=>k'==k
 |c=>c.kh
def AC.XP:AC->AC
 | .sl (.own _) e xs=> .sl (.own none) e xs
 | .sl (.arg _) e xs=> .sl (.arg true) e xs
 |c=>c.strip
def AC.ap1 (k:Bool)(tag:az Nat):AC->AC
 | .sl (.own _) e xs=> .sl (.own tag) e xs
 | .sl (.arg _) e xs=> .sl (.arg k) e xs
 |c=>c
def qQ (k:Bool)(mk:Nat->az Nat):Nat->aw AC->aw AC
 |_,[]=>[]
 |j,c::cs=>c.ap1 k (mk j)::qQ k mk (j+1) cs
def GL (cs:aw AC):Bool:=cs.any λc=>match c with| .sl (.arg k) _ _=>k|_=>false
def AC.MH:AC->Bool
 | .sl (.arg k) _ _=> !k
 |c=>c.kh
def AV.MH:AV->Bool
 | .val _ cs=>cs.all AC.MH
 | .yC _=>false
def AS.Tn (st:AS):AC->AC
 | .sl (.own _) e xs=> .sl (.arg false) e xs
 | .sl (.arg _) e xs=> .sl (.arg false) e xs
 | .sl (.loc _ (some (.slot b j,t))) _ _=>match st.fL (.slot b j)with
   |some (.sl (.own (some t')) e' ys)=>if t'=t then .sl (.arg false) e' ys else .bot
   |_=> .bot
 | .int k n=> .int k n
 | .bool b=> .bool b
 | .str s=> .str s
 | .fn f=> .fn f
 |_=> .bot
def Ec (st:AS):Operand->AV
 | .tmp t=>(match st.get t with| .val g cs=> .val g (cs.map st.Tn)|v=>v)
 |x=>st.rd x
def Fj (st:AS):Operand->Bool
 | .tmp t=>(match st.get t with| .val _ cs=>(cs.map st.Tn).all AC.MH|_=>false)
 |x=>(st.rd x).kh
def AC.ahS:AC->Bool
 | .sl (.own _) _ _=>true
 |c=>c.kh
def AV.ahS:AV->Bool
 | .val _ cs=>cs.all AC.ahS
 | .yC vs=>vs.all λx=>x.2.all AC.ahS
def ae2 (st:AS)(s:Nat)(cs:aw AC):AS:={(st.fD s (some cs)).fW (some s)with ep:=st.ep+1}
def xh (o:Oper)(f:Nat)(args:aw Operand)(st:AS)(K:AS->az R):az R:=
 match args with
 |x0::xs=>
  match st.rd x0 with
  | .val false [.ptr s 0]=>
    match (nth st.boxes s).getD none with
    |some cs=>
     bif cs.all (AC.BE (GL cs))&&xs.all (Fj st) then
      aa ((Γ f).fn (.val true (cs.map AC.XP)::xs.map (Ec st))) λy=>
       bif ((Γ f).back y).all (AC.BE true)&&((Γ f).av y).ahS then
        bif (Γ f).cur&&cs.all AC.KW then
         K (((st.fD s (some (qQ (GL cs) (λ_=>none) 0 ((Γ f).back y)))).fW o.dst).put o.dst (((Γ f).av y).GM st.ep (st.iU o.dst)))
        else
        K (((ae2 st s (qQ (GL cs) (st.iU (some s)) 0 ((Γ f).back y))).fW o.dst).put o.dst
          (((Γ f).av y).GM (st.ep+1) ((ae2 st s (qQ (GL cs) (st.iU (some s)) 0 ((Γ f).back y))).iU o.dst)))
       else none
     else none
    |none=>none
  |_=>none
 |[]=>none
def ahT (o:Oper)(f:Nat)(args:aw Operand)(st:AS)(K:AS->az R):az R:=
 match o.dst with
 |some d=>
  match nth st.boxes d with
  |some none=>
   bif args.all (λx=>(st.rd x).MH) then
    aa ((Γ f).fn (args.map st.rd)) λy=>
     bif ((Γ f).back y).all AC.MH then K ((st.fD d (some ((Γ f).back y))).put (some d) (.one (.ptr d 0))) else none
   else none
  |_=>none
 |none=>none
def GO (o:Oper)(f:Operand)(args:aw Operand)(st:AS)(K:AS->az R):az R:=
 match st.rd f with
 | .val false [.fn f]=>
   bif (Γ f).bx then xh Γ o f args st K else
   bif (Γ f).pr then ahT Γ o f args st K else
   bif (Γ f).io then none
   else aa ((Γ f).fn (args.map λx=>((st.rd x).fresh st).asArg st.ep)) λr=>cond ((Γ f).sel r) (K ((st.fW o.dst).put o.dst (((Γ f).av r).GM st.ep (st.iU o.dst)))) (K ((st.fW o.dst).put o.dst (((Γ f).alt r).GM st.ep (st.iU o.dst))))
 |_=>none
def GP {R:Type}(op:BinOp)(b:Bool)(K:AC->az R):az R:=
 match op with
 | .eql=>K (.bool b)
 | .neq=>K (.bool (!b))
 |_=>none
def DK (o:Oper)(op:BinOp)(T:TypeId)(x y:Operand)(st:AS)(K:AS->az R):az R:=
 match st.rd x,st.rd y with
 | .val false [.bool a],.val false [.bool b]=>if E.bool T then Jc op (.one (.bool a)) (.one (.bool b)) λc=>K (st.put o.dst (.one c)) else none
 | .val true xs,.val true ys=>match UR E.eqs T with
   |some ls=>if fits ls xs then Jc op (.val true xs) (.val true ys) λc=>K (st.put o.dst (.one c)) else none
   |none=>none
 | .val false [.sl fl _ xs],.val false [.kv]=>if(E.sl T).isSome/\fl.live st.ep then(if xs.length=0 then none else GP op false λc=>K (st.put o.dst (.one c))) else none
 | .val false [.kv],.val false [.kv]=>if(E.sl T).isSome then GP op true λc=>K (st.put o.dst (.one c)) else none
 |a,b=>Jc op a b λc=>K (st.put o.dst (.one c))
def dp (o:Oper)(st:AS)(K:AS->az R):az R:=
 match o.op with
 | .move x=>Fs an o x st K
 | .assign x=>if C2 an o then UO o x st K else xg E an o x st K
 | .pick c a b=>HO o c a b st K
 | .alloc T=>FI E o T st K
 | .box _ x=>VV o x st K
 | .load T p=>qv E an o T p st K
 | .store T p x=>match o.dst with|none=>(if C2 an o then zD E T p x st K else zC E T p x st K)|some _=>none
 | .nilCheck x=>
   match st.rd x with
   | .val false [.ptr s off]=>K (st.put o.dst (.one (.ptr s off)))
   | .val false [.Ey fl e y i off]=>K (st.put o.dst (.one (.Ey fl e y i off)))
   |_=>none
 | .binOp op T x y _=>DK E o op T x y st K
 | .unOp op _ x=>unC op (st.rd x) λc=>K (st.put o.dst (.one c))
 | .fieldAddr S p f=>CO E o S p f st K
 | .indexAddr T x i=>np E o T x i st K
 | .index T x i=>EH E o T x i st K
 | .build T parts=>Eu E o T parts.toList st K
 | .buildSlice T len parts=>mG E o T len parts.toList st K
 | .makeSlice T n c=>pK E o T n c st K
 | .slice T x lo hi none=>Dh E an o T x lo hi st K
 | .field S (.tmp t) f=>Iy E o S t f st K
 | .call {callee:=.builtin .copy,args,argTypes}=>TX E o argTypes.toList args.toList st K
 | .convert src dst x=>mI E o src dst x st K
 | .extract (.tmp t) i=>mJ o t i st K
 | .call {callee:=.builtin .len,args,argTypes}=>Rt E o argTypes.toList args.toList st K
 | .call {callee:=.builtin .min,args,..}=>Tq o args.toList st K
 | .call {callee:=.builtin .max,args,..}=>Tp o args.toList st K
 | .call {callee:=.builtin .append,args,argTypes}=>zF E o argTypes.toList args.toList st K
 | .call {callee:=.value f,args,..}=>GO Γ o f args.toList st K
 |_=>none
def ia (ops:aw Oper)(o:Oper)(st:AS)(K:AS->az R):az R:=
 match o.guard with
 |none=>dp E Γ an o st K
 |some (j,KI)=>
  match (nth ops j).bind (·.dst)with
  |some d=>
   match st.get d with
   | .val false [.bool b]=>
     let go (t:Bool):az R:=
      if t==KI then dp E Γ an o (st.put (some d) (.one (.bool t))) K else K ((st.put (some d) (.one (.bool t))).put o.dst (.one .un))
     cond b (go true) (go false)
   | .val false [.un]=>K (st.put o.dst (.one .un))
   |_=>none
  |none=>none
def Xf (ops:aw Oper):aw Oper->AS->(AS->az R)->az R
 |[],st,K=>K st
 |o::r,st,K=>ia E Γ an ops o st λcp=>Xf ops r cp K
def eZ:Code->Nat
 | .region id _ _=>id
 | .seq a _=>eZ a
 | .block _ c=>eZ c
 | .loop c=>eZ c
 | .cond _ a b=>match eZ a with|0=>eZ b|n=>n
 |_=>0
def Hj (c:Code):Nat:=1000000+2*eZ c
def la (l:fA):Code->aw Code
 | .seq a b=>la l a++(bif l.contains (eZ b) then b::la l b else la l b)
 | .cond _ a b=>la l a++la l b
 | .block _ c=>la l c
 | .loop c=>la l c
 |_=>[]
def jo (l:fA)(fn:Func)(k:Nat):Code:=(nth (la l (fn.body.getD .skip)) k).getD .skip
def iM:Code->aw Code
 | .seq a b=>iM a++iM b
 | .cond _ a b=>iM a++iM b
 | .block _ c=>iM c
 | .loop c=>c::iM c
 |_=>[]
def cA (fn:Func)(k:Nat):Code:=(nth (iM (fn.body.getD .skip)) k).getD .skip
def afz (j:Nat):Nat:=3*(4096*1000003+j)
def lx.Ia:lx->az Nat
 | .slot s j=>bif Nat.ble 4096 j then none else bif Nat.ble 1000000 s then none else some (3*(4096*s+j))
 | .box s j=>bif Nat.ble 4096 j then none else some (3*(4096*s+j)+1)
 | .io j=>bif Nat.ble 4096 j then none else some (afz j)
def AC.alk (io:aw AC)(j t:Nat)(e:CT):az (aw e.D):=
 match nth io j with
 |some (.sl (.own (some t')) e' ys)=>if h:e'=e then bif t'==t then some (h▸ys) else none else none
 |_=>none
def AC.mask (keep:fA)(ep:Nat)(io:aw AC)(rt:lx):AC->AC
 | .ptr s off=>if keep.contains s then .ptr s off else .bot
 | .sl (.loc e pv) t xs=>
   match pv with
   |some (.io j,n)=>match AC.alk io j n t with
    |some ys=> .sl (.loc 0 ((lx.Ia (.io j)).map λq=>(.io j,q))) t ys
    |none=>if e==ep then .sl (.loc 0 none) t xs else .bot
   |_=>if e==ep then .sl (.loc 0 none) t xs else .bot
 | .sl (.own _) t xs=> .sl (.own rt.Ia) t xs
 | .sl (.nest ..) _ _=> .bot
 | .sl (.part ..) _ _=> .bot
 | .sl (.fS _ i _) e xs=> .sl (.fS none i none) e xs
 | .Ey _ _ _ _ _=> .bot
 |c=>c
def M5 (keep:fA)(ep:Nat)(io:aw AC)(f:Nat->lx):Nat->aw AC->aw AC
 |_,[]=>[]
 |j,c::cs=>c.mask keep ep io (f j)::M5 keep ep io f (j+1) cs
def AV.mask (keep:fA)(ep:Nat)(io:aw AC)(s:Nat):AV->AV
 | .val g cs=> .val g (M5 keep ep io (.slot s) 0 cs)
 | .yC _=> .bot
def oH (keep:fA)(ep:Nat)(io:aw AC):Nat->aw AV->aw AV
 |_,[]=>[]
 |i,v::r=>(if keep.contains i then v.mask keep ep io i else .bot)::oH keep ep io (i+1) r
def oG (keep:fA)(ep:Nat)(io:aw AC):Nat->aw (az (aw AC))->aw (az (aw AC))
 |_,[]=>[]
 |i,b::r=>(if keep.contains i then b.map (M5 keep ep io (.box i) 0) else none)::oG keep ep io (i+1) r
def adN (keep:fA):Nat->aw AC->aw AC
 |_,[]=>[]
 |j,c::cs=>(match c with| .sl (.own _) e xs=> .sl (.own (lx.Ia (.io j))) e xs| .sl (.fS _ i _) e xs=> .sl (.fS none i none) e xs| .ptr s off=>if keep.contains s then .ptr s off else .bot|c=>bif c.kh then c else .bot)::adN keep (j+1) cs
def AS.mask (keep:fA)(st:AS):AS:=
 ⟨oH keep st.ep st.io 0 st.slots,oG keep st.ep st.io 0 st.boxes,0,List.replicate st.slots.length false,adN keep 0 st.io⟩
def getBool (st:AS)(s:Nat):az Bool:=
 match st.get s with
 | .val false [.bool b]=>some b
 |_=>none
def ie (an:An)(ds:fA)(o:Oper):Bool:=
 match o.op with
 | .assign (.const _)=> !C2 an o
 | .assign (.tmp t)=>ds.contains t&& !C2 an o
 | .move _| .load ..=>match o.dst with|some d=> !an.mv.contains d|none=>false
 | .slice ..=> !Ih an o
 | .pick ..| .binOp ..| .unOp ..| .fieldAddr ..| .indexAddr ..| .index ..| .nilCheck _=>true
 | .build _ ps=>ps.isEmpty
 | .call {callee:=.builtin .len,..}| .call {callee:=.builtin .min,..}| .call {callee:=.builtin .max,..}=>true
 | .call {callee:=.value _,..}=>true
 |_=>false
def Ke (ops:aw Oper):fA:=ops.filterMap (·.dst)
def AS.D2 (st:AS):fA->AS
 |[]=>st
 |d::r=>((st.put (some d) .bot).fW (some d)).D2 r
def Jj (ops:aw Oper)(A:aw fA):Nat->aw Oper->AS->(AS->az R)->az R
 |_,[],st,K=>K st
 |i,o::r,st,K=>bif dM E an (uV an A i 0 ops) o st then ia E Γ an ops o st λcp=>Jj ops A (i+1) r cp K else none
def Hs (ops:aw Oper)(draw:Bool)(st:AS)(K:AS->az R):az R:=
 bif draw then(bif Yy an ops then Jj E Γ.KF an ops (X8 ops []) 0 ops st K else none) else Xf E Γ an ops ops st K
def Xr (id:Nat)(ops:aw Oper)(draw:Bool)(st:AS)(K:AS->az R):az R:=
 match an.merge id with
 |none=>Hs E Γ an ops draw st K
 |some s=>
  if ops.all (ie an (Ke ops)) then
   aa (Hs E Γ.calm an ops draw st λcp=>getBool cp s) λb=>K ((st.D2 (Ke ops)).put (some s) (.one (.bool b)))
  else none
def Ed (key:fA)(B:AS->(Ex->AS->az R)->az R):Nat->AS->(Ex->AS->az R)->az R
 |0,_,_=>none
 |m+1,st,K=>B st λe cp=>
  match e with
  | .normal=>Ed key B m (cp.mask key) K
  |e=>K e (cp.mask key)
def den (Λ:kC):Code->AS->(Ex->AS->az R)->az R
 | .skip,st,K=>K .normal st
 | .region id ops draw,st,K=>Xr E Γ an id ops.toList draw st (K .normal)
 | .seq a b,st,K=>den Λ a st λe cp=>match e with
   | .normal=>bif an.cut.contains (eZ b) then(Λ (Hj b)).go (cp.mask (an.mask (Hj b))) K else den Λ b cp K
   |e=>K e cp
 | .cond c a b,st,K=>
   match st.rd c with
   | .val false [.bool t]=>cond t (den Λ a st K) (den Λ b st K)
   |_=>none
 | .block id c,st,K=>den Λ c st λe cp=>
   match e with
   | .exit j=>if j==id then K .normal cp else K (.exit j) cp
   |e=>K e cp
 | .loop c,st,K=>
   bif an.atq.contains (eZ c) then den Λ c (st.mask (an.mask (eZ c))) λe cp=>
    match e with
    | .normal=>(Λ (eZ c)).go (cp.mask (an.mask (eZ c))) K
    |e=>K e (cp.mask (an.mask (eZ c)))
   else(Λ (eZ c)).go (st.mask (an.mask (eZ c))) K
 | .exit id,st,K=>K (.exit id) st
 | .ret,st,K=>K .ret st
 |_,_,_=>none
end
def RZ (st:AS)(E:Env):ResultVar->az ((Bool×Nat)×Bool×aw AC)
 | .tmp t=>match st.get t with| .val g cs=>some ((false,t),g,cs.map AC.strip)|_=>none
 | .cell t T=>match jK E.ty T,st.get t with
   |some sh,.val false [.ptr s off]=>((nth st.boxes s).getD none).bind λcs=>
    if off+sh.ct.size<=cs.length then some ((true,s),sh.agg,((cs.drop off).take sh.ct.size).map AC.strip) else none
   |_,_=>none
def yY (st:AS)(E:Env):aw (Bool×Nat)->aw ResultVar->az (aw (Bool×aw AC))
 |_,[]=>some []
 |had,r::rs=>(RZ st E r).bind λx=>if had.contains x.1 then none else(yY st E (x.1::had) rs).bind λxs=>some (x.2::xs)
def results (E:Env)(rs:aw ResultVar)(st:AS):az AV:=
 match yY st E [] rs with
 |some [(g,cs)]=>some (.val g cs)
 |some vs=>some (.yC vs)
 |none=>none
def start (fn:Func)(args:aw AV):AS:=⟨args++List.replicate (fn.ntmps-args.length) .bot,List.replicate (args.length+(fn.ntmps-args.length)) none,0,List.replicate fn.ntmps false,[]⟩
abbrev rj:aw (Bool×FT)->Type
 |[]=>Unit
 |[(_,t)]=>t.ct.D
 |(_,t)::r=>t.ct.D×rj r
def wL:(l:aw (Bool×FT))->aw (Bool×aw AC)->az (rj l)
 |[],[]=>some ()
 |[(g,t)],[(g',cs)]=>bif g==g' then(match PC t cs with|some (x,[])=>some x|_=>none) else none
 |(g,t)::p::r,(g',cs)::vs=>bif g==g' then(match PC t cs with|some (x,[])=>(wL (p::r) vs).bind λy=>some (x,y)|_=>none) else none
 |_,_=>none
def arz:(l:aw (Bool×FT))->rj l->aw (Bool×aw AC)
 |[],_=>[]
 |[(g,t)],x=>[(g,kc t x)]
 |(g,t)::p::r,x=>(g,kc t x.1)::arz (p::r) x.2
def Jb (l:aw (Bool×FT))(x:rj l):AV:=
 match arz l x with
 |[(g,cs)]=> .val g cs
 |vs=> .yC vs
def FP (E:Env)(Γ:Dy)(an:An)(Λ:kC)(fn:Func)(rs:aw (Bool×FT))(args:aw AV):az (rj rs):=
 match fn.body with
 |some c=>if args.length=fn.params.size then den E Γ an Λ c (start fn args) λe st=>
  match e with
  | .exit _=>none
  |_=>aa (yY st E [] fn.results.toList) (wL rs)
  else none
 |none=>none
def KZ:Nat->aw AC->aw AC
 |_,[]=>[]
 |j,.sl (.own _) e xs::cs=> .sl (.own (some (3*j+1))) e xs::KZ (j+1) cs
 |j,c::cs=>c::KZ (j+1) cs
def Dt (fn:Func)(cs:aw AC)(args:aw AV):AS:=
 {start fn (.one (.ptr 0 0)::args)with boxes:=some (KZ 0 cs)::List.replicate (args.length+(fn.ntmps-(args.length+1))) none,io:=[.ptr 0 0]}
def afk (E:Env)(Γ:Dy)(an:An)(Λ:kC)(fn:Func)(rs:aw (Bool×FT))(t:FT)(args:aw AV):az (rj rs×t.ct.D):=
 match fn.body,args with
 |some c,.val true cs::xs=>if xs.length+1=fn.params.size/\cs.all (AC.BE true)=true then den E Γ an Λ c (Dt fn cs xs) λe st=>
  match e with
  | .exit _=>none
  |_=>aa (aa (yY st E [(true,0)] fn.results.toList) (wL rs)) λr=>
   match st.io,st.boxes with
   |[.ptr 0 0],some sB::_=>match PC t (sB.map AC.strip)with
    |some (x,[])=>some (r,x)
    |_=>none
   |_,_=>none
  else none
 |_,_=>none
def Ws (E:Env)(Γ:Dy)(an:An)(Λ:kC)(fn:Func)(t:FT)(args:aw AV):az t.ct.D:=
 match fn.body with
 |some c=>if args.length=fn.params.size then den E Γ an Λ c (start fn args) λe st=>
  match e with
  | .exit _=>none
  |_=>match fn.results.toList with
   |[.tmp i]=>match st.get i with
    | .val false [.ptr s 0]=>match (nth st.boxes s).getD none with
      |some cs=>if cs.all AC.MH=true then(match PC t (cs.map AC.strip)with|some (x,[])=>some x|_=>none) else none
      |none=>none
    |_=>none
   |_=>none
  else none
 |none=>none
end Go.Dn
