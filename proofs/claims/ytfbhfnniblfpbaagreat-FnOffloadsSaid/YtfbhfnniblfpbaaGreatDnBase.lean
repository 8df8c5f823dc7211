import Derived.Test.YtfbhfnniblfpbaaGreatDnData
/- An abstract, heap-free semantics of the model's code, for functions that treat their data by value: definitions. -/
namespace Go.Dn
inductive mw where
 |slot (s j:Nat)|box (s j:Nat)|io (j:Nat)
 deriving DecidableEq
inductive tu where
 |own (tag:Option Nat)
 |loc (ep:Nat) (pv:Option (mw×Nat))
 |arg (k:Bool)
 |nest (ep:Nat) (r:mw) (t:Nat) (e:CT) (i:Int) (off:Nat)
 |part (ep:Nat) (r:mw) (t:Nat) (lo:Int)
 |gr (tag:Option Nat) (i:Int) (ep:Option Nat)
inductive AC where
 |int (k:IntKind) (n:Int)|bool (b:Bool)|str (s:List UInt8)
 |sl (fl:tu) (e:CT) (xs:List e.D)
 |kS
 |ptr (s off:Nat)
 |Ef (fl:tu) (e:CT) (x:e.D) (i:Int) (off:Nat)
 |fn (f:Nat)
 |un
 |bot
inductive AV where
 |val (agg:Bool) (cs:List AC)
 |yY (vs:List (Bool×List AC))
abbrev AV.one (c:AC):AV:=.val false [c]
abbrev AV.bot:AV:=.val false [.bot]
structure AS where
 slots:List AV
 boxes:List (Option (List AC))
 ep:Nat
 iss:List Bool
 io:List AC
structure Shape where
 agg:Bool
 ct:CT
 lE:List (Nat×Nat):=[]
structure An where
 mask:Nat->List Nat:=λ_=>[]
 merge:Nat->Option Nat:=λ_=>none
 mv:List Nat:=[]
 nest:List Nat:=[]
 mb:Nat->Option Nat:=λ_=>none
 sb:Nat->Option Nat:=λ_=>none
 late:List Nat:=[]
 peel:List Nat:=[]
 nils:List Nat:=[]
 fm:List Nat:=[]
 eb:Nat->Option Nat:=λ_=>none
 es:Nat->Option Nat:=λ_=>none
 er:Nat->Option Nat:=λ_=>none
 cut:List Nat:=[]
def cellsOf:(t:CT)->tu->t.D->ax AC
 | .int k,_,n=>[.int k n]
 | .bool,_,b=>[.bool b]
 | .str,_,s=>[.str s]
 | .sl e,fl,xs=>[.sl fl e xs]
 | .pair a b,fl,x=>cellsOf a fl x.1++cellsOf b fl x.2
def kJ:(t:CT)->ax AC->aA (t.D×ax AC)
 | .int k,.int k' n::r=>if k'=k then some (n,r) else none
 | .bool,.bool b::r=>some (b,r)
 | .str,.str s::r=>some (s,r)
 | .sl e,.sl (.own _) e' xs::r=>if h:e'=e then some (h▸xs,r) else none
 | .sl _,.kS::r=>some ([],r)
 | .pair a b,cs=>(kJ a cs).bind λx=>(kJ b x.2).bind λy=>some ((x.1,y.1),y.2)
 |_,_=>none
def nth {α:Type}:ax α->Nat->aA α
 |[],_=>none
 |a::_,0=>some a
 |_::l,n+1=>nth l n
def jm {α:Type}:ax α->Nat->α->ax α
 |[],_,_=>[]
 |_::l,0,v=>v::l
 |a::l,n+1,v=>a::jm l n v
def AS.get (st:AS)(i:Nat):AV:=(nth st.slots i).getD .bot
def AS.put (st:AS)(d:aA Nat)(v:AV):AS:=
 match d with
 |some d=>{st with slots:=jm st.slots d v}
 |none=>st
def Mk (d j:Nat):Nat:=3*(4096*d+j)+2
def AS.jz (st:AS)(d:aA Nat)(j:Nat):aA Nat:=
 match d with
 |some d=>bif (nth st.iss d).getD true then none else bif Nat.ble 4096 j then none else some (Mk d j)
 |none=>none
def AS.gD (st:AS)(d:aA Nat):AS:=
 match d with
 |some d=>{st with iss:=jm st.iss d true}
 |none=>st
def AS.sC (st:AS)(d:aA Nat)(e:CT)(xs:ax e.D):AS:=
 (st.gD d).put d (.one (.sl (.own (st.jz d 0)) e xs))
def AC.borrow (ep:Nat)(rt:aA mw):AC->AC
 | .sl (.own tag) e xs=> .sl (.loc ep (match rt,tag with|some r,some t=>some (r,t)|_,_=>none)) e xs
 | .sl (.gr tag _ (some Qq)) e xs=> .sl (.loc Qq (match rt,tag with|some r,some t=>some (r,t)|_,_=>none)) e xs
 | .sl (.gr _ _ none) _ _=> .bot
 |c=>c
def jO (ep:Nat)(f:Nat->mw):Nat->ax AC->ax AC
 |_,[]=>[]
 |j,c::cs=>c.borrow ep (some (f j))::jO ep f (j+1) cs
def bh (ep:Nat)(cs:ax AC):ax AC:=cs.map (AC.borrow ep none)
def AV.borrow (ep:Nat)(f:Nat->mw):AV->AV
 | .val g cs=> .val g (jO ep f 0 cs)
 | .yY vs=> .yY (vs.map λx=>(x.1,bh ep x.2))
def AV.bh (ep:Nat):AV->AV
 | .val g cs=> .val g (Dn.bh ep cs)
 | .yY vs=> .yY (vs.map λx=>(x.1,Dn.bh ep x.2))
def ofConst:Value->AV
 | .int k n=> .one (.int k n)
 | .bool b=> .one (.bool b)
 | .string s=> .one (.str s.data.toList)
 | .slice none 0 0=> .one .kS
 |_=> .bot
def AS.rd (st:AS):Operand->AV
 | .tmp t=>(st.get t).borrow st.ep (.slot t)
 | .const v=>ofConst v
 | .func f=> .one (.fn f)
 | .global _=> .bot
def AS.take (st:AS):Operand->AV×AS
 | .tmp t=>(st.get t,st.put (some t) ((st.get t).bh st.ep))
 |x=>(st.rd x,st)
def AS.fQ (st:AS)(s:Nat)(b:aA (ax AC)):AS:={st with boxes:=jm st.boxes s b}
def AC.asArg (ep:Nat):AC->AC
 | .int k n=> .int k n
 | .bool b=> .bool b
 | .str s=> .str s
 | .sl (.own _) e xs=> .sl (.arg false) e xs
 | .sl (.loc ep' _) e xs=>if ep'==ep then .sl (.arg false) e xs else .bot
 | .sl (.arg _) e xs=> .sl (.arg false) e xs
 | .kS=> .kS
 | .fn f=> .fn f
 |_=> .bot
def AV.asArg (ep:Nat):AV->AV
 | .val g cs=> .val g (cs.map (AC.asArg ep))
 | .yY _=> .bot
def AC.G3 (ep:Nat)(tag:aA Nat):AC->AC
 | .sl (.own _) e xs=> .sl (.own tag) e xs
 | .sl (.arg _) e xs=> .sl (.loc ep none) e xs
 | .sl (.loc _ _) _ _=> .bot
 | .sl (.nest ..) _ _=> .bot
 | .sl (.part ..) _ _=> .bot
 | .sl (.gr _ i _) e xs=> .sl (.gr none i none) e xs
 | .ptr _ _=> .bot
 | .Ef _ _ _ _ _=> .bot
 |c=>c
def LW (ep:Nat)(mk:Nat->aA Nat):Nat->ax AC->ax AC
 |_,[]=>[]
 |j,c::cs=>c.G3 ep (mk j)::LW ep mk (j+1) cs
def abX (ep:Nat)(mk:Nat->aA Nat):Nat->ax (Bool×ax AC)->ax (Bool×ax AC)
 |_,[]=>[]
 |j,t::ts=>(t.1,LW ep mk j t.2)::abX ep mk (j+t.2.length) ts
def AV.G3 (ep:Nat)(mk:Nat->aA Nat):AV->AV
 | .val g cs=> .val g (LW ep mk 0 cs)
 | .yY vs=> .yY (abX ep mk 0 vs)
def AC.KN:AC->Bool
 | .sl (.arg _) _ _=>true
 | .int ..=>true
 | .bool _=>true
 | .str _=>true
 | .fn _=>true
 |_=>false
structure BC where
 R:Type
 fn:List AV->Option R
 av:R->AV
 io:Bool:=false
 back:R->List AC:=λ_=>[]
 bx:Bool:=false
 pr:Bool:=false
 sel:R->Bool:=λ_=>true
 alt:R->AV:=λ_=> .val false [.bot]
 cur:Bool:=false
 hcur:cur=true->∀y,(back y).all AC.KN=true:=by intro h;cases h
def BC.res (F:BC)(y:F.R):AV:=cond (F.sel y) (F.av y) (F.alt y)
abbrev zu:=Nat->BC
def BC.dead:BC:={R:=Unit,fn:=λ_=>none,av:=λ_=> .val false [.bot]}
def zu.calm (Γ:zu):zu:=λf=>bif (Γ f).io||(Γ f).bx||(Γ f).pr then BC.dead else Γ f
def zu.KA (Γ:zu):zu:=λf=>bif (Γ f).io||(Γ f).pr||((Γ f).bx&& !(Γ f).cur) then BC.dead else Γ f
def Ls {R:Type}(op:BinOp)(k:IntKind)(x y:Int)(K:AC->aA R):aA R:=
 match op with
 | .add=>K (.int k (k.wrap (x+y)))
 | .sub=>K (.int k (k.wrap (x-y)))
 | .mul=>K (.int k (k.wrap (x*y)))
 | .quo=>if y=0 then none else K (.int k (k.wrap (x.tdiv y)))
 | .rem=>if y=0 then none else K (.int k (x.tmod y))
 | .and=>K (.int k (k.wrap (BitVec.ofInt k.bits x&&&BitVec.ofInt k.bits y).toNat))
 | .or=>K (.int k (k.wrap (BitVec.ofInt k.bits x|||BitVec.ofInt k.bits y).toNat))
 | .xor=>K (.int k (k.wrap (BitVec.ofInt k.bits x^^^BitVec.ofInt k.bits y).toNat))
 | .andNot=>K (.int k (k.wrap (BitVec.ofInt k.bits x&&&~~~ BitVec.ofInt k.bits y).toNat))
 | .eql=>K (.bool (x==y))
 | .neq=>K (.bool (x !=y))
 | .lss=>K (.bool (decide (x<y)))
 | .leq=>K (.bool (decide (x<=y)))
 | .gtr=>K (.bool (decide (x>y)))
 | .geq=>K (.bool (decide (x>=y)))
 |_=>none
def OH {R:Type}(op:BinOp)(x y:ax UInt8)(K:AC->aA R):aA R:=
 match op with
 | .add=>room (x.length+y.length) (K (.str (x++y)))
 | .eql=>K (.bool (x==y))
 | .neq=>K (.bool (!(x==y)))
 | .lss=>K (.bool (Op.bytesLess x y))
 | .leq=>K (.bool (Op.bytesLess x y||x==y))
 | .gtr=>K (.bool (!(Op.bytesLess x y||x==y)))
 | .geq=>K (.bool (!(Op.bytesLess x y)))
 |_=>none
def xN:ax AC->ax AC->aA Bool
 |[],[]=>some true
 | .int k x::r,.int k' y::r'=>if k=k' then(xN r r').bind λb=>some ((x==y)&&b) else none
 | .bool x::r,.bool y::r'=>(xN r r').bind λb=>some ((x==y)&&b)
 | .str x::r,.str y::r'=>(xN r r').bind λb=>some ((x==y)&&b)
 |_,_=>none
def Jj {R:Type}(op:BinOp)(x y:AV)(K:AC->aA R):aA R:=
 match x,y with
 | .val false [.int k a],.val false [.int k' b]=>
   match op with
   | .shl=>if b<0 then none else K (.int k (k.wrap (a*2^(min b.toNat k.bits))))
   | .shr=>if b<0 then none else K (.int k (a.fdiv (2^(min b.toNat k.bits))))
   |_=>if k=k' then Ls op k a b K else none
 | .val false [.str a],.val false [.str b]=>OH op a b K
 | .val false [.bool a],.val false [.bool b]=>
   match op with
   | .eql=>K (.bool (a==b))
   | .neq=>K (.bool (!(a==b)))
   |_=>none
 | .val true xs,.val true ys=>
   match op with
   | .eql=>aa (xN xs ys) λb=>K (.bool b)
   | .neq=>aa (xN xs ys) λb=>K (.bool (!b))
   |_=>none
 |_,_=>none
def unC {R:Type}(op:UnOp)(x:AV)(K:AC->aA R):aA R:=
 match op,x with
 | .not,.val false [.bool b]=>K (.bool (!b))
 | .neg,.val false [.int k n]=>K (.int k (k.wrap (0-n)))
 | .xor,.val false [.int k n]=>Ls .xor k (if k.signed then-1 else k.max) n K
 |_,_=>none
def fC (cs:ax AC)(off:Nat)(vs:ax AC):ax AC:=cs.take off++vs++cs.drop (off+vs.length)
def AS.fU (st:AS):mw->aA AC
 | .slot s j=>match st.get s with| .val _ cs=>nth cs j|_=>none
 | .box s j=>((nth st.boxes s).getD none).bind λcs=>nth cs j
 | .io j=>nth st.io j
def AS.gj (st:AS)(r:mw)(c:AC):AS:=
 match r with
 | .slot s j=>match st.get s with| .val g cs=>st.put (some s) (.val g (jm cs j c))|_=>st
 | .box s j=>match (nth st.boxes s).getD none with|some cs=>st.fQ s (some (jm cs j c))|none=>st
 | .io j=>{st with io:=jm st.io j c}
def AS.fresh (st:AS):AC->AC
 | .sl (.loc ep (some (r,t))) e xs=>
   bif ep==st.ep then .sl (.loc ep (some (r,t))) e xs else
    match st.fU r with
    |some (.sl (.own (some t')) e' ys)=>if h:e'=e then bif t'==t then .sl (.loc st.ep (some (r,t))) e (h▸ys) else .sl (.loc ep (some (r,t))) e xs else .sl (.loc ep (some (r,t))) e xs
    |_=> .sl (.loc ep (some (r,t))) e xs
 |c=>c
def AV.fresh (st:AS):AV->AV
 | .val g cs=> .val g (cs.map st.fresh)
 | .yY vs=> .yY vs
def AC.now (ep:Nat):AC->Bool
 | .sl (.loc ep' (some _)) _ _=>ep'==ep
 |_=>true
def AS.rO {R:Type}(st:AS)(r:mw)(t:Nat)(e:CT)(i:Int)(off:Nat)(vs:ax AC)(K:AS->aA R):aA R:=
 match st.fU r with
 |some (.sl (.own (some t')) e' xs)=>
  if h:e'=e then
   if t'=t then
    aa (idx (h▸xs:ax e.D) i) λx=>
     match kJ e (fC (cellsOf e (.own none) x) off vs)with
     |some (x',[])=>K {st.gj r (.sl (.own (some t')) e ((h▸xs:ax e.D).set i.toNat x'))with ep:=st.ep+1}
     |_=>none
   else none
  else none
 |some (.sl (.gr (some t') i' _) e' xs)=>
  if h:e'=e then
   if t'=t/\off=0 then
    aa (aes (h▸xs:ax e.D) i' i) λ_=>
     match kJ e vs with
     |some (x',[])=>K {st.gj r (.sl (.own (some t')) e ((h▸xs:ax e.D).set i.toNat x'))with ep:=st.ep+1}
     |_=>none
   else none
  else none
 |_=>none
def AV.cells:AV->ax AC
 | .val _ cs=>cs
 | .yY _=>[.bot]
def fV (st:AS):ax Operand->ax AV×AS
 |[]=>([],st)
 |x::xs=>let (v,st1):=st.take x;let (vs,st2):=fV st1 xs;(v::vs,st2)
def FD (e:CT):ax (ax AC)->aA (ax e.D)
 |[]=>some []
 |cs::r=>match kJ e cs with
  |some (x,[])=>(FD e r).bind λxs=>some (x::xs)
  |_=>none
def Lq:Nat->ax (Nat×Operand)->Bool
 |_,[]=>true
 |n,(i,_)::r=>i==n&&Lq (n+1) r
def AC.L5:AC->Bool
 | .bot=>false
 | .un=>false
 |_=>true
def zD (lE:ax (Nat×Nat))(zero:ax AC):ax (Nat×ax AC)->aA (ax AC)
 |[]=>some zero
 |(i,cs)::r=>match nth lE i with
  |some (off,n)=>if cs.length=n/\off+n<=zero.length/\cs.all AC.L5 then zD lE (fC zero off cs) r else none
  |none=>none
inductive LK where
 |int|bool|str
 deriving DecidableEq
structure Env where
 ty:List (Nat×Shape)
 eqs:List (Nat×List LK):=[]
 fts:List ((Nat×Nat)×Nat):=[]
def Uv (l:ax (Nat×ax LK))(t:Nat):aA (ax LK):=
 match l with
 |[]=>none
 |(u,sh)::r=>bif u==t then some sh else Uv r t
def fits:ax LK->ax AC->Bool
 |[],[]=>true
 | .int::ls,.int _ _::r=>fits ls r
 | .bool::ls,.bool _::r=>fits ls r
 | .str::ls,.str _::r=>fits ls r
 |_,_=>false
def YE (l:ax ((Nat×Nat)×Nat))(S f:Nat):aA Nat:=
 match l with
 |[]=>none
 |((u,k),T)::r=>bif u==S&&k==f then some T else YE r S f
def kl (l:ax (Nat×Shape))(t:Nat):aA Shape:=
 match l with
 |[]=>none
 |(u,sh)::r=>bif u==t then some sh else kl r t
def Env.sl (E:Env)(t:Nat):aA CT:=
 match kl E.ty t with
 |some ⟨false,.sl e,_⟩=>some e
 |_=>none
def Env.str (E:Env)(t:Nat):Bool:=
 match kl E.ty t with
 |some ⟨false,.str,_⟩=>true
 |_=>false
def Env.bool (E:Env)(t:Nat):Bool:=
 match kl E.ty t with
 |some ⟨false,.bool,_⟩=>true
 |_=>false
def Env.bytes (E:Env)(t:Nat):Bool:=
 match kl E.ty t with
 |some ⟨false,.sl (.int .u8),[(te,_)]⟩=>match kl E.ty te with|some ⟨false,.int .u8,_⟩=>true|_=>false
 |_=>false
def tu.live (ep:Nat):tu->Bool
 | .loc ep' _=>ep'==ep
 | .arg _=>true
 | .own _=>false
 | .nest ..=>false
 | .part ..=>false
 | .gr ..=>false
def tu.nI (ep:Nat)(flat:Bool):tu->Bool
 | .loc ep' _=>ep'==ep&&flat
 | .arg _=>flat
 | .own _=>true
 | .nest ..=>false
 | .part ..=>false
 | .gr ..=>false
def tu.bare:tu->tu
 | .loc ep _=> .loc ep none
 |f=>f
def AC.kB:AC->Bool
 | .int _ _=>true
 | .bool _=>true
 | .str _=>true
 | .fn _=>true
 |_=>false
def tm:Operand->fi
 | .tmp t=>[t]
 |_=>[]
def Tq (l:ax Operand):fi:=l.flatMap tm
def Ir (an:An)(o:Oper):Bool:=
 match o.dst with
 |some d=>an.mv.contains d&&(an.mb d).isNone
 |none=>false
def anc (an:An)(o:Oper):Bool:=
 match o.dst with
 |some d=>an.nils.contains d
 |none=>false
def DE (an:An)(o:Oper):Bool:=
 match o.op with
 | .assign (.tmp s)=>an.late.contains s
 | .store _ _ (.tmp s)=>an.late.contains s
 |_=>false
def tmO:aA Operand->fi
 |some x=>tm x
 |none=>[]
def eK (o:Oper):fi:=
 match o.op with
 | .move x=>tm x
 | .assign x=>tm x
 | .pick c a b=>tm c++tm a++tm b
 | .box _ x=>tm x
 | .load _ p=>tm p
 | .store _ p x=>tm p++tm x
 | .nilCheck x=>tm x
 | .binOp _ _ x y _=>tm x++tm y
 | .unOp _ _ x=>tm x
 | .fieldAddr _ p _=>tm p
 | .indexAddr _ x i=>tm x++tm i
 | .index _ x i=>tm x++tm i
 | .build _ parts=>Tq (parts.toList.map (·.2))
 | .buildSlice _ _ parts=>Tq (parts.toList.map (·.2))
 | .makeSlice _ n c=>tm n++tm c
 | .slice _ x lo hi none=>tm x++tmO lo++tmO hi
 | .convert _ _ x=>tm x
 | .extract (.tmp t) _=>[t]
 | .call {callee:=.builtin _,args,..}=>Tq args.toList
 | .call {callee:=.value f,args,..}=>tm f++Tq args.toList
 |_=>[]
def Iq (an:An)(o:Oper):Bool:=
 match o.op with
 | .move _=>match o.dst with|some d=>an.mv.contains d|none=>false
 | .assign _=>true
 | .box ..=>true
 | .build ..=>true
 | .buildSlice ..=>true
 | .store ..=>true
 | .extract ..=>match o.dst with|some d=>an.mv.contains d|none=>false
 | .call {callee:=.builtin .append,..}=>true
 |_=>false
def Io (an:An)(o:Oper):Bool:=
 match o.op,o.dst,o.guard with
 | .load _ (.tmp q),some d,none=>an.mv.contains d&&(an.mb d).isNone&&(an.eb q).isSome
 |_,_,_=>false
def Ev (an:An)(o:Oper):Bool:=
 match o.op,o.dst,o.guard with
 | .load _ (.tmp q),some d,none=> !an.mv.contains d&& !an.fm.contains d&&(an.sb q).isSome
 |_,_,_=>false
def It (an:An)(o:Oper):fi:=
 match o.op with
 | .alloc _=>o.dst.toList
 | .box ..=>o.dst.toList
 | .load _ p=>match o.dst with|some d=>bif an.mv.contains d then(an.mb d).toList++(bif Io an o then(match p with| .tmp q=>(an.eb q).toList|_=>[]) else []) else []|none=>[]
 | .store _ (.tmp p) _=>(an.sb p).toList
 | .call {callee:=.value _,args,..}=>(match args.toList with| .tmp q::_=>(an.sb q).toList|_=>[])
 |_=>[]
def pJ (an:An)(o:Oper):Bool:=
 match o.op with
 | .move _=>true
 | .load ..=>(match o.dst with|some d=> !an.mv.contains d||(an.mb d).isSome|none=>false)||Io an o
 | .extract (.tmp _) _=>true
 | .store _ (.tmp p) _=>(an.sb p).isSome&& !DE an o
 | .assign _=> !DE an o
 | .pick ..| .alloc _| .box ..| .nilCheck _| .binOp ..| .unOp ..| .fieldAddr ..| .indexAddr ..| .index ..| .build ..| .buildSlice ..| .makeSlice ..| .convert ..=>true
 | .slice _ _ _ _ none=> !Ir an o
 | .call {callee:=.builtin .len,..}| .call {callee:=.builtin .min,..}| .call {callee:=.builtin .max,..}| .call {callee:=.builtin .append,..}=>true
 | .call {callee:=.value _,..}=>true
 |_=>false
def writes (an:An)(o:Oper):fi:=o.dst.toList++(bif Iq an o then eK o else [])
def AV.now (ep:Nat):AV->Bool
 | .val _ cs=>cs.all (AC.now ep)
 | .yY _=>true
def AC.mX:AC->Bool
 | .int ..=>true
 | .bool _=>true
 | .str _=>true
 | .fn _=>true
 | .ptr ..=>true
 |_=>false
def AV.mX:AV->Bool
 | .val _ cs=>cs.all AC.mX
 | .yY _=>false
def HD (E:Env)(T:TypeId)(st:AS)(s off:Nat):Bool:=
 match kl E.ty T,(nth st.boxes s).getD none with
 |some sh,some cs=>((cs.drop off).take sh.ct.size).all AC.mX
 |_,_=>false
def fmB (an:An)(o:Oper):Bool:=match o.dst with|some d=>an.fm.contains d|none=>false
def E6 (an:An)(o:Oper):Bool:=
 match o.op,o.dst,o.guard with
 | .load _ (.tmp _),some d,none=>an.mv.contains d&&(an.mb d).isSome
 |_,_,_=>false
def QB (an:An)(o:Oper):Bool:=
 match o.op,o.dst,o.guard with
 | .load _ (.tmp _),some d,none=> !an.mv.contains d&&an.fm.contains d
 |_,_,_=>false
def erS (an:An)(o:Oper):fi:=
 match o.op,o.dst with
 | .load ..,some d=>(an.er d).toList
 | .call {callee:=.value _,..},some d=>(an.er d).toList
 |_,_=>[]
def AC.aiO (l:fi):AC->Bool
 | .sl (.loc _ (some (.slot b _,_))) _ _=>l.contains b
 | .sl (.loc _ _) _ _=>false
 |_=>true
def L1 (l:fi)(st:AS):Operand->Bool
 | .tmp t=>(match st.get t with| .val _ cs=>cs.all (AC.aiO l)| .yY _=>true)
 |_=>true
def agX (an:An)(X l:fi)(st:AS)(xs:ax Operand)(q:Nat):AV->Bool
 | .val false [.ptr s _]=> !X.contains s&&an.sb q==some s&&(match (nth st.boxes s).getD none with|some cs=>cs.all AC.KN|none=>true)&&xs.all (L1 l st)
 |_=>true
def AV.adg:AV->Bool
 | .val false [.ptr _ _]=>false
 |_=>true
def wo (an:An)(X l:fi)(st:AS):ax Operand->Bool
 | .tmp q::xs=>agX an X l st xs q (st.rd (.tmp q))
 |x::_=>(st.rd x).adg
 |[]=>true
def eo (E:Env)(an:An)(X:fi)(o:Oper)(st:AS):Bool:=
 match o.op with
 | .move x=> !fmB an o||(st.rd x).mX
 | .indexAddr _ x _=>(st.rd x).now st.ep||(match st.rd x with| .val _ [.sl (.loc _ (some (.box b _,_))) _ _]=> !X.contains b|_=>false)
 | .slice _ x _ _ none=>(st.rd x).now st.ep
 | .call {callee:=.value _,args,..}=>wo an X (erS an o) st args.toList&&args.toList.all λx=>(st.rd x).now st.ep
 | .load T p=>match st.rd p with
   | .val false [.ptr s off]=> !X.contains s&&(match o.dst with|some d=> !an.mv.contains d||an.mb d==some s|none=>true)&&(!fmB an o||HD E T st s off)
   | .val false [.Ef fl _ _ _ _]=>(fl.live st.ep||(match fl with
     | .loc _ (some (.slot b _,_))=>(erS an o).contains b
     | .loc _ (some (.box b _,_))=> !X.contains b
     |_=>false))&& !(fmB an o||E6 an o)&& !Ev an o&&(!Io an o||(match p,fl with
     | .tmp q,.loc _ (some (.box b _,_))=>an.eb q==some b&& !X.contains b
     |_,_=>false))
   |_=> !(fmB an o||E6 an o)
 | .store _ (.tmp p) _=>((an.sb p).isNone&&(an.eb p).isNone&&(an.es p).isNone)||(match st.rd (.tmp p)with
   | .val false [.ptr s _]=> !X.contains s&&an.sb p==some s
   | .val false [.Ef (.loc _ (some (.box b _,_))) _ _ _ _]=>an.eb p==some b&&(an.sb p).isNone&&(an.es p).isNone
   | .val false [.Ef (.loc _ (some (.slot b _,_))) _ _ _ _]=>an.es p==some b&&(an.sb p).isNone&&(an.eb p).isNone
   |_=>false)
 | .extract (.tmp t) i=>match st.get t with
   | .yY vs=>match nth vs i with|some x=>x.2.all AC.kB||(match o.dst with|some d=>an.mv.contains d|none=>false)|none=>true
   |_=>true
 |_=>true
def HH (an:An)(ops:ax Oper)(o:Oper):fi:=
 (match o.guard with
 |some (j,_)=>((nth ops j).bind (·.dst)).toList
 |none=>[])++erS an o
def meets (a b:fi):Bool:=a.any λx=>b.contains x
def aah (an:An)(ops:ax Oper)(X Y:fi)(o p:Oper):Bool:=
 pJ an o&&pJ an p&& !meets (writes an o) (eK p++HH an ops p++writes an p)&& !meets (writes an p) (eK o++HH an ops o)&&
 (It an o).all (λd=>Y.contains d)&&(It an p).all (λd=>X.contains d)&& !meets (It an o) (p.dst.toList++It an p)&& !meets (It an p) o.dst.toList
def aaI (o p:Oper):Bool:=
 match o.op,p.op,o.dst,p.dst,o.guard,p.guard with
 | .extract (.tmp t) i,.extract (.tmp t') j,some d,some d',none,none=>t==t'&& !(i==j)&& !(d==d')&& !(d==t)&& !(d'==t)
 |_,_,_,_,_,_=>false
def aaF (an:An)(o p:Oper):Bool:=
 match p.op,p.dst,p.guard with
 | .store _ (.tmp q) (.tmp x),none,none=>((an.eb q).isSome&&(an.es q).isNone||(match an.es q with|some b=>(an.eb q).isNone&& !(b==x)&& !(b==q)&& !meets [b] (o.dst.toList++eK o)|none=>false))&&(an.sb q).isNone&& !DE an p&&(match o.op,o.dst,o.guard with
   | .move (.tmp t),some d,none=> !an.mv.contains d&&an.fm.contains d&& !(d==q)&& !(d==x)&& !(t==x)&& !(t==q)&& !(d==t)
   | .extract (.tmp t) _,some d,none=> !(d==q)&& !(d==x)&& !(t==x)&& !(t==q)&& !(d==t)
   |_,_,_=>false)
 |_,_,_=>false
def abu (an:An)(o p:Oper):Bool:=
 (E6 an o&&QB an p||QB an o&&E6 an p)&& !meets o.dst.toList (p.dst.toList++eK p)&& !meets p.dst.toList (eK o)
def aat (an:An)(o p:Oper):Bool:=Ev an o&&Io an p&& !meets o.dst.toList (p.dst.toList++eK p)&& !meets p.dst.toList (eK o)
def ait (an:An)(o p:Oper):Bool:=aaI o p||aaF an o p||abu an o p||aat an o p
def PY (an:An)(ops:ax Oper)(X Y:fi)(o p:Oper):Bool:=ait an o p||aah an ops X Y o p
def Ew (o:Oper):fi:=(o.after.toList.filter (λe=>Region.binds .any e)).map (·.on)
def WX (a b:fi):fi:=a.foldl (λs x=>bif s.contains x then s else x::s) b
def Xl:ax Oper->ax fi->ax fi
 |[],acc=>acc
 |o::r,acc=>Xl r (acc++[(Ew o).foldl (λs j=>WX (j::(nth acc j).getD []) s) []])
def afr (A:ax fi)(i k:Nat):Bool:=((nth A i).getD []).contains k
def acM (an:An)(A:ax fi)(i:Nat)(fl pl:Bool):Nat->ax Oper->fi
 |_,[]=>[]
 |k,o::r=>(bif !afr A i k&& !afr A k i&& !(k==i)&& !(fl&&E6 an o)&& !(pl&&Io an o) then It an o else [])++acM an A i fl pl (k+1) r
def vB (an:An)(A:ax fi)(i k:Nat)(ops:ax Oper):fi:=acM an A i (match nth ops i with|some o=>QB an o|none=>false) (match nth ops i with|some o=>Ev an o|none=>false) k ops
def Rx (an:An)(ops:ax Oper)(A:ax fi)(i:Nat)(oi:Oper):Nat->ax Oper->Bool
 |_,[]=>true
 |j,oj::r=>bif Nat.ble i j then true else(afr A i j||PY an ops (vB an A j 0 ops) (vB an A i 0 ops) oj oi)&&Rx an ops A i oi (j+1) r
def Ws (an:An)(ops:ax Oper)(A:ax fi):Nat->ax Oper->Bool
 |_,[]=>true
 |i,oi::r=>(Ew oi).all (λk=>Nat.blt k i)&&Rx an ops A i oi 0 ops&&Ws an ops A (i+1) r
def Xz (an:An)(ops:ax Oper):Bool:=Ws an ops (Xl ops []) 0 ops
inductive Ex where
 |normal|ret|exit (id:Nat)
inductive FK where
 |own (tag:Option Nat)|arg|ajo|loc|lio (j t:Nat)|nil
def FK.flag:FK->tu
 | .own t=> .own t
 | .arg=> .arg false
 | .ajo=> .arg true
 | .loc=> .loc 0 none
 | .lio j t=> .loc 0 (some (.io j,t))
 | .nil=> .arg false
def FK.isNil:FK->Bool
 | .nil=>true
 |_=>false
inductive FT where
 |int (k:IntKind)|bool|str|sl (fl:FK) (e:CT)|pair (a b:FT)
abbrev FT.ct:FT->CT
 | .int k=> .int k
 | .bool=> .bool
 | .str=> .str
 | .sl _ e=> .sl e
 | .pair a b=> .pair a.ct b.ct
def ks:(t:FT)->t.ct.D->ax AC
 | .int k,n=>[.int k n]
 | .bool,b=>[.bool b]
 | .str,s=>[.str s]
 | .sl fl e,xs=>[bif fl.isNil then .kS else .sl fl.flag e xs]
 | .pair a b,x=>ks a x.1++ks b x.2
def FK.fits:FK->tu->Bool
 | .own t,.own t'=>t==t'
 | .arg,.arg k=> !k
 | .ajo,.arg k=>k
 | .loc,.loc 0 none=>true
 | .lio j t,.loc 0 (some (.io j',t'))=>j==j'&&t==t'
 |_,_=>false
def PA:(t:FT)->ax AC->aA (t.ct.D×ax AC)
 | .int k,.int k' n::r=>if k'=k then some (n,r) else none
 | .bool,.bool b::r=>some (b,r)
 | .str,.str s::r=>some (s,r)
 | .sl fl e,.sl fl' e' xs::r=>if h:e'=e then bif fl.fits fl' then some (h▸xs,r) else none else none
 | .sl fl _,.kS::r=>bif fl.isNil then some ([],r) else none
 | .pair a b,cs=>(PA a cs).bind λx=>(PA b x.2).bind λy=>some ((x.1,y.1),y.2)
 |_,_=>none
inductive PD where
 |bot|ptr (s off:Nat)|fn (f:Nat)|data (g:Bool) (t:FT)
inductive IoD where
 |none|some (t:FT)|ptr
structure SD where
 slots:List PD
 boxes:List (Option FT)
 io:IoD:=.none
abbrev GD:ax PD->Type
 |[]=>Unit
 | .data _ t::r=>t.ct.D×GD r
 |_::r=>GD r
abbrev F5:ax (aA FT)->Type
 |[]=>Unit
 |some t::r=>t.ct.D×F5 r
 |none::r=>F5 r
abbrev ioD:IoD->Type
 | .none=>Unit
 | .some t=>t.ct.D
 | .ptr=>Unit
abbrev SD.D (d:SD):Type:=GD d.slots×F5 d.boxes×ioD d.io
def vD:(l:ax PD)->GD l->ax AV
 |[],_=>[]
 | .data g t::r,x=> .val g (ks t x.1)::vD r x.2
 | .bot::r,x=> .bot::vD r x
 | .ptr s off::r,x=> .one (.ptr s off)::vD r x
 | .fn f::r,x=> .one (.fn f)::vD r x
def Fg:(l:ax (aA FT))->F5 l->ax (aA (ax AC))
 |[],_=>[]
 |some t::r,x=>some (ks t x.1)::Fg r x.2
 |none::r,x=>none::Fg r x
def ag3:(o:IoD)->ioD o->ax AC
 | .none,_=>[]
 | .some t,x=>ks t x
 | .ptr,_=>[.ptr 0 0]
def SD.enc (d:SD)(x:d.D):AS:=⟨vD d.slots x.1,Fg d.boxes x.2.1,0,List.replicate d.slots.length false,ag3 d.io x.2.2⟩
def AV.ac8:AV->Bool
 | .val false [.bot]=>true
 |_=>false
def AV.ac9 (s off:Nat):AV->Bool
 | .val false [.ptr s' as7]=>s==s'&&off==as7
 |_=>false
def AV.aeR (f:Nat):AV->Bool
 | .val false [.fn f']=>f==f'
 |_=>false
def lK:(l:ax PD)->ax AV->aA (GD l)
 |[],[]=>some ()
 | .data g t::r,.val g' cs::vs=>bif g==g' then(match PA t cs with|some (x,[])=>(lK r vs).bind λy=>some (x,y)|_=>none) else none
 | .bot::r,v::vs=>bif v.ac8 then lK r vs else none
 | .ptr s off::r,v::vs=>bif v.ac9 s off then lK r vs else none
 | .fn f::r,v::vs=>bif v.aeR f then lK r vs else none
 |_,_=>none
def tA:(l:ax (aA FT))->ax (aA (ax AC))->aA (F5 l)
 |[],[]=>some ()
 |some t::r,some cs::bs=>match PA t cs with|some (x,[])=>(tA r bs).bind λy=>some (x,y)|_=>none
 |none::r,none::bs=>tA r bs
 |_,_=>none
def abl:ax AC->Bool
 |[.ptr 0 0]=>true
 |_=>false
def Xx:(o:IoD)->ax AC->aA (ioD o)
 | .none,[]=>some ()
 | .some t,cs=>match PA t cs with|some (x,[])=>some x|_=>none
 | .ptr,cs=>bif abl cs then some () else none
 |_,_=>none
def SD.dec (d:SD)(st:AS):aA d.D:=
 bif st.ep==0&&st.iss==List.replicate d.slots.length false then
  (lK d.slots st.slots).bind λx=>(tA d.boxes st.boxes).bind λy=>(Xx d.io st.io).bind λz=>some (x,y,z)
 else none
structure MI where
 sd:SD
 run:{R:Type}->sd.D->(Ex->AS->Option R)->Option R
abbrev Hg:=Nat->MI
def MI.go {R:Type}(l:MI)(st:AS)(K:Ex->AS->aA R):aA R:=aa (l.sd.dec st) λx=>l.run x K
def MI.none:MI:=⟨⟨[],[],.none⟩,λ_ _=>Option.none⟩
def Hg.nil:Hg:=λ_=>MI.none
def Hg.add (Λ:Hg)(k:Nat)(l:MI):Hg:=λj=>bif j==k then l else Λ j
section
variable {R:Type} (E:Env) (Γ:zu) (an:An)
def FF (o:Oper)(x:Operand)(st:AS)(K:AS->aA R):aA R:=
 match o.dst with
 |some d=>if an.mv.contains d then K ((st.take x).2.put o.dst (st.take x).1) else K (st.put o.dst (st.rd x))
 |none=>none
def xK (o:Oper)(x:Operand)(st:AS)(K:AS->aA R):aA R:=
 match st.take x with
 |(.val false [.kS],_)=>match E.sl o.type with
  |some e=>K (st.put o.dst (.one (bif anc an o then .kS else .sl (.own none) e [])))
  |none=>none
 |(v,cp)=>K (cp.put o.dst v)
def H4 (o:Oper)(c a b:Operand)(st:AS)(K:AS->aA R):aA R:=
 match st.rd c with
 | .val false [.bool t]=>match st.rd a,st.rd b with
   | .val false [.bool x],.val false [.bool y]=>K (st.put o.dst (.one (.bool (cond t x y))))
   |va,vb=>cond t (K (st.put o.dst va)) (K (st.put o.dst vb))
 |_=>none
def F2 (o:Oper)(T:TypeId)(st:AS)(K:AS->aA R):aA R:=
 match o.dst,kl E.ty T with
 |some d,some sh=>match nth st.boxes d with
  |some none=>K ((st.fQ d (some (cellsOf sh.ct (.own none) sh.ct.zero))).put o.dst (.one (.ptr d 0)))
  |_=>none
 |_,_=>none
def Vy (o:Oper)(x:Operand)(st:AS)(K:AS->aA R):aA R:=
 match o.dst,st.take x with
 |some d,(.val _ cs,cp)=>
  match nth cp.boxes d with
  |some none=>if cs.all AC.L5 then K ((cp.fQ d (some cs)).put o.dst (.one (.ptr d 0))) else none
  |_=>none
 |_,_=>none
def Wo (ep:Nat)(r:mw)(t:Nat)(e:CT)(i:Int):Nat->ax AC->ax AC
 |_,[]=>[]
 |p,.sl _ e' xs::cs=> .sl (.nest ep r t e i p) e' xs::Wo ep r t e i (p+1) cs
 |p,c::cs=>c::Wo ep r t e i (p+1) cs
def aid (o:Oper)(ep:Nat)(fl:tu)(e:CT)(i:Int)(off:Nat)(cs:ax AC):ax AC:=
 match fl,o.dst with
 | .loc _ (some (r,t)),some d=>bif an.nest.contains d then Wo ep r t e i off cs else cs
 |_,_=>cs
def GO (o:Oper)(sh:Shape)(fl:tu)(e:CT)(i:Int)(off:Nat)(st:AS)(K:AS->aA R):aA R:=
 match fl with
 | .loc _ (some (r,t))=>
   match st.fU r with
   |some (.sl (.own (some t')) e' ys)=>
    if h:e'=e then
     if t'=t/\off+sh.ct.size<=e.size then
      aa (idx (h▸ys:ax e.D) i) λy=>K (st.put o.dst (.val sh.agg (((cellsOf e (.loc st.ep none) y).drop off).take sh.ct.size)))
     else none
    else none
   |_=>none
 |_=>none
def Bz (o:Oper)(sh:Shape)(fl:tu)(e:CT)(i:Int)(off:Nat)(st:AS)(K:AS->aA R):aA R:=
 match fl with
 | .loc _ (some (r,t))=>
   match st.fU r with
   |some (.sl (.own (some t')) e' ys)=>
    if h:e'=e then
     if t'=t/\off=0/\sh.ct=e then
      aa (idx (h▸ys:ax e.D) i) λy=>K ((st.gj r (.sl (.gr (some t) i (some st.ep)) e (h▸ys))).put o.dst (.val sh.agg (cellsOf e (.own none) y)))
     else none
    else none
   |_=>none
 |_=>none
def rp (o:Oper)(T:TypeId)(p:Operand)(st:AS)(K:AS->aA R):aA R:=
 match kl E.ty T,st.rd p with
 |some sh,.val false [.ptr s off]=>
  match (nth st.boxes s).getD none with
  |some cs=>
   if off+sh.ct.size<=cs.length then
    match o.dst with
    |some d=>
     if an.mv.contains d then
      K ((st.fQ s (some (fC cs off (bh st.ep ((cs.drop off).take sh.ct.size))))).put o.dst (.val sh.agg ((cs.drop off).take sh.ct.size)))
     else K (st.put o.dst (.val sh.agg (jO st.ep (.box s) off ((cs.drop off).take sh.ct.size))))
    |none=>none
   else none
  |none=>none
 |some sh,.val false [.Ef fl e x i off]=>
  if Ir an o then Bz o sh fl e i off st K
  else if fl.live st.ep then
   if off+sh.ct.size<=e.size then K (st.put o.dst (.val sh.agg (aid an o st.ep fl e i off (((cellsOf e fl.bare x).drop off).take sh.ct.size)))) else none
  else GO o sh fl e i off st K
 |_,_=>none
def zY (T:TypeId)(p x:Operand)(st:AS)(K:AS->aA R):aA R:=
 match kl E.ty T,st.rd p with
 |some sh,.val false [.ptr s off]=>
  match st.take x with
  |(.val _ vs,cp)=>
   match (nth cp.boxes s).getD none with
   |some cs=>
    if vs.length=sh.ct.size/\vs.all AC.L5 then
     if off+sh.ct.size<=cs.length then K (cp.fQ s (some (fC cs off vs))) else none
    else none
   |none=>none
  |_=>none
 |some sh,.val false [.Ef (.loc _ (some (r,t))) e _ i off]=>
  match st.take x with
  |(.val _ vs,cp)=>
   if vs.length=sh.ct.size/\off+sh.ct.size<=e.size then cp.rO r t e i off vs K else none
  |_=>none
 |_,_=>none
def Di (o:Oper)(S:TypeId)(p:Operand)(f:Nat)(st:AS)(K:AS->aA R):aA R:=
 match kl E.ty S,st.rd p with
 |some ⟨true,_,lE⟩,.val false [.ptr s off]=>match nth lE f with|some (fo,_)=>K (st.put o.dst (.one (.ptr s (off+fo))))|none=>none
 |some ⟨true,_,lE⟩,.val false [.Ef fl e x i off]=>match nth lE f with|some (fo,_)=>K (st.put o.dst (.one (.Ef fl e x i (off+fo))))|none=>none
 |_,_=>none
def oy (o:Oper)(T:TypeId)(x i:Operand)(st:AS)(K:AS->aA R):aA R:=
 match E.sl T,(st.rd x).fresh st,st.rd i with
 |some e',.val false [.sl fl e xs],.val false [.int _ n]=>
  if e'=e/\fl.live st.ep then aa (idx xs n) λy=>K (st.put o.dst (.one (.Ef fl e y n 0))) else none
 |_,_,_=>none
def EX (o:Oper)(T:TypeId)(x i:Operand)(st:AS)(K:AS->aA R):aA R:=
 match st.rd x,st.rd i with
 | .val false [.str s],.val false [.int _ n]=>if E.str T then aa (idx s n) λb=>K (st.put o.dst (.one (.int .u8 b.toNat))) else none
 |_,_=>none
def EO (o:Oper)(T:TypeId)(parts:ax (Nat×Operand))(st:AS)(K:AS->aA R):aA R:=
 match kl E.ty T with
 |some ⟨true,ct,lE⟩=>
  match fV st (parts.map (·.2))with
  |(vs,cp)=>
   match zD lE (cellsOf ct (.own none) ct.zero) ((parts.map (·.1)).zip (vs.map AV.cells))with
   |some cs=>K (cp.put o.dst (.val true cs))
   |none=>none
 |_=>none
def nC (o:Oper)(T:TypeId)(len:Nat)(parts:ax (Nat×Operand))(st:AS)(K:AS->aA R):aA R:=
 match E.sl T with
 |some e=>
  if parts.length=len/\Lq 0 parts/\len<=1000 then
   match fV st (parts.map (·.2))with
   |(vs,cp)=>
    match FD e (vs.map AV.cells)with
    |some xs=>K (cp.sC o.dst e xs)
    |none=>none
  else none
 |none=>none
def qJ (o:Oper)(T:TypeId)(n c:Operand)(st:AS)(K:AS->aA R):aA R:=
 match E.sl T,st.rd n,st.rd c with
 |some e,.val false [.int .i64 len],.val false [.int .i64 cap]=>
  if 0<=len/\len<=cap then room cap.toNat (K (st.sC o.dst e (List.replicate len.toNat e.zero))) else none
 |_,_,_=>none
def oN (st:AS)(lo hi:aA Operand)(n:Nat)(K:Int->Int->aA R):aA R:=
 match lo.map st.rd,hi.map st.rd with
 |none,none=>K 0 n
 |some (.val false [.int _ a]),none=>K a n
 |none,some (.val false [.int _ b])=>K 0 b
 |some (.val false [.int _ a]),some (.val false [.int _ b])=>K a b
 |_,_=>none
def zQ (o:Oper)(T:TypeId)(x:Operand)(lo hi:aA Operand)(st:AS)(K:AS->aA R):aA R:=
 match st.take x,lo.map st.rd,hi with
 |(.val false [.sl (.own _) e xs],cp),some (.val false [.int _ a]),none=>
  if E.sl T=some e then aa (sub xs a xs.length) λSE=>K (cp.sC o.dst e SE) else none
 |_,_,_=>none
def Ry (o:Oper)(fl:tu)(a:Int):tu:=
 match fl,o.dst with
 | .loc ep (some (r,t)),some d=>bif an.nest.contains d then .part ep r t a else .loc ep none
 |fl,_=>fl.bare
def DN (o:Oper)(T:TypeId)(x:Operand)(lo hi:aA Operand)(st:AS)(K:AS->aA R):aA R:=
 if Ir an o then zQ E o T x lo hi st K else
 match (st.rd x).fresh st with
 | .val false [.str s]=>if E.str T then oN st lo hi s.length λa b=>aa (sub s a b) λs'=>K (st.put o.dst (.one (.str s'))) else none
 | .val false [.sl fl e xs]=>
   if E.sl T=some e/\fl.live st.ep then oN st lo hi xs.length λa b=>aa (sub xs a b) λSE=>K (st.put o.dst (.one (.sl (Ry an o fl a) e SE))) else none
 |_=>none
def nD (o:Oper)(src dst:TypeId)(x:Operand)(st:AS)(K:AS->aA R):aA R:=
 match kl E.ty src,kl E.ty dst,st.rd x with
 |some _,some ⟨false,.int k,_⟩,.val false [.int _ n]=>K (st.put o.dst (.one (.int k (k.wrap n))))
 |some ⟨false,.str,_⟩,some ⟨false,.str,_⟩,.val false [.str s]=>K (st.put o.dst (.one (.str s)))
 |some ⟨false,.str,_⟩,some _,.val false [.str s]=>
  if E.bytes dst then room s.length (K (st.sC o.dst (.int .u8) (dW s))) else none
 |some _,some ⟨false,.str,_⟩,.val false [.sl fl (.int .u8) xs]=>
  if E.bytes src/\fl.live st.ep then K (st.put o.dst (.one (.str (aR xs)))) else none
 |_,_,_=>none
def nG (o:Oper)(t i:Nat)(st:AS)(K:AS->aA R):aA R:=
 match st.get t with
 | .yY vs=>match nth vs i with
   |some (g,cs)=>K ((st.put (some t) (.yY (jm vs i (g,bh 0 cs)))).put o.dst (.val g cs))
   |none=>none
 |_=>none
def Rj (o:Oper)(ts:ax TypeId)(args:ax Operand)(st:AS)(K:AS->aA R):aA R:=
 match ts,args.map st.rd with
 |[t],[.val false [.str s]]=>if E.str t then K (st.put o.dst (.one (.int .i64 s.length))) else none
 |[t],[.val false [.sl _ _ xs]]=>if(E.sl t).isSome then K (st.put o.dst (.one (.int .i64 xs.length))) else none
 |_,_=>none
def S6 (o:Oper)(args:ax Operand)(st:AS)(K:AS->aA R):aA R:=
 match args.map st.rd with
 |[.val false [.int k x],.val false [.int _ y]]=>K (st.put o.dst (.one (.int k (if y<x then y else x))))
 |_=>none
def S5 (o:Oper)(args:ax Operand)(st:AS)(K:AS->aA R):aA R:=
 match args.map st.rd with
 |[.val false [.int k x],.val false [.int _ y]]=>K (st.put o.dst (.one (.int k (if y>x then y else x))))
 |_=>none
def TE (o:Oper)(ts:ax TypeId)(args:ax Operand)(st:AS)(K:AS->aA R):aA R:=
 match ts,args.map st.rd with
 |[t,t'],[.val false [.sl (.part ep r tg lo) e xs],.val false [.str s]]=>
  match st.fU r with
  |some (.sl (.own (some tg')) e' ys)=>
   if h:e'=.int .u8 then
    if e=.int .u8/\E.sl t=some (.int .u8)/\E.str t'=true/\ep=st.ep/\tg'=tg then
     K ({st.gj r (.sl (.own (some tg)) (.int .u8) (FG (h▸ys:ax (CT.int .u8).D) lo.toNat (dW (s.take xs.length))))with ep:=st.ep+1}.put o.dst (.one (.int .i64 (min xs.length s.length:Nat))))
    else none
   else none
  |_=>none
 |_,_=>none
def IG (o:Oper)(S:TypeId)(t f:Nat)(st:AS)(K:AS->aA R):aA R:=
 match kl E.ty S,st.get t,YE E.fts S f with
 |some ⟨true,ct,lE⟩,.val true cs,some T=>
  match nth lE f,kl E.ty T with
  |some (fo,n),some sh=>
   if n=sh.ct.size/\cs.length=ct.size/\fo+n<=cs.length then
    K ((st.put (some t) (.val true (fC cs fo (bh st.ep ((cs.drop fo).take n))))).put o.dst (.val sh.agg ((cs.drop fo).take n)))
   else none
  |_,_=>none
 |_,_,_=>none
def Af (o:Oper)(ts:ax TypeId)(args:ax Operand)(st:AS)(K:AS->aA R):aA R:=
 match ts,args with
 |[t,t'],[s,x]=>
  match st.take s with
  |(.val false [.sl (.own _) e xs],st1)=>
   match st1.take x with
   |(.val false [.sl fl e' ys],st2)=>
    if h:e'=e then
     if E.sl t=some e/\E.sl t'=some e/\fl.nI st.ep e.flat then
      room (xs.length+ys.length) (K (st2.sC o.dst e (xs++(h▸ys:ax e.D))))
     else none
    else none
   |(.val false [.str s],st2)=>
    if h:e=.int .u8 then
     if E.sl t=some e/\E.str t' then room (xs.length+s.length) (K (st2.sC o.dst (.int .u8) ((h▸xs:ax (CT.int .u8).D)++dW s))) else none
    else none
   |_=>none
  |_=>none
 |_,_=>none
def TZ:Nat->ax AC->aA (mw×Nat)
 |_,[]=>none
 |j,.sl (.loc _ (some (r,_))) _ _::_=>some (r,j)
 |j,_::cs=>TZ (j+1) cs
def mw.pos:mw->Nat
 | .slot _ j=>j
 | .box _ j=>j
 | .io j=>j
def AS.LH (st:AS):mw->aA (ax AC)
 | .slot s _=>match st.get s with| .val _ cs=>some cs|_=>none
 | .box s _=>(nth st.boxes s).getD none
 | .io _=>some st.io
def AS.Ic (st:AS)(r:mw)(cs:ax AC):AS:=
 match r with
 | .slot s _=>match st.get s with| .val g _=>st.put (some s) (.val g cs)|_=>st
 | .box s _=>st.fQ s (some cs)
 | .io _=>{st with io:=cs}
def pN:ax AC->ax AC->aA (ax AC)
 |[],[]=>some []
 | .sl (.loc _ (some (_,t))) _ _::os,.sl (.own (some t')) e xs::ss=>bif t'==t then(pN os ss).bind λr=>some (.sl (.own none) e xs::r) else none
 | .int k n::os,.int _ _::ss=>(pN os ss).bind λr=>some (.int k n::r)
 | .bool b::os,.bool _::ss=>(pN os ss).bind λr=>some (.bool b::r)
 | .str x::os,.str _::ss=>(pN os ss).bind λr=>some (.str x::r)
 |_,_=>none
def AV.kB:AV->Bool
 | .val _ cs=>cs.all AC.kB
 | .yY vs=>vs.all λx=>x.2.all AC.kB
def VC (st:AS)(x:Operand):aA (AV×AS):=
 match st.rd x with
 | .val g cs=>
   match TZ 0 cs with
   |some (r,j)=>
    match st.LH r with
    |some csO=>
     match pN cs ((csO.drop (r.pos-j)).take cs.length)with
     |some tr=>some (.val g tr,st.Ic r (fC csO (r.pos-j) (bh st.ep ((csO.drop (r.pos-j)).take cs.length))))
     |none=>none
    |none=>none
   |none=>none
 |_=>none
def Us (o:Oper)(x:Operand)(st:AS)(K:AS->aA R):aA R:=
 match VC st x with
 |some (v,cp)=>K (cp.put o.dst v)
 |none=>none
def zZ (T:TypeId)(p x:Operand)(st:AS)(K:AS->aA R):aA R:=
 match kl E.ty T,st.rd p with
 |some sh,.val false [.ptr s off]=>
  match VC st x with
  |some (.val _ vs,cp)=>
   match (nth cp.boxes s).getD none with
   |some cs=>
    if vs.length=sh.ct.size/\vs.all AC.L5 then
     if off+sh.ct.size<=cs.length then K (cp.fQ s (some (fC cs off vs))) else none
    else none
   |none=>none
  |_=>none
 |_,_=>none
def AC.strip:AC->AC
 | .sl (.own _) e xs=> .sl (.own none) e xs
 | .sl (.loc _ _) _ _=> .bot
 | .sl (.nest ..) _ _=> .bot
 | .sl (.part ..) _ _=> .bot
 | .sl (.gr _ i _) e xs=> .sl (.gr none i none) e xs
 | .ptr _ _=> .bot
 | .Ef _ _ _ _ _=> .bot
 |c=>c
def AC.abj:AC->Bool
 | .sl (.own _) _ _=>true
 |c=>c.kB
def AC.BX (k:Bool):AC->Bool
 | .sl (.own _) _ _=>true
 | .sl (.arg k') _ _=>k'==k
 |c=>c.kB
def AC.WT:AC->AC
 | .sl (.own _) e xs=> .sl (.own none) e xs
 | .sl (.arg _) e xs=> .sl (.arg true) e xs
 |c=>c.strip
def AC.ald (k:Bool)(tag:aA Nat):AC->AC
 | .sl (.own _) e xs=> .sl (.own tag) e xs
 | .sl (.arg _) e xs=> .sl (.arg k) e xs
 |c=>c
def rV (k:Bool)(mk:Nat->aA Nat):Nat->ax AC->ax AC
 |_,[]=>[]
 |j,c::cs=>c.ald k (mk j)::rV k mk (j+1) cs
def G2 (cs:ax AC):Bool:=cs.any λc=>match c with| .sl (.arg k) _ _=>k|_=>false
def AC.MM:AC->Bool
 | .sl (.arg k) _ _=> !k
 |c=>c.kB
def AV.MM:AV->Bool
 | .val _ cs=>cs.all AC.MM
 | .yY _=>false
def AS.S4 (st:AS):AC->AC
 | .sl (.own _) e xs=> .sl (.arg false) e xs
 | .sl (.arg _) e xs=> .sl (.arg false) e xs
 | .sl (.loc _ (some (.slot b j,t))) _ _=>match st.fU (.slot b j)with
   |some (.sl (.own (some t')) e' ys)=>if t'=t then .sl (.arg false) e' ys else .bot
   |_=> .bot
 | .int k n=> .int k n
 | .bool b=> .bool b
 | .str s=> .str s
 | .fn f=> .fn f
 |_=> .bot
def Eu (st:AS):Operand->AV
 | .tmp t=>(match st.get t with| .val g cs=> .val g (cs.map st.S4)|v=>v)
 |x=>st.rd x
def FC (st:AS):Operand->Bool
 | .tmp t=>(match st.get t with| .val _ cs=>(cs.map st.S4).all AC.MM|_=>false)
 |x=>(st.rd x).kB
def AC.afj:AC->Bool
 | .sl (.own _) _ _=>true
 |c=>c.kB
def AV.afj:AV->Bool
 | .val _ cs=>cs.all AC.afj
 | .yY vs=>vs.all λx=>x.2.all AC.afj
def acL (st:AS)(s:Nat)(cs:ax AC):AS:={(st.fQ s (some cs)).gD (some s)with ep:=st.ep+1}
def xL (o:Oper)(f:Nat)(args:ax Operand)(st:AS)(K:AS->aA R):aA R:=
 match args with
 |x0::xs=>
  match st.rd x0 with
  | .val false [.ptr s 0]=>
    match (nth st.boxes s).getD none with
    |some cs=>
     bif cs.all (AC.BX (G2 cs))&&xs.all (FC st) then
      aa ((Γ f).fn (.val true (cs.map AC.WT)::xs.map (Eu st))) λy=>
       bif ((Γ f).back y).all (AC.BX true)&&((Γ f).av y).afj then
        bif (Γ f).cur&&cs.all AC.KN then
         K (((st.fQ s (some (rV (G2 cs) (λ_=>none) 0 ((Γ f).back y)))).gD o.dst).put o.dst (((Γ f).av y).G3 st.ep (st.jz o.dst)))
        else
        K (((acL st s (rV (G2 cs) (st.jz (some s)) 0 ((Γ f).back y))).gD o.dst).put o.dst
          (((Γ f).av y).G3 (st.ep+1) ((acL st s (rV (G2 cs) (st.jz (some s)) 0 ((Γ f).back y))).jz o.dst)))
       else none
     else none
    |none=>none
  |_=>none
 |[]=>none
def afk (o:Oper)(f:Nat)(args:ax Operand)(st:AS)(K:AS->aA R):aA R:=
 match o.dst with
 |some d=>
  match nth st.boxes d with
  |some none=>
   bif args.all (λx=>(st.rd x).MM) then
    aa ((Γ f).fn (args.map st.rd)) λy=>
     bif ((Γ f).back y).all AC.MM then K ((st.fQ d (some ((Γ f).back y))).put (some d) (.one (.ptr d 0))) else none
   else none
  |_=>none
 |none=>none
def G4 (o:Oper)(f:Operand)(args:ax Operand)(st:AS)(K:AS->aA R):aA R:=
 match st.rd f with
 | .val false [.fn f]=>
   bif (Γ f).bx then xL Γ o f args st K else
   bif (Γ f).pr then afk Γ o f args st K else
   bif (Γ f).io then none
   else aa ((Γ f).fn (args.map λx=>((st.rd x).fresh st).asArg st.ep)) λr=>cond ((Γ f).sel r) (K ((st.gD o.dst).put o.dst (((Γ f).av r).G3 st.ep (st.jz o.dst)))) (K ((st.gD o.dst).put o.dst (((Γ f).alt r).G3 st.ep (st.jz o.dst))))
 |_=>none
def G6 {R:Type}(op:BinOp)(b:Bool)(K:AC->aA R):aA R:=
 match op with
 | .eql=>K (.bool b)
 | .neq=>K (.bool (!b))
 |_=>none
def D9 (o:Oper)(op:BinOp)(T:TypeId)(x y:Operand)(st:AS)(K:AS->aA R):aA R:=
 match st.rd x,st.rd y with
 | .val false [.bool a],.val false [.bool b]=>if E.bool T then Jj op (.one (.bool a)) (.one (.bool b)) λc=>K (st.put o.dst (.one c)) else none
 | .val true xs,.val true ys=>match Uv E.eqs T with
   |some ls=>if fits ls xs then Jj op (.val true xs) (.val true ys) λc=>K (st.put o.dst (.one c)) else none
   |none=>none
 | .val false [.sl fl _ xs],.val false [.kS]=>if(E.sl T).isSome/\fl.live st.ep then(if xs.length=0 then none else G6 op false λc=>K (st.put o.dst (.one c))) else none
 | .val false [.kS],.val false [.kS]=>if(E.sl T).isSome then G6 op true λc=>K (st.put o.dst (.one c)) else none
 |a,b=>Jj op a b λc=>K (st.put o.dst (.one c))
def dM (o:Oper)(st:AS)(K:AS->aA R):aA R:=
 match o.op with
 | .move x=>FF an o x st K
 | .assign x=>if DE an o then Us o x st K else xK E an o x st K
 | .pick c a b=>H4 o c a b st K
 | .alloc T=>F2 E o T st K
 | .box _ x=>Vy o x st K
 | .load T p=>rp E an o T p st K
 | .store T p x=>match o.dst with|none=>(if DE an o then zZ E T p x st K else zY E T p x st K)|some _=>none
 | .nilCheck x=>
   match st.rd x with
   | .val false [.ptr s off]=>K (st.put o.dst (.one (.ptr s off)))
   | .val false [.Ef fl e y i off]=>K (st.put o.dst (.one (.Ef fl e y i off)))
   |_=>none
 | .binOp op T x y _=>D9 E o op T x y st K
 | .unOp op _ x=>unC op (st.rd x) λc=>K (st.put o.dst (.one c))
 | .fieldAddr S p f=>Di E o S p f st K
 | .indexAddr T x i=>oy E o T x i st K
 | .index T x i=>EX E o T x i st K
 | .build T parts=>EO E o T parts.toList st K
 | .buildSlice T len parts=>nC E o T len parts.toList st K
 | .makeSlice T n c=>qJ E o T n c st K
 | .slice T x lo hi none=>DN E an o T x lo hi st K
 | .field S (.tmp t) f=>IG E o S t f st K
 | .call {callee:=.builtin .copy,args,argTypes}=>TE E o argTypes.toList args.toList st K
 | .convert src dst x=>nD E o src dst x st K
 | .extract (.tmp t) i=>nG o t i st K
 | .call {callee:=.builtin .len,args,argTypes}=>Rj E o argTypes.toList args.toList st K
 | .call {callee:=.builtin .min,args,..}=>S6 o args.toList st K
 | .call {callee:=.builtin .max,args,..}=>S5 o args.toList st K
 | .call {callee:=.builtin .append,args,argTypes}=>Af E o argTypes.toList args.toList st K
 | .call {callee:=.value f,args,..}=>G4 Γ o f args.toList st K
 |_=>none
def iO (ops:ax Oper)(o:Oper)(st:AS)(K:AS->aA R):aA R:=
 match o.guard with
 |none=>dM E Γ an o st K
 |some (j,KE)=>
  match (nth ops j).bind (·.dst)with
  |some d=>
   match st.get d with
   | .val false [.bool b]=>
     let go (t:Bool):aA R:=
      if t==KE then dM E Γ an o (st.put (some d) (.one (.bool t))) K else K ((st.put (some d) (.one (.bool t))).put o.dst (.one .un))
     cond b (go true) (go false)
   | .val false [.un]=>K (st.put o.dst (.one .un))
   |_=>none
  |none=>none
def Wq (ops:ax Oper):ax Oper->AS->(AS->aA R)->aA R
 |[],st,K=>K st
 |o::r,st,K=>iO E Γ an ops o st λcp=>Wq ops r cp K
def eP:Code->Nat
 | .region id _ _=>id
 | .seq a _=>eP a
 | .block _ c=>eP c
 | .loop c=>eP c
 | .cond _ a b=>match eP a with|0=>eP b|n=>n
 |_=>0
def zG (c:Code):Nat:=1000000+2*eP c
def lZ (l:fi):Code->ax Code
 | .seq a b=>lZ l a++(bif l.contains (eP b) then b::lZ l b else lZ l b)
 | .cond _ a b=>lZ l a++lZ l b
 | .block _ c=>lZ l c
 | .loop c=>lZ l c
 |_=>[]
def Ec (l:fi)(fn:Func)(k:Nat):Code:=(nth (lZ l (fn.body.getD .skip)) k).getD .skip
def jD:Code->ax Code
 | .seq a b=>jD a++jD b
 | .cond _ a b=>jD a++jD b
 | .block _ c=>jD c
 | .loop c=>c::jD c
 |_=>[]
def iy (fn:Func)(k:Nat):Code:=(nth (jD (fn.body.getD .skip)) k).getD .skip
def Cr (j:Nat):Nat:=3*(4096*1000003+j)
def mw.Im:mw->aA Nat
 | .slot s j=>bif Nat.ble 4096 j then none else bif Nat.ble 1000000 s then none else some (3*(4096*s+j))
 | .box s j=>bif Nat.ble 4096 j then none else some (3*(4096*s+j)+1)
 | .io j=>bif Nat.ble 4096 j then none else some (Cr j)
def AC.ahW (io:ax AC)(j t:Nat)(e:CT):aA (ax e.D):=
 match nth io j with
 |some (.sl (.own (some t')) e' ys)=>if h:e'=e then bif t'==t then some (h▸ys) else none else none
 |_=>none
def AC.mask (iC:fi)(ep:Nat)(io:ax AC)(rt:mw):AC->AC
 | .ptr s off=>if iC.contains s then .ptr s off else .bot
 | .sl (.loc e pv) t xs=>
   match pv with
   |some (.io j,n)=>match AC.ahW io j n t with
    |some ys=> .sl (.loc 0 ((mw.Im (.io j)).map λq=>(.io j,q))) t ys
    |none=>if e==ep then .sl (.loc 0 none) t xs else .bot
   |_=>if e==ep then .sl (.loc 0 none) t xs else .bot
 | .sl (.own _) t xs=> .sl (.own rt.Im) t xs
 | .sl (.nest ..) _ _=> .bot
 | .sl (.part ..) _ _=> .bot
 | .sl (.gr _ i _) e xs=> .sl (.gr none i none) e xs
 | .Ef _ _ _ _ _=> .bot
 |c=>c
def Nj (iC:fi)(ep:Nat)(io:ax AC)(f:Nat->mw):Nat->ax AC->ax AC
 |_,[]=>[]
 |j,c::cs=>c.mask iC ep io (f j)::Nj iC ep io f (j+1) cs
def AV.mask (iC:fi)(ep:Nat)(io:ax AC)(s:Nat):AV->AV
 | .val g cs=> .val g (Nj iC ep io (.slot s) 0 cs)
 | .yY _=> .bot
def pH (iC:fi)(ep:Nat)(io:ax AC):Nat->ax AV->ax AV
 |_,[]=>[]
 |i,v::r=>(if iC.contains i then v.mask iC ep io i else .bot)::pH iC ep io (i+1) r
def pG (iC:fi)(ep:Nat)(io:ax AC):Nat->ax (aA (ax AC))->ax (aA (ax AC))
 |_,[]=>[]
 |i,b::r=>(if iC.contains i then b.map (Nj iC ep io (.box i) 0) else none)::pG iC ep io (i+1) r
def abB (iC:fi):Nat->ax AC->ax AC
 |_,[]=>[]
 |j,c::cs=>(match c with| .sl (.own _) e xs=> .sl (.own (mw.Im (.io j))) e xs| .sl (.gr _ i _) e xs=> .sl (.gr none i none) e xs| .ptr s off=>if iC.contains s then .ptr s off else .bot|c=>bif c.kB then c else .bot)::abB iC (j+1) cs
def AS.mask (iC:fi)(st:AS):AS:=
 ⟨pH iC st.ep st.io 0 st.slots,pG iC st.ep st.io 0 st.boxes,0,List.replicate st.slots.length false,abB iC 0 st.io⟩
def getBool (st:AS)(s:Nat):aA Bool:=
 match st.get s with
 | .val false [.bool b]=>some b
 |_=>none
def iR (an:An)(ds:fi)(o:Oper):Bool:=
 match o.op with
 | .assign (.const _)=> !DE an o
 | .assign (.tmp t)=>ds.contains t&& !DE an o
 | .move _| .load ..=>match o.dst with|some d=> !an.mv.contains d|none=>false
 | .slice ..=> !Ir an o
 | .pick ..| .binOp ..| .unOp ..| .fieldAddr ..| .indexAddr ..| .index ..| .nilCheck _=>true
 | .build _ ps=>ps.isEmpty
 | .call {callee:=.builtin .len,..}| .call {callee:=.builtin .min,..}| .call {callee:=.builtin .max,..}=>true
 | .call {callee:=.value _,..}=>true
 |_=>false
def J5 (ops:ax Oper):fi:=ops.filterMap (·.dst)
def AS.Ed (st:AS):fi->AS
 |[]=>st
 |d::r=>((st.put (some d) .bot).gD (some d)).Ed r
def Jr (ops:ax Oper)(A:ax fi):Nat->ax Oper->AS->(AS->aA R)->aA R
 |_,[],st,K=>K st
 |i,o::r,st,K=>bif eo E an (vB an A i 0 ops) o st then iO E Γ an ops o st λcp=>Jr ops A (i+1) r cp K else none
def HA (ops:ax Oper)(draw:Bool)(st:AS)(K:AS->aA R):aA R:=
 bif draw then(bif Xz an ops then Jr E Γ.KA an ops (Xl ops []) 0 ops st K else none) else Wq E Γ an ops ops st K
def Ww (id:Nat)(ops:ax Oper)(draw:Bool)(st:AS)(K:AS->aA R):aA R:=
 match an.merge id with
 |none=>HA E Γ an ops draw st K
 |some s=>
  if ops.all (iR an (J5 ops)) then
   aa (HA E Γ.calm an ops draw st λcp=>getBool cp s) λb=>K ((st.Ed (J5 ops)).put (some s) (.one (.bool b)))
  else none
def B7 (key:fi)(B:AS->(Ex->AS->aA R)->aA R):Nat->AS->(Ex->AS->aA R)->aA R
 |0,_,_=>none
 |m+1,st,K=>B st λe cp=>
  match e with
  | .normal=>B7 key B m (cp.mask key) K
  |e=>K e (cp.mask key)
def den (Λ:Hg):Code->AS->(Ex->AS->aA R)->aA R
 | .skip,st,K=>K .normal st
 | .region id ops draw,st,K=>Ww E Γ an id ops.toList draw st (K .normal)
 | .seq a b,st,K=>den Λ a st λe cp=>match e with
   | .normal=>bif an.cut.contains (eP b) then(Λ (zG b)).go (cp.mask (an.mask (zG b))) K else den Λ b cp K
   |e=>K e cp
 | .cond c a b,st,K=>
   match st.rd c with
   | .val false [.bool t]=>cond t (den Λ a st K) (den Λ b st K)
   |_=>none
 | .block id c,st,K=>den Λ c st λe cp=>
   match e with
   | .exit j=>if j==id then K .normal cp else K (.exit j) cp
   |e=>K e cp
 | .loop c,st,K=>
   bif an.peel.contains (eP c) then den Λ c (st.mask (an.mask (eP c))) λe cp=>
    match e with
    | .normal=>(Λ (eP c)).go (cp.mask (an.mask (eP c))) K
    |e=>K e (cp.mask (an.mask (eP c)))
   else(Λ (eP c)).go (st.mask (an.mask (eP c))) K
 | .exit id,st,K=>K (.exit id) st
 | .ret,st,K=>K .ret st
 |_,_,_=>none
end
def RQ (st:AS)(E:Env):ResultVar->aA ((Bool×Nat)×Bool×ax AC)
 | .tmp t=>match st.get t with| .val g cs=>some ((false,t),g,cs.map AC.strip)|_=>none
 | .cell t T=>match kl E.ty T,st.get t with
   |some sh,.val false [.ptr s off]=>((nth st.boxes s).getD none).bind λcs=>
    if off+sh.ct.size<=cs.length then some ((true,s),sh.agg,((cs.drop off).take sh.ct.size).map AC.strip) else none
   |_,_=>none
def qK (st:AS)(E:Env):ax (Bool×Nat)->ax ResultVar->aA (ax (Bool×ax AC))
 |_,[]=>some []
 |had,r::rs=>(RQ st E r).bind λx=>if had.contains x.1 then none else(qK st E (x.1::had) rs).bind λxs=>some (x.2::xs)
def results (E:Env)(rs:ax ResultVar)(st:AS):aA AV:=
 match qK st E [] rs with
 |some [(g,cs)]=>some (.val g cs)
 |some vs=>some (.yY vs)
 |none=>none
def qm (fn:Func)(args:ax AV):AS:=⟨args++List.replicate (fn.ntmps-args.length) .bot,List.replicate (args.length+(fn.ntmps-args.length)) none,0,List.replicate fn.ntmps false,[]⟩
abbrev jK:ax (Bool×FT)->Type
 |[]=>Unit
 |[(_,t)]=>t.ct.D
 |(_,t)::r=>t.ct.D×jK r
def lD:(l:ax (Bool×FT))->ax (Bool×ax AC)->aA (jK l)
 |[],[]=>some ()
 |[(g,t)],[(g',cs)]=>bif g==g' then(match PA t cs with|some (x,[])=>some x|_=>none) else none
 |(g,t)::p::r,(g',cs)::vs=>bif g==g' then(match PA t cs with|some (x,[])=>(lD (p::r) vs).bind λy=>some (x,y)|_=>none) else none
 |_,_=>none
def al8:(l:ax (Bool×FT))->jK l->ax (Bool×ax AC)
 |[],_=>[]
 |[(g,t)],x=>[(g,ks t x)]
 |(g,t)::p::r,x=>(g,ks t x.1)::al8 (p::r) x.2
def zC (l:ax (Bool×FT))(x:jK l):AV:=
 match al8 l x with
 |[(g,cs)]=> .val g cs
 |vs=> .yY vs
def HB (E:Env)(Γ:zu)(an:An)(Λ:Hg)(fn:Func)(rs:ax (Bool×FT))(args:ax AV):aA (jK rs):=
 match fn.body with
 |some c=>if args.length=fn.params.size then den E Γ an Λ c (qm fn args) λe st=>
  match e with
  | .exit _=>none
  |_=>aa (qK st E [] fn.results.toList) (lD rs)
  else none
 |none=>none
def evalAlt (E:Env)(Γ:zu)(an:An)(Λ:Hg)(fn:Func)(rs O6:ax (Bool×FT))(h:jK O6=jK rs)(args:ax AV):aA (Bool×jK rs):=
 match fn.body with
 |some c=>if args.length=fn.params.size then den E Γ an Λ c (qm fn args) λe st=>
  match e with
  | .exit _=>none
  |_=>aa (qK st E [] fn.results.toList) λys=>
   match lD rs ys with
   |some y=>some (true,y)
   |none=>match lD O6 ys with
    |some y=>some (false,cast h y)
    |none=>none
  else none
 |none=>none
def abi:Nat->ax AC->ax AC
 |_,[]=>[]
 |j,.sl _ e xs::cs=> .sl (.own (some (Cr j))) e xs::abi (j+1) cs
 |j,c::cs=>c::abi (j+1) cs
def DD:Nat->ax AC->ax AC
 |_,[]=>[]
 |j,.sl _ e xs::cs=> .sl (.loc 0 (some (.io j,Cr j))) e xs::DD (j+1) cs
 |j,c::cs=>c::DD (j+1) cs
def Je (fn:Func)(g:Bool)(cs:ax AC)(args:ax AV):AS:={qm fn (.val g (DD 0 cs)::args)with io:=abi 0 cs}
def aaH (E:Env)(Γ:zu)(an:An)(Λ:Hg)(fn:Func)(rs:ax (Bool×FT))(t:CT)(args:ax AV):aA (jK rs×t.D):=
 match fn.body,args with
 |some c,.val g cs::xs=>if xs.length+1=fn.params.size/\cs.all AC.abj=true then den E Γ an Λ c (Je fn g cs xs) λe st=>
  match e with
  | .exit _=>none
  |_=>aa (aa (qK st E [] fn.results.toList) (lD rs)) λr=>
   match kJ t st.io with
   |some (x,[])=>some (r,x)
   |_=>none
  else none
 |_,_=>none
def KT:Nat->ax AC->ax AC
 |_,[]=>[]
 |j,.sl (.own _) e xs::cs=> .sl (.own (some (3*j+1))) e xs::KT (j+1) cs
 |j,c::cs=>c::KT (j+1) cs
def DV (fn:Func)(cs:ax AC)(args:ax AV):AS:=
 {qm fn (.one (.ptr 0 0)::args)with boxes:=some (KT 0 cs)::List.replicate (args.length+(fn.ntmps-(args.length+1))) none,io:=[.ptr 0 0]}
def VK (E:Env)(Γ:zu)(an:An)(Λ:Hg)(fn:Func)(rs:ax (Bool×FT))(t:FT)(args:ax AV):aA (jK rs×t.ct.D):=
 match fn.body,args with
 |some c,.val true cs::xs=>if xs.length+1=fn.params.size/\cs.all (AC.BX true)=true then den E Γ an Λ c (DV fn cs xs) λe st=>
  match e with
  | .exit _=>none
  |_=>aa (aa (qK st E [(true,0)] fn.results.toList) (lD rs)) λr=>
   match st.io,st.boxes with
   |[.ptr 0 0],some tr::_=>match PA t (tr.map AC.strip)with
    |some (x,[])=>some (r,x)
    |_=>none
   |_,_=>none
  else none
 |_,_=>none
def Pr (E:Env)(Γ:zu)(an:An)(Λ:Hg)(fn:Func)(t:FT)(args:ax AV):aA t.ct.D:=
 match fn.body with
 |some c=>if args.length=fn.params.size then den E Γ an Λ c (qm fn args) λe st=>
  match e with
  | .exit _=>none
  |_=>match fn.results.toList with
   |[.tmp i]=>match st.get i with
    | .val false [.ptr s 0]=>match (nth st.boxes s).getD none with
      |some cs=>if cs.all AC.MM=true then(match PA t (cs.map AC.strip)with|some (x,[])=>some x|_=>none) else none
      |none=>none
    |_=>none
   |_=>none
  else none
 |none=>none
end Go.Dn
