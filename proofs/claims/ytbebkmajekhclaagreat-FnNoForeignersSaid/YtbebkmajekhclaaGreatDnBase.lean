import Derived.Test.YtbebkmajekhclaaGreatDnData
/- An abstract, heap-free semantics of the model's code, for functions that treat their data by value: definitions. -/
namespace Go.Dn
inductive lQ where
 |slot (s j:Nat)|box (s j:Nat)|io (j:Nat)
 deriving DecidableEq
inductive sj where
 |own (tag:Option Nat)
 |loc (ep:Nat) (pv:Option (lQ×Nat))
 |arg (k:Bool)
 |nest (ep:Nat) (r:lQ) (t:Nat) (e:CT) (i:Int) (off:Nat)
 |part (ep:Nat) (r:lQ) (t:Nat) (lo:Int)
 |ga (tag:Option Nat) (i:Int) (ep:Option Nat)
inductive AC where
 |int (k:IntKind) (n:Int)|bool (b:Bool)|str (s:List UInt8)
 |sl (fl:sj) (e:CT) (xs:List e.D)
 |kI
 |ptr (s off:Nat)
 |Dy (fl:sj) (e:CT) (x:e.D) (i:Int) (off:Nat)
 |fn (f:Nat)
 |un
 |bot
inductive AV where
 |val (agg:Bool) (cs:List AC)
 |yh (vs:List (Bool×List AC))
abbrev AV.one (c:AC):AV:=.val false [c]
abbrev AV.bot:AV:=.val false [.bot]
structure AS where
 slots:List AV
 boxes:List (Option (List AC))
 ep:Nat
 iss:List Bool
 io:List AC
structure Shape where
 agg:Bool
 ct:CT
 kU:List (Nat×Nat):=[]
structure An where
 mask:Nat->List Nat:=λ_=>[]
 merge:Nat->Option Nat:=λ_=>none
 mv:List Nat:=[]
 nest:List Nat:=[]
 mb:Nat->Option Nat:=λ_=>none
 sb:Nat->Option Nat:=λ_=>none
 late:List Nat:=[]
 peel:List Nat:=[]
 nils:List Nat:=[]
 fm:List Nat:=[]
 eb:Nat->Option Nat:=λ_=>none
 es:Nat->Option Nat:=λ_=>none
 er:Nat->Option Nat:=λ_=>none
 cut:List Nat:=[]
def cellsOf:(t:CT)->sj->t.D->ax AC
 | .int k,_,n=>[.int k n]
 | .bool,_,b=>[.bool b]
 | .str,_,s=>[.str s]
 | .sl e,fl,xs=>[.sl fl e xs]
 | .pair a b,fl,x=>cellsOf a fl x.1++cellsOf b fl x.2
def mI:(t:CT)->ax AC->az (t.D×ax AC)
 | .int k,.int k' n::r=>if k'=k then some (n,r) else none
 | .bool,.bool b::r=>some (b,r)
 | .str,.str s::r=>some (s,r)
 | .sl e,.sl (.own _) e' xs::r=>if h:e'=e then some (h▸xs,r) else none
 | .sl _,.kI::r=>some ([],r)
 | .pair a b,cs=>(mI a cs).bind λx=>(mI b x.2).bind λy=>some ((x.1,y.1),y.2)
 |_,_=>none
def nth {α:Type}:ax α->Nat->az α
 |[],_=>none
 |a::_,0=>some a
 |_::l,n+1=>nth l n
def iS {α:Type}:ax α->Nat->α->ax α
 |[],_,_=>[]
 |_::l,0,v=>v::l
 |a::l,n+1,v=>a::iS l n v
def AS.get (st:AS)(i:Nat):AV:=(nth st.slots i).getD .bot
def AS.put (st:AS)(d:az Nat)(v:AV):AS:=
 match d with
 |some d=>{st with slots:=iS st.slots d v}
 |none=>st
def K0 (d j:Nat):Nat:=3*(4096*d+j)+2
def AS.ja (st:AS)(d:az Nat)(j:Nat):az Nat:=
 match d with
 |some d=>bif (nth st.iss d).getD true then none else bif Nat.ble 4096 j then none else some (K0 d j)
 |none=>none
def AS.gn (st:AS)(d:az Nat):AS:=
 match d with
 |some d=>{st with iss:=iS st.iss d true}
 |none=>st
def AS.rn (st:AS)(d:az Nat)(e:CT)(xs:ax e.D):AS:=
 (st.gn d).put d (.one (.sl (.own (st.ja d 0)) e xs))
def AC.borrow (ep:Nat)(rt:az lQ):AC->AC
 | .sl (.own tag) e xs=> .sl (.loc ep (match rt,tag with|some r,some t=>some (r,t)|_,_=>none)) e xs
 | .sl (.ga tag _ (some Pf)) e xs=> .sl (.loc Pf (match rt,tag with|some r,some t=>some (r,t)|_,_=>none)) e xs
 | .sl (.ga _ _ none) _ _=> .bot
 |c=>c
def jj (ep:Nat)(f:Nat->lQ):Nat->ax AC->ax AC
 |_,[]=>[]
 |j,c::cs=>c.borrow ep (some (f j))::jj ep f (j+1) cs
def bf (ep:Nat)(cs:ax AC):ax AC:=cs.map (AC.borrow ep none)
def AV.borrow (ep:Nat)(f:Nat->lQ):AV->AV
 | .val g cs=> .val g (jj ep f 0 cs)
 | .yh vs=> .yh (vs.map λx=>(x.1,bf ep x.2))
def AV.bf (ep:Nat):AV->AV
 | .val g cs=> .val g (Dn.bf ep cs)
 | .yh vs=> .yh (vs.map λx=>(x.1,Dn.bf ep x.2))
def ofConst:Value->AV
 | .int k n=> .one (.int k n)
 | .bool b=> .one (.bool b)
 | .string s=> .one (.str s.data.toList)
 | .slice none 0 0=> .one .kI
 |_=> .bot
def AS.rd (st:AS):Operand->AV
 | .tmp t=>(st.get t).borrow st.ep (.slot t)
 | .const v=>ofConst v
 | .func f=> .one (.fn f)
 | .global _=> .bot
def AS.take (st:AS):Operand->AV×AS
 | .tmp t=>(st.get t,st.put (some t) ((st.get t).bf st.ep))
 |x=>(st.rd x,st)
def AS.fD (st:AS)(s:Nat)(b:az (ax AC)):AS:={st with boxes:=iS st.boxes s b}
def AC.asArg (ep:Nat):AC->AC
 | .int k n=> .int k n
 | .bool b=> .bool b
 | .str s=> .str s
 | .sl (.own _) e xs=> .sl (.arg false) e xs
 | .sl (.loc ep' _) e xs=>if ep'==ep then .sl (.arg false) e xs else .bot
 | .sl (.arg _) e xs=> .sl (.arg false) e xs
 | .kI=> .kI
 | .fn f=> .fn f
 |_=> .bot
def AV.asArg (ep:Nat):AV->AV
 | .val g cs=> .val g (cs.map (AC.asArg ep))
 | .yh _=> .bot
def AC.Fw (ep:Nat)(tag:az Nat):AC->AC
 | .sl (.own _) e xs=> .sl (.own tag) e xs
 | .sl (.arg _) e xs=> .sl (.loc ep none) e xs
 | .sl (.loc _ _) _ _=> .bot
 | .sl (.nest ..) _ _=> .bot
 | .sl (.part ..) _ _=> .bot
 | .sl (.ga _ i _) e xs=> .sl (.ga none i none) e xs
 | .ptr _ _=> .bot
 | .Dy _ _ _ _ _=> .bot
 |c=>c
def KO (ep:Nat)(mk:Nat->az Nat):Nat->ax AC->ax AC
 |_,[]=>[]
 |j,c::cs=>c.Fw ep (mk j)::KO ep mk (j+1) cs
def acN (ep:Nat)(mk:Nat->az Nat):Nat->ax (Bool×ax AC)->ax (Bool×ax AC)
 |_,[]=>[]
 |j,t::ts=>(t.1,KO ep mk j t.2)::acN ep mk (j+t.2.length) ts
def AV.Fw (ep:Nat)(mk:Nat->az Nat):AV->AV
 | .val g cs=> .val g (KO ep mk 0 cs)
 | .yh vs=> .yh (acN ep mk 0 vs)
def AC.Jx:AC->Bool
 | .sl (.arg _) _ _=>true
 | .int ..=>true
 | .bool _=>true
 | .str _=>true
 | .fn _=>true
 |_=>false
structure lr where
 R:Type
 fn:List AV->Option R
 av:R->AV
 io:Bool:=false
 back:R->List AC:=λ_=>[]
 bx:Bool:=false
 pr:Bool:=false
 sel:R->Bool:=λ_=>true
 alt:R->AV:=λ_=> .val false [.bot]
 cur:Bool:=false
 hcur:cur=true->∀y,(back y).all AC.Jx=true:=by intro h;cases h
def lr.res (F:lr)(y:F.R):AV:=cond (F.sel y) (F.av y) (F.alt y)
abbrev BV:=Nat->lr
def lr.dead:lr:={R:=Unit,fn:=λ_=>none,av:=λ_=> .val false [.bot]}
def BV.calm (Γ:BV):BV:=λf=>bif (Γ f).io||(Γ f).bx||(Γ f).pr then lr.dead else Γ f
def BV.Ji (Γ:BV):BV:=λf=>bif (Γ f).io||(Γ f).pr||((Γ f).bx&& !(Γ f).cur) then lr.dead else Γ f
def Kl {R:Type}(op:BinOp)(k:IntKind)(x y:Int)(K:AC->az R):az R:=
 match op with
 | .add=>K (.int k (k.wrap (x+y)))
 | .sub=>K (.int k (k.wrap (x-y)))
 | .mul=>K (.int k (k.wrap (x*y)))
 | .quo=>if y=0 then none else K (.int k (k.wrap (x.tdiv y)))
 | .rem=>if y=0 then none else K (.int k (x.tmod y))
 | .and=>K (.int k (k.wrap (BitVec.ofInt k.bits x&&&BitVec.ofInt k.bits y).toNat))
 | .or=>K (.int k (k.wrap (BitVec.ofInt k.bits x|||BitVec.ofInt k.bits y).toNat))
 | .xor=>K (.int k (k.wrap (BitVec.ofInt k.bits x^^^BitVec.ofInt k.bits y).toNat))
 | .andNot=>K (.int k (k.wrap (BitVec.ofInt k.bits x&&&~~~ BitVec.ofInt k.bits y).toNat))
 | .eql=>K (.bool (x==y))
 | .neq=>K (.bool (x !=y))
 | .lss=>K (.bool (decide (x<y)))
 | .leq=>K (.bool (decide (x<=y)))
 | .gtr=>K (.bool (decide (x>y)))
 | .geq=>K (.bool (decide (x>=y)))
 |_=>none
def Ns {R:Type}(op:BinOp)(x y:ax UInt8)(K:AC->az R):az R:=
 match op with
 | .add=>room (x.length+y.length) (K (.str (x++y)))
 | .eql=>K (.bool (x==y))
 | .neq=>K (.bool (!(x==y)))
 | .lss=>K (.bool (Op.bytesLess x y))
 | .leq=>K (.bool (Op.bytesLess x y||x==y))
 | .gtr=>K (.bool (!(Op.bytesLess x y||x==y)))
 | .geq=>K (.bool (!(Op.bytesLess x y)))
 |_=>none
def wU:ax AC->ax AC->az Bool
 |[],[]=>some true
 | .int k x::r,.int k' y::r'=>if k=k' then(wU r r').bind λb=>some ((x==y)&&b) else none
 | .bool x::r,.bool y::r'=>(wU r r').bind λb=>some ((x==y)&&b)
 | .str x::r,.str y::r'=>(wU r r').bind λb=>some ((x==y)&&b)
 |_,_=>none
def HP {R:Type}(op:BinOp)(x y:AV)(K:AC->az R):az R:=
 match x,y with
 | .val false [.int k a],.val false [.int k' b]=>
   match op with
   | .shl=>if b<0 then none else K (.int k (k.wrap (a*2^(min b.toNat k.bits))))
   | .shr=>if b<0 then none else K (.int k (a.fdiv (2^(min b.toNat k.bits))))
   |_=>if k=k' then Kl op k a b K else none
 | .val false [.str a],.val false [.str b]=>Ns op a b K
 | .val false [.bool a],.val false [.bool b]=>
   match op with
   | .eql=>K (.bool (a==b))
   | .neq=>K (.bool (!(a==b)))
   |_=>none
 | .val true xs,.val true ys=>
   match op with
   | .eql=>aa (wU xs ys) λb=>K (.bool b)
   | .neq=>aa (wU xs ys) λb=>K (.bool (!b))
   |_=>none
 |_,_=>none
def unC {R:Type}(op:UnOp)(x:AV)(K:AC->az R):az R:=
 match op,x with
 | .not,.val false [.bool b]=>K (.bool (!b))
 | .neg,.val false [.int k n]=>K (.int k (k.wrap (0-n)))
 | .xor,.val false [.int k n]=>Kl .xor k (if k.signed then-1 else k.max) n K
 |_,_=>none
def eZ (cs:ax AC)(off:Nat)(vs:ax AC):ax AC:=cs.take off++vs++cs.drop (off+vs.length)
def AS.fN (st:AS):lQ->az AC
 | .slot s j=>match st.get s with| .val _ cs=>nth cs j|_=>none
 | .box s j=>((nth st.boxes s).getD none).bind λcs=>nth cs j
 | .io j=>nth st.io j
def AS.fU (st:AS)(r:lQ)(c:AC):AS:=
 match r with
 | .slot s j=>match st.get s with| .val g cs=>st.put (some s) (.val g (iS cs j c))|_=>st
 | .box s j=>match (nth st.boxes s).getD none with|some cs=>st.fD s (some (iS cs j c))|none=>st
 | .io j=>{st with io:=iS st.io j c}
def AS.fresh (st:AS):AC->AC
 | .sl (.loc ep (some (r,t))) e xs=>
   bif ep==st.ep then .sl (.loc ep (some (r,t))) e xs else
    match st.fN r with
    |some (.sl (.own (some t')) e' ys)=>if h:e'=e then bif t'==t then .sl (.loc st.ep (some (r,t))) e (h▸ys) else .sl (.loc ep (some (r,t))) e xs else .sl (.loc ep (some (r,t))) e xs
    |_=> .sl (.loc ep (some (r,t))) e xs
 |c=>c
def AV.fresh (st:AS):AV->AV
 | .val g cs=> .val g (cs.map st.fresh)
 | .yh vs=> .yh vs
def AC.now (ep:Nat):AC->Bool
 | .sl (.loc ep' (some _)) _ _=>ep'==ep
 |_=>true
def AS.qU {R:Type}(st:AS)(r:lQ)(t:Nat)(e:CT)(i:Int)(off:Nat)(vs:ax AC)(K:AS->az R):az R:=
 match st.fN r with
 |some (.sl (.own (some t')) e' xs)=>
  if h:e'=e then
   if t'=t then
    aa (idx (h▸xs:ax e.D) i) λx=>
     match mI e (eZ (cellsOf e (.own none) x) off vs)with
     |some (x',[])=>K {st.fU r (.sl (.own (some t')) e ((h▸xs:ax e.D).set i.toNat x'))with ep:=st.ep+1}
     |_=>none
   else none
  else none
 |some (.sl (.ga (some t') i' _) e' xs)=>
  if h:e'=e then
   if t'=t/\off=0 then
    aa (afz (h▸xs:ax e.D) i' i) λ_=>
     match mI e vs with
     |some (x',[])=>K {st.fU r (.sl (.own (some t')) e ((h▸xs:ax e.D).set i.toNat x'))with ep:=st.ep+1}
     |_=>none
   else none
  else none
 |_=>none
def AV.cells:AV->ax AC
 | .val _ cs=>cs
 | .yh _=>[.bot]
def fO (st:AS):ax Operand->ax AV×AS
 |[]=>([],st)
 |x::xs=>let (v,st1):=st.take x;let (vs,st2):=fO st1 xs;(v::vs,st2)
def Ei (e:CT):ax (ax AC)->az (ax e.D)
 |[]=>some []
 |cs::r=>match mI e cs with
  |some (x,[])=>(Ei e r).bind λxs=>some (x::xs)
  |_=>none
def Kj:Nat->ax (Nat×Operand)->Bool
 |_,[]=>true
 |n,(i,_)::r=>i==n&&Kj (n+1) r
def AC.KS:AC->Bool
 | .bot=>false
 | .un=>false
 |_=>true
def yu (kU:ax (Nat×Nat))(zero:ax AC):ax (Nat×ax AC)->az (ax AC)
 |[]=>some zero
 |(i,cs)::r=>match nth kU i with
  |some (off,n)=>if cs.length=n/\off+n<=zero.length/\cs.all AC.KS then yu kU (eZ zero off cs) r else none
  |none=>none
inductive LK where
 |int|bool|str
 deriving DecidableEq
structure Env where
 ty:List (Nat×Shape)
 eqs:List (Nat×List LK):=[]
 fts:List ((Nat×Nat)×Nat):=[]
def To (l:ax (Nat×ax LK))(t:Nat):az (ax LK):=
 match l with
 |[]=>none
 |(u,sh)::r=>bif u==t then some sh else To r t
def fits:ax LK->ax AC->Bool
 |[],[]=>true
 | .int::ls,.int _ _::r=>fits ls r
 | .bool::ls,.bool _::r=>fits ls r
 | .str::ls,.str _::r=>fits ls r
 |_,_=>false
def YF (l:ax ((Nat×Nat)×Nat))(S f:Nat):az Nat:=
 match l with
 |[]=>none
 |((u,k),T)::r=>bif u==S&&k==f then some T else YF r S f
def jU (l:ax (Nat×Shape))(t:Nat):az Shape:=
 match l with
 |[]=>none
 |(u,sh)::r=>bif u==t then some sh else jU r t
def Env.sl (E:Env)(t:Nat):az CT:=
 match jU E.ty t with
 |some ⟨false,.sl e,_⟩=>some e
 |_=>none
def Env.str (E:Env)(t:Nat):Bool:=
 match jU E.ty t with
 |some ⟨false,.str,_⟩=>true
 |_=>false
def Env.bool (E:Env)(t:Nat):Bool:=
 match jU E.ty t with
 |some ⟨false,.bool,_⟩=>true
 |_=>false
def Env.bytes (E:Env)(t:Nat):Bool:=
 match jU E.ty t with
 |some ⟨false,.sl (.int .u8),[(te,_)]⟩=>match jU E.ty te with|some ⟨false,.int .u8,_⟩=>true|_=>false
 |_=>false
def sj.live (ep:Nat):sj->Bool
 | .loc ep' _=>ep'==ep
 | .arg _=>true
 | .own _=>false
 | .nest ..=>false
 | .part ..=>false
 | .ga ..=>false
def sj.sy (ep:Nat)(flat:Bool):sj->Bool
 | .loc ep' _=>ep'==ep&&flat
 | .arg _=>flat
 | .own _=>true
 | .nest ..=>false
 | .part ..=>false
 | .ga ..=>false
def sj.bare:sj->sj
 | .loc ep _=> .loc ep none
 |f=>f
def AC.kx:AC->Bool
 | .int _ _=>true
 | .bool _=>true
 | .str _=>true
 | .fn _=>true
 |_=>false
def tm:Operand->fK
 | .tmp t=>[t]
 |_=>[]
def Sq (l:ax Operand):fK:=l.flatMap tm
def GZ (an:An)(o:Oper):Bool:=
 match o.dst with
 |some d=>an.mv.contains d&&(an.mb d).isNone
 |none=>false
def arc (an:An)(o:Oper):Bool:=
 match o.dst with
 |some d=>an.nils.contains d
 |none=>false
def Cn (an:An)(o:Oper):Bool:=
 match o.op with
 | .assign (.tmp s)=>an.late.contains s
 | .store _ _ (.tmp s)=>an.late.contains s
 |_=>false
def tmO:az Operand->fK
 |some x=>tm x
 |none=>[]
def eo (o:Oper):fK:=
 match o.op with
 | .move x=>tm x
 | .assign x=>tm x
 | .pick c a b=>tm c++tm a++tm b
 | .box _ x=>tm x
 | .load _ p=>tm p
 | .store _ p x=>tm p++tm x
 | .nilCheck x=>tm x
 | .binOp _ _ x y _=>tm x++tm y
 | .unOp _ _ x=>tm x
 | .fieldAddr _ p _=>tm p
 | .indexAddr _ x i=>tm x++tm i
 | .index _ x i=>tm x++tm i
 | .build _ parts=>Sq (parts.toList.map (·.2))
 | .buildSlice _ _ parts=>Sq (parts.toList.map (·.2))
 | .makeSlice _ n c=>tm n++tm c
 | .slice _ x lo hi none=>tm x++tmO lo++tmO hi
 | .convert _ _ x=>tm x
 | .extract (.tmp t) _=>[t]
 | .call {callee:=.builtin _,args,..}=>Sq args.toList
 | .call {callee:=.value f,args,..}=>tm f++Sq args.toList
 |_=>[]
def GY (an:An)(o:Oper):Bool:=
 match o.op with
 | .move _=>match o.dst with|some d=>an.mv.contains d|none=>false
 | .assign _=>true
 | .box ..=>true
 | .build ..=>true
 | .buildSlice ..=>true
 | .store ..=>true
 | .extract ..=>match o.dst with|some d=>an.mv.contains d|none=>false
 | .call {callee:=.builtin .append,..}=>true
 |_=>false
def GW (an:An)(o:Oper):Bool:=
 match o.op,o.dst,o.guard with
 | .load _ (.tmp q),some d,none=>an.mv.contains d&&(an.mb d).isNone&&(an.eb q).isSome
 |_,_,_=>false
def De (an:An)(o:Oper):Bool:=
 match o.op,o.dst,o.guard with
 | .load _ (.tmp q),some d,none=> !an.mv.contains d&& !an.fm.contains d&&(an.sb q).isSome
 |_,_,_=>false
def G2 (an:An)(o:Oper):fK:=
 match o.op with
 | .alloc _=>o.dst.toList
 | .box ..=>o.dst.toList
 | .load _ p=>match o.dst with|some d=>bif an.mv.contains d then(an.mb d).toList++(bif GW an o then(match p with| .tmp q=>(an.eb q).toList|_=>[]) else []) else []|none=>[]
 | .store _ (.tmp p) _=>(an.sb p).toList
 | .call {callee:=.value _,args,..}=>(match args.toList with| .tmp q::_=>(an.sb q).toList|_=>[])
 |_=>[]
def ph (an:An)(o:Oper):Bool:=
 match o.op with
 | .move _=>true
 | .load ..=>(match o.dst with|some d=> !an.mv.contains d||(an.mb d).isSome|none=>false)||GW an o
 | .extract (.tmp _) _=>true
 | .store _ (.tmp p) _=>(an.sb p).isSome&& !Cn an o
 | .assign _=> !Cn an o
 | .pick ..| .alloc _| .box ..| .nilCheck _| .binOp ..| .unOp ..| .fieldAddr ..| .indexAddr ..| .index ..| .build ..| .buildSlice ..| .makeSlice ..| .convert ..=>true
 | .slice _ _ _ _ none=> !GZ an o
 | .call {callee:=.builtin .len,..}| .call {callee:=.builtin .min,..}| .call {callee:=.builtin .max,..}| .call {callee:=.builtin .append,..}=>true
 | .call {callee:=.value _,..}=>true
 |_=>false
def writes (an:An)(o:Oper):fK:=o.dst.toList++(bif GY an o then eo o else [])
def AV.now (ep:Nat):AV->Bool
 | .val _ cs=>cs.all (AC.now ep)
 | .yh _=>true
def AC.mC:AC->Bool
 | .int ..=>true
 | .bool _=>true
 | .str _=>true
 | .fn _=>true
 | .ptr ..=>true
 |_=>false
def AV.mC:AV->Bool
 | .val _ cs=>cs.all AC.mC
 | .yh _=>false
def Gc (E:Env)(T:TypeId)(st:AS)(s off:Nat):Bool:=
 match jU E.ty T,(nth st.boxes s).getD none with
 |some sh,some cs=>((cs.drop off).take sh.ct.size).all AC.mC
 |_,_=>false
def fmB (an:An)(o:Oper):Bool:=match o.dst with|some d=>an.fm.contains d|none=>false
def DU (an:An)(o:Oper):Bool:=
 match o.op,o.dst,o.guard with
 | .load _ (.tmp _),some d,none=>an.mv.contains d&&(an.mb d).isSome
 |_,_,_=>false
def Pq (an:An)(o:Oper):Bool:=
 match o.op,o.dst,o.guard with
 | .load _ (.tmp _),some d,none=> !an.mv.contains d&&an.fm.contains d
 |_,_,_=>false
def erS (an:An)(o:Oper):fK:=
 match o.op,o.dst with
 | .load ..,some d=>(an.er d).toList
 | .call {callee:=.value _,..},some d=>(an.er d).toList
 |_,_=>[]
def AC.akn (l:fK):AC->Bool
 | .sl (.loc _ (some (.slot b _,_))) _ _=>l.contains b
 | .sl (.loc _ _) _ _=>false
 |_=>true
def KP (l:fK)(st:AS):Operand->Bool
 | .tmp t=>(match st.get t with| .val _ cs=>cs.all (AC.akn l)| .yh _=>true)
 |_=>true
def ah1 (an:An)(X l:fK)(st:AS)(xs:ax Operand)(q:Nat):AV->Bool
 | .val false [.ptr s _]=> !X.contains s&&an.sb q==some s&&(match (nth st.boxes s).getD none with|some cs=>cs.all AC.Jx|none=>true)&&xs.all (KP l st)
 |_=>true
def AV.aeb:AV->Bool
 | .val false [.ptr _ _]=>false
 |_=>true
def vq (an:An)(X l:fK)(st:AS):ax Operand->Bool
 | .tmp q::xs=>ah1 an X l st xs q (st.rd (.tmp q))
 |x::_=>(st.rd x).aeb
 |[]=>true
def dV (E:Env)(an:An)(X:fK)(o:Oper)(st:AS):Bool:=
 match o.op with
 | .move x=> !fmB an o||(st.rd x).mC
 | .indexAddr _ x _=>(st.rd x).now st.ep||(match st.rd x with| .val _ [.sl (.loc _ (some (.box b _,_))) _ _]=> !X.contains b|_=>false)
 | .slice _ x _ _ none=>(st.rd x).now st.ep
 | .call {callee:=.value _,args,..}=>vq an X (erS an o) st args.toList&&args.toList.all λx=>(st.rd x).now st.ep
 | .load T p=>match st.rd p with
   | .val false [.ptr s off]=> !X.contains s&&(match o.dst with|some d=> !an.mv.contains d||an.mb d==some s|none=>true)&&(!fmB an o||Gc E T st s off)
   | .val false [.Dy fl _ _ _ _]=>(fl.live st.ep||(match fl with
     | .loc _ (some (.slot b _,_))=>(erS an o).contains b
     | .loc _ (some (.box b _,_))=> !X.contains b
     |_=>false))&& !(fmB an o||DU an o)&& !De an o&&(!GW an o||(match p,fl with
     | .tmp q,.loc _ (some (.box b _,_))=>an.eb q==some b&& !X.contains b
     |_,_=>false))
   |_=> !(fmB an o||DU an o)
 | .store _ (.tmp p) _=>((an.sb p).isNone&&(an.eb p).isNone&&(an.es p).isNone)||(match st.rd (.tmp p)with
   | .val false [.ptr s _]=> !X.contains s&&an.sb p==some s
   | .val false [.Dy (.loc _ (some (.box b _,_))) _ _ _ _]=>an.eb p==some b&&(an.sb p).isNone&&(an.es p).isNone
   | .val false [.Dy (.loc _ (some (.slot b _,_))) _ _ _ _]=>an.es p==some b&&(an.sb p).isNone&&(an.eb p).isNone
   |_=>false)
 | .extract (.tmp t) i=>match st.get t with
   | .yh vs=>match nth vs i with|some x=>x.2.all AC.kx||(match o.dst with|some d=>an.mv.contains d|none=>false)|none=>true
   |_=>true
 |_=>true
def Gi (an:An)(ops:ax Oper)(o:Oper):fK:=
 (match o.guard with
 |some (j,_)=>((nth ops j).bind (·.dst)).toList
 |none=>[])++erS an o
def meets (a b:fK):Bool:=a.any λx=>b.contains x
def aae (an:An)(ops:ax Oper)(X Y:fK)(o p:Oper):Bool:=
 ph an o&&ph an p&& !meets (writes an o) (eo p++Gi an ops p++writes an p)&& !meets (writes an p) (eo o++Gi an ops o)&&
 (G2 an o).all (λd=>Y.contains d)&&(G2 an p).all (λd=>X.contains d)&& !meets (G2 an o) (p.dst.toList++G2 an p)&& !meets (G2 an p) o.dst.toList
def abg (o p:Oper):Bool:=
 match o.op,p.op,o.dst,p.dst,o.guard,p.guard with
 | .extract (.tmp t) i,.extract (.tmp t') j,some d,some d',none,none=>t==t'&& !(i==j)&& !(d==d')&& !(d==t)&& !(d'==t)
 |_,_,_,_,_,_=>false
def abd (an:An)(o p:Oper):Bool:=
 match p.op,p.dst,p.guard with
 | .store _ (.tmp q) (.tmp x),none,none=>((an.eb q).isSome&&(an.es q).isNone||(match an.es q with|some b=>(an.eb q).isNone&& !(b==x)&& !(b==q)&& !meets [b] (o.dst.toList++eo o)|none=>false))&&(an.sb q).isNone&& !Cn an p&&(match o.op,o.dst,o.guard with
   | .move (.tmp t),some d,none=> !an.mv.contains d&&an.fm.contains d&& !(d==q)&& !(d==x)&& !(t==x)&& !(t==q)&& !(d==t)
   | .extract (.tmp t) _,some d,none=> !(d==q)&& !(d==x)&& !(t==x)&& !(t==q)&& !(d==t)
   |_,_,_=>false)
 |_,_,_=>false
def ab8 (an:An)(o p:Oper):Bool:=
 (DU an o&&Pq an p||Pq an o&&DU an p)&& !meets o.dst.toList (p.dst.toList++eo p)&& !meets p.dst.toList (eo o)
def aat (an:An)(o p:Oper):Bool:=De an o&&GW an p&& !meets o.dst.toList (p.dst.toList++eo p)&& !meets p.dst.toList (eo o)
def aj7 (an:An)(o p:Oper):Bool:=abg o p||abd an o p||ab8 an o p||aat an o p
def ON (an:An)(ops:ax Oper)(X Y:fK)(o p:Oper):Bool:=aj7 an o p||aae an ops X Y o p
def Df (o:Oper):fK:=(o.after.toList.filter (λe=>Region.binds .any e)).map (·.on)
def Wq (a b:fK):fK:=a.foldl (λs x=>bif s.contains x then s else x::s) b
def WE:ax Oper->ax fK->ax fK
 |[],acc=>acc
 |o::r,acc=>WE r (acc++[(Df o).foldl (λs j=>Wq (j::(nth acc j).getD []) s) []])
def agA (A:ax fK)(i k:Nat):Bool:=((nth A i).getD []).contains k
def adq (an:An)(A:ax fK)(i:Nat)(fl pl:Bool):Nat->ax Oper->fK
 |_,[]=>[]
 |k,o::r=>(bif !agA A i k&& !agA A k i&& !(k==i)&& !(fl&&DU an o)&& !(pl&&GW an o) then G2 an o else [])++adq an A i fl pl (k+1) r
def uD (an:An)(A:ax fK)(i k:Nat)(ops:ax Oper):fK:=adq an A i (match nth ops i with|some o=>Pq an o|none=>false) (match nth ops i with|some o=>De an o|none=>false) k ops
def Qv (an:An)(ops:ax Oper)(A:ax fK)(i:Nat)(oi:Oper):Nat->ax Oper->Bool
 |_,[]=>true
 |j,oj::r=>bif Nat.ble i j then true else(agA A i j||ON an ops (uD an A j 0 ops) (uD an A i 0 ops) oj oi)&&Qv an ops A i oi (j+1) r
def VU (an:An)(ops:ax Oper)(A:ax fK):Nat->ax Oper->Bool
 |_,[]=>true
 |i,oi::r=>(Df oi).all (λk=>Nat.blt k i)&&Qv an ops A i oi 0 ops&&VU an ops A (i+1) r
def W5 (an:An)(ops:ax Oper):Bool:=VU an ops (WE ops []) 0 ops
inductive Ex where
 |normal|ret|exit (id:Nat)
inductive FK where
 |own (tag:Option Nat)|arg|AO|loc|lio (j t:Nat)|nil
def FK.flag:FK->sj
 | .own t=> .own t
 | .arg=> .arg false
 | .AO=> .arg true
 | .loc=> .loc 0 none
 | .lio j t=> .loc 0 (some (.io j,t))
 | .nil=> .arg false
def FK.isNil:FK->Bool
 | .nil=>true
 |_=>false
inductive FT where
 |int (k:IntKind)|bool|str|sl (fl:FK) (e:CT)|pair (a b:FT)
abbrev FT.ct:FT->CT
 | .int k=> .int k
 | .bool=> .bool
 | .str=> .str
 | .sl _ e=> .sl e
 | .pair a b=> .pair a.ct b.ct
def kv:(t:FT)->t.ct.D->ax AC
 | .int k,n=>[.int k n]
 | .bool,b=>[.bool b]
 | .str,s=>[.str s]
 | .sl fl e,xs=>[bif fl.isNil then .kI else .sl fl.flag e xs]
 | .pair a b,x=>kv a x.1++kv b x.2
def FK.fits:FK->sj->Bool
 | .own t,.own t'=>t==t'
 | .arg,.arg k=> !k
 | .AO,.arg k=>k
 | .loc,.loc 0 none=>true
 | .lio j t,.loc 0 (some (.io j',t'))=>j==j'&&t==t'
 |_,_=>false
def Ot:(t:FT)->ax AC->az (t.ct.D×ax AC)
 | .int k,.int k' n::r=>if k'=k then some (n,r) else none
 | .bool,.bool b::r=>some (b,r)
 | .str,.str s::r=>some (s,r)
 | .sl fl e,.sl fl' e' xs::r=>if h:e'=e then bif fl.fits fl' then some (h▸xs,r) else none else none
 | .sl fl _,.kI::r=>bif fl.isNil then some ([],r) else none
 | .pair a b,cs=>(Ot a cs).bind λx=>(Ot b x.2).bind λy=>some ((x.1,y.1),y.2)
 |_,_=>none
inductive PD where
 |bot|ptr (s off:Nat)|fn (f:Nat)|data (g:Bool) (t:FT)
inductive IoD where
 |none|some (t:FT)|ptr
structure SD where
 slots:List PD
 boxes:List (Option FT)
 io:IoD:=.none
abbrev Mq:ax PD->Type
 |[]=>Unit
 | .data _ t::r=>t.ct.D×Mq r
 |_::r=>Mq r
abbrev Lq:ax (az FT)->Type
 |[]=>Unit
 |some t::r=>t.ct.D×Lq r
 |none::r=>Lq r
abbrev ioD:IoD->Type
 | .none=>Unit
 | .some t=>t.ct.D
 | .ptr=>Unit
abbrev SD.D (d:SD):Type:=Mq d.slots×Lq d.boxes×ioD d.io
def uF:(l:ax PD)->Mq l->ax AV
 |[],_=>[]
 | .data g t::r,x=> .val g (kv t x.1)::uF r x.2
 | .bot::r,x=> .bot::uF r x
 | .ptr s off::r,x=> .one (.ptr s off)::uF r x
 | .fn f::r,x=> .one (.fn f)::uF r x
def DZ:(l:ax (az FT))->Lq l->ax (az (ax AC))
 |[],_=>[]
 |some t::r,x=>some (kv t x.1)::DZ r x.2
 |none::r,x=>none::DZ r x
def aiD:(o:IoD)->ioD o->ax AC
 | .none,_=>[]
 | .some t,x=>kv t x
 | .ptr,_=>[.ptr 0 0]
def SD.enc (d:SD)(x:d.D):AS:=⟨uF d.slots x.1,DZ d.boxes x.2.1,0,List.replicate d.slots.length false,aiD d.io x.2.2⟩
def AV.adY:AV->Bool
 | .val false [.bot]=>true
 |_=>false
def AV.adZ (s off:Nat):AV->Bool
 | .val false [.ptr s' av9]=>s==s'&&off==av9
 |_=>false
def AV.af2 (f:Nat):AV->Bool
 | .val false [.fn f']=>f==f'
 |_=>false
def lf:(l:ax PD)->ax AV->az (Mq l)
 |[],[]=>some ()
 | .data g t::r,.val g' cs::vs=>bif g==g' then(match Ot t cs with|some (x,[])=>(lf r vs).bind λy=>some (x,y)|_=>none) else none
 | .bot::r,v::vs=>bif v.adY then lf r vs else none
 | .ptr s off::r,v::vs=>bif v.adZ s off then lf r vs else none
 | .fn f::r,v::vs=>bif v.af2 f then lf r vs else none
 |_,_=>none
def sr:(l:ax (az FT))->ax (az (ax AC))->az (Lq l)
 |[],[]=>some ()
 |some t::r,some cs::bs=>match Ot t cs with|some (x,[])=>(sr r bs).bind λy=>some (x,y)|_=>none
 |none::r,none::bs=>sr r bs
 |_,_=>none
def abZ:ax AC->Bool
 |[.ptr 0 0]=>true
 |_=>false
def W3:(o:IoD)->ax AC->az (ioD o)
 | .none,[]=>some ()
 | .some t,cs=>match Ot t cs with|some (x,[])=>some x|_=>none
 | .ptr,cs=>bif abZ cs then some () else none
 |_,_=>none
def SD.dec (d:SD)(st:AS):az d.D:=
 bif st.ep==0&&st.iss==List.replicate d.slots.length false then
  (lf d.slots st.slots).bind λx=>(sr d.boxes st.boxes).bind λy=>(W3 d.io st.io).bind λz=>some (x,y,z)
 else none
structure Lm where
 sd:SD
 run:{R:Type}->sd.D->(Ex->AS->Option R)->Option R
abbrev lZ:=Nat->Lm
def Lm.go {R:Type}(l:Lm)(st:AS)(K:Ex->AS->az R):az R:=aa (l.sd.dec st) λx=>l.run x K
def Lm.none:Lm:=⟨⟨[],[],.none⟩,λ_ _=>Option.none⟩
def lZ.nil:lZ:=λ_=>Lm.none
def lZ.add (Λ:lZ)(k:Nat)(l:Lm):lZ:=λj=>bif j==k then l else Λ j
section
variable {R:Type} (E:Env) (Γ:BV) (an:An)
def El (o:Oper)(x:Operand)(st:AS)(K:AS->az R):az R:=
 match o.dst with
 |some d=>if an.mv.contains d then K ((st.take x).2.put o.dst (st.take x).1) else K (st.put o.dst (st.rd x))
 |none=>none
def wQ (o:Oper)(x:Operand)(st:AS)(K:AS->az R):az R:=
 match st.take x with
 |(.val false [.kI],_)=>match E.sl o.type with
  |some e=>K (st.put o.dst (.one (bif arc an o then .kI else .sl (.own none) e [])))
  |none=>none
 |(v,bZ)=>K (bZ.put o.dst v)
def GD (o:Oper)(c a b:Operand)(st:AS)(K:AS->az R):az R:=
 match st.rd c with
 | .val false [.bool t]=>match st.rd a,st.rd b with
   | .val false [.bool x],.val false [.bool y]=>K (st.put o.dst (.one (.bool (cond t x y))))
   |va,vb=>cond t (K (st.put o.dst va)) (K (st.put o.dst vb))
 |_=>none
def EH (o:Oper)(T:TypeId)(st:AS)(K:AS->az R):az R:=
 match o.dst,jU E.ty T with
 |some d,some sh=>match nth st.boxes d with
  |some none=>K ((st.fD d (some (cellsOf sh.ct (.own none) sh.ct.zero))).put o.dst (.one (.ptr d 0)))
  |_=>none
 |_,_=>none
def Uq (o:Oper)(x:Operand)(st:AS)(K:AS->az R):az R:=
 match o.dst,st.take x with
 |some d,(.val _ cs,bZ)=>
  match nth bZ.boxes d with
  |some none=>if cs.all AC.KS then K ((bZ.fD d (some cs)).put o.dst (.one (.ptr d 0))) else none
  |_=>none
 |_,_=>none
def VP (ep:Nat)(r:lQ)(t:Nat)(e:CT)(i:Int):Nat->ax AC->ax AC
 |_,[]=>[]
 |p,.sl _ e' xs::cs=> .sl (.nest ep r t e i p) e' xs::VP ep r t e i (p+1) cs
 |p,c::cs=>c::VP ep r t e i (p+1) cs
def ajS (o:Oper)(ep:Nat)(fl:sj)(e:CT)(i:Int)(off:Nat)(cs:ax AC):ax AC:=
 match fl,o.dst with
 | .loc _ (some (r,t)),some d=>bif an.nest.contains d then VP ep r t e i off cs else cs
 |_,_=>cs
def Fc (o:Oper)(sh:Shape)(fl:sj)(e:CT)(i:Int)(off:Nat)(st:AS)(K:AS->az R):az R:=
 match fl with
 | .loc _ (some (r,t))=>
   match st.fN r with
   |some (.sl (.own (some t')) e' ys)=>
    if h:e'=e then
     if t'=t/\off+sh.ct.size<=e.size then
      aa (idx (h▸ys:ax e.D) i) λy=>K (st.put o.dst (.val sh.agg (((cellsOf e (.loc st.ep none) y).drop off).take sh.ct.size)))
     else none
    else none
   |_=>none
 |_=>none
def Aq (o:Oper)(sh:Shape)(fl:sj)(e:CT)(i:Int)(off:Nat)(st:AS)(K:AS->az R):az R:=
 match fl with
 | .loc _ (some (r,t))=>
   match st.fN r with
   |some (.sl (.own (some t')) e' ys)=>
    if h:e'=e then
     if t'=t/\off=0/\sh.ct=e then
      aa (idx (h▸ys:ax e.D) i) λy=>K ((st.fU r (.sl (.ga (some t) i (some st.ep)) e (h▸ys))).put o.dst (.val sh.agg (cellsOf e (.own none) y)))
     else none
    else none
   |_=>none
 |_=>none
def qK (o:Oper)(T:TypeId)(p:Operand)(st:AS)(K:AS->az R):az R:=
 match jU E.ty T,st.rd p with
 |some sh,.val false [.ptr s off]=>
  match (nth st.boxes s).getD none with
  |some cs=>
   if off+sh.ct.size<=cs.length then
    match o.dst with
    |some d=>
     if an.mv.contains d then
      K ((st.fD s (some (eZ cs off (bf st.ep ((cs.drop off).take sh.ct.size))))).put o.dst (.val sh.agg ((cs.drop off).take sh.ct.size)))
     else K (st.put o.dst (.val sh.agg (jj st.ep (.box s) off ((cs.drop off).take sh.ct.size))))
    |none=>none
   else none
  |none=>none
 |some sh,.val false [.Dy fl e x i off]=>
  if GZ an o then Aq o sh fl e i off st K
  else if fl.live st.ep then
   if off+sh.ct.size<=e.size then K (st.put o.dst (.val sh.agg (ajS an o st.ep fl e i off (((cellsOf e fl.bare x).drop off).take sh.ct.size)))) else none
  else Fc o sh fl e i off st K
 |_,_=>none
def yO (T:TypeId)(p x:Operand)(st:AS)(K:AS->az R):az R:=
 match jU E.ty T,st.rd p with
 |some sh,.val false [.ptr s off]=>
  match st.take x with
  |(.val _ vs,bZ)=>
   match (nth bZ.boxes s).getD none with
   |some cs=>
    if vs.length=sh.ct.size/\vs.all AC.KS then
     if off+sh.ct.size<=cs.length then K (bZ.fD s (some (eZ cs off vs))) else none
    else none
   |none=>none
  |_=>none
 |some sh,.val false [.Dy (.loc _ (some (r,t))) e _ i off]=>
  match st.take x with
  |(.val _ vs,bZ)=>
   if vs.length=sh.ct.size/\off+sh.ct.size<=e.size then bZ.qU r t e i off vs K else none
  |_=>none
 |_,_=>none
def B7 (o:Oper)(S:TypeId)(p:Operand)(f:Nat)(st:AS)(K:AS->az R):az R:=
 match jU E.ty S,st.rd p with
 |some ⟨true,_,kU⟩,.val false [.ptr s off]=>match nth kU f with|some (fo,_)=>K (st.put o.dst (.one (.ptr s (off+fo))))|none=>none
 |some ⟨true,_,kU⟩,.val false [.Dy fl e x i off]=>match nth kU f with|some (fo,_)=>K (st.put o.dst (.one (.Dy fl e x i (off+fo))))|none=>none
 |_,_=>none
def nO (o:Oper)(T:TypeId)(x i:Operand)(st:AS)(K:AS->az R):az R:=
 match E.sl T,(st.rd x).fresh st,st.rd i with
 |some e',.val false [.sl fl e xs],.val false [.int _ n]=>
  if e'=e/\fl.live st.ep then aa (idx xs n) λy=>K (st.put o.dst (.one (.Dy fl e y n 0))) else none
 |_,_,_=>none
def DH (o:Oper)(T:TypeId)(x i:Operand)(st:AS)(K:AS->az R):az R:=
 match st.rd x,st.rd i with
 | .val false [.str s],.val false [.int _ n]=>if E.str T then aa (idx s n) λb=>K (st.put o.dst (.one (.int .u8 b.toNat))) else none
 |_,_=>none
def Dv (o:Oper)(T:TypeId)(parts:ax (Nat×Operand))(st:AS)(K:AS->az R):az R:=
 match jU E.ty T with
 |some ⟨true,ct,kU⟩=>
  match fO st (parts.map (·.2))with
  |(vs,bZ)=>
   match yu kU (cellsOf ct (.own none) ct.zero) ((parts.map (·.1)).zip (vs.map AV.cells))with
   |some cs=>K (bZ.put o.dst (.val true cs))
   |none=>none
 |_=>none
def mY (o:Oper)(T:TypeId)(len:Nat)(parts:ax (Nat×Operand))(st:AS)(K:AS->az R):az R:=
 match E.sl T with
 |some e=>
  if parts.length=len/\Kj 0 parts/\len<=1000 then
   match fO st (parts.map (·.2))with
   |(vs,bZ)=>
    match Ei e (vs.map AV.cells)with
    |some xs=>K (bZ.rn o.dst e xs)
    |none=>none
  else none
 |none=>none
def qj (o:Oper)(T:TypeId)(n c:Operand)(st:AS)(K:AS->az R):az R:=
 match E.sl T,st.rd n,st.rd c with
 |some e,.val false [.int .i64 len],.val false [.int .i64 cap]=>
  if 0<=len/\len<=cap then room cap.toNat (K (st.rn o.dst e (List.replicate len.toNat e.zero))) else none
 |_,_,_=>none
def od (st:AS)(lo hi:az Operand)(n:Nat)(K:Int->Int->az R):az R:=
 match lo.map st.rd,hi.map st.rd with
 |none,none=>K 0 n
 |some (.val false [.int _ a]),none=>K a n
 |none,some (.val false [.int _ b])=>K 0 b
 |some (.val false [.int _ a]),some (.val false [.int _ b])=>K a b
 |_,_=>none
def yF (o:Oper)(T:TypeId)(x:Operand)(lo hi:az Operand)(st:AS)(K:AS->az R):az R:=
 match st.take x,lo.map st.rd,hi with
 |(.val false [.sl (.own _) e xs],bZ),some (.val false [.int _ a]),none=>
  if E.sl T=some e then aa (sub xs a xs.length) λRD=>K (bZ.rn o.dst e RD) else none
 |_,_,_=>none
def Qw (o:Oper)(fl:sj)(a:Int):sj:=
 match fl,o.dst with
 | .loc ep (some (r,t)),some d=>bif an.nest.contains d then .part ep r t a else .loc ep none
 |fl,_=>fl.bare
def Cz (o:Oper)(T:TypeId)(x:Operand)(lo hi:az Operand)(st:AS)(K:AS->az R):az R:=
 if GZ an o then yF E o T x lo hi st K else
 match (st.rd x).fresh st with
 | .val false [.str s]=>if E.str T then od st lo hi s.length λa b=>aa (sub s a b) λs'=>K (st.put o.dst (.one (.str s'))) else none
 | .val false [.sl fl e xs]=>
   if E.sl T=some e/\fl.live st.ep then od st lo hi xs.length λa b=>aa (sub xs a b) λRD=>K (st.put o.dst (.one (.sl (Qw an o fl a) e RD))) else none
 |_=>none
def nb (o:Oper)(src dst:TypeId)(x:Operand)(st:AS)(K:AS->az R):az R:=
 match jU E.ty src,jU E.ty dst,st.rd x with
 |some _,some ⟨false,.int k,_⟩,.val false [.int _ n]=>K (st.put o.dst (.one (.int k (k.wrap n))))
 |some ⟨false,.str,_⟩,some ⟨false,.str,_⟩,.val false [.str s]=>K (st.put o.dst (.one (.str s)))
 |some ⟨false,.str,_⟩,some _,.val false [.str s]=>
  if E.bytes dst then room s.length (K (st.rn o.dst (.int .u8) (dy s))) else none
 |some _,some ⟨false,.str,_⟩,.val false [.sl fl (.int .u8) xs]=>
  if E.bytes src/\fl.live st.ep then K (st.put o.dst (.one (.str (aO xs)))) else none
 |_,_,_=>none
def ng (o:Oper)(t i:Nat)(st:AS)(K:AS->az R):az R:=
 match st.get t with
 | .yh vs=>match nth vs i with
   |some (g,cs)=>K ((st.put (some t) (.yh (iS vs i (g,bf 0 cs)))).put o.dst (.val g cs))
   |none=>none
 |_=>none
def Qi (o:Oper)(ts:ax TypeId)(args:ax Operand)(st:AS)(K:AS->az R):az R:=
 match ts,args.map st.rd with
 |[t],[.val false [.str s]]=>if E.str t then K (st.put o.dst (.one (.int .i64 s.length))) else none
 |[t],[.val false [.sl _ _ xs]]=>if(E.sl t).isSome then K (st.put o.dst (.one (.int .i64 xs.length))) else none
 |_,_=>none
def R5 (o:Oper)(args:ax Operand)(st:AS)(K:AS->az R):az R:=
 match args.map st.rd with
 |[.val false [.int k x],.val false [.int _ y]]=>K (st.put o.dst (.one (.int k (if y<x then y else x))))
 |_=>none
def R4 (o:Oper)(args:ax Operand)(st:AS)(K:AS->az R):az R:=
 match args.map st.rd with
 |[.val false [.int k x],.val false [.int _ y]]=>K (st.put o.dst (.one (.int k (if y>x then y else x))))
 |_=>none
def Sw (o:Oper)(ts:ax TypeId)(args:ax Operand)(st:AS)(K:AS->az R):az R:=
 match ts,args.map st.rd with
 |[t,t'],[.val false [.sl (.part ep r tg lo) e xs],.val false [.str s]]=>
  match st.fN r with
  |some (.sl (.own (some tg')) e' ys)=>
   if h:e'=.int .u8 then
    if e=.int .u8/\E.sl t=some (.int .u8)/\E.str t'=true/\ep=st.ep/\tg'=tg then
     K ({st.fU r (.sl (.own (some tg)) (.int .u8) (Eo (h▸ys:ax (CT.int .u8).D) lo.toNat (dy (s.take xs.length))))with ep:=st.ep+1}.put o.dst (.one (.int .i64 (min xs.length s.length:Nat))))
    else none
   else none
  |_=>none
 |_,_=>none
def Hh (o:Oper)(S:TypeId)(t f:Nat)(st:AS)(K:AS->az R):az R:=
 match jU E.ty S,st.get t,YF E.fts S f with
 |some ⟨true,ct,kU⟩,.val true cs,some T=>
  match nth kU f,jU E.ty T with
  |some (fo,n),some sh=>
   if n=sh.ct.size/\cs.length=ct.size/\fo+n<=cs.length then
    K ((st.put (some t) (.val true (eZ cs fo (bf st.ep ((cs.drop fo).take n))))).put o.dst (.val sh.agg ((cs.drop fo).take n)))
   else none
  |_,_=>none
 |_,_,_=>none
def yS (o:Oper)(ts:ax TypeId)(args:ax Operand)(st:AS)(K:AS->az R):az R:=
 match ts,args with
 |[t,t'],[s,x]=>
  match st.take s with
  |(.val false [.sl (.own _) e xs],st1)=>
   match st1.take x with
   |(.val false [.sl fl e' ys],st2)=>
    if h:e'=e then
     if E.sl t=some e/\E.sl t'=some e/\fl.sy st.ep e.flat then
      room (xs.length+ys.length) (K (st2.rn o.dst e (xs++(h▸ys:ax e.D))))
     else none
    else none
   |(.val false [.str s],st2)=>
    if h:e=.int .u8 then
     if E.sl t=some e/\E.str t' then room (xs.length+s.length) (K (st2.rn o.dst (.int .u8) ((h▸xs:ax (CT.int .u8).D)++dy s))) else none
    else none
   |_=>none
  |_=>none
 |_,_=>none
def SO:Nat->ax AC->az (lQ×Nat)
 |_,[]=>none
 |j,.sl (.loc _ (some (r,_))) _ _::_=>some (r,j)
 |j,_::cs=>SO (j+1) cs
def lQ.pos:lQ->Nat
 | .slot _ j=>j
 | .box _ j=>j
 | .io j=>j
def AS.KE (st:AS):lQ->az (ax AC)
 | .slot s _=>match st.get s with| .val _ cs=>some cs|_=>none
 | .box s _=>(nth st.boxes s).getD none
 | .io _=>some st.io
def AS.GO (st:AS)(r:lQ)(cs:ax AC):AS:=
 match r with
 | .slot s _=>match st.get s with| .val g _=>st.put (some s) (.val g cs)|_=>st
 | .box s _=>st.fD s (some cs)
 | .io _=>{st with io:=cs}
def pn:ax AC->ax AC->az (ax AC)
 |[],[]=>some []
 | .sl (.loc _ (some (_,t))) _ _::os,.sl (.own (some t')) e xs::ss=>bif t'==t then(pn os ss).bind λr=>some (.sl (.own none) e xs::r) else none
 | .int k n::os,.int _ _::ss=>(pn os ss).bind λr=>some (.int k n::r)
 | .bool b::os,.bool _::ss=>(pn os ss).bind λr=>some (.bool b::r)
 | .str x::os,.str _::ss=>(pn os ss).bind λr=>some (.str x::r)
 |_,_=>none
def AV.kx:AV->Bool
 | .val _ cs=>cs.all AC.kx
 | .yh vs=>vs.all λx=>x.2.all AC.kx
def Uv (st:AS)(x:Operand):az (AV×AS):=
 match st.rd x with
 | .val g cs=>
   match SO 0 cs with
   |some (r,j)=>
    match st.KE r with
    |some csO=>
     match pn cs ((csO.drop (r.pos-j)).take cs.length)with
     |some sq=>some (.val g sq,st.GO r (eZ csO (r.pos-j) (bf st.ep ((csO.drop (r.pos-j)).take cs.length))))
     |none=>none
    |none=>none
   |none=>none
 |_=>none
def Tl (o:Oper)(x:Operand)(st:AS)(K:AS->az R):az R:=
 match Uv st x with
 |some (v,bZ)=>K (bZ.put o.dst v)
 |none=>none
def yP (T:TypeId)(p x:Operand)(st:AS)(K:AS->az R):az R:=
 match jU E.ty T,st.rd p with
 |some sh,.val false [.ptr s off]=>
  match Uv st x with
  |some (.val _ vs,bZ)=>
   match (nth bZ.boxes s).getD none with
   |some cs=>
    if vs.length=sh.ct.size/\vs.all AC.KS then
     if off+sh.ct.size<=cs.length then K (bZ.fD s (some (eZ cs off vs))) else none
    else none
   |none=>none
  |_=>none
 |_,_=>none
def AC.strip:AC->AC
 | .sl (.own _) e xs=> .sl (.own none) e xs
 | .sl (.loc _ _) _ _=> .bot
 | .sl (.nest ..) _ _=> .bot
 | .sl (.part ..) _ _=> .bot
 | .sl (.ga _ i _) e xs=> .sl (.ga none i none) e xs
 | .ptr _ _=> .bot
 | .Dy _ _ _ _ _=> .bot
 |c=>c
def AC.al6:AC->Bool
 | .sl (.own _) _ _=>true
 |c=>c.kx
def AC.AH (k:Bool):AC->Bool
 | .sl (.own _) _ _=>true
 | .sl (.arg k') _ _=>k'==k
 |c=>c.kx
def AC.Wi:AC->AC
 | .sl (.own _) e xs=> .sl (.own none) e xs
 | .sl (.arg _) e xs=> .sl (.arg true) e xs
 |c=>c.strip
def AC.anZ (k:Bool)(tag:az Nat):AC->AC
 | .sl (.own _) e xs=> .sl (.own tag) e xs
 | .sl (.arg _) e xs=> .sl (.arg k) e xs
 |c=>c
def qY (k:Bool)(mk:Nat->az Nat):Nat->ax AC->ax AC
 |_,[]=>[]
 |j,c::cs=>c.anZ k (mk j)::qY k mk (j+1) cs
def Fv (cs:ax AC):Bool:=cs.any λc=>match c with| .sl (.arg k) _ _=>k|_=>false
def AC.Lp:AC->Bool
 | .sl (.arg k) _ _=> !k
 |c=>c.kx
def AV.Lp:AV->Bool
 | .val _ cs=>cs.all AC.Lp
 | .yh _=>false
def AS.R3 (st:AS):AC->AC
 | .sl (.own _) e xs=> .sl (.arg false) e xs
 | .sl (.arg _) e xs=> .sl (.arg false) e xs
 | .sl (.loc _ (some (.slot b j,t))) _ _=>match st.fN (.slot b j)with
   |some (.sl (.own (some t')) e' ys)=>if t'=t then .sl (.arg false) e' ys else .bot
   |_=> .bot
 | .int k n=> .int k n
 | .bool b=> .bool b
 | .str s=> .str s
 | .fn f=> .fn f
 |_=> .bot
def Dc (st:AS):Operand->AV
 | .tmp t=>(match st.get t with| .val g cs=> .val g (cs.map st.R3)|v=>v)
 |x=>st.rd x
def Eh (st:AS):Operand->Bool
 | .tmp t=>(match st.get t with| .val _ cs=>(cs.map st.R3).all AC.Lp|_=>false)
 |x=>(st.rd x).kx
def AC.ags:AC->Bool
 | .sl (.own _) _ _=>true
 |c=>c.kx
def AV.ags:AV->Bool
 | .val _ cs=>cs.all AC.ags
 | .yh vs=>vs.all λx=>x.2.all AC.ags
def adp (st:AS)(s:Nat)(cs:ax AC):AS:={(st.fD s (some cs)).gn (some s)with ep:=st.ep+1}
def wR (o:Oper)(f:Nat)(args:ax Operand)(st:AS)(K:AS->az R):az R:=
 match args with
 |x0::xs=>
  match st.rd x0 with
  | .val false [.ptr s 0]=>
    match (nth st.boxes s).getD none with
    |some cs=>
     bif cs.all (AC.AH (Fv cs))&&xs.all (Eh st) then
      aa ((Γ f).fn (.val true (cs.map AC.Wi)::xs.map (Dc st))) λy=>
       bif ((Γ f).back y).all (AC.AH true)&&((Γ f).av y).ags then
        bif (Γ f).cur&&cs.all AC.Jx then
         K (((st.fD s (some (qY (Fv cs) (λ_=>none) 0 ((Γ f).back y)))).gn o.dst).put o.dst (((Γ f).av y).Fw st.ep (st.ja o.dst)))
        else
        K (((adp st s (qY (Fv cs) (st.ja (some s)) 0 ((Γ f).back y))).gn o.dst).put o.dst
          (((Γ f).av y).Fw (st.ep+1) ((adp st s (qY (Fv cs) (st.ja (some s)) 0 ((Γ f).back y))).ja o.dst)))
       else none
     else none
    |none=>none
  |_=>none
 |[]=>none
def agt (o:Oper)(f:Nat)(args:ax Operand)(st:AS)(K:AS->az R):az R:=
 match o.dst with
 |some d=>
  match nth st.boxes d with
  |some none=>
   bif args.all (λx=>(st.rd x).Lp) then
    aa ((Γ f).fn (args.map st.rd)) λy=>
     bif ((Γ f).back y).all AC.Lp then K ((st.fD d (some ((Γ f).back y))).put (some d) (.one (.ptr d 0))) else none
   else none
  |_=>none
 |none=>none
def Fy (o:Oper)(f:Operand)(args:ax Operand)(st:AS)(K:AS->az R):az R:=
 match st.rd f with
 | .val false [.fn f]=>
   bif (Γ f).bx then wR Γ o f args st K else
   bif (Γ f).pr then agt Γ o f args st K else
   bif (Γ f).io then none
   else aa ((Γ f).fn (args.map λx=>((st.rd x).fresh st).asArg st.ep)) λr=>cond ((Γ f).sel r) (K ((st.gn o.dst).put o.dst (((Γ f).av r).Fw st.ep (st.ja o.dst)))) (K ((st.gn o.dst).put o.dst (((Γ f).alt r).Fw st.ep (st.ja o.dst))))
 |_=>none
def Fz {R:Type}(op:BinOp)(b:Bool)(K:AC->az R):az R:=
 match op with
 | .eql=>K (.bool b)
 | .neq=>K (.bool (!b))
 |_=>none
def CU (o:Oper)(op:BinOp)(T:TypeId)(x y:Operand)(st:AS)(K:AS->az R):az R:=
 match st.rd x,st.rd y with
 | .val false [.bool a],.val false [.bool b]=>if E.bool T then HP op (.one (.bool a)) (.one (.bool b)) λc=>K (st.put o.dst (.one c)) else none
 | .val true xs,.val true ys=>match To E.eqs T with
   |some ls=>if fits ls xs then HP op (.val true xs) (.val true ys) λc=>K (st.put o.dst (.one c)) else none
   |none=>none
 | .val false [.sl fl _ xs],.val false [.kI]=>if(E.sl T).isSome/\fl.live st.ep then(if xs.length=0 then none else Fz op false λc=>K (st.put o.dst (.one c))) else none
 | .val false [.kI],.val false [.kI]=>if(E.sl T).isSome then Fz op true λc=>K (st.put o.dst (.one c)) else none
 |a,b=>HP op a b λc=>K (st.put o.dst (.one c))
def cX (o:Oper)(st:AS)(K:AS->az R):az R:=
 match o.op with
 | .move x=>El an o x st K
 | .assign x=>if Cn an o then Tl o x st K else wQ E an o x st K
 | .pick c a b=>GD o c a b st K
 | .alloc T=>EH E o T st K
 | .box _ x=>Uq o x st K
 | .load T p=>qK E an o T p st K
 | .store T p x=>match o.dst with|none=>(if Cn an o then yP E T p x st K else yO E T p x st K)|some _=>none
 | .nilCheck x=>
   match st.rd x with
   | .val false [.ptr s off]=>K (st.put o.dst (.one (.ptr s off)))
   | .val false [.Dy fl e y i off]=>K (st.put o.dst (.one (.Dy fl e y i off)))
   |_=>none
 | .binOp op T x y _=>CU E o op T x y st K
 | .unOp op _ x=>unC op (st.rd x) λc=>K (st.put o.dst (.one c))
 | .fieldAddr S p f=>B7 E o S p f st K
 | .indexAddr T x i=>nO E o T x i st K
 | .index T x i=>DH E o T x i st K
 | .build T parts=>Dv E o T parts.toList st K
 | .buildSlice T len parts=>mY E o T len parts.toList st K
 | .makeSlice T n c=>qj E o T n c st K
 | .slice T x lo hi none=>Cz E an o T x lo hi st K
 | .field S (.tmp t) f=>Hh E o S t f st K
 | .call {callee:=.builtin .copy,args,argTypes}=>Sw E o argTypes.toList args.toList st K
 | .convert src dst x=>nb E o src dst x st K
 | .extract (.tmp t) i=>ng o t i st K
 | .call {callee:=.builtin .len,args,argTypes}=>Qi E o argTypes.toList args.toList st K
 | .call {callee:=.builtin .min,args,..}=>R5 o args.toList st K
 | .call {callee:=.builtin .max,args,..}=>R4 o args.toList st K
 | .call {callee:=.builtin .append,args,argTypes}=>yS E o argTypes.toList args.toList st K
 | .call {callee:=.value f,args,..}=>Fy Γ o f args.toList st K
 |_=>none
def ig (ops:ax Oper)(o:Oper)(st:AS)(K:AS->az R):az R:=
 match o.guard with
 |none=>cX E Γ an o st K
 |some (j,Jl)=>
  match (nth ops j).bind (·.dst)with
  |some d=>
   match st.get d with
   | .val false [.bool b]=>
     let go (t:Bool):az R:=
      if t==Jl then cX E Γ an o (st.put (some d) (.one (.bool t))) K else K ((st.put (some d) (.one (.bool t))).put o.dst (.one .un))
     cond b (go true) (go false)
   | .val false [.un]=>K (st.put o.dst (.one .un))
   |_=>none
  |none=>none
def VS (ops:ax Oper):ax Oper->AS->(AS->az R)->az R
 |[],st,K=>K st
 |o::r,st,K=>ig E Γ an ops o st λbZ=>VS ops r bZ K
def ff:Code->Nat
 | .region id _ _=>id
 | .seq a _=>ff a
 | .block _ c=>ff c
 | .loop c=>ff c
 | .cond _ a b=>match ff a with|0=>ff b|n=>n
 |_=>0
def FX (c:Code):Nat:=1000000+2*ff c
def mf (l:fK):Code->ax Code
 | .seq a b=>mf l a++(bif l.contains (ff b) then b::mf l b else mf l b)
 | .cond _ a b=>mf l a++mf l b
 | .block _ c=>mf l c
 | .loop c=>mf l c
 |_=>[]
def nd (l:fK)(fn:Func)(k:Nat):Code:=(nth (mf l (fn.body.getD .skip)) k).getD .skip
def jd:Code->ax Code
 | .seq a b=>jd a++jd b
 | .cond _ a b=>jd a++jd b
 | .block _ c=>jd c
 | .loop c=>c::jd c
 |_=>[]
def cz (fn:Func)(k:Nat):Code:=(nth (jd (fn.body.getD .skip)) k).getD .skip
def adX (j:Nat):Nat:=3*(4096*1000003+j)
def lQ.GU:lQ->az Nat
 | .slot s j=>bif Nat.ble 4096 j then none else bif Nat.ble 1000000 s then none else some (3*(4096*s+j))
 | .box s j=>bif Nat.ble 4096 j then none else some (3*(4096*s+j)+1)
 | .io j=>bif Nat.ble 4096 j then none else some (adX j)
def AC.ajD (io:ax AC)(j t:Nat)(e:CT):az (ax e.D):=
 match nth io j with
 |some (.sl (.own (some t')) e' ys)=>if h:e'=e then bif t'==t then some (h▸ys) else none else none
 |_=>none
def AC.mask (keep:fK)(ep:Nat)(io:ax AC)(rt:lQ):AC->AC
 | .ptr s off=>if keep.contains s then .ptr s off else .bot
 | .sl (.loc e pv) t xs=>
   match pv with
   |some (.io j,n)=>match AC.ajD io j n t with
    |some ys=> .sl (.loc 0 ((lQ.GU (.io j)).map λq=>(.io j,q))) t ys
    |none=>if e==ep then .sl (.loc 0 none) t xs else .bot
   |_=>if e==ep then .sl (.loc 0 none) t xs else .bot
 | .sl (.own _) t xs=> .sl (.own rt.GU) t xs
 | .sl (.nest ..) _ _=> .bot
 | .sl (.part ..) _ _=> .bot
 | .sl (.ga _ i _) e xs=> .sl (.ga none i none) e xs
 | .Dy _ _ _ _ _=> .bot
 |c=>c
def LY (keep:fK)(ep:Nat)(io:ax AC)(f:Nat->lQ):Nat->ax AC->ax AC
 |_,[]=>[]
 |j,c::cs=>c.mask keep ep io (f j)::LY keep ep io f (j+1) cs
def AV.mask (keep:fK)(ep:Nat)(io:ax AC)(s:Nat):AV->AV
 | .val g cs=> .val g (LY keep ep io (.slot s) 0 cs)
 | .yh _=> .bot
def pg (keep:fK)(ep:Nat)(io:ax AC):Nat->ax AV->ax AV
 |_,[]=>[]
 |i,v::r=>(if keep.contains i then v.mask keep ep io i else .bot)::pg keep ep io (i+1) r
def pc (keep:fK)(ep:Nat)(io:ax AC):Nat->ax (az (ax AC))->ax (az (ax AC))
 |_,[]=>[]
 |i,b::r=>(if keep.contains i then b.map (LY keep ep io (.box i) 0) else none)::pc keep ep io (i+1) r
def ach (keep:fK):Nat->ax AC->ax AC
 |_,[]=>[]
 |j,c::cs=>(match c with| .sl (.own _) e xs=> .sl (.own (lQ.GU (.io j))) e xs| .sl (.ga _ i _) e xs=> .sl (.ga none i none) e xs| .ptr s off=>if keep.contains s then .ptr s off else .bot|c=>bif c.kx then c else .bot)::ach keep (j+1) cs
def AS.mask (keep:fK)(st:AS):AS:=
 ⟨pg keep st.ep st.io 0 st.slots,pc keep st.ep st.io 0 st.boxes,0,List.replicate st.slots.length false,ach keep 0 st.io⟩
def getBool (st:AS)(s:Nat):az Bool:=
 match st.get s with
 | .val false [.bool b]=>some b
 |_=>none
def iq (an:An)(ds:fK)(o:Oper):Bool:=
 match o.op with
 | .assign (.const _)=> !Cn an o
 | .assign (.tmp t)=>ds.contains t&& !Cn an o
 | .move _| .load ..=>match o.dst with|some d=> !an.mv.contains d|none=>false
 | .slice ..=> !GZ an o
 | .pick ..| .binOp ..| .unOp ..| .fieldAddr ..| .indexAddr ..| .index ..| .nilCheck _=>true
 | .build _ ps=>ps.isEmpty
 | .call {callee:=.builtin .len,..}| .call {callee:=.builtin .min,..}| .call {callee:=.builtin .max,..}=>true
 | .call {callee:=.value _,..}=>true
 |_=>false
def IK (ops:ax Oper):fK:=ops.filterMap (·.dst)
def AS.C6 (st:AS):fK->AS
 |[]=>st
 |d::r=>((st.put (some d) .bot).gn (some d)).C6 r
def HW (ops:ax Oper)(A:ax fK):Nat->ax Oper->AS->(AS->az R)->az R
 |_,[],st,K=>K st
 |i,o::r,st,K=>bif dV E an (uD an A i 0 ops) o st then ig E Γ an ops o st λbZ=>HW ops A (i+1) r bZ K else none
def F9 (ops:ax Oper)(draw:Bool)(st:AS)(K:AS->az R):az R:=
 bif draw then(bif W5 an ops then HW E Γ.Ji an ops (WE ops []) 0 ops st K else none) else VS E Γ an ops ops st K
def VZ (id:Nat)(ops:ax Oper)(draw:Bool)(st:AS)(K:AS->az R):az R:=
 match an.merge id with
 |none=>F9 E Γ an ops draw st K
 |some s=>
  if ops.all (iq an (IK ops)) then
   aa (F9 E Γ.calm an ops draw st λbZ=>getBool bZ s) λb=>K ((st.C6 (IK ops)).put (some s) (.one (.bool b)))
  else none
def Dd (key:fK)(B:AS->(Ex->AS->az R)->az R):Nat->AS->(Ex->AS->az R)->az R
 |0,_,_=>none
 |m+1,st,K=>B st λe bZ=>
  match e with
  | .normal=>Dd key B m (bZ.mask key) K
  |e=>K e (bZ.mask key)
def den (Λ:lZ):Code->AS->(Ex->AS->az R)->az R
 | .skip,st,K=>K .normal st
 | .region id ops draw,st,K=>VZ E Γ an id ops.toList draw st (K .normal)
 | .seq a b,st,K=>den Λ a st λe bZ=>match e with
   | .normal=>bif an.cut.contains (ff b) then(Λ (FX b)).go (bZ.mask (an.mask (FX b))) K else den Λ b bZ K
   |e=>K e bZ
 | .cond c a b,st,K=>
   match st.rd c with
   | .val false [.bool t]=>cond t (den Λ a st K) (den Λ b st K)
   |_=>none
 | .block id c,st,K=>den Λ c st λe bZ=>
   match e with
   | .exit j=>if j==id then K .normal bZ else K (.exit j) bZ
   |e=>K e bZ
 | .loop c,st,K=>
   bif an.peel.contains (ff c) then den Λ c (st.mask (an.mask (ff c))) λe bZ=>
    match e with
    | .normal=>(Λ (ff c)).go (bZ.mask (an.mask (ff c))) K
    |e=>K e (bZ.mask (an.mask (ff c)))
   else(Λ (ff c)).go (st.mask (an.mask (ff c))) K
 | .exit id,st,K=>K (.exit id) st
 | .ret,st,K=>K .ret st
 |_,_,_=>none
end
def QH (st:AS)(E:Env):ResultVar->az ((Bool×Nat)×Bool×ax AC)
 | .tmp t=>match st.get t with| .val g cs=>some ((false,t),g,cs.map AC.strip)|_=>none
 | .cell t T=>match jU E.ty T,st.get t with
   |some sh,.val false [.ptr s off]=>((nth st.boxes s).getD none).bind λcs=>
    if off+sh.ct.size<=cs.length then some ((true,s),sh.agg,((cs.drop off).take sh.ct.size).map AC.strip) else none
   |_,_=>none
def uy (st:AS)(E:Env):ax (Bool×Nat)->ax ResultVar->az (ax (Bool×ax AC))
 |_,[]=>some []
 |had,r::rs=>(QH st E r).bind λx=>if had.contains x.1 then none else(uy st E (x.1::had) rs).bind λxs=>some (x.2::xs)
def results (E:Env)(rs:ax ResultVar)(st:AS):az AV:=
 match uy st E [] rs with
 |some [(g,cs)]=>some (.val g cs)
 |some vs=>some (.yh vs)
 |none=>none
def start (fn:Func)(args:ax AV):AS:=⟨args++List.replicate (fn.ntmps-args.length) .bot,List.replicate (args.length+(fn.ntmps-args.length)) none,0,List.replicate fn.ntmps false,[]⟩
abbrev lX:ax (Bool×FT)->Type
 |[]=>Unit
 |[(_,t)]=>t.ct.D
 |(_,t)::r=>t.ct.D×lX r
def mO:(l:ax (Bool×FT))->ax (Bool×ax AC)->az (lX l)
 |[],[]=>some ()
 |[(g,t)],[(g',cs)]=>bif g==g' then(match Ot t cs with|some (x,[])=>some x|_=>none) else none
 |(g,t)::p::r,(g',cs)::vs=>bif g==g' then(match Ot t cs with|some (x,[])=>(mO (p::r) vs).bind λy=>some (x,y)|_=>none) else none
 |_,_=>none
def apu:(l:ax (Bool×FT))->lX l->ax (Bool×ax AC)
 |[],_=>[]
 |[(g,t)],x=>[(g,kv t x)]
 |(g,t)::p::r,x=>(g,kv t x.1)::apu (p::r) x.2
def BX (l:ax (Bool×FT))(x:lX l):AV:=
 match apu l x with
 |[(g,cs)]=> .val g cs
 |vs=> .yh vs
def Ga (E:Env)(Γ:BV)(an:An)(Λ:lZ)(fn:Func)(rs:ax (Bool×FT))(args:ax AV):az (lX rs):=
 match fn.body with
 |some c=>if args.length=fn.params.size then den E Γ an Λ c (start fn args) λe st=>
  match e with
  | .exit _=>none
  |_=>aa (uy st E [] fn.results.toList) (mO rs)
  else none
 |none=>none
def evalAlt (E:Env)(Γ:BV)(an:An)(Λ:lZ)(fn:Func)(rs RB:ax (Bool×FT))(h:lX RB=lX rs)(args:ax AV):az (Bool×lX rs):=
 match fn.body with
 |some c=>if args.length=fn.params.size then den E Γ an Λ c (start fn args) λe st=>
  match e with
  | .exit _=>none
  |_=>aa (uy st E [] fn.results.toList) λys=>
   match mO rs ys with
   |some y=>some (true,y)
   |none=>match mO RB ys with
    |some y=>some (false,cast h y)
    |none=>none
  else none
 |none=>none
def JA:Nat->ax AC->ax AC
 |_,[]=>[]
 |j,.sl (.own _) e xs::cs=> .sl (.own (some (3*j+1))) e xs::JA (j+1) cs
 |j,c::cs=>c::JA (j+1) cs
def CE (fn:Func)(cs:ax AC)(args:ax AV):AS:=
 {start fn (.one (.ptr 0 0)::args)with boxes:=some (JA 0 cs)::List.replicate (args.length+(fn.ntmps-(args.length+1))) none,io:=[.ptr 0 0]}
def adH (E:Env)(Γ:BV)(an:An)(Λ:lZ)(fn:Func)(rs:ax (Bool×FT))(t:FT)(args:ax AV):az (lX rs×t.ct.D):=
 match fn.body,args with
 |some c,.val true cs::xs=>if xs.length+1=fn.params.size/\cs.all (AC.AH true)=true then den E Γ an Λ c (CE fn cs xs) λe st=>
  match e with
  | .exit _=>none
  |_=>aa (aa (uy st E [(true,0)] fn.results.toList) (mO rs)) λr=>
   match st.io,st.boxes with
   |[.ptr 0 0],some sq::_=>match Ot t (sq.map AC.strip)with
    |some (x,[])=>some (r,x)
    |_=>none
   |_,_=>none
  else none
 |_,_=>none
def U3 (E:Env)(Γ:BV)(an:An)(Λ:lZ)(fn:Func)(t:FT)(args:ax AV):az t.ct.D:=
 match fn.body with
 |some c=>if args.length=fn.params.size then den E Γ an Λ c (start fn args) λe st=>
  match e with
  | .exit _=>none
  |_=>match fn.results.toList with
   |[.tmp i]=>match st.get i with
    | .val false [.ptr s 0]=>match (nth st.boxes s).getD none with
      |some cs=>if cs.all AC.Lp=true then(match Ot t (cs.map AC.strip)with|some (x,[])=>some x|_=>none) else none
      |none=>none
    |_=>none
   |_=>none
  else none
 |none=>none
end Go.Dn
