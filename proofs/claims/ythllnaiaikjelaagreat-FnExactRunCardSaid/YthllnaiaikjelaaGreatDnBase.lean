import Derived.Test.YthllnaiaikjelaaGreatDnData
/- An abstract, heap-free semantics of the model's code, for functions that treat their data by value: definitions. -/
namespace Go.Dn
inductive lW where
 |slot (s j:Nat)|box (s j:Nat)|io (j:Nat)
 deriving DecidableEq
inductive ux where
 |own (tag:Option Nat)
 |loc (ep:Nat) (pv:Option (lW×Nat))
 |arg (k:Bool)
 |nest (ep:Nat) (r:lW) (t:Nat) (e:CT) (i:Int) (off:Nat)
 |part (ep:Nat) (r:lW) (t:Nat) (lo:Int)
 |fL (tag:Option Nat) (i:Int) (ep:Option Nat)
inductive AC where
 |int (k:IntKind) (n:Int)|bool (b:Bool)|str (s:List UInt8)
 |sl (fl:ux) (e:CT) (xs:List e.D)
 |kS
 |ptr (s off:Nat)
 |HM (fl:ux) (e:CT) (x:e.D) (i:Int) (off:Nat)
 |fn (f:Nat)
 |un
 |bot
inductive AV where
 |val (agg:Bool) (cs:List AC)
 |Af (vs:List (Bool×List AC))
abbrev AV.one (c:AC):AV:=.val false [c]
abbrev AV.bot:AV:=.val false [.bot]
structure AS where
 slots:List AV
 boxes:List (Option (List AC))
 ep:Nat
 iss:List Bool
 io:List AC
structure Shape where
 agg:Bool
 ct:CT
 lG:List (Nat×Nat):=[]
structure An where
 mask:Nat->List Nat:=λ_=>[]
 merge:Nat->Option Nat:=λ_=>none
 mv:List Nat:=[]
 nest:List Nat:=[]
 mb:Nat->Option Nat:=λ_=>none
 sb:Nat->Option Nat:=λ_=>none
 late:List Nat:=[]
 peel:List Nat:=[]
 nils:List Nat:=[]
 fm:List Nat:=[]
 eb:Nat->Option Nat:=λ_=>none
 es:Nat->Option Nat:=λ_=>none
 er:Nat->Option Nat:=λ_=>none
 cut:List Nat:=[]
def cellsOf:(t:CT)->ux->t.D->ar AC
 | .int k,_,n=>[.int k n]
 | .bool,_,b=>[.bool b]
 | .str,_,s=>[.str s]
 | .sl e,fl,xs=>[.sl fl e xs]
 | .pair a b,fl,x=>cellsOf a fl x.1++cellsOf b fl x.2
def jP:(t:CT)->ar AC->au (t.D×ar AC)
 | .int k,.int k' n::r=>if k'=k then some (n,r) else none
 | .bool,.bool b::r=>some (b,r)
 | .str,.str s::r=>some (s,r)
 | .sl e,.sl (.own _) e' xs::r=>if h:e'=e then some (h▸xs,r) else none
 | .sl _,.kS::r=>some ([],r)
 | .pair a b,cs=>(jP a cs).bind λx=>(jP b x.2).bind λy=>some ((x.1,y.1),y.2)
 |_,_=>none
def nth {α:Type}:ar α->Nat->au α
 |[],_=>none
 |a::_,0=>some a
 |_::l,n+1=>nth l n
def iQ {α:Type}:ar α->Nat->α->ar α
 |[],_,_=>[]
 |_::l,0,v=>v::l
 |a::l,n+1,v=>a::iQ l n v
def AS.get (st:AS)(i:Nat):AV:=(nth st.slots i).getD .bot
def AS.put (st:AS)(d:au Nat)(v:AV):AS:=
 match d with
 |some d=>{st with slots:=iQ st.slots d v}
 |none=>st
def Q7 (d j:Nat):Nat:=3*(4096*d+j)+2
def AS.jb (st:AS)(d:au Nat)(j:Nat):au Nat:=
 match d with
 |some d=>bif (nth st.iss d).getD true then none else bif Nat.ble 4096 j then none else some (Q7 d j)
 |none=>none
def AS.fR (st:AS)(d:au Nat):AS:=
 match d with
 |some d=>{st with iss:=iQ st.iss d true}
 |none=>st
def AS.tj (st:AS)(d:au Nat)(e:CT)(xs:ar e.D):AS:=
 (st.fR d).put d (.one (.sl (.own (st.jb d 0)) e xs))
def AC.borrow (ep:Nat)(rt:au lW):AC->AC
 | .sl (.own tag) e xs=> .sl (.loc ep (match rt,tag with|some r,some t=>some (r,t)|_,_=>none)) e xs
 | .sl (.fL tag _ (some UY)) e xs=> .sl (.loc UY (match rt,tag with|some r,some t=>some (r,t)|_,_=>none)) e xs
 | .sl (.fL _ _ none) _ _=> .bot
 |c=>c
def jl (ep:Nat)(f:Nat->lW):Nat->ar AC->ar AC
 |_,[]=>[]
 |j,c::cs=>c.borrow ep (some (f j))::jl ep f (j+1) cs
def bc (ep:Nat)(cs:ar AC):ar AC:=cs.map (AC.borrow ep none)
def AV.borrow (ep:Nat)(f:Nat->lW):AV->AV
 | .val g cs=> .val g (jl ep f 0 cs)
 | .Af vs=> .Af (vs.map λx=>(x.1,bc ep x.2))
def AV.bc (ep:Nat):AV->AV
 | .val g cs=> .val g (Dn.bc ep cs)
 | .Af vs=> .Af (vs.map λx=>(x.1,Dn.bc ep x.2))
def ofConst:Value->AV
 | .int k n=> .one (.int k n)
 | .bool b=> .one (.bool b)
 | .string s=> .one (.str s.data.toList)
 | .slice none 0 0=> .one .kS
 |_=> .bot
def AS.rd (st:AS):Operand->AV
 | .tmp t=>(st.get t).borrow st.ep (.slot t)
 | .const v=>ofConst v
 | .func f=> .one (.fn f)
 | .global _=> .bot
def AS.take (st:AS):Operand->AV×AS
 | .tmp t=>(st.get t,st.put (some t) ((st.get t).bc st.ep))
 |x=>(st.rd x,st)
def AS.eZ (st:AS)(s:Nat)(b:au (ar AC)):AS:={st with boxes:=iQ st.boxes s b}
def AC.asArg (ep:Nat):AC->AC
 | .int k n=> .int k n
 | .bool b=> .bool b
 | .str s=> .str s
 | .sl (.own _) e xs=> .sl (.arg false) e xs
 | .sl (.loc ep' _) e xs=>if ep'==ep then .sl (.arg false) e xs else .bot
 | .sl (.arg _) e xs=> .sl (.arg false) e xs
 | .kS=> .kS
 | .fn f=> .fn f
 |_=> .bot
def AV.asArg (ep:Nat):AV->AV
 | .val g cs=> .val g (cs.map (AC.asArg ep))
 | .Af _=> .bot
def AC.K9 (ep:Nat)(tag:au Nat):AC->AC
 | .sl (.own _) e xs=> .sl (.own tag) e xs
 | .sl (.arg _) e xs=> .sl (.loc ep none) e xs
 | .sl (.loc _ _) _ _=> .bot
 | .sl (.nest ..) _ _=> .bot
 | .sl (.part ..) _ _=> .bot
 | .sl (.fL _ i _) e xs=> .sl (.fL none i none) e xs
 | .ptr _ _=> .bot
 | .HM _ _ _ _ _=> .bot
 |c=>c
def QI (ep:Nat)(mk:Nat->au Nat):Nat->ar AC->ar AC
 |_,[]=>[]
 |j,c::cs=>c.K9 ep (mk j)::QI ep mk (j+1) cs
def agA (ep:Nat)(mk:Nat->au Nat):Nat->ar (Bool×ar AC)->ar (Bool×ar AC)
 |_,[]=>[]
 |j,t::ts=>(t.1,QI ep mk j t.2)::agA ep mk (j+t.2.length) ts
def AV.K9 (ep:Nat)(mk:Nat->au Nat):AV->AV
 | .val g cs=> .val g (QI ep mk 0 cs)
 | .Af vs=> .Af (agA ep mk 0 vs)
def AC.PC:AC->Bool
 | .sl (.arg _) _ _=>true
 | .int ..=>true
 | .bool _=>true
 | .str _=>true
 | .fn _=>true
 |_=>false
structure EI where
 R:Type
 fn:List AV->Option R
 av:R->AV
 io:Bool:=false
 back:R->List AC:=λ_=>[]
 bx:Bool:=false
 pr:Bool:=false
 sel:R->Bool:=λ_=>true
 alt:R->AV:=λ_=> .val false [.bot]
 cur:Bool:=false
 hcur:cur=true->∀y,(back y).all AC.PC=true:=by intro h;cases h
def EI.res (F:EI)(y:F.R):AV:=cond (F.sel y) (F.av y) (F.alt y)
abbrev Cr:=Nat->EI
def EI.dead:EI:={R:=Unit,fn:=λ_=>none,av:=λ_=> .val false [.bot]}
def Cr.calm (Γ:Cr):Cr:=λf=>bif (Γ f).io||(Γ f).bx||(Γ f).pr then EI.dead else Γ f
def Cr.Pp (Γ:Cr):Cr:=λf=>bif (Γ f).io||(Γ f).pr||((Γ f).bx&& !(Γ f).cur) then EI.dead else Γ f
def Qu {R:Type}(op:BinOp)(k:IntKind)(x y:Int)(K:AC->au R):au R:=
 match op with
 | .add=>K (.int k (k.wrap (x+y)))
 | .sub=>K (.int k (k.wrap (x-y)))
 | .mul=>K (.int k (k.wrap (x*y)))
 | .quo=>if y=0 then none else K (.int k (k.wrap (x.tdiv y)))
 | .rem=>if y=0 then none else K (.int k (x.tmod y))
 | .and=>K (.int k (k.wrap (BitVec.ofInt k.bits x&&&BitVec.ofInt k.bits y).toNat))
 | .or=>K (.int k (k.wrap (BitVec.ofInt k.bits x|||BitVec.ofInt k.bits y).toNat))
 | .xor=>K (.int k (k.wrap (BitVec.ofInt k.bits x^^^BitVec.ofInt k.bits y).toNat))
 | .andNot=>K (.int k (k.wrap (BitVec.ofInt k.bits x&&&~~~ BitVec.ofInt k.bits y).toNat))
 | .eql=>K (.bool (x==y))
 | .neq=>K (.bool (x !=y))
 | .lss=>K (.bool (decide (x<y)))
 | .leq=>K (.bool (decide (x<=y)))
 | .gtr=>K (.bool (decide (x>y)))
 | .geq=>K (.bool (decide (x>=y)))
 |_=>none
def Tm {R:Type}(op:BinOp)(x y:ar UInt8)(K:AC->au R):au R:=
 match op with
 | .add=>room (x.length+y.length) (K (.str (x++y)))
 | .eql=>K (.bool (x==y))
 | .neq=>K (.bool (!(x==y)))
 | .lss=>K (.bool (Op.bytesLess x y))
 | .leq=>K (.bool (Op.bytesLess x y||x==y))
 | .gtr=>K (.bool (!(Op.bytesLess x y||x==y)))
 | .geq=>K (.bool (!(Op.bytesLess x y)))
 |_=>none
def Am:ar AC->ar AC->au Bool
 |[],[]=>some true
 | .int k x::r,.int k' y::r'=>if k=k' then(Am r r').bind λb=>some ((x==y)&&b) else none
 | .bool x::r,.bool y::r'=>(Am r r').bind λb=>some ((x==y)&&b)
 | .str x::r,.str y::r'=>(Am r r').bind λb=>some ((x==y)&&b)
 |_,_=>none
def NQ {R:Type}(op:BinOp)(x y:AV)(K:AC->au R):au R:=
 match x,y with
 | .val false [.int k a],.val false [.int k' b]=>
   match op with
   | .shl=>if b<0 then none else K (.int k (k.wrap (a*2^(min b.toNat k.bits))))
   | .shr=>if b<0 then none else K (.int k (a.fdiv (2^(min b.toNat k.bits))))
   |_=>if k=k' then Qu op k a b K else none
 | .val false [.str a],.val false [.str b]=>Tm op a b K
 | .val false [.bool a],.val false [.bool b]=>
   match op with
   | .eql=>K (.bool (a==b))
   | .neq=>K (.bool (!(a==b)))
   |_=>none
 | .val true xs,.val true ys=>
   match op with
   | .eql=>aa (Am xs ys) λb=>K (.bool b)
   | .neq=>aa (Am xs ys) λb=>K (.bool (!b))
   |_=>none
 |_,_=>none
def unC {R:Type}(op:UnOp)(x:AV)(K:AC->au R):au R:=
 match op,x with
 | .not,.val false [.bool b]=>K (.bool (!b))
 | .neg,.val false [.int k n]=>K (.int k (k.wrap (0-n)))
 | .xor,.val false [.int k n]=>Qu .xor k (if k.signed then-1 else k.max) n K
 |_,_=>none
def dw (cs:ar AC)(off:Nat)(vs:ar AC):ar AC:=cs.take off++vs++cs.drop (off+vs.length)
def AS.fj (st:AS):lW->au AC
 | .slot s j=>match st.get s with| .val _ cs=>nth cs j|_=>none
 | .box s j=>((nth st.boxes s).getD none).bind λcs=>nth cs j
 | .io j=>nth st.io j
def AS.fD (st:AS)(r:lW)(c:AC):AS:=
 match r with
 | .slot s j=>match st.get s with| .val g cs=>st.put (some s) (.val g (iQ cs j c))|_=>st
 | .box s j=>match (nth st.boxes s).getD none with|some cs=>st.eZ s (some (iQ cs j c))|none=>st
 | .io j=>{st with io:=iQ st.io j c}
def AS.fresh (st:AS):AC->AC
 | .sl (.loc ep (some (r,t))) e xs=>
   bif ep==st.ep then .sl (.loc ep (some (r,t))) e xs else
    match st.fj r with
    |some (.sl (.own (some t')) e' ys)=>if h:e'=e then bif t'==t then .sl (.loc st.ep (some (r,t))) e (h▸ys) else .sl (.loc ep (some (r,t))) e xs else .sl (.loc ep (some (r,t))) e xs
    |_=> .sl (.loc ep (some (r,t))) e xs
 |c=>c
def AV.fresh (st:AS):AV->AV
 | .val g cs=> .val g (cs.map st.fresh)
 | .Af vs=> .Af vs
def AC.now (ep:Nat):AC->Bool
 | .sl (.loc ep' (some _)) _ _=>ep'==ep
 |_=>true
def AS.sM {R:Type}(st:AS)(r:lW)(t:Nat)(e:CT)(i:Int)(off:Nat)(vs:ar AC)(K:AS->au R):au R:=
 match st.fj r with
 |some (.sl (.own (some t')) e' xs)=>
  if h:e'=e then
   if t'=t then
    aa (idx (h▸xs:ar e.D) i) λx=>
     match jP e (dw (cellsOf e (.own none) x) off vs)with
     |some (x',[])=>K {st.fD r (.sl (.own (some t')) e ((h▸xs:ar e.D).set i.toNat x'))with ep:=st.ep+1}
     |_=>none
   else none
  else none
 |some (.sl (.fL (some t') i' _) e' xs)=>
  if h:e'=e then
   if t'=t/\off=0 then
    aa (aje (h▸xs:ar e.D) i' i) λ_=>
     match jP e vs with
     |some (x',[])=>K {st.fD r (.sl (.own (some t')) e ((h▸xs:ar e.D).set i.toNat x'))with ep:=st.ep+1}
     |_=>none
   else none
  else none
 |_=>none
def AV.cells:AV->ar AC
 | .val _ cs=>cs
 | .Af _=>[.bot]
def ft (st:AS):ar Operand->ar AV×AS
 |[]=>([],st)
 |x::xs=>let (v,st1):=st.take x;let (vs,st2):=ft st1 xs;(v::vs,st2)
def Jk (e:CT):ar (ar AC)->au (ar e.D)
 |[]=>some []
 |cs::r=>match jP e cs with
  |some (x,[])=>(Jk e r).bind λxs=>some (x::xs)
  |_=>none
def Qs:Nat->ar (Nat×Operand)->Bool
 |_,[]=>true
 |n,(i,_)::r=>i==n&&Qs (n+1) r
def AC.QR:AC->Bool
 | .bot=>false
 | .un=>false
 |_=>true
def CA (lG:ar (Nat×Nat))(zero:ar AC):ar (Nat×ar AC)->au (ar AC)
 |[]=>some zero
 |(i,cs)::r=>match nth lG i with
  |some (off,n)=>if cs.length=n/\off+n<=zero.length/\cs.all AC.QR then CA lG (dw zero off cs) r else none
  |none=>none
inductive LK where
 |int|bool|str
 deriving DecidableEq
structure Env where
 ty:List (Nat×Shape)
 eqs:List (Nat×List LK):=[]
 fts:List ((Nat×Nat)×Nat):=[]
def YK (l:ar (Nat×ar LK))(t:Nat):au (ar LK):=
 match l with
 |[]=>none
 |(u,sh)::r=>bif u==t then some sh else YK r t
def fits:ar LK->ar AC->Bool
 |[],[]=>true
 | .int::ls,.int _ _::r=>fits ls r
 | .bool::ls,.bool _::r=>fits ls r
 | .str::ls,.str _::r=>fits ls r
 |_,_=>false
def ac2 (l:ar ((Nat×Nat)×Nat))(S f:Nat):au Nat:=
 match l with
 |[]=>none
 |((u,k),T)::r=>bif u==S&&k==f then some T else ac2 r S f
def jU (l:ar (Nat×Shape))(t:Nat):au Shape:=
 match l with
 |[]=>none
 |(u,sh)::r=>bif u==t then some sh else jU r t
def Env.sl (E:Env)(t:Nat):au CT:=
 match jU E.ty t with
 |some ⟨false,.sl e,_⟩=>some e
 |_=>none
def Env.str (E:Env)(t:Nat):Bool:=
 match jU E.ty t with
 |some ⟨false,.str,_⟩=>true
 |_=>false
def Env.bool (E:Env)(t:Nat):Bool:=
 match jU E.ty t with
 |some ⟨false,.bool,_⟩=>true
 |_=>false
def Env.bytes (E:Env)(t:Nat):Bool:=
 match jU E.ty t with
 |some ⟨false,.sl (.int .u8),[(te,_)]⟩=>match jU E.ty te with|some ⟨false,.int .u8,_⟩=>true|_=>false
 |_=>false
def ux.live (ep:Nat):ux->Bool
 | .loc ep' _=>ep'==ep
 | .arg _=>true
 | .own _=>false
 | .nest ..=>false
 | .part ..=>false
 | .fL ..=>false
def ux.zH (ep:Nat)(flat:Bool):ux->Bool
 | .loc ep' _=>ep'==ep&&flat
 | .arg _=>flat
 | .own _=>true
 | .nest ..=>false
 | .part ..=>false
 | .fL ..=>false
def ux.bare:ux->ux
 | .loc ep _=> .loc ep none
 |f=>f
def AC.hY:AC->Bool
 | .int _ _=>true
 | .bool _=>true
 | .str _=>true
 | .fn _=>true
 |_=>false
def tm:Operand->ei
 | .tmp t=>[t]
 |_=>[]
def XH (l:ar Operand):ei:=l.flatMap tm
def MY (an:An)(o:Oper):Bool:=
 match o.dst with
 |some d=>an.mv.contains d&&(an.mb d).isNone
 |none=>false
def ar2 (an:An)(o:Oper):Bool:=
 match o.dst with
 |some d=>an.nils.contains d
 |none=>false
def GV (an:An)(o:Oper):Bool:=
 match o.op with
 | .assign (.tmp s)=>an.late.contains s
 | .store _ _ (.tmp s)=>an.late.contains s
 |_=>false
def tmO:au Operand->ei
 |some x=>tm x
 |none=>[]
def dM (o:Oper):ei:=
 match o.op with
 | .move x=>tm x
 | .assign x=>tm x
 | .pick c a b=>tm c++tm a++tm b
 | .box _ x=>tm x
 | .load _ p=>tm p
 | .store _ p x=>tm p++tm x
 | .nilCheck x=>tm x
 | .binOp _ _ x y _=>tm x++tm y
 | .unOp _ _ x=>tm x
 | .fieldAddr _ p _=>tm p
 | .indexAddr _ x i=>tm x++tm i
 | .index _ x i=>tm x++tm i
 | .build _ parts=>XH (parts.toList.map (·.2))
 | .buildSlice _ _ parts=>XH (parts.toList.map (·.2))
 | .makeSlice _ n c=>tm n++tm c
 | .slice _ x lo hi none=>tm x++tmO lo++tmO hi
 | .convert _ _ x=>tm x
 | .extract (.tmp t) _=>[t]
 | .call {callee:=.builtin _,args,..}=>XH args.toList
 | .call {callee:=.value f,args,..}=>tm f++XH args.toList
 |_=>[]
def MX (an:An)(o:Oper):Bool:=
 match o.op with
 | .move _=>match o.dst with|some d=>an.mv.contains d|none=>false
 | .assign _=>true
 | .box ..=>true
 | .build ..=>true
 | .buildSlice ..=>true
 | .store ..=>true
 | .extract ..=>match o.dst with|some d=>an.mv.contains d|none=>false
 | .call {callee:=.builtin .append,..}=>true
 |_=>false
def MW (an:An)(o:Oper):Bool:=
 match o.op,o.dst,o.guard with
 | .load _ (.tmp q),some d,none=>an.mv.contains d&&(an.mb d).isNone&&(an.eb q).isSome
 |_,_,_=>false
def Ih (an:An)(o:Oper):Bool:=
 match o.op,o.dst,o.guard with
 | .load _ (.tmp q),some d,none=> !an.mv.contains d&& !an.fm.contains d&&(an.sb q).isSome
 |_,_,_=>false
def M0 (an:An)(o:Oper):ei:=
 match o.op with
 | .alloc _=>o.dst.toList
 | .box ..=>o.dst.toList
 | .load _ p=>match o.dst with|some d=>bif an.mv.contains d then(an.mb d).toList++(bif MW an o then(match p with| .tmp q=>(an.eb q).toList|_=>[]) else []) else []|none=>[]
 | .store _ (.tmp p) _=>(an.sb p).toList
 | .call {callee:=.value _,args,..}=>(match args.toList with| .tmp q::_=>(an.sb q).toList|_=>[])
 |_=>[]
def qC (an:An)(o:Oper):Bool:=
 match o.op with
 | .move _=>true
 | .load ..=>(match o.dst with|some d=> !an.mv.contains d||(an.mb d).isSome|none=>false)||MW an o
 | .extract (.tmp _) _=>true
 | .store _ (.tmp p) _=>(an.sb p).isSome&& !GV an o
 | .assign _=> !GV an o
 | .pick ..| .alloc _| .box ..| .nilCheck _| .binOp ..| .unOp ..| .fieldAddr ..| .indexAddr ..| .index ..| .build ..| .buildSlice ..| .makeSlice ..| .convert ..=>true
 | .slice _ _ _ _ none=> !MY an o
 | .call {callee:=.builtin .len,..}| .call {callee:=.builtin .min,..}| .call {callee:=.builtin .max,..}| .call {callee:=.builtin .append,..}=>true
 | .call {callee:=.value _,..}=>true
 |_=>false
def writes (an:An)(o:Oper):ei:=o.dst.toList++(bif MX an o then dM o else [])
def AV.now (ep:Nat):AV->Bool
 | .val _ cs=>cs.all (AC.now ep)
 | .Af _=>true
def AC.mV:AC->Bool
 | .int ..=>true
 | .bool _=>true
 | .str _=>true
 | .fn _=>true
 | .ptr ..=>true
 |_=>false
def AV.mV:AV->Bool
 | .val _ cs=>cs.all AC.mV
 | .Af _=>false
def Mc (E:Env)(T:TypeId)(st:AS)(s off:Nat):Bool:=
 match jU E.ty T,(nth st.boxes s).getD none with
 |some sh,some cs=>((cs.drop off).take sh.ct.size).all AC.mV
 |_,_=>false
def fmB (an:An)(o:Oper):Bool:=match o.dst with|some d=>an.fm.contains d|none=>false
def IT (an:An)(o:Oper):Bool:=
 match o.op,o.dst,o.guard with
 | .load _ (.tmp _),some d,none=>an.mv.contains d&&(an.mb d).isSome
 |_,_,_=>false
def Va (an:An)(o:Oper):Bool:=
 match o.op,o.dst,o.guard with
 | .load _ (.tmp _),some d,none=> !an.mv.contains d&&an.fm.contains d
 |_,_,_=>false
def erS (an:An)(o:Oper):ei:=
 match o.op,o.dst with
 | .load ..,some d=>(an.er d).toList
 | .call {callee:=.value _,..},some d=>(an.er d).toList
 |_,_=>[]
def AC.anA (l:ei):AC->Bool
 | .sl (.loc _ (some (.slot b _,_))) _ _=>l.contains b
 | .sl (.loc _ _) _ _=>false
 |_=>true
def QN (l:ei)(st:AS):Operand->Bool
 | .tmp t=>(match st.get t with| .val _ cs=>cs.all (AC.anA l)| .Af _=>true)
 |_=>true
def als (an:An)(X l:ei)(st:AS)(xs:ar Operand)(q:Nat):AV->Bool
 | .val false [.ptr s _]=> !X.contains s&&an.sb q==some s&&(match (nth st.boxes s).getD none with|some cs=>cs.all AC.PC|none=>true)&&xs.all (QN l st)
 |_=>true
def AV.ah8:AV->Bool
 | .val false [.ptr _ _]=>false
 |_=>true
def yt (an:An)(X l:ei)(st:AS):ar Operand->Bool
 | .tmp q::xs=>als an X l st xs q (st.rd (.tmp q))
 |x::_=>(st.rd x).ah8
 |[]=>true
def dI (E:Env)(an:An)(X:ei)(o:Oper)(st:AS):Bool:=
 match o.op with
 | .move x=> !fmB an o||(st.rd x).mV
 | .indexAddr _ x _=>(st.rd x).now st.ep||(match st.rd x with| .val _ [.sl (.loc _ (some (.box b _,_))) _ _]=> !X.contains b|_=>false)
 | .slice _ x _ _ none=>(st.rd x).now st.ep
 | .call {callee:=.value _,args,..}=>yt an X (erS an o) st args.toList&&args.toList.all λx=>(st.rd x).now st.ep
 | .load T p=>match st.rd p with
   | .val false [.ptr s off]=> !X.contains s&&(match o.dst with|some d=> !an.mv.contains d||an.mb d==some s|none=>true)&&(!fmB an o||Mc E T st s off)
   | .val false [.HM fl _ _ _ _]=>(fl.live st.ep||(match fl with
     | .loc _ (some (.slot b _,_))=>(erS an o).contains b
     | .loc _ (some (.box b _,_))=> !X.contains b
     |_=>false))&& !(fmB an o||IT an o)&& !Ih an o&&(!MW an o||(match p,fl with
     | .tmp q,.loc _ (some (.box b _,_))=>an.eb q==some b&& !X.contains b
     |_,_=>false))
   |_=> !(fmB an o||IT an o)
 | .store _ (.tmp p) _=>((an.sb p).isNone&&(an.eb p).isNone&&(an.es p).isNone)||(match st.rd (.tmp p)with
   | .val false [.ptr s _]=> !X.contains s&&an.sb p==some s
   | .val false [.HM (.loc _ (some (.box b _,_))) _ _ _ _]=>an.eb p==some b&&(an.sb p).isNone&&(an.es p).isNone
   | .val false [.HM (.loc _ (some (.slot b _,_))) _ _ _ _]=>an.es p==some b&&(an.sb p).isNone&&(an.eb p).isNone
   |_=>false)
 | .extract (.tmp t) i=>match st.get t with
   | .Af vs=>match nth vs i with|some x=>x.2.all AC.hY||(match o.dst with|some d=>an.mv.contains d|none=>false)|none=>true
   |_=>true
 |_=>true
def Mf (an:An)(ops:ar Oper)(o:Oper):ei:=
 (match o.guard with
 |some (j,_)=>((nth ops j).bind (·.dst)).toList
 |none=>[])++erS an o
def meets (a b:ei):Bool:=a.any λx=>b.contains x
def aeT (an:An)(ops:ar Oper)(X Y:ei)(o p:Oper):Bool:=
 qC an o&&qC an p&& !meets (writes an o) (dM p++Mf an ops p++writes an p)&& !meets (writes an p) (dM o++Mf an ops o)&&
 (M0 an o).all (λd=>Y.contains d)&&(M0 an p).all (λd=>X.contains d)&& !meets (M0 an o) (p.dst.toList++M0 an p)&& !meets (M0 an p) o.dst.toList
def aft (o p:Oper):Bool:=
 match o.op,p.op,o.dst,p.dst,o.guard,p.guard with
 | .extract (.tmp t) i,.extract (.tmp t') j,some d,some d',none,none=>t==t'&& !(i==j)&& !(d==d')&& !(d==t)&& !(d'==t)
 |_,_,_,_,_,_=>false
def afg (an:An)(o p:Oper):Bool:=
 match p.op,p.dst,p.guard with
 | .store _ (.tmp q) (.tmp x),none,none=>((an.eb q).isSome&&(an.es q).isNone||(match an.es q with|some b=>(an.eb q).isNone&& !(b==x)&& !(b==q)&& !meets [b] (o.dst.toList++dM o)|none=>false))&&(an.sb q).isNone&& !GV an p&&(match o.op,o.dst,o.guard with
   | .move (.tmp t),some d,none=> !an.mv.contains d&&an.fm.contains d&& !(d==q)&& !(d==x)&& !(t==x)&& !(t==q)&& !(d==t)
   | .extract (.tmp t) _,some d,none=> !(d==q)&& !(d==x)&& !(t==x)&& !(t==q)&& !(d==t)
   |_,_,_=>false)
 |_,_,_=>false
def agb (an:An)(o p:Oper):Bool:=
 (IT an o&&Va an p||Va an o&&IT an p)&& !meets o.dst.toList (p.dst.toList++dM p)&& !meets p.dst.toList (dM o)
def ae5 (an:An)(o p:Oper):Bool:=Ih an o&&MW an p&& !meets o.dst.toList (p.dst.toList++dM p)&& !meets p.dst.toList (dM o)
def anj (an:An)(o p:Oper):Bool:=aft o p||afg an o p||agb an o p||ae5 an o p
def UC (an:An)(ops:ar Oper)(X Y:ei)(o p:Oper):Bool:=anj an o p||aeT an ops X Y o p
def Ij (o:Oper):ei:=(o.after.toList.filter (λe=>Region.binds .any e)).map (·.on)
def abn (a b:ei):ei:=a.foldl (λs x=>bif s.contains x then s else x::s) b
def abv:ar Oper->ar ei->ar ei
 |[],acc=>acc
 |o::r,acc=>abv r (acc++[(Ij o).foldl (λs j=>abn (j::(nth acc j).getD []) s) []])
def aj7 (A:ar ei)(i k:Nat):Bool:=((nth A i).getD []).contains k
def ahw (an:An)(A:ar ei)(i:Nat)(fl pl:Bool):Nat->ar Oper->ei
 |_,[]=>[]
 |k,o::r=>(bif !aj7 A i k&& !aj7 A k i&& !(k==i)&& !(fl&&IT an o)&& !(pl&&MW an o) then M0 an o else [])++ahw an A i fl pl (k+1) r
def xy (an:An)(A:ar ei)(i k:Nat)(ops:ar Oper):ei:=ahw an A i (match nth ops i with|some o=>Va an o|none=>false) (match nth ops i with|some o=>Ih an o|none=>false) k ops
def VX (an:An)(ops:ar Oper)(A:ar ei)(i:Nat)(oi:Oper):Nat->ar Oper->Bool
 |_,[]=>true
 |j,oj::r=>bif Nat.ble i j then true else(aj7 A i j||UC an ops (xy an A j 0 ops) (xy an A i 0 ops) oj oi)&&VX an ops A i oi (j+1) r
def aaK (an:An)(ops:ar Oper)(A:ar ei):Nat->ar Oper->Bool
 |_,[]=>true
 |i,oi::r=>(Ij oi).all (λk=>Nat.blt k i)&&VX an ops A i oi 0 ops&&aaK an ops A (i+1) r
def abN (an:An)(ops:ar Oper):Bool:=aaK an ops (abv ops []) 0 ops
inductive Ex where
 |normal|ret|exit (id:Nat)
inductive FK where
 |own (tag:Option Nat)|arg|aoo|loc|lio (j t:Nat)|nil
def FK.flag:FK->ux
 | .own t=> .own t
 | .arg=> .arg false
 | .aoo=> .arg true
 | .loc=> .loc 0 none
 | .lio j t=> .loc 0 (some (.io j,t))
 | .nil=> .arg false
def FK.isNil:FK->Bool
 | .nil=>true
 |_=>false
inductive FT where
 |int (k:IntKind)|bool|str|sl (fl:FK) (e:CT)|pair (a b:FT)
abbrev FT.ct:FT->CT
 | .int k=> .int k
 | .bool=> .bool
 | .str=> .str
 | .sl _ e=> .sl e
 | .pair a b=> .pair a.ct b.ct
def jW:(t:FT)->t.ct.D->ar AC
 | .int k,n=>[.int k n]
 | .bool,b=>[.bool b]
 | .str,s=>[.str s]
 | .sl fl e,xs=>[bif fl.isNil then .kS else .sl fl.flag e xs]
 | .pair a b,x=>jW a x.1++jW b x.2
def FK.fits:FK->ux->Bool
 | .own t,.own t'=>t==t'
 | .arg,.arg k=> !k
 | .aoo,.arg k=>k
 | .loc,.loc 0 none=>true
 | .lio j t,.loc 0 (some (.io j',t'))=>j==j'&&t==t'
 |_,_=>false
def Ud:(t:FT)->ar AC->au (t.ct.D×ar AC)
 | .int k,.int k' n::r=>if k'=k then some (n,r) else none
 | .bool,.bool b::r=>some (b,r)
 | .str,.str s::r=>some (s,r)
 | .sl fl e,.sl fl' e' xs::r=>if h:e'=e then bif fl.fits fl' then some (h▸xs,r) else none else none
 | .sl fl _,.kS::r=>bif fl.isNil then some ([],r) else none
 | .pair a b,cs=>(Ud a cs).bind λx=>(Ud b x.2).bind λy=>some ((x.1,y.1),y.2)
 |_,_=>none
inductive PD where
 |bot|ptr (s off:Nat)|fn (f:Nat)|data (g:Bool) (t:FT)
inductive IoD where
 |none|some (t:FT)|ptr
structure SD where
 slots:List PD
 boxes:List (Option FT)
 io:IoD:=.none
abbrev KJ:ar PD->Type
 |[]=>Unit
 | .data _ t::r=>t.ct.D×KJ r
 |_::r=>KJ r
abbrev JJ:ar (au FT)->Type
 |[]=>Unit
 |some t::r=>t.ct.D×JJ r
 |none::r=>JJ r
abbrev ioD:IoD->Type
 | .none=>Unit
 | .some t=>t.ct.D
 | .ptr=>Unit
abbrev SD.D (d:SD):Type:=KJ d.slots×JJ d.boxes×ioD d.io
def xB:(l:ar PD)->KJ l->ar AV
 |[],_=>[]
 | .data g t::r,x=> .val g (jW t x.1)::xB r x.2
 | .bot::r,x=> .bot::xB r x
 | .ptr s off::r,x=> .one (.ptr s off)::xB r x
 | .fn f::r,x=> .one (.fn f)::xB r x
def I4:(l:ar (au FT))->JJ l->ar (au (ar AC))
 |[],_=>[]
 |some t::r,x=>some (jW t x.1)::I4 r x.2
 |none::r,x=>none::I4 r x
def aly:(o:IoD)->ioD o->ar AC
 | .none,_=>[]
 | .some t,x=>jW t x
 | .ptr,_=>[.ptr 0 0]
def SD.enc (d:SD)(x:d.D):AS:=⟨xB d.slots x.1,I4 d.boxes x.2.1,0,List.replicate d.slots.length false,aly d.io x.2.2⟩
def AV.ahX:AV->Bool
 | .val false [.bot]=>true
 |_=>false
def AV.ahY (s off:Nat):AV->Bool
 | .val false [.ptr s' aAx]=>s==s'&&off==aAx
 |_=>false
def AV.ajI (f:Nat):AV->Bool
 | .val false [.fn f']=>f==f'
 |_=>false
def lM:(l:ar PD)->ar AV->au (KJ l)
 |[],[]=>some ()
 | .data g t::r,.val g' cs::vs=>bif g==g' then(match Ud t cs with|some (x,[])=>(lM r vs).bind λy=>some (x,y)|_=>none) else none
 | .bot::r,v::vs=>bif v.ahX then lM r vs else none
 | .ptr s off::r,v::vs=>bif v.ahY s off then lM r vs else none
 | .fn f::r,v::vs=>bif v.ajI f then lM r vs else none
 |_,_=>none
def uC:(l:ar (au FT))->ar (au (ar AC))->au (JJ l)
 |[],[]=>some ()
 |some t::r,some cs::bs=>match Ud t cs with|some (x,[])=>(uC r bs).bind λy=>some (x,y)|_=>none
 |none::r,none::bs=>uC r bs
 |_,_=>none
def af6:ar AC->Bool
 |[.ptr 0 0]=>true
 |_=>false
def abL:(o:IoD)->ar AC->au (ioD o)
 | .none,[]=>some ()
 | .some t,cs=>match Ud t cs with|some (x,[])=>some x|_=>none
 | .ptr,cs=>bif af6 cs then some () else none
 |_,_=>none
def SD.dec (d:SD)(st:AS):au d.D:=
 bif st.ep==0&&st.iss==List.replicate d.slots.length false then
  (lM d.slots st.slots).bind λx=>(uC d.boxes st.boxes).bind λy=>(abL d.io st.io).bind λz=>some (x,y,z)
 else none
structure Rr where
 sd:SD
 run:{R:Type}->sd.D->(Ex->AS->Option R)->Option R
abbrev LG:=Nat->Rr
def Rr.go {R:Type}(l:Rr)(st:AS)(K:Ex->AS->au R):au R:=aa (l.sd.dec st) λx=>l.run x K
def Rr.none:Rr:=⟨⟨[],[],.none⟩,λ_ _=>Option.none⟩
def LG.nil:LG:=λ_=>Rr.none
def LG.add (Λ:LG)(k:Nat)(l:Rr):LG:=λj=>bif j==k then l else Λ j
section
variable {R:Type} (E:Env) (Γ:Cr) (an:An)
def Jn (o:Oper)(x:Operand)(st:AS)(K:AS->au R):au R:=
 match o.dst with
 |some d=>if an.mv.contains d then K ((st.take x).2.put o.dst (st.take x).1) else K (st.put o.dst (st.rd x))
 |none=>none
def Ai (o:Oper)(x:Operand)(st:AS)(K:AS->au R):au R:=
 match st.take x with
 |(.val false [.kS],_)=>match E.sl o.type with
  |some e=>K (st.put o.dst (.one (bif ar2 an o then .kS else .sl (.own none) e [])))
  |none=>none
 |(v,st')=>K (st'.put o.dst v)
def MD (o:Oper)(c a b:Operand)(st:AS)(K:AS->au R):au R:=
 match st.rd c with
 | .val false [.bool t]=>match st.rd a,st.rd b with
   | .val false [.bool x],.val false [.bool y]=>K (st.put o.dst (.one (.bool (cond t x y))))
   |va,vb=>cond t (K (st.put o.dst va)) (K (st.put o.dst vb))
 |_=>none
def JH (o:Oper)(T:TypeId)(st:AS)(K:AS->au R):au R:=
 match o.dst,jU E.ty T with
 |some d,some sh=>match nth st.boxes d with
  |some none=>K ((st.eZ d (some (cellsOf sh.ct (.own none) sh.ct.zero))).put o.dst (.one (.ptr d 0)))
  |_=>none
 |_,_=>none
def ZM (o:Oper)(x:Operand)(st:AS)(K:AS->au R):au R:=
 match o.dst,st.take x with
 |some d,(.val _ cs,st')=>
  match nth st'.boxes d with
  |some none=>if cs.all AC.QR then K ((st'.eZ d (some cs)).put o.dst (.one (.ptr d 0))) else none
  |_=>none
 |_,_=>none
def aaE (ep:Nat)(r:lW)(t:Nat)(e:CT)(i:Int):Nat->ar AC->ar AC
 |_,[]=>[]
 |p,.sl _ e' xs::cs=> .sl (.nest ep r t e i p) e' xs::aaE ep r t e i (p+1) cs
 |p,c::cs=>c::aaE ep r t e i (p+1) cs
def am8 (o:Oper)(ep:Nat)(fl:ux)(e:CT)(i:Int)(off:Nat)(cs:ar AC):ar AC:=
 match fl,o.dst with
 | .loc _ (some (r,t)),some d=>bif an.nest.contains d then aaE ep r t e i off cs else cs
 |_,_=>cs
def KQ (o:Oper)(sh:Shape)(fl:ux)(e:CT)(i:Int)(off:Nat)(st:AS)(K:AS->au R):au R:=
 match fl with
 | .loc _ (some (r,t))=>
   match st.fj r with
   |some (.sl (.own (some t')) e' ys)=>
    if h:e'=e then
     if t'=t/\off+sh.ct.size<=e.size then
      aa (idx (h▸ys:ar e.D) i) λy=>K (st.put o.dst (.val sh.agg (((cellsOf e (.loc st.ep none) y).drop off).take sh.ct.size)))
     else none
    else none
   |_=>none
 |_=>none
def ED (o:Oper)(sh:Shape)(fl:ux)(e:CT)(i:Int)(off:Nat)(st:AS)(K:AS->au R):au R:=
 match fl with
 | .loc _ (some (r,t))=>
   match st.fj r with
   |some (.sl (.own (some t')) e' ys)=>
    if h:e'=e then
     if t'=t/\off=0/\sh.ct=e then
      aa (idx (h▸ys:ar e.D) i) λy=>K ((st.fD r (.sl (.fL (some t) i (some st.ep)) e (h▸ys))).put o.dst (.val sh.agg (cellsOf e (.own none) y)))
     else none
    else none
   |_=>none
 |_=>none
def sC (o:Oper)(T:TypeId)(p:Operand)(st:AS)(K:AS->au R):au R:=
 match jU E.ty T,st.rd p with
 |some sh,.val false [.ptr s off]=>
  match (nth st.boxes s).getD none with
  |some cs=>
   if off+sh.ct.size<=cs.length then
    match o.dst with
    |some d=>
     if an.mv.contains d then
      K ((st.eZ s (some (dw cs off (bc st.ep ((cs.drop off).take sh.ct.size))))).put o.dst (.val sh.agg ((cs.drop off).take sh.ct.size)))
     else K (st.put o.dst (.val sh.agg (jl st.ep (.box s) off ((cs.drop off).take sh.ct.size))))
    |none=>none
   else none
  |none=>none
 |some sh,.val false [.HM fl e x i off]=>
  if MY an o then ED o sh fl e i off st K
  else if fl.live st.ep then
   if off+sh.ct.size<=e.size then K (st.put o.dst (.val sh.agg (am8 an o st.ep fl e i off (((cellsOf e fl.bare x).drop off).take sh.ct.size)))) else none
  else KQ o sh fl e i off st K
 |_,_=>none
def C3 (T:TypeId)(p x:Operand)(st:AS)(K:AS->au R):au R:=
 match jU E.ty T,st.rd p with
 |some sh,.val false [.ptr s off]=>
  match st.take x with
  |(.val _ vs,st')=>
   match (nth st'.boxes s).getD none with
   |some cs=>
    if vs.length=sh.ct.size/\vs.all AC.QR then
     if off+sh.ct.size<=cs.length then K (st'.eZ s (some (dw cs off vs))) else none
    else none
   |none=>none
  |_=>none
 |some sh,.val false [.HM (.loc _ (some (r,t))) e _ i off]=>
  match st.take x with
  |(.val _ vs,st')=>
   if vs.length=sh.ct.size/\off+sh.ct.size<=e.size then st'.sM r t e i off vs K else none
  |_=>none
 |_,_=>none
def GC (o:Oper)(S:TypeId)(p:Operand)(f:Nat)(st:AS)(K:AS->au R):au R:=
 match jU E.ty S,st.rd p with
 |some ⟨true,_,lG⟩,.val false [.ptr s off]=>match nth lG f with|some (fo,_)=>K (st.put o.dst (.one (.ptr s (off+fo))))|none=>none
 |some ⟨true,_,lG⟩,.val false [.HM fl e x i off]=>match nth lG f with|some (fo,_)=>K (st.put o.dst (.one (.HM fl e x i (off+fo))))|none=>none
 |_,_=>none
def oO (o:Oper)(T:TypeId)(x i:Operand)(st:AS)(K:AS->au R):au R:=
 match E.sl T,(st.rd x).fresh st,st.rd i with
 |some e',.val false [.sl fl e xs],.val false [.int _ n]=>
  if e'=e/\fl.live st.ep then aa (idx xs n) λy=>K (st.put o.dst (.one (.HM fl e y n 0))) else none
 |_,_,_=>none
def ID (o:Oper)(T:TypeId)(x i:Operand)(st:AS)(K:AS->au R):au R:=
 match st.rd x,st.rd i with
 | .val false [.str s],.val false [.int _ n]=>if E.str T then aa (idx s n) λb=>K (st.put o.dst (.one (.int .u8 b.toNat))) else none
 |_,_=>none
def Iw (o:Oper)(T:TypeId)(parts:ar (Nat×Operand))(st:AS)(K:AS->au R):au R:=
 match jU E.ty T with
 |some ⟨true,ct,lG⟩=>
  match ft st (parts.map (·.2))with
  |(vs,st')=>
   match CA lG (cellsOf ct (.own none) ct.zero) ((parts.map (·.1)).zip (vs.map AV.cells))with
   |some cs=>K (st'.put o.dst (.val true cs))
   |none=>none
 |_=>none
def nL (o:Oper)(T:TypeId)(len:Nat)(parts:ar (Nat×Operand))(st:AS)(K:AS->au R):au R:=
 match E.sl T with
 |some e=>
  if parts.length=len/\Qs 0 parts/\len<=1000 then
   match ft st (parts.map (·.2))with
   |(vs,st')=>
    match Jk e (vs.map AV.cells)with
    |some xs=>K (st'.tj o.dst e xs)
    |none=>none
  else none
 |none=>none
def rH (o:Oper)(T:TypeId)(n c:Operand)(st:AS)(K:AS->au R):au R:=
 match E.sl T,st.rd n,st.rd c with
 |some e,.val false [.int .i64 len],.val false [.int .i64 cap]=>
  if 0<=len/\len<=cap then room cap.toNat (K (st.tj o.dst e (List.replicate len.toNat e.zero))) else none
 |_,_,_=>none
def pe (st:AS)(lo hi:au Operand)(n:Nat)(K:Int->Int->au R):au R:=
 match lo.map st.rd,hi.map st.rd with
 |none,none=>K 0 n
 |some (.val false [.int _ a]),none=>K a n
 |none,some (.val false [.int _ b])=>K 0 b
 |some (.val false [.int _ a]),some (.val false [.int _ b])=>K a b
 |_,_=>none
def CU (o:Oper)(T:TypeId)(x:Operand)(lo hi:au Operand)(st:AS)(K:AS->au R):au R:=
 match st.take x,lo.map st.rd,hi with
 |(.val false [.sl (.own _) e xs],st'),some (.val false [.int _ a]),none=>
  if E.sl T=some e then aa (sub xs a xs.length) λW2=>K (st'.tj o.dst e W2) else none
 |_,_,_=>none
def VY (o:Oper)(fl:ux)(a:Int):ux:=
 match fl,o.dst with
 | .loc ep (some (r,t)),some d=>bif an.nest.contains d then .part ep r t a else .loc ep none
 |fl,_=>fl.bare
def Hu (o:Oper)(T:TypeId)(x:Operand)(lo hi:au Operand)(st:AS)(K:AS->au R):au R:=
 if MY an o then CU E o T x lo hi st K else
 match (st.rd x).fresh st with
 | .val false [.str s]=>if E.str T then pe st lo hi s.length λa b=>aa (sub s a b) λs'=>K (st.put o.dst (.one (.str s'))) else none
 | .val false [.sl fl e xs]=>
   if E.sl T=some e/\fl.live st.ep then pe st lo hi xs.length λa b=>aa (sub xs a b) λW2=>K (st.put o.dst (.one (.sl (VY an o fl a) e W2))) else none
 |_=>none
def nO (o:Oper)(src dst:TypeId)(x:Operand)(st:AS)(K:AS->au R):au R:=
 match jU E.ty src,jU E.ty dst,st.rd x with
 |some _,some ⟨false,.int k,_⟩,.val false [.int _ n]=>K (st.put o.dst (.one (.int k (k.wrap n))))
 |some ⟨false,.str,_⟩,some ⟨false,.str,_⟩,.val false [.str s]=>K (st.put o.dst (.one (.str s)))
 |some ⟨false,.str,_⟩,some _,.val false [.str s]=>
  if E.bytes dst then room s.length (K (st.tj o.dst (.int .u8) (dc s))) else none
 |some _,some ⟨false,.str,_⟩,.val false [.sl fl (.int .u8) xs]=>
  if E.bytes src/\fl.live st.ep then K (st.put o.dst (.one (.str (aU xs)))) else none
 |_,_,_=>none
def nQ (o:Oper)(t i:Nat)(st:AS)(K:AS->au R):au R:=
 match st.get t with
 | .Af vs=>match nth vs i with
   |some (g,cs)=>K ((st.put (some t) (.Af (iQ vs i (g,bc 0 cs)))).put o.dst (.val g cs))
   |none=>none
 |_=>none
def VN (o:Oper)(ts:ar TypeId)(args:ar Operand)(st:AS)(K:AS->au R):au R:=
 match ts,args.map st.rd with
 |[t],[.val false [.str s]]=>if E.str t then K (st.put o.dst (.one (.int .i64 s.length))) else none
 |[t],[.val false [.sl _ _ xs]]=>if(E.sl t).isSome then K (st.put o.dst (.one (.int .i64 xs.length))) else none
 |_,_=>none
def Xo (o:Oper)(args:ar Operand)(st:AS)(K:AS->au R):au R:=
 match args.map st.rd with
 |[.val false [.int k x],.val false [.int _ y]]=>K (st.put o.dst (.one (.int k (if y<x then y else x))))
 |_=>none
def Xn (o:Oper)(args:ar Operand)(st:AS)(K:AS->au R):au R:=
 match args.map st.rd with
 |[.val false [.int k x],.val false [.int _ y]]=>K (st.put o.dst (.one (.int k (if y>x then y else x))))
 |_=>none
def XV (o:Oper)(ts:ar TypeId)(args:ar Operand)(st:AS)(K:AS->au R):au R:=
 match ts,args.map st.rd with
 |[t,t'],[.val false [.sl (.part ep r tg lo) e xs],.val false [.str s]]=>
  match st.fj r with
  |some (.sl (.own (some tg')) e' ys)=>
   if h:e'=.int .u8 then
    if e=.int .u8/\E.sl t=some (.int .u8)/\E.str t'=true/\ep=st.ep/\tg'=tg then
     K ({st.fD r (.sl (.own (some tg)) (.int .u8) (Jo (h▸ys:ar (CT.int .u8).D) lo.toNat (dc (s.take xs.length))))with ep:=st.ep+1}.put o.dst (.one (.int .i64 (min xs.length s.length:Nat))))
    else none
   else none
  |_=>none
 |_,_=>none
def Nd (o:Oper)(S:TypeId)(t f:Nat)(st:AS)(K:AS->au R):au R:=
 match jU E.ty S,st.get t,ac2 E.fts S f with
 |some ⟨true,ct,lG⟩,.val true cs,some T=>
  match nth lG f,jU E.ty T with
  |some (fo,n),some sh=>
   if n=sh.ct.size/\cs.length=ct.size/\fo+n<=cs.length then
    K ((st.put (some t) (.val true (dw cs fo (bc st.ep ((cs.drop fo).take n))))).put o.dst (.val sh.agg ((cs.drop fo).take n)))
   else none
  |_,_=>none
 |_,_,_=>none
def C7 (o:Oper)(ts:ar TypeId)(args:ar Operand)(st:AS)(K:AS->au R):au R:=
 match ts,args with
 |[t,t'],[s,x]=>
  match st.take s with
  |(.val false [.sl (.own _) e xs],st1)=>
   match st1.take x with
   |(.val false [.sl fl e' ys],st2)=>
    if h:e'=e then
     if E.sl t=some e/\E.sl t'=some e/\fl.zH st.ep e.flat then
      room (xs.length+ys.length) (K (st2.tj o.dst e (xs++(h▸ys:ar e.D))))
     else none
    else none
   |(.val false [.str s],st2)=>
    if h:e=.int .u8 then
     if E.sl t=some e/\E.str t' then room (xs.length+s.length) (K (st2.tj o.dst (.int .u8) ((h▸xs:ar (CT.int .u8).D)++dc s))) else none
    else none
   |_=>none
  |_=>none
 |_,_=>none
def RF:Nat->ar AC->au (lW×Nat)
 |_,[]=>none
 |j,.sl (.loc _ (some (r,_))) _ _::_=>some (r,j)
 |j,_::cs=>RF (j+1) cs
def lW.pos:lW->Nat
 | .slot _ j=>j
 | .box _ j=>j
 | .io j=>j
def AS.yb (st:AS):lW->au (ar AC)
 | .slot s _=>match st.get s with| .val _ cs=>some cs|_=>none
 | .box s _=>(nth st.boxes s).getD none
 | .io _=>some st.io
def AS.tn (st:AS)(r:lW)(cs:ar AC):AS:=
 match r with
 | .slot s _=>match st.get s with| .val g _=>st.put (some s) (.val g cs)|_=>st
 | .box s _=>st.eZ s (some cs)
 | .io _=>{st with io:=cs}
def oS:ar AC->ar AC->au (ar AC)
 |[],[]=>some []
 | .sl (.loc _ (some (_,t))) _ _::os,.sl (.own (some t')) e xs::ss=>bif t'==t then(oS os ss).bind λr=>some (.sl (.own none) e xs::r) else none
 | .int k n::os,.int _ _::ss=>(oS os ss).bind λr=>some (.int k n::r)
 | .bool b::os,.bool _::ss=>(oS os ss).bind λr=>some (.bool b::r)
 | .str x::os,.str _::ss=>(oS os ss).bind λr=>some (.str x::r)
 |_,_=>none
def Io:ar AC->ar AC->ar AC->au (ar AC)
 |[],[],[]=>some []
 | .sl (.loc _ (some (_,t'))) _ _::os,.sl (.own (some t)) _ _::ss,.sl (.own _) e ys::bs=>bif t==t' then(Io os ss bs).bind λr=>some (.sl (.own (some t)) e ys::r) else none
 | .int _ _::os,.int k n::ss,.int _ _::bs=>(Io os ss bs).bind λr=>some (.int k n::r)
 | .bool _::os,.bool b::ss,.bool _::bs=>(Io os ss bs).bind λr=>some (.bool b::r)
 | .str _::os,.str x::ss,.str _::bs=>(Io os ss bs).bind λr=>some (.str x::r)
 |_,_,_=>none
def AV.hY:AV->Bool
 | .val _ cs=>cs.all AC.hY
 | .Af vs=>vs.all λx=>x.2.all AC.hY
def ZQ (st:AS)(x:Operand):au (AV×AS):=
 match st.rd x with
 | .val g cs=>
   match RF 0 cs with
   |some (r,j)=>
    match st.yb r with
    |some IW=>
     match oS cs ((IW.drop (r.pos-j)).take cs.length)with
     |some pb=>some (.val g pb,st.tn r (dw IW (r.pos-j) (bc st.ep ((IW.drop (r.pos-j)).take cs.length))))
     |none=>none
    |none=>none
   |none=>none
 |_=>none
def YH (o:Oper)(x:Operand)(st:AS)(K:AS->au R):au R:=
 match ZQ st x with
 |some (v,st')=>K (st'.put o.dst v)
 |none=>none
def C4 (T:TypeId)(p x:Operand)(st:AS)(K:AS->au R):au R:=
 match jU E.ty T,st.rd p with
 |some sh,.val false [.ptr s off]=>
  match ZQ st x with
  |some (.val _ vs,st')=>
   match (nth st'.boxes s).getD none with
   |some cs=>
    if vs.length=sh.ct.size/\vs.all AC.QR then
     if off+sh.ct.size<=cs.length then K (st'.eZ s (some (dw cs off vs))) else none
    else none
   |none=>none
  |_=>none
 |_,_=>none
def YQ (o:Oper)(f:Nat)(g:Bool)(cs:ar AC)(xs:ar Operand)(st:AS)(K:AS->au R):au R:=
 match cs with
 |[.sl (.nest ep r t en i off) _ _]=>
  match st.yb r with
  |some IW=>
   match (IW.drop r.pos).take 1 with
   |[.sl (.own (some t')) e ys]=>
    bif (ep==st.ep)&&(t'==t)&&(en.size==e.size)&&xs.all (λx=>(st.rd x).hY) then
     aa (idx ys i) λx=>
      match ((cellsOf e (.own none) x).drop off).take 1 with
      |[.sl (.own _) e2 zs]=>
       aa ((Γ f).fn (.val g [.sl (.own none) e2 zs]::xs.map st.rd)) λy=>
        match (Γ f).back y with
        |[.sl (.own _) e3 zs']=>
         match jP e (dw (cellsOf e (.own none) x) off [.sl (.own none) e3 zs'])with
         |some (x',[])=>bif ((Γ f).av y).hY then K ({st.tn r (dw IW r.pos [.sl (.own (some t)) e (ys.set i.toNat x')])with ep:=st.ep+1}.put o.dst ((Γ f).av y)) else none
         |_=>none
        |_=>none
      |_=>none
    else none
   |_=>none
  |none=>none
 |_=>none
def ioC (o:Oper)(f:Nat)(args:ar Operand)(st:AS)(K:AS->au R):au R:=
 match args with
 |x0::xs=>
  match st.rd x0 with
  | .val g cs=>
    match RF 0 cs with
    |some (r,j)=>
     match st.yb r with
     |some IW=>
      match oS cs ((IW.drop (r.pos-j)).take cs.length)with
      |some pb=>
       bif xs.all (λx=>(st.rd x).hY) then
        aa ((Γ f).fn (.val g pb::xs.map st.rd)) λy=>
         match Io cs ((IW.drop (r.pos-j)).take cs.length) ((Γ f).back y)with
         |some seg=>bif ((Γ f).av y).hY then K ({st.tn r (dw IW (r.pos-j) seg)with ep:=st.ep+1}.put o.dst ((Γ f).av y)) else none
         |none=>none
       else none
      |none=>none
     |none=>none
    |none=>YQ Γ o f g cs xs st K
  |_=>none
 |[]=>none
def AC.strip:AC->AC
 | .sl (.own _) e xs=> .sl (.own none) e xs
 | .sl (.loc _ _) _ _=> .bot
 | .sl (.nest ..) _ _=> .bot
 | .sl (.part ..) _ _=> .bot
 | .sl (.fL _ i _) e xs=> .sl (.fL none i none) e xs
 | .ptr _ _=> .bot
 | .HM _ _ _ _ _=> .bot
 |c=>c
def AC.af4:AC->Bool
 | .sl (.own _) _ _=>true
 |c=>c.hY
def AC.Fa (k:Bool):AC->Bool
 | .sl (.own _) _ _=>true
 | .sl (.arg k') _ _=>k'==k
 |c=>c.hY
def AC.abf:AC->AC
 | .sl (.own _) e xs=> .sl (.own none) e xs
 | .sl (.arg _) e xs=> .sl (.arg true) e xs
 |c=>c.strip
def AC.ap8 (k:Bool)(tag:au Nat):AC->AC
 | .sl (.own _) e xs=> .sl (.own tag) e xs
 | .sl (.arg _) e xs=> .sl (.arg k) e xs
 |c=>c
def sP (k:Bool)(mk:Nat->au Nat):Nat->ar AC->ar AC
 |_,[]=>[]
 |j,c::cs=>c.ap8 k (mk j)::sP k mk (j+1) cs
def K8 (cs:ar AC):Bool:=cs.any λc=>match c with| .sl (.arg k) _ _=>k|_=>false
def AC.Ru:AC->Bool
 | .sl (.arg k) _ _=> !k
 |c=>c.hY
def AV.Ru:AV->Bool
 | .val _ cs=>cs.all AC.Ru
 | .Af _=>false
def AS.Xl (st:AS):AC->AC
 | .sl (.own _) e xs=> .sl (.arg false) e xs
 | .sl (.arg _) e xs=> .sl (.arg false) e xs
 | .sl (.loc _ (some (.slot b j,t))) _ _=>match st.fj (.slot b j)with
   |some (.sl (.own (some t')) e' ys)=>if t'=t then .sl (.arg false) e' ys else .bot
   |_=> .bot
 | .int k n=> .int k n
 | .bool b=> .bool b
 | .str s=> .str s
 | .fn f=> .fn f
 |_=> .bot
def Ie (st:AS):Operand->AV
 | .tmp t=>(match st.get t with| .val g cs=> .val g (cs.map st.Xl)|v=>v)
 |x=>st.rd x
def Jj (st:AS):Operand->Bool
 | .tmp t=>(match st.get t with| .val _ cs=>(cs.map st.Xl).all AC.Ru|_=>false)
 |x=>(st.rd x).hY
def AC.aj0:AC->Bool
 | .sl (.own _) _ _=>true
 |c=>c.hY
def AV.aj0:AV->Bool
 | .val _ cs=>cs.all AC.aj0
 | .Af vs=>vs.all λx=>x.2.all AC.aj0
def ahv (st:AS)(s:Nat)(cs:ar AC):AS:={(st.eZ s (some cs)).fR (some s)with ep:=st.ep+1}
def Aj (o:Oper)(f:Nat)(args:ar Operand)(st:AS)(K:AS->au R):au R:=
 match args with
 |x0::xs=>
  match st.rd x0 with
  | .val false [.ptr s 0]=>
    match (nth st.boxes s).getD none with
    |some cs=>
     bif cs.all (AC.Fa (K8 cs))&&xs.all (Jj st) then
      aa ((Γ f).fn (.val true (cs.map AC.abf)::xs.map (Ie st))) λy=>
       bif ((Γ f).back y).all (AC.Fa true)&&((Γ f).av y).aj0 then
        bif (Γ f).cur&&cs.all AC.PC then
         K (((st.eZ s (some (sP (K8 cs) (λ_=>none) 0 ((Γ f).back y)))).fR o.dst).put o.dst (((Γ f).av y).K9 st.ep (st.jb o.dst)))
        else
        K (((ahv st s (sP (K8 cs) (st.jb (some s)) 0 ((Γ f).back y))).fR o.dst).put o.dst
          (((Γ f).av y).K9 (st.ep+1) ((ahv st s (sP (K8 cs) (st.jb (some s)) 0 ((Γ f).back y))).jb o.dst)))
       else none
     else none
    |none=>none
  |_=>none
 |[]=>none
def aj1 (o:Oper)(f:Nat)(args:ar Operand)(st:AS)(K:AS->au R):au R:=
 match o.dst with
 |some d=>
  match nth st.boxes d with
  |some none=>
   bif args.all (λx=>(st.rd x).Ru) then
    aa ((Γ f).fn (args.map st.rd)) λy=>
     bif ((Γ f).back y).all AC.Ru then K ((st.eZ d (some ((Γ f).back y))).put (some d) (.one (.ptr d 0))) else none
   else none
  |_=>none
 |none=>none
def La (o:Oper)(f:Operand)(args:ar Operand)(st:AS)(K:AS->au R):au R:=
 match st.rd f with
 | .val false [.fn f]=>
   bif (Γ f).bx then Aj Γ o f args st K else
   bif (Γ f).pr then aj1 Γ o f args st K else
   bif (Γ f).io then ioC Γ o f args st K
   else aa ((Γ f).fn (args.map λx=>((st.rd x).fresh st).asArg st.ep)) λr=>cond ((Γ f).sel r) (K ((st.fR o.dst).put o.dst (((Γ f).av r).K9 st.ep (st.jb o.dst)))) (K ((st.fR o.dst).put o.dst (((Γ f).alt r).K9 st.ep (st.jb o.dst))))
 |_=>none
def Lc {R:Type}(op:BinOp)(b:Bool)(K:AC->au R):au R:=
 match op with
 | .eql=>K (.bool b)
 | .neq=>K (.bool (!b))
 |_=>none
def HI (o:Oper)(op:BinOp)(T:TypeId)(x y:Operand)(st:AS)(K:AS->au R):au R:=
 match st.rd x,st.rd y with
 | .val false [.bool a],.val false [.bool b]=>if E.bool T then NQ op (.one (.bool a)) (.one (.bool b)) λc=>K (st.put o.dst (.one c)) else none
 | .val true xs,.val true ys=>match YK E.eqs T with
   |some ls=>if fits ls xs then NQ op (.val true xs) (.val true ys) λc=>K (st.put o.dst (.one c)) else none
   |none=>none
 | .val false [.sl fl _ xs],.val false [.kS]=>if(E.sl T).isSome/\fl.live st.ep then(if xs.length=0 then none else Lc op false λc=>K (st.put o.dst (.one c))) else none
 | .val false [.kS],.val false [.kS]=>if(E.sl T).isSome then Lc op true λc=>K (st.put o.dst (.one c)) else none
 |a,b=>NQ op a b λc=>K (st.put o.dst (.one c))
def df (o:Oper)(st:AS)(K:AS->au R):au R:=
 match o.op with
 | .move x=>Jn an o x st K
 | .assign x=>if GV an o then YH o x st K else Ai E an o x st K
 | .pick c a b=>MD o c a b st K
 | .alloc T=>JH E o T st K
 | .box _ x=>ZM o x st K
 | .load T p=>sC E an o T p st K
 | .store T p x=>match o.dst with|none=>(if GV an o then C4 E T p x st K else C3 E T p x st K)|some _=>none
 | .nilCheck x=>
   match st.rd x with
   | .val false [.ptr s off]=>K (st.put o.dst (.one (.ptr s off)))
   | .val false [.HM fl e y i off]=>K (st.put o.dst (.one (.HM fl e y i off)))
   |_=>none
 | .binOp op T x y _=>HI E o op T x y st K
 | .unOp op _ x=>unC op (st.rd x) λc=>K (st.put o.dst (.one c))
 | .fieldAddr S p f=>GC E o S p f st K
 | .indexAddr T x i=>oO E o T x i st K
 | .index T x i=>ID E o T x i st K
 | .build T parts=>Iw E o T parts.toList st K
 | .buildSlice T len parts=>nL E o T len parts.toList st K
 | .makeSlice T n c=>rH E o T n c st K
 | .slice T x lo hi none=>Hu E an o T x lo hi st K
 | .field S (.tmp t) f=>Nd E o S t f st K
 | .call {callee:=.builtin .copy,args,argTypes}=>XV E o argTypes.toList args.toList st K
 | .convert src dst x=>nO E o src dst x st K
 | .extract (.tmp t) i=>nQ o t i st K
 | .call {callee:=.builtin .len,args,argTypes}=>VN E o argTypes.toList args.toList st K
 | .call {callee:=.builtin .min,args,..}=>Xo o args.toList st K
 | .call {callee:=.builtin .max,args,..}=>Xn o args.toList st K
 | .call {callee:=.builtin .append,args,argTypes}=>C7 E o argTypes.toList args.toList st K
 | .call {callee:=.value f,args,..}=>La Γ o f args.toList st K
 |_=>none
def im (ops:ar Oper)(o:Oper)(st:AS)(K:AS->au R):au R:=
 match o.guard with
 |none=>df E Γ an o st K
 |some (j,Pt)=>
  match (nth ops j).bind (·.dst)with
  |some d=>
   match st.get d with
   | .val false [.bool b]=>
     let go (t:Bool):au R:=
      if t==Pt then df E Γ an o (st.put (some d) (.one (.bool t))) K else K ((st.put (some d) (.one (.bool t))).put o.dst (.one .un))
     cond b (go true) (go false)
   | .val false [.un]=>K (st.put o.dst (.one .un))
   |_=>none
  |none=>none
def aaH (ops:ar Oper):ar Oper->AS->(AS->au R)->au R
 |[],st,K=>K st
 |o::r,st,K=>im E Γ an ops o st λst'=>aaH ops r st' K
def dV:Code->Nat
 | .region id _ _=>id
 | .seq a _=>dV a
 | .block _ c=>dV c
 | .loop c=>dV c
 | .cond _ a b=>match dV a with|0=>dV b|n=>n
 |_=>0
def CD (c:Code):Nat:=1000000+2*dV c
def mc (l:ei):Code->ar Code
 | .seq a b=>mc l a++(bif l.contains (dV b) then b::mc l b else mc l b)
 | .cond _ a b=>mc l a++mc l b
 | .block _ c=>mc l c
 | .loop c=>mc l c
 |_=>[]
def HK (l:ei)(fn:Func)(k:Nat):Code:=(nth (mc l (fn.body.getD .skip)) k).getD .skip
def jf:Code->ar Code
 | .seq a b=>jf a++jf b
 | .cond _ a b=>jf a++jf b
 | .block _ c=>jf c
 | .loop c=>c::jf c
 |_=>[]
def gO (fn:Func)(k:Nat):Code:=(nth (jf (fn.body.getD .skip)) k).getD .skip
def FC (j:Nat):Nat:=3*(4096*1000003+j)
def lW.MU:lW->au Nat
 | .slot s j=>bif Nat.ble 4096 j then none else bif Nat.ble 1000000 s then none else some (3*(4096*s+j))
 | .box s j=>bif Nat.ble 4096 j then none else some (3*(4096*s+j)+1)
 | .io j=>bif Nat.ble 4096 j then none else some (FC j)
def AC.amO (io:ar AC)(j t:Nat)(e:CT):au (ar e.D):=
 match nth io j with
 |some (.sl (.own (some t')) e' ys)=>if h:e'=e then bif t'==t then some (h▸ys) else none else none
 |_=>none
def AC.mask (keep:ei)(ep:Nat)(io:ar AC)(rt:lW):AC->AC
 | .ptr s off=>if keep.contains s then .ptr s off else .bot
 | .sl (.loc e pv) t xs=>
   match pv with
   |some (.io j,n)=>match AC.amO io j n t with
    |some ys=> .sl (.loc 0 ((lW.MU (.io j)).map λq=>(.io j,q))) t ys
    |none=>if e==ep then .sl (.loc 0 none) t xs else .bot
   |_=>if e==ep then .sl (.loc 0 none) t xs else .bot
 | .sl (.own _) t xs=> .sl (.own rt.MU) t xs
 | .sl (.nest ..) _ _=> .bot
 | .sl (.part ..) _ _=> .bot
 | .sl (.fL _ i _) e xs=> .sl (.fL none i none) e xs
 | .HM _ _ _ _ _=> .bot
 |c=>c
def R0 (keep:ei)(ep:Nat)(io:ar AC)(f:Nat->lW):Nat->ar AC->ar AC
 |_,[]=>[]
 |j,c::cs=>c.mask keep ep io (f j)::R0 keep ep io f (j+1) cs
def AV.mask (keep:ei)(ep:Nat)(io:ar AC)(s:Nat):AV->AV
 | .val g cs=> .val g (R0 keep ep io (.slot s) 0 cs)
 | .Af _=> .bot
def qB (keep:ei)(ep:Nat)(io:ar AC):Nat->ar AV->ar AV
 |_,[]=>[]
 |i,v::r=>(if keep.contains i then v.mask keep ep io i else .bot)::qB keep ep io (i+1) r
def qA (keep:ei)(ep:Nat)(io:ar AC):Nat->ar (au (ar AC))->ar (au (ar AC))
 |_,[]=>[]
 |i,b::r=>(if keep.contains i then b.map (R0 keep ep io (.box i) 0) else none)::qA keep ep io (i+1) r
def age (keep:ei):Nat->ar AC->ar AC
 |_,[]=>[]
 |j,c::cs=>(match c with| .sl (.own _) e xs=> .sl (.own (lW.MU (.io j))) e xs| .sl (.fL _ i _) e xs=> .sl (.fL none i none) e xs| .ptr s off=>if keep.contains s then .ptr s off else .bot|c=>bif c.hY then c else .bot)::age keep (j+1) cs
def AS.mask (keep:ei)(st:AS):AS:=
 ⟨qB keep st.ep st.io 0 st.slots,qA keep st.ep st.io 0 st.boxes,0,List.replicate st.slots.length false,age keep 0 st.io⟩
def getBool (st:AS)(s:Nat):au Bool:=
 match st.get s with
 | .val false [.bool b]=>some b
 |_=>none
def ix (an:An)(ds:ei)(o:Oper):Bool:=
 match o.op with
 | .assign (.const _)=> !GV an o
 | .assign (.tmp t)=>ds.contains t&& !GV an o
 | .move _| .load ..=>match o.dst with|some d=> !an.mv.contains d|none=>false
 | .slice ..=> !MY an o
 | .pick ..| .binOp ..| .unOp ..| .fieldAddr ..| .indexAddr ..| .index ..| .nilCheck _=>true
 | .build _ ps=>ps.isEmpty
 | .call {callee:=.builtin .len,..}| .call {callee:=.builtin .min,..}| .call {callee:=.builtin .max,..}=>true
 | .call {callee:=.value _,..}=>true
 |_=>false
def OT (ops:ar Oper):ei:=ops.filterMap (·.dst)
def AS.HL (st:AS):ei->AS
 |[]=>st
 |d::r=>((st.put (some d) .bot).fR (some d)).HL r
def N1 (ops:ar Oper)(A:ar ei):Nat->ar Oper->AS->(AS->au R)->au R
 |_,[],st,K=>K st
 |i,o::r,st,K=>bif dI E an (xy an A i 0 ops) o st then im E Γ an ops o st λst'=>N1 ops A (i+1) r st' K else none
def L7 (ops:ar Oper)(draw:Bool)(st:AS)(K:AS->au R):au R:=
 bif draw then(bif abN an ops then N1 E Γ.Pp an ops (abv ops []) 0 ops st K else none) else aaH E Γ an ops ops st K
def aaP (id:Nat)(ops:ar Oper)(draw:Bool)(st:AS)(K:AS->au R):au R:=
 match an.merge id with
 |none=>L7 E Γ an ops draw st K
 |some s=>
  if ops.all (ix an (OT ops)) then
   aa (L7 E Γ.calm an ops draw st λst'=>getBool st' s) λb=>K ((st.HL (OT ops)).put (some s) (.one (.bool b)))
  else none
def Ff (key:ei)(B:AS->(Ex->AS->au R)->au R):Nat->AS->(Ex->AS->au R)->au R
 |0,_,_=>none
 |m+1,st,K=>B st λe st'=>
  match e with
  | .normal=>Ff key B m (st'.mask key) K
  |e=>K e (st'.mask key)
def den (Λ:LG):Code->AS->(Ex->AS->au R)->au R
 | .skip,st,K=>K .normal st
 | .region id ops draw,st,K=>aaP E Γ an id ops.toList draw st (K .normal)
 | .seq a b,st,K=>den Λ a st λe st'=>match e with
   | .normal=>bif an.cut.contains (dV b) then(Λ (CD b)).go (st'.mask (an.mask (CD b))) K else den Λ b st' K
   |e=>K e st'
 | .cond c a b,st,K=>
   match st.rd c with
   | .val false [.bool t]=>cond t (den Λ a st K) (den Λ b st K)
   |_=>none
 | .block id c,st,K=>den Λ c st λe st'=>
   match e with
   | .exit j=>if j==id then K .normal st' else K (.exit j) st'
   |e=>K e st'
 | .loop c,st,K=>
   bif an.peel.contains (dV c) then den Λ c (st.mask (an.mask (dV c))) λe st'=>
    match e with
    | .normal=>(Λ (dV c)).go (st'.mask (an.mask (dV c))) K
    |e=>K e (st'.mask (an.mask (dV c)))
   else(Λ (dV c)).go (st.mask (an.mask (dV c))) K
 | .exit id,st,K=>K (.exit id) st
 | .ret,st,K=>K .ret st
 |_,_,_=>none
end
def Wa (st:AS)(E:Env):ResultVar->au ((Bool×Nat)×Bool×ar AC)
 | .tmp t=>match st.get t with| .val g cs=>some ((false,t),g,cs.map AC.strip)|_=>none
 | .cell t T=>match jU E.ty T,st.get t with
   |some sh,.val false [.ptr s off]=>((nth st.boxes s).getD none).bind λcs=>
    if off+sh.ct.size<=cs.length then some ((true,s),sh.agg,((cs.drop off).take sh.ct.size).map AC.strip) else none
   |_,_=>none
def rJ (st:AS)(E:Env):ar (Bool×Nat)->ar ResultVar->au (ar (Bool×ar AC))
 |_,[]=>some []
 |had,r::rs=>(Wa st E r).bind λx=>if had.contains x.1 then none else(rJ st E (x.1::had) rs).bind λxs=>some (x.2::xs)
def results (E:Env)(rs:ar ResultVar)(st:AS):au AV:=
 match rJ st E [] rs with
 |some [(g,cs)]=>some (.val g cs)
 |some vs=>some (.Af vs)
 |none=>none
def qY (fn:Func)(args:ar AV):AS:=⟨args++List.replicate (fn.ntmps-args.length) .bot,List.replicate (args.length+(fn.ntmps-args.length)) none,0,List.replicate fn.ntmps false,[]⟩
abbrev jh:ar (Bool×FT)->Type
 |[]=>Unit
 |[(_,t)]=>t.ct.D
 |(_,t)::r=>t.ct.D×jh r
def lF:(l:ar (Bool×FT))->ar (Bool×ar AC)->au (jh l)
 |[],[]=>some ()
 |[(g,t)],[(g',cs)]=>bif g==g' then(match Ud t cs with|some (x,[])=>some x|_=>none) else none
 |(g,t)::p::r,(g',cs)::vs=>bif g==g' then(match Ud t cs with|some (x,[])=>(lF (p::r) vs).bind λy=>some (x,y)|_=>none) else none
 |_,_=>none
def aqY:(l:ar (Bool×FT))->jh l->ar (Bool×ar AC)
 |[],_=>[]
 |[(g,t)],x=>[(g,jW t x)]
 |(g,t)::p::r,x=>(g,jW t x.1)::aqY (p::r) x.2
def Cy (l:ar (Bool×FT))(x:jh l):AV:=
 match aqY l x with
 |[(g,cs)]=> .val g cs
 |vs=> .Af vs
def L8 (E:Env)(Γ:Cr)(an:An)(Λ:LG)(fn:Func)(rs:ar (Bool×FT))(args:ar AV):au (jh rs):=
 match fn.body with
 |some c=>if args.length=fn.params.size then den E Γ an Λ c (qY fn args) λe st=>
  match e with
  | .exit _=>none
  |_=>aa (rJ st E [] fn.results.toList) (lF rs)
  else none
 |none=>none
def evalAlt (E:Env)(Γ:Cr)(an:An)(Λ:LG)(fn:Func)(rs TP:ar (Bool×FT))(h:jh TP=jh rs)(args:ar AV):au (Bool×jh rs):=
 match fn.body with
 |some c=>if args.length=fn.params.size then den E Γ an Λ c (qY fn args) λe st=>
  match e with
  | .exit _=>none
  |_=>aa (rJ st E [] fn.results.toList) λys=>
   match lF rs ys with
   |some y=>some (true,y)
   |none=>match lF TP ys with
    |some y=>some (false,cast h y)
    |none=>none
  else none
 |none=>none
def af3:Nat->ar AC->ar AC
 |_,[]=>[]
 |j,.sl _ e xs::cs=> .sl (.own (some (FC j))) e xs::af3 (j+1) cs
 |j,c::cs=>c::af3 (j+1) cs
def GU:Nat->ar AC->ar AC
 |_,[]=>[]
 |j,.sl _ e xs::cs=> .sl (.loc 0 (some (.io j,FC j))) e xs::GU (j+1) cs
 |j,c::cs=>c::GU (j+1) cs
def NM (fn:Func)(g:Bool)(cs:ar AC)(args:ar AV):AS:={qY fn (.val g (GU 0 cs)::args)with io:=af3 0 cs}
def afs (E:Env)(Γ:Cr)(an:An)(Λ:LG)(fn:Func)(rs:ar (Bool×FT))(t:CT)(args:ar AV):au (jh rs×t.D):=
 match fn.body,args with
 |some c,.val g cs::xs=>if xs.length+1=fn.params.size/\cs.all AC.af4=true then den E Γ an Λ c (NM fn g cs xs) λe st=>
  match e with
  | .exit _=>none
  |_=>aa (aa (rJ st E [] fn.results.toList) (lF rs)) λr=>
   match jP t st.io with
   |some (x,[])=>some (r,x)
   |_=>none
  else none
 |_,_=>none
def PH:Nat->ar AC->ar AC
 |_,[]=>[]
 |j,.sl (.own _) e xs::cs=> .sl (.own (some (3*j+1))) e xs::PH (j+1) cs
 |j,c::cs=>c::PH (j+1) cs
def Hy (fn:Func)(cs:ar AC)(args:ar AV):AS:=
 {qY fn (.one (.ptr 0 0)::args)with boxes:=some (PH 0 cs)::List.replicate (args.length+(fn.ntmps-(args.length+1))) none,io:=[.ptr 0 0]}
def Z3 (E:Env)(Γ:Cr)(an:An)(Λ:LG)(fn:Func)(rs:ar (Bool×FT))(t:FT)(args:ar AV):au (jh rs×t.ct.D):=
 match fn.body,args with
 |some c,.val true cs::xs=>if xs.length+1=fn.params.size/\cs.all (AC.Fa true)=true then den E Γ an Λ c (Hy fn cs xs) λe st=>
  match e with
  | .exit _=>none
  |_=>aa (aa (rJ st E [(true,0)] fn.results.toList) (lF rs)) λr=>
   match st.io,st.boxes with
   |[.ptr 0 0],some pb::_=>match Ud t (pb.map AC.strip)with
    |some (x,[])=>some (r,x)
    |_=>none
   |_,_=>none
  else none
 |_,_=>none
def T7 (E:Env)(Γ:Cr)(an:An)(Λ:LG)(fn:Func)(t:FT)(args:ar AV):au t.ct.D:=
 match fn.body with
 |some c=>if args.length=fn.params.size then den E Γ an Λ c (qY fn args) λe st=>
  match e with
  | .exit _=>none
  |_=>match fn.results.toList with
   |[.tmp i]=>match st.get i with
    | .val false [.ptr s 0]=>match (nth st.boxes s).getD none with
      |some cs=>if cs.all AC.Ru=true then(match Ud t (cs.map AC.strip)with|some (x,[])=>some x|_=>none) else none
      |none=>none
    |_=>none
   |_=>none
  else none
 |none=>none
end Go.Dn
