import Derived.Test.YtnmppgnbjfdffaaGreatDnData
/- An abstract, heap-free semantics of the model's code, for functions that treat their data by value: definitions. -/
namespace Go.Dn
inductive lq where
 |slot (s j:Nat)|box (s j:Nat)|io (j:Nat)
 deriving DecidableEq
inductive qL where
 |own (tag:Option Nat)
 |loc (ep:Nat) (pv:Option (lq×Nat))
 |arg (k:Bool)
 |nest (ep:Nat) (r:lq) (t:Nat) (e:CT) (i:Int) (off:Nat)
 |part (ep:Nat) (r:lq) (t:Nat) (lo:Int)
 |gj (tag:Option Nat) (i:Int) (ep:Option Nat)
inductive AC where
 |int (k:IntKind) (n:Int)|bool (b:Bool)|str (s:List UInt8)
 |sl (fl:qL) (e:CT) (xs:List e.D)
 |kx
 |ptr (s off:Nat)
 |BA (fl:qL) (e:CT) (x:e.D) (i:Int) (off:Nat)
 |fn (f:Nat)
 |un
 |bot
inductive AV where
 |val (agg:Bool) (cs:List AC)
 |wh (vs:List (Bool×List AC))
abbrev AV.one (c:AC):AV:=.val false [c]
abbrev AV.bot:AV:=.val false [.bot]
structure AS where
 slots:List AV
 boxes:List (Option (List AC))
 ep:Nat
 iss:List Bool
 io:List AC
structure Shape where
 agg:Bool
 ct:CT
 kE:List (Nat×Nat):=[]
structure An where
 mask:Nat->List Nat:=λ_=>[]
 merge:Nat->Option Nat:=λ_=>none
 mv:List Nat:=[]
 nest:List Nat:=[]
 mb:Nat->Option Nat:=λ_=>none
 sb:Nat->Option Nat:=λ_=>none
 late:List Nat:=[]
 peel:List Nat:=[]
 nils:List Nat:=[]
 fm:List Nat:=[]
 eb:Nat->Option Nat:=λ_=>none
 es:Nat->Option Nat:=λ_=>none
 er:Nat->Option Nat:=λ_=>none
 cut:List Nat:=[]
def cellsOf:(t:CT)->qL->t.D->ay AC
 | .int k,_,n=>[.int k n]
 | .bool,_,b=>[.bool b]
 | .str,_,s=>[.str s]
 | .sl e,fl,xs=>[.sl fl e xs]
 | .pair a b,fl,x=>cellsOf a fl x.1++cellsOf b fl x.2
def lZ:(t:CT)->ay AC->aC (t.D×ay AC)
 | .int k,.int k' n::r=>if k'=k then some (n,r) else none
 | .bool,.bool b::r=>some (b,r)
 | .str,.str s::r=>some (s,r)
 | .sl e,.sl (.own _) e' xs::r=>if h:e'=e then some (h▸xs,r) else none
 | .sl _,.kx::r=>some ([],r)
 | .pair a b,cs=>(lZ a cs).bind λx=>(lZ b x.2).bind λy=>some ((x.1,y.1),y.2)
 |_,_=>none
def nth {α:Type}:ay α->Nat->aC α
 |[],_=>none
 |a::_,0=>some a
 |_::l,n+1=>nth l n
def iR {α:Type}:ay α->Nat->α->ay α
 |[],_,_=>[]
 |_::l,0,v=>v::l
 |a::l,n+1,v=>a::iR l n v
def AS.get (st:AS)(i:Nat):AV:=(nth st.slots i).getD .bot
def AS.put (st:AS)(d:aC Nat)(v:AV):AS:=
 match d with
 |some d=>{st with slots:=iR st.slots d v}
 |none=>st
def Im (d j:Nat):Nat:=3*(4096*d+j)+2
def AS.je (st:AS)(d:aC Nat)(j:Nat):aC Nat:=
 match d with
 |some d=>bif (nth st.iss d).getD true then none else bif Nat.ble 4096 j then none else some (Im d j)
 |none=>none
def AS.gv (st:AS)(d:aC Nat):AS:=
 match d with
 |some d=>{st with iss:=iR st.iss d true}
 |none=>st
def AS.qg (st:AS)(d:aC Nat)(e:CT)(xs:ay e.D):AS:=
 (st.gv d).put d (.one (.sl (.own (st.je d 0)) e xs))
def AC.borrow (ep:Nat)(rt:aC lq):AC->AC
 | .sl (.own tag) e xs=> .sl (.loc ep (match rt,tag with|some r,some t=>some (r,t)|_,_=>none)) e xs
 | .sl (.gj tag _ (some L3)) e xs=> .sl (.loc L3 (match rt,tag with|some r,some t=>some (r,t)|_,_=>none)) e xs
 | .sl (.gj _ _ none) _ _=> .bot
 |c=>c
def jn (ep:Nat)(f:Nat->lq):Nat->ay AC->ay AC
 |_,[]=>[]
 |j,c::cs=>c.borrow ep (some (f j))::jn ep f (j+1) cs
def bf (ep:Nat)(cs:ay AC):ay AC:=cs.map (AC.borrow ep none)
def AV.borrow (ep:Nat)(f:Nat->lq):AV->AV
 | .val g cs=> .val g (jn ep f 0 cs)
 | .wh vs=> .wh (vs.map λx=>(x.1,bf ep x.2))
def AV.bf (ep:Nat):AV->AV
 | .val g cs=> .val g (Dn.bf ep cs)
 | .wh vs=> .wh (vs.map λx=>(x.1,Dn.bf ep x.2))
def ofConst:Value->AV
 | .int k n=> .one (.int k n)
 | .bool b=> .one (.bool b)
 | .string s=> .one (.str s.data.toList)
 | .slice none 0 0=> .one .kx
 |_=> .bot
def AS.rd (st:AS):Operand->AV
 | .tmp t=>(st.get t).borrow st.ep (.slot t)
 | .const v=>ofConst v
 | .func f=> .one (.fn f)
 | .global _=> .bot
def AS.take (st:AS):Operand->AV×AS
 | .tmp t=>(st.get t,st.put (some t) ((st.get t).bf st.ep))
 |x=>(st.rd x,st)
def AS.fD (st:AS)(s:Nat)(b:aC (ay AC)):AS:={st with boxes:=iR st.boxes s b}
def AC.asArg (ep:Nat):AC->AC
 | .int k n=> .int k n
 | .bool b=> .bool b
 | .str s=> .str s
 | .sl (.own _) e xs=> .sl (.arg false) e xs
 | .sl (.loc ep' _) e xs=>if ep'==ep then .sl (.arg false) e xs else .bot
 | .sl (.arg _) e xs=> .sl (.arg false) e xs
 | .kx=> .kx
 | .fn f=> .fn f
 |_=> .bot
def AV.asArg (ep:Nat):AV->AV
 | .val g cs=> .val g (cs.map (AC.asArg ep))
 | .wh _=> .bot
def AC.Dr (ep:Nat)(tag:aC Nat):AC->AC
 | .sl (.own _) e xs=> .sl (.own tag) e xs
 | .sl (.arg _) e xs=> .sl (.loc ep none) e xs
 | .sl (.loc _ _) _ _=> .bot
 | .sl (.nest ..) _ _=> .bot
 | .sl (.part ..) _ _=> .bot
 | .sl (.gj _ i _) e xs=> .sl (.gj none i none) e xs
 | .ptr _ _=> .bot
 | .BA _ _ _ _ _=> .bot
 |c=>c
def H6 (ep:Nat)(mk:Nat->aC Nat):Nat->ay AC->ay AC
 |_,[]=>[]
 |j,c::cs=>c.Dr ep (mk j)::H6 ep mk (j+1) cs
def Yj (ep:Nat)(mk:Nat->aC Nat):Nat->ay (Bool×ay AC)->ay (Bool×ay AC)
 |_,[]=>[]
 |j,t::ts=>(t.1,H6 ep mk j t.2)::Yj ep mk (j+t.2.length) ts
def AV.Dr (ep:Nat)(mk:Nat->aC Nat):AV->AV
 | .val g cs=> .val g (H6 ep mk 0 cs)
 | .wh vs=> .wh (Yj ep mk 0 vs)
def AC.GY:AC->Bool
 | .sl (.arg _) _ _=>true
 | .int ..=>true
 | .bool _=>true
 | .str _=>true
 | .fn _=>true
 |_=>false
structure kH where
 R:Type
 fn:List AV->Option R
 av:R->AV
 io:Bool:=false
 back:R->List AC:=λ_=>[]
 bx:Bool:=false
 pr:Bool:=false
 sel:R->Bool:=λ_=>true
 alt:R->AV:=λ_=> .val false [.bot]
 cur:Bool:=false
 hcur:cur=true->∀y,(back y).all AC.GY=true:=by intro h;cases h
def kH.res (F:kH)(y:F.R):AV:=cond (F.sel y) (F.av y) (F.alt y)
abbrev zP:=Nat->kH
def kH.dead:kH:={R:=Unit,fn:=λ_=>none,av:=λ_=> .val false [.bot]}
def zP.calm (Γ:zP):zP:=λf=>bif (Γ f).io||(Γ f).bx||(Γ f).pr then kH.dead else Γ f
def zP.GH (Γ:zP):zP:=λf=>bif (Γ f).io||(Γ f).pr||((Γ f).bx&& !(Γ f).cur) then kH.dead else Γ f
def HH {R:Type}(op:BinOp)(k:IntKind)(x y:Int)(K:AC->aC R):aC R:=
 match op with
 | .add=>K (.int k (k.wrap (x+y)))
 | .sub=>K (.int k (k.wrap (x-y)))
 | .mul=>K (.int k (k.wrap (x*y)))
 | .quo=>if y=0 then none else K (.int k (k.wrap (x.tdiv y)))
 | .rem=>if y=0 then none else K (.int k (x.tmod y))
 | .and=>K (.int k (k.wrap (BitVec.ofInt k.bits x&&&BitVec.ofInt k.bits y).toNat))
 | .or=>K (.int k (k.wrap (BitVec.ofInt k.bits x|||BitVec.ofInt k.bits y).toNat))
 | .xor=>K (.int k (k.wrap (BitVec.ofInt k.bits x^^^BitVec.ofInt k.bits y).toNat))
 | .andNot=>K (.int k (k.wrap (BitVec.ofInt k.bits x&&&~~~ BitVec.ofInt k.bits y).toNat))
 | .eql=>K (.bool (x==y))
 | .neq=>K (.bool (x !=y))
 | .lss=>K (.bool (decide (x<y)))
 | .leq=>K (.bool (decide (x<=y)))
 | .gtr=>K (.bool (decide (x>y)))
 | .geq=>K (.bool (decide (x>=y)))
 |_=>none
def Kw {R:Type}(op:BinOp)(x y:ay UInt8)(K:AC->aC R):aC R:=
 match op with
 | .add=>room (x.length+y.length) (K (.str (x++y)))
 | .eql=>K (.bool (x==y))
 | .neq=>K (.bool (!(x==y)))
 | .lss=>K (.bool (Op.bytesLess x y))
 | .leq=>K (.bool (Op.bytesLess x y||x==y))
 | .gtr=>K (.bool (!(Op.bytesLess x y||x==y)))
 | .geq=>K (.bool (!(Op.bytesLess x y)))
 |_=>none
def uU:ay AC->ay AC->aC Bool
 |[],[]=>some true
 | .int k x::r,.int k' y::r'=>if k=k' then(uU r r').bind λb=>some ((x==y)&&b) else none
 | .bool x::r,.bool y::r'=>(uU r r').bind λb=>some ((x==y)&&b)
 | .str x::r,.str y::r'=>(uU r r').bind λb=>some ((x==y)&&b)
 |_,_=>none
def FA {R:Type}(op:BinOp)(x y:AV)(K:AC->aC R):aC R:=
 match x,y with
 | .val false [.int k a],.val false [.int k' b]=>
   match op with
   | .shl=>if b<0 then none else K (.int k (k.wrap (a*2^(min b.toNat k.bits))))
   | .shr=>if b<0 then none else K (.int k (a.fdiv (2^(min b.toNat k.bits))))
   |_=>if k=k' then HH op k a b K else none
 | .val false [.str a],.val false [.str b]=>Kw op a b K
 | .val false [.bool a],.val false [.bool b]=>
   match op with
   | .eql=>K (.bool (a==b))
   | .neq=>K (.bool (!(a==b)))
   |_=>none
 | .val true xs,.val true ys=>
   match op with
   | .eql=>aa (uU xs ys) λb=>K (.bool b)
   | .neq=>aa (uU xs ys) λb=>K (.bool (!b))
   |_=>none
 |_,_=>none
def unC {R:Type}(op:UnOp)(x:AV)(K:AC->aC R):aC R:=
 match op,x with
 | .not,.val false [.bool b]=>K (.bool (!b))
 | .neg,.val false [.int k n]=>K (.int k (k.wrap (0-n)))
 | .xor,.val false [.int k n]=>HH .xor k (if k.signed then-1 else k.max) n K
 |_,_=>none
def eX (cs:ay AC)(off:Nat)(vs:ay AC):ay AC:=cs.take off++vs++cs.drop (off+vs.length)
def AS.fK (st:AS):lq->aC AC
 | .slot s j=>match st.get s with| .val _ cs=>nth cs j|_=>none
 | .box s j=>((nth st.boxes s).getD none).bind λcs=>nth cs j
 | .io j=>nth st.io j
def AS.fQ (st:AS)(r:lq)(c:AC):AS:=
 match r with
 | .slot s j=>match st.get s with| .val g cs=>st.put (some s) (.val g (iR cs j c))|_=>st
 | .box s j=>match (nth st.boxes s).getD none with|some cs=>st.fD s (some (iR cs j c))|none=>st
 | .io j=>{st with io:=iR st.io j c}
def AS.fresh (st:AS):AC->AC
 | .sl (.loc ep (some (r,t))) e xs=>
   bif ep==st.ep then .sl (.loc ep (some (r,t))) e xs else
    match st.fK r with
    |some (.sl (.own (some t')) e' ys)=>if h:e'=e then bif t'==t then .sl (.loc st.ep (some (r,t))) e (h▸ys) else .sl (.loc ep (some (r,t))) e xs else .sl (.loc ep (some (r,t))) e xs
    |_=> .sl (.loc ep (some (r,t))) e xs
 |c=>c
def AV.fresh (st:AS):AV->AV
 | .val g cs=> .val g (cs.map st.fresh)
 | .wh vs=> .wh vs
def AC.now (ep:Nat):AC->Bool
 | .sl (.loc ep' (some _)) _ _=>ep'==ep
 |_=>true
def AS.pM {R:Type}(st:AS)(r:lq)(t:Nat)(e:CT)(i:Int)(off:Nat)(vs:ay AC)(K:AS->aC R):aC R:=
 match st.fK r with
 |some (.sl (.own (some t')) e' xs)=>
  if h:e'=e then
   if t'=t then
    aa (idx (h▸xs:ay e.D) i) λx=>
     match lZ e (eX (cellsOf e (.own none) x) off vs)with
     |some (x',[])=>K {st.fQ r (.sl (.own (some t')) e ((h▸xs:ay e.D).set i.toNat x'))with ep:=st.ep+1}
     |_=>none
   else none
  else none
 |some (.sl (.gj (some t') i' _) e' xs)=>
  if h:e'=e then
   if t'=t/\off=0 then
    aa (aaW (h▸xs:ay e.D) i' i) λ_=>
     match lZ e vs with
     |some (x',[])=>K {st.fQ r (.sl (.own (some t')) e ((h▸xs:ay e.D).set i.toNat x'))with ep:=st.ep+1}
     |_=>none
   else none
  else none
 |_=>none
def AV.cells:AV->ay AC
 | .val _ cs=>cs
 | .wh _=>[.bot]
def fL (st:AS):ay Operand->ay AV×AS
 |[]=>([],st)
 |x::xs=>let (v,st1):=st.take x;let (vs,st2):=fL st1 xs;(v::vs,st2)
def Cj (e:CT):ay (ay AC)->aC (ay e.D)
 |[]=>some []
 |cs::r=>match lZ e cs with
  |some (x,[])=>(Cj e r).bind λxs=>some (x::xs)
  |_=>none
def HF:Nat->ay (Nat×Operand)->Bool
 |_,[]=>true
 |n,(i,_)::r=>i==n&&HF (n+1) r
def AC.Ic:AC->Bool
 | .bot=>false
 | .un=>false
 |_=>true
def wE (kE:ay (Nat×Nat))(zero:ay AC):ay (Nat×ay AC)->aC (ay AC)
 |[]=>some zero
 |(i,cs)::r=>match nth kE i with
  |some (off,n)=>if cs.length=n/\off+n<=zero.length/\cs.all AC.Ic then wE kE (eX zero off cs) r else none
  |none=>none
inductive LK where
 |int|bool|str
 deriving DecidableEq
structure Env where
 ty:List (Nat×Shape)
 eqs:List (Nat×List LK):=[]
 fts:List ((Nat×Nat)×Nat):=[]
def PZ (l:ay (Nat×ay LK))(t:Nat):aC (ay LK):=
 match l with
 |[]=>none
 |(u,sh)::r=>bif u==t then some sh else PZ r t
def fits:ay LK->ay AC->Bool
 |[],[]=>true
 | .int::ls,.int _ _::r=>fits ls r
 | .bool::ls,.bool _::r=>fits ls r
 | .str::ls,.str _::r=>fits ls r
 |_,_=>false
def UD (l:ay ((Nat×Nat)×Nat))(S f:Nat):aC Nat:=
 match l with
 |[]=>none
 |((u,k),T)::r=>bif u==S&&k==f then some T else UD r S f
def jN (l:ay (Nat×Shape))(t:Nat):aC Shape:=
 match l with
 |[]=>none
 |(u,sh)::r=>bif u==t then some sh else jN r t
def Env.sl (E:Env)(t:Nat):aC CT:=
 match jN E.ty t with
 |some ⟨false,.sl e,_⟩=>some e
 |_=>none
def Env.str (E:Env)(t:Nat):Bool:=
 match jN E.ty t with
 |some ⟨false,.str,_⟩=>true
 |_=>false
def Env.bool (E:Env)(t:Nat):Bool:=
 match jN E.ty t with
 |some ⟨false,.bool,_⟩=>true
 |_=>false
def Env.bytes (E:Env)(t:Nat):Bool:=
 match jN E.ty t with
 |some ⟨false,.sl (.int .u8),[(te,_)]⟩=>match jN E.ty te with|some ⟨false,.int .u8,_⟩=>true|_=>false
 |_=>false
def qL.live (ep:Nat):qL->Bool
 | .loc ep' _=>ep'==ep
 | .arg _=>true
 | .own _=>false
 | .nest ..=>false
 | .part ..=>false
 | .gj ..=>false
def qL.nj (ep:Nat)(flat:Bool):qL->Bool
 | .loc ep' _=>ep'==ep&&flat
 | .arg _=>flat
 | .own _=>true
 | .nest ..=>false
 | .part ..=>false
 | .gj ..=>false
def qL.bare:qL->qL
 | .loc ep _=> .loc ep none
 |f=>f
def AC.kc:AC->Bool
 | .int _ _=>true
 | .bool _=>true
 | .str _=>true
 | .fn _=>true
 |_=>false
def tm:Operand->fR
 | .tmp t=>[t]
 |_=>[]
def OZ (l:ay Operand):fR:=l.flatMap tm
def EO (an:An)(o:Oper):Bool:=
 match o.dst with
 |some d=>an.mv.contains d&&(an.mb d).isNone
 |none=>false
def alU (an:An)(o:Oper):Bool:=
 match o.dst with
 |some d=>an.nils.contains d
 |none=>false
def Al (an:An)(o:Oper):Bool:=
 match o.op with
 | .assign (.tmp s)=>an.late.contains s
 | .store _ _ (.tmp s)=>an.late.contains s
 |_=>false
def tmO:aC Operand->fR
 |some x=>tm x
 |none=>[]
def dY (o:Oper):fR:=
 match o.op with
 | .move x=>tm x
 | .assign x=>tm x
 | .pick c a b=>tm c++tm a++tm b
 | .box _ x=>tm x
 | .load _ p=>tm p
 | .store _ p x=>tm p++tm x
 | .nilCheck x=>tm x
 | .binOp _ _ x y _=>tm x++tm y
 | .unOp _ _ x=>tm x
 | .fieldAddr _ p _=>tm p
 | .indexAddr _ x i=>tm x++tm i
 | .index _ x i=>tm x++tm i
 | .build _ parts=>OZ (parts.toList.map (·.2))
 | .buildSlice _ _ parts=>OZ (parts.toList.map (·.2))
 | .makeSlice _ n c=>tm n++tm c
 | .slice _ x lo hi none=>tm x++tmO lo++tmO hi
 | .convert _ _ x=>tm x
 | .extract (.tmp t) _=>[t]
 | .call {callee:=.builtin _,args,..}=>OZ args.toList
 | .call {callee:=.value f,args,..}=>tm f++OZ args.toList
 |_=>[]
def EM (an:An)(o:Oper):Bool:=
 match o.op with
 | .move _=>match o.dst with|some d=>an.mv.contains d|none=>false
 | .assign _=>true
 | .box ..=>true
 | .build ..=>true
 | .buildSlice ..=>true
 | .store ..=>true
 | .extract ..=>match o.dst with|some d=>an.mv.contains d|none=>false
 | .call {callee:=.builtin .append,..}=>true
 |_=>false
def EK (an:An)(o:Oper):Bool:=
 match o.op,o.dst,o.guard with
 | .load _ (.tmp q),some d,none=>an.mv.contains d&&(an.mb d).isNone&&(an.eb q).isSome
 |_,_,_=>false
def Bh (an:An)(o:Oper):Bool:=
 match o.op,o.dst,o.guard with
 | .load _ (.tmp q),some d,none=> !an.mv.contains d&& !an.fm.contains d&&(an.sb q).isSome
 |_,_,_=>false
def ES (an:An)(o:Oper):fR:=
 match o.op with
 | .alloc _=>o.dst.toList
 | .box ..=>o.dst.toList
 | .load _ p=>match o.dst with|some d=>bif an.mv.contains d then(an.mb d).toList++(bif EK an o then(match p with| .tmp q=>(an.eb q).toList|_=>[]) else []) else []|none=>[]
 | .store _ (.tmp p) _=>(an.sb p).toList
 | .call {callee:=.value _,args,..}=>(match args.toList with| .tmp q::_=>(an.sb q).toList|_=>[])
 |_=>[]
def oa (an:An)(o:Oper):Bool:=
 match o.op with
 | .move _=>true
 | .load ..=>(match o.dst with|some d=> !an.mv.contains d||(an.mb d).isSome|none=>false)||EK an o
 | .extract (.tmp _) _=>true
 | .store _ (.tmp p) _=>(an.sb p).isSome&& !Al an o
 | .assign _=> !Al an o
 | .pick ..| .alloc _| .box ..| .nilCheck _| .binOp ..| .unOp ..| .fieldAddr ..| .indexAddr ..| .index ..| .build ..| .buildSlice ..| .makeSlice ..| .convert ..=>true
 | .slice _ _ _ _ none=> !EO an o
 | .call {callee:=.builtin .len,..}| .call {callee:=.builtin .min,..}| .call {callee:=.builtin .max,..}| .call {callee:=.builtin .append,..}=>true
 | .call {callee:=.value _,..}=>true
 |_=>false
def writes (an:An)(o:Oper):fR:=o.dst.toList++(bif EM an o then dY o else [])
def AV.now (ep:Nat):AV->Bool
 | .val _ cs=>cs.all (AC.now ep)
 | .wh _=>true
def AC.lU:AC->Bool
 | .int ..=>true
 | .bool _=>true
 | .str _=>true
 | .fn _=>true
 | .ptr ..=>true
 |_=>false
def AV.lU:AV->Bool
 | .val _ cs=>cs.all AC.lU
 | .wh _=>false
def D0 (E:Env)(T:TypeId)(st:AS)(s off:Nat):Bool:=
 match jN E.ty T,(nth st.boxes s).getD none with
 |some sh,some cs=>((cs.drop off).take sh.ct.size).all AC.lU
 |_,_=>false
def VV (an:An)(o:Oper):Bool:=match o.dst with|some d=>an.fm.contains d|none=>false
def BM (an:An)(o:Oper):Bool:=
 match o.op,o.dst,o.guard with
 | .load _ (.tmp _),some d,none=>an.mv.contains d&&(an.mb d).isSome
 |_,_,_=>false
def Mf (an:An)(o:Oper):Bool:=
 match o.op,o.dst,o.guard with
 | .load _ (.tmp _),some d,none=> !an.mv.contains d&&an.fm.contains d
 |_,_,_=>false
def erS (an:An)(o:Oper):fR:=
 match o.op,o.dst with
 | .load ..,some d=>(an.er d).toList
 | .call {callee:=.value _,..},some d=>(an.er d).toList
 |_,_=>[]
def AC.afw (l:fR):AC->Bool
 | .sl (.loc _ (some (.slot b _,_))) _ _=>l.contains b
 | .sl (.loc _ _) _ _=>false
 |_=>true
def Ia (l:fR)(st:AS):Operand->Bool
 | .tmp t=>(match st.get t with| .val _ cs=>cs.all (AC.afw l)| .wh _=>true)
 |_=>true
def adk (an:An)(X l:fR)(st:AS)(xs:ay Operand)(q:Nat):AV->Bool
 | .val false [.ptr s _]=> !X.contains s&&an.sb q==some s&&(match (nth st.boxes s).getD none with|some cs=>cs.all AC.GY|none=>true)&&xs.all (Ia l st)
 |_=>true
def AV.ZR:AV->Bool
 | .val false [.ptr _ _]=>false
 |_=>true
def tw (an:An)(X l:fR)(st:AS):ay Operand->Bool
 | .tmp q::xs=>adk an X l st xs q (st.rd (.tmp q))
 |x::_=>(st.rd x).ZR
 |[]=>true
def dP (E:Env)(an:An)(X:fR)(o:Oper)(st:AS):Bool:=
 match o.op with
 | .move x=> !VV an o||(st.rd x).lU
 | .indexAddr _ x _=>(st.rd x).now st.ep||(match st.rd x with| .val _ [.sl (.loc _ (some (.box b _,_))) _ _]=> !X.contains b|_=>false)
 | .slice _ x _ _ none=>(st.rd x).now st.ep
 | .call {callee:=.value _,args,..}=>tw an X (erS an o) st args.toList&&args.toList.all λx=>(st.rd x).now st.ep
 | .load T p=>match st.rd p with
   | .val false [.ptr s off]=> !X.contains s&&(match o.dst with|some d=> !an.mv.contains d||an.mb d==some s|none=>true)&&(!VV an o||D0 E T st s off)
   | .val false [.BA fl _ _ _ _]=>(fl.live st.ep||(match fl with
     | .loc _ (some (.slot b _,_))=>(erS an o).contains b
     | .loc _ (some (.box b _,_))=> !X.contains b
     |_=>false))&& !(VV an o||BM an o)&& !Bh an o&&(!EK an o||(match p,fl with
     | .tmp q,.loc _ (some (.box b _,_))=>an.eb q==some b&& !X.contains b
     |_,_=>false))
   |_=> !(VV an o||BM an o)
 | .store _ (.tmp p) _=>((an.sb p).isNone&&(an.eb p).isNone&&(an.es p).isNone)||(match st.rd (.tmp p)with
   | .val false [.ptr s _]=> !X.contains s&&an.sb p==some s
   | .val false [.BA (.loc _ (some (.box b _,_))) _ _ _ _]=>an.eb p==some b&&(an.sb p).isNone&&(an.es p).isNone
   | .val false [.BA (.loc _ (some (.slot b _,_))) _ _ _ _]=>an.es p==some b&&(an.sb p).isNone&&(an.eb p).isNone
   |_=>false)
 | .extract (.tmp t) i=>match st.get t with
   | .wh vs=>match nth vs i with|some x=>x.2.all AC.kc||(match o.dst with|some d=>an.mv.contains d|none=>false)|none=>true
   |_=>true
 |_=>true
def D9 (an:An)(ops:ay Oper)(o:Oper):fR:=
 (match o.guard with
 |some (j,_)=>((nth ops j).bind (·.dst)).toList
 |none=>[])++erS an o
def meets (a b:fR):Bool:=a.any λx=>b.contains x
def V9 (an:An)(ops:ay Oper)(X Y:fR)(o p:Oper):Bool:=
 oa an o&&oa an p&& !meets (writes an o) (dY p++D9 an ops p++writes an p)&& !meets (writes an p) (dY o++D9 an ops o)&&
 (ES an o).all (λd=>Y.contains d)&&(ES an p).all (λd=>X.contains d)&& !meets (ES an o) (p.dst.toList++ES an p)&& !meets (ES an p) o.dst.toList
def W1 (o p:Oper):Bool:=
 match o.op,p.op,o.dst,p.dst,o.guard,p.guard with
 | .extract (.tmp t) i,.extract (.tmp t') j,some d,some d',none,none=>t==t'&& !(i==j)&& !(d==d')&& !(d==t)&& !(d'==t)
 |_,_,_,_,_,_=>false
def WX (an:An)(o p:Oper):Bool:=
 match p.op,p.dst,p.guard with
 | .store _ (.tmp q) (.tmp x),none,none=>((an.eb q).isSome&&(an.es q).isNone||(match an.es q with|some b=>(an.eb q).isNone&& !(b==x)&& !(b==q)&& !meets [b] (o.dst.toList++dY o)|none=>false))&&(an.sb q).isNone&& !Al an p&&(match o.op,o.dst,o.guard with
   | .move (.tmp t),some d,none=> !an.mv.contains d&&an.fm.contains d&& !(d==q)&& !(d==x)&& !(t==x)&& !(t==q)&& !(d==t)
   | .extract (.tmp t) _,some d,none=> !(d==q)&& !(d==x)&& !(t==x)&& !(t==q)&& !(d==t)
   |_,_,_=>false)
 |_,_,_=>false
def XP (an:An)(o p:Oper):Bool:=
 (BM an o&&Mf an p||Mf an o&&BM an p)&& !meets o.dst.toList (p.dst.toList++dY p)&& !meets p.dst.toList (dY o)
def Wn (an:An)(o p:Oper):Bool:=Bh an o&&EK an p&& !meets o.dst.toList (p.dst.toList++dY p)&& !meets p.dst.toList (dY o)
def afc (an:An)(o p:Oper):Bool:=W1 o p||WX an o p||XP an o p||Wn an o p
def LA (an:An)(ops:ay Oper)(X Y:fR)(o p:Oper):Bool:=afc an o p||V9 an ops X Y o p
def Bj (o:Oper):fR:=(o.after.toList.filter (λe=>Region.binds .any e)).map (·.on)
def SJ (a b:fR):fR:=a.foldl (λs x=>bif s.contains x then s else x::s) b
def S0:ay Oper->ay fR->ay fR
 |[],acc=>acc
 |o::r,acc=>S0 r (acc++[(Bj o).foldl (λs j=>SJ (j::(nth acc j).getD []) s) []])
def abW (A:ay fR)(i k:Nat):Bool:=((nth A i).getD []).contains k
def YS (an:An)(A:ay fR)(i:Nat)(fl pl:Bool):Nat->ay Oper->fR
 |_,[]=>[]
 |k,o::r=>(bif !abW A i k&& !abW A k i&& !(k==i)&& !(fl&&BM an o)&& !(pl&&EK an o) then ES an o else [])++YS an A i fl pl (k+1) r
def sI (an:An)(A:ay fR)(i k:Nat)(ops:ay Oper):fR:=YS an A i (match nth ops i with|some o=>Mf an o|none=>false) (match nth ops i with|some o=>Bh an o|none=>false) k ops
def Nc (an:An)(ops:ay Oper)(A:ay fR)(i:Nat)(oi:Oper):Nat->ay Oper->Bool
 |_,[]=>true
 |j,oj::r=>bif Nat.ble i j then true else(abW A i j||LA an ops (sI an A j 0 ops) (sI an A i 0 ops) oj oi)&&Nc an ops A i oi (j+1) r
def Sc (an:An)(ops:ay Oper)(A:ay fR):Nat->ay Oper->Bool
 |_,[]=>true
 |i,oi::r=>(Bj oi).all (λk=>Nat.blt k i)&&Nc an ops A i oi 0 ops&&Sc an ops A (i+1) r
def Tn (an:An)(ops:ay Oper):Bool:=Sc an ops (S0 ops []) 0 ops
inductive Ex where
 |normal|ret|exit (id:Nat)
inductive FK where
 |own (tag:Option Nat)|arg|ye|loc|lio (j t:Nat)|nil
def FK.flag:FK->qL
 | .own t=> .own t
 | .arg=> .arg false
 | .ye=> .arg true
 | .loc=> .loc 0 none
 | .lio j t=> .loc 0 (some (.io j,t))
 | .nil=> .arg false
def FK.isNil:FK->Bool
 | .nil=>true
 |_=>false
inductive FT where
 |int (k:IntKind)|bool|str|sl (fl:FK) (e:CT)|pair (a b:FT)
abbrev FT.ct:FT->CT
 | .int k=> .int k
 | .bool=> .bool
 | .str=> .str
 | .sl _ e=> .sl e
 | .pair a b=> .pair a.ct b.ct
def jZ:(t:FT)->t.ct.D->ay AC
 | .int k,n=>[.int k n]
 | .bool,b=>[.bool b]
 | .str,s=>[.str s]
 | .sl fl e,xs=>[bif fl.isNil then .kx else .sl fl.flag e xs]
 | .pair a b,x=>jZ a x.1++jZ b x.2
def FK.fits:FK->qL->Bool
 | .own t,.own t'=>t==t'
 | .arg,.arg k=> !k
 | .ye,.arg k=>k
 | .loc,.loc 0 none=>true
 | .lio j t,.loc 0 (some (.io j',t'))=>j==j'&&t==t'
 |_,_=>false
def Ll:(t:FT)->ay AC->aC (t.ct.D×ay AC)
 | .int k,.int k' n::r=>if k'=k then some (n,r) else none
 | .bool,.bool b::r=>some (b,r)
 | .str,.str s::r=>some (s,r)
 | .sl fl e,.sl fl' e' xs::r=>if h:e'=e then bif fl.fits fl' then some (h▸xs,r) else none else none
 | .sl fl _,.kx::r=>bif fl.isNil then some ([],r) else none
 | .pair a b,cs=>(Ll a cs).bind λx=>(Ll b x.2).bind λy=>some ((x.1,y.1),y.2)
 |_,_=>none
inductive PD where
 |bot|ptr (s off:Nat)|fn (f:Nat)|data (g:Bool) (t:FT)
inductive IoD where
 |none|some (t:FT)|ptr
structure SD where
 slots:List PD
 boxes:List (Option FT)
 io:IoD:=.none
abbrev JD:ay PD->Type
 |[]=>Unit
 | .data _ t::r=>t.ct.D×JD r
 |_::r=>JD r
abbrev IH:ay (aC FT)->Type
 |[]=>Unit
 |some t::r=>t.ct.D×IH r
 |none::r=>IH r
abbrev ioD:IoD->Type
 | .none=>Unit
 | .some t=>t.ct.D
 | .ptr=>Unit
abbrev SD.D (d:SD):Type:=JD d.slots×IH d.boxes×ioD d.io
def sK:(l:ay PD)->JD l->ay AV
 |[],_=>[]
 | .data g t::r,x=> .val g (jZ t x.1)::sK r x.2
 | .bot::r,x=> .bot::sK r x
 | .ptr s off::r,x=> .one (.ptr s off)::sK r x
 | .fn f::r,x=> .one (.fn f)::sK r x
def BU:(l:ay (aC FT))->IH l->ay (aC (ay AC))
 |[],_=>[]
 |some t::r,x=>some (jZ t x.1)::BU r x.2
 |none::r,x=>none::BU r x
def adV:(o:IoD)->ioD o->ay AC
 | .none,_=>[]
 | .some t,x=>jZ t x
 | .ptr,_=>[.ptr 0 0]
def SD.enc (d:SD)(x:d.D):AS:=⟨sK d.slots x.1,BU d.boxes x.2.1,0,List.replicate d.slots.length false,adV d.io x.2.2⟩
def AV.ZJ:AV->Bool
 | .val false [.bot]=>true
 |_=>false
def AV.ZK (s off:Nat):AV->Bool
 | .val false [.ptr s' ap8]=>s==s'&&off==ap8
 |_=>false
def AV.abl (f:Nat):AV->Bool
 | .val false [.fn f']=>f==f'
 |_=>false
def kJ:(l:ay PD)->ay AV->aC (JD l)
 |[],[]=>some ()
 | .data g t::r,.val g' cs::vs=>bif g==g' then(match Ll t cs with|some (x,[])=>(kJ r vs).bind λy=>some (x,y)|_=>none) else none
 | .bot::r,v::vs=>bif v.ZJ then kJ r vs else none
 | .ptr s off::r,v::vs=>bif v.ZK s off then kJ r vs else none
 | .fn f::r,v::vs=>bif v.abl f then kJ r vs else none
 |_,_=>none
def qP:(l:ay (aC FT))->ay (aC (ay AC))->aC (IH l)
 |[],[]=>some ()
 |some t::r,some cs::bs=>match Ll t cs with|some (x,[])=>(qP r bs).bind λy=>some (x,y)|_=>none
 |none::r,none::bs=>qP r bs
 |_,_=>none
def XG:ay AC->Bool
 |[.ptr 0 0]=>true
 |_=>false
def Tk:(o:IoD)->ay AC->aC (ioD o)
 | .none,[]=>some ()
 | .some t,cs=>match Ll t cs with|some (x,[])=>some x|_=>none
 | .ptr,cs=>bif XG cs then some () else none
 |_,_=>none
def SD.dec (d:SD)(st:AS):aC d.D:=
 bif st.ep==0&&st.iss==List.replicate d.slots.length false then
  (kJ d.slots st.slots).bind λx=>(qP d.boxes st.boxes).bind λy=>(Tk d.io st.io).bind λz=>some (x,y,z)
 else none
structure ID where
 sd:SD
 run:{R:Type}->sd.D->(Ex->AS->Option R)->Option R
abbrev mS:=Nat->ID
def ID.go {R:Type}(l:ID)(st:AS)(K:Ex->AS->aC R):aC R:=aa (l.sd.dec st) λx=>l.run x K
def ID.none:ID:=⟨⟨[],[],.none⟩,λ_ _=>Option.none⟩
def mS.nil:mS:=λ_=>ID.none
def mS.add (Λ:mS)(k:Nat)(l:ID):mS:=λj=>bif j==k then l else Λ j
section
variable {R:Type} (E:Env) (Γ:zP) (an:An)
def Cl (o:Oper)(x:Operand)(st:AS)(K:AS->aC R):aC R:=
 match o.dst with
 |some d=>if an.mv.contains d then K ((st.take x).2.put o.dst (st.take x).1) else K (st.put o.dst (st.rd x))
 |none=>none
def uO (o:Oper)(x:Operand)(st:AS)(K:AS->aC R):aC R:=
 match st.take x with
 |(.val false [.kx],_)=>match E.sl o.type with
  |some e=>K (st.put o.dst (.one (bif alU an o then .kx else .sl (.own none) e [])))
  |none=>none
 |(v,bX)=>K (bX.put o.dst v)
def Et (o:Oper)(c a b:Operand)(st:AS)(K:AS->aC R):aC R:=
 match st.rd c with
 | .val false [.bool t]=>match st.rd a,st.rd b with
   | .val false [.bool x],.val false [.bool y]=>K (st.put o.dst (.one (.bool (cond t x y))))
   |va,vb=>cond t (K (st.put o.dst va)) (K (st.put o.dst vb))
 |_=>none
def Cz (o:Oper)(T:TypeId)(st:AS)(K:AS->aC R):aC R:=
 match o.dst,jN E.ty T with
 |some d,some sh=>match nth st.boxes d with
  |some none=>K ((st.fD d (some (cellsOf sh.ct (.own none) sh.ct.zero))).put o.dst (.one (.ptr d 0)))
  |_=>none
 |_,_=>none
def QX (o:Oper)(x:Operand)(st:AS)(K:AS->aC R):aC R:=
 match o.dst,st.take x with
 |some d,(.val _ cs,bX)=>
  match nth bX.boxes d with
  |some none=>if cs.all AC.Ic then K ((bX.fD d (some cs)).put o.dst (.one (.ptr d 0))) else none
  |_=>none
 |_,_=>none
def R7 (ep:Nat)(r:lq)(t:Nat)(e:CT)(i:Int):Nat->ay AC->ay AC
 |_,[]=>[]
 |p,.sl _ e' xs::cs=> .sl (.nest ep r t e i p) e' xs::R7 ep r t e i (p+1) cs
 |p,c::cs=>c::R7 ep r t e i (p+1) cs
def aeX (o:Oper)(ep:Nat)(fl:qL)(e:CT)(i:Int)(off:Nat)(cs:ay AC):ay AC:=
 match fl,o.dst with
 | .loc _ (some (r,t)),some d=>bif an.nest.contains d then R7 ep r t e i off cs else cs
 |_,_=>cs
def Da (o:Oper)(sh:Shape)(fl:qL)(e:CT)(i:Int)(off:Nat)(st:AS)(K:AS->aC R):aC R:=
 match fl with
 | .loc _ (some (r,t))=>
   match st.fK r with
   |some (.sl (.own (some t')) e' ys)=>
    if h:e'=e then
     if t'=t/\off+sh.ct.size<=e.size then
      aa (idx (h▸ys:ay e.D) i) λy=>K (st.put o.dst (.val sh.agg (((cellsOf e (.loc st.ep none) y).drop off).take sh.ct.size)))
     else none
    else none
   |_=>none
 |_=>none
def ya (o:Oper)(sh:Shape)(fl:qL)(e:CT)(i:Int)(off:Nat)(st:AS)(K:AS->aC R):aC R:=
 match fl with
 | .loc _ (some (r,t))=>
   match st.fK r with
   |some (.sl (.own (some t')) e' ys)=>
    if h:e'=e then
     if t'=t/\off=0/\sh.ct=e then
      aa (idx (h▸ys:ay e.D) i) λy=>K ((st.fQ r (.sl (.gj (some t) i (some st.ep)) e (h▸ys))).put o.dst (.val sh.agg (cellsOf e (.own none) y)))
     else none
    else none
   |_=>none
 |_=>none
def pC (o:Oper)(T:TypeId)(p:Operand)(st:AS)(K:AS->aC R):aC R:=
 match jN E.ty T,st.rd p with
 |some sh,.val false [.ptr s off]=>
  match (nth st.boxes s).getD none with
  |some cs=>
   if off+sh.ct.size<=cs.length then
    match o.dst with
    |some d=>
     if an.mv.contains d then
      K ((st.fD s (some (eX cs off (bf st.ep ((cs.drop off).take sh.ct.size))))).put o.dst (.val sh.agg ((cs.drop off).take sh.ct.size)))
     else K (st.put o.dst (.val sh.agg (jn st.ep (.box s) off ((cs.drop off).take sh.ct.size))))
    |none=>none
   else none
  |none=>none
 |some sh,.val false [.BA fl e x i off]=>
  if EO an o then ya o sh fl e i off st K
  else if fl.live st.ep then
   if off+sh.ct.size<=e.size then K (st.put o.dst (.val sh.agg (aeX an o st.ep fl e i off (((cellsOf e fl.bare x).drop off).take sh.ct.size)))) else none
  else Da o sh fl e i off st K
 |_,_=>none
def wT (T:TypeId)(p x:Operand)(st:AS)(K:AS->aC R):aC R:=
 match jN E.ty T,st.rd p with
 |some sh,.val false [.ptr s off]=>
  match st.take x with
  |(.val _ vs,bX)=>
   match (nth bX.boxes s).getD none with
   |some cs=>
    if vs.length=sh.ct.size/\vs.all AC.Ic then
     if off+sh.ct.size<=cs.length then K (bX.fD s (some (eX cs off vs))) else none
    else none
   |none=>none
  |_=>none
 |some sh,.val false [.BA (.loc _ (some (r,t))) e _ i off]=>
  match st.take x with
  |(.val _ vs,bX)=>
   if vs.length=sh.ct.size/\off+sh.ct.size<=e.size then bX.pM r t e i off vs K else none
  |_=>none
 |_,_=>none
def zT (o:Oper)(S:TypeId)(p:Operand)(f:Nat)(st:AS)(K:AS->aC R):aC R:=
 match jN E.ty S,st.rd p with
 |some ⟨true,_,kE⟩,.val false [.ptr s off]=>match nth kE f with|some (fo,_)=>K (st.put o.dst (.one (.ptr s (off+fo))))|none=>none
 |some ⟨true,_,kE⟩,.val false [.BA fl e x i off]=>match nth kE f with|some (fo,_)=>K (st.put o.dst (.one (.BA fl e x i (off+fo))))|none=>none
 |_,_=>none
def mY (o:Oper)(T:TypeId)(x i:Operand)(st:AS)(K:AS->aC R):aC R:=
 match E.sl T,(st.rd x).fresh st,st.rd i with
 |some e',.val false [.sl fl e xs],.val false [.int _ n]=>
  if e'=e/\fl.live st.ep then aa (idx xs n) λy=>K (st.put o.dst (.one (.BA fl e y n 0))) else none
 |_,_,_=>none
def BF (o:Oper)(T:TypeId)(x i:Operand)(st:AS)(K:AS->aC R):aC R:=
 match st.rd x,st.rd i with
 | .val false [.str s],.val false [.int _ n]=>if E.str T then aa (idx s n) λb=>K (st.put o.dst (.one (.int .u8 b.toNat))) else none
 |_,_=>none
def Bw (o:Oper)(T:TypeId)(parts:ay (Nat×Operand))(st:AS)(K:AS->aC R):aC R:=
 match jN E.ty T with
 |some ⟨true,ct,kE⟩=>
  match fL st (parts.map (·.2))with
  |(vs,bX)=>
   match wE kE (cellsOf ct (.own none) ct.zero) ((parts.map (·.1)).zip (vs.map AV.cells))with
   |some cs=>K (bX.put o.dst (.val true cs))
   |none=>none
 |_=>none
def mn (o:Oper)(T:TypeId)(len:Nat)(parts:ay (Nat×Operand))(st:AS)(K:AS->aC R):aC R:=
 match E.sl T with
 |some e=>
  if parts.length=len/\HF 0 parts/\len<=1000 then
   match fL st (parts.map (·.2))with
   |(vs,bX)=>
    match Cj e (vs.map AV.cells)with
    |some xs=>K (bX.qg o.dst e xs)
    |none=>none
  else none
 |none=>none
def oW (o:Oper)(T:TypeId)(n c:Operand)(st:AS)(K:AS->aC R):aC R:=
 match E.sl T,st.rd n,st.rd c with
 |some e,.val false [.int .i64 len],.val false [.int .i64 cap]=>
  if 0<=len/\len<=cap then room cap.toNat (K (st.qg o.dst e (List.replicate len.toNat e.zero))) else none
 |_,_,_=>none
def nr (st:AS)(lo hi:aC Operand)(n:Nat)(K:Int->Int->aC R):aC R:=
 match lo.map st.rd,hi.map st.rd with
 |none,none=>K 0 n
 |some (.val false [.int _ a]),none=>K a n
 |none,some (.val false [.int _ b])=>K 0 b
 |some (.val false [.int _ a]),some (.val false [.int _ b])=>K a b
 |_,_=>none
def wM (o:Oper)(T:TypeId)(x:Operand)(lo hi:aC Operand)(st:AS)(K:AS->aC R):aC R:=
 match st.take x,lo.map st.rd,hi with
 |(.val false [.sl (.own _) e xs],bX),some (.val false [.int _ a]),none=>
  if E.sl T=some e then aa (sub xs a xs.length) λOe=>K (bX.qg o.dst e Oe) else none
 |_,_,_=>none
def Nd (o:Oper)(fl:qL)(a:Int):qL:=
 match fl,o.dst with
 | .loc ep (some (r,t)),some d=>bif an.nest.contains d then .part ep r t a else .loc ep none
 |fl,_=>fl.bare
def Av (o:Oper)(T:TypeId)(x:Operand)(lo hi:aC Operand)(st:AS)(K:AS->aC R):aC R:=
 if EO an o then wM E o T x lo hi st K else
 match (st.rd x).fresh st with
 | .val false [.str s]=>if E.str T then nr st lo hi s.length λa b=>aa (sub s a b) λs'=>K (st.put o.dst (.one (.str s'))) else none
 | .val false [.sl fl e xs]=>
   if E.sl T=some e/\fl.live st.ep then nr st lo hi xs.length λa b=>aa (sub xs a b) λOe=>K (st.put o.dst (.one (.sl (Nd an o fl a) e Oe))) else none
 |_=>none
def mr (o:Oper)(src dst:TypeId)(x:Operand)(st:AS)(K:AS->aC R):aC R:=
 match jN E.ty src,jN E.ty dst,st.rd x with
 |some _,some ⟨false,.int k,_⟩,.val false [.int _ n]=>K (st.put o.dst (.one (.int k (k.wrap n))))
 |some ⟨false,.str,_⟩,some ⟨false,.str,_⟩,.val false [.str s]=>K (st.put o.dst (.one (.str s)))
 |some ⟨false,.str,_⟩,some _,.val false [.str s]=>
  if E.bytes dst then room s.length (K (st.qg o.dst (.int .u8) (dL s))) else none
 |some _,some ⟨false,.str,_⟩,.val false [.sl fl (.int .u8) xs]=>
  if E.bytes src/\fl.live st.ep then K (st.put o.dst (.one (.str (aO xs)))) else none
 |_,_,_=>none
def mw (o:Oper)(t i:Nat)(st:AS)(K:AS->aC R):aC R:=
 match st.get t with
 | .wh vs=>match nth vs i with
   |some (g,cs)=>K ((st.put (some t) (.wh (iR vs i (g,bf 0 cs)))).put o.dst (.val g cs))
   |none=>none
 |_=>none
def MX (o:Oper)(ts:ay TypeId)(args:ay Operand)(st:AS)(K:AS->aC R):aC R:=
 match ts,args.map st.rd with
 |[t],[.val false [.str s]]=>if E.str t then K (st.put o.dst (.one (.int .i64 s.length))) else none
 |[t],[.val false [.sl _ _ xs]]=>if(E.sl t).isSome then K (st.put o.dst (.one (.int .i64 xs.length))) else none
 |_,_=>none
def OG (o:Oper)(args:ay Operand)(st:AS)(K:AS->aC R):aC R:=
 match args.map st.rd with
 |[.val false [.int k x],.val false [.int _ y]]=>K (st.put o.dst (.one (.int k (if y<x then y else x))))
 |_=>none
def OF (o:Oper)(args:ay Operand)(st:AS)(K:AS->aC R):aC R:=
 match args.map st.rd with
 |[.val false [.int k x],.val false [.int _ y]]=>K (st.put o.dst (.one (.int k (if y>x then y else x))))
 |_=>none
def Pa (o:Oper)(ts:ay TypeId)(args:ay Operand)(st:AS)(K:AS->aC R):aC R:=
 match ts,args.map st.rd with
 |[t,t'],[.val false [.sl (.part ep r tg lo) e xs],.val false [.str s]]=>
  match st.fK r with
  |some (.sl (.own (some tg')) e' ys)=>
   if h:e'=.int .u8 then
    if e=.int .u8/\E.sl t=some (.int .u8)/\E.str t'=true/\ep=st.ep/\tg'=tg then
     K ({st.fQ r (.sl (.own (some tg)) (.int .u8) (Cm (h▸ys:ay (CT.int .u8).D) lo.toNat (dL (s.take xs.length))))with ep:=st.ep+1}.put o.dst (.one (.int .i64 (min xs.length s.length:Nat))))
    else none
   else none
  |_=>none
 |_,_=>none
def E3 (o:Oper)(S:TypeId)(t f:Nat)(st:AS)(K:AS->aC R):aC R:=
 match jN E.ty S,st.get t,UD E.fts S f with
 |some ⟨true,ct,kE⟩,.val true cs,some T=>
  match nth kE f,jN E.ty T with
  |some (fo,n),some sh=>
   if n=sh.ct.size/\cs.length=ct.size/\fo+n<=cs.length then
    K ((st.put (some t) (.val true (eX cs fo (bf st.ep ((cs.drop fo).take n))))).put o.dst (.val sh.agg ((cs.drop fo).take n)))
   else none
  |_,_=>none
 |_,_,_=>none
def xa (o:Oper)(ts:ay TypeId)(args:ay Operand)(st:AS)(K:AS->aC R):aC R:=
 match ts,args with
 |[t,t'],[s,x]=>
  match st.take s with
  |(.val false [.sl (.own _) e xs],st1)=>
   match st1.take x with
   |(.val false [.sl fl e' ys],st2)=>
    if h:e'=e then
     if E.sl t=some e/\E.sl t'=some e/\fl.nj st.ep e.flat then
      room (xs.length+ys.length) (K (st2.qg o.dst e (xs++(h▸ys:ay e.D))))
     else none
    else none
   |(.val false [.str s],st2)=>
    if h:e=.int .u8 then
     if E.sl t=some e/\E.str t' then room (xs.length+s.length) (K (st2.qg o.dst (.int .u8) ((h▸xs:ay (CT.int .u8).D)++dL s))) else none
    else none
   |_=>none
  |_=>none
 |_,_=>none
def Pv:Nat->ay AC->aC (lq×Nat)
 |_,[]=>none
 |j,.sl (.loc _ (some (r,_))) _ _::_=>some (r,j)
 |j,_::cs=>Pv (j+1) cs
def lq.pos:lq->Nat
 | .slot _ j=>j
 | .box _ j=>j
 | .io j=>j
def AS.HX (st:AS):lq->aC (ay AC)
 | .slot s _=>match st.get s with| .val _ cs=>some cs|_=>none
 | .box s _=>(nth st.boxes s).getD none
 | .io _=>some st.io
def AS.EC (st:AS)(r:lq)(cs:ay AC):AS:=
 match r with
 | .slot s _=>match st.get s with| .val g _=>st.put (some s) (.val g cs)|_=>st
 | .box s _=>st.fD s (some cs)
 | .io _=>{st with io:=cs}
def oh:ay AC->ay AC->aC (ay AC)
 |[],[]=>some []
 | .sl (.loc _ (some (_,t))) _ _::os,.sl (.own (some t')) e xs::ss=>bif t'==t then(oh os ss).bind λr=>some (.sl (.own none) e xs::r) else none
 | .int k n::os,.int _ _::ss=>(oh os ss).bind λr=>some (.int k n::r)
 | .bool b::os,.bool _::ss=>(oh os ss).bind λr=>some (.bool b::r)
 | .str x::os,.str _::ss=>(oh os ss).bind λr=>some (.str x::r)
 |_,_=>none
def AV.kc:AV->Bool
 | .val _ cs=>cs.all AC.kc
 | .wh vs=>vs.all λx=>x.2.all AC.kc
def Q2 (st:AS)(x:Operand):aC (AV×AS):=
 match st.rd x with
 | .val g cs=>
   match Pv 0 cs with
   |some (r,j)=>
    match st.HX r with
    |some Za=>
     match oh cs ((Za.drop (r.pos-j)).take cs.length)with
     |some qO=>some (.val g qO,st.EC r (eX Za (r.pos-j) (bf st.ep ((Za.drop (r.pos-j)).take cs.length))))
     |none=>none
    |none=>none
   |none=>none
 |_=>none
def PW (o:Oper)(x:Operand)(st:AS)(K:AS->aC R):aC R:=
 match Q2 st x with
 |some (v,bX)=>K (bX.put o.dst v)
 |none=>none
def wU (T:TypeId)(p x:Operand)(st:AS)(K:AS->aC R):aC R:=
 match jN E.ty T,st.rd p with
 |some sh,.val false [.ptr s off]=>
  match Q2 st x with
  |some (.val _ vs,bX)=>
   match (nth bX.boxes s).getD none with
   |some cs=>
    if vs.length=sh.ct.size/\vs.all AC.Ic then
     if off+sh.ct.size<=cs.length then K (bX.fD s (some (eX cs off vs))) else none
    else none
   |none=>none
  |_=>none
 |_,_=>none
def AC.strip:AC->AC
 | .sl (.own _) e xs=> .sl (.own none) e xs
 | .sl (.loc _ _) _ _=> .bot
 | .sl (.nest ..) _ _=> .bot
 | .sl (.part ..) _ _=> .bot
 | .sl (.gj _ i _) e xs=> .sl (.gj none i none) e xs
 | .ptr _ _=> .bot
 | .BA _ _ _ _ _=> .bot
 |c=>c
def AC.ag6:AC->Bool
 | .sl (.own _) _ _=>true
 |c=>c.kc
def AC.yz (k:Bool):AC->Bool
 | .sl (.own _) _ _=>true
 | .sl (.arg k') _ _=>k'==k
 |c=>c.kc
def AC.Sz:AC->AC
 | .sl (.own _) e xs=> .sl (.own none) e xs
 | .sl (.arg _) e xs=> .sl (.arg true) e xs
 |c=>c.strip
def AC.aiY (k:Bool)(tag:aC Nat):AC->AC
 | .sl (.own _) e xs=> .sl (.own tag) e xs
 | .sl (.arg _) e xs=> .sl (.arg k) e xs
 |c=>c
def pQ (k:Bool)(mk:Nat->aC Nat):Nat->ay AC->ay AC
 |_,[]=>[]
 |j,c::cs=>c.aiY k (mk j)::pQ k mk (j+1) cs
def Dq (cs:ay AC):Bool:=cs.any λc=>match c with| .sl (.arg k) _ _=>k|_=>false
def AC.IG:AC->Bool
 | .sl (.arg k) _ _=> !k
 |c=>c.kc
def AV.IG:AV->Bool
 | .val _ cs=>cs.all AC.IG
 | .wh _=>false
def AS.OE (st:AS):AC->AC
 | .sl (.own _) e xs=> .sl (.arg false) e xs
 | .sl (.arg _) e xs=> .sl (.arg false) e xs
 | .sl (.loc _ (some (.slot b j,t))) _ _=>match st.fK (.slot b j)with
   |some (.sl (.own (some t')) e' ys)=>if t'=t then .sl (.arg false) e' ys else .bot
   |_=> .bot
 | .int k n=> .int k n
 | .bool b=> .bool b
 | .str s=> .str s
 | .fn f=> .fn f
 |_=> .bot
def Bf (st:AS):Operand->AV
 | .tmp t=>(match st.get t with| .val g cs=> .val g (cs.map st.OE)|v=>v)
 |x=>st.rd x
def Ci (st:AS):Operand->Bool
 | .tmp t=>(match st.get t with| .val _ cs=>(cs.map st.OE).all AC.IG|_=>false)
 |x=>(st.rd x).kc
def AC.abN:AC->Bool
 | .sl (.own _) _ _=>true
 |c=>c.kc
def AV.abN:AV->Bool
 | .val _ cs=>cs.all AC.abN
 | .wh vs=>vs.all λx=>x.2.all AC.abN
def YR (st:AS)(s:Nat)(cs:ay AC):AS:={(st.fD s (some cs)).gv (some s)with ep:=st.ep+1}
def uQ (o:Oper)(f:Nat)(args:ay Operand)(st:AS)(K:AS->aC R):aC R:=
 match args with
 |x0::xs=>
  match st.rd x0 with
  | .val false [.ptr s 0]=>
    match (nth st.boxes s).getD none with
    |some cs=>
     bif cs.all (AC.yz (Dq cs))&&xs.all (Ci st) then
      aa ((Γ f).fn (.val true (cs.map AC.Sz)::xs.map (Bf st))) λy=>
       bif ((Γ f).back y).all (AC.yz true)&&((Γ f).av y).abN then
        bif (Γ f).cur&&cs.all AC.GY then
         K (((st.fD s (some (pQ (Dq cs) (λ_=>none) 0 ((Γ f).back y)))).gv o.dst).put o.dst (((Γ f).av y).Dr st.ep (st.je o.dst)))
        else
        K (((YR st s (pQ (Dq cs) (st.je (some s)) 0 ((Γ f).back y))).gv o.dst).put o.dst
          (((Γ f).av y).Dr (st.ep+1) ((YR st s (pQ (Dq cs) (st.je (some s)) 0 ((Γ f).back y))).je o.dst)))
       else none
     else none
    |none=>none
  |_=>none
 |[]=>none
def abO (o:Oper)(f:Nat)(args:ay Operand)(st:AS)(K:AS->aC R):aC R:=
 match o.dst with
 |some d=>
  match nth st.boxes d with
  |some none=>
   bif args.all (λx=>(st.rd x).IG) then
    aa ((Γ f).fn (args.map st.rd)) λy=>
     bif ((Γ f).back y).all AC.IG then K ((st.fD d (some ((Γ f).back y))).put (some d) (.one (.ptr d 0))) else none
   else none
  |_=>none
 |none=>none
def Dt (o:Oper)(f:Operand)(args:ay Operand)(st:AS)(K:AS->aC R):aC R:=
 match st.rd f with
 | .val false [.fn f]=>
   bif (Γ f).bx then uQ Γ o f args st K else
   bif (Γ f).pr then abO Γ o f args st K else
   bif (Γ f).io then none
   else aa ((Γ f).fn (args.map λx=>((st.rd x).fresh st).asArg st.ep)) λr=>cond ((Γ f).sel r) (K ((st.gv o.dst).put o.dst (((Γ f).av r).Dr st.ep (st.je o.dst)))) (K ((st.gv o.dst).put o.dst (((Γ f).alt r).Dr st.ep (st.je o.dst))))
 |_=>none
def Du {R:Type}(op:BinOp)(b:Bool)(K:AC->aC R):aC R:=
 match op with
 | .eql=>K (.bool b)
 | .neq=>K (.bool (!b))
 |_=>none
def AM (o:Oper)(op:BinOp)(T:TypeId)(x y:Operand)(st:AS)(K:AS->aC R):aC R:=
 match st.rd x,st.rd y with
 | .val false [.bool a],.val false [.bool b]=>if E.bool T then FA op (.one (.bool a)) (.one (.bool b)) λc=>K (st.put o.dst (.one c)) else none
 | .val true xs,.val true ys=>match PZ E.eqs T with
   |some ls=>if fits ls xs then FA op (.val true xs) (.val true ys) λc=>K (st.put o.dst (.one c)) else none
   |none=>none
 | .val false [.sl fl _ xs],.val false [.kx]=>if(E.sl T).isSome/\fl.live st.ep then(if xs.length=0 then none else Du op false λc=>K (st.put o.dst (.one c))) else none
 | .val false [.kx],.val false [.kx]=>if(E.sl T).isSome then Du op true λc=>K (st.put o.dst (.one c)) else none
 |a,b=>FA op a b λc=>K (st.put o.dst (.one c))
def dD (o:Oper)(st:AS)(K:AS->aC R):aC R:=
 match o.op with
 | .move x=>Cl an o x st K
 | .assign x=>if Al an o then PW o x st K else uO E an o x st K
 | .pick c a b=>Et o c a b st K
 | .alloc T=>Cz E o T st K
 | .box _ x=>QX o x st K
 | .load T p=>pC E an o T p st K
 | .store T p x=>match o.dst with|none=>(if Al an o then wU E T p x st K else wT E T p x st K)|some _=>none
 | .nilCheck x=>
   match st.rd x with
   | .val false [.ptr s off]=>K (st.put o.dst (.one (.ptr s off)))
   | .val false [.BA fl e y i off]=>K (st.put o.dst (.one (.BA fl e y i off)))
   |_=>none
 | .binOp op T x y _=>AM E o op T x y st K
 | .unOp op _ x=>unC op (st.rd x) λc=>K (st.put o.dst (.one c))
 | .fieldAddr S p f=>zT E o S p f st K
 | .indexAddr T x i=>mY E o T x i st K
 | .index T x i=>BF E o T x i st K
 | .build T parts=>Bw E o T parts.toList st K
 | .buildSlice T len parts=>mn E o T len parts.toList st K
 | .makeSlice T n c=>oW E o T n c st K
 | .slice T x lo hi none=>Av E an o T x lo hi st K
 | .field S (.tmp t) f=>E3 E o S t f st K
 | .call {callee:=.builtin .copy,args,argTypes}=>Pa E o argTypes.toList args.toList st K
 | .convert src dst x=>mr E o src dst x st K
 | .extract (.tmp t) i=>mw o t i st K
 | .call {callee:=.builtin .len,args,argTypes}=>MX E o argTypes.toList args.toList st K
 | .call {callee:=.builtin .min,args,..}=>OG o args.toList st K
 | .call {callee:=.builtin .max,args,..}=>OF o args.toList st K
 | .call {callee:=.builtin .append,args,argTypes}=>xa E o argTypes.toList args.toList st K
 | .call {callee:=.value f,args,..}=>Dt Γ o f args.toList st K
 |_=>none
def iq (ops:ay Oper)(o:Oper)(st:AS)(K:AS->aC R):aC R:=
 match o.guard with
 |none=>dD E Γ an o st K
 |some (j,GK)=>
  match (nth ops j).bind (·.dst)with
  |some d=>
   match st.get d with
   | .val false [.bool b]=>
     let go (t:Bool):aC R:=
      if t==GK then dD E Γ an o (st.put (some d) (.one (.bool t))) K else K ((st.put (some d) (.one (.bool t))).put o.dst (.one .un))
     cond b (go true) (go false)
   | .val false [.un]=>K (st.put o.dst (.one .un))
   |_=>none
  |none=>none
def Sa (ops:ay Oper):ay Oper->AS->(AS->aC R)->aC R
 |[],st,K=>K st
 |o::r,st,K=>iq E Γ an ops o st λbX=>Sa ops r bX K
def fa:Code->Nat
 | .region id _ _=>id
 | .seq a _=>fa a
 | .block _ c=>fa c
 | .loop c=>fa c
 | .cond _ a b=>match fa a with|0=>fa b|n=>n
 |_=>0
def DP (c:Code):Nat:=1000000+2*fa c
def lH (l:fR):Code->ay Code
 | .seq a b=>lH l a++(bif l.contains (fa b) then b::lH l b else lH l b)
 | .cond _ a b=>lH l a++lH l b
 | .block _ c=>lH l c
 | .loop c=>lH l c
 |_=>[]
def uR (l:fR)(fn:Func)(k:Nat):Code:=(nth (lH l (fn.body.getD .skip)) k).getD .skip
def ji:Code->ay Code
 | .seq a b=>ji a++ji b
 | .cond _ a b=>ji a++ji b
 | .block _ c=>ji c
 | .loop c=>c::ji c
 |_=>[]
def dj (fn:Func)(k:Nat):Code:=(nth (ji (fn.body.getD .skip)) k).getD .skip
def ZI (j:Nat):Nat:=3*(4096*1000003+j)
def lq.EI:lq->aC Nat
 | .slot s j=>bif Nat.ble 4096 j then none else bif Nat.ble 1000000 s then none else some (3*(4096*s+j))
 | .box s j=>bif Nat.ble 4096 j then none else some (3*(4096*s+j)+1)
 | .io j=>bif Nat.ble 4096 j then none else some (ZI j)
def AC.aeL (io:ay AC)(j t:Nat)(e:CT):aC (ay e.D):=
 match nth io j with
 |some (.sl (.own (some t')) e' ys)=>if h:e'=e then bif t'==t then some (h▸ys) else none else none
 |_=>none
def AC.mask (gX:fR)(ep:Nat)(io:ay AC)(rt:lq):AC->AC
 | .ptr s off=>if gX.contains s then .ptr s off else .bot
 | .sl (.loc e pv) t xs=>
   match pv with
   |some (.io j,n)=>match AC.aeL io j n t with
    |some ys=> .sl (.loc 0 ((lq.EI (.io j)).map λq=>(.io j,q))) t ys
    |none=>if e==ep then .sl (.loc 0 none) t xs else .bot
   |_=>if e==ep then .sl (.loc 0 none) t xs else .bot
 | .sl (.own _) t xs=> .sl (.own rt.EI) t xs
 | .sl (.nest ..) _ _=> .bot
 | .sl (.part ..) _ _=> .bot
 | .sl (.gj _ i _) e xs=> .sl (.gj none i none) e xs
 | .BA _ _ _ _ _=> .bot
 |c=>c
def Je (gX:fR)(ep:Nat)(io:ay AC)(f:Nat->lq):Nat->ay AC->ay AC
 |_,[]=>[]
 |j,c::cs=>c.mask gX ep io (f j)::Je gX ep io f (j+1) cs
def AV.mask (gX:fR)(ep:Nat)(io:ay AC)(s:Nat):AV->AV
 | .val g cs=> .val g (Je gX ep io (.slot s) 0 cs)
 | .wh _=> .bot
def nZ (gX:fR)(ep:Nat)(io:ay AC):Nat->ay AV->ay AV
 |_,[]=>[]
 |i,v::r=>(if gX.contains i then v.mask gX ep io i else .bot)::nZ gX ep io (i+1) r
def nY (gX:fR)(ep:Nat)(io:ay AC):Nat->ay (aC (ay AC))->ay (aC (ay AC))
 |_,[]=>[]
 |i,b::r=>(if gX.contains i then b.map (Je gX ep io (.box i) 0) else none)::nY gX ep io (i+1) r
def XW (gX:fR):Nat->ay AC->ay AC
 |_,[]=>[]
 |j,c::cs=>(match c with| .sl (.own _) e xs=> .sl (.own (lq.EI (.io j))) e xs| .sl (.gj _ i _) e xs=> .sl (.gj none i none) e xs| .ptr s off=>if gX.contains s then .ptr s off else .bot|c=>bif c.kc then c else .bot)::XW gX (j+1) cs
def AS.mask (gX:fR)(st:AS):AS:=
 ⟨nZ gX st.ep st.io 0 st.slots,nY gX st.ep st.io 0 st.boxes,0,List.replicate st.slots.length false,XW gX 0 st.io⟩
def getBool (st:AS)(s:Nat):aC Bool:=
 match st.get s with
 | .val false [.bool b]=>some b
 |_=>none
def iw (an:An)(ds:fR)(o:Oper):Bool:=
 match o.op with
 | .assign (.const _)=> !Al an o
 | .assign (.tmp t)=>ds.contains t&& !Al an o
 | .move _| .load ..=>match o.dst with|some d=> !an.mv.contains d|none=>false
 | .slice ..=> !EO an o
 | .pick ..| .binOp ..| .unOp ..| .fieldAddr ..| .indexAddr ..| .index ..| .nilCheck _=>true
 | .build _ ps=>ps.isEmpty
 | .call {callee:=.builtin .len,..}| .call {callee:=.builtin .min,..}| .call {callee:=.builtin .max,..}=>true
 | .call {callee:=.value _,..}=>true
 |_=>false
def Ge (ops:ay Oper):fR:=ops.filterMap (·.dst)
def AS.AY (st:AS):fR->AS
 |[]=>st
 |d::r=>((st.put (some d) .bot).gv (some d)).AY r
def FG (ops:ay Oper)(A:ay fR):Nat->ay Oper->AS->(AS->aC R)->aC R
 |_,[],st,K=>K st
 |i,o::r,st,K=>bif dP E an (sI an A i 0 ops) o st then iq E Γ an ops o st λbX=>FG ops A (i+1) r bX K else none
def DX (ops:ay Oper)(draw:Bool)(st:AS)(K:AS->aC R):aC R:=
 bif draw then(bif Tn an ops then FG E Γ.GH an ops (S0 ops []) 0 ops st K else none) else Sa E Γ an ops ops st K
def Sh (id:Nat)(ops:ay Oper)(draw:Bool)(st:AS)(K:AS->aC R):aC R:=
 match an.merge id with
 |none=>DX E Γ an ops draw st K
 |some s=>
  if ops.all (iw an (Ge ops)) then
   aa (DX E Γ.calm an ops draw st λbX=>getBool bX s) λb=>K ((st.AY (Ge ops)).put (some s) (.one (.bool b)))
  else none
def Bg (key:fR)(B:AS->(Ex->AS->aC R)->aC R):Nat->AS->(Ex->AS->aC R)->aC R
 |0,_,_=>none
 |m+1,st,K=>B st λe bX=>
  match e with
  | .normal=>Bg key B m (bX.mask key) K
  |e=>K e (bX.mask key)
def den (Λ:mS):Code->AS->(Ex->AS->aC R)->aC R
 | .skip,st,K=>K .normal st
 | .region id ops draw,st,K=>Sh E Γ an id ops.toList draw st (K .normal)
 | .seq a b,st,K=>den Λ a st λe bX=>match e with
   | .normal=>bif an.cut.contains (fa b) then(Λ (DP b)).go (bX.mask (an.mask (DP b))) K else den Λ b bX K
   |e=>K e bX
 | .cond c a b,st,K=>
   match st.rd c with
   | .val false [.bool t]=>cond t (den Λ a st K) (den Λ b st K)
   |_=>none
 | .block id c,st,K=>den Λ c st λe bX=>
   match e with
   | .exit j=>if j==id then K .normal bX else K (.exit j) bX
   |e=>K e bX
 | .loop c,st,K=>
   bif an.peel.contains (fa c) then den Λ c (st.mask (an.mask (fa c))) λe bX=>
    match e with
    | .normal=>(Λ (fa c)).go (bX.mask (an.mask (fa c))) K
    |e=>K e (bX.mask (an.mask (fa c)))
   else(Λ (fa c)).go (st.mask (an.mask (fa c))) K
 | .exit id,st,K=>K (.exit id) st
 | .ret,st,K=>K .ret st
 |_,_,_=>none
end
def Nt (st:AS)(E:Env):ResultVar->aC ((Bool×Nat)×Bool×ay AC)
 | .tmp t=>match st.get t with| .val g cs=>some ((false,t),g,cs.map AC.strip)|_=>none
 | .cell t T=>match jN E.ty T,st.get t with
   |some sh,.val false [.ptr s off]=>((nth st.boxes s).getD none).bind λcs=>
    if off+sh.ct.size<=cs.length then some ((true,s),sh.agg,((cs.drop off).take sh.ct.size).map AC.strip) else none
   |_,_=>none
def sF (st:AS)(E:Env):ay (Bool×Nat)->ay ResultVar->aC (ay (Bool×ay AC))
 |_,[]=>some []
 |had,r::rs=>(Nt st E r).bind λx=>if had.contains x.1 then none else(sF st E (x.1::had) rs).bind λxs=>some (x.2::xs)
def results (E:Env)(rs:ay ResultVar)(st:AS):aC AV:=
 match sF st E [] rs with
 |some [(g,cs)]=>some (.val g cs)
 |some vs=>some (.wh vs)
 |none=>none
def start (fn:Func)(args:ay AV):AS:=⟨args++List.replicate (fn.ntmps-args.length) .bot,List.replicate (args.length+(fn.ntmps-args.length)) none,0,List.replicate fn.ntmps false,[]⟩
abbrev lB:ay (Bool×FT)->Type
 |[]=>Unit
 |[(_,t)]=>t.ct.D
 |(_,t)::r=>t.ct.D×lB r
def mf:(l:ay (Bool×FT))->ay (Bool×ay AC)->aC (lB l)
 |[],[]=>some ()
 |[(g,t)],[(g',cs)]=>bif g==g' then(match Ll t cs with|some (x,[])=>some x|_=>none) else none
 |(g,t)::p::r,(g',cs)::vs=>bif g==g' then(match Ll t cs with|some (x,[])=>(mf (p::r) vs).bind λy=>some (x,y)|_=>none) else none
 |_,_=>none
def akh:(l:ay (Bool×FT))->lB l->ay (Bool×ay AC)
 |[],_=>[]
 |[(g,t)],x=>[(g,jZ t x)]
 |(g,t)::p::r,x=>(g,jZ t x.1)::akh (p::r) x.2
def zR (l:ay (Bool×FT))(x:lB l):AV:=
 match akh l x with
 |[(g,cs)]=> .val g cs
 |vs=> .wh vs
def DY (E:Env)(Γ:zP)(an:An)(Λ:mS)(fn:Func)(rs:ay (Bool×FT))(args:ay AV):aC (lB rs):=
 match fn.body with
 |some c=>if args.length=fn.params.size then den E Γ an Λ c (start fn args) λe st=>
  match e with
  | .exit _=>none
  |_=>aa (sF st E [] fn.results.toList) (mf rs)
  else none
 |none=>none
def evalAlt (E:Env)(Γ:zP)(an:An)(Λ:mS)(fn:Func)(rs Oc:ay (Bool×FT))(h:lB Oc=lB rs)(args:ay AV):aC (Bool×lB rs):=
 match fn.body with
 |some c=>if args.length=fn.params.size then den E Γ an Λ c (start fn args) λe st=>
  match e with
  | .exit _=>none
  |_=>aa (sF st E [] fn.results.toList) λys=>
   match mf rs ys with
   |some y=>some (true,y)
   |none=>match mf Oc ys with
    |some y=>some (false,cast h y)
    |none=>none
  else none
 |none=>none
def G2:Nat->ay AC->ay AC
 |_,[]=>[]
 |j,.sl (.own _) e xs::cs=> .sl (.own (some (3*j+1))) e xs::G2 (j+1) cs
 |j,c::cs=>c::G2 (j+1) cs
def Ax (fn:Func)(cs:ay AC)(args:ay AV):AS:=
 {start fn (.one (.ptr 0 0)::args)with boxes:=some (G2 0 cs)::List.replicate (args.length+(fn.ntmps-(args.length+1))) none,io:=[.ptr 0 0]}
def Zn (E:Env)(Γ:zP)(an:An)(Λ:mS)(fn:Func)(rs:ay (Bool×FT))(t:FT)(args:ay AV):aC (lB rs×t.ct.D):=
 match fn.body,args with
 |some c,.val true cs::xs=>if xs.length+1=fn.params.size/\cs.all (AC.yz true)=true then den E Γ an Λ c (Ax fn cs xs) λe st=>
  match e with
  | .exit _=>none
  |_=>aa (aa (sF st E [(true,0)] fn.results.toList) (mf rs)) λr=>
   match st.io,st.boxes with
   |[.ptr 0 0],some qO::_=>match Ll t (qO.map AC.strip)with
    |some (x,[])=>some (r,x)
    |_=>none
   |_,_=>none
  else none
 |_,_=>none
def Rs (E:Env)(Γ:zP)(an:An)(Λ:mS)(fn:Func)(t:FT)(args:ay AV):aC t.ct.D:=
 match fn.body with
 |some c=>if args.length=fn.params.size then den E Γ an Λ c (start fn args) λe st=>
  match e with
  | .exit _=>none
  |_=>match fn.results.toList with
   |[.tmp i]=>match st.get i with
    | .val false [.ptr s 0]=>match (nth st.boxes s).getD none with
      |some cs=>if cs.all AC.IG=true then(match Ll t (cs.map AC.strip)with|some (x,[])=>some x|_=>none) else none
      |none=>none
    |_=>none
   |_=>none
  else none
 |none=>none
end Go.Dn
