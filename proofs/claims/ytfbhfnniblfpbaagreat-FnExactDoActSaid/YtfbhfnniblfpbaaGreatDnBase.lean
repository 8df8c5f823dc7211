import Derived.Test.YtfbhfnniblfpbaaGreatDnData
/- An abstract, heap-free semantics of the model's code, for functions that treat their data by value: definitions. -/
namespace Go.Dn
inductive kq where
 |slot (s j:Nat)|box (s j:Nat)|io (j:Nat)
 deriving DecidableEq
inductive qI where
 |own (tag:Option Nat)
 |loc (ep:Nat) (pv:Option (kq×Nat))
 |arg (k:Bool)
 |nest (ep:Nat) (r:kq) (t:Nat) (e:CT) (i:Int) (off:Nat)
 |part (ep:Nat) (r:kq) (t:Nat) (lo:Int)
 |fe (tag:Option Nat) (i:Int) (ep:Option Nat)
inductive AC where
 |int (k:IntKind) (n:Int)|bool (b:Bool)|str (s:List UInt8)
 |sl (fl:qI) (e:CT) (xs:List e.D)
 |jw
 |ptr (s off:Nat)
 |C1 (fl:qI) (e:CT) (x:e.D) (i:Int) (off:Nat)
 |fn (f:Nat)
 |un
 |bot
inductive AV where
 |val (agg:Bool) (cs:List AC)
 |vQ (vs:List (Bool×List AC))
abbrev AV.one (c:AC):AV:=.val false [c]
abbrev AV.bot:AV:=.val false [.bot]
structure AS where
 slots:List AV
 boxes:List (Option (List AC))
 ep:Nat
 iss:List Bool
 io:List AC
structure Shape where
 agg:Bool
 ct:CT
 jV:List (Nat×Nat):=[]
structure An where
 mask:Nat->List Nat:=λ_=>[]
 merge:Nat->Option Nat:=λ_=>none
 mv:List Nat:=[]
 nest:List Nat:=[]
 mb:Nat->Option Nat:=λ_=>none
 sb:Nat->Option Nat:=λ_=>none
 late:List Nat:=[]
 peel:List Nat:=[]
 nils:List Nat:=[]
 fm:List Nat:=[]
 eb:Nat->Option Nat:=λ_=>none
 es:Nat->Option Nat:=λ_=>none
 er:Nat->Option Nat:=λ_=>none
 cut:List Nat:=[]
def cellsOf:(t:CT)->qI->t.D->ar AC
 | .int k,_,n=>[.int k n]
 | .bool,_,b=>[.bool b]
 | .str,_,s=>[.str s]
 | .sl e,fl,xs=>[.sl fl e xs]
 | .pair a b,fl,x=>cellsOf a fl x.1++cellsOf b fl x.2
def iQ:(t:CT)->ar AC->aw (t.D×ar AC)
 | .int k,.int k' n::r=>if k'=k then some (n,r) else none
 | .bool,.bool b::r=>some (b,r)
 | .str,.str s::r=>some (s,r)
 | .sl e,.sl (.own _) e' xs::r=>if h:e'=e then some (h▸xs,r) else none
 | .sl _,.jw::r=>some ([],r)
 | .pair a b,cs=>(iQ a cs).bind λx=>(iQ b x.2).bind λy=>some ((x.1,y.1),y.2)
 |_,_=>none
def nth {α:Type}:ar α->Nat->aw α
 |[],_=>none
 |a::_,0=>some a
 |_::l,n+1=>nth l n
def gZ {α:Type}:ar α->Nat->α->ar α
 |[],_,_=>[]
 |_::l,0,v=>v::l
 |a::l,n+1,v=>a::gZ l n v
def AS.get (st:AS)(i:Nat):AV:=(nth st.slots i).getD .bot
def AS.put (st:AS)(d:aw Nat)(v:AV):AS:=
 match d with
 |some d=>{st with slots:=gZ st.slots d v}
 |none=>st
def KP (d j:Nat):Nat:=3*(4096*d+j)+2
def AS.ik (st:AS)(d:aw Nat)(j:Nat):aw Nat:=
 match d with
 |some d=>bif (nth st.iss d).getD true then none else bif Nat.ble 4096 j then none else some (KP d j)
 |none=>none
def AS.fu (st:AS)(d:aw Nat):AS:=
 match d with
 |some d=>{st with iss:=gZ st.iss d true}
 |none=>st
def AS.qa (st:AS)(d:aw Nat)(e:CT)(xs:ar e.D):AS:=
 (st.fu d).put d (.one (.sl (.own (st.ik d 0)) e xs))
def AC.borrow (ep:Nat)(rt:aw kq):AC->AC
 | .sl (.own tag) e xs=> .sl (.loc ep (match rt,tag with|some r,some t=>some (r,t)|_,_=>none)) e xs
 | .sl (.fe tag _ (some N2)) e xs=> .sl (.loc N2 (match rt,tag with|some r,some t=>some (r,t)|_,_=>none)) e xs
 | .sl (.fe _ _ none) _ _=> .bot
 |c=>c
def iy (ep:Nat)(f:Nat->kq):Nat->ar AC->ar AC
 |_,[]=>[]
 |j,c::cs=>c.borrow ep (some (f j))::iy ep f (j+1) cs
def aR (ep:Nat)(cs:ar AC):ar AC:=cs.map (AC.borrow ep none)
def AV.borrow (ep:Nat)(f:Nat->kq):AV->AV
 | .val g cs=> .val g (iy ep f 0 cs)
 | .vQ vs=> .vQ (vs.map λx=>(x.1,aR ep x.2))
def AV.aR (ep:Nat):AV->AV
 | .val g cs=> .val g (Dn.aR ep cs)
 | .vQ vs=> .vQ (vs.map λx=>(x.1,Dn.aR ep x.2))
def ofConst:Value->AV
 | .int k n=> .one (.int k n)
 | .bool b=> .one (.bool b)
 | .string s=> .one (.str s.data.toList)
 | .slice none 0 0=> .one .jw
 |_=> .bot
def AS.rd (st:AS):Operand->AV
 | .tmp t=>(st.get t).borrow st.ep (.slot t)
 | .const v=>ofConst v
 | .func f=> .one (.fn f)
 | .global _=> .bot
def AS.take (st:AS):Operand->AV×AS
 | .tmp t=>(st.get t,st.put (some t) ((st.get t).aR st.ep))
 |x=>(st.rd x,st)
def AS.eD (st:AS)(s:Nat)(b:aw (ar AC)):AS:={st with boxes:=gZ st.boxes s b}
def AC.asArg (ep:Nat):AC->AC
 | .int k n=> .int k n
 | .bool b=> .bool b
 | .str s=> .str s
 | .sl (.own _) e xs=> .sl (.arg false) e xs
 | .sl (.loc ep' _) e xs=>if ep'==ep then .sl (.arg false) e xs else .bot
 | .sl (.arg _) e xs=> .sl (.arg false) e xs
 | .jw=> .jw
 | .fn f=> .fn f
 |_=> .bot
def AV.asArg (ep:Nat):AV->AV
 | .val g cs=> .val g (cs.map (AC.asArg ep))
 | .vQ _=> .bot
def AC.F0 (ep:Nat)(tag:aw Nat):AC->AC
 | .sl (.own _) e xs=> .sl (.own tag) e xs
 | .sl (.arg _) e xs=> .sl (.loc ep none) e xs
 | .sl (.loc _ _) _ _=> .bot
 | .sl (.nest ..) _ _=> .bot
 | .sl (.part ..) _ _=> .bot
 | .sl (.fe _ i _) e xs=> .sl (.fe none i none) e xs
 | .ptr _ _=> .bot
 | .C1 _ _ _ _ _=> .bot
 |c=>c
def Kw (ep:Nat)(mk:Nat->aw Nat):Nat->ar AC->ar AC
 |_,[]=>[]
 |j,c::cs=>c.F0 ep (mk j)::Kw ep mk (j+1) cs
def Y7 (ep:Nat)(mk:Nat->aw Nat):Nat->ar (Bool×ar AC)->ar (Bool×ar AC)
 |_,[]=>[]
 |j,t::ts=>(t.1,Kw ep mk j t.2)::Y7 ep mk (j+t.2.length) ts
def AV.F0 (ep:Nat)(mk:Nat->aw Nat):AV->AV
 | .val g cs=> .val g (Kw ep mk 0 cs)
 | .vQ vs=> .vQ (Y7 ep mk 0 vs)
def AC.JG:AC->Bool
 | .sl (.arg _) _ _=>true
 | .int ..=>true
 | .bool _=>true
 | .str _=>true
 | .fn _=>true
 |_=>false
structure Ai where
 R:Type
 fn:List AV->Option R
 av:R->AV
 io:Bool:=false
 back:R->List AC:=λ_=>[]
 bx:Bool:=false
 pr:Bool:=false
 sel:R->Bool:=λ_=>true
 alt:R->AV:=λ_=> .val false [.bot]
 cur:Bool:=false
 hcur:cur=true->∀y,(back y).all AC.JG=true:=by intro h;cases h
def Ai.res (F:Ai)(y:F.R):AV:=cond (F.sel y) (F.av y) (F.alt y)
abbrev xO:=Nat->Ai
def Ai.dead:Ai:={R:=Unit,fn:=λ_=>none,av:=λ_=> .val false [.bot]}
def xO.calm (Γ:xO):xO:=λf=>bif (Γ f).io||(Γ f).bx||(Γ f).pr then Ai.dead else Γ f
def xO.Jx (Γ:xO):xO:=λf=>bif (Γ f).io||(Γ f).pr||((Γ f).bx&& !(Γ f).cur) then Ai.dead else Γ f
def Ki {R:Type}(op:BinOp)(k:IntKind)(x y:Int)(K:AC->aw R):aw R:=
 match op with
 | .add=>K (.int k (k.wrap (x+y)))
 | .sub=>K (.int k (k.wrap (x-y)))
 | .mul=>K (.int k (k.wrap (x*y)))
 | .quo=>if y=0 then none else K (.int k (k.wrap (x.tdiv y)))
 | .rem=>if y=0 then none else K (.int k (x.tmod y))
 | .and=>K (.int k (k.wrap (BitVec.ofInt k.bits x&&&BitVec.ofInt k.bits y).toNat))
 | .or=>K (.int k (k.wrap (BitVec.ofInt k.bits x|||BitVec.ofInt k.bits y).toNat))
 | .xor=>K (.int k (k.wrap (BitVec.ofInt k.bits x^^^BitVec.ofInt k.bits y).toNat))
 | .andNot=>K (.int k (k.wrap (BitVec.ofInt k.bits x&&&~~~ BitVec.ofInt k.bits y).toNat))
 | .eql=>K (.bool (x==y))
 | .neq=>K (.bool (x !=y))
 | .lss=>K (.bool (decide (x<y)))
 | .leq=>K (.bool (decide (x<=y)))
 | .gtr=>K (.bool (decide (x>y)))
 | .geq=>K (.bool (decide (x>=y)))
 |_=>none
def MF {R:Type}(op:BinOp)(x y:ar UInt8)(K:AC->aw R):aw R:=
 match op with
 | .add=>room (x.length+y.length) (K (.str (x++y)))
 | .eql=>K (.bool (x==y))
 | .neq=>K (.bool (!(x==y)))
 | .lss=>K (.bool (Op.bytesLess x y))
 | .leq=>K (.bool (Op.bytesLess x y||x==y))
 | .gtr=>K (.bool (!(Op.bytesLess x y||x==y)))
 | .geq=>K (.bool (!(Op.bytesLess x y)))
 |_=>none
def vU:ar AC->ar AC->aw Bool
 |[],[]=>some true
 | .int k x::r,.int k' y::r'=>if k=k' then(vU r r').bind λb=>some ((x==y)&&b) else none
 | .bool x::r,.bool y::r'=>(vU r r').bind λb=>some ((x==y)&&b)
 | .str x::r,.str y::r'=>(vU r r').bind λb=>some ((x==y)&&b)
 |_,_=>none
def Ic {R:Type}(op:BinOp)(x y:AV)(K:AC->aw R):aw R:=
 match x,y with
 | .val false [.int k a],.val false [.int k' b]=>
   match op with
   | .shl=>if b<0 then none else K (.int k (k.wrap (a*2^(min b.toNat k.bits))))
   | .shr=>if b<0 then none else K (.int k (a.fdiv (2^(min b.toNat k.bits))))
   |_=>if k=k' then Ki op k a b K else none
 | .val false [.str a],.val false [.str b]=>MF op a b K
 | .val false [.bool a],.val false [.bool b]=>
   match op with
   | .eql=>K (.bool (a==b))
   | .neq=>K (.bool (!(a==b)))
   |_=>none
 | .val true xs,.val true ys=>
   match op with
   | .eql=>aa (vU xs ys) λb=>K (.bool b)
   | .neq=>aa (vU xs ys) λb=>K (.bool (!b))
   |_=>none
 |_,_=>none
def unC {R:Type}(op:UnOp)(x:AV)(K:AC->aw R):aw R:=
 match op,x with
 | .not,.val false [.bool b]=>K (.bool (!b))
 | .neg,.val false [.int k n]=>K (.int k (k.wrap (0-n)))
 | .xor,.val false [.int k n]=>Ki .xor k (if k.signed then-1 else k.max) n K
 |_,_=>none
def da (cs:ar AC)(off:Nat)(vs:ar AC):ar AC:=cs.take off++vs++cs.drop (off+vs.length)
def AS.eM (st:AS):kq->aw AC
 | .slot s j=>match st.get s with| .val _ cs=>nth cs j|_=>none
 | .box s j=>((nth st.boxes s).getD none).bind λcs=>nth cs j
 | .io j=>nth st.io j
def AS.eU (st:AS)(r:kq)(c:AC):AS:=
 match r with
 | .slot s j=>match st.get s with| .val g cs=>st.put (some s) (.val g (gZ cs j c))|_=>st
 | .box s j=>match (nth st.boxes s).getD none with|some cs=>st.eD s (some (gZ cs j c))|none=>st
 | .io j=>{st with io:=gZ st.io j c}
def AS.fresh (st:AS):AC->AC
 | .sl (.loc ep (some (r,t))) e xs=>
   bif ep==st.ep then .sl (.loc ep (some (r,t))) e xs else
    match st.eM r with
    |some (.sl (.own (some t')) e' ys)=>if h:e'=e then bif t'==t then .sl (.loc st.ep (some (r,t))) e (h▸ys) else .sl (.loc ep (some (r,t))) e xs else .sl (.loc ep (some (r,t))) e xs
    |_=> .sl (.loc ep (some (r,t))) e xs
 |c=>c
def AV.fresh (st:AS):AV->AV
 | .val g cs=> .val g (cs.map st.fresh)
 | .vQ vs=> .vQ vs
def AC.now (ep:Nat):AC->Bool
 | .sl (.loc ep' (some _)) _ _=>ep'==ep
 |_=>true
def AS.pF {R:Type}(st:AS)(r:kq)(t:Nat)(e:CT)(i:Int)(off:Nat)(vs:ar AC)(K:AS->aw R):aw R:=
 match st.eM r with
 |some (.sl (.own (some t')) e' xs)=>
  if h:e'=e then
   if t'=t then
    aa (idx (h▸xs:ar e.D) i) λx=>
     match iQ e (da (cellsOf e (.own none) x) off vs)with
     |some (x',[])=>K {st.eU r (.sl (.own (some t')) e ((h▸xs:ar e.D).set i.toNat x'))with ep:=st.ep+1}
     |_=>none
   else none
  else none
 |some (.sl (.fe (some t') i' _) e' xs)=>
  if h:e'=e then
   if t'=t/\off=0 then
    aa (abp (h▸xs:ar e.D) i' i) λ_=>
     match iQ e vs with
     |some (x',[])=>K {st.eU r (.sl (.own (some t')) e ((h▸xs:ar e.D).set i.toNat x'))with ep:=st.ep+1}
     |_=>none
   else none
  else none
 |_=>none
def AV.cells:AV->ar AC
 | .val _ cs=>cs
 | .vQ _=>[.bot]
def eO (st:AS):ar Operand->ar AV×AS
 |[]=>([],st)
 |x::xs=>let (v,st1):=st.take x;let (vs,st2):=eO st1 xs;(v::vs,st2)
def Eh (e:CT):ar (ar AC)->aw (ar e.D)
 |[]=>some []
 |cs::r=>match iQ e cs with
  |some (x,[])=>(Eh e r).bind λxs=>some (x::xs)
  |_=>none
def Kg:Nat->ar (Nat×Operand)->Bool
 |_,[]=>true
 |n,(i,_)::r=>i==n&&Kg (n+1) r
def AC.KC:AC->Bool
 | .bot=>false
 | .un=>false
 |_=>true
def xS (jV:ar (Nat×Nat))(zero:ar AC):ar (Nat×ar AC)->aw (ar AC)
 |[]=>some zero
 |(i,cs)::r=>match nth jV i with
  |some (off,n)=>if cs.length=n/\off+n<=zero.length/\cs.all AC.KC then xS jV (da zero off cs) r else none
  |none=>none
inductive LK where
 |int|bool|str
 deriving DecidableEq
structure Env where
 ty:List (Nat×Shape)
 eqs:List (Nat×List LK):=[]
 fts:List ((Nat×Nat)×Nat):=[]
def RH (l:ar (Nat×ar LK))(t:Nat):aw (ar LK):=
 match l with
 |[]=>none
 |(u,sh)::r=>bif u==t then some sh else RH r t
def fits:ar LK->ar AC->Bool
 |[],[]=>true
 | .int::ls,.int _ _::r=>fits ls r
 | .bool::ls,.bool _::r=>fits ls r
 | .str::ls,.str _::r=>fits ls r
 |_,_=>false
def VL (l:ar ((Nat×Nat)×Nat))(S f:Nat):aw Nat:=
 match l with
 |[]=>none
 |((u,k),T)::r=>bif u==S&&k==f then some T else VL r S f
def iT (l:ar (Nat×Shape))(t:Nat):aw Shape:=
 match l with
 |[]=>none
 |(u,sh)::r=>bif u==t then some sh else iT r t
def Env.sl (E:Env)(t:Nat):aw CT:=
 match iT E.ty t with
 |some ⟨false,.sl e,_⟩=>some e
 |_=>none
def Env.str (E:Env)(t:Nat):Bool:=
 match iT E.ty t with
 |some ⟨false,.str,_⟩=>true
 |_=>false
def Env.bool (E:Env)(t:Nat):Bool:=
 match iT E.ty t with
 |some ⟨false,.bool,_⟩=>true
 |_=>false
def Env.bytes (E:Env)(t:Nat):Bool:=
 match iT E.ty t with
 |some ⟨false,.sl (.int .u8),[(te,_)]⟩=>match iT E.ty te with|some ⟨false,.int .u8,_⟩=>true|_=>false
 |_=>false
def qI.live (ep:Nat):qI->Bool
 | .loc ep' _=>ep'==ep
 | .arg _=>true
 | .own _=>false
 | .nest ..=>false
 | .part ..=>false
 | .fe ..=>false
def qI.vt (ep:Nat)(flat:Bool):qI->Bool
 | .loc ep' _=>ep'==ep&&flat
 | .arg _=>flat
 | .own _=>true
 | .nest ..=>false
 | .part ..=>false
 | .fe ..=>false
def qI.bare:qI->qI
 | .loc ep _=> .loc ep none
 |f=>f
def AC.gu:AC->Bool
 | .int _ _=>true
 | .bool _=>true
 | .str _=>true
 | .fn _=>true
 |_=>false
def tm:Operand->dV
 | .tmp t=>[t]
 |_=>[]
def QS (l:ar Operand):dV:=l.flatMap tm
def Ht (an:An)(o:Oper):Bool:=
 match o.dst with
 |some d=>an.mv.contains d&&(an.mb d).isNone
 |none=>false
def ajn (an:An)(o:Oper):Bool:=
 match o.dst with
 |some d=>an.nils.contains d
 |none=>false
def Ca (an:An)(o:Oper):Bool:=
 match o.op with
 | .assign (.tmp s)=>an.late.contains s
 | .store _ _ (.tmp s)=>an.late.contains s
 |_=>false
def tmO:aw Operand->dV
 |some x=>tm x
 |none=>[]
def dv (o:Oper):dV:=
 match o.op with
 | .move x=>tm x
 | .assign x=>tm x
 | .pick c a b=>tm c++tm a++tm b
 | .box _ x=>tm x
 | .load _ p=>tm p
 | .store _ p x=>tm p++tm x
 | .nilCheck x=>tm x
 | .binOp _ _ x y _=>tm x++tm y
 | .unOp _ _ x=>tm x
 | .fieldAddr _ p _=>tm p
 | .indexAddr _ x i=>tm x++tm i
 | .index _ x i=>tm x++tm i
 | .build _ parts=>QS (parts.toList.map (·.2))
 | .buildSlice _ _ parts=>QS (parts.toList.map (·.2))
 | .makeSlice _ n c=>tm n++tm c
 | .slice _ x lo hi none=>tm x++tmO lo++tmO hi
 | .convert _ _ x=>tm x
 | .extract (.tmp t) _=>[t]
 | .call {callee:=.builtin _,args,..}=>QS args.toList
 | .call {callee:=.value f,args,..}=>tm f++QS args.toList
 |_=>[]
def Hr (an:An)(o:Oper):Bool:=
 match o.op with
 | .move _=>match o.dst with|some d=>an.mv.contains d|none=>false
 | .assign _=>true
 | .box ..=>true
 | .build ..=>true
 | .buildSlice ..=>true
 | .store ..=>true
 | .extract ..=>match o.dst with|some d=>an.mv.contains d|none=>false
 | .call {callee:=.builtin .append,..}=>true
 |_=>false
def Hq (an:An)(o:Oper):Bool:=
 match o.op,o.dst,o.guard with
 | .load _ (.tmp q),some d,none=>an.mv.contains d&&(an.mb d).isNone&&(an.eb q).isSome
 |_,_,_=>false
def Ds (an:An)(o:Oper):Bool:=
 match o.op,o.dst,o.guard with
 | .load _ (.tmp q),some d,none=> !an.mv.contains d&& !an.fm.contains d&&(an.sb q).isSome
 |_,_,_=>false
def Hu (an:An)(o:Oper):dV:=
 match o.op with
 | .alloc _=>o.dst.toList
 | .box ..=>o.dst.toList
 | .load _ p=>match o.dst with|some d=>bif an.mv.contains d then(an.mb d).toList++(bif Hq an o then(match p with| .tmp q=>(an.eb q).toList|_=>[]) else []) else []|none=>[]
 | .store _ (.tmp p) _=>(an.sb p).toList
 | .call {callee:=.value _,args,..}=>(match args.toList with| .tmp q::_=>(an.sb q).toList|_=>[])
 |_=>[]
def nP (an:An)(o:Oper):Bool:=
 match o.op with
 | .move _=>true
 | .load ..=>(match o.dst with|some d=> !an.mv.contains d||(an.mb d).isSome|none=>false)||Hq an o
 | .extract (.tmp _) _=>true
 | .store _ (.tmp p) _=>(an.sb p).isSome&& !Ca an o
 | .assign _=> !Ca an o
 | .pick ..| .alloc _| .box ..| .nilCheck _| .binOp ..| .unOp ..| .fieldAddr ..| .indexAddr ..| .index ..| .build ..| .buildSlice ..| .makeSlice ..| .convert ..=>true
 | .slice _ _ _ _ none=> !Ht an o
 | .call {callee:=.builtin .len,..}| .call {callee:=.builtin .min,..}| .call {callee:=.builtin .max,..}| .call {callee:=.builtin .append,..}=>true
 | .call {callee:=.value _,..}=>true
 |_=>false
def writes (an:An)(o:Oper):dV:=o.dst.toList++(bif Hr an o then dv o else [])
def AV.now (ep:Nat):AV->Bool
 | .val _ cs=>cs.all (AC.now ep)
 | .vQ _=>true
def AC.lr:AC->Bool
 | .int ..=>true
 | .bool _=>true
 | .str _=>true
 | .fn _=>true
 | .ptr ..=>true
 |_=>false
def AV.lr:AV->Bool
 | .val _ cs=>cs.all AC.lr
 | .vQ _=>false
def GO (E:Env)(T:TypeId)(st:AS)(s off:Nat):Bool:=
 match iT E.ty T,(nth st.boxes s).getD none with
 |some sh,some cs=>((cs.drop off).take sh.ct.size).all AC.lr
 |_,_=>false
def W8 (an:An)(o:Oper):Bool:=match o.dst with|some d=>an.fm.contains d|none=>false
def DT (an:An)(o:Oper):Bool:=
 match o.op,o.dst,o.guard with
 | .load _ (.tmp _),some d,none=>an.mv.contains d&&(an.mb d).isSome
 |_,_,_=>false
def Od (an:An)(o:Oper):Bool:=
 match o.op,o.dst,o.guard with
 | .load _ (.tmp _),some d,none=> !an.mv.contains d&&an.fm.contains d
 |_,_,_=>false
def erS (an:An)(o:Oper):dV:=
 match o.op,o.dst with
 | .load ..,some d=>(an.er d).toList
 | .call {callee:=.value _,..},some d=>(an.er d).toList
 |_,_=>[]
def AC.afm (l:dV):AC->Bool
 | .sl (.loc _ (some (.slot b _,_))) _ _=>l.contains b
 | .sl (.loc _ _) _ _=>false
 |_=>true
def KA (l:dV)(st:AS):Operand->Bool
 | .tmp t=>(match st.get t with| .val _ cs=>cs.all (AC.afm l)| .vQ _=>true)
 |_=>true
def adw (an:An)(X l:dV)(st:AS)(xs:ar Operand)(q:Nat):AV->Bool
 | .val false [.ptr s _]=> !X.contains s&&an.sb q==some s&&(match (nth st.boxes s).getD none with|some cs=>cs.all AC.JG|none=>true)&&xs.all (KA l st)
 |_=>true
def AV.aao:AV->Bool
 | .val false [.ptr _ _]=>false
 |_=>true
def ur (an:An)(X l:dV)(st:AS):ar Operand->Bool
 | .tmp q::xs=>adw an X l st xs q (st.rd (.tmp q))
 |x::_=>(st.rd x).aao
 |[]=>true
def dq (E:Env)(an:An)(X:dV)(o:Oper)(st:AS):Bool:=
 match o.op with
 | .move x=> !W8 an o||(st.rd x).lr
 | .indexAddr _ x _=>(st.rd x).now st.ep||(match st.rd x with| .val _ [.sl (.loc _ (some (.box b _,_))) _ _]=> !X.contains b|_=>false)
 | .slice _ x _ _ none=>(st.rd x).now st.ep
 | .call {callee:=.value _,args,..}=>ur an X (erS an o) st args.toList&&args.toList.all λx=>(st.rd x).now st.ep
 | .load T p=>match st.rd p with
   | .val false [.ptr s off]=> !X.contains s&&(match o.dst with|some d=> !an.mv.contains d||an.mb d==some s|none=>true)&&(!W8 an o||GO E T st s off)
   | .val false [.C1 fl _ _ _ _]=>(fl.live st.ep||(match fl with
     | .loc _ (some (.slot b _,_))=>(erS an o).contains b
     | .loc _ (some (.box b _,_))=> !X.contains b
     |_=>false))&& !(W8 an o||DT an o)&& !Ds an o&&(!Hq an o||(match p,fl with
     | .tmp q,.loc _ (some (.box b _,_))=>an.eb q==some b&& !X.contains b
     |_,_=>false))
   |_=> !(W8 an o||DT an o)
 | .store _ (.tmp p) _=>((an.sb p).isNone&&(an.eb p).isNone&&(an.es p).isNone)||(match st.rd (.tmp p)with
   | .val false [.ptr s _]=> !X.contains s&&an.sb p==some s
   | .val false [.C1 (.loc _ (some (.box b _,_))) _ _ _ _]=>an.eb p==some b&&(an.sb p).isNone&&(an.es p).isNone
   | .val false [.C1 (.loc _ (some (.slot b _,_))) _ _ _ _]=>an.es p==some b&&(an.sb p).isNone&&(an.eb p).isNone
   |_=>false)
 | .extract (.tmp t) i=>match st.get t with
   | .vQ vs=>match nth vs i with|some x=>x.2.all AC.gu||(match o.dst with|some d=>an.mv.contains d|none=>false)|none=>true
   |_=>true
 |_=>true
def GR (an:An)(ops:ar Oper)(o:Oper):dV:=
 (match o.guard with
 |some (j,_)=>((nth ops j).bind (·.dst)).toList
 |none=>[])++erS an o
def meets (a b:dV):Bool:=a.any λx=>b.contains x
def Xp (an:An)(ops:ar Oper)(X Y:dV)(o p:Oper):Bool:=
 nP an o&&nP an p&& !meets (writes an o) (dv p++GR an ops p++writes an p)&& !meets (writes an p) (dv o++GR an ops o)&&
 (Hu an o).all (λd=>Y.contains d)&&(Hu an p).all (λd=>X.contains d)&& !meets (Hu an o) (p.dst.toList++Hu an p)&& !meets (Hu an p) o.dst.toList
def XT (o p:Oper):Bool:=
 match o.op,p.op,o.dst,p.dst,o.guard,p.guard with
 | .extract (.tmp t) i,.extract (.tmp t') j,some d,some d',none,none=>t==t'&& !(i==j)&& !(d==d')&& !(d==t)&& !(d'==t)
 |_,_,_,_,_,_=>false
def XK (an:An)(o p:Oper):Bool:=
 match p.op,p.dst,p.guard with
 | .store _ (.tmp q) (.tmp x),none,none=>((an.eb q).isSome&&(an.es q).isNone||(match an.es q with|some b=>(an.eb q).isNone&& !(b==x)&& !(b==q)&& !meets [b] (o.dst.toList++dv o)|none=>false))&&(an.sb q).isNone&& !Ca an p&&(match o.op,o.dst,o.guard with
   | .move (.tmp t),some d,none=> !an.mv.contains d&&an.fm.contains d&& !(d==q)&& !(d==x)&& !(t==x)&& !(t==q)&& !(d==t)
   | .extract (.tmp t) _,some d,none=> !(d==q)&& !(d==x)&& !(t==x)&& !(t==q)&& !(d==t)
   |_,_,_=>false)
 |_,_,_=>false
def YB (an:An)(o p:Oper):Bool:=
 (DT an o&&Od an p||Od an o&&DT an p)&& !meets o.dst.toList (p.dst.toList++dv p)&& !meets p.dst.toList (dv o)
def XA (an:An)(o p:Oper):Bool:=Ds an o&&Hq an p&& !meets o.dst.toList (p.dst.toList++dv p)&& !meets p.dst.toList (dv o)
def afa (an:An)(o p:Oper):Bool:=XT o p||XK an o p||YB an o p||XA an o p
def NI (an:An)(ops:ar Oper)(X Y:dV)(o p:Oper):Bool:=afa an o p||Xp an ops X Y o p
def Du (o:Oper):dV:=(o.after.toList.filter (λe=>Region.binds .any e)).map (·.on)
def Uk (a b:dV):dV:=a.foldl (λs x=>bif s.contains x then s else x::s) b
def Uz:ar Oper->ar dV->ar dV
 |[],acc=>acc
 |o::r,acc=>Uz r (acc++[(Du o).foldl (λs j=>Uk (j::(nth acc j).getD []) s) []])
def aci (A:ar dV)(i k:Nat):Bool:=((nth A i).getD []).contains k
def ZR (an:An)(A:ar dV)(i:Nat)(fl pl:Bool):Nat->ar Oper->dV
 |_,[]=>[]
 |k,o::r=>(bif !aci A i k&& !aci A k i&& !(k==i)&& !(fl&&DT an o)&& !(pl&&Hq an o) then Hu an o else [])++ZR an A i fl pl (k+1) r
def tw (an:An)(A:ar dV)(i k:Nat)(ops:ar Oper):dV:=ZR an A i (match nth ops i with|some o=>Od an o|none=>false) (match nth ops i with|some o=>Ds an o|none=>false) k ops
def O4 (an:An)(ops:ar Oper)(A:ar dV)(i:Nat)(oi:Oper):Nat->ar Oper->Bool
 |_,[]=>true
 |j,oj::r=>bif Nat.ble i j then true else(aci A i j||NI an ops (tw an A j 0 ops) (tw an A i 0 ops) oj oi)&&O4 an ops A i oi (j+1) r
def TI (an:An)(ops:ar Oper)(A:ar dV):Nat->ar Oper->Bool
 |_,[]=>true
 |i,oi::r=>(Du oi).all (λk=>Nat.blt k i)&&O4 an ops A i oi 0 ops&&TI an ops A (i+1) r
def UN (an:An)(ops:ar Oper):Bool:=TI an ops (Uz ops []) 0 ops
inductive Ex where
 |normal|ret|exit (id:Nat)
inductive FK where
 |own (tag:Option Nat)|arg|afZ|loc|lio (j t:Nat)|nil
def FK.flag:FK->qI
 | .own t=> .own t
 | .arg=> .arg false
 | .afZ=> .arg true
 | .loc=> .loc 0 none
 | .lio j t=> .loc 0 (some (.io j,t))
 | .nil=> .arg false
def FK.isNil:FK->Bool
 | .nil=>true
 |_=>false
inductive FT where
 |int (k:IntKind)|bool|str|sl (fl:FK) (e:CT)|pair (a b:FT)
abbrev FT.ct:FT->CT
 | .int k=> .int k
 | .bool=> .bool
 | .str=> .str
 | .sl _ e=> .sl e
 | .pair a b=> .pair a.ct b.ct
def iW:(t:FT)->t.ct.D->ar AC
 | .int k,n=>[.int k n]
 | .bool,b=>[.bool b]
 | .str,s=>[.str s]
 | .sl fl e,xs=>[bif fl.isNil then .jw else .sl fl.flag e xs]
 | .pair a b,x=>iW a x.1++iW b x.2
def FK.fits:FK->qI->Bool
 | .own t,.own t'=>t==t'
 | .arg,.arg k=> !k
 | .afZ,.arg k=>k
 | .loc,.loc 0 none=>true
 | .lio j t,.loc 0 (some (.io j',t'))=>j==j'&&t==t'
 |_,_=>false
def Nr:(t:FT)->ar AC->aw (t.ct.D×ar AC)
 | .int k,.int k' n::r=>if k'=k then some (n,r) else none
 | .bool,.bool b::r=>some (b,r)
 | .str,.str s::r=>some (s,r)
 | .sl fl e,.sl fl' e' xs::r=>if h:e'=e then bif fl.fits fl' then some (h▸xs,r) else none else none
 | .sl fl _,.jw::r=>bif fl.isNil then some ([],r) else none
 | .pair a b,cs=>(Nr a cs).bind λx=>(Nr b x.2).bind λy=>some ((x.1,y.1),y.2)
 |_,_=>none
inductive PD where
 |bot|ptr (s off:Nat)|fn (f:Nat)|data (g:Bool) (t:FT)
inductive IoD where
 |none|some (t:FT)|ptr
structure SD where
 slots:List PD
 boxes:List (Option FT)
 io:IoD:=.none
abbrev Fy:ar PD->Type
 |[]=>Unit
 | .data _ t::r=>t.ct.D×Fy r
 |_::r=>Fy r
abbrev EF:ar (aw FT)->Type
 |[]=>Unit
 |some t::r=>t.ct.D×EF r
 |none::r=>EF r
abbrev ioD:IoD->Type
 | .none=>Unit
 | .some t=>t.ct.D
 | .ptr=>Unit
abbrev SD.D (d:SD):Type:=Fy d.slots×EF d.boxes×ioD d.io
def tB:(l:ar PD)->Fy l->ar AV
 |[],_=>[]
 | .data g t::r,x=> .val g (iW t x.1)::tB r x.2
 | .bot::r,x=> .bot::tB r x
 | .ptr s off::r,x=> .one (.ptr s off)::tB r x
 | .fn f::r,x=> .one (.fn f)::tB r x
def D4:(l:ar (aw FT))->EF l->ar (aw (ar AC))
 |[],_=>[]
 |some t::r,x=>some (iW t x.1)::D4 r x.2
 |none::r,x=>none::D4 r x
def adB:(o:IoD)->ioD o->ar AC
 | .none,_=>[]
 | .some t,x=>iW t x
 | .ptr,_=>[.ptr 0 0]
def SD.enc (d:SD)(x:d.D):AS:=⟨tB d.slots x.1,D4 d.boxes x.2.1,0,List.replicate d.slots.length false,adB d.io x.2.2⟩
def AV.aah:AV->Bool
 | .val false [.bot]=>true
 |_=>false
def AV.aai (s off:Nat):AV->Bool
 | .val false [.ptr s' aqx]=>s==s'&&off==aqx
 |_=>false
def AV.abQ (f:Nat):AV->Bool
 | .val false [.fn f']=>f==f'
 |_=>false
def ka:(l:ar PD)->ar AV->aw (Fy l)
 |[],[]=>some ()
 | .data g t::r,.val g' cs::vs=>bif g==g' then(match Nr t cs with|some (x,[])=>(ka r vs).bind λy=>some (x,y)|_=>none) else none
 | .bot::r,v::vs=>bif v.aah then ka r vs else none
 | .ptr s off::r,v::vs=>bif v.aai s off then ka r vs else none
 | .fn f::r,v::vs=>bif v.abQ f then ka r vs else none
 |_,_=>none
def qM:(l:ar (aw FT))->ar (aw (ar AC))->aw (EF l)
 |[],[]=>some ()
 |some t::r,some cs::bs=>match Nr t cs with|some (x,[])=>(qM r bs).bind λy=>some (x,y)|_=>none
 |none::r,none::bs=>qM r bs
 |_,_=>none
def Yw:ar AC->Bool
 |[.ptr 0 0]=>true
 |_=>false
def UL:(o:IoD)->ar AC->aw (ioD o)
 | .none,[]=>some ()
 | .some t,cs=>match Nr t cs with|some (x,[])=>some x|_=>none
 | .ptr,cs=>bif Yw cs then some () else none
 |_,_=>none
def SD.dec (d:SD)(st:AS):aw d.D:=
 bif st.ep==0&&st.iss==List.replicate d.slots.length false then
  (ka d.slots st.slots).bind λx=>(qM d.boxes st.boxes).bind λy=>(UL d.io st.io).bind λz=>some (x,y,z)
 else none
structure K5 where
 sd:SD
 run:{R:Type}->sd.D->(Ex->AS->Option R)->Option R
abbrev Gs:=Nat->K5
def K5.go {R:Type}(l:K5)(st:AS)(K:Ex->AS->aw R):aw R:=aa (l.sd.dec st) λx=>l.run x K
def K5.none:K5:=⟨⟨[],[],.none⟩,λ_ _=>Option.none⟩
def Gs.nil:Gs:=λ_=>K5.none
def Gs.add (Λ:Gs)(k:Nat)(l:K5):Gs:=λj=>bif j==k then l else Λ j
section
variable {R:Type} (E:Env) (Γ:xO) (an:An)
def Ej (o:Oper)(x:Operand)(st:AS)(K:AS->aw R):aw R:=
 match o.dst with
 |some d=>if an.mv.contains d then K ((st.take x).2.put o.dst (st.take x).1) else K (st.put o.dst (st.rd x))
 |none=>none
def vR (o:Oper)(x:Operand)(st:AS)(K:AS->aw R):aw R:=
 match st.take x with
 |(.val false [.jw],_)=>match E.sl o.type with
  |some e=>K (st.put o.dst (.one (bif ajn an o then .jw else .sl (.own none) e [])))
  |none=>none
 |(v,st')=>K (st'.put o.dst v)
def Hb (o:Oper)(c a b:Operand)(st:AS)(K:AS->aw R):aw R:=
 match st.rd c with
 | .val false [.bool t]=>match st.rd a,st.rd b with
   | .val false [.bool x],.val false [.bool y]=>K (st.put o.dst (.one (.bool (cond t x y))))
   |va,vb=>cond t (K (st.put o.dst va)) (K (st.put o.dst vb))
 |_=>none
def ED (o:Oper)(T:TypeId)(st:AS)(K:AS->aw R):aw R:=
 match o.dst,iT E.ty T with
 |some d,some sh=>match nth st.boxes d with
  |some none=>K ((st.eD d (some (cellsOf sh.ct (.own none) sh.ct.zero))).put o.dst (.one (.ptr d 0)))
  |_=>none
 |_,_=>none
def SC (o:Oper)(x:Operand)(st:AS)(K:AS->aw R):aw R:=
 match o.dst,st.take x with
 |some d,(.val _ cs,st')=>
  match nth st'.boxes d with
  |some none=>if cs.all AC.KC then K ((st'.eD d (some cs)).put o.dst (.one (.ptr d 0))) else none
  |_=>none
 |_,_=>none
def TB (ep:Nat)(r:kq)(t:Nat)(e:CT)(i:Int):Nat->ar AC->ar AC
 |_,[]=>[]
 |p,.sl _ e' xs::cs=> .sl (.nest ep r t e i p) e' xs::TB ep r t e i (p+1) cs
 |p,c::cs=>c::TB ep r t e i (p+1) cs
def ae0 (o:Oper)(ep:Nat)(fl:qI)(e:CT)(i:Int)(off:Nat)(cs:ar AC):ar AC:=
 match fl,o.dst with
 | .loc _ (some (r,t)),some d=>bif an.nest.contains d then TB ep r t e i off cs else cs
 |_,_=>cs
def FI (o:Oper)(sh:Shape)(fl:qI)(e:CT)(i:Int)(off:Nat)(st:AS)(K:AS->aw R):aw R:=
 match fl with
 | .loc _ (some (r,t))=>
   match st.eM r with
   |some (.sl (.own (some t')) e' ys)=>
    if h:e'=e then
     if t'=t/\off+sh.ct.size<=e.size then
      aa (idx (h▸ys:ar e.D) i) λy=>K (st.put o.dst (.val sh.agg (((cellsOf e (.loc st.ep none) y).drop off).take sh.ct.size)))
     else none
    else none
   |_=>none
 |_=>none
def Ae (o:Oper)(sh:Shape)(fl:qI)(e:CT)(i:Int)(off:Nat)(st:AS)(K:AS->aw R):aw R:=
 match fl with
 | .loc _ (some (r,t))=>
   match st.eM r with
   |some (.sl (.own (some t')) e' ys)=>
    if h:e'=e then
     if t'=t/\off=0/\sh.ct=e then
      aa (idx (h▸ys:ar e.D) i) λy=>K ((st.eU r (.sl (.fe (some t) i (some st.ep)) e (h▸ys))).put o.dst (.val sh.agg (cellsOf e (.own none) y)))
     else none
    else none
   |_=>none
 |_=>none
def px (o:Oper)(T:TypeId)(p:Operand)(st:AS)(K:AS->aw R):aw R:=
 match iT E.ty T,st.rd p with
 |some sh,.val false [.ptr s off]=>
  match (nth st.boxes s).getD none with
  |some cs=>
   if off+sh.ct.size<=cs.length then
    match o.dst with
    |some d=>
     if an.mv.contains d then
      K ((st.eD s (some (da cs off (aR st.ep ((cs.drop off).take sh.ct.size))))).put o.dst (.val sh.agg ((cs.drop off).take sh.ct.size)))
     else K (st.put o.dst (.val sh.agg (iy st.ep (.box s) off ((cs.drop off).take sh.ct.size))))
    |none=>none
   else none
  |none=>none
 |some sh,.val false [.C1 fl e x i off]=>
  if Ht an o then Ae o sh fl e i off st K
  else if fl.live st.ep then
   if off+sh.ct.size<=e.size then K (st.put o.dst (.val sh.agg (ae0 an o st.ep fl e i off (((cellsOf e fl.bare x).drop off).take sh.ct.size)))) else none
  else FI o sh fl e i off st K
 |_,_=>none
def yo (T:TypeId)(p x:Operand)(st:AS)(K:AS->aw R):aw R:=
 match iT E.ty T,st.rd p with
 |some sh,.val false [.ptr s off]=>
  match st.take x with
  |(.val _ vs,st')=>
   match (nth st'.boxes s).getD none with
   |some cs=>
    if vs.length=sh.ct.size/\vs.all AC.KC then
     if off+sh.ct.size<=cs.length then K (st'.eD s (some (da cs off vs))) else none
    else none
   |none=>none
  |_=>none
 |some sh,.val false [.C1 (.loc _ (some (r,t))) e _ i off]=>
  match st.take x with
  |(.val _ vs,st')=>
   if vs.length=sh.ct.size/\off+sh.ct.size<=e.size then st'.pF r t e i off vs K else none
  |_=>none
 |_,_=>none
def BR (o:Oper)(S:TypeId)(p:Operand)(f:Nat)(st:AS)(K:AS->aw R):aw R:=
 match iT E.ty S,st.rd p with
 |some ⟨true,_,jV⟩,.val false [.ptr s off]=>match nth jV f with|some (fo,_)=>K (st.put o.dst (.one (.ptr s (off+fo))))|none=>none
 |some ⟨true,_,jV⟩,.val false [.C1 fl e x i off]=>match nth jV f with|some (fo,_)=>K (st.put o.dst (.one (.C1 fl e x i (off+fo))))|none=>none
 |_,_=>none
def mM (o:Oper)(T:TypeId)(x i:Operand)(st:AS)(K:AS->aw R):aw R:=
 match E.sl T,(st.rd x).fresh st,st.rd i with
 |some e',.val false [.sl fl e xs],.val false [.int _ n]=>
  if e'=e/\fl.live st.ep then aa (idx xs n) λy=>K (st.put o.dst (.one (.C1 fl e y n 0))) else none
 |_,_,_=>none
def DJ (o:Oper)(T:TypeId)(x i:Operand)(st:AS)(K:AS->aw R):aw R:=
 match st.rd x,st.rd i with
 | .val false [.str s],.val false [.int _ n]=>if E.str T then aa (idx s n) λb=>K (st.put o.dst (.one (.int .u8 b.toNat))) else none
 |_,_=>none
def DC (o:Oper)(T:TypeId)(parts:ar (Nat×Operand))(st:AS)(K:AS->aw R):aw R:=
 match iT E.ty T with
 |some ⟨true,ct,jV⟩=>
  match eO st (parts.map (·.2))with
  |(vs,st')=>
   match xS jV (cellsOf ct (.own none) ct.zero) ((parts.map (·.1)).zip (vs.map AV.cells))with
   |some cs=>K (st'.put o.dst (.val true cs))
   |none=>none
 |_=>none
def lV (o:Oper)(T:TypeId)(len:Nat)(parts:ar (Nat×Operand))(st:AS)(K:AS->aw R):aw R:=
 match E.sl T with
 |some e=>
  if parts.length=len/\Kg 0 parts/\len<=1000 then
   match eO st (parts.map (·.2))with
   |(vs,st')=>
    match Eh e (vs.map AV.cells)with
    |some xs=>K (st'.qa o.dst e xs)
    |none=>none
  else none
 |none=>none
def oN (o:Oper)(T:TypeId)(n c:Operand)(st:AS)(K:AS->aw R):aw R:=
 match E.sl T,st.rd n,st.rd c with
 |some e,.val false [.int .i64 len],.val false [.int .i64 cap]=>
  if 0<=len/\len<=cap then room cap.toNat (K (st.qa o.dst e (List.replicate len.toNat e.zero))) else none
 |_,_,_=>none
def nd (st:AS)(lo hi:aw Operand)(n:Nat)(K:Int->Int->aw R):aw R:=
 match lo.map st.rd,hi.map st.rd with
 |none,none=>K 0 n
 |some (.val false [.int _ a]),none=>K a n
 |none,some (.val false [.int _ b])=>K 0 b
 |some (.val false [.int _ a]),some (.val false [.int _ b])=>K a b
 |_,_=>none
def yi (o:Oper)(T:TypeId)(x:Operand)(lo hi:aw Operand)(st:AS)(K:AS->aw R):aw R:=
 match st.take x,lo.map st.rd,hi with
 |(.val false [.sl (.own _) e xs],st'),some (.val false [.int _ a]),none=>
  if E.sl T=some e then aa (sub xs a xs.length) λQc=>K (st'.qa o.dst e Qc) else none
 |_,_,_=>none
def O5 (o:Oper)(fl:qI)(a:Int):qI:=
 match fl,o.dst with
 | .loc ep (some (r,t)),some d=>bif an.nest.contains d then .part ep r t a else .loc ep none
 |fl,_=>fl.bare
def CG (o:Oper)(T:TypeId)(x:Operand)(lo hi:aw Operand)(st:AS)(K:AS->aw R):aw R:=
 if Ht an o then yi E o T x lo hi st K else
 match (st.rd x).fresh st with
 | .val false [.str s]=>if E.str T then nd st lo hi s.length λa b=>aa (sub s a b) λs'=>K (st.put o.dst (.one (.str s'))) else none
 | .val false [.sl fl e xs]=>
   if E.sl T=some e/\fl.live st.ep then nd st lo hi xs.length λa b=>aa (sub xs a b) λQc=>K (st.put o.dst (.one (.sl (O5 an o fl a) e Qc))) else none
 |_=>none
def lZ (o:Oper)(src dst:TypeId)(x:Operand)(st:AS)(K:AS->aw R):aw R:=
 match iT E.ty src,iT E.ty dst,st.rd x with
 |some _,some ⟨false,.int k,_⟩,.val false [.int _ n]=>K (st.put o.dst (.one (.int k (k.wrap n))))
 |some ⟨false,.str,_⟩,some ⟨false,.str,_⟩,.val false [.str s]=>K (st.put o.dst (.one (.str s)))
 |some ⟨false,.str,_⟩,some _,.val false [.str s]=>
  if E.bytes dst then room s.length (K (st.qa o.dst (.int .u8) (dm s))) else none
 |some _,some ⟨false,.str,_⟩,.val false [.sl fl (.int .u8) xs]=>
  if E.bytes src/\fl.live st.ep then K (st.put o.dst (.one (.str (aM xs)))) else none
 |_,_,_=>none
def ma (o:Oper)(t i:Nat)(st:AS)(K:AS->aw R):aw R:=
 match st.get t with
 | .vQ vs=>match nth vs i with
   |some (g,cs)=>K ((st.put (some t) (.vQ (gZ vs i (g,aR 0 cs)))).put o.dst (.val g cs))
   |none=>none
 |_=>none
def OR (o:Oper)(ts:ar TypeId)(args:ar Operand)(st:AS)(K:AS->aw R):aw R:=
 match ts,args.map st.rd with
 |[t],[.val false [.str s]]=>if E.str t then K (st.put o.dst (.one (.int .i64 s.length))) else none
 |[t],[.val false [.sl _ _ xs]]=>if(E.sl t).isSome then K (st.put o.dst (.one (.int .i64 xs.length))) else none
 |_,_=>none
def Qz (o:Oper)(args:ar Operand)(st:AS)(K:AS->aw R):aw R:=
 match args.map st.rd with
 |[.val false [.int k x],.val false [.int _ y]]=>K (st.put o.dst (.one (.int k (if y<x then y else x))))
 |_=>none
def Qy (o:Oper)(args:ar Operand)(st:AS)(K:AS->aw R):aw R:=
 match args.map st.rd with
 |[.val false [.int k x],.val false [.int _ y]]=>K (st.put o.dst (.one (.int k (if y>x then y else x))))
 |_=>none
def QY (o:Oper)(ts:ar TypeId)(args:ar Operand)(st:AS)(K:AS->aw R):aw R:=
 match ts,args.map st.rd with
 |[t,t'],[.val false [.sl (.part ep r tg lo) e xs],.val false [.str s]]=>
  match st.eM r with
  |some (.sl (.own (some tg')) e' ys)=>
   if h:e'=.int .u8 then
    if e=.int .u8/\E.sl t=some (.int .u8)/\E.str t'=true/\ep=st.ep/\tg'=tg then
     K ({st.eU r (.sl (.own (some tg)) (.int .u8) (Ek (h▸ys:ar (CT.int .u8).D) lo.toNat (dm (s.take xs.length))))with ep:=st.ep+1}.put o.dst (.one (.int .i64 (min xs.length s.length:Nat))))
    else none
   else none
  |_=>none
 |_,_=>none
def HD (o:Oper)(S:TypeId)(t f:Nat)(st:AS)(K:AS->aw R):aw R:=
 match iT E.ty S,st.get t,VL E.fts S f with
 |some ⟨true,ct,jV⟩,.val true cs,some T=>
  match nth jV f,iT E.ty T with
  |some (fo,n),some sh=>
   if n=sh.ct.size/\cs.length=ct.size/\fo+n<=cs.length then
    K ((st.put (some t) (.val true (da cs fo (aR st.ep ((cs.drop fo).take n))))).put o.dst (.val sh.agg ((cs.drop fo).take n)))
   else none
  |_,_=>none
 |_,_,_=>none
def yt (o:Oper)(ts:ar TypeId)(args:ar Operand)(st:AS)(K:AS->aw R):aw R:=
 match ts,args with
 |[t,t'],[s,x]=>
  match st.take s with
  |(.val false [.sl (.own _) e xs],st1)=>
   match st1.take x with
   |(.val false [.sl fl e' ys],st2)=>
    if h:e'=e then
     if E.sl t=some e/\E.sl t'=some e/\fl.vt st.ep e.flat then
      room (xs.length+ys.length) (K (st2.qa o.dst e (xs++(h▸ys:ar e.D))))
     else none
    else none
   |(.val false [.str s],st2)=>
    if h:e=.int .u8 then
     if E.sl t=some e/\E.str t' then room (xs.length+s.length) (K (st2.qa o.dst (.int .u8) ((h▸xs:ar (CT.int .u8).D)++dm s))) else none
    else none
   |_=>none
  |_=>none
 |_,_=>none
def Lf:Nat->ar AC->aw (kq×Nat)
 |_,[]=>none
 |j,.sl (.loc _ (some (r,_))) _ _::_=>some (r,j)
 |j,_::cs=>Lf (j+1) cs
def kq.pos:kq->Nat
 | .slot _ j=>j
 | .box _ j=>j
 | .io j=>j
def AS.tZ (st:AS):kq->aw (ar AC)
 | .slot s _=>match st.get s with| .val _ cs=>some cs|_=>none
 | .box s _=>(nth st.boxes s).getD none
 | .io _=>some st.io
def AS.qb (st:AS)(r:kq)(cs:ar AC):AS:=
 match r with
 | .slot s _=>match st.get s with| .val g _=>st.put (some s) (.val g cs)|_=>st
 | .box s _=>st.eD s (some cs)
 | .io _=>{st with io:=cs}
def mQ:ar AC->ar AC->aw (ar AC)
 |[],[]=>some []
 | .sl (.loc _ (some (_,t))) _ _::os,.sl (.own (some t')) e xs::ss=>bif t'==t then(mQ os ss).bind λr=>some (.sl (.own none) e xs::r) else none
 | .int k n::os,.int _ _::ss=>(mQ os ss).bind λr=>some (.int k n::r)
 | .bool b::os,.bool _::ss=>(mQ os ss).bind λr=>some (.bool b::r)
 | .str x::os,.str _::ss=>(mQ os ss).bind λr=>some (.str x::r)
 |_,_=>none
def Dx:ar AC->ar AC->ar AC->aw (ar AC)
 |[],[],[]=>some []
 | .sl (.loc _ (some (_,t'))) _ _::os,.sl (.own (some t)) _ _::ss,.sl (.own _) e ys::bs=>bif t==t' then(Dx os ss bs).bind λr=>some (.sl (.own (some t)) e ys::r) else none
 | .int _ _::os,.int k n::ss,.int _ _::bs=>(Dx os ss bs).bind λr=>some (.int k n::r)
 | .bool _::os,.bool b::ss,.bool _::bs=>(Dx os ss bs).bind λr=>some (.bool b::r)
 | .str _::os,.str x::ss,.str _::bs=>(Dx os ss bs).bind λr=>some (.str x::r)
 |_,_,_=>none
def AV.gu:AV->Bool
 | .val _ cs=>cs.all AC.gu
 | .vQ vs=>vs.all λx=>x.2.all AC.gu
def SI (st:AS)(x:Operand):aw (AV×AS):=
 match st.rd x with
 | .val g cs=>
   match Lf 0 cs with
   |some (r,j)=>
    match st.tZ r with
    |some DW=>
     match mQ cs ((DW.drop (r.pos-j)).take cs.length)with
     |some na=>some (.val g na,st.qb r (da DW (r.pos-j) (aR st.ep ((DW.drop (r.pos-j)).take cs.length))))
     |none=>none
    |none=>none
   |none=>none
 |_=>none
def RE (o:Oper)(x:Operand)(st:AS)(K:AS->aw R):aw R:=
 match SI st x with
 |some (v,st')=>K (st'.put o.dst v)
 |none=>none
def yp (T:TypeId)(p x:Operand)(st:AS)(K:AS->aw R):aw R:=
 match iT E.ty T,st.rd p with
 |some sh,.val false [.ptr s off]=>
  match SI st x with
  |some (.val _ vs,st')=>
   match (nth st'.boxes s).getD none with
   |some cs=>
    if vs.length=sh.ct.size/\vs.all AC.KC then
     if off+sh.ct.size<=cs.length then K (st'.eD s (some (da cs off vs))) else none
    else none
   |none=>none
  |_=>none
 |_,_=>none
def RQ (o:Oper)(f:Nat)(g:Bool)(cs:ar AC)(xs:ar Operand)(st:AS)(K:AS->aw R):aw R:=
 match cs with
 |[.sl (.nest ep r t en i off) _ _]=>
  match st.tZ r with
  |some DW=>
   match (DW.drop r.pos).take 1 with
   |[.sl (.own (some t')) e ys]=>
    bif (ep==st.ep)&&(t'==t)&&(en.size==e.size)&&xs.all (λx=>(st.rd x).gu) then
     aa (idx ys i) λx=>
      match ((cellsOf e (.own none) x).drop off).take 1 with
      |[.sl (.own _) e2 zs]=>
       aa ((Γ f).fn (.val g [.sl (.own none) e2 zs]::xs.map st.rd)) λy=>
        match (Γ f).back y with
        |[.sl (.own _) e3 zs']=>
         match iQ e (da (cellsOf e (.own none) x) off [.sl (.own none) e3 zs'])with
         |some (x',[])=>bif ((Γ f).av y).gu then K ({st.qb r (da DW r.pos [.sl (.own (some t)) e (ys.set i.toNat x')])with ep:=st.ep+1}.put o.dst ((Γ f).av y)) else none
         |_=>none
        |_=>none
      |_=>none
    else none
   |_=>none
  |none=>none
 |_=>none
def ioC (o:Oper)(f:Nat)(args:ar Operand)(st:AS)(K:AS->aw R):aw R:=
 match args with
 |x0::xs=>
  match st.rd x0 with
  | .val g cs=>
    match Lf 0 cs with
    |some (r,j)=>
     match st.tZ r with
     |some DW=>
      match mQ cs ((DW.drop (r.pos-j)).take cs.length)with
      |some na=>
       bif xs.all (λx=>(st.rd x).gu) then
        aa ((Γ f).fn (.val g na::xs.map st.rd)) λy=>
         match Dx cs ((DW.drop (r.pos-j)).take cs.length) ((Γ f).back y)with
         |some seg=>bif ((Γ f).av y).gu then K ({st.qb r (da DW (r.pos-j) seg)with ep:=st.ep+1}.put o.dst ((Γ f).av y)) else none
         |none=>none
       else none
      |none=>none
     |none=>none
    |none=>RQ Γ o f g cs xs st K
  |_=>none
 |[]=>none
def AC.strip:AC->AC
 | .sl (.own _) e xs=> .sl (.own none) e xs
 | .sl (.loc _ _) _ _=> .bot
 | .sl (.nest ..) _ _=> .bot
 | .sl (.part ..) _ _=> .bot
 | .sl (.fe _ i _) e xs=> .sl (.fe none i none) e xs
 | .ptr _ _=> .bot
 | .C1 _ _ _ _ _=> .bot
 |c=>c
def AC.Yu:AC->Bool
 | .sl (.own _) _ _=>true
 |c=>c.gu
def AC.AF (k:Bool):AC->Bool
 | .sl (.own _) _ _=>true
 | .sl (.arg k') _ _=>k'==k
 |c=>c.gu
def AC.Ub:AC->AC
 | .sl (.own _) e xs=> .sl (.own none) e xs
 | .sl (.arg _) e xs=> .sl (.arg true) e xs
 |c=>c.strip
def AC.ahF (k:Bool)(tag:aw Nat):AC->AC
 | .sl (.own _) e xs=> .sl (.own tag) e xs
 | .sl (.arg _) e xs=> .sl (.arg k) e xs
 |c=>c
def pL (k:Bool)(mk:Nat->aw Nat):Nat->ar AC->ar AC
 |_,[]=>[]
 |j,c::cs=>c.ahF k (mk j)::pL k mk (j+1) cs
def FZ (cs:ar AC):Bool:=cs.any λc=>match c with| .sl (.arg k) _ _=>k|_=>false
def AC.K7:AC->Bool
 | .sl (.arg k) _ _=> !k
 |c=>c.gu
def AV.K7:AV->Bool
 | .val _ cs=>cs.all AC.K7
 | .vQ _=>false
def AS.Qw (st:AS):AC->AC
 | .sl (.own _) e xs=> .sl (.arg false) e xs
 | .sl (.arg _) e xs=> .sl (.arg false) e xs
 | .sl (.loc _ (some (.slot b j,t))) _ _=>match st.eM (.slot b j)with
   |some (.sl (.own (some t')) e' ys)=>if t'=t then .sl (.arg false) e' ys else .bot
   |_=> .bot
 | .int k n=> .int k n
 | .bool b=> .bool b
 | .str s=> .str s
 | .fn f=> .fn f
 |_=> .bot
def Dq (st:AS):Operand->AV
 | .tmp t=>(match st.get t with| .val g cs=> .val g (cs.map st.Qw)|v=>v)
 |x=>st.rd x
def Eg (st:AS):Operand->Bool
 | .tmp t=>(match st.get t with| .val _ cs=>(cs.map st.Qw).all AC.K7|_=>false)
 |x=>(st.rd x).gu
def AC.aca:AC->Bool
 | .sl (.own _) _ _=>true
 |c=>c.gu
def AV.aca:AV->Bool
 | .val _ cs=>cs.all AC.aca
 | .vQ vs=>vs.all λx=>x.2.all AC.aca
def ZQ (st:AS)(s:Nat)(cs:ar AC):AS:={(st.eD s (some cs)).fu (some s)with ep:=st.ep+1}
def vS (o:Oper)(f:Nat)(args:ar Operand)(st:AS)(K:AS->aw R):aw R:=
 match args with
 |x0::xs=>
  match st.rd x0 with
  | .val false [.ptr s 0]=>
    match (nth st.boxes s).getD none with
    |some cs=>
     bif cs.all (AC.AF (FZ cs))&&xs.all (Eg st) then
      aa ((Γ f).fn (.val true (cs.map AC.Ub)::xs.map (Dq st))) λy=>
       bif ((Γ f).back y).all (AC.AF true)&&((Γ f).av y).aca then
        bif (Γ f).cur&&cs.all AC.JG then
         K (((st.eD s (some (pL (FZ cs) (λ_=>none) 0 ((Γ f).back y)))).fu o.dst).put o.dst (((Γ f).av y).F0 st.ep (st.ik o.dst)))
        else
        K (((ZQ st s (pL (FZ cs) (st.ik (some s)) 0 ((Γ f).back y))).fu o.dst).put o.dst
          (((Γ f).av y).F0 (st.ep+1) ((ZQ st s (pL (FZ cs) (st.ik (some s)) 0 ((Γ f).back y))).ik o.dst)))
       else none
     else none
    |none=>none
  |_=>none
 |[]=>none
def acb (o:Oper)(f:Nat)(args:ar Operand)(st:AS)(K:AS->aw R):aw R:=
 match o.dst with
 |some d=>
  match nth st.boxes d with
  |some none=>
   bif args.all (λx=>(st.rd x).K7) then
    aa ((Γ f).fn (args.map st.rd)) λy=>
     bif ((Γ f).back y).all AC.K7 then K ((st.eD d (some ((Γ f).back y))).put (some d) (.one (.ptr d 0))) else none
   else none
  |_=>none
 |none=>none
def F1 (o:Oper)(f:Operand)(args:ar Operand)(st:AS)(K:AS->aw R):aw R:=
 match st.rd f with
 | .val false [.fn f]=>
   bif (Γ f).bx then vS Γ o f args st K else
   bif (Γ f).pr then acb Γ o f args st K else
   bif (Γ f).io then ioC Γ o f args st K
   else aa ((Γ f).fn (args.map λx=>((st.rd x).fresh st).asArg st.ep)) λr=>cond ((Γ f).sel r) (K ((st.fu o.dst).put o.dst (((Γ f).av r).F0 st.ep (st.ik o.dst)))) (K ((st.fu o.dst).put o.dst (((Γ f).alt r).F0 st.ep (st.ik o.dst))))
 |_=>none
def F3 {R:Type}(op:BinOp)(b:Bool)(K:AC->aw R):aw R:=
 match op with
 | .eql=>K (.bool b)
 | .neq=>K (.bool (!b))
 |_=>none
def CW (o:Oper)(op:BinOp)(T:TypeId)(x y:Operand)(st:AS)(K:AS->aw R):aw R:=
 match st.rd x,st.rd y with
 | .val false [.bool a],.val false [.bool b]=>if E.bool T then Ic op (.one (.bool a)) (.one (.bool b)) λc=>K (st.put o.dst (.one c)) else none
 | .val true xs,.val true ys=>match RH E.eqs T with
   |some ls=>if fits ls xs then Ic op (.val true xs) (.val true ys) λc=>K (st.put o.dst (.one c)) else none
   |none=>none
 | .val false [.sl fl _ xs],.val false [.jw]=>if(E.sl T).isSome/\fl.live st.ep then(if xs.length=0 then none else F3 op false λc=>K (st.put o.dst (.one c))) else none
 | .val false [.jw],.val false [.jw]=>if(E.sl T).isSome then F3 op true λc=>K (st.put o.dst (.one c)) else none
 |a,b=>Ic op a b λc=>K (st.put o.dst (.one c))
def db (o:Oper)(st:AS)(K:AS->aw R):aw R:=
 match o.op with
 | .move x=>Ej an o x st K
 | .assign x=>if Ca an o then RE o x st K else vR E an o x st K
 | .pick c a b=>Hb o c a b st K
 | .alloc T=>ED E o T st K
 | .box _ x=>SC o x st K
 | .load T p=>px E an o T p st K
 | .store T p x=>match o.dst with|none=>(if Ca an o then yp E T p x st K else yo E T p x st K)|some _=>none
 | .nilCheck x=>
   match st.rd x with
   | .val false [.ptr s off]=>K (st.put o.dst (.one (.ptr s off)))
   | .val false [.C1 fl e y i off]=>K (st.put o.dst (.one (.C1 fl e y i off)))
   |_=>none
 | .binOp op T x y _=>CW E o op T x y st K
 | .unOp op _ x=>unC op (st.rd x) λc=>K (st.put o.dst (.one c))
 | .fieldAddr S p f=>BR E o S p f st K
 | .indexAddr T x i=>mM E o T x i st K
 | .index T x i=>DJ E o T x i st K
 | .build T parts=>DC E o T parts.toList st K
 | .buildSlice T len parts=>lV E o T len parts.toList st K
 | .makeSlice T n c=>oN E o T n c st K
 | .slice T x lo hi none=>CG E an o T x lo hi st K
 | .field S (.tmp t) f=>HD E o S t f st K
 | .call {callee:=.builtin .copy,args,argTypes}=>QY E o argTypes.toList args.toList st K
 | .convert src dst x=>lZ E o src dst x st K
 | .extract (.tmp t) i=>ma o t i st K
 | .call {callee:=.builtin .len,args,argTypes}=>OR E o argTypes.toList args.toList st K
 | .call {callee:=.builtin .min,args,..}=>Qz o args.toList st K
 | .call {callee:=.builtin .max,args,..}=>Qy o args.toList st K
 | .call {callee:=.builtin .append,args,argTypes}=>yt E o argTypes.toList args.toList st K
 | .call {callee:=.value f,args,..}=>F1 Γ o f args.toList st K
 |_=>none
def gy (ops:ar Oper)(o:Oper)(st:AS)(K:AS->aw R):aw R:=
 match o.guard with
 |none=>db E Γ an o st K
 |some (j,JA)=>
  match (nth ops j).bind (·.dst)with
  |some d=>
   match st.get d with
   | .val false [.bool b]=>
     let go (t:Bool):aw R:=
      if t==JA then db E Γ an o (st.put (some d) (.one (.bool t))) K else K ((st.put (some d) (.one (.bool t))).put o.dst (.one .un))
     cond b (go true) (go false)
   | .val false [.un]=>K (st.put o.dst (.one .un))
   |_=>none
  |none=>none
def TF (ops:ar Oper):ar Oper->AS->(AS->aw R)->aw R
 |[],st,K=>K st
 |o::r,st,K=>gy E Γ an ops o st λst'=>TF ops r st' K
def dy:Code->Nat
 | .region id _ _=>id
 | .seq a _=>dy a
 | .block _ c=>dy c
 | .loop c=>dy c
 | .cond _ a b=>match dy a with|0=>dy b|n=>n
 |_=>0
def xT (c:Code):Nat:=1000000+2*dy c
def ku (l:dV):Code->ar Code
 | .seq a b=>ku l a++(bif l.contains (dy b) then b::ku l b else ku l b)
 | .cond _ a b=>ku l a++ku l b
 | .block _ c=>ku l c
 | .loop c=>ku l c
 |_=>[]
def CZ (l:dV)(fn:Func)(k:Nat):Code:=(nth (ku l (fn.body.getD .skip)) k).getD .skip
def im:Code->ar Code
 | .seq a b=>im a++im b
 | .cond _ a b=>im a++im b
 | .block _ c=>im c
 | .loop c=>c::im c
 |_=>[]
def gj (fn:Func)(k:Nat):Code:=(nth (im (fn.body.getD .skip)) k).getD .skip
def Bc (j:Nat):Nat:=3*(4096*1000003+j)
def kq.Hp:kq->aw Nat
 | .slot s j=>bif Nat.ble 4096 j then none else bif Nat.ble 1000000 s then none else some (3*(4096*s+j))
 | .box s j=>bif Nat.ble 4096 j then none else some (3*(4096*s+j)+1)
 | .io j=>bif Nat.ble 4096 j then none else some (Bc j)
def AC.aeI (io:ar AC)(j t:Nat)(e:CT):aw (ar e.D):=
 match nth io j with
 |some (.sl (.own (some t')) e' ys)=>if h:e'=e then bif t'==t then some (h▸ys) else none else none
 |_=>none
def AC.mask (keep:dV)(ep:Nat)(io:ar AC)(rt:kq):AC->AC
 | .ptr s off=>if keep.contains s then .ptr s off else .bot
 | .sl (.loc e pv) t xs=>
   match pv with
   |some (.io j,n)=>match AC.aeI io j n t with
    |some ys=> .sl (.loc 0 ((kq.Hp (.io j)).map λq=>(.io j,q))) t ys
    |none=>if e==ep then .sl (.loc 0 none) t xs else .bot
   |_=>if e==ep then .sl (.loc 0 none) t xs else .bot
 | .sl (.own _) t xs=> .sl (.own rt.Hp) t xs
 | .sl (.nest ..) _ _=> .bot
 | .sl (.part ..) _ _=> .bot
 | .sl (.fe _ i _) e xs=> .sl (.fe none i none) e xs
 | .C1 _ _ _ _ _=> .bot
 |c=>c
def Lv (keep:dV)(ep:Nat)(io:ar AC)(f:Nat->kq):Nat->ar AC->ar AC
 |_,[]=>[]
 |j,c::cs=>c.mask keep ep io (f j)::Lv keep ep io f (j+1) cs
def AV.mask (keep:dV)(ep:Nat)(io:ar AC)(s:Nat):AV->AV
 | .val g cs=> .val g (Lv keep ep io (.slot s) 0 cs)
 | .vQ _=> .bot
def nO (keep:dV)(ep:Nat)(io:ar AC):Nat->ar AV->ar AV
 |_,[]=>[]
 |i,v::r=>(if keep.contains i then v.mask keep ep io i else .bot)::nO keep ep io (i+1) r
def nN (keep:dV)(ep:Nat)(io:ar AC):Nat->ar (aw (ar AC))->ar (aw (ar AC))
 |_,[]=>[]
 |i,b::r=>(if keep.contains i then b.map (Lv keep ep io (.box i) 0) else none)::nN keep ep io (i+1) r
def YE (keep:dV):Nat->ar AC->ar AC
 |_,[]=>[]
 |j,c::cs=>(match c with| .sl (.own _) e xs=> .sl (.own (kq.Hp (.io j))) e xs| .sl (.fe _ i _) e xs=> .sl (.fe none i none) e xs| .ptr s off=>if keep.contains s then .ptr s off else .bot|c=>bif c.gu then c else .bot)::YE keep (j+1) cs
def AS.mask (keep:dV)(st:AS):AS:=
 ⟨nO keep st.ep st.io 0 st.slots,nN keep st.ep st.io 0 st.boxes,0,List.replicate st.slots.length false,YE keep 0 st.io⟩
def getBool (st:AS)(s:Nat):aw Bool:=
 match st.get s with
 | .val false [.bool b]=>some b
 |_=>none
def gB (an:An)(ds:dV)(o:Oper):Bool:=
 match o.op with
 | .assign (.const _)=> !Ca an o
 | .assign (.tmp t)=>ds.contains t&& !Ca an o
 | .move _| .load ..=>match o.dst with|some d=> !an.mv.contains d|none=>false
 | .slice ..=> !Ht an o
 | .pick ..| .binOp ..| .unOp ..| .fieldAddr ..| .indexAddr ..| .index ..| .nilCheck _=>true
 | .build _ ps=>ps.isEmpty
 | .call {callee:=.builtin .len,..}| .call {callee:=.builtin .min,..}| .call {callee:=.builtin .max,..}=>true
 | .call {callee:=.value _,..}=>true
 |_=>false
def I7 (ops:ar Oper):dV:=ops.filterMap (·.dst)
def AS.C0 (st:AS):dV->AS
 |[]=>st
 |d::r=>((st.put (some d) .bot).fu (some d)).C0 r
def Il (ops:ar Oper)(A:ar dV):Nat->ar Oper->AS->(AS->aw R)->aw R
 |_,[],st,K=>K st
 |i,o::r,st,K=>bif dq E an (tw an A i 0 ops) o st then gy E Γ an ops o st λst'=>Il ops A (i+1) r st' K else none
def GJ (ops:ar Oper)(draw:Bool)(st:AS)(K:AS->aw R):aw R:=
 bif draw then(bif UN an ops then Il E Γ.Jx an ops (Uz ops []) 0 ops st K else none) else TF E Γ an ops ops st K
def TN (id:Nat)(ops:ar Oper)(draw:Bool)(st:AS)(K:AS->aw R):aw R:=
 match an.merge id with
 |none=>GJ E Γ an ops draw st K
 |some s=>
  if ops.all (gB an (I7 ops)) then
   aa (GJ E Γ.calm an ops draw st λst'=>getBool st' s) λb=>K ((st.C0 (I7 ops)).put (some s) (.one (.bool b)))
  else none
def AK (key:dV)(B:AS->(Ex->AS->aw R)->aw R):Nat->AS->(Ex->AS->aw R)->aw R
 |0,_,_=>none
 |m+1,st,K=>B st λe st'=>
  match e with
  | .normal=>AK key B m (st'.mask key) K
  |e=>K e (st'.mask key)
def den (Λ:Gs):Code->AS->(Ex->AS->aw R)->aw R
 | .skip,st,K=>K .normal st
 | .region id ops draw,st,K=>TN E Γ an id ops.toList draw st (K .normal)
 | .seq a b,st,K=>den Λ a st λe st'=>match e with
   | .normal=>bif an.cut.contains (dy b) then(Λ (xT b)).go (st'.mask (an.mask (xT b))) K else den Λ b st' K
   |e=>K e st'
 | .cond c a b,st,K=>
   match st.rd c with
   | .val false [.bool t]=>cond t (den Λ a st K) (den Λ b st K)
   |_=>none
 | .block id c,st,K=>den Λ c st λe st'=>
   match e with
   | .exit j=>if j==id then K .normal st' else K (.exit j) st'
   |e=>K e st'
 | .loop c,st,K=>
   bif an.peel.contains (dy c) then den Λ c (st.mask (an.mask (dy c))) λe st'=>
    match e with
    | .normal=>(Λ (dy c)).go (st'.mask (an.mask (dy c))) K
    |e=>K e (st'.mask (an.mask (dy c)))
   else(Λ (dy c)).go (st.mask (an.mask (dy c))) K
 | .exit id,st,K=>K (.exit id) st
 | .ret,st,K=>K .ret st
 |_,_,_=>none
end
def Pg (st:AS)(E:Env):ResultVar->aw ((Bool×Nat)×Bool×ar AC)
 | .tmp t=>match st.get t with| .val g cs=>some ((false,t),g,cs.map AC.strip)|_=>none
 | .cell t T=>match iT E.ty T,st.get t with
   |some sh,.val false [.ptr s off]=>((nth st.boxes s).getD none).bind λcs=>
    if off+sh.ct.size<=cs.length then some ((true,s),sh.agg,((cs.drop off).take sh.ct.size).map AC.strip) else none
   |_,_=>none
def oO (st:AS)(E:Env):ar (Bool×Nat)->ar ResultVar->aw (ar (Bool×ar AC))
 |_,[]=>some []
 |had,r::rs=>(Pg st E r).bind λx=>if had.contains x.1 then none else(oO st E (x.1::had) rs).bind λxs=>some (x.2::xs)
def results (E:Env)(rs:ar ResultVar)(st:AS):aw AV:=
 match oO st E [] rs with
 |some [(g,cs)]=>some (.val g cs)
 |some vs=>some (.vQ vs)
 |none=>none
def od (fn:Func)(args:ar AV):AS:=⟨args++List.replicate (fn.ntmps-args.length) .bot,List.replicate (args.length+(fn.ntmps-args.length)) none,0,List.replicate fn.ntmps false,[]⟩
abbrev ir:ar (Bool×FT)->Type
 |[]=>Unit
 |[(_,t)]=>t.ct.D
 |(_,t)::r=>t.ct.D×ir r
def jU:(l:ar (Bool×FT))->ar (Bool×ar AC)->aw (ir l)
 |[],[]=>some ()
 |[(g,t)],[(g',cs)]=>bif g==g' then(match Nr t cs with|some (x,[])=>some x|_=>none) else none
 |(g,t)::p::r,(g',cs)::vs=>bif g==g' then(match Nr t cs with|some (x,[])=>(jU (p::r) vs).bind λy=>some (x,y)|_=>none) else none
 |_,_=>none
def aiq:(l:ar (Bool×FT))->ir l->ar (Bool×ar AC)
 |[],_=>[]
 |[(g,t)],x=>[(g,iW t x)]
 |(g,t)::p::r,x=>(g,iW t x.1)::aiq (p::r) x.2
def xR (l:ar (Bool×FT))(x:ir l):AV:=
 match aiq l x with
 |[(g,cs)]=> .val g cs
 |vs=> .vQ vs
def GK (E:Env)(Γ:xO)(an:An)(Λ:Gs)(fn:Func)(rs:ar (Bool×FT))(args:ar AV):aw (ir rs):=
 match fn.body with
 |some c=>if args.length=fn.params.size then den E Γ an Λ c (od fn args) λe st=>
  match e with
  | .exit _=>none
  |_=>aa (oO st E [] fn.results.toList) (jU rs)
  else none
 |none=>none
def evalAlt (E:Env)(Γ:xO)(an:An)(Λ:Gs)(fn:Func)(rs M4:ar (Bool×FT))(h:ir M4=ir rs)(args:ar AV):aw (Bool×ir rs):=
 match fn.body with
 |some c=>if args.length=fn.params.size then den E Γ an Λ c (od fn args) λe st=>
  match e with
  | .exit _=>none
  |_=>aa (oO st E [] fn.results.toList) λys=>
   match jU rs ys with
   |some y=>some (true,y)
   |none=>match jU M4 ys with
    |some y=>some (false,cast h y)
    |none=>none
  else none
 |none=>none
def Yt:Nat->ar AC->ar AC
 |_,[]=>[]
 |j,.sl _ e xs::cs=> .sl (.own (some (Bc j))) e xs::Yt (j+1) cs
 |j,c::cs=>c::Yt (j+1) cs
def B9:Nat->ar AC->ar AC
 |_,[]=>[]
 |j,.sl _ e xs::cs=> .sl (.loc 0 (some (.io j,Bc j))) e xs::B9 (j+1) cs
 |j,c::cs=>c::B9 (j+1) cs
def H7 (fn:Func)(g:Bool)(cs:ar AC)(args:ar AV):AS:={od fn (.val g (B9 0 cs)::args)with io:=Yt 0 cs}
def XS (E:Env)(Γ:xO)(an:An)(Λ:Gs)(fn:Func)(rs:ar (Bool×FT))(t:CT)(args:ar AV):aw (ir rs×t.D):=
 match fn.body,args with
 |some c,.val g cs::xs=>if xs.length+1=fn.params.size/\cs.all AC.Yu=true then den E Γ an Λ c (H7 fn g cs xs) λe st=>
  match e with
  | .exit _=>none
  |_=>aa (aa (oO st E [] fn.results.toList) (jU rs)) λr=>
   match iQ t st.io with
   |some (x,[])=>some (r,x)
   |_=>none
  else none
 |_,_=>none
def JK:Nat->ar AC->ar AC
 |_,[]=>[]
 |j,.sl (.own _) e xs::cs=> .sl (.own (some (3*j+1))) e xs::JK (j+1) cs
 |j,c::cs=>c::JK (j+1) cs
def CJ (fn:Func)(cs:ar AC)(args:ar AV):AS:=
 {od fn (.one (.ptr 0 0)::args)with boxes:=some (JK 0 cs)::List.replicate (args.length+(fn.ntmps-(args.length+1))) none,io:=[.ptr 0 0]}
def SS (E:Env)(Γ:xO)(an:An)(Λ:Gs)(fn:Func)(rs:ar (Bool×FT))(t:FT)(args:ar AV):aw (ir rs×t.ct.D):=
 match fn.body,args with
 |some c,.val true cs::xs=>if xs.length+1=fn.params.size/\cs.all (AC.AF true)=true then den E Γ an Λ c (CJ fn cs xs) λe st=>
  match e with
  | .exit _=>none
  |_=>aa (aa (oO st E [(true,0)] fn.results.toList) (jU rs)) λr=>
   match st.io,st.boxes with
   |[.ptr 0 0],some na::_=>match Nr t (na.map AC.strip)with
    |some (x,[])=>some (r,x)
    |_=>none
   |_,_=>none
  else none
 |_,_=>none
def Nl (E:Env)(Γ:xO)(an:An)(Λ:Gs)(fn:Func)(t:FT)(args:ar AV):aw t.ct.D:=
 match fn.body with
 |some c=>if args.length=fn.params.size then den E Γ an Λ c (od fn args) λe st=>
  match e with
  | .exit _=>none
  |_=>match fn.results.toList with
   |[.tmp i]=>match st.get i with
    | .val false [.ptr s 0]=>match (nth st.boxes s).getD none with
      |some cs=>if cs.all AC.K7=true then(match Nr t (cs.map AC.strip)with|some (x,[])=>some x|_=>none) else none
      |none=>none
    |_=>none
   |_=>none
  else none
 |none=>none
end Go.Dn
