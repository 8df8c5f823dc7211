import Derived.Test.YtbebkmajekhclaaGreatDnData
/- An abstract, heap-free semantics of the model's code, for functions that treat their data by value: definitions. -/
namespace Go.Dn
inductive lh where
 |slot (s j:Nat)|box (s j:Nat)|io (j:Nat)
 deriving DecidableEq
inductive rE where
 |own (tag:Option Nat)
 |loc (ep:Nat) (pv:Option (lh×Nat))
 |arg (k:Bool)
 |nest (ep:Nat) (r:lh) (t:Nat) (e:CT) (i:Int) (off:Nat)
 |part (ep:Nat) (r:lh) (t:Nat) (lo:Int)
 |fR (tag:Option Nat) (i:Int) (ep:Option Nat)
inductive AC where
 |int (k:IntKind) (n:Int)|bool (b:Bool)|str (s:List UInt8)
 |sl (fl:rE) (e:CT) (xs:List e.D)
 |kh
 |ptr (s off:Nat)
 |Dc (fl:rE) (e:CT) (x:e.D) (i:Int) (off:Nat)
 |fn (f:Nat)
 |un
 |bot
inductive AV where
 |val (agg:Bool) (cs:List AC)
 |xC (vs:List (Bool×List AC))
abbrev AV.one (c:AC):AV:=.val false [c]
abbrev AV.bot:AV:=.val false [.bot]
structure AS where
 slots:List AV
 boxes:List (Option (List AC))
 ep:Nat
 iss:List Bool
 io:List AC
structure Shape where
 agg:Bool
 ct:CT
 kx:List (Nat×Nat):=[]
structure An where
 mask:Nat->List Nat:=λ_=>[]
 merge:Nat->Option Nat:=λ_=>none
 mv:List Nat:=[]
 nest:List Nat:=[]
 mb:Nat->Option Nat:=λ_=>none
 sb:Nat->Option Nat:=λ_=>none
 late:List Nat:=[]
 peel:List Nat:=[]
 nils:List Nat:=[]
 fm:List Nat:=[]
 eb:Nat->Option Nat:=λ_=>none
 es:Nat->Option Nat:=λ_=>none
 er:Nat->Option Nat:=λ_=>none
 cut:List Nat:=[]
def cellsOf:(t:CT)->rE->t.D->aw AC
 | .int k,_,n=>[.int k n]
 | .bool,_,b=>[.bool b]
 | .str,_,s=>[.str s]
 | .sl e,fl,xs=>[.sl fl e xs]
 | .pair a b,fl,x=>cellsOf a fl x.1++cellsOf b fl x.2
def ma:(t:CT)->aw AC->ay (t.D×aw AC)
 | .int k,.int k' n::r=>if k'=k then some (n,r) else none
 | .bool,.bool b::r=>some (b,r)
 | .str,.str s::r=>some (s,r)
 | .sl e,.sl (.own _) e' xs::r=>if h:e'=e then some (h▸xs,r) else none
 | .sl _,.kh::r=>some ([],r)
 | .pair a b,cs=>(ma a cs).bind λx=>(ma b x.2).bind λy=>some ((x.1,y.1),y.2)
 |_,_=>none
def nth {α:Type}:aw α->Nat->ay α
 |[],_=>none
 |a::_,0=>some a
 |_::l,n+1=>nth l n
def iG {α:Type}:aw α->Nat->α->aw α
 |[],_,_=>[]
 |_::l,0,v=>v::l
 |a::l,n+1,v=>a::iG l n v
def AS.get (st:AS)(i:Nat):AV:=(nth st.slots i).getD .bot
def AS.put (st:AS)(d:ay Nat)(v:AV):AS:=
 match d with
 |some d=>{st with slots:=iG st.slots d v}
 |none=>st
def Kt (d j:Nat):Nat:=3*(4096*d+j)+2
def AS.iL (st:AS)(d:ay Nat)(j:Nat):ay Nat:=
 match d with
 |some d=>bif (nth st.iss d).getD true then none else bif Nat.ble 4096 j then none else some (Kt d j)
 |none=>none
def AS.fX (st:AS)(d:ay Nat):AS:=
 match d with
 |some d=>{st with iss:=iG st.iss d true}
 |none=>st
def AS.qP (st:AS)(d:ay Nat)(e:CT)(xs:aw e.D):AS:=
 (st.fX d).put d (.one (.sl (.own (st.iL d 0)) e xs))
def AC.borrow (ep:Nat)(rt:ay lh):AC->AC
 | .sl (.own tag) e xs=> .sl (.loc ep (match rt,tag with|some r,some t=>some (r,t)|_,_=>none)) e xs
 | .sl (.fR tag _ (some Ox)) e xs=> .sl (.loc Ox (match rt,tag with|some r,some t=>some (r,t)|_,_=>none)) e xs
 | .sl (.fR _ _ none) _ _=> .bot
 |c=>c
def iY (ep:Nat)(f:Nat->lh):Nat->aw AC->aw AC
 |_,[]=>[]
 |j,c::cs=>c.borrow ep (some (f j))::iY ep f (j+1) cs
def bg (ep:Nat)(cs:aw AC):aw AC:=cs.map (AC.borrow ep none)
def AV.borrow (ep:Nat)(f:Nat->lh):AV->AV
 | .val g cs=> .val g (iY ep f 0 cs)
 | .xC vs=> .xC (vs.map λx=>(x.1,bg ep x.2))
def AV.bg (ep:Nat):AV->AV
 | .val g cs=> .val g (Dn.bg ep cs)
 | .xC vs=> .xC (vs.map λx=>(x.1,Dn.bg ep x.2))
def ofConst:Value->AV
 | .int k n=> .one (.int k n)
 | .bool b=> .one (.bool b)
 | .string s=> .one (.str s.data.toList)
 | .slice none 0 0=> .one .kh
 |_=> .bot
def AS.rd (st:AS):Operand->AV
 | .tmp t=>(st.get t).borrow st.ep (.slot t)
 | .const v=>ofConst v
 | .func f=> .one (.fn f)
 | .global _=> .bot
def AS.take (st:AS):Operand->AV×AS
 | .tmp t=>(st.get t,st.put (some t) ((st.get t).bg st.ep))
 |x=>(st.rd x,st)
def AS.fj (st:AS)(s:Nat)(b:ay (aw AC)):AS:={st with boxes:=iG st.boxes s b}
def AC.asArg (ep:Nat):AC->AC
 | .int k n=> .int k n
 | .bool b=> .bool b
 | .str s=> .str s
 | .sl (.own _) e xs=> .sl (.arg false) e xs
 | .sl (.loc ep' _) e xs=>if ep'==ep then .sl (.arg false) e xs else .bot
 | .sl (.arg _) e xs=> .sl (.arg false) e xs
 | .kh=> .kh
 | .fn f=> .fn f
 |_=> .bot
def AV.asArg (ep:Nat):AV->AV
 | .val g cs=> .val g (cs.map (AC.asArg ep))
 | .xC _=> .bot
def AC.E2 (ep:Nat)(tag:ay Nat):AC->AC
 | .sl (.own _) e xs=> .sl (.own tag) e xs
 | .sl (.arg _) e xs=> .sl (.loc ep none) e xs
 | .sl (.loc _ _) _ _=> .bot
 | .sl (.nest ..) _ _=> .bot
 | .sl (.part ..) _ _=> .bot
 | .sl (.fR _ i _) e xs=> .sl (.fR none i none) e xs
 | .ptr _ _=> .bot
 | .Dc _ _ _ _ _=> .bot
 |c=>c
def Kg (ep:Nat)(mk:Nat->ay Nat):Nat->aw AC->aw AC
 |_,[]=>[]
 |j,c::cs=>c.E2 ep (mk j)::Kg ep mk (j+1) cs
def ack (ep:Nat)(mk:Nat->ay Nat):Nat->aw (Bool×aw AC)->aw (Bool×aw AC)
 |_,[]=>[]
 |j,t::ts=>(t.1,Kg ep mk j t.2)::ack ep mk (j+t.2.length) ts
def AV.E2 (ep:Nat)(mk:Nat->ay Nat):AV->AV
 | .val g cs=> .val g (Kg ep mk 0 cs)
 | .xC vs=> .xC (ack ep mk 0 vs)
def AC.I5:AC->Bool
 | .sl (.arg _) _ _=>true
 | .int ..=>true
 | .bool _=>true
 | .str _=>true
 | .fn _=>true
 |_=>false
structure kH where
 R:Type
 fn:List AV->Option R
 av:R->AV
 io:Bool:=false
 back:R->List AC:=λ_=>[]
 bx:Bool:=false
 pr:Bool:=false
 sel:R->Bool:=λ_=>true
 alt:R->AV:=λ_=> .val false [.bot]
 cur:Bool:=false
 hcur:cur=true->∀y,(back y).all AC.I5=true:=by intro h;cases h
def kH.res (F:kH)(y:F.R):AV:=cond (F.sel y) (F.av y) (F.alt y)
abbrev BA:=Nat->kH
def kH.dead:kH:={R:=Unit,fn:=λ_=>none,av:=λ_=> .val false [.bot]}
def BA.calm (Γ:BA):BA:=λf=>bif (Γ f).io||(Γ f).bx||(Γ f).pr then kH.dead else Γ f
def BA.IJ (Γ:BA):BA:=λf=>bif (Γ f).io||(Γ f).pr||((Γ f).bx&& !(Γ f).cur) then kH.dead else Γ f
def JT {R:Type}(op:BinOp)(k:IntKind)(x y:Int)(K:AC->ay R):ay R:=
 match op with
 | .add=>K (.int k (k.wrap (x+y)))
 | .sub=>K (.int k (k.wrap (x-y)))
 | .mul=>K (.int k (k.wrap (x*y)))
 | .quo=>if y=0 then none else K (.int k (k.wrap (x.tdiv y)))
 | .rem=>if y=0 then none else K (.int k (x.tmod y))
 | .and=>K (.int k (k.wrap (BitVec.ofInt k.bits x&&&BitVec.ofInt k.bits y).toNat))
 | .or=>K (.int k (k.wrap (BitVec.ofInt k.bits x|||BitVec.ofInt k.bits y).toNat))
 | .xor=>K (.int k (k.wrap (BitVec.ofInt k.bits x^^^BitVec.ofInt k.bits y).toNat))
 | .andNot=>K (.int k (k.wrap (BitVec.ofInt k.bits x&&&~~~ BitVec.ofInt k.bits y).toNat))
 | .eql=>K (.bool (x==y))
 | .neq=>K (.bool (x !=y))
 | .lss=>K (.bool (decide (x<y)))
 | .leq=>K (.bool (decide (x<=y)))
 | .gtr=>K (.bool (decide (x>y)))
 | .geq=>K (.bool (decide (x>=y)))
 |_=>none
def MK {R:Type}(op:BinOp)(x y:aw UInt8)(K:AC->ay R):ay R:=
 match op with
 | .add=>room (x.length+y.length) (K (.str (x++y)))
 | .eql=>K (.bool (x==y))
 | .neq=>K (.bool (!(x==y)))
 | .lss=>K (.bool (Op.bytesLess x y))
 | .leq=>K (.bool (Op.bytesLess x y||x==y))
 | .gtr=>K (.bool (!(Op.bytesLess x y||x==y)))
 | .geq=>K (.bool (!(Op.bytesLess x y)))
 |_=>none
def wh:aw AC->aw AC->ay Bool
 |[],[]=>some true
 | .int k x::r,.int k' y::r'=>if k=k' then(wh r r').bind λb=>some ((x==y)&&b) else none
 | .bool x::r,.bool y::r'=>(wh r r').bind λb=>some ((x==y)&&b)
 | .str x::r,.str y::r'=>(wh r r').bind λb=>some ((x==y)&&b)
 |_,_=>none
def Hm {R:Type}(op:BinOp)(x y:AV)(K:AC->ay R):ay R:=
 match x,y with
 | .val false [.int k a],.val false [.int k' b]=>
   match op with
   | .shl=>if b<0 then none else K (.int k (k.wrap (a*2^(min b.toNat k.bits))))
   | .shr=>if b<0 then none else K (.int k (a.fdiv (2^(min b.toNat k.bits))))
   |_=>if k=k' then JT op k a b K else none
 | .val false [.str a],.val false [.str b]=>MK op a b K
 | .val false [.bool a],.val false [.bool b]=>
   match op with
   | .eql=>K (.bool (a==b))
   | .neq=>K (.bool (!(a==b)))
   |_=>none
 | .val true xs,.val true ys=>
   match op with
   | .eql=>aa (wh xs ys) λb=>K (.bool b)
   | .neq=>aa (wh xs ys) λb=>K (.bool (!b))
   |_=>none
 |_,_=>none
def unC {R:Type}(op:UnOp)(x:AV)(K:AC->ay R):ay R:=
 match op,x with
 | .not,.val false [.bool b]=>K (.bool (!b))
 | .neg,.val false [.int k n]=>K (.int k (k.wrap (0-n)))
 | .xor,.val false [.int k n]=>JT .xor k (if k.signed then-1 else k.max) n K
 |_,_=>none
def eP (cs:aw AC)(off:Nat)(vs:aw AC):aw AC:=cs.take off++vs++cs.drop (off+vs.length)
def AS.fH (st:AS):lh->ay AC
 | .slot s j=>match st.get s with| .val _ cs=>nth cs j|_=>none
 | .box s j=>((nth st.boxes s).getD none).bind λcs=>nth cs j
 | .io j=>nth st.io j
def AS.fM (st:AS)(r:lh)(c:AC):AS:=
 match r with
 | .slot s j=>match st.get s with| .val g cs=>st.put (some s) (.val g (iG cs j c))|_=>st
 | .box s j=>match (nth st.boxes s).getD none with|some cs=>st.fj s (some (iG cs j c))|none=>st
 | .io j=>{st with io:=iG st.io j c}
def AS.fresh (st:AS):AC->AC
 | .sl (.loc ep (some (r,t))) e xs=>
   bif ep==st.ep then .sl (.loc ep (some (r,t))) e xs else
    match st.fH r with
    |some (.sl (.own (some t')) e' ys)=>if h:e'=e then bif t'==t then .sl (.loc st.ep (some (r,t))) e (h▸ys) else .sl (.loc ep (some (r,t))) e xs else .sl (.loc ep (some (r,t))) e xs
    |_=> .sl (.loc ep (some (r,t))) e xs
 |c=>c
def AV.fresh (st:AS):AV->AV
 | .val g cs=> .val g (cs.map st.fresh)
 | .xC vs=> .xC vs
def AC.now (ep:Nat):AC->Bool
 | .sl (.loc ep' (some _)) _ _=>ep'==ep
 |_=>true
def AS.qx {R:Type}(st:AS)(r:lh)(t:Nat)(e:CT)(i:Int)(off:Nat)(vs:aw AC)(K:AS->ay R):ay R:=
 match st.fH r with
 |some (.sl (.own (some t')) e' xs)=>
  if h:e'=e then
   if t'=t then
    aa (idx (h▸xs:aw e.D) i) λx=>
     match ma e (eP (cellsOf e (.own none) x) off vs)with
     |some (x',[])=>K {st.fM r (.sl (.own (some t')) e ((h▸xs:aw e.D).set i.toNat x'))with ep:=st.ep+1}
     |_=>none
   else none
  else none
 |some (.sl (.fR (some t') i' _) e' xs)=>
  if h:e'=e then
   if t'=t/\off=0 then
    aa (ae4 (h▸xs:aw e.D) i' i) λ_=>
     match ma e vs with
     |some (x',[])=>K {st.fM r (.sl (.own (some t')) e ((h▸xs:aw e.D).set i.toNat x'))with ep:=st.ep+1}
     |_=>none
   else none
  else none
 |_=>none
def AV.cells:AV->aw AC
 | .val _ cs=>cs
 | .xC _=>[.bot]
def fI (st:AS):aw Operand->aw AV×AS
 |[]=>([],st)
 |x::xs=>let (v,st1):=st.take x;let (vs,st2):=fI st1 xs;(v::vs,st2)
def DT (e:CT):aw (aw AC)->ay (aw e.D)
 |[]=>some []
 |cs::r=>match ma e cs with
  |some (x,[])=>(DT e r).bind λxs=>some (x::xs)
  |_=>none
def JR:Nat->aw (Nat×Operand)->Bool
 |_,[]=>true
 |n,(i,_)::r=>i==n&&JR (n+1) r
def AC.Kl:AC->Bool
 | .bot=>false
 | .un=>false
 |_=>true
def xM (kx:aw (Nat×Nat))(zero:aw AC):aw (Nat×aw AC)->ay (aw AC)
 |[]=>some zero
 |(i,cs)::r=>match nth kx i with
  |some (off,n)=>if cs.length=n/\off+n<=zero.length/\cs.all AC.Kl then xM kx (eP zero off cs) r else none
  |none=>none
inductive LK where
 |int|bool|str
 deriving DecidableEq
structure Env where
 ty:List (Nat×Shape)
 eqs:List (Nat×List LK):=[]
 fts:List ((Nat×Nat)×Nat):=[]
def Sz (l:aw (Nat×aw LK))(t:Nat):ay (aw LK):=
 match l with
 |[]=>none
 |(u,sh)::r=>bif u==t then some sh else Sz r t
def fits:aw LK->aw AC->Bool
 |[],[]=>true
 | .int::ls,.int _ _::r=>fits ls r
 | .bool::ls,.bool _::r=>fits ls r
 | .str::ls,.str _::r=>fits ls r
 |_,_=>false
def X3 (l:aw ((Nat×Nat)×Nat))(S f:Nat):ay Nat:=
 match l with
 |[]=>none
 |((u,k),T)::r=>bif u==S&&k==f then some T else X3 r S f
def jD (l:aw (Nat×Shape))(t:Nat):ay Shape:=
 match l with
 |[]=>none
 |(u,sh)::r=>bif u==t then some sh else jD r t
def Env.sl (E:Env)(t:Nat):ay CT:=
 match jD E.ty t with
 |some ⟨false,.sl e,_⟩=>some e
 |_=>none
def Env.str (E:Env)(t:Nat):Bool:=
 match jD E.ty t with
 |some ⟨false,.str,_⟩=>true
 |_=>false
def Env.bool (E:Env)(t:Nat):Bool:=
 match jD E.ty t with
 |some ⟨false,.bool,_⟩=>true
 |_=>false
def Env.bytes (E:Env)(t:Nat):Bool:=
 match jD E.ty t with
 |some ⟨false,.sl (.int .u8),[(te,_)]⟩=>match jD E.ty te with|some ⟨false,.int .u8,_⟩=>true|_=>false
 |_=>false
def rE.live (ep:Nat):rE->Bool
 | .loc ep' _=>ep'==ep
 | .arg _=>true
 | .own _=>false
 | .nest ..=>false
 | .part ..=>false
 | .fR ..=>false
def rE.rN (ep:Nat)(flat:Bool):rE->Bool
 | .loc ep' _=>ep'==ep&&flat
 | .arg _=>flat
 | .own _=>true
 | .nest ..=>false
 | .part ..=>false
 | .fR ..=>false
def rE.bare:rE->rE
 | .loc ep _=> .loc ep none
 |f=>f
def AC.jU:AC->Bool
 | .int _ _=>true
 | .bool _=>true
 | .str _=>true
 | .fn _=>true
 |_=>false
def tm:Operand->fE
 | .tmp t=>[t]
 |_=>[]
def Rv (l:aw Operand):fE:=l.flatMap tm
def Gy (an:An)(o:Oper):Bool:=
 match o.dst with
 |some d=>an.mv.contains d&&(an.mb d).isNone
 |none=>false
def aq4 (an:An)(o:Oper):Bool:=
 match o.dst with
 |some d=>an.nils.contains d
 |none=>false
def BW (an:An)(o:Oper):Bool:=
 match o.op with
 | .assign (.tmp s)=>an.late.contains s
 | .store _ _ (.tmp s)=>an.late.contains s
 |_=>false
def tmO:ay Operand->fE
 |some x=>tm x
 |none=>[]
def dY (o:Oper):fE:=
 match o.op with
 | .move x=>tm x
 | .assign x=>tm x
 | .pick c a b=>tm c++tm a++tm b
 | .box _ x=>tm x
 | .load _ p=>tm p
 | .store _ p x=>tm p++tm x
 | .nilCheck x=>tm x
 | .binOp _ _ x y _=>tm x++tm y
 | .unOp _ _ x=>tm x
 | .fieldAddr _ p _=>tm p
 | .indexAddr _ x i=>tm x++tm i
 | .index _ x i=>tm x++tm i
 | .build _ parts=>Rv (parts.toList.map (·.2))
 | .buildSlice _ _ parts=>Rv (parts.toList.map (·.2))
 | .makeSlice _ n c=>tm n++tm c
 | .slice _ x lo hi none=>tm x++tmO lo++tmO hi
 | .convert _ _ x=>tm x
 | .extract (.tmp t) _=>[t]
 | .call {callee:=.builtin _,args,..}=>Rv args.toList
 | .call {callee:=.value f,args,..}=>tm f++Rv args.toList
 |_=>[]
def Gx (an:An)(o:Oper):Bool:=
 match o.op with
 | .move _=>match o.dst with|some d=>an.mv.contains d|none=>false
 | .assign _=>true
 | .box ..=>true
 | .build ..=>true
 | .buildSlice ..=>true
 | .store ..=>true
 | .extract ..=>match o.dst with|some d=>an.mv.contains d|none=>false
 | .call {callee:=.builtin .append,..}=>true
 |_=>false
def Gv (an:An)(o:Oper):Bool:=
 match o.op,o.dst,o.guard with
 | .load _ (.tmp q),some d,none=>an.mv.contains d&&(an.mb d).isNone&&(an.eb q).isSome
 |_,_,_=>false
def CS (an:An)(o:Oper):Bool:=
 match o.op,o.dst,o.guard with
 | .load _ (.tmp q),some d,none=> !an.mv.contains d&& !an.fm.contains d&&(an.sb q).isSome
 |_,_,_=>false
def GA (an:An)(o:Oper):fE:=
 match o.op with
 | .alloc _=>o.dst.toList
 | .box ..=>o.dst.toList
 | .load _ p=>match o.dst with|some d=>bif an.mv.contains d then(an.mb d).toList++(bif Gv an o then(match p with| .tmp q=>(an.eb q).toList|_=>[]) else []) else []|none=>[]
 | .store _ (.tmp p) _=>(an.sb p).toList
 | .call {callee:=.value _,args,..}=>(match args.toList with| .tmp q::_=>(an.sb q).toList|_=>[])
 |_=>[]
def oC (an:An)(o:Oper):Bool:=
 match o.op with
 | .move _=>true
 | .load ..=>(match o.dst with|some d=> !an.mv.contains d||(an.mb d).isSome|none=>false)||Gv an o
 | .extract (.tmp _) _=>true
 | .store _ (.tmp p) _=>(an.sb p).isSome&& !BW an o
 | .assign _=> !BW an o
 | .pick ..| .alloc _| .box ..| .nilCheck _| .binOp ..| .unOp ..| .fieldAddr ..| .indexAddr ..| .index ..| .build ..| .buildSlice ..| .makeSlice ..| .convert ..=>true
 | .slice _ _ _ _ none=> !Gy an o
 | .call {callee:=.builtin .len,..}| .call {callee:=.builtin .min,..}| .call {callee:=.builtin .max,..}| .call {callee:=.builtin .append,..}=>true
 | .call {callee:=.value _,..}=>true
 |_=>false
def writes (an:An)(o:Oper):fE:=o.dst.toList++(bif Gx an o then dY o else [])
def AV.now (ep:Nat):AV->Bool
 | .val _ cs=>cs.all (AC.now ep)
 | .xC _=>true
def AC.lT:AC->Bool
 | .int ..=>true
 | .bool _=>true
 | .str _=>true
 | .fn _=>true
 | .ptr ..=>true
 |_=>false
def AV.lT:AV->Bool
 | .val _ cs=>cs.all AC.lT
 | .xC _=>false
def FH (E:Env)(T:TypeId)(st:AS)(s off:Nat):Bool:=
 match jD E.ty T,(nth st.boxes s).getD none with
 |some sh,some cs=>((cs.drop off).take sh.ct.size).all AC.lT
 |_,_=>false
def ZD (an:An)(o:Oper):Bool:=match o.dst with|some d=>an.fm.contains d|none=>false
def Dt (an:An)(o:Oper):Bool:=
 match o.op,o.dst,o.guard with
 | .load _ (.tmp _),some d,none=>an.mv.contains d&&(an.mb d).isSome
 |_,_,_=>false
def OG (an:An)(o:Oper):Bool:=
 match o.op,o.dst,o.guard with
 | .load _ (.tmp _),some d,none=> !an.mv.contains d&&an.fm.contains d
 |_,_,_=>false
def erS (an:An)(o:Oper):fE:=
 match o.op,o.dst with
 | .load ..,some d=>(an.er d).toList
 | .call {callee:=.value _,..},some d=>(an.er d).toList
 |_,_=>[]
def AC.ajK (l:fE):AC->Bool
 | .sl (.loc _ (some (.slot b _,_))) _ _=>l.contains b
 | .sl (.loc _ _) _ _=>false
 |_=>true
def Ki (l:fE)(st:AS):Operand->Bool
 | .tmp t=>(match st.get t with| .val _ cs=>cs.all (AC.ajK l)| .xC _=>true)
 |_=>true
def ahu (an:An)(X l:fE)(st:AS)(xs:aw Operand)(q:Nat):AV->Bool
 | .val false [.ptr s _]=> !X.contains s&&an.sb q==some s&&(match (nth st.boxes s).getD none with|some cs=>cs.all AC.I5|none=>true)&&xs.all (Ki l st)
 |_=>true
def AV.adK:AV->Bool
 | .val false [.ptr _ _]=>false
 |_=>true
def uK (an:An)(X l:fE)(st:AS):aw Operand->Bool
 | .tmp q::xs=>ahu an X l st xs q (st.rd (.tmp q))
 |x::_=>(st.rd x).adK
 |[]=>true
def dP (E:Env)(an:An)(X:fE)(o:Oper)(st:AS):Bool:=
 match o.op with
 | .move x=> !ZD an o||(st.rd x).lT
 | .indexAddr _ x _=>(st.rd x).now st.ep||(match st.rd x with| .val _ [.sl (.loc _ (some (.box b _,_))) _ _]=> !X.contains b|_=>false)
 | .slice _ x _ _ none=>(st.rd x).now st.ep
 | .call {callee:=.value _,args,..}=>uK an X (erS an o) st args.toList&&args.toList.all λx=>(st.rd x).now st.ep
 | .load T p=>match st.rd p with
   | .val false [.ptr s off]=> !X.contains s&&(match o.dst with|some d=> !an.mv.contains d||an.mb d==some s|none=>true)&&(!ZD an o||FH E T st s off)
   | .val false [.Dc fl _ _ _ _]=>(fl.live st.ep||(match fl with
     | .loc _ (some (.slot b _,_))=>(erS an o).contains b
     | .loc _ (some (.box b _,_))=> !X.contains b
     |_=>false))&& !(ZD an o||Dt an o)&& !CS an o&&(!Gv an o||(match p,fl with
     | .tmp q,.loc _ (some (.box b _,_))=>an.eb q==some b&& !X.contains b
     |_,_=>false))
   |_=> !(ZD an o||Dt an o)
 | .store _ (.tmp p) _=>((an.sb p).isNone&&(an.eb p).isNone&&(an.es p).isNone)||(match st.rd (.tmp p)with
   | .val false [.ptr s _]=> !X.contains s&&an.sb p==some s
   | .val false [.Dc (.loc _ (some (.box b _,_))) _ _ _ _]=>an.eb p==some b&&(an.sb p).isNone&&(an.es p).isNone
   | .val false [.Dc (.loc _ (some (.slot b _,_))) _ _ _ _]=>an.es p==some b&&(an.sb p).isNone&&(an.eb p).isNone
   |_=>false)
 | .extract (.tmp t) i=>match st.get t with
   | .xC vs=>match nth vs i with|some x=>x.2.all AC.jU||(match o.dst with|some d=>an.mv.contains d|none=>false)|none=>true
   |_=>true
 |_=>true
def FO (an:An)(ops:aw Oper)(o:Oper):fE:=
 (match o.guard with
 |some (j,_)=>((nth ops j).bind (·.dst)).toList
 |none=>[])++erS an o
def meets (a b:fE):Bool:=a.any λx=>b.contains x
def ZR (an:An)(ops:aw Oper)(X Y:fE)(o p:Oper):Bool:=
 oC an o&&oC an p&& !meets (writes an o) (dY p++FO an ops p++writes an p)&& !meets (writes an p) (dY o++FO an ops o)&&
 (GA an o).all (λd=>Y.contains d)&&(GA an p).all (λd=>X.contains d)&& !meets (GA an o) (p.dst.toList++GA an p)&& !meets (GA an p) o.dst.toList
def aaV (o p:Oper):Bool:=
 match o.op,p.op,o.dst,p.dst,o.guard,p.guard with
 | .extract (.tmp t) i,.extract (.tmp t') j,some d,some d',none,none=>t==t'&& !(i==j)&& !(d==d')&& !(d==t)&& !(d'==t)
 |_,_,_,_,_,_=>false
def aaS (an:An)(o p:Oper):Bool:=
 match p.op,p.dst,p.guard with
 | .store _ (.tmp q) (.tmp x),none,none=>((an.eb q).isSome&&(an.es q).isNone||(match an.es q with|some b=>(an.eb q).isNone&& !(b==x)&& !(b==q)&& !meets [b] (o.dst.toList++dY o)|none=>false))&&(an.sb q).isNone&& !BW an p&&(match o.op,o.dst,o.guard with
   | .move (.tmp t),some d,none=> !an.mv.contains d&&an.fm.contains d&& !(d==q)&& !(d==x)&& !(t==x)&& !(t==q)&& !(d==t)
   | .extract (.tmp t) _,some d,none=> !(d==q)&& !(d==x)&& !(t==x)&& !(t==q)&& !(d==t)
   |_,_,_=>false)
 |_,_,_=>false
def abN (an:An)(o p:Oper):Bool:=
 (Dt an o&&OG an p||OG an o&&Dt an p)&& !meets o.dst.toList (p.dst.toList++dY p)&& !meets p.dst.toList (dY o)
def Z6 (an:An)(o p:Oper):Bool:=CS an o&&Gv an p&& !meets o.dst.toList (p.dst.toList++dY p)&& !meets p.dst.toList (dY o)
def ajv (an:An)(o p:Oper):Bool:=aaV o p||aaS an o p||abN an o p||Z6 an o p
def N1 (an:An)(ops:aw Oper)(X Y:fE)(o p:Oper):Bool:=ajv an o p||ZR an ops X Y o p
def CU (o:Oper):fE:=(o.after.toList.filter (λe=>Region.binds .any e)).map (·.on)
def VF (a b:fE):fE:=a.foldl (λs x=>bif s.contains x then s else x::s) b
def VW:aw Oper->aw fE->aw fE
 |[],acc=>acc
 |o::r,acc=>VW r (acc++[(CU o).foldl (λs j=>VF (j::(nth acc j).getD []) s) []])
def af1 (A:aw fE)(i k:Nat):Bool:=((nth A i).getD []).contains k
def ac1 (an:An)(A:aw fE)(i:Nat)(fl pl:Bool):Nat->aw Oper->fE
 |_,[]=>[]
 |k,o::r=>(bif !af1 A i k&& !af1 A k i&& !(k==i)&& !(fl&&Dt an o)&& !(pl&&Gv an o) then GA an o else [])++ac1 an A i fl pl (k+1) r
def tZ (an:An)(A:aw fE)(i k:Nat)(ops:aw Oper):fE:=ac1 an A i (match nth ops i with|some o=>OG an o|none=>false) (match nth ops i with|some o=>CS an o|none=>false) k ops
def PI (an:An)(ops:aw Oper)(A:aw fE)(i:Nat)(oi:Oper):Nat->aw Oper->Bool
 |_,[]=>true
 |j,oj::r=>bif Nat.ble i j then true else(af1 A i j||N1 an ops (tZ an A j 0 ops) (tZ an A i 0 ops) oj oi)&&PI an ops A i oi (j+1) r
def U9 (an:An)(ops:aw Oper)(A:aw fE):Nat->aw Oper->Bool
 |_,[]=>true
 |i,oi::r=>(CU oi).all (λk=>Nat.blt k i)&&PI an ops A i oi 0 ops&&U9 an ops A (i+1) r
def Wr (an:An)(ops:aw Oper):Bool:=U9 an ops (VW ops []) 0 ops
inductive Ex where
 |normal|ret|exit (id:Nat)
inductive FK where
 |own (tag:Option Nat)|arg|As|loc|lio (j t:Nat)|nil
def FK.flag:FK->rE
 | .own t=> .own t
 | .arg=> .arg false
 | .As=> .arg true
 | .loc=> .loc 0 none
 | .lio j t=> .loc 0 (some (.io j,t))
 | .nil=> .arg false
def FK.isNil:FK->Bool
 | .nil=>true
 |_=>false
inductive FT where
 |int (k:IntKind)|bool|str|sl (fl:FK) (e:CT)|pair (a b:FT)
abbrev FT.ct:FT->CT
 | .int k=> .int k
 | .bool=> .bool
 | .str=> .str
 | .sl _ e=> .sl e
 | .pair a b=> .pair a.ct b.ct
def jT:(t:FT)->t.ct.D->aw AC
 | .int k,n=>[.int k n]
 | .bool,b=>[.bool b]
 | .str,s=>[.str s]
 | .sl fl e,xs=>[bif fl.isNil then .kh else .sl fl.flag e xs]
 | .pair a b,x=>jT a x.1++jT b x.2
def FK.fits:FK->rE->Bool
 | .own t,.own t'=>t==t'
 | .arg,.arg k=> !k
 | .As,.arg k=>k
 | .loc,.loc 0 none=>true
 | .lio j t,.loc 0 (some (.io j',t'))=>j==j'&&t==t'
 |_,_=>false
def NL:(t:FT)->aw AC->ay (t.ct.D×aw AC)
 | .int k,.int k' n::r=>if k'=k then some (n,r) else none
 | .bool,.bool b::r=>some (b,r)
 | .str,.str s::r=>some (s,r)
 | .sl fl e,.sl fl' e' xs::r=>if h:e'=e then bif fl.fits fl' then some (h▸xs,r) else none else none
 | .sl fl _,.kh::r=>bif fl.isNil then some ([],r) else none
 | .pair a b,cs=>(NL a cs).bind λx=>(NL b x.2).bind λy=>some ((x.1,y.1),y.2)
 |_,_=>none
inductive PD where
 |bot|ptr (s off:Nat)|fn (f:Nat)|data (g:Bool) (t:FT)
inductive IoD where
 |none|some (t:FT)|ptr
structure SD where
 slots:List PD
 boxes:List (Option FT)
 io:IoD:=.none
abbrev LR:aw PD->Type
 |[]=>Unit
 | .data _ t::r=>t.ct.D×LR r
 |_::r=>LR r
abbrev KP:aw (ay FT)->Type
 |[]=>Unit
 |some t::r=>t.ct.D×KP r
 |none::r=>KP r
abbrev ioD:IoD->Type
 | .none=>Unit
 | .some t=>t.ct.D
 | .ptr=>Unit
abbrev SD.D (d:SD):Type:=LR d.slots×KP d.boxes×ioD d.io
def ub:(l:aw PD)->LR l->aw AV
 |[],_=>[]
 | .data g t::r,x=> .val g (jT t x.1)::ub r x.2
 | .bot::r,x=> .bot::ub r x
 | .ptr s off::r,x=> .one (.ptr s off)::ub r x
 | .fn f::r,x=> .one (.fn f)::ub r x
def DA:(l:aw (ay FT))->KP l->aw (ay (aw AC))
 |[],_=>[]
 |some t::r,x=>some (jT t x.1)::DA r x.2
 |none::r,x=>none::DA r x
def ah4:(o:IoD)->ioD o->aw AC
 | .none,_=>[]
 | .some t,x=>jT t x
 | .ptr,_=>[.ptr 0 0]
def SD.enc (d:SD)(x:d.D):AS:=⟨ub d.slots x.1,DA d.boxes x.2.1,0,List.replicate d.slots.length false,ah4 d.io x.2.2⟩
def AV.adB:AV->Bool
 | .val false [.bot]=>true
 |_=>false
def AV.adC (s off:Nat):AV->Bool
 | .val false [.ptr s' av0]=>s==s'&&off==av0
 |_=>false
def AV.afy (f:Nat):AV->Bool
 | .val false [.fn f']=>f==f'
 |_=>false
def kA:(l:aw PD)->aw AV->ay (LR l)
 |[],[]=>some ()
 | .data g t::r,.val g' cs::vs=>bif g==g' then(match NL t cs with|some (x,[])=>(kA r vs).bind λy=>some (x,y)|_=>none) else none
 | .bot::r,v::vs=>bif v.adB then kA r vs else none
 | .ptr s off::r,v::vs=>bif v.adC s off then kA r vs else none
 | .fn f::r,v::vs=>bif v.afy f then kA r vs else none
 |_,_=>none
def rK:(l:aw (ay FT))->aw (ay (aw AC))->ay (KP l)
 |[],[]=>some ()
 |some t::r,some cs::bs=>match NL t cs with|some (x,[])=>(rK r bs).bind λy=>some (x,y)|_=>none
 |none::r,none::bs=>rK r bs
 |_,_=>none
def abF:aw AC->Bool
 |[.ptr 0 0]=>true
 |_=>false
def Wp:(o:IoD)->aw AC->ay (ioD o)
 | .none,[]=>some ()
 | .some t,cs=>match NL t cs with|some (x,[])=>some x|_=>none
 | .ptr,cs=>bif abF cs then some () else none
 |_,_=>none
def SD.dec (d:SD)(st:AS):ay d.D:=
 bif st.ep==0&&st.iss==List.replicate d.slots.length false then
  (kA d.slots st.slots).bind λx=>(rK d.boxes st.boxes).bind λy=>(Wp d.io st.io).bind λz=>some (x,y,z)
 else none
structure KL where
 sd:SD
 run:{R:Type}->sd.D->(Ex->AS->Option R)->Option R
abbrev jZ:=Nat->KL
def KL.go {R:Type}(l:KL)(st:AS)(K:Ex->AS->ay R):ay R:=aa (l.sd.dec st) λx=>l.run x K
def KL.none:KL:=⟨⟨[],[],.none⟩,λ_ _=>Option.none⟩
def jZ.nil:jZ:=λ_=>KL.none
def jZ.add (Λ:jZ)(k:Nat)(l:KL):jZ:=λj=>bif j==k then l else Λ j
section
variable {R:Type} (E:Env) (Γ:BA) (an:An)
def DW (o:Oper)(x:Operand)(st:AS)(K:AS->ay R):ay R:=
 match o.dst with
 |some d=>if an.mv.contains d then K ((st.take x).2.put o.dst (st.take x).1) else K (st.put o.dst (st.rd x))
 |none=>none
def wb (o:Oper)(x:Operand)(st:AS)(K:AS->ay R):ay R:=
 match st.take x with
 |(.val false [.kh],_)=>match E.sl o.type with
  |some e=>K (st.put o.dst (.one (bif aq4 an o then .kh else .sl (.own none) e [])))
  |none=>none
 |(v,bU)=>K (bU.put o.dst v)
def Ga (o:Oper)(c a b:Operand)(st:AS)(K:AS->ay R):ay R:=
 match st.rd c with
 | .val false [.bool t]=>match st.rd a,st.rd b with
   | .val false [.bool x],.val false [.bool y]=>K (st.put o.dst (.one (.bool (cond t x y))))
   |va,vb=>cond t (K (st.put o.dst va)) (K (st.put o.dst vb))
 |_=>none
def Ea (o:Oper)(T:TypeId)(st:AS)(K:AS->ay R):ay R:=
 match o.dst,jD E.ty T with
 |some d,some sh=>match nth st.boxes d with
  |some none=>K ((st.fj d (some (cellsOf sh.ct (.own none) sh.ct.zero))).put o.dst (.one (.ptr d 0)))
  |_=>none
 |_,_=>none
def TF (o:Oper)(x:Operand)(st:AS)(K:AS->ay R):ay R:=
 match o.dst,st.take x with
 |some d,(.val _ cs,bU)=>
  match nth bU.boxes d with
  |some none=>if cs.all AC.Kl then K ((bU.fj d (some cs)).put o.dst (.one (.ptr d 0))) else none
  |_=>none
 |_,_=>none
def U3 (ep:Nat)(r:lh)(t:Nat)(e:CT)(i:Int):Nat->aw AC->aw AC
 |_,[]=>[]
 |p,.sl _ e' xs::cs=> .sl (.nest ep r t e i p) e' xs::U3 ep r t e i (p+1) cs
 |p,c::cs=>c::U3 ep r t e i (p+1) cs
def aji (o:Oper)(ep:Nat)(fl:rE)(e:CT)(i:Int)(off:Nat)(cs:aw AC):aw AC:=
 match fl,o.dst with
 | .loc _ (some (r,t)),some d=>bif an.nest.contains d then U3 ep r t e i off cs else cs
 |_,_=>cs
def EJ (o:Oper)(sh:Shape)(fl:rE)(e:CT)(i:Int)(off:Nat)(st:AS)(K:AS->ay R):ay R:=
 match fl with
 | .loc _ (some (r,t))=>
   match st.fH r with
   |some (.sl (.own (some t')) e' ys)=>
    if h:e'=e then
     if t'=t/\off+sh.ct.size<=e.size then
      aa (idx (h▸ys:aw e.D) i) λy=>K (st.put o.dst (.val sh.agg (((cellsOf e (.loc st.ep none) y).drop off).take sh.ct.size)))
     else none
    else none
   |_=>none
 |_=>none
def zU (o:Oper)(sh:Shape)(fl:rE)(e:CT)(i:Int)(off:Nat)(st:AS)(K:AS->ay R):ay R:=
 match fl with
 | .loc _ (some (r,t))=>
   match st.fH r with
   |some (.sl (.own (some t')) e' ys)=>
    if h:e'=e then
     if t'=t/\off=0/\sh.ct=e then
      aa (idx (h▸ys:aw e.D) i) λy=>K ((st.fM r (.sl (.fR (some t) i (some st.ep)) e (h▸ys))).put o.dst (.val sh.agg (cellsOf e (.own none) y)))
     else none
    else none
   |_=>none
 |_=>none
def qj (o:Oper)(T:TypeId)(p:Operand)(st:AS)(K:AS->ay R):ay R:=
 match jD E.ty T,st.rd p with
 |some sh,.val false [.ptr s off]=>
  match (nth st.boxes s).getD none with
  |some cs=>
   if off+sh.ct.size<=cs.length then
    match o.dst with
    |some d=>
     if an.mv.contains d then
      K ((st.fj s (some (eP cs off (bg st.ep ((cs.drop off).take sh.ct.size))))).put o.dst (.val sh.agg ((cs.drop off).take sh.ct.size)))
     else K (st.put o.dst (.val sh.agg (iY st.ep (.box s) off ((cs.drop off).take sh.ct.size))))
    |none=>none
   else none
  |none=>none
 |some sh,.val false [.Dc fl e x i off]=>
  if Gy an o then zU o sh fl e i off st K
  else if fl.live st.ep then
   if off+sh.ct.size<=e.size then K (st.put o.dst (.val sh.agg (aji an o st.ep fl e i off (((cellsOf e fl.bare x).drop off).take sh.ct.size)))) else none
  else EJ o sh fl e i off st K
 |_,_=>none
def yn (T:TypeId)(p x:Operand)(st:AS)(K:AS->ay R):ay R:=
 match jD E.ty T,st.rd p with
 |some sh,.val false [.ptr s off]=>
  match st.take x with
  |(.val _ vs,bU)=>
   match (nth bU.boxes s).getD none with
   |some cs=>
    if vs.length=sh.ct.size/\vs.all AC.Kl then
     if off+sh.ct.size<=cs.length then K (bU.fj s (some (eP cs off vs))) else none
    else none
   |none=>none
  |_=>none
 |some sh,.val false [.Dc (.loc _ (some (r,t))) e _ i off]=>
  match st.take x with
  |(.val _ vs,bU)=>
   if vs.length=sh.ct.size/\off+sh.ct.size<=e.size then bU.qx r t e i off vs K else none
  |_=>none
 |_,_=>none
def BJ (o:Oper)(S:TypeId)(p:Operand)(f:Nat)(st:AS)(K:AS->ay R):ay R:=
 match jD E.ty S,st.rd p with
 |some ⟨true,_,kx⟩,.val false [.ptr s off]=>match nth kx f with|some (fo,_)=>K (st.put o.dst (.one (.ptr s (off+fo))))|none=>none
 |some ⟨true,_,kx⟩,.val false [.Dc fl e x i off]=>match nth kx f with|some (fo,_)=>K (st.put o.dst (.one (.Dc fl e x i (off+fo))))|none=>none
 |_,_=>none
def np (o:Oper)(T:TypeId)(x i:Operand)(st:AS)(K:AS->ay R):ay R:=
 match E.sl T,(st.rd x).fresh st,st.rd i with
 |some e',.val false [.sl fl e xs],.val false [.int _ n]=>
  if e'=e/\fl.live st.ep then aa (idx xs n) λy=>K (st.put o.dst (.one (.Dc fl e y n 0))) else none
 |_,_,_=>none
def Dk (o:Oper)(T:TypeId)(x i:Operand)(st:AS)(K:AS->ay R):ay R:=
 match st.rd x,st.rd i with
 | .val false [.str s],.val false [.int _ n]=>if E.str T then aa (idx s n) λb=>K (st.put o.dst (.one (.int .u8 b.toNat))) else none
 |_,_=>none
def C9 (o:Oper)(T:TypeId)(parts:aw (Nat×Operand))(st:AS)(K:AS->ay R):ay R:=
 match jD E.ty T with
 |some ⟨true,ct,kx⟩=>
  match fI st (parts.map (·.2))with
  |(vs,bU)=>
   match xM kx (cellsOf ct (.own none) ct.zero) ((parts.map (·.1)).zip (vs.map AV.cells))with
   |some cs=>K (bU.put o.dst (.val true cs))
   |none=>none
 |_=>none
def mF (o:Oper)(T:TypeId)(len:Nat)(parts:aw (Nat×Operand))(st:AS)(K:AS->ay R):ay R:=
 match E.sl T with
 |some e=>
  if parts.length=len/\JR 0 parts/\len<=1000 then
   match fI st (parts.map (·.2))with
   |(vs,bU)=>
    match DT e (vs.map AV.cells)with
    |some xs=>K (bU.qP o.dst e xs)
    |none=>none
  else none
 |none=>none
def pK (o:Oper)(T:TypeId)(n c:Operand)(st:AS)(K:AS->ay R):ay R:=
 match E.sl T,st.rd n,st.rd c with
 |some e,.val false [.int .i64 len],.val false [.int .i64 cap]=>
  if 0<=len/\len<=cap then room cap.toNat (K (st.qP o.dst e (List.replicate len.toNat e.zero))) else none
 |_,_,_=>none
def nE (st:AS)(lo hi:ay Operand)(n:Nat)(K:Int->Int->ay R):ay R:=
 match lo.map st.rd,hi.map st.rd with
 |none,none=>K 0 n
 |some (.val false [.int _ a]),none=>K a n
 |none,some (.val false [.int _ b])=>K 0 b
 |some (.val false [.int _ a]),some (.val false [.int _ b])=>K a b
 |_,_=>none
def ye (o:Oper)(T:TypeId)(x:Operand)(lo hi:ay Operand)(st:AS)(K:AS->ay R):ay R:=
 match st.take x,lo.map st.rd,hi with
 |(.val false [.sl (.own _) e xs],bU),some (.val false [.int _ a]),none=>
  if E.sl T=some e then aa (sub xs a xs.length) λQM=>K (bU.qP o.dst e QM) else none
 |_,_,_=>none
def PJ (o:Oper)(fl:rE)(a:Int):rE:=
 match fl,o.dst with
 | .loc ep (some (r,t)),some d=>bif an.nest.contains d then .part ep r t a else .loc ep none
 |fl,_=>fl.bare
def Ce (o:Oper)(T:TypeId)(x:Operand)(lo hi:ay Operand)(st:AS)(K:AS->ay R):ay R:=
 if Gy an o then ye E o T x lo hi st K else
 match (st.rd x).fresh st with
 | .val false [.str s]=>if E.str T then nE st lo hi s.length λa b=>aa (sub s a b) λs'=>K (st.put o.dst (.one (.str s'))) else none
 | .val false [.sl fl e xs]=>
   if E.sl T=some e/\fl.live st.ep then nE st lo hi xs.length λa b=>aa (sub xs a b) λQM=>K (st.put o.dst (.one (.sl (PJ an o fl a) e QM))) else none
 |_=>none
def mI (o:Oper)(src dst:TypeId)(x:Operand)(st:AS)(K:AS->ay R):ay R:=
 match jD E.ty src,jD E.ty dst,st.rd x with
 |some _,some ⟨false,.int k,_⟩,.val false [.int _ n]=>K (st.put o.dst (.one (.int k (k.wrap n))))
 |some ⟨false,.str,_⟩,some ⟨false,.str,_⟩,.val false [.str s]=>K (st.put o.dst (.one (.str s)))
 |some ⟨false,.str,_⟩,some _,.val false [.str s]=>
  if E.bytes dst then room s.length (K (st.qP o.dst (.int .u8) (dz s))) else none
 |some _,some ⟨false,.str,_⟩,.val false [.sl fl (.int .u8) xs]=>
  if E.bytes src/\fl.live st.ep then K (st.put o.dst (.one (.str (aM xs)))) else none
 |_,_,_=>none
def mM (o:Oper)(t i:Nat)(st:AS)(K:AS->ay R):ay R:=
 match st.get t with
 | .xC vs=>match nth vs i with
   |some (g,cs)=>K ((st.put (some t) (.xC (iG vs i (g,bg 0 cs)))).put o.dst (.val g cs))
   |none=>none
 |_=>none
def Pt (o:Oper)(ts:aw TypeId)(args:aw Operand)(st:AS)(K:AS->ay R):ay R:=
 match ts,args.map st.rd with
 |[t],[.val false [.str s]]=>if E.str t then K (st.put o.dst (.one (.int .i64 s.length))) else none
 |[t],[.val false [.sl _ _ xs]]=>if(E.sl t).isSome then K (st.put o.dst (.one (.int .i64 xs.length))) else none
 |_,_=>none
def Ra (o:Oper)(args:aw Operand)(st:AS)(K:AS->ay R):ay R:=
 match args.map st.rd with
 |[.val false [.int k x],.val false [.int _ y]]=>K (st.put o.dst (.one (.int k (if y<x then y else x))))
 |_=>none
def Q9 (o:Oper)(args:aw Operand)(st:AS)(K:AS->ay R):ay R:=
 match args.map st.rd with
 |[.val false [.int k x],.val false [.int _ y]]=>K (st.put o.dst (.one (.int k (if y>x then y else x))))
 |_=>none
def RF (o:Oper)(ts:aw TypeId)(args:aw Operand)(st:AS)(K:AS->ay R):ay R:=
 match ts,args.map st.rd with
 |[t,t'],[.val false [.sl (.part ep r tg lo) e xs],.val false [.str s]]=>
  match st.fH r with
  |some (.sl (.own (some tg')) e' ys)=>
   if h:e'=.int .u8 then
    if e=.int .u8/\E.sl t=some (.int .u8)/\E.str t'=true/\ep=st.ep/\tg'=tg then
     K ({st.fM r (.sl (.own (some tg)) (.int .u8) (DY (h▸ys:aw (CT.int .u8).D) lo.toNat (dz (s.take xs.length))))with ep:=st.ep+1}.put o.dst (.one (.int .i64 (min xs.length s.length:Nat))))
    else none
   else none
  |_=>none
 |_,_=>none
def GM (o:Oper)(S:TypeId)(t f:Nat)(st:AS)(K:AS->ay R):ay R:=
 match jD E.ty S,st.get t,X3 E.fts S f with
 |some ⟨true,ct,kx⟩,.val true cs,some T=>
  match nth kx f,jD E.ty T with
  |some (fo,n),some sh=>
   if n=sh.ct.size/\cs.length=ct.size/\fo+n<=cs.length then
    K ((st.put (some t) (.val true (eP cs fo (bg st.ep ((cs.drop fo).take n))))).put o.dst (.val sh.agg ((cs.drop fo).take n)))
   else none
  |_,_=>none
 |_,_,_=>none
def yr (o:Oper)(ts:aw TypeId)(args:aw Operand)(st:AS)(K:AS->ay R):ay R:=
 match ts,args with
 |[t,t'],[s,x]=>
  match st.take s with
  |(.val false [.sl (.own _) e xs],st1)=>
   match st1.take x with
   |(.val false [.sl fl e' ys],st2)=>
    if h:e'=e then
     if E.sl t=some e/\E.sl t'=some e/\fl.rN st.ep e.flat then
      room (xs.length+ys.length) (K (st2.qP o.dst e (xs++(h▸ys:aw e.D))))
     else none
    else none
   |(.val false [.str s],st2)=>
    if h:e=.int .u8 then
     if E.sl t=some e/\E.str t' then room (xs.length+s.length) (K (st2.qP o.dst (.int .u8) ((h▸xs:aw (CT.int .u8).D)++dz s))) else none
    else none
   |_=>none
  |_=>none
 |_,_=>none
def RX:Nat->aw AC->ay (lh×Nat)
 |_,[]=>none
 |j,.sl (.loc _ (some (r,_))) _ _::_=>some (r,j)
 |j,_::cs=>RX (j+1) cs
def lh.pos:lh->Nat
 | .slot _ j=>j
 | .box _ j=>j
 | .io j=>j
def AS.J6 (st:AS):lh->ay (aw AC)
 | .slot s _=>match st.get s with| .val _ cs=>some cs|_=>none
 | .box s _=>(nth st.boxes s).getD none
 | .io _=>some st.io
def AS.Gn (st:AS)(r:lh)(cs:aw AC):AS:=
 match r with
 | .slot s _=>match st.get s with| .val g _=>st.put (some s) (.val g cs)|_=>st
 | .box s _=>st.fj s (some cs)
 | .io _=>{st with io:=cs}
def oF:aw AC->aw AC->ay (aw AC)
 |[],[]=>some []
 | .sl (.loc _ (some (_,t))) _ _::os,.sl (.own (some t')) e xs::ss=>bif t'==t then(oF os ss).bind λr=>some (.sl (.own none) e xs::r) else none
 | .int k n::os,.int _ _::ss=>(oF os ss).bind λr=>some (.int k n::r)
 | .bool b::os,.bool _::ss=>(oF os ss).bind λr=>some (.bool b::r)
 | .str x::os,.str _::ss=>(oF os ss).bind λr=>some (.str x::r)
 |_,_=>none
def AV.jU:AV->Bool
 | .val _ cs=>cs.all AC.jU
 | .xC vs=>vs.all λx=>x.2.all AC.jU
def TK (st:AS)(x:Operand):ay (AV×AS):=
 match st.rd x with
 | .val g cs=>
   match RX 0 cs with
   |some (r,j)=>
    match st.J6 r with
    |some csO=>
     match oF cs ((csO.drop (r.pos-j)).take cs.length)with
     |some rJ=>some (.val g rJ,st.Gn r (eP csO (r.pos-j) (bg st.ep ((csO.drop (r.pos-j)).take cs.length))))
     |none=>none
    |none=>none
   |none=>none
 |_=>none
def Sw (o:Oper)(x:Operand)(st:AS)(K:AS->ay R):ay R:=
 match TK st x with
 |some (v,bU)=>K (bU.put o.dst v)
 |none=>none
def yo (T:TypeId)(p x:Operand)(st:AS)(K:AS->ay R):ay R:=
 match jD E.ty T,st.rd p with
 |some sh,.val false [.ptr s off]=>
  match TK st x with
  |some (.val _ vs,bU)=>
   match (nth bU.boxes s).getD none with
   |some cs=>
    if vs.length=sh.ct.size/\vs.all AC.Kl then
     if off+sh.ct.size<=cs.length then K (bU.fj s (some (eP cs off vs))) else none
    else none
   |none=>none
  |_=>none
 |_,_=>none
def AC.strip:AC->AC
 | .sl (.own _) e xs=> .sl (.own none) e xs
 | .sl (.loc _ _) _ _=> .bot
 | .sl (.nest ..) _ _=> .bot
 | .sl (.part ..) _ _=> .bot
 | .sl (.fR _ i _) e xs=> .sl (.fR none i none) e xs
 | .ptr _ _=> .bot
 | .Dc _ _ _ _ _=> .bot
 |c=>c
def AC.alz:AC->Bool
 | .sl (.own _) _ _=>true
 |c=>c.jU
def AC.Ak (k:Bool):AC->Bool
 | .sl (.own _) _ _=>true
 | .sl (.arg k') _ _=>k'==k
 |c=>c.jU
def AC.Vz:AC->AC
 | .sl (.own _) e xs=> .sl (.own none) e xs
 | .sl (.arg _) e xs=> .sl (.arg true) e xs
 |c=>c.strip
def AC.anG (k:Bool)(tag:ay Nat):AC->AC
 | .sl (.own _) e xs=> .sl (.own tag) e xs
 | .sl (.arg _) e xs=> .sl (.arg k) e xs
 |c=>c
def qD (k:Bool)(mk:Nat->ay Nat):Nat->aw AC->aw AC
 |_,[]=>[]
 |j,c::cs=>c.anG k (mk j)::qD k mk (j+1) cs
def E1 (cs:aw AC):Bool:=cs.any λc=>match c with| .sl (.arg k) _ _=>k|_=>false
def AC.KO:AC->Bool
 | .sl (.arg k) _ _=> !k
 |c=>c.jU
def AV.KO:AV->Bool
 | .val _ cs=>cs.all AC.KO
 | .xC _=>false
def AS.Q8 (st:AS):AC->AC
 | .sl (.own _) e xs=> .sl (.arg false) e xs
 | .sl (.arg _) e xs=> .sl (.arg false) e xs
 | .sl (.loc _ (some (.slot b j,t))) _ _=>match st.fH (.slot b j)with
   |some (.sl (.own (some t')) e' ys)=>if t'=t then .sl (.arg false) e' ys else .bot
   |_=> .bot
 | .int k n=> .int k n
 | .bool b=> .bool b
 | .str s=> .str s
 | .fn f=> .fn f
 |_=> .bot
def CQ (st:AS):Operand->AV
 | .tmp t=>(match st.get t with| .val g cs=> .val g (cs.map st.Q8)|v=>v)
 |x=>st.rd x
def DS (st:AS):Operand->Bool
 | .tmp t=>(match st.get t with| .val _ cs=>(cs.map st.Q8).all AC.KO|_=>false)
 |x=>(st.rd x).jU
def AC.afV:AC->Bool
 | .sl (.own _) _ _=>true
 |c=>c.jU
def AV.afV:AV->Bool
 | .val _ cs=>cs.all AC.afV
 | .xC vs=>vs.all λx=>x.2.all AC.afV
def ac0 (st:AS)(s:Nat)(cs:aw AC):AS:={(st.fj s (some cs)).fX (some s)with ep:=st.ep+1}
def wc (o:Oper)(f:Nat)(args:aw Operand)(st:AS)(K:AS->ay R):ay R:=
 match args with
 |x0::xs=>
  match st.rd x0 with
  | .val false [.ptr s 0]=>
    match (nth st.boxes s).getD none with
    |some cs=>
     bif cs.all (AC.Ak (E1 cs))&&xs.all (DS st) then
      aa ((Γ f).fn (.val true (cs.map AC.Vz)::xs.map (CQ st))) λy=>
       bif ((Γ f).back y).all (AC.Ak true)&&((Γ f).av y).afV then
        bif (Γ f).cur&&cs.all AC.I5 then
         K (((st.fj s (some (qD (E1 cs) (λ_=>none) 0 ((Γ f).back y)))).fX o.dst).put o.dst (((Γ f).av y).E2 st.ep (st.iL o.dst)))
        else
        K (((ac0 st s (qD (E1 cs) (st.iL (some s)) 0 ((Γ f).back y))).fX o.dst).put o.dst
          (((Γ f).av y).E2 (st.ep+1) ((ac0 st s (qD (E1 cs) (st.iL (some s)) 0 ((Γ f).back y))).iL o.dst)))
       else none
     else none
    |none=>none
  |_=>none
 |[]=>none
def afW (o:Oper)(f:Nat)(args:aw Operand)(st:AS)(K:AS->ay R):ay R:=
 match o.dst with
 |some d=>
  match nth st.boxes d with
  |some none=>
   bif args.all (λx=>(st.rd x).KO) then
    aa ((Γ f).fn (args.map st.rd)) λy=>
     bif ((Γ f).back y).all AC.KO then K ((st.fj d (some ((Γ f).back y))).put (some d) (.one (.ptr d 0))) else none
   else none
  |_=>none
 |none=>none
def E4 (o:Oper)(f:Operand)(args:aw Operand)(st:AS)(K:AS->ay R):ay R:=
 match st.rd f with
 | .val false [.fn f]=>
   bif (Γ f).bx then wc Γ o f args st K else
   bif (Γ f).pr then afW Γ o f args st K else
   bif (Γ f).io then none
   else aa ((Γ f).fn (args.map λx=>((st.rd x).fresh st).asArg st.ep)) λr=>cond ((Γ f).sel r) (K ((st.fX o.dst).put o.dst (((Γ f).av r).E2 st.ep (st.iL o.dst)))) (K ((st.fX o.dst).put o.dst (((Γ f).alt r).E2 st.ep (st.iL o.dst))))
 |_=>none
def E5 {R:Type}(op:BinOp)(b:Bool)(K:AC->ay R):ay R:=
 match op with
 | .eql=>K (.bool b)
 | .neq=>K (.bool (!b))
 |_=>none
def Cz (o:Oper)(op:BinOp)(T:TypeId)(x y:Operand)(st:AS)(K:AS->ay R):ay R:=
 match st.rd x,st.rd y with
 | .val false [.bool a],.val false [.bool b]=>if E.bool T then Hm op (.one (.bool a)) (.one (.bool b)) λc=>K (st.put o.dst (.one c)) else none
 | .val true xs,.val true ys=>match Sz E.eqs T with
   |some ls=>if fits ls xs then Hm op (.val true xs) (.val true ys) λc=>K (st.put o.dst (.one c)) else none
   |none=>none
 | .val false [.sl fl _ xs],.val false [.kh]=>if(E.sl T).isSome/\fl.live st.ep then(if xs.length=0 then none else E5 op false λc=>K (st.put o.dst (.one c))) else none
 | .val false [.kh],.val false [.kh]=>if(E.sl T).isSome then E5 op true λc=>K (st.put o.dst (.one c)) else none
 |a,b=>Hm op a b λc=>K (st.put o.dst (.one c))
def cW (o:Oper)(st:AS)(K:AS->ay R):ay R:=
 match o.op with
 | .move x=>DW an o x st K
 | .assign x=>if BW an o then Sw o x st K else wb E an o x st K
 | .pick c a b=>Ga o c a b st K
 | .alloc T=>Ea E o T st K
 | .box _ x=>TF o x st K
 | .load T p=>qj E an o T p st K
 | .store T p x=>match o.dst with|none=>(if BW an o then yo E T p x st K else yn E T p x st K)|some _=>none
 | .nilCheck x=>
   match st.rd x with
   | .val false [.ptr s off]=>K (st.put o.dst (.one (.ptr s off)))
   | .val false [.Dc fl e y i off]=>K (st.put o.dst (.one (.Dc fl e y i off)))
   |_=>none
 | .binOp op T x y _=>Cz E o op T x y st K
 | .unOp op _ x=>unC op (st.rd x) λc=>K (st.put o.dst (.one c))
 | .fieldAddr S p f=>BJ E o S p f st K
 | .indexAddr T x i=>np E o T x i st K
 | .index T x i=>Dk E o T x i st K
 | .build T parts=>C9 E o T parts.toList st K
 | .buildSlice T len parts=>mF E o T len parts.toList st K
 | .makeSlice T n c=>pK E o T n c st K
 | .slice T x lo hi none=>Ce E an o T x lo hi st K
 | .field S (.tmp t) f=>GM E o S t f st K
 | .call {callee:=.builtin .copy,args,argTypes}=>RF E o argTypes.toList args.toList st K
 | .convert src dst x=>mI E o src dst x st K
 | .extract (.tmp t) i=>mM o t i st K
 | .call {callee:=.builtin .len,args,argTypes}=>Pt E o argTypes.toList args.toList st K
 | .call {callee:=.builtin .min,args,..}=>Ra o args.toList st K
 | .call {callee:=.builtin .max,args,..}=>Q9 o args.toList st K
 | .call {callee:=.builtin .append,args,argTypes}=>yr E o argTypes.toList args.toList st K
 | .call {callee:=.value f,args,..}=>E4 Γ o f args.toList st K
 |_=>none
def gX (ops:aw Oper)(o:Oper)(st:AS)(K:AS->ay R):ay R:=
 match o.guard with
 |none=>cW E Γ an o st K
 |some (j,IM)=>
  match (nth ops j).bind (·.dst)with
  |some d=>
   match st.get d with
   | .val false [.bool b]=>
     let go (t:Bool):ay R:=
      if t==IM then cW E Γ an o (st.put (some d) (.one (.bool t))) K else K ((st.put (some d) (.one (.bool t))).put o.dst (.one .un))
     cond b (go true) (go false)
   | .val false [.un]=>K (st.put o.dst (.one .un))
   |_=>none
  |none=>none
def U6 (ops:aw Oper):aw Oper->AS->(AS->ay R)->ay R
 |[],st,K=>K st
 |o::r,st,K=>gX E Γ an ops o st λbU=>U6 ops r bU K
def eT:Code->Nat
 | .region id _ _=>id
 | .seq a _=>eT a
 | .block _ c=>eT c
 | .loop c=>eT c
 | .cond _ a b=>match eT a with|0=>eT b|n=>n
 |_=>0
def Fs (c:Code):Nat:=1000000+2*eT c
def lG (l:fE):Code->aw Code
 | .seq a b=>lG l a++(bif l.contains (eT b) then b::lG l b else lG l b)
 | .cond _ a b=>lG l a++lG l b
 | .block _ c=>lG l c
 | .loop c=>lG l c
 |_=>[]
def mJ (l:fE)(fn:Func)(k:Nat):Code:=(nth (lG l (fn.body.getD .skip)) k).getD .skip
def iR:Code->aw Code
 | .seq a b=>iR a++iR b
 | .cond _ a b=>iR a++iR b
 | .block _ c=>iR c
 | .loop c=>c::iR c
 |_=>[]
def bZ (fn:Func)(k:Nat):Code:=(nth (iR (fn.body.getD .skip)) k).getD .skip
def adA (j:Nat):Nat:=3*(4096*1000003+j)
def lh.Gt:lh->ay Nat
 | .slot s j=>bif Nat.ble 4096 j then none else bif Nat.ble 1000000 s then none else some (3*(4096*s+j))
 | .box s j=>bif Nat.ble 4096 j then none else some (3*(4096*s+j)+1)
 | .io j=>bif Nat.ble 4096 j then none else some (adA j)
def AC.ai4 (io:aw AC)(j t:Nat)(e:CT):ay (aw e.D):=
 match nth io j with
 |some (.sl (.own (some t')) e' ys)=>if h:e'=e then bif t'==t then some (h▸ys) else none else none
 |_=>none
def AC.mask (keep:fE)(ep:Nat)(io:aw AC)(rt:lh):AC->AC
 | .ptr s off=>if keep.contains s then .ptr s off else .bot
 | .sl (.loc e pv) t xs=>
   match pv with
   |some (.io j,n)=>match AC.ai4 io j n t with
    |some ys=> .sl (.loc 0 ((lh.Gt (.io j)).map λq=>(.io j,q))) t ys
    |none=>if e==ep then .sl (.loc 0 none) t xs else .bot
   |_=>if e==ep then .sl (.loc 0 none) t xs else .bot
 | .sl (.own _) t xs=> .sl (.own rt.Gt) t xs
 | .sl (.nest ..) _ _=> .bot
 | .sl (.part ..) _ _=> .bot
 | .sl (.fR _ i _) e xs=> .sl (.fR none i none) e xs
 | .Dc _ _ _ _ _=> .bot
 |c=>c
def Lp (keep:fE)(ep:Nat)(io:aw AC)(f:Nat->lh):Nat->aw AC->aw AC
 |_,[]=>[]
 |j,c::cs=>c.mask keep ep io (f j)::Lp keep ep io f (j+1) cs
def AV.mask (keep:fE)(ep:Nat)(io:aw AC)(s:Nat):AV->AV
 | .val g cs=> .val g (Lp keep ep io (.slot s) 0 cs)
 | .xC _=> .bot
def oB (keep:fE)(ep:Nat)(io:aw AC):Nat->aw AV->aw AV
 |_,[]=>[]
 |i,v::r=>(if keep.contains i then v.mask keep ep io i else .bot)::oB keep ep io (i+1) r
def oA (keep:fE)(ep:Nat)(io:aw AC):Nat->aw (ay (aw AC))->aw (ay (aw AC))
 |_,[]=>[]
 |i,b::r=>(if keep.contains i then b.map (Lp keep ep io (.box i) 0) else none)::oA keep ep io (i+1) r
def abR (keep:fE):Nat->aw AC->aw AC
 |_,[]=>[]
 |j,c::cs=>(match c with| .sl (.own _) e xs=> .sl (.own (lh.Gt (.io j))) e xs| .sl (.fR _ i _) e xs=> .sl (.fR none i none) e xs| .ptr s off=>if keep.contains s then .ptr s off else .bot|c=>bif c.jU then c else .bot)::abR keep (j+1) cs
def AS.mask (keep:fE)(st:AS):AS:=
 ⟨oB keep st.ep st.io 0 st.slots,oA keep st.ep st.io 0 st.boxes,0,List.replicate st.slots.length false,abR keep 0 st.io⟩
def getBool (st:AS)(s:Nat):ay Bool:=
 match st.get s with
 | .val false [.bool b]=>some b
 |_=>none
def hH (an:An)(ds:fE)(o:Oper):Bool:=
 match o.op with
 | .assign (.const _)=> !BW an o
 | .assign (.tmp t)=>ds.contains t&& !BW an o
 | .move _| .load ..=>match o.dst with|some d=> !an.mv.contains d|none=>false
 | .slice ..=> !Gy an o
 | .pick ..| .binOp ..| .unOp ..| .fieldAddr ..| .indexAddr ..| .index ..| .nilCheck _=>true
 | .build _ ps=>ps.isEmpty
 | .call {callee:=.builtin .len,..}| .call {callee:=.builtin .min,..}| .call {callee:=.builtin .max,..}=>true
 | .call {callee:=.value _,..}=>true
 |_=>false
def Ib (ops:aw Oper):fE:=ops.filterMap (·.dst)
def AS.CL (st:AS):fE->AS
 |[]=>st
 |d::r=>((st.put (some d) .bot).fX (some d)).CL r
def Hq (ops:aw Oper)(A:aw fE):Nat->aw Oper->AS->(AS->ay R)->ay R
 |_,[],st,K=>K st
 |i,o::r,st,K=>bif dP E an (tZ an A i 0 ops) o st then gX E Γ an ops o st λbU=>Hq ops A (i+1) r bU K else none
def FE (ops:aw Oper)(draw:Bool)(st:AS)(K:AS->ay R):ay R:=
 bif draw then(bif Wr an ops then Hq E Γ.IJ an ops (VW ops []) 0 ops st K else none) else U6 E Γ an ops ops st K
def Vg (id:Nat)(ops:aw Oper)(draw:Bool)(st:AS)(K:AS->ay R):ay R:=
 match an.merge id with
 |none=>FE E Γ an ops draw st K
 |some s=>
  if ops.all (hH an (Ib ops)) then
   aa (FE E Γ.calm an ops draw st λbU=>getBool bU s) λb=>K ((st.CL (Ib ops)).put (some s) (.one (.bool b)))
  else none
def CR (key:fE)(B:AS->(Ex->AS->ay R)->ay R):Nat->AS->(Ex->AS->ay R)->ay R
 |0,_,_=>none
 |m+1,st,K=>B st λe bU=>
  match e with
  | .normal=>CR key B m (bU.mask key) K
  |e=>K e (bU.mask key)
def den (Λ:jZ):Code->AS->(Ex->AS->ay R)->ay R
 | .skip,st,K=>K .normal st
 | .region id ops draw,st,K=>Vg E Γ an id ops.toList draw st (K .normal)
 | .seq a b,st,K=>den Λ a st λe bU=>match e with
   | .normal=>bif an.cut.contains (eT b) then(Λ (Fs b)).go (bU.mask (an.mask (Fs b))) K else den Λ b bU K
   |e=>K e bU
 | .cond c a b,st,K=>
   match st.rd c with
   | .val false [.bool t]=>cond t (den Λ a st K) (den Λ b st K)
   |_=>none
 | .block id c,st,K=>den Λ c st λe bU=>
   match e with
   | .exit j=>if j==id then K .normal bU else K (.exit j) bU
   |e=>K e bU
 | .loop c,st,K=>
   bif an.peel.contains (eT c) then den Λ c (st.mask (an.mask (eT c))) λe bU=>
    match e with
    | .normal=>(Λ (eT c)).go (bU.mask (an.mask (eT c))) K
    |e=>K e (bU.mask (an.mask (eT c)))
   else(Λ (eT c)).go (st.mask (an.mask (eT c))) K
 | .exit id,st,K=>K (.exit id) st
 | .ret,st,K=>K .ret st
 |_,_,_=>none
end
def PX (st:AS)(E:Env):ResultVar->ay ((Bool×Nat)×Bool×aw AC)
 | .tmp t=>match st.get t with| .val g cs=>some ((false,t),g,cs.map AC.strip)|_=>none
 | .cell t T=>match jD E.ty T,st.get t with
   |some sh,.val false [.ptr s off]=>((nth st.boxes s).getD none).bind λcs=>
    if off+sh.ct.size<=cs.length then some ((true,s),sh.agg,((cs.drop off).take sh.ct.size).map AC.strip) else none
   |_,_=>none
def tP (st:AS)(E:Env):aw (Bool×Nat)->aw ResultVar->ay (aw (Bool×aw AC))
 |_,[]=>some []
 |had,r::rs=>(PX st E r).bind λx=>if had.contains x.1 then none else(tP st E (x.1::had) rs).bind λxs=>some (x.2::xs)
def results (E:Env)(rs:aw ResultVar)(st:AS):ay AV:=
 match tP st E [] rs with
 |some [(g,cs)]=>some (.val g cs)
 |some vs=>some (.xC vs)
 |none=>none
def start (fn:Func)(args:aw AV):AS:=⟨args++List.replicate (fn.ntmps-args.length) .bot,List.replicate (args.length+(fn.ntmps-args.length)) none,0,List.replicate fn.ntmps false,[]⟩
abbrev ly:aw (Bool×FT)->Type
 |[]=>Unit
 |[(_,t)]=>t.ct.D
 |(_,t)::r=>t.ct.D×ly r
def mn:(l:aw (Bool×FT))->aw (Bool×aw AC)->ay (ly l)
 |[],[]=>some ()
 |[(g,t)],[(g',cs)]=>bif g==g' then(match NL t cs with|some (x,[])=>some x|_=>none) else none
 |(g,t)::p::r,(g',cs)::vs=>bif g==g' then(match NL t cs with|some (x,[])=>(mn (p::r) vs).bind λy=>some (x,y)|_=>none) else none
 |_,_=>none
def apa:(l:aw (Bool×FT))->ly l->aw (Bool×aw AC)
 |[],_=>[]
 |[(g,t)],x=>[(g,jT t x)]
 |(g,t)::p::r,x=>(g,jT t x.1)::apa (p::r) x.2
def BD (l:aw (Bool×FT))(x:ly l):AV:=
 match apa l x with
 |[(g,cs)]=> .val g cs
 |vs=> .xC vs
def FF (E:Env)(Γ:BA)(an:An)(Λ:jZ)(fn:Func)(rs:aw (Bool×FT))(args:aw AV):ay (ly rs):=
 match fn.body with
 |some c=>if args.length=fn.params.size then den E Γ an Λ c (start fn args) λe st=>
  match e with
  | .exit _=>none
  |_=>aa (tP st E [] fn.results.toList) (mn rs)
  else none
 |none=>none
def evalAlt (E:Env)(Γ:BA)(an:An)(Λ:jZ)(fn:Func)(rs QL:aw (Bool×FT))(h:ly QL=ly rs)(args:aw AV):ay (Bool×ly rs):=
 match fn.body with
 |some c=>if args.length=fn.params.size then den E Γ an Λ c (start fn args) λe st=>
  match e with
  | .exit _=>none
  |_=>aa (tP st E [] fn.results.toList) λys=>
   match mn rs ys with
   |some y=>some (true,y)
   |none=>match mn QL ys with
    |some y=>some (false,cast h y)
    |none=>none
  else none
 |none=>none
def I8:Nat->aw AC->aw AC
 |_,[]=>[]
 |j,.sl (.own _) e xs::cs=> .sl (.own (some (3*j+1))) e xs::I8 (j+1) cs
 |j,c::cs=>c::I8 (j+1) cs
def Cl (fn:Func)(cs:aw AC)(args:aw AV):AS:=
 {start fn (.one (.ptr 0 0)::args)with boxes:=some (I8 0 cs)::List.replicate (args.length+(fn.ntmps-(args.length+1))) none,io:=[.ptr 0 0]}
def adk (E:Env)(Γ:BA)(an:An)(Λ:jZ)(fn:Func)(rs:aw (Bool×FT))(t:FT)(args:aw AV):ay (ly rs×t.ct.D):=
 match fn.body,args with
 |some c,.val true cs::xs=>if xs.length+1=fn.params.size/\cs.all (AC.Ak true)=true then den E Γ an Λ c (Cl fn cs xs) λe st=>
  match e with
  | .exit _=>none
  |_=>aa (aa (tP st E [(true,0)] fn.results.toList) (mn rs)) λr=>
   match st.io,st.boxes with
   |[.ptr 0 0],some rJ::_=>match NL t (rJ.map AC.strip)with
    |some (x,[])=>some (r,x)
    |_=>none
   |_,_=>none
  else none
 |_,_=>none
def Ug (E:Env)(Γ:BA)(an:An)(Λ:jZ)(fn:Func)(t:FT)(args:aw AV):ay t.ct.D:=
 match fn.body with
 |some c=>if args.length=fn.params.size then den E Γ an Λ c (start fn args) λe st=>
  match e with
  | .exit _=>none
  |_=>match fn.results.toList with
   |[.tmp i]=>match st.get i with
    | .val false [.ptr s 0]=>match (nth st.boxes s).getD none with
      |some cs=>if cs.all AC.KO=true then(match NL t (cs.map AC.strip)with|some (x,[])=>some x|_=>none) else none
      |none=>none
    |_=>none
   |_=>none
  else none
 |none=>none
end Go.Dn
