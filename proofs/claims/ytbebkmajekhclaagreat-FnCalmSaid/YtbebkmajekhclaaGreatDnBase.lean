import Derived.Test.YtbebkmajekhclaaGreatDnData
/- An abstract, heap-free semantics of the model's code, for functions that treat their data by value: definitions. -/
namespace Go.Dn
inductive mi where
 |slot (s j:Nat)|box (s j:Nat)|io (j:Nat)
 deriving DecidableEq
inductive sO where
 |own (tag:Option Nat)
 |loc (ep:Nat) (pv:Option (mi×Nat))
 |arg (k:Bool)
 |nest (ep:Nat) (r:mi) (t:Nat) (e:CT) (i:Int) (off:Nat)
 |part (ep:Nat) (r:mi) (t:Nat) (lo:Int)
 |gB (tag:Option Nat) (i:Int) (ep:Option Nat)
inductive AC where
 |int (k:IntKind) (n:Int)|bool (b:Bool)|str (s:List UInt8)
 |sl (fl:sO) (e:CT) (xs:List e.D)
 |kY
 |ptr (s off:Nat)
 |D3 (fl:sO) (e:CT) (x:e.D) (i:Int) (off:Nat)
 |fn (f:Nat)
 |un
 |bot
inductive AV where
 |val (agg:Bool) (cs:List AC)
 |yE (vs:List (Bool×List AC))
abbrev AV.one (c:AC):AV:=.val false [c]
abbrev AV.bot:AV:=.val false [.bot]
structure AS where
 slots:List AV
 boxes:List (Option (List AC))
 ep:Nat
 iss:List Bool
 io:List AC
structure Shape where
 agg:Bool
 ct:CT
 lr:List (Nat×Nat):=[]
structure An where
 mask:Nat->List Nat:=λ_=>[]
 merge:Nat->Option Nat:=λ_=>none
 mv:List Nat:=[]
 nest:List Nat:=[]
 mb:Nat->Option Nat:=λ_=>none
 sb:Nat->Option Nat:=λ_=>none
 late:List Nat:=[]
 peel:List Nat:=[]
 nils:List Nat:=[]
 fm:List Nat:=[]
 eb:Nat->Option Nat:=λ_=>none
 es:Nat->Option Nat:=λ_=>none
 er:Nat->Option Nat:=λ_=>none
 cut:List Nat:=[]
def cellsOf:(t:CT)->sO->t.D->aw AC
 | .int k,_,n=>[.int k n]
 | .bool,_,b=>[.bool b]
 | .str,_,s=>[.str s]
 | .sl e,fl,xs=>[.sl fl e xs]
 | .pair a b,fl,x=>cellsOf a fl x.1++cellsOf b fl x.2
def mW:(t:CT)->aw AC->aB (t.D×aw AC)
 | .int k,.int k' n::r=>if k'=k then some (n,r) else none
 | .bool,.bool b::r=>some (b,r)
 | .str,.str s::r=>some (s,r)
 | .sl e,.sl (.own _) e' xs::r=>if h:e'=e then some (h▸xs,r) else none
 | .sl _,.kY::r=>some ([],r)
 | .pair a b,cs=>(mW a cs).bind λx=>(mW b x.2).bind λy=>some ((x.1,y.1),y.2)
 |_,_=>none
def nth {α:Type}:aw α->Nat->aB α
 |[],_=>none
 |a::_,0=>some a
 |_::l,n+1=>nth l n
def ji {α:Type}:aw α->Nat->α->aw α
 |[],_,_=>[]
 |_::l,0,v=>v::l
 |a::l,n+1,v=>a::ji l n v
def AS.get (st:AS)(i:Nat):AV:=(nth st.slots i).getD .bot
def AS.put (st:AS)(d:aB Nat)(v:AV):AS:=
 match d with
 |some d=>{st with slots:=ji st.slots d v}
 |none=>st
def LI (d j:Nat):Nat:=3*(4096*d+j)+2
def AS.jm (st:AS)(d:aB Nat)(j:Nat):aB Nat:=
 match d with
 |some d=>bif (nth st.iss d).getD true then none else bif Nat.ble 4096 j then none else some (LI d j)
 |none=>none
def AS.gJ (st:AS)(d:aB Nat):AS:=
 match d with
 |some d=>{st with iss:=ji st.iss d true}
 |none=>st
def AS.rQ (st:AS)(d:aB Nat)(e:CT)(xs:aw e.D):AS:=
 (st.gJ d).put d (.one (.sl (.own (st.jm d 0)) e xs))
def AC.borrow (ep:Nat)(rt:aB mi):AC->AC
 | .sl (.own tag) e xs=> .sl (.loc ep (match rt,tag with|some r,some t=>some (r,t)|_,_=>none)) e xs
 | .sl (.gB tag _ (some Qb)) e xs=> .sl (.loc Qb (match rt,tag with|some r,some t=>some (r,t)|_,_=>none)) e xs
 | .sl (.gB _ _ none) _ _=> .bot
 |c=>c
def jz (ep:Nat)(f:Nat->mi):Nat->aw AC->aw AC
 |_,[]=>[]
 |j,c::cs=>c.borrow ep (some (f j))::jz ep f (j+1) cs
def bg (ep:Nat)(cs:aw AC):aw AC:=cs.map (AC.borrow ep none)
def AV.borrow (ep:Nat)(f:Nat->mi):AV->AV
 | .val g cs=> .val g (jz ep f 0 cs)
 | .yE vs=> .yE (vs.map λx=>(x.1,bg ep x.2))
def AV.bg (ep:Nat):AV->AV
 | .val g cs=> .val g (Dn.bg ep cs)
 | .yE vs=> .yE (vs.map λx=>(x.1,Dn.bg ep x.2))
def ofConst:Value->AV
 | .int k n=> .one (.int k n)
 | .bool b=> .one (.bool b)
 | .string s=> .one (.str s.data.toList)
 | .slice none 0 0=> .one .kY
 |_=> .bot
def AS.rd (st:AS):Operand->AV
 | .tmp t=>(st.get t).borrow st.ep (.slot t)
 | .const v=>ofConst v
 | .func f=> .one (.fn f)
 | .global _=> .bot
def AS.take (st:AS):Operand->AV×AS
 | .tmp t=>(st.get t,st.put (some t) ((st.get t).bg st.ep))
 |x=>(st.rd x,st)
def AS.fO (st:AS)(s:Nat)(b:aB (aw AC)):AS:={st with boxes:=ji st.boxes s b}
def AC.asArg (ep:Nat):AC->AC
 | .int k n=> .int k n
 | .bool b=> .bool b
 | .str s=> .str s
 | .sl (.own _) e xs=> .sl (.arg false) e xs
 | .sl (.loc ep' _) e xs=>if ep'==ep then .sl (.arg false) e xs else .bot
 | .sl (.arg _) e xs=> .sl (.arg false) e xs
 | .kY=> .kY
 | .fn f=> .fn f
 |_=> .bot
def AV.asArg (ep:Nat):AV->AV
 | .val g cs=> .val g (cs.map (AC.asArg ep))
 | .yE _=> .bot
def AC.FZ (ep:Nat)(tag:aB Nat):AC->AC
 | .sl (.own _) e xs=> .sl (.own tag) e xs
 | .sl (.arg _) e xs=> .sl (.loc ep none) e xs
 | .sl (.loc _ _) _ _=> .bot
 | .sl (.nest ..) _ _=> .bot
 | .sl (.part ..) _ _=> .bot
 | .sl (.gB _ i _) e xs=> .sl (.gB none i none) e xs
 | .ptr _ _=> .bot
 | .D3 _ _ _ _ _=> .bot
 |c=>c
def Lu (ep:Nat)(mk:Nat->aB Nat):Nat->aw AC->aw AC
 |_,[]=>[]
 |j,c::cs=>c.FZ ep (mk j)::Lu ep mk (j+1) cs
def aee (ep:Nat)(mk:Nat->aB Nat):Nat->aw (Bool×aw AC)->aw (Bool×aw AC)
 |_,[]=>[]
 |j,t::ts=>(t.1,Lu ep mk j t.2)::aee ep mk (j+t.2.length) ts
def AV.FZ (ep:Nat)(mk:Nat->aB Nat):AV->AV
 | .val g cs=> .val g (Lu ep mk 0 cs)
 | .yE vs=> .yE (aee ep mk 0 vs)
def AC.Ka:AC->Bool
 | .sl (.arg _) _ _=>true
 | .int ..=>true
 | .bool _=>true
 | .str _=>true
 | .fn _=>true
 |_=>false
structure lK where
 R:Type
 fn:List AV->Option R
 av:R->AV
 io:Bool:=false
 back:R->List AC:=λ_=>[]
 bx:Bool:=false
 pr:Bool:=false
 sel:R->Bool:=λ_=>true
 alt:R->AV:=λ_=> .val false [.bot]
 cur:Bool:=false
 hcur:cur=true->∀y,(back y).all AC.Ka=true:=by intro h;cases h
def lK.res (F:lK)(y:F.R):AV:=cond (F.sel y) (F.av y) (F.alt y)
abbrev Cn:=Nat->lK
def lK.dead:lK:={R:=Unit,fn:=λ_=>none,av:=λ_=> .val false [.bot]}
def Cn.calm (Γ:Cn):Cn:=λf=>bif (Γ f).io||(Γ f).bx||(Γ f).pr then lK.dead else Γ f
def Cn.JV (Γ:Cn):Cn:=λf=>bif (Γ f).io||(Γ f).pr||((Γ f).bx&& !(Γ f).cur) then lK.dead else Γ f
def K2 {R:Type}(op:BinOp)(k:IntKind)(x y:Int)(K:AC->aB R):aB R:=
 match op with
 | .add=>K (.int k (k.wrap (x+y)))
 | .sub=>K (.int k (k.wrap (x-y)))
 | .mul=>K (.int k (k.wrap (x*y)))
 | .quo=>if y=0 then none else K (.int k (k.wrap (x.tdiv y)))
 | .rem=>if y=0 then none else K (.int k (x.tmod y))
 | .and=>K (.int k (k.wrap (BitVec.ofInt k.bits x&&&BitVec.ofInt k.bits y).toNat))
 | .or=>K (.int k (k.wrap (BitVec.ofInt k.bits x|||BitVec.ofInt k.bits y).toNat))
 | .xor=>K (.int k (k.wrap (BitVec.ofInt k.bits x^^^BitVec.ofInt k.bits y).toNat))
 | .andNot=>K (.int k (k.wrap (BitVec.ofInt k.bits x&&&~~~ BitVec.ofInt k.bits y).toNat))
 | .eql=>K (.bool (x==y))
 | .neq=>K (.bool (x !=y))
 | .lss=>K (.bool (decide (x<y)))
 | .leq=>K (.bool (decide (x<=y)))
 | .gtr=>K (.bool (decide (x>y)))
 | .geq=>K (.bool (decide (x>=y)))
 |_=>none
def Oi {R:Type}(op:BinOp)(x y:aw UInt8)(K:AC->aB R):aB R:=
 match op with
 | .add=>room (x.length+y.length) (K (.str (x++y)))
 | .eql=>K (.bool (x==y))
 | .neq=>K (.bool (!(x==y)))
 | .lss=>K (.bool (Op.bytesLess x y))
 | .leq=>K (.bool (Op.bytesLess x y||x==y))
 | .gtr=>K (.bool (!(Op.bytesLess x y||x==y)))
 | .geq=>K (.bool (!(Op.bytesLess x y)))
 |_=>none
def xv:aw AC->aw AC->aB Bool
 |[],[]=>some true
 | .int k x::r,.int k' y::r'=>if k=k' then(xv r r').bind λb=>some ((x==y)&&b) else none
 | .bool x::r,.bool y::r'=>(xv r r').bind λb=>some ((x==y)&&b)
 | .str x::r,.str y::r'=>(xv r r').bind λb=>some ((x==y)&&b)
 |_,_=>none
def Iq {R:Type}(op:BinOp)(x y:AV)(K:AC->aB R):aB R:=
 match x,y with
 | .val false [.int k a],.val false [.int k' b]=>
   match op with
   | .shl=>if b<0 then none else K (.int k (k.wrap (a*2^(min b.toNat k.bits))))
   | .shr=>if b<0 then none else K (.int k (a.fdiv (2^(min b.toNat k.bits))))
   |_=>if k=k' then K2 op k a b K else none
 | .val false [.str a],.val false [.str b]=>Oi op a b K
 | .val false [.bool a],.val false [.bool b]=>
   match op with
   | .eql=>K (.bool (a==b))
   | .neq=>K (.bool (!(a==b)))
   |_=>none
 | .val true xs,.val true ys=>
   match op with
   | .eql=>aa (xv xs ys) λb=>K (.bool b)
   | .neq=>aa (xv xs ys) λb=>K (.bool (!b))
   |_=>none
 |_,_=>none
def unC {R:Type}(op:UnOp)(x:AV)(K:AC->aB R):aB R:=
 match op,x with
 | .not,.val false [.bool b]=>K (.bool (!b))
 | .neg,.val false [.int k n]=>K (.int k (k.wrap (0-n)))
 | .xor,.val false [.int k n]=>K2 .xor k (if k.signed then-1 else k.max) n K
 |_,_=>none
def fu (cs:aw AC)(off:Nat)(vs:aw AC):aw AC:=cs.take off++vs++cs.drop (off+vs.length)
def AS.ga (st:AS):mi->aB AC
 | .slot s j=>match st.get s with| .val _ cs=>nth cs j|_=>none
 | .box s j=>((nth st.boxes s).getD none).bind λcs=>nth cs j
 | .io j=>nth st.io j
def AS.gq (st:AS)(r:mi)(c:AC):AS:=
 match r with
 | .slot s j=>match st.get s with| .val g cs=>st.put (some s) (.val g (ji cs j c))|_=>st
 | .box s j=>match (nth st.boxes s).getD none with|some cs=>st.fO s (some (ji cs j c))|none=>st
 | .io j=>{st with io:=ji st.io j c}
def AS.fresh (st:AS):AC->AC
 | .sl (.loc ep (some (r,t))) e xs=>
   bif ep==st.ep then .sl (.loc ep (some (r,t))) e xs else
    match st.ga r with
    |some (.sl (.own (some t')) e' ys)=>if h:e'=e then bif t'==t then .sl (.loc st.ep (some (r,t))) e (h▸ys) else .sl (.loc ep (some (r,t))) e xs else .sl (.loc ep (some (r,t))) e xs
    |_=> .sl (.loc ep (some (r,t))) e xs
 |c=>c
def AV.fresh (st:AS):AV->AV
 | .val g cs=> .val g (cs.map st.fresh)
 | .yE vs=> .yE vs
def AC.now (ep:Nat):AC->Bool
 | .sl (.loc ep' (some _)) _ _=>ep'==ep
 |_=>true
def AS.rr {R:Type}(st:AS)(r:mi)(t:Nat)(e:CT)(i:Int)(off:Nat)(vs:aw AC)(K:AS->aB R):aB R:=
 match st.ga r with
 |some (.sl (.own (some t')) e' xs)=>
  if h:e'=e then
   if t'=t then
    aa (idx (h▸xs:aw e.D) i) λx=>
     match mW e (fu (cellsOf e (.own none) x) off vs)with
     |some (x',[])=>K {st.gq r (.sl (.own (some t')) e ((h▸xs:aw e.D).set i.toNat x'))with ep:=st.ep+1}
     |_=>none
   else none
  else none
 |some (.sl (.gB (some t') i' _) e' xs)=>
  if h:e'=e then
   if t'=t/\off=0 then
    aa (ag8 (h▸xs:aw e.D) i' i) λ_=>
     match mW e vs with
     |some (x',[])=>K {st.gq r (.sl (.own (some t')) e ((h▸xs:aw e.D).set i.toNat x'))with ep:=st.ep+1}
     |_=>none
   else none
  else none
 |_=>none
def AV.cells:AV->aw AC
 | .val _ cs=>cs
 | .yE _=>[.bot]
def gb (st:AS):aw Operand->aw AV×AS
 |[]=>([],st)
 |x::xs=>let (v,st1):=st.take x;let (vs,st2):=gb st1 xs;(v::vs,st2)
def EJ (e:CT):aw (aw AC)->aB (aw e.D)
 |[]=>some []
 |cs::r=>match mW e cs with
  |some (x,[])=>(EJ e r).bind λxs=>some (x::xs)
  |_=>none
def K0:Nat->aw (Nat×Operand)->Bool
 |_,[]=>true
 |n,(i,_)::r=>i==n&&K0 (n+1) r
def AC.Lz:AC->Bool
 | .bot=>false
 | .un=>false
 |_=>true
def yN (lr:aw (Nat×Nat))(zero:aw AC):aw (Nat×aw AC)->aB (aw AC)
 |[]=>some zero
 |(i,cs)::r=>match nth lr i with
  |some (off,n)=>if cs.length=n/\off+n<=zero.length/\cs.all AC.Lz then yN lr (fu zero off cs) r else none
  |none=>none
inductive LK where
 |int|bool|str
 deriving DecidableEq
structure Env where
 ty:List (Nat×Shape)
 eqs:List (Nat×List LK):=[]
 fts:List ((Nat×Nat)×Nat):=[]
def UJ (l:aw (Nat×aw LK))(t:Nat):aB (aw LK):=
 match l with
 |[]=>none
 |(u,sh)::r=>bif u==t then some sh else UJ r t
def fits:aw LK->aw AC->Bool
 |[],[]=>true
 | .int::ls,.int _ _::r=>fits ls r
 | .bool::ls,.bool _::r=>fits ls r
 | .str::ls,.str _::r=>fits ls r
 |_,_=>false
def aac (l:aw ((Nat×Nat)×Nat))(S f:Nat):aB Nat:=
 match l with
 |[]=>none
 |((u,k),T)::r=>bif u==S&&k==f then some T else aac r S f
def ko (l:aw (Nat×Shape))(t:Nat):aB Shape:=
 match l with
 |[]=>none
 |(u,sh)::r=>bif u==t then some sh else ko r t
def Env.sl (E:Env)(t:Nat):aB CT:=
 match ko E.ty t with
 |some ⟨false,.sl e,_⟩=>some e
 |_=>none
def Env.str (E:Env)(t:Nat):Bool:=
 match ko E.ty t with
 |some ⟨false,.str,_⟩=>true
 |_=>false
def Env.bool (E:Env)(t:Nat):Bool:=
 match ko E.ty t with
 |some ⟨false,.bool,_⟩=>true
 |_=>false
def Env.bytes (E:Env)(t:Nat):Bool:=
 match ko E.ty t with
 |some ⟨false,.sl (.int .u8),[(te,_)]⟩=>match ko E.ty te with|some ⟨false,.int .u8,_⟩=>true|_=>false
 |_=>false
def sO.live (ep:Nat):sO->Bool
 | .loc ep' _=>ep'==ep
 | .arg _=>true
 | .own _=>false
 | .nest ..=>false
 | .part ..=>false
 | .gB ..=>false
def sO.ov (ep:Nat)(flat:Bool):sO->Bool
 | .loc ep' _=>ep'==ep&&flat
 | .arg _=>flat
 | .own _=>true
 | .nest ..=>false
 | .part ..=>false
 | .gB ..=>false
def sO.bare:sO->sO
 | .loc ep _=> .loc ep none
 |f=>f
def AC.kL:AC->Bool
 | .int _ _=>true
 | .bool _=>true
 | .str _=>true
 | .fn _=>true
 |_=>false
def tm:Operand->fM
 | .tmp t=>[t]
 |_=>[]
def TE (l:aw Operand):fM:=l.flatMap tm
def Hy (an:An)(o:Oper):Bool:=
 match o.dst with
 |some d=>an.mv.contains d&&(an.mb d).isNone
 |none=>false
def as6 (an:An)(o:Oper):Bool:=
 match o.dst with
 |some d=>an.nils.contains d
 |none=>false
def CL (an:An)(o:Oper):Bool:=
 match o.op with
 | .assign (.tmp s)=>an.late.contains s
 | .store _ _ (.tmp s)=>an.late.contains s
 |_=>false
def tmO:aB Operand->fM
 |some x=>tm x
 |none=>[]
def eI (o:Oper):fM:=
 match o.op with
 | .move x=>tm x
 | .assign x=>tm x
 | .pick c a b=>tm c++tm a++tm b
 | .box _ x=>tm x
 | .load _ p=>tm p
 | .store _ p x=>tm p++tm x
 | .nilCheck x=>tm x
 | .binOp _ _ x y _=>tm x++tm y
 | .unOp _ _ x=>tm x
 | .fieldAddr _ p _=>tm p
 | .indexAddr _ x i=>tm x++tm i
 | .index _ x i=>tm x++tm i
 | .build _ parts=>TE (parts.toList.map (·.2))
 | .buildSlice _ _ parts=>TE (parts.toList.map (·.2))
 | .makeSlice _ n c=>tm n++tm c
 | .slice _ x lo hi none=>tm x++tmO lo++tmO hi
 | .convert _ _ x=>tm x
 | .extract (.tmp t) _=>[t]
 | .call {callee:=.builtin _,args,..}=>TE args.toList
 | .call {callee:=.value f,args,..}=>tm f++TE args.toList
 |_=>[]
def Hw (an:An)(o:Oper):Bool:=
 match o.op with
 | .move _=>match o.dst with|some d=>an.mv.contains d|none=>false
 | .assign _=>true
 | .box ..=>true
 | .build ..=>true
 | .buildSlice ..=>true
 | .store ..=>true
 | .extract ..=>match o.dst with|some d=>an.mv.contains d|none=>false
 | .call {callee:=.builtin .append,..}=>true
 |_=>false
def Hu (an:An)(o:Oper):Bool:=
 match o.op,o.dst,o.guard with
 | .load _ (.tmp q),some d,none=>an.mv.contains d&&(an.mb d).isNone&&(an.eb q).isSome
 |_,_,_=>false
def DK (an:An)(o:Oper):Bool:=
 match o.op,o.dst,o.guard with
 | .load _ (.tmp q),some d,none=> !an.mv.contains d&& !an.fm.contains d&&(an.sb q).isSome
 |_,_,_=>false
def HB (an:An)(o:Oper):fM:=
 match o.op with
 | .alloc _=>o.dst.toList
 | .box ..=>o.dst.toList
 | .load _ p=>match o.dst with|some d=>bif an.mv.contains d then(an.mb d).toList++(bif Hu an o then(match p with| .tmp q=>(an.eb q).toList|_=>[]) else []) else []|none=>[]
 | .store _ (.tmp p) _=>(an.sb p).toList
 | .call {callee:=.value _,args,..}=>(match args.toList with| .tmp q::_=>(an.sb q).toList|_=>[])
 |_=>[]
def pF (an:An)(o:Oper):Bool:=
 match o.op with
 | .move _=>true
 | .load ..=>(match o.dst with|some d=> !an.mv.contains d||(an.mb d).isSome|none=>false)||Hu an o
 | .extract (.tmp _) _=>true
 | .store _ (.tmp p) _=>(an.sb p).isSome&& !CL an o
 | .assign _=> !CL an o
 | .pick ..| .alloc _| .box ..| .nilCheck _| .binOp ..| .unOp ..| .fieldAddr ..| .indexAddr ..| .index ..| .build ..| .buildSlice ..| .makeSlice ..| .convert ..=>true
 | .slice _ _ _ _ none=> !Hy an o
 | .call {callee:=.builtin .len,..}| .call {callee:=.builtin .min,..}| .call {callee:=.builtin .max,..}| .call {callee:=.builtin .append,..}=>true
 | .call {callee:=.value _,..}=>true
 |_=>false
def writes (an:An)(o:Oper):fM:=o.dst.toList++(bif Hw an o then eI o else [])
def AV.now (ep:Nat):AV->Bool
 | .val _ cs=>cs.all (AC.now ep)
 | .yE _=>true
def AC.mQ:AC->Bool
 | .int ..=>true
 | .bool _=>true
 | .str _=>true
 | .fn _=>true
 | .ptr ..=>true
 |_=>false
def AV.mQ:AV->Bool
 | .val _ cs=>cs.all AC.mQ
 | .yE _=>false
def GH (E:Env)(T:TypeId)(st:AS)(s off:Nat):Bool:=
 match ko E.ty T,(nth st.boxes s).getD none with
 |some sh,some cs=>((cs.drop off).take sh.ct.size).all AC.mQ
 |_,_=>false
def fmB (an:An)(o:Oper):Bool:=match o.dst with|some d=>an.fm.contains d|none=>false
def Ek (an:An)(o:Oper):Bool:=
 match o.op,o.dst,o.guard with
 | .load _ (.tmp _),some d,none=>an.mv.contains d&&(an.mb d).isSome
 |_,_,_=>false
def Qm (an:An)(o:Oper):Bool:=
 match o.op,o.dst,o.guard with
 | .load _ (.tmp _),some d,none=> !an.mv.contains d&&an.fm.contains d
 |_,_,_=>false
def erS (an:An)(o:Oper):fM:=
 match o.op,o.dst with
 | .load ..,some d=>(an.er d).toList
 | .call {callee:=.value _,..},some d=>(an.er d).toList
 |_,_=>[]
def AC.al1 (l:fM):AC->Bool
 | .sl (.loc _ (some (.slot b _,_))) _ _=>l.contains b
 | .sl (.loc _ _) _ _=>false
 |_=>true
def Lw (l:fM)(st:AS):Operand->Bool
 | .tmp t=>(match st.get t with| .val _ cs=>cs.all (AC.al1 l)| .yE _=>true)
 |_=>true
def ajB (an:An)(X l:fM)(st:AS)(xs:aw Operand)(q:Nat):AV->Bool
 | .val false [.ptr s _]=> !X.contains s&&an.sb q==some s&&(match (nth st.boxes s).getD none with|some cs=>cs.all AC.Ka|none=>true)&&xs.all (Lw l st)
 |_=>true
def AV.afD:AV->Bool
 | .val false [.ptr _ _]=>false
 |_=>true
def vR (an:An)(X l:fM)(st:AS):aw Operand->Bool
 | .tmp q::xs=>ajB an X l st xs q (st.rd (.tmp q))
 |x::_=>(st.rd x).afD
 |[]=>true
def ei (E:Env)(an:An)(X:fM)(o:Oper)(st:AS):Bool:=
 match o.op with
 | .move x=> !fmB an o||(st.rd x).mQ
 | .indexAddr _ x _=>(st.rd x).now st.ep||(match st.rd x with| .val _ [.sl (.loc _ (some (.box b _,_))) _ _]=> !X.contains b|_=>false)
 | .slice _ x _ _ none=>(st.rd x).now st.ep
 | .call {callee:=.value _,args,..}=>vR an X (erS an o) st args.toList&&args.toList.all λx=>(st.rd x).now st.ep
 | .load T p=>match st.rd p with
   | .val false [.ptr s off]=> !X.contains s&&(match o.dst with|some d=> !an.mv.contains d||an.mb d==some s|none=>true)&&(!fmB an o||GH E T st s off)
   | .val false [.D3 fl _ _ _ _]=>(fl.live st.ep||(match fl with
     | .loc _ (some (.slot b _,_))=>(erS an o).contains b
     | .loc _ (some (.box b _,_))=> !X.contains b
     |_=>false))&& !(fmB an o||Ek an o)&& !DK an o&&(!Hu an o||(match p,fl with
     | .tmp q,.loc _ (some (.box b _,_))=>an.eb q==some b&& !X.contains b
     |_,_=>false))
   |_=> !(fmB an o||Ek an o)
 | .store _ (.tmp p) _=>((an.sb p).isNone&&(an.eb p).isNone&&(an.es p).isNone)||(match st.rd (.tmp p)with
   | .val false [.ptr s _]=> !X.contains s&&an.sb p==some s
   | .val false [.D3 (.loc _ (some (.box b _,_))) _ _ _ _]=>an.eb p==some b&&(an.sb p).isNone&&(an.es p).isNone
   | .val false [.D3 (.loc _ (some (.slot b _,_))) _ _ _ _]=>an.es p==some b&&(an.sb p).isNone&&(an.eb p).isNone
   |_=>false)
 | .extract (.tmp t) i=>match st.get t with
   | .yE vs=>match nth vs i with|some x=>x.2.all AC.kL||(match o.dst with|some d=>an.mv.contains d|none=>false)|none=>true
   |_=>true
 |_=>true
def GM (an:An)(ops:aw Oper)(o:Oper):fM:=
 (match o.guard with
 |some (j,_)=>((nth ops j).bind (·.dst)).toList
 |none=>[])++erS an o
def meets (a b:fM):Bool:=a.any λx=>b.contains x
def abF (an:An)(ops:aw Oper)(X Y:fM)(o p:Oper):Bool:=
 pF an o&&pF an p&& !meets (writes an o) (eI p++GM an ops p++writes an p)&& !meets (writes an p) (eI o++GM an ops o)&&
 (HB an o).all (λd=>Y.contains d)&&(HB an p).all (λd=>X.contains d)&& !meets (HB an o) (p.dst.toList++HB an p)&& !meets (HB an p) o.dst.toList
def acK (o p:Oper):Bool:=
 match o.op,p.op,o.dst,p.dst,o.guard,p.guard with
 | .extract (.tmp t) i,.extract (.tmp t') j,some d,some d',none,none=>t==t'&& !(i==j)&& !(d==d')&& !(d==t)&& !(d'==t)
 |_,_,_,_,_,_=>false
def acI (an:An)(o p:Oper):Bool:=
 match p.op,p.dst,p.guard with
 | .store _ (.tmp q) (.tmp x),none,none=>((an.eb q).isSome&&(an.es q).isNone||(match an.es q with|some b=>(an.eb q).isNone&& !(b==x)&& !(b==q)&& !meets [b] (o.dst.toList++eI o)|none=>false))&&(an.sb q).isNone&& !CL an p&&(match o.op,o.dst,o.guard with
   | .move (.tmp t),some d,none=> !an.mv.contains d&&an.fm.contains d&& !(d==q)&& !(d==x)&& !(t==x)&& !(t==q)&& !(d==t)
   | .extract (.tmp t) _,some d,none=> !(d==q)&& !(d==x)&& !(t==x)&& !(t==q)&& !(d==t)
   |_,_,_=>false)
 |_,_,_=>false
def adD (an:An)(o p:Oper):Bool:=
 (Ek an o&&Qm an p||Qm an o&&Ek an p)&& !meets o.dst.toList (p.dst.toList++eI p)&& !meets p.dst.toList (eI o)
def abT (an:An)(o p:Oper):Bool:=DK an o&&Hu an p&& !meets o.dst.toList (p.dst.toList++eI p)&& !meets p.dst.toList (eI o)
def alL (an:An)(o p:Oper):Bool:=acK o p||acI an o p||adD an o p||abT an o p
def PC (an:An)(ops:aw Oper)(X Y:fM)(o p:Oper):Bool:=alL an o p||abF an ops X Y o p
def DL (o:Oper):fM:=(o.after.toList.filter (λe=>Region.binds .any e)).map (·.on)
def XS (a b:fM):fM:=a.foldl (λs x=>bif s.contains x then s else x::s) b
def X5:aw Oper->aw fM->aw fM
 |[],acc=>acc
 |o::r,acc=>X5 r (acc++[(DL o).foldl (λs j=>XS (j::(nth acc j).getD []) s) []])
def ah7 (A:aw fM)(i k:Nat):Bool:=((nth A i).getD []).contains k
def aeQ (an:An)(A:aw fM)(i:Nat)(fl pl:Bool):Nat->aw Oper->fM
 |_,[]=>[]
 |k,o::r=>(bif !ah7 A i k&& !ah7 A k i&& !(k==i)&& !(fl&&Ek an o)&& !(pl&&Hu an o) then HB an o else [])++aeQ an A i fl pl (k+1) r
def vd (an:An)(A:aw fM)(i k:Nat)(ops:aw Oper):fM:=aeQ an A i (match nth ops i with|some o=>Qm an o|none=>false) (match nth ops i with|some o=>DK an o|none=>false) k ops
def Rz (an:An)(ops:aw Oper)(A:aw fM)(i:Nat)(oi:Oper):Nat->aw Oper->Bool
 |_,[]=>true
 |j,oj::r=>bif Nat.ble i j then true else(ah7 A i j||PC an ops (vd an A j 0 ops) (vd an A i 0 ops) oj oi)&&Rz an ops A i oi (j+1) r
def Xm (an:An)(ops:aw Oper)(A:aw fM):Nat->aw Oper->Bool
 |_,[]=>true
 |i,oi::r=>(DL oi).all (λk=>Nat.blt k i)&&Rz an ops A i oi 0 ops&&Xm an ops A (i+1) r
def Yt (an:An)(ops:aw Oper):Bool:=Xm an ops (X5 ops []) 0 ops
inductive Ex where
 |normal|ret|exit (id:Nat)
inductive FK where
 |own (tag:Option Nat)|arg|Bp|loc|lio (j t:Nat)|nil
def FK.flag:FK->sO
 | .own t=> .own t
 | .arg=> .arg false
 | .Bp=> .arg true
 | .loc=> .loc 0 none
 | .lio j t=> .loc 0 (some (.io j,t))
 | .nil=> .arg false
def FK.isNil:FK->Bool
 | .nil=>true
 |_=>false
inductive FT where
 |int (k:IntKind)|bool|str|sl (fl:FK) (e:CT)|pair (a b:FT)
abbrev FT.ct:FT->CT
 | .int k=> .int k
 | .bool=> .bool
 | .str=> .str
 | .sl _ e=> .sl e
 | .pair a b=> .pair a.ct b.ct
def kI:(t:FT)->t.ct.D->aw AC
 | .int k,n=>[.int k n]
 | .bool,b=>[.bool b]
 | .str,s=>[.str s]
 | .sl fl e,xs=>[bif fl.isNil then .kY else .sl fl.flag e xs]
 | .pair a b,x=>kI a x.1++kI b x.2
def FK.fits:FK->sO->Bool
 | .own t,.own t'=>t==t'
 | .arg,.arg k=> !k
 | .Bp,.arg k=>k
 | .loc,.loc 0 none=>true
 | .lio j t,.loc 0 (some (.io j',t'))=>j==j'&&t==t'
 |_,_=>false
def Pg:(t:FT)->aw AC->aB (t.ct.D×aw AC)
 | .int k,.int k' n::r=>if k'=k then some (n,r) else none
 | .bool,.bool b::r=>some (b,r)
 | .str,.str s::r=>some (s,r)
 | .sl fl e,.sl fl' e' xs::r=>if h:e'=e then bif fl.fits fl' then some (h▸xs,r) else none else none
 | .sl fl _,.kY::r=>bif fl.isNil then some ([],r) else none
 | .pair a b,cs=>(Pg a cs).bind λx=>(Pg b x.2).bind λy=>some ((x.1,y.1),y.2)
 |_,_=>none
inductive PD where
 |bot|ptr (s off:Nat)|fn (f:Nat)|data (g:Bool) (t:FT)
inductive IoD where
 |none|some (t:FT)|ptr
structure SD where
 slots:List PD
 boxes:List (Option FT)
 io:IoD:=.none
abbrev Nc:aw PD->Type
 |[]=>Unit
 | .data _ t::r=>t.ct.D×Nc r
 |_::r=>Nc r
abbrev L8:aw (aB FT)->Type
 |[]=>Unit
 |some t::r=>t.ct.D×L8 r
 |none::r=>L8 r
abbrev ioD:IoD->Type
 | .none=>Unit
 | .some t=>t.ct.D
 | .ptr=>Unit
abbrev SD.D (d:SD):Type:=Nc d.slots×L8 d.boxes×ioD d.io
def vh:(l:aw PD)->Nc l->aw AV
 |[],_=>[]
 | .data g t::r,x=> .val g (kI t x.1)::vh r x.2
 | .bot::r,x=> .bot::vh r x
 | .ptr s off::r,x=> .one (.ptr s off)::vh r x
 | .fn f::r,x=> .one (.fn f)::vh r x
def Et:(l:aw (aB FT))->L8 l->aw (aB (aw AC))
 |[],_=>[]
 |some t::r,x=>some (kI t x.1)::Et r x.2
 |none::r,x=>none::Et r x
def akc:(o:IoD)->ioD o->aw AC
 | .none,_=>[]
 | .some t,x=>kI t x
 | .ptr,_=>[.ptr 0 0]
def SD.enc (d:SD)(x:d.D):AS:=⟨vh d.slots x.1,Et d.boxes x.2.1,0,List.replicate d.slots.length false,akc d.io x.2.2⟩
def AV.afu:AV->Bool
 | .val false [.bot]=>true
 |_=>false
def AV.afv (s off:Nat):AV->Bool
 | .val false [.ptr s' axW]=>s==s'&&off==axW
 |_=>false
def AV.ahA (f:Nat):AV->Bool
 | .val false [.fn f']=>f==f'
 |_=>false
def lC:(l:aw PD)->aw AV->aB (Nc l)
 |[],[]=>some ()
 | .data g t::r,.val g' cs::vs=>bif g==g' then(match Pg t cs with|some (x,[])=>(lC r vs).bind λy=>some (x,y)|_=>none) else none
 | .bot::r,v::vs=>bif v.afu then lC r vs else none
 | .ptr s off::r,v::vs=>bif v.afv s off then lC r vs else none
 | .fn f::r,v::vs=>bif v.ahA f then lC r vs else none
 |_,_=>none
def sV:(l:aw (aB FT))->aw (aB (aw AC))->aB (L8 l)
 |[],[]=>some ()
 |some t::r,some cs::bs=>match Pg t cs with|some (x,[])=>(sV r bs).bind λy=>some (x,y)|_=>none
 |none::r,none::bs=>sV r bs
 |_,_=>none
def adu:aw AC->Bool
 |[.ptr 0 0]=>true
 |_=>false
def Yq:(o:IoD)->aw AC->aB (ioD o)
 | .none,[]=>some ()
 | .some t,cs=>match Pg t cs with|some (x,[])=>some x|_=>none
 | .ptr,cs=>bif adu cs then some () else none
 |_,_=>none
def SD.dec (d:SD)(st:AS):aB d.D:=
 bif st.ep==0&&st.iss==List.replicate d.slots.length false then
  (lC d.slots st.slots).bind λx=>(sV d.boxes st.boxes).bind λy=>(Yq d.io st.io).bind λz=>some (x,y,z)
 else none
structure L3 where
 sd:SD
 run:{R:Type}->sd.D->(Ex->AS->Option R)->Option R
abbrev mc:=Nat->L3
def L3.go {R:Type}(l:L3)(st:AS)(K:Ex->AS->aB R):aB R:=aa (l.sd.dec st) λx=>l.run x K
def L3.none:L3:=⟨⟨[],[],.none⟩,λ_ _=>Option.none⟩
def mc.nil:mc:=λ_=>L3.none
def mc.add (Λ:mc)(k:Nat)(l:L3):mc:=λj=>bif j==k then l else Λ j
section
variable {R:Type} (E:Env) (Γ:Cn) (an:An)
def EM (o:Oper)(x:Operand)(st:AS)(K:AS->aB R):aB R:=
 match o.dst with
 |some d=>if an.mv.contains d then K ((st.take x).2.put o.dst (st.take x).1) else K (st.put o.dst (st.rd x))
 |none=>none
def xr (o:Oper)(x:Operand)(st:AS)(K:AS->aB R):aB R:=
 match st.take x with
 |(.val false [.kY],_)=>match E.sl o.type with
  |some e=>K (st.put o.dst (.one (bif as6 an o then .kY else .sl (.own none) e [])))
  |none=>none
 |(v,cj)=>K (cj.put o.dst v)
def Hd (o:Oper)(c a b:Operand)(st:AS)(K:AS->aB R):aB R:=
 match st.rd c with
 | .val false [.bool t]=>match st.rd a,st.rd b with
   | .val false [.bool x],.val false [.bool y]=>K (st.put o.dst (.one (.bool (cond t x y))))
   |va,vb=>cond t (K (st.put o.dst va)) (K (st.put o.dst vb))
 |_=>none
def E2 (o:Oper)(T:TypeId)(st:AS)(K:AS->aB R):aB R:=
 match o.dst,ko E.ty T with
 |some d,some sh=>match nth st.boxes d with
  |some none=>K ((st.fO d (some (cellsOf sh.ct (.own none) sh.ct.zero))).put o.dst (.one (.ptr d 0)))
  |_=>none
 |_,_=>none
def VR (o:Oper)(x:Operand)(st:AS)(K:AS->aB R):aB R:=
 match o.dst,st.take x with
 |some d,(.val _ cs,cj)=>
  match nth cj.boxes d with
  |some none=>if cs.all AC.Lz then K ((cj.fO d (some cs)).put o.dst (.one (.ptr d 0))) else none
  |_=>none
 |_,_=>none
def Xg (ep:Nat)(r:mi)(t:Nat)(e:CT)(i:Int):Nat->aw AC->aw AC
 |_,[]=>[]
 |p,.sl _ e' xs::cs=> .sl (.nest ep r t e i p) e' xs::Xg ep r t e i (p+1) cs
 |p,c::cs=>c::Xg ep r t e i (p+1) cs
def alv (o:Oper)(ep:Nat)(fl:sO)(e:CT)(i:Int)(off:Nat)(cs:aw AC):aw AC:=
 match fl,o.dst with
 | .loc _ (some (r,t)),some d=>bif an.nest.contains d then Xg ep r t e i off cs else cs
 |_,_=>cs
def FD (o:Oper)(sh:Shape)(fl:sO)(e:CT)(i:Int)(off:Nat)(st:AS)(K:AS->aB R):aB R:=
 match fl with
 | .loc _ (some (r,t))=>
   match st.ga r with
   |some (.sl (.own (some t')) e' ys)=>
    if h:e'=e then
     if t'=t/\off+sh.ct.size<=e.size then
      aa (idx (h▸ys:aw e.D) i) λy=>K (st.put o.dst (.val sh.agg (((cellsOf e (.loc st.ep none) y).drop off).take sh.ct.size)))
     else none
    else none
   |_=>none
 |_=>none
def AK (o:Oper)(sh:Shape)(fl:sO)(e:CT)(i:Int)(off:Nat)(st:AS)(K:AS->aB R):aB R:=
 match fl with
 | .loc _ (some (r,t))=>
   match st.ga r with
   |some (.sl (.own (some t')) e' ys)=>
    if h:e'=e then
     if t'=t/\off=0/\sh.ct=e then
      aa (idx (h▸ys:aw e.D) i) λy=>K ((st.gq r (.sl (.gB (some t) i (some st.ep)) e (h▸ys))).put o.dst (.val sh.agg (cellsOf e (.own none) y)))
     else none
    else none
   |_=>none
 |_=>none
def rf (o:Oper)(T:TypeId)(p:Operand)(st:AS)(K:AS->aB R):aB R:=
 match ko E.ty T,st.rd p with
 |some sh,.val false [.ptr s off]=>
  match (nth st.boxes s).getD none with
  |some cs=>
   if off+sh.ct.size<=cs.length then
    match o.dst with
    |some d=>
     if an.mv.contains d then
      K ((st.fO s (some (fu cs off (bg st.ep ((cs.drop off).take sh.ct.size))))).put o.dst (.val sh.agg ((cs.drop off).take sh.ct.size)))
     else K (st.put o.dst (.val sh.agg (jz st.ep (.box s) off ((cs.drop off).take sh.ct.size))))
    |none=>none
   else none
  |none=>none
 |some sh,.val false [.D3 fl e x i off]=>
  if Hy an o then AK o sh fl e i off st K
  else if fl.live st.ep then
   if off+sh.ct.size<=e.size then K (st.put o.dst (.val sh.agg (alv an o st.ep fl e i off (((cellsOf e fl.bare x).drop off).take sh.ct.size)))) else none
  else FD o sh fl e i off st K
 |_,_=>none
def zw (T:TypeId)(p x:Operand)(st:AS)(K:AS->aB R):aB R:=
 match ko E.ty T,st.rd p with
 |some sh,.val false [.ptr s off]=>
  match st.take x with
  |(.val _ vs,cj)=>
   match (nth cj.boxes s).getD none with
   |some cs=>
    if vs.length=sh.ct.size/\vs.all AC.Lz then
     if off+sh.ct.size<=cs.length then K (cj.fO s (some (fu cs off vs))) else none
    else none
   |none=>none
  |_=>none
 |some sh,.val false [.D3 (.loc _ (some (r,t))) e _ i off]=>
  match st.take x with
  |(.val _ vs,cj)=>
   if vs.length=sh.ct.size/\off+sh.ct.size<=e.size then cj.rr r t e i off vs K else none
  |_=>none
 |_,_=>none
def Cw (o:Oper)(S:TypeId)(p:Operand)(f:Nat)(st:AS)(K:AS->aB R):aB R:=
 match ko E.ty S,st.rd p with
 |some ⟨true,_,lr⟩,.val false [.ptr s off]=>match nth lr f with|some (fo,_)=>K (st.put o.dst (.one (.ptr s (off+fo))))|none=>none
 |some ⟨true,_,lr⟩,.val false [.D3 fl e x i off]=>match nth lr f with|some (fo,_)=>K (st.put o.dst (.one (.D3 fl e x i (off+fo))))|none=>none
 |_,_=>none
def om (o:Oper)(T:TypeId)(x i:Operand)(st:AS)(K:AS->aB R):aB R:=
 match E.sl T,(st.rd x).fresh st,st.rd i with
 |some e',.val false [.sl fl e xs],.val false [.int _ n]=>
  if e'=e/\fl.live st.ep then aa (idx xs n) λy=>K (st.put o.dst (.one (.D3 fl e y n 0))) else none
 |_,_,_=>none
def Eb (o:Oper)(T:TypeId)(x i:Operand)(st:AS)(K:AS->aB R):aB R:=
 match st.rd x,st.rd i with
 | .val false [.str s],.val false [.int _ n]=>if E.str T then aa (idx s n) λb=>K (st.put o.dst (.one (.int .u8 b.toNat))) else none
 |_,_=>none
def D1 (o:Oper)(T:TypeId)(parts:aw (Nat×Operand))(st:AS)(K:AS->aB R):aB R:=
 match ko E.ty T with
 |some ⟨true,ct,lr⟩=>
  match gb st (parts.map (·.2))with
  |(vs,cj)=>
   match yN lr (cellsOf ct (.own none) ct.zero) ((parts.map (·.1)).zip (vs.map AV.cells))with
   |some cs=>K (cj.put o.dst (.val true cs))
   |none=>none
 |_=>none
def nz (o:Oper)(T:TypeId)(len:Nat)(parts:aw (Nat×Operand))(st:AS)(K:AS->aB R):aB R:=
 match E.sl T with
 |some e=>
  if parts.length=len/\K0 0 parts/\len<=1000 then
   match gb st (parts.map (·.2))with
   |(vs,cj)=>
    match EJ e (vs.map AV.cells)with
    |some xs=>K (cj.rQ o.dst e xs)
    |none=>none
  else none
 |none=>none
def qB (o:Oper)(T:TypeId)(n c:Operand)(st:AS)(K:AS->aB R):aB R:=
 match E.sl T,st.rd n,st.rd c with
 |some e,.val false [.int .i64 len],.val false [.int .i64 cap]=>
  if 0<=len/\len<=cap then room cap.toNat (K (st.rQ o.dst e (List.replicate len.toNat e.zero))) else none
 |_,_,_=>none
def oB (st:AS)(lo hi:aB Operand)(n:Nat)(K:Int->Int->aB R):aB R:=
 match lo.map st.rd,hi.map st.rd with
 |none,none=>K 0 n
 |some (.val false [.int _ a]),none=>K a n
 |none,some (.val false [.int _ b])=>K 0 b
 |some (.val false [.int _ a]),some (.val false [.int _ b])=>K a b
 |_,_=>none
def yZ (o:Oper)(T:TypeId)(x:Operand)(lo hi:aB Operand)(st:AS)(K:AS->aB R):aB R:=
 match st.take x,lo.map st.rd,hi with
 |(.val false [.sl (.own _) e xs],cj),some (.val false [.int _ a]),none=>
  if E.sl T=some e then aa (sub xs a xs.length) λSM=>K (cj.rQ o.dst e SM) else none
 |_,_,_=>none
def RA (o:Oper)(fl:sO)(a:Int):sO:=
 match fl,o.dst with
 | .loc ep (some (r,t)),some d=>bif an.nest.contains d then .part ep r t a else .loc ep none
 |fl,_=>fl.bare
def CZ (o:Oper)(T:TypeId)(x:Operand)(lo hi:aB Operand)(st:AS)(K:AS->aB R):aB R:=
 if Hy an o then yZ E o T x lo hi st K else
 match (st.rd x).fresh st with
 | .val false [.str s]=>if E.str T then oB st lo hi s.length λa b=>aa (sub s a b) λs'=>K (st.put o.dst (.one (.str s'))) else none
 | .val false [.sl fl e xs]=>
   if E.sl T=some e/\fl.live st.ep then oB st lo hi xs.length λa b=>aa (sub xs a b) λSM=>K (st.put o.dst (.one (.sl (RA an o fl a) e SM))) else none
 |_=>none
def nC (o:Oper)(src dst:TypeId)(x:Operand)(st:AS)(K:AS->aB R):aB R:=
 match ko E.ty src,ko E.ty dst,st.rd x with
 |some _,some ⟨false,.int k,_⟩,.val false [.int _ n]=>K (st.put o.dst (.one (.int k (k.wrap n))))
 |some ⟨false,.str,_⟩,some ⟨false,.str,_⟩,.val false [.str s]=>K (st.put o.dst (.one (.str s)))
 |some ⟨false,.str,_⟩,some _,.val false [.str s]=>
  if E.bytes dst then room s.length (K (st.rQ o.dst (.int .u8) (dJ s))) else none
 |some _,some ⟨false,.str,_⟩,.val false [.sl fl (.int .u8) xs]=>
  if E.bytes src/\fl.live st.ep then K (st.put o.dst (.one (.str (aQ xs)))) else none
 |_,_,_=>none
def nE (o:Oper)(t i:Nat)(st:AS)(K:AS->aB R):aB R:=
 match st.get t with
 | .yE vs=>match nth vs i with
   |some (g,cs)=>K ((st.put (some t) (.yE (ji vs i (g,bg 0 cs)))).put o.dst (.val g cs))
   |none=>none
 |_=>none
def Ri (o:Oper)(ts:aw TypeId)(args:aw Operand)(st:AS)(K:AS->aB R):aB R:=
 match ts,args.map st.rd with
 |[t],[.val false [.str s]]=>if E.str t then K (st.put o.dst (.one (.int .i64 s.length))) else none
 |[t],[.val false [.sl _ _ xs]]=>if(E.sl t).isSome then K (st.put o.dst (.one (.int .i64 xs.length))) else none
 |_,_=>none
def Th (o:Oper)(args:aw Operand)(st:AS)(K:AS->aB R):aB R:=
 match args.map st.rd with
 |[.val false [.int k x],.val false [.int _ y]]=>K (st.put o.dst (.one (.int k (if y<x then y else x))))
 |_=>none
def Tg (o:Oper)(args:aw Operand)(st:AS)(K:AS->aB R):aB R:=
 match args.map st.rd with
 |[.val false [.int k x],.val false [.int _ y]]=>K (st.put o.dst (.one (.int k (if y>x then y else x))))
 |_=>none
def TO (o:Oper)(ts:aw TypeId)(args:aw Operand)(st:AS)(K:AS->aB R):aB R:=
 match ts,args.map st.rd with
 |[t,t'],[.val false [.sl (.part ep r tg lo) e xs],.val false [.str s]]=>
  match st.ga r with
  |some (.sl (.own (some tg')) e' ys)=>
   if h:e'=.int .u8 then
    if e=.int .u8/\E.sl t=some (.int .u8)/\E.str t'=true/\ep=st.ep/\tg'=tg then
     K ({st.gq r (.sl (.own (some tg)) (.int .u8) (EN (h▸ys:aw (CT.int .u8).D) lo.toNat (dJ (s.take xs.length))))with ep:=st.ep+1}.put o.dst (.one (.int .i64 (min xs.length s.length:Nat))))
    else none
   else none
  |_=>none
 |_,_=>none
def HM (o:Oper)(S:TypeId)(t f:Nat)(st:AS)(K:AS->aB R):aB R:=
 match ko E.ty S,st.get t,aac E.fts S f with
 |some ⟨true,ct,lr⟩,.val true cs,some T=>
  match nth lr f,ko E.ty T with
  |some (fo,n),some sh=>
   if n=sh.ct.size/\cs.length=ct.size/\fo+n<=cs.length then
    K ((st.put (some t) (.val true (fu cs fo (bg st.ep ((cs.drop fo).take n))))).put o.dst (.val sh.agg ((cs.drop fo).take n)))
   else none
  |_,_=>none
 |_,_,_=>none
def zD (o:Oper)(ts:aw TypeId)(args:aw Operand)(st:AS)(K:AS->aB R):aB R:=
 match ts,args with
 |[t,t'],[s,x]=>
  match st.take s with
  |(.val false [.sl (.own _) e xs],st1)=>
   match st1.take x with
   |(.val false [.sl fl e' ys],st2)=>
    if h:e'=e then
     if E.sl t=some e/\E.sl t'=some e/\fl.ov st.ep e.flat then
      room (xs.length+ys.length) (K (st2.rQ o.dst e (xs++(h▸ys:aw e.D))))
     else none
    else none
   |(.val false [.str s],st2)=>
    if h:e=.int .u8 then
     if E.sl t=some e/\E.str t' then room (xs.length+s.length) (K (st2.rQ o.dst (.int .u8) ((h▸xs:aw (CT.int .u8).D)++dJ s))) else none
    else none
   |_=>none
  |_=>none
 |_,_=>none
def T9:Nat->aw AC->aB (mi×Nat)
 |_,[]=>none
 |j,.sl (.loc _ (some (r,_))) _ _::_=>some (r,j)
 |j,_::cs=>T9 (j+1) cs
def mi.pos:mi->Nat
 | .slot _ j=>j
 | .box _ j=>j
 | .io j=>j
def AS.Lk (st:AS):mi->aB (aw AC)
 | .slot s _=>match st.get s with| .val _ cs=>some cs|_=>none
 | .box s _=>(nth st.boxes s).getD none
 | .io _=>some st.io
def AS.Hp (st:AS)(r:mi)(cs:aw AC):AS:=
 match r with
 | .slot s _=>match st.get s with| .val g _=>st.put (some s) (.val g cs)|_=>st
 | .box s _=>st.fO s (some cs)
 | .io _=>{st with io:=cs}
def pL:aw AC->aw AC->aB (aw AC)
 |[],[]=>some []
 | .sl (.loc _ (some (_,t))) _ _::os,.sl (.own (some t')) e xs::ss=>bif t'==t then(pL os ss).bind λr=>some (.sl (.own none) e xs::r) else none
 | .int k n::os,.int _ _::ss=>(pL os ss).bind λr=>some (.int k n::r)
 | .bool b::os,.bool _::ss=>(pL os ss).bind λr=>some (.bool b::r)
 | .str x::os,.str _::ss=>(pL os ss).bind λr=>some (.str x::r)
 |_,_=>none
def AV.kL:AV->Bool
 | .val _ cs=>cs.all AC.kL
 | .yE vs=>vs.all λx=>x.2.all AC.kL
def VW (st:AS)(x:Operand):aB (AV×AS):=
 match st.rd x with
 | .val g cs=>
   match T9 0 cs with
   |some (r,j)=>
    match st.Lk r with
    |some csO=>
     match pL cs ((csO.drop (r.pos-j)).take cs.length)with
     |some sU=>some (.val g sU,st.Hp r (fu csO (r.pos-j) (bg st.ep ((csO.drop (r.pos-j)).take cs.length))))
     |none=>none
    |none=>none
   |none=>none
 |_=>none
def UE (o:Oper)(x:Operand)(st:AS)(K:AS->aB R):aB R:=
 match VW st x with
 |some (v,cj)=>K (cj.put o.dst v)
 |none=>none
def zx (T:TypeId)(p x:Operand)(st:AS)(K:AS->aB R):aB R:=
 match ko E.ty T,st.rd p with
 |some sh,.val false [.ptr s off]=>
  match VW st x with
  |some (.val _ vs,cj)=>
   match (nth cj.boxes s).getD none with
   |some cs=>
    if vs.length=sh.ct.size/\vs.all AC.Lz then
     if off+sh.ct.size<=cs.length then K (cj.fO s (some (fu cs off vs))) else none
    else none
   |none=>none
  |_=>none
 |_,_=>none
def AC.strip:AC->AC
 | .sl (.own _) e xs=> .sl (.own none) e xs
 | .sl (.loc _ _) _ _=> .bot
 | .sl (.nest ..) _ _=> .bot
 | .sl (.part ..) _ _=> .bot
 | .sl (.gB _ i _) e xs=> .sl (.gB none i none) e xs
 | .ptr _ _=> .bot
 | .D3 _ _ _ _ _=> .bot
 |c=>c
def AC.anN:AC->Bool
 | .sl (.own _) _ _=>true
 |c=>c.kL
def AC.Bi (k:Bool):AC->Bool
 | .sl (.own _) _ _=>true
 | .sl (.arg k') _ _=>k'==k
 |c=>c.kL
def AC.XL:AC->AC
 | .sl (.own _) e xs=> .sl (.own none) e xs
 | .sl (.arg _) e xs=> .sl (.arg true) e xs
 |c=>c.strip
def AC.apP (k:Bool)(tag:aB Nat):AC->AC
 | .sl (.own _) e xs=> .sl (.own tag) e xs
 | .sl (.arg _) e xs=> .sl (.arg k) e xs
 |c=>c
def rC (k:Bool)(mk:Nat->aB Nat):Nat->aw AC->aw AC
 |_,[]=>[]
 |j,c::cs=>c.apP k (mk j)::rC k mk (j+1) cs
def FY (cs:aw AC):Bool:=cs.any λc=>match c with| .sl (.arg k) _ _=>k|_=>false
def AC.L6:AC->Bool
 | .sl (.arg k) _ _=> !k
 |c=>c.kL
def AV.L6:AV->Bool
 | .val _ cs=>cs.all AC.L6
 | .yE _=>false
def AS.Te (st:AS):AC->AC
 | .sl (.own _) e xs=> .sl (.arg false) e xs
 | .sl (.arg _) e xs=> .sl (.arg false) e xs
 | .sl (.loc _ (some (.slot b j,t))) _ _=>match st.ga (.slot b j)with
   |some (.sl (.own (some t')) e' ys)=>if t'=t then .sl (.arg false) e' ys else .bot
   |_=> .bot
 | .int k n=> .int k n
 | .bool b=> .bool b
 | .str s=> .str s
 | .fn f=> .fn f
 |_=> .bot
def DH (st:AS):Operand->AV
 | .tmp t=>(match st.get t with| .val g cs=> .val g (cs.map st.Te)|v=>v)
 |x=>st.rd x
def EI (st:AS):Operand->Bool
 | .tmp t=>(match st.get t with| .val _ cs=>(cs.map st.Te).all AC.L6|_=>false)
 |x=>(st.rd x).kL
def AC.ahZ:AC->Bool
 | .sl (.own _) _ _=>true
 |c=>c.kL
def AV.ahZ:AV->Bool
 | .val _ cs=>cs.all AC.ahZ
 | .yE vs=>vs.all λx=>x.2.all AC.ahZ
def aeP (st:AS)(s:Nat)(cs:aw AC):AS:={(st.fO s (some cs)).gJ (some s)with ep:=st.ep+1}
def xu (o:Oper)(f:Nat)(args:aw Operand)(st:AS)(K:AS->aB R):aB R:=
 match args with
 |x0::xs=>
  match st.rd x0 with
  | .val false [.ptr s 0]=>
    match (nth st.boxes s).getD none with
    |some cs=>
     bif cs.all (AC.Bi (FY cs))&&xs.all (EI st) then
      aa ((Γ f).fn (.val true (cs.map AC.XL)::xs.map (DH st))) λy=>
       bif ((Γ f).back y).all (AC.Bi true)&&((Γ f).av y).ahZ then
        bif (Γ f).cur&&cs.all AC.Ka then
         K (((st.fO s (some (rC (FY cs) (λ_=>none) 0 ((Γ f).back y)))).gJ o.dst).put o.dst (((Γ f).av y).FZ st.ep (st.jm o.dst)))
        else
        K (((aeP st s (rC (FY cs) (st.jm (some s)) 0 ((Γ f).back y))).gJ o.dst).put o.dst
          (((Γ f).av y).FZ (st.ep+1) ((aeP st s (rC (FY cs) (st.jm (some s)) 0 ((Γ f).back y))).jm o.dst)))
       else none
     else none
    |none=>none
  |_=>none
 |[]=>none
def ah0 (o:Oper)(f:Nat)(args:aw Operand)(st:AS)(K:AS->aB R):aB R:=
 match o.dst with
 |some d=>
  match nth st.boxes d with
  |some none=>
   bif args.all (λx=>(st.rd x).L6) then
    aa ((Γ f).fn (args.map st.rd)) λy=>
     bif ((Γ f).back y).all AC.L6 then K ((st.fO d (some ((Γ f).back y))).put (some d) (.one (.ptr d 0))) else none
   else none
  |_=>none
 |none=>none
def F1 (o:Oper)(f:Operand)(args:aw Operand)(st:AS)(K:AS->aB R):aB R:=
 match st.rd f with
 | .val false [.fn f]=>
   bif (Γ f).bx then xu Γ o f args st K else
   bif (Γ f).pr then ah0 Γ o f args st K else
   bif (Γ f).io then none
   else aa ((Γ f).fn (args.map λx=>((st.rd x).fresh st).asArg st.ep)) λr=>cond ((Γ f).sel r) (K ((st.gJ o.dst).put o.dst (((Γ f).av r).FZ st.ep (st.jm o.dst)))) (K ((st.gJ o.dst).put o.dst (((Γ f).alt r).FZ st.ep (st.jm o.dst))))
 |_=>none
def F3 {R:Type}(op:BinOp)(b:Bool)(K:AC->aB R):aB R:=
 match op with
 | .eql=>K (.bool b)
 | .neq=>K (.bool (!b))
 |_=>none
def Dm (o:Oper)(op:BinOp)(T:TypeId)(x y:Operand)(st:AS)(K:AS->aB R):aB R:=
 match st.rd x,st.rd y with
 | .val false [.bool a],.val false [.bool b]=>if E.bool T then Iq op (.one (.bool a)) (.one (.bool b)) λc=>K (st.put o.dst (.one c)) else none
 | .val true xs,.val true ys=>match UJ E.eqs T with
   |some ls=>if fits ls xs then Iq op (.val true xs) (.val true ys) λc=>K (st.put o.dst (.one c)) else none
   |none=>none
 | .val false [.sl fl _ xs],.val false [.kY]=>if(E.sl T).isSome/\fl.live st.ep then(if xs.length=0 then none else F3 op false λc=>K (st.put o.dst (.one c))) else none
 | .val false [.kY],.val false [.kY]=>if(E.sl T).isSome then F3 op true λc=>K (st.put o.dst (.one c)) else none
 |a,b=>Iq op a b λc=>K (st.put o.dst (.one c))
def dp (o:Oper)(st:AS)(K:AS->aB R):aB R:=
 match o.op with
 | .move x=>EM an o x st K
 | .assign x=>if CL an o then UE o x st K else xr E an o x st K
 | .pick c a b=>Hd o c a b st K
 | .alloc T=>E2 E o T st K
 | .box _ x=>VR o x st K
 | .load T p=>rf E an o T p st K
 | .store T p x=>match o.dst with|none=>(if CL an o then zx E T p x st K else zw E T p x st K)|some _=>none
 | .nilCheck x=>
   match st.rd x with
   | .val false [.ptr s off]=>K (st.put o.dst (.one (.ptr s off)))
   | .val false [.D3 fl e y i off]=>K (st.put o.dst (.one (.D3 fl e y i off)))
   |_=>none
 | .binOp op T x y _=>Dm E o op T x y st K
 | .unOp op _ x=>unC op (st.rd x) λc=>K (st.put o.dst (.one c))
 | .fieldAddr S p f=>Cw E o S p f st K
 | .indexAddr T x i=>om E o T x i st K
 | .index T x i=>Eb E o T x i st K
 | .build T parts=>D1 E o T parts.toList st K
 | .buildSlice T len parts=>nz E o T len parts.toList st K
 | .makeSlice T n c=>qB E o T n c st K
 | .slice T x lo hi none=>CZ E an o T x lo hi st K
 | .field S (.tmp t) f=>HM E o S t f st K
 | .call {callee:=.builtin .copy,args,argTypes}=>TO E o argTypes.toList args.toList st K
 | .convert src dst x=>nC E o src dst x st K
 | .extract (.tmp t) i=>nE o t i st K
 | .call {callee:=.builtin .len,args,argTypes}=>Ri E o argTypes.toList args.toList st K
 | .call {callee:=.builtin .min,args,..}=>Th o args.toList st K
 | .call {callee:=.builtin .max,args,..}=>Tg o args.toList st K
 | .call {callee:=.builtin .append,args,argTypes}=>zD E o argTypes.toList args.toList st K
 | .call {callee:=.value f,args,..}=>F1 Γ o f args.toList st K
 |_=>none
def iI (ops:aw Oper)(o:Oper)(st:AS)(K:AS->aB R):aB R:=
 match o.guard with
 |none=>dp E Γ an o st K
 |some (j,JZ)=>
  match (nth ops j).bind (·.dst)with
  |some d=>
   match st.get d with
   | .val false [.bool b]=>
     let go (t:Bool):aB R:=
      if t==JZ then dp E Γ an o (st.put (some d) (.one (.bool t))) K else K ((st.put (some d) (.one (.bool t))).put o.dst (.one .un))
     cond b (go true) (go false)
   | .val false [.un]=>K (st.put o.dst (.one .un))
   |_=>none
  |none=>none
def Xj (ops:aw Oper):aw Oper->AS->(AS->aB R)->aB R
 |[],st,K=>K st
 |o::r,st,K=>iI E Γ an ops o st λcj=>Xj ops r cj K
def fC:Code->Nat
 | .region id _ _=>id
 | .seq a _=>fC a
 | .block _ c=>fC c
 | .loop c=>fC c
 | .cond _ a b=>match fC a with|0=>fC b|n=>n
 |_=>0
def Gt (c:Code):Nat:=1000000+2*fC c
def mE (l:fM):Code->aw Code
 | .seq a b=>mE l a++(bif l.contains (fC b) then b::mE l b else mE l b)
 | .cond _ a b=>mE l a++mE l b
 | .block _ c=>mE l c
 | .loop c=>mE l c
 |_=>[]
def nD (l:fM)(fn:Func)(k:Nat):Code:=(nth (mE l (fn.body.getD .skip)) k).getD .skip
def jr:Code->aw Code
 | .seq a b=>jr a++jr b
 | .cond _ a b=>jr a++jr b
 | .block _ c=>jr c
 | .loop c=>c::jr c
 |_=>[]
def cH (fn:Func)(k:Nat):Code:=(nth (jr (fn.body.getD .skip)) k).getD .skip
def aft (j:Nat):Nat:=3*(4096*1000003+j)
def mi.Ht:mi->aB Nat
 | .slot s j=>bif Nat.ble 4096 j then none else bif Nat.ble 1000000 s then none else some (3*(4096*s+j))
 | .box s j=>bif Nat.ble 4096 j then none else some (3*(4096*s+j)+1)
 | .io j=>bif Nat.ble 4096 j then none else some (aft j)
def AC.ale (io:aw AC)(j t:Nat)(e:CT):aB (aw e.D):=
 match nth io j with
 |some (.sl (.own (some t')) e' ys)=>if h:e'=e then bif t'==t then some (h▸ys) else none else none
 |_=>none
def AC.mask (keep:fM)(ep:Nat)(io:aw AC)(rt:mi):AC->AC
 | .ptr s off=>if keep.contains s then .ptr s off else .bot
 | .sl (.loc e pv) t xs=>
   match pv with
   |some (.io j,n)=>match AC.ale io j n t with
    |some ys=> .sl (.loc 0 ((mi.Ht (.io j)).map λq=>(.io j,q))) t ys
    |none=>if e==ep then .sl (.loc 0 none) t xs else .bot
   |_=>if e==ep then .sl (.loc 0 none) t xs else .bot
 | .sl (.own _) t xs=> .sl (.own rt.Ht) t xs
 | .sl (.nest ..) _ _=> .bot
 | .sl (.part ..) _ _=> .bot
 | .sl (.gB _ i _) e xs=> .sl (.gB none i none) e xs
 | .D3 _ _ _ _ _=> .bot
 |c=>c
def MJ (keep:fM)(ep:Nat)(io:aw AC)(f:Nat->mi):Nat->aw AC->aw AC
 |_,[]=>[]
 |j,c::cs=>c.mask keep ep io (f j)::MJ keep ep io f (j+1) cs
def AV.mask (keep:fM)(ep:Nat)(io:aw AC)(s:Nat):AV->AV
 | .val g cs=> .val g (MJ keep ep io (.slot s) 0 cs)
 | .yE _=> .bot
def pE (keep:fM)(ep:Nat)(io:aw AC):Nat->aw AV->aw AV
 |_,[]=>[]
 |i,v::r=>(if keep.contains i then v.mask keep ep io i else .bot)::pE keep ep io (i+1) r
def pD (keep:fM)(ep:Nat)(io:aw AC):Nat->aw (aB (aw AC))->aw (aB (aw AC))
 |_,[]=>[]
 |i,b::r=>(if keep.contains i then b.map (MJ keep ep io (.box i) 0) else none)::pD keep ep io (i+1) r
def adL (keep:fM):Nat->aw AC->aw AC
 |_,[]=>[]
 |j,c::cs=>(match c with| .sl (.own _) e xs=> .sl (.own (mi.Ht (.io j))) e xs| .sl (.gB _ i _) e xs=> .sl (.gB none i none) e xs| .ptr s off=>if keep.contains s then .ptr s off else .bot|c=>bif c.kL then c else .bot)::adL keep (j+1) cs
def AS.mask (keep:fM)(st:AS):AS:=
 ⟨pE keep st.ep st.io 0 st.slots,pD keep st.ep st.io 0 st.boxes,0,List.replicate st.slots.length false,adL keep 0 st.io⟩
def getBool (st:AS)(s:Nat):aB Bool:=
 match st.get s with
 | .val false [.bool b]=>some b
 |_=>none
def iL (an:An)(ds:fM)(o:Oper):Bool:=
 match o.op with
 | .assign (.const _)=> !CL an o
 | .assign (.tmp t)=>ds.contains t&& !CL an o
 | .move _| .load ..=>match o.dst with|some d=> !an.mv.contains d|none=>false
 | .slice ..=> !Hy an o
 | .pick ..| .binOp ..| .unOp ..| .fieldAddr ..| .indexAddr ..| .index ..| .nilCheck _=>true
 | .build _ ps=>ps.isEmpty
 | .call {callee:=.builtin .len,..}| .call {callee:=.builtin .min,..}| .call {callee:=.builtin .max,..}=>true
 | .call {callee:=.value _,..}=>true
 |_=>false
def Jq (ops:aw Oper):fM:=ops.filterMap (·.dst)
def AS.DA (st:AS):fM->AS
 |[]=>st
 |d::r=>((st.put (some d) .bot).gJ (some d)).DA r
def Ix (ops:aw Oper)(A:aw fM):Nat->aw Oper->AS->(AS->aB R)->aB R
 |_,[],st,K=>K st
 |i,o::r,st,K=>bif ei E an (vd an A i 0 ops) o st then iI E Γ an ops o st λcj=>Ix ops A (i+1) r cj K else none
def GC (ops:aw Oper)(draw:Bool)(st:AS)(K:AS->aB R):aB R:=
 bif draw then(bif Yt an ops then Ix E Γ.JV an ops (X5 ops []) 0 ops st K else none) else Xj E Γ an ops ops st K
def Xu (id:Nat)(ops:aw Oper)(draw:Bool)(st:AS)(K:AS->aB R):aB R:=
 match an.merge id with
 |none=>GC E Γ an ops draw st K
 |some s=>
  if ops.all (iL an (Jq ops)) then
   aa (GC E Γ.calm an ops draw st λcj=>getBool cj s) λb=>K ((st.DA (Jq ops)).put (some s) (.one (.bool b)))
  else none
def DJ (key:fM)(B:AS->(Ex->AS->aB R)->aB R):Nat->AS->(Ex->AS->aB R)->aB R
 |0,_,_=>none
 |m+1,st,K=>B st λe cj=>
  match e with
  | .normal=>DJ key B m (cj.mask key) K
  |e=>K e (cj.mask key)
def den (Λ:mc):Code->AS->(Ex->AS->aB R)->aB R
 | .skip,st,K=>K .normal st
 | .region id ops draw,st,K=>Xu E Γ an id ops.toList draw st (K .normal)
 | .seq a b,st,K=>den Λ a st λe cj=>match e with
   | .normal=>bif an.cut.contains (fC b) then(Λ (Gt b)).go (cj.mask (an.mask (Gt b))) K else den Λ b cj K
   |e=>K e cj
 | .cond c a b,st,K=>
   match st.rd c with
   | .val false [.bool t]=>cond t (den Λ a st K) (den Λ b st K)
   |_=>none
 | .block id c,st,K=>den Λ c st λe cj=>
   match e with
   | .exit j=>if j==id then K .normal cj else K (.exit j) cj
   |e=>K e cj
 | .loop c,st,K=>
   bif an.peel.contains (fC c) then den Λ c (st.mask (an.mask (fC c))) λe cj=>
    match e with
    | .normal=>(Λ (fC c)).go (cj.mask (an.mask (fC c))) K
    |e=>K e (cj.mask (an.mask (fC c)))
   else(Λ (fC c)).go (st.mask (an.mask (fC c))) K
 | .exit id,st,K=>K (.exit id) st
 | .ret,st,K=>K .ret st
 |_,_,_=>none
end
def RP (st:AS)(E:Env):ResultVar->aB ((Bool×Nat)×Bool×aw AC)
 | .tmp t=>match st.get t with| .val g cs=>some ((false,t),g,cs.map AC.strip)|_=>none
 | .cell t T=>match ko E.ty T,st.get t with
   |some sh,.val false [.ptr s off]=>((nth st.boxes s).getD none).bind λcs=>
    if off+sh.ct.size<=cs.length then some ((true,s),sh.agg,((cs.drop off).take sh.ct.size).map AC.strip) else none
   |_,_=>none
def uT (st:AS)(E:Env):aw (Bool×Nat)->aw ResultVar->aB (aw (Bool×aw AC))
 |_,[]=>some []
 |had,r::rs=>(RP st E r).bind λx=>if had.contains x.1 then none else(uT st E (x.1::had) rs).bind λxs=>some (x.2::xs)
def results (E:Env)(rs:aw ResultVar)(st:AS):aB AV:=
 match uT st E [] rs with
 |some [(g,cs)]=>some (.val g cs)
 |some vs=>some (.yE vs)
 |none=>none
def start (fn:Func)(args:aw AV):AS:=⟨args++List.replicate (fn.ntmps-args.length) .bot,List.replicate (args.length+(fn.ntmps-args.length)) none,0,List.replicate fn.ntmps false,[]⟩
abbrev mx:aw (Bool×FT)->Type
 |[]=>Unit
 |[(_,t)]=>t.ct.D
 |(_,t)::r=>t.ct.D×mx r
def nj:(l:aw (Bool×FT))->aw (Bool×aw AC)->aB (mx l)
 |[],[]=>some ()
 |[(g,t)],[(g',cs)]=>bif g==g' then(match Pg t cs with|some (x,[])=>some x|_=>none) else none
 |(g,t)::p::r,(g',cs)::vs=>bif g==g' then(match Pg t cs with|some (x,[])=>(nj (p::r) vs).bind λy=>some (x,y)|_=>none) else none
 |_,_=>none
def ark:(l:aw (Bool×FT))->mx l->aw (Bool×aw AC)
 |[],_=>[]
 |[(g,t)],x=>[(g,kI t x)]
 |(g,t)::p::r,x=>(g,kI t x.1)::ark (p::r) x.2
def Cp (l:aw (Bool×FT))(x:mx l):AV:=
 match ark l x with
 |[(g,cs)]=> .val g cs
 |vs=> .yE vs
def GD (E:Env)(Γ:Cn)(an:An)(Λ:mc)(fn:Func)(rs:aw (Bool×FT))(args:aw AV):aB (mx rs):=
 match fn.body with
 |some c=>if args.length=fn.params.size then den E Γ an Λ c (start fn args) λe st=>
  match e with
  | .exit _=>none
  |_=>aa (uT st E [] fn.results.toList) (nj rs)
  else none
 |none=>none
def evalAlt (E:Env)(Γ:Cn)(an:An)(Λ:mc)(fn:Func)(rs SL:aw (Bool×FT))(h:mx SL=mx rs)(args:aw AV):aB (Bool×mx rs):=
 match fn.body with
 |some c=>if args.length=fn.params.size then den E Γ an Λ c (start fn args) λe st=>
  match e with
  | .exit _=>none
  |_=>aa (uT st E [] fn.results.toList) λys=>
   match nj rs ys with
   |some y=>some (true,y)
   |none=>match nj SL ys with
    |some y=>some (false,cast h y)
    |none=>none
  else none
 |none=>none
def Kd:Nat->aw AC->aw AC
 |_,[]=>[]
 |j,.sl (.own _) e xs::cs=> .sl (.own (some (3*j+1))) e xs::Kd (j+1) cs
 |j,c::cs=>c::Kd (j+1) cs
def C7 (fn:Func)(cs:aw AC)(args:aw AV):AS:=
 {start fn (.one (.ptr 0 0)::args)with boxes:=some (Kd 0 cs)::List.replicate (args.length+(fn.ntmps-(args.length+1))) none,io:=[.ptr 0 0]}
def afa (E:Env)(Γ:Cn)(an:An)(Λ:mc)(fn:Func)(rs:aw (Bool×FT))(t:FT)(args:aw AV):aB (mx rs×t.ct.D):=
 match fn.body,args with
 |some c,.val true cs::xs=>if xs.length+1=fn.params.size/\cs.all (AC.Bi true)=true then den E Γ an Λ c (C7 fn cs xs) λe st=>
  match e with
  | .exit _=>none
  |_=>aa (aa (uT st E [(true,0)] fn.results.toList) (nj rs)) λr=>
   match st.io,st.boxes with
   |[.ptr 0 0],some sU::_=>match Pg t (sU.map AC.strip)with
    |some (x,[])=>some (r,x)
    |_=>none
   |_,_=>none
  else none
 |_,_=>none
def Ws (E:Env)(Γ:Cn)(an:An)(Λ:mc)(fn:Func)(t:FT)(args:aw AV):aB t.ct.D:=
 match fn.body with
 |some c=>if args.length=fn.params.size then den E Γ an Λ c (start fn args) λe st=>
  match e with
  | .exit _=>none
  |_=>match fn.results.toList with
   |[.tmp i]=>match st.get i with
    | .val false [.ptr s 0]=>match (nth st.boxes s).getD none with
      |some cs=>if cs.all AC.L6=true then(match Pg t (cs.map AC.strip)with|some (x,[])=>some x|_=>none) else none
      |none=>none
    |_=>none
   |_=>none
  else none
 |none=>none
end Go.Dn
