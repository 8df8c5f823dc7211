import Derived.Test.YtehfjiddofkdnaaGreatDnData
/- An abstract semantics without a heap: definitions. -/
open Bool renaming false->G,true->O
open Decidable renaming decide->ay
open Option renaming none->W,some->I
namespace Go.Dn
inductive sn where
 |slot (s j:Nat)|box (s j:Nat)|io (j:Nat)
 deriving DecidableEq
inductive BH where
 |own (tag:Option Nat)
 |loc (ep:Nat) (pv:Option (sn×Nat))
 |arg (k:Bool)
 |nest (ep:Nat) (r:sn) (t:Nat) (e:CT) (i:Int) (off:Nat)
 |part (ep:Nat) (r:sn) (t:Nat) (lo:Int)
 |im (tag:Option Nat) (i:Int) (ep:Option Nat)
inductive AC where
 |int (k:IntKind) (n:Int)|bool (b:Bool)|str (s:List UInt8)
 |sl (fl:BH) (e:CT) (xs:List e.D)
 |mP
 |ptr (s off:Nat)
 |I7 (fl:BH) (e:CT) (x:e.D) (i:Int) (off:Nat)
 |fn (f:Nat)
 |un
 |bot
inductive AV where
 |val (agg:Bool) (cs:List AC)
 |DZ (vs:List (Bool×List AC))
abbrev AV.one (c:AC):AV:=.val G [c]
abbrev AV.bot:AV:=.val G [.bot]
structure AS where
 slots:List AV
 boxes:List (Option (List AC))
 ep:Nat
 iss:List Bool
 io:List AC
structure Shape where
 agg:Bool
 ct:CT
 nt:List (Nat×Nat):=[]
structure An where
 mask:Nat->List Nat:=λ_=>[]
 merge:Nat->Option Nat:=λ_=>W
 mv:List Nat:=[]
 nest:List Nat:=[]
 mb:Nat->Option Nat:=λ_=>W
 sb:Nat->Option Nat:=λ_=>W
 late:List Nat:=[]
 peel:List Nat:=[]
 nils:List Nat:=[]
 fm:List Nat:=[]
 eb:Nat->Option Nat:=λ_=>W
 es:Nat->Option Nat:=λ_=>W
 er:Nat->Option Nat:=λ_=>W
 cut:List Nat:=[]
def cellsOf:(t:CT)->BH->t.D->Z AC
 | .int k,_,n=>[.int k n]
 | .bool,_,b=>[.bool b]
 | .str,_,s=>[.str s]
 | .sl e,c,d=>[.sl c e d]
 | .pair a b,c,x=>cellsOf a c x.1++cellsOf b c x.2
def mC:(t:CT)->Z AC->aS (t.D×Z AC)
 | .int k,.int f n::r=>if f=k then I (n,r) else W
 | .bool,.bool b::r=>I (b,r)
 | .str,.str s::r=>I (s,r)
 | .sl e,.sl (.own _) d g::r=>if h:d=e then I (h▸g,r) else W
 | .sl _,.mP::r=>I ([],r)
 | .pair a b,c=>(mC a c).bind λx=>(mC b x.2).bind λy=>I ((x.1,y.1),y.2)
 |_,_=>W
def nth {α:Type}:Z α->Nat->aS α
 |[],_=>W
 |a::_,0=>I a
 |_::l,n+1=>nth l n
def kA {α:Type}:Z α->Nat->α->Z α
 |[],_,_=>[]
 |_::l,0,v=>v::l
 |a::l,n+1,v=>a::kA l n v
def AS.get (a:AS)i:=(nth a.slots i).getD .bot
def AS.put (st:AS)(d:aS Nat)(v:AV):=
 match d with
 |some d=>{st with slots:=kA st.slots d v}
 |none=>st
def R6 d j:=3*(4096*d+j)+2
def AS.kL (a:AS)(d:aS Nat)(j:Nat):=
 match d with
 |some d=>bif (nth a.iss d).getD O then W else bif Nat.ble 4096 j then W else I (R6 d j)
 |none=>W
def AS.iC (st:AS)(d:aS Nat):=
 match d with
 |some d=>{st with iss:=kA st.iss d O}
 |none=>st
def AS.wD (a:AS)d(e:CT)b:=
 (a.iC d).put d (.one (.sl (.own (a.kL d 0)) e b))
def AC.borrow (g:Nat)(f:aS sn):AC->AC
 | .sl (.own a) e d=> .sl (.loc g (match f,a with|some r,I t=>I (r,t)|_,_=>W)) e d
 | .sl (.im a _ (I b)) e d=> .sl (.loc b (match f,a with|some r,I t=>I (r,t)|_,_=>W)) e d
 | .sl (.im _ _ W) _ _=> .bot
 |c=>c
def ll (a:Nat)(f:Nat->sn):Nat->Z AC->Z AC
 |_,[]=>[]
 |j,c::b=>c.borrow a (I (f j))::ll a f (j+1) b
def bz b(a:Z AC):=a.map (AC.borrow b W)
def AV.borrow (a:Nat)(f:Nat->sn):AV->AV
 | .val g b=> .val g (ll a f 0 b)
 | .DZ c=> .DZ (c.map λx=>(x.1,bz a x.2))
def AV.bz (a:Nat):AV->AV
 | .val g b=> .val g (Dn.bz a b)
 | .DZ c=> .DZ (c.map λx=>(x.1,Dn.bz a x.2))
def ofConst:Value->AV
 | .int k n=> .one (.int k n)
 | .bool b=> .one (.bool b)
 | .string s=> .one (.str s.data.toList)
 | .slice W 0 0=> .one .mP
 |_=> .bot
def AS.rd (a:AS):Operand->AV
 | .tmp t=>(a.get t).borrow a.ep (.slot t)
 | .const v=>ofConst v
 | .func f=> .one (.fn f)
 | .global _=> .bot
def AS.take (a:AS):Operand->AV×AS
 | .tmp t=>(a.get t,a.put (I t) ((a.get t).bz a.ep))
 |x=>(a.rd x,a)
def AS.gD (st:AS)s b:={st with boxes:=kA st.boxes s b}
def AC.asArg (d:Nat):AC->AC
 | .int k n=> .int k n
 | .bool b=> .bool b
 | .str s=> .str s
 | .sl (.own _) e a=> .sl (.arg G) e a
 | .sl (.loc c _) e a=>if c==d then .sl (.arg G) e a else .bot
 | .sl (.arg _) e a=> .sl (.arg G) e a
 | .mP=> .mP
 | .fn f=> .fn f
 |_=> .bot
def AV.asArg (b:Nat):AV->AV
 | .val g a=> .val g (a.map (AC.asArg b))
 | .DZ _=> .bot
def AC.L9 (d:Nat)(b:aS Nat):AC->AC
 | .sl (.own _) e a=> .sl (.own b) e a
 | .sl (.arg _) e a=> .sl (.loc d W) e a
 | .sl (.loc _ _) _ _=> .bot
 | .sl (.nest ..) _ _=> .bot
 | .sl (.part ..) _ _=> .bot
 | .sl (.im _ i _) e a=> .sl (.im W i W) e a
 | .ptr _ _=> .bot
 | .I7 _ _ _ _ _=> .bot
 |c=>c
def Rz (a:Nat)(mk:Nat->aS Nat):Nat->Z AC->Z AC
 |_,[]=>[]
 |j,c::b=>c.L9 a (mk j)::Rz a mk (j+1) b
def ai7 (a:Nat)(mk:Nat->aS Nat):Nat->Z (Bool×Z AC)->Z (Bool×Z AC)
 |_,[]=>[]
 |j,t::b=>(t.1,Rz a mk j t.2)::ai7 a mk (j+t.2.length) b
def AV.L9 (a:Nat)(mk:Nat->aS Nat):AV->AV
 | .val g b=> .val g (Rz a mk 0 b)
 | .DZ c=> .DZ (ai7 a mk 0 c)
def AC.Qq:AC->Bool
 | .sl (.arg _) _ _=>O
 | .int ..=>O
 | .bool _=>O
 | .str _=>O
 | .fn _=>O
 |_=>G
structure JD where
 R:Type
 fn:List AV->Option R
 av:R->AV
 io:Bool:=G
 back:R->List AC:=λ_=>[]
 bx:Bool:=G
 pr:Bool:=G
 sel:R->Bool:=λ_=>O
 alt:R->AV:=λ_=> .val G [.bot]
 cur:Bool:=G
 hcur:cur=O->∀y,(back y).all AC.Qq=true:=by intro h;cases h
def JD.res (F:JD)y:=cond (F.sel y) (F.av y) (F.alt y)
abbrev IY:=Nat->JD
def JD.dead:JD:={R:=Unit,fn:=λ_=>W,av:=λ_=> .val G [.bot]}
def IY.calm (Y:IY):IY:=λf=>bif (Y f).io||(Y f).bx||(Y f).pr then JD.dead else Y f
def IY.Qh (Y:IY):IY:=λf=>bif (Y f).io||(Y f).pr||((Y f).bx&& !(Y f).cur) then JD.dead else Y f
def Q7 {R:Type}(op:BinOp)(k:IntKind)(x y:Int)(K:AC->aS R):=
 match op with
 | .add=>K (.int k (k.wrap (x+y)))
 | .sub=>K (.int k (k.wrap (x-y)))
 | .mul=>K (.int k (k.wrap (x*y)))
 | .quo=>if y=0 then W else K (.int k (k.wrap (x.tdiv y)))
 | .rem=>if y=0 then W else K (.int k (x.tmod y))
 | .and=>K (.int k (k.wrap (BitVec.ofInt k.bits x&&&BitVec.ofInt k.bits y).toNat))
 | .or=>K (.int k (k.wrap (BitVec.ofInt k.bits x|||BitVec.ofInt k.bits y).toNat))
 | .xor=>K (.int k (k.wrap (BitVec.ofInt k.bits x^^^BitVec.ofInt k.bits y).toNat))
 | .andNot=>K (.int k (k.wrap (BitVec.ofInt k.bits x&&&~~~ BitVec.ofInt k.bits y).toNat))
 | .eql=>K (.bool (x==y))
 | .neq=>K (.bool (x !=y))
 | .lss=>K (.bool (ay (x<y)))
 | .leq=>K (.bool (ay (x<=y)))
 | .gtr=>K (.bool (ay (x>y)))
 | .geq=>K (.bool (ay (x>=y)))
 |_=>W
def UM {R}(op:BinOp)(x y:Z UInt8)(K:AC->aS R):=
 match op with
 | .add=>room (x.length+y.length) (K (.str (x++y)))
 | .eql=>K (.bool (x==y))
 | .neq=>K (.bool (!(x==y)))
 | .lss=>K (.bool (Op.bytesLess x y))
 | .leq=>K (.bool (Op.bytesLess x y||x==y))
 | .gtr=>K (.bool (!(Op.bytesLess x y||x==y)))
 | .geq=>K (.bool (!(Op.bytesLess x y)))
 |_=>W
def Cy:Z AC->Z AC->aS Bool
 |[],[]=>I O
 | .int k x::r,.int c y::a=>if k=c then(Cy r a).bind λb=>I ((x==y)&&b) else W
 | .bool x::r,.bool y::a=>(Cy r a).bind λb=>I ((x==y)&&b)
 | .str x::r,.str y::a=>(Cy r a).bind λb=>I ((x==y)&&b)
 |_,_=>W
def OI {R}(op:BinOp)(x y:AV)(K:AC->aS R):=
 match x,y with
 | .val G [.int k a],.val G [.int e b]=>
   match op with
   | .shl=>if b<0 then W else K (.int k (k.wrap (a*2^(min b.toNat k.bits))))
   | .shr=>if b<0 then W else K (.int k (a.fdiv (2^(min b.toNat k.bits))))
   |_=>if k=e then Q7 op k a b K else W
 | .val G [.str a],.val G [.str b]=>UM op a b K
 | .val G [.bool a],.val G [.bool b]=>
   match op with
   | .eql=>K (.bool (a==b))
   | .neq=>K (.bool (!(a==b)))
   |_=>W
 | .val O c,.val O d=>
   match op with
   | .eql=>U (Cy c d) λb=>K (.bool b)
   | .neq=>U (Cy c d) λb=>K (.bool (!b))
   |_=>W
 |_,_=>W
def unC {R}(op:UnOp)(x:AV)(K:AC->aS R):=
 match op,x with
 | .not,.val G [.bool b]=>K (.bool (!b))
 | .neg,.val G [.int k n]=>K (.int k (k.wrap (0-n)))
 | .xor,.val G [.int k n]=>Q7 .xor k (if k.signed then-1 else k.max) n K
 |_,_=>W
def fV (b:Z AC)a c:=b.take a++c++b.drop (a+c.length)
def AS.gN (b:AS):sn->aS AC
 | .slot s j=>match b.get s with| .val _ a=>nth a j|_=>W
 | .box s j=>((nth b.boxes s).getD W).bind λa=>nth a j
 | .io j=>nth b.io j
def AS.hZ (st:AS)(r:sn)(c:AC):=
 match r with
 | .slot s j=>match st.get s with| .val g a=>st.put (I s) (.val g (kA a j c))|_=>st
 | .box s j=>match (nth st.boxes s).getD W with|some a=>st.gD s (I (kA a j c))|none=>st
 | .io j=>{st with io:=kA st.io j c}
def AS.fresh (d:AS):AC->AC
 | .sl (.loc a (I (r,t))) e b=>
   bif a==d.ep then .sl (.loc a (I (r,t))) e b else
    match d.gN r with
    |some (.sl (.own (I g)) f i)=>if h:f=e then bif g==t then .sl (.loc d.ep (I (r,t))) e (h▸i) else .sl (.loc a (I (r,t))) e b else .sl (.loc a (I (r,t))) e b
    |_=> .sl (.loc a (I (r,t))) e b
 |c=>c
def AV.fresh (b:AS):AV->AV
 | .val g a=> .val g (a.map b.fresh)
 | .DZ c=> .DZ c
def AC.now (b:Nat):AC->Bool
 | .sl (.loc a (I _)) _ _=>a==b
 |_=>O
def AS.vW {R}(st:AS)(r:sn)(t:Nat)(e:CT)(i:Int)(a:Nat)(g:Z AC)(K:AS->aS R):aS R:=
 match st.gN r with
 |some (.sl (.own (I b)) d c)=>
  if h:d=e then
   if b=t then
    U (idx (h▸c:Z e.D) i) λx=>
     match mC e (fV (cellsOf e (.own W) x) a g)with
     |some (f,[])=>K {st.hZ r (.sl (.own (I b)) e ((h▸c:Z e.D).set i.toNat f))with ep:=st.ep+1}
     |_=>W
   else W
  else W
 |some (.sl (.im (I b) j _) d c)=>
  if h:d=e then
   if b=t/\a=0 then
    U (acn (h▸c:Z e.D) j i) λ_=>
     match mC e g with
     |some (f,[])=>K {st.hZ r (.sl (.own (I b)) e ((h▸c:Z e.D).set i.toNat f))with ep:=st.ep+1}
     |_=>W
   else W
  else W
 |_=>W
def AV.cells:AV->Z AC
 | .val _ a=>a
 | .DZ _=>[.bot]
def gQ (b:AS):Z Operand->Z AV×AS
 |[]=>([],b)
 |x::d=>let (v,a):=b.take x;let (c,M):=gQ a d;(v::c,M)
def Ku (e:CT):Z (Z AC)->aS (Z e.D)
 |[]=>I []
 |a::r=>match mC e a with
  |some (x,[])=>(Ku e r).bind λb=>I (x::b)
  |_=>W
def Q5:Nat->Z (Nat×Operand)->Bool
 |_,[]=>O
 |n,(i,_)::r=>i==n&&Q5 (n+1) r
def AC.RK:AC->Bool
 | .bot=>G
 | .un=>G
 |_=>O
def Eb (c:Z (Nat×Nat))(zero:Z AC):Z (Nat×Z AC)->aS (Z AC)
 |[]=>I zero
 |(i,b)::r=>match nth c i with
  |some (a,n)=>if b.length=n/\a+n<=zero.length/\b.all AC.RK then Eb c (fV zero a b) r else W
  |none=>W
inductive LK where
 |int|bool|str
 deriving DecidableEq
structure Env where
 ty:List (Nat×Shape)
 eqs:List (Nat×List LK):=[]
 fts:List ((Nat×Nat)×Nat):=[]
def aaB (l:Z (Nat×Z LK))(t:Nat):=
 match l with
 |[]=>W
 |(u,a)::r=>bif u==t then I a else aaB r t
def fits:Z LK->Z AC->Bool
 |[],[]=>O
 | .int::a,.int _ _::r=>fits a r
 | .bool::a,.bool _::r=>fits a r
 | .str::a,.str _::r=>fits a r
 |_,_=>G
def afd (l:Z ((Nat×Nat)×Nat))(S f:Nat):=
 match l with
 |[]=>W
 |((u,k),T)::r=>bif u==S&&k==f then I T else afd r S f
def lV (l:Z (Nat×Shape))(t:Nat):=
 match l with
 |[]=>W
 |(u,a)::r=>bif u==t then I a else lV r t
def Env.sl (E:Env)(t:Nat):aS CT:=
 match lV E.ty t with
 |some ⟨G,.sl e,_⟩=>I e
 |_=>W
def Env.str (E:Env)(t:Nat):Bool:=
 match lV E.ty t with
 |some ⟨G,.str,_⟩=>O
 |_=>G
def Env.bool (E:Env)(t:Nat):Bool:=
 match lV E.ty t with
 |some ⟨G,.bool,_⟩=>O
 |_=>G
def Env.bytes (E:Env)(t:Nat):Bool:=
 match lV E.ty t with
 |some ⟨G,.sl (.int .u8),[(a,_)]⟩=>match lV E.ty a with|some ⟨G,.int .u8,_⟩=>O|_=>G
 |_=>G
def BH.live (b:Nat):BH->Bool
 | .loc a _=>a==b
 | .arg _=>O
 | .own _=>G
 | .nest ..=>G
 | .part ..=>G
 | .im ..=>G
def BH.qn (b:Nat)(flat:Bool):BH->Bool
 | .loc a _=>a==b&&flat
 | .arg _=>flat
 | .own _=>O
 | .nest ..=>G
 | .part ..=>G
 | .im ..=>G
def BH.bare:BH->BH
 | .loc a _=> .loc a W
 |f=>f
def AC.mj:AC->Bool
 | .int _ _=>O
 | .bool _=>O
 | .str _=>O
 | .fn _=>O
 |_=>G
def tm:Operand->gw
 | .tmp t=>[t]
 |_=>[]
def Zw (l:Z Operand):=l.flatMap tm
def NJ (Q:An)(o:Oper):=
 match o.dst with
 |some d=>Q.mv.contains d&&(Q.mb d).isNone
 |none=>G
def auO (Q:An)(o:Oper):=
 match o.dst with
 |some d=>Q.nils.contains d
 |none=>G
def Ii (Q:An)(o:Oper):=
 match o.op with
 | .assign (.tmp s)=>Q.late.contains s
 | .store _ _ (.tmp s)=>Q.late.contains s
 |_=>G
def tmO:aS Operand->gw
 |some x=>tm x
 |none=>[]
def fB (o:Oper):gw:=
 match o.op with
 | .move x=>tm x
 | .assign x=>tm x
 | .pick c a b=>tm c++tm a++tm b
 | .box _ x=>tm x
 | .load _ p=>tm p
 | .store _ p x=>tm p++tm x
 | .nilCheck x=>tm x
 | .binOp _ _ x y _=>tm x++tm y
 | .unOp _ _ x=>tm x
 | .fieldAddr _ p _=>tm p
 | .indexAddr _ x i=>tm x++tm i
 | .index _ x i=>tm x++tm i
 | .build _ parts=>Zw (parts.toList.map (·.2))
 | .buildSlice _ _ parts=>Zw (parts.toList.map (·.2))
 | .makeSlice _ n c=>tm n++tm c
 | .slice _ x e d W=>tm x++tmO e++tmO d
 | .convert _ _ x=>tm x
 | .extract (.tmp t) _=>[t]
 | .call {callee:=.builtin _,args,..}=>Zw args.toList
 | .call {callee:=.value f,args,..}=>tm f++Zw args.toList
 |_=>[]
def NH (Q:An)(o:Oper):=
 match o.op with
 | .move _=>match o.dst with|some d=>Q.mv.contains d|none=>G
 | .assign _=>O
 | .box ..=>O
 | .build ..=>O
 | .buildSlice ..=>O
 | .store ..=>O
 | .extract ..=>match o.dst with|some d=>Q.mv.contains d|none=>G
 | .call {callee:=.builtin .append,..}=>O
 |_=>G
def NG (Q:An)(o:Oper):=
 match o.op,o.dst,o.guard with
 | .load _ (.tmp q),I d,W=>Q.mv.contains d&&(Q.mb d).isNone&&(Q.eb q).isSome
 |_,_,_=>G
def Jl (Q:An)(o:Oper):=
 match o.op,o.dst,o.guard with
 | .load _ (.tmp q),I d,W=> !Q.mv.contains d&& !Q.fm.contains d&&(Q.sb q).isSome
 |_,_,_=>G
def NM (Q:An)(o:Oper):gw:=
 match o.op with
 | .alloc _=>o.dst.toList
 | .box ..=>o.dst.toList
 | .load _ p=>match o.dst with|some d=>bif Q.mv.contains d then(Q.mb d).toList++(bif NG Q o then(match p with| .tmp q=>(Q.eb q).toList|_=>[]) else []) else []|none=>[]
 | .store _ (.tmp p) _=>(Q.sb p).toList
 | .call {callee:=.value _,args,..}=>(match args.toList with| .tmp q::_=>(Q.sb q).toList|_=>[])
 |_=>[]
def td (Q:An)(o:Oper):=
 match o.op with
 | .move _=>O
 | .load ..=>(match o.dst with|some d=> !Q.mv.contains d||(Q.mb d).isSome|none=>G)||NG Q o
 | .extract (.tmp _) _=>O
 | .store _ (.tmp p) _=>(Q.sb p).isSome&& !Ii Q o
 | .assign _=> !Ii Q o
 | .pick ..| .alloc _| .box ..| .nilCheck _| .binOp ..| .unOp ..| .fieldAddr ..| .indexAddr ..| .index ..| .build ..| .buildSlice ..| .makeSlice ..| .convert ..=>O
 | .slice _ _ _ _ W=> !NJ Q o
 | .call {callee:=.builtin .len,..}| .call {callee:=.builtin .min,..}| .call {callee:=.builtin .max,..}| .call {callee:=.builtin .append,..}=>O
 | .call {callee:=.value _,..}=>O
 |_=>G
def writes (Q:An)(o:Oper):gw:=o.dst.toList++(bif NH Q o then fB o else [])
def AV.now (b:Nat):AV->Bool
 | .val _ a=>a.all (AC.now b)
 | .DZ _=>O
def AC.py:AC->Bool
 | .int ..=>O
 | .bool _=>O
 | .str _=>O
 | .fn _=>O
 | .ptr ..=>O
 |_=>G
def AV.py:AV->Bool
 | .val _ a=>a.all AC.py
 | .DZ _=>G
def MO (E:Env)(T:TypeId)(d:AS)(s a:Nat):Bool:=
 match lV E.ty T,(nth d.boxes s).getD W with
 |some c,I b=>((b.drop a).take c.ct.size).all AC.py
 |_,_=>G
def fmB (Q:An)(o:Oper):=match o.dst with|some d=>Q.fm.contains d|none=>G
def J1 (Q:An)(o:Oper):=
 match o.op,o.dst,o.guard with
 | .load _ (.tmp _),I d,W=>Q.mv.contains d&&(Q.mb d).isSome
 |_,_,_=>G
def Wy (Q:An)(o:Oper):=
 match o.op,o.dst,o.guard with
 | .load _ (.tmp _),I d,W=> !Q.mv.contains d&&Q.fm.contains d
 |_,_,_=>G
def erS (Q:An)(o:Oper):=
 match o.op,o.dst with
 | .load ..,I d=>(Q.er d).toList
 | .call {callee:=.value _,..},I d=>(Q.er d).toList
 |_,_=>[]
def AC.aqI (l:gw):AC->Bool
 | .sl (.loc _ (I (.slot b _,_))) _ _=>l.contains b
 | .sl (.loc _ _) _ _=>G
 |_=>O
def RE (l:gw)(b:AS):Operand->Bool
 | .tmp t=>(match b.get t with| .val _ a=>a.all (AC.aqI l)| .DZ _=>O)
 |_=>O
def ao1 (Q:An)(X l:gw)(a:AS)(c:Z Operand)(q:Nat):AV->Bool
 | .val G [.ptr s _]=> !X.contains s&&Q.sb q==I s&&(match (nth a.boxes s).getD W with|some b=>b.all AC.Qq|none=>O)&&c.all (RE l a)
 |_=>O
def AV.akJ:AV->Bool
 | .val G [.ptr _ _]=>G
 |_=>O
def AO (Q:An)(X l:gw)(a:AS):Z Operand->Bool
 | .tmp q::b=>ao1 Q X l a b q (a.rd (.tmp q))
 |x::_=>(a.rd x).akJ
 |[]=>O
def fb E Q(X:gw)(o:Oper)(a:AS):=
 match o.op with
 | .move x=> !fmB Q o||(a.rd x).py
 | .indexAddr _ x _=>(a.rd x).now a.ep||(match a.rd x with| .val _ [.sl (.loc _ (I (.box b _,_))) _ _]=> !X.contains b|_=>G)
 | .slice _ x _ _ W=>(a.rd x).now a.ep
 | .call {callee:=.value _,args,..}=>AO Q X (erS Q o) a args.toList&&args.toList.all λx=>(a.rd x).now a.ep
 | .load T p=>match a.rd p with
   | .val G [.ptr s e]=> !X.contains s&&(match o.dst with|some d=> !Q.mv.contains d||Q.mb d==I s|none=>O)&&(!fmB Q o||MO E T a s e)
   | .val G [.I7 c _ _ _ _]=>(c.live a.ep||(match c with
     | .loc _ (I (.slot b _,_))=>(erS Q o).contains b
     | .loc _ (I (.box b _,_))=> !X.contains b
     |_=>G))&& !(fmB Q o||J1 Q o)&& !Jl Q o&&(!NG Q o||(match p,c with
     | .tmp q,.loc _ (I (.box b _,_))=>Q.eb q==I b&& !X.contains b
     |_,_=>G))
   |_=> !(fmB Q o||J1 Q o)
 | .store _ (.tmp p) _=>((Q.sb p).isNone&&(Q.eb p).isNone&&(Q.es p).isNone)||(match a.rd (.tmp p)with
   | .val G [.ptr s _]=> !X.contains s&&Q.sb p==I s
   | .val G [.I7 (.loc _ (I (.box b _,_))) _ _ _ _]=>Q.eb p==I b&&(Q.sb p).isNone&&(Q.es p).isNone
   | .val G [.I7 (.loc _ (I (.slot b _,_))) _ _ _ _]=>Q.es p==I b&&(Q.sb p).isNone&&(Q.eb p).isNone
   |_=>G)
 | .extract (.tmp t) i=>match a.get t with
   | .DZ f=>match nth f i with|some x=>x.2.all AC.mj||(match o.dst with|some d=>Q.mv.contains d|none=>G)|none=>O
   |_=>O
 |_=>O
def MV Q(a:Z Oper)o:=
 (match o.guard with
 |some (j,_)=>((nth a j).bind (·.dst)).toList
 |none=>[])++erS Q o
def meets (a b:gw):=a.any λx=>b.contains x
def ag7 Q a(X Y:gw)o p:=
 td Q o&&td Q p&& !meets (writes Q o) (fB p++MV Q a p++writes Q p)&& !meets (writes Q p) (fB o++MV Q a o)&&
 (NM Q o).all (λd=>Y.contains d)&&(NM Q p).all (λd=>X.contains d)&& !meets (NM Q o) (p.dst.toList++NM Q p)&& !meets (NM Q p) o.dst.toList
def ahC (o p:Oper):=
 match o.op,p.op,o.dst,p.dst,o.guard,p.guard with
 | .extract (.tmp t) i,.extract (.tmp b) j,I d,I a,W,W=>t==b&& !(i==j)&& !(d==a)&& !(d==t)&& !(a==t)
 |_,_,_,_,_,_=>G
def ahy (Q:An)(o p:Oper):=
 match p.op,p.dst,p.guard with
 | .store _ (.tmp q) (.tmp x),W,W=>((Q.eb q).isSome&&(Q.es q).isNone||(match Q.es q with|some b=>(Q.eb q).isNone&& !(b==x)&& !(b==q)&& !meets [b] (o.dst.toList++fB o)|none=>G))&&(Q.sb q).isNone&& !Ii Q p&&(match o.op,o.dst,o.guard with
   | .move (.tmp t),I d,W=> !Q.mv.contains d&&Q.fm.contains d&& !(d==q)&& !(d==x)&& !(t==x)&& !(t==q)&& !(d==t)
   | .extract (.tmp t) _,I d,W=> !(d==q)&& !(d==x)&& !(t==x)&& !(t==q)&& !(d==t)
   |_,_,_=>G)
 |_,_,_=>G
def aix Q o p:=
 (J1 Q o&&Wy Q p||Wy Q o&&J1 Q p)&& !meets o.dst.toList (p.dst.toList++fB p)&& !meets p.dst.toList (fB o)
def ahk Q o p:=Jl Q o&&NG Q p&& !meets o.dst.toList (p.dst.toList++fB p)&& !meets p.dst.toList (fB o)
def aqq Q o p:=ahC o p||ahy Q o p||aix Q o p||ahk Q o p
def VV Q a X Y o p:=aqq Q o p||ag7 Q a X Y o p
def Jn (o:Oper):=(o.after.toList.filter (λe=>Region.binds .any e)).map (·.on)
def adq (a b:gw):=a.foldl (λs x=>bif s.contains x then s else x::s) b
def adD:Z Oper->Z gw->Z gw
 |[],a=>a
 |o::r,a=>adD r (a++[(Jn o).foldl (λs j=>adq (j::(nth a j).getD []) s) []])
def anf A(i k:Nat):=((nth A i).getD []).contains k
def aj4 (Q:An)(A:Z gw)(i:Nat)(a b:Bool):Nat->Z Oper->gw
 |_,[]=>[]
 |k,o::r=>(bif !anf A i k&& !anf A k i&& !(k==i)&& !(a&&J1 Q o)&& !(b&&NG Q o) then NM Q o else [])++aj4 Q A i a b (k+1) r
def Ag Q A i k a:=aj4 Q A i (match nth a i with|some o=>Wy Q o|none=>G) (match nth a i with|some o=>Jl Q o|none=>G) k a
def Xx (Q:An)(a:Z Oper)(A:Z gw)(i:Nat)(b:Oper):Nat->Z Oper->Bool
 |_,[]=>O
 |j,c::r=>bif Nat.ble i j then O else(anf A i j||VV Q a (Ag Q A j 0 a) (Ag Q A i 0 a) c b)&&Xx Q a A i b (j+1) r
def acO (Q:An)(a:Z Oper)(A:Z gw):Nat->Z Oper->Bool
 |_,[]=>O
 |i,b::r=>(Jn b).all (λk=>Nat.blt k i)&&Xx Q a A i b 0 a&&acO Q a A (i+1) r
def adY Q a:=acO Q a (adD a []) 0 a
inductive Ex where
 |normal|ret|exit (id:Nat)
inductive FK where
 |own (tag:Option Nat)|arg|arv|loc|lio (j t:Nat)|nil
def FK.flag:FK->BH
 | .own t=> .own t
 | .arg=> .arg G
 | .arv=> .arg O
 | .loc=> .loc 0 W
 | .lio j t=> .loc 0 (I (.io j,t))
 | .nil=> .arg G
def FK.isNil:FK->Bool
 | .nil=>O
 |_=>G
inductive FT where
 |int (k:IntKind)|bool|str|sl (fl:FK) (e:CT)|pair (a b:FT)
abbrev FT.ct:FT->CT
 | .int k=> .int k
 | .bool=> .bool
 | .str=> .str
 | .sl _ e=> .sl e
 | .pair a b=> .pair a.ct b.ct
def lY:(t:FT)->t.ct.D->Z AC
 | .int k,n=>[.int k n]
 | .bool,b=>[.bool b]
 | .str,s=>[.str s]
 | .sl c e,d=>[bif c.isNil then .mP else .sl c.flag e d]
 | .pair a b,x=>lY a x.1++lY b x.2
def FK.fits:FK->BH->Bool
 | .own t,.own a=>t==a
 | .arg,.arg k=> !k
 | .arv,.arg k=>k
 | .loc,.loc 0 W=>O
 | .lio j t,.loc 0 (I (.io b,a))=>j==b&&t==a
 |_,_=>G
def Vz:(t:FT)->Z AC->aS (t.ct.D×Z AC)
 | .int k,.int i n::r=>if i=k then I (n,r) else W
 | .bool,.bool b::r=>I (b,r)
 | .str,.str s::r=>I (s,r)
 | .sl c e,.sl d g j::r=>if h:g=e then bif c.fits d then I (h▸j,r) else W else W
 | .sl c _,.mP::r=>bif c.isNil then I ([],r) else W
 | .pair a b,f=>(Vz a f).bind λx=>(Vz b x.2).bind λy=>I ((x.1,y.1),y.2)
 |_,_=>W
inductive PD where
 |bot|ptr (s off:Nat)|fn (f:Nat)|data (g:Bool) (t:FT)
inductive IoD where
 |none|some (t:FT)|ptr
structure SD where
 slots:List PD
 boxes:List (Option FT)
 io:IoD:=.none
abbrev LG:Z PD->Type
 |[]=>Unit
 | .data _ t::r=>t.ct.D×LG r
 |_::r=>LG r
abbrev K0:Z (aS FT)->Type
 |[]=>Unit
 |some t::r=>t.ct.D×K0 r
 |none::r=>K0 r
abbrev ioD:IoD->Type
 | .none=>Unit
 | .some t=>t.ct.D
 | .ptr=>Unit
abbrev SD.D (d:SD):=LG d.slots×K0 d.boxes×ioD d.io
def Aj:(l:Z PD)->LG l->Z AV
 |[],_=>[]
 | .data g t::r,x=> .val g (lY t x.1)::Aj r x.2
 | .bot::r,x=> .bot::Aj r x
 | .ptr s a::r,x=> .one (.ptr s a)::Aj r x
 | .fn f::r,x=> .one (.fn f)::Aj r x
def Kd:(l:Z (aS FT))->K0 l->Z (aS (Z AC))
 |[],_=>[]
 |some t::r,x=>I (lY t x.1)::Kd r x.2
 |none::r,x=>W::Kd r x
def ao4:(o:IoD)->ioD o->Z AC
 | .none,_=>[]
 | .some t,x=>lY t x
 | .ptr,_=>[.ptr 0 0]
def SD.enc (d:SD)(x:d.D):AS:=⟨Aj d.slots x.1,Kd d.boxes x.2.1,0,List.replicate d.slots.length G,ao4 d.io x.2.2⟩
def AV.akx:AV->Bool
 | .val G [.bot]=>O
 |_=>G
def AV.aky (s a:Nat):AV->Bool
 | .val G [.ptr c b]=>s==c&&a==b
 |_=>G
def AV.amF (f:Nat):AV->Bool
 | .val G [.fn a]=>f==a
 |_=>G
def nE:(l:Z PD)->Z AV->aS (LG l)
 |[],[]=>I ()
 | .data g t::r,.val d c::a=>bif g==d then(match Vz t c with|some (x,[])=>(nE r a).bind λy=>I (x,y)|_=>W) else W
 | .bot::r,v::a=>bif v.akx then nE r a else W
 | .ptr s b::r,v::a=>bif v.aky s b then nE r a else W
 | .fn f::r,v::a=>bif v.amF f then nE r a else W
 |_,_=>W
def xB:(l:Z (aS FT))->Z (aS (Z AC))->aS (K0 l)
 |[],[]=>I ()
 |some t::r,I a::bs=>match Vz t a with|some (x,[])=>(xB r bs).bind λy=>I (x,y)|_=>W
 |none::r,W::bs=>xB r bs
 |_,_=>W
def aip:Z AC->Bool
 |[.ptr 0 0]=>O
 |_=>G
def adW:(o:IoD)->Z AC->aS (ioD o)
 | .none,[]=>I ()
 | .some t,a=>match Vz t a with|some (x,[])=>I x|_=>W
 | .ptr,a=>bif aip a then I () else W
 |_,_=>W
def SD.dec (d:SD)(a:AS):aS d.D:=
 bif a.ep==0&&a.iss==List.replicate d.slots.length G then
  (nE d.slots a.slots).bind λx=>(xB d.boxes a.boxes).bind λy=>(adW d.io a.io).bind λz=>I (x,y,z)
 else W
structure VL where
 sd:SD
 run:{R:Type}->sd.D->(Ex->AS->Option R)->Option R
abbrev Qn:=Nat->VL
def VL.go {R}(l:VL)a(K:Ex->AS->aS R):=U (l.sd.dec a) λx=>l.run x K
def VL.none:VL:=⟨⟨[],[],.none⟩,λ_ _=>Option.none⟩
def Qn.nil:Qn:=λ_=>VL.none
def Qn.add (a:Qn)(k:Nat)(l:VL):Qn:=λj=>bif j==k then l else a j
section
variable {R:Type} (E:Env) (Y:IY) (Q:An)
def Ky (o:Oper)x(a:AS)(K:AS->aS R):=
 match o.dst with
 |some d=>if Q.mv.contains d then K ((a.take x).2.put o.dst (a.take x).1) else K (a.put o.dst (a.rd x))
 |none=>W
def Cs (o:Oper)(x:Operand)(b:AS)(K:AS->aS R):aS R:=
 match b.take x with
 |(.val G [.mP],_)=>match E.sl o.type with
  |some e=>K (b.put o.dst (.one (bif auO Q o then .mP else .sl (.own W) e [])))
  |none=>W
 |(v,a)=>K (a.put o.dst v)
def Nh (o:Oper)(c a b:Operand)(d:AS)(K:AS->aS R):aS R:=
 match d.rd c with
 | .val G [.bool t]=>match d.rd a,d.rd b with
   | .val G [.bool x],.val G [.bool y]=>K (d.put o.dst (.one (.bool (cond t x y))))
   |e,f=>cond t (K (d.put o.dst e)) (K (d.put o.dst f))
 |_=>W
def KY (o:Oper)(T:TypeId)(b:AS)(K:AS->aS R):aS R:=
 match o.dst,lV E.ty T with
 |some d,I a=>match nth b.boxes d with
  |some W=>K ((b.gD d (I (cellsOf a.ct (.own W) a.ct.zero))).put o.dst (.one (.ptr d 0)))
  |_=>W
 |_,_=>W
def abO (o:Oper)(x:Operand)(c:AS)(K:AS->aS R):aS R:=
 match o.dst,c.take x with
 |some d,(.val _ b,a)=>
  match nth a.boxes d with
  |some W=>if b.all AC.RK then K ((a.gD d (I b)).put o.dst (.one (.ptr d 0))) else W
  |_=>W
 |_,_=>W
def acK (b:Nat)(r:sn)(t:Nat)(e:CT)(i:Int):Nat->Z AC->Z AC
 |_,[]=>[]
 |p,.sl _ d f::a=> .sl (.nest b r t e i p) d f::acK b r t e i (p+1) a
 |p,c::a=>c::acK b r t e i (p+1) a
def aqb (o:Oper)c(f:BH)(e:CT)(i:Int)(b:Nat)(a:Z AC):=
 match f,o.dst with
 | .loc _ (I (r,t)),I d=>bif Q.nest.contains d then acK c r t e i b a else a
 |_,_=>a
def LQ (o:Oper)(b:Shape)(f:BH)(e:CT)(i:Int)(a:Nat)(c:AS)(K:AS->aS R):=
 match f with
 | .loc _ (I (r,t))=>
   match c.gN r with
   |some (.sl (.own (I g)) d j)=>
    if h:d=e then
     if g=t/\a+b.ct.size<=e.size then
      U (idx (h▸j:Z e.D) i) λy=>K (c.put o.dst (.val b.agg (((cellsOf e (.loc c.ep W) y).drop a).take b.ct.size)))
     else W
    else W
   |_=>W
 |_=>W
def Ge (o:Oper)(c:Shape)(g:BH)(e:CT)(i:Int)(a:Nat)(b:AS)(K:AS->aS R):=
 match g with
 | .loc _ (I (r,t))=>
   match b.gN r with
   |some (.sl (.own (I j)) f d)=>
    if h:f=e then
     if j=t/\a=0/\c.ct=e then
      U (idx (h▸d:Z e.D) i) λy=>K ((b.hZ r (.sl (.im (I t) i (I b.ep)) e (h▸d))).put o.dst (.val c.agg (cellsOf e (.own W) y)))
     else W
    else W
   |_=>W
 |_=>W
def vD (o:Oper)(T:TypeId)(p:Operand)(c:AS)(K:AS->aS R):aS R:=
 match lV E.ty T,c.rd p with
 |some b,.val G [.ptr s a]=>
  match (nth c.boxes s).getD W with
  |some f=>
   if a+b.ct.size<=f.length then
    match o.dst with
    |some d=>
     if Q.mv.contains d then
      K ((c.gD s (I (fV f a (bz c.ep ((f.drop a).take b.ct.size))))).put o.dst (.val b.agg ((f.drop a).take b.ct.size)))
     else K (c.put o.dst (.val b.agg (ll c.ep (.box s) a ((f.drop a).take b.ct.size))))
    |none=>W
   else W
  |none=>W
 |some b,.val G [.I7 g e x i a]=>
  if NJ Q o then Ge o b g e i a c K
  else if g.live c.ep then
   if a+b.ct.size<=e.size then K (c.put o.dst (.val b.agg (aqb Q o c.ep g e i a (((cellsOf e g.bare x).drop a).take b.ct.size)))) else W
  else LQ o b g e i a c K
 |_,_=>W
def EP (T:TypeId)(p x:Operand)(f:AS)(K:AS->aS R):aS R:=
 match lV E.ty T,f.rd p with
 |some d,.val G [.ptr s a]=>
  match f.take x with
  |(.val _ c,b)=>
   match (nth b.boxes s).getD W with
   |some g=>
    if c.length=d.ct.size/\c.all AC.RK then
     if a+d.ct.size<=g.length then K (b.gD s (I (fV g a c))) else W
    else W
   |none=>W
  |_=>W
 |some d,.val G [.I7 (.loc _ (I (r,t))) e _ i a]=>
  match f.take x with
  |(.val _ c,b)=>
   if c.length=d.ct.size/\a+d.ct.size<=e.size then b.vW r t e i a c K else W
  |_=>W
 |_,_=>W
def HY (o:Oper)(S:TypeId)(p:Operand)(f:Nat)(c:AS)(K:AS->aS R):aS R:=
 match lV E.ty S,c.rd p with
 |some ⟨O,_,b⟩,.val G [.ptr s a]=>match nth b f with|some (fo,_)=>K (c.put o.dst (.one (.ptr s (a+fo))))|none=>W
 |some ⟨O,_,b⟩,.val G [.I7 d e x i a]=>match nth b f with|some (fo,_)=>K (c.put o.dst (.one (.I7 d e x i (a+fo))))|none=>W
 |_,_=>W
def qY (o:Oper)(T:TypeId)(x i:Operand)(a:AS)(K:AS->aS R):aS R:=
 match E.sl T,(a.rd x).fresh a,a.rd i with
 |some c,.val G [.sl b e d],.val G [.int _ n]=>
  if c=e/\b.live a.ep then U (idx d n) λy=>K (a.put o.dst (.one (.I7 b e y n 0))) else W
 |_,_,_=>W
def JO (o:Oper)(T:TypeId)(x i:Operand)(a:AS)(K:AS->aS R):aS R:=
 match a.rd x,a.rd i with
 | .val G [.str s],.val G [.int _ n]=>if E.str T then U (idx s n) λb=>K (a.put o.dst (.one (.int .u8 b.toNat))) else W
 |_,_=>W
def JF (o:Oper)(T:TypeId)(parts:Z (Nat×Operand))(d:AS)(K:AS->aS R):aS R:=
 match lV E.ty T with
 |some ⟨O,ct,c⟩=>
  match gQ d (parts.map (·.2))with
  |(e,a)=>
   match Eb c (cellsOf ct (.own W) ct.zero) ((parts.map (·.1)).zip (e.map AV.cells))with
   |some b=>K (a.put o.dst (.val O b))
   |none=>W
 |_=>W
def qg (o:Oper)(T:TypeId)(len:Nat)(parts:Z (Nat×Operand))(b:AS)(K:AS->aS R):aS R:=
 match E.sl T with
 |some e=>
  if parts.length=len/\Q5 0 parts/\len<=1000 then
   match gQ b (parts.map (·.2))with
   |(c,a)=>
    match Ku e (c.map AV.cells)with
    |some d=>K (a.wD o.dst e d)
    |none=>W
  else W
 |none=>W
def uF (o:Oper)(T:TypeId)(n c:Operand)(b:AS)(K:AS->aS R):aS R:=
 match E.sl T,b.rd n,b.rd c with
 |some e,.val G [.int .i64 len],.val G [.int .i64 a]=>
  if 0<=len/\len<=a then room a.toNat (K (b.wD o.dst e (List.replicate len.toNat e.zero))) else W
 |_,_,_=>W
def rG (c:AS)(e d:aS Operand)(n:Nat)(K:Int->Int->aS R):aS R:=
 match e.map c.rd,d.map c.rd with
 |none,W=>K 0 n
 |some (.val G [.int _ a]),W=>K a n
 |none,I (.val G [.int _ b])=>K 0 b
 |some (.val G [.int _ a]),I (.val G [.int _ b])=>K a b
 |_,_=>W
def EF (o:Oper)(T:TypeId)(x:Operand)(h g:aS Operand)(d:AS)(K:AS->aS R):aS R:=
 match d.take x,h.map d.rd,g with
 |(.val G [.sl (.own _) e f],b),I (.val G [.int _ a]),W=>
  if E.sl T=I e then U (sub f a f.length) λc=>K (b.wD o.dst e c) else W
 |_,_,_=>W
def Xy (o:Oper)(b:BH)(a:Int):BH:=
 match b,o.dst with
 | .loc c (I (r,t)),I d=>bif Q.nest.contains d then .part c r t a else .loc c W
 |b,_=>b.bare
def Ix o T x f d c(K:AS->aS R):=
 if NJ Q o then EF E o T x f d c K else
 match (c.rd x).fresh c with
 | .val G [.str s]=>if E.str T then rG c f d s.length λa b=>U (sub s a b) λj=>K (c.put o.dst (.one (.str j))) else W
 | .val G [.sl h e i]=>
   if E.sl T=I e/\h.live c.ep then rG c f d i.length λa b=>U (sub i a b) λg=>K (c.put o.dst (.one (.sl (Xy Q o h a) e g))) else W
 |_=>W
def qi (o:Oper)(src dst:TypeId)(x:Operand)(a:AS)(K:AS->aS R):aS R:=
 match lV E.ty src,lV E.ty dst,a.rd x with
 |some _,I ⟨G,.int k,_⟩,.val G [.int _ n]=>K (a.put o.dst (.one (.int k (k.wrap n))))
 |some ⟨G,.str,_⟩,I ⟨G,.str,_⟩,.val G [.str s]=>K (a.put o.dst (.one (.str s)))
 |some ⟨G,.str,_⟩,I _,.val G [.str s]=>
  if E.bytes dst then room s.length (K (a.wD o.dst (.int .u8) (dU s))) else W
 |some _,I ⟨G,.str,_⟩,.val G [.sl b (.int .u8) c]=>
  if E.bytes src/\b.live a.ep then K (a.put o.dst (.one (.str (aZ c)))) else W
 |_,_,_=>W
def qm (o:Oper)(t i:Nat)(b:AS)(K:AS->aS R):aS R:=
 match b.get t with
 | .DZ c=>match nth c i with
   |some (g,a)=>K ((b.put (I t) (.DZ (kA c i (g,bz 0 a)))).put o.dst (.val g a))
   |none=>W
 |_=>W
def Xj (o:Oper)(c:Z TypeId)(a:Z Operand)(b:AS)(K:AS->aS R):aS R:=
 match c,a.map b.rd with
 |[t],[.val G [.str s]]=>if E.str t then K (b.put o.dst (.one (.int .i64 s.length))) else W
 |[t],[.val G [.sl _ _ d]]=>if(E.sl t).isSome then K (b.put o.dst (.one (.int .i64 d.length))) else W
 |_,_=>W
def Zc (o:Oper)(a:Z Operand)(b:AS)(K:AS->aS R):aS R:=
 match a.map b.rd with
 |[.val G [.int k x],.val G [.int _ y]]=>K (b.put o.dst (.one (.int k (if y<x then y else x))))
 |_=>W
def Zb (o:Oper)(a:Z Operand)(b:AS)(K:AS->aS R):aS R:=
 match a.map b.rd with
 |[.val G [.int k x],.val G [.int _ y]]=>K (b.put o.dst (.one (.int k (if y>x then y else x))))
 |_=>W
def ZJ (o:Oper)(j:Z TypeId)(a:Z Operand)(st:AS)(K:AS->aS R):aS R:=
 match j,a.map st.rd with
 |[t,i],[.val G [.sl (.part ep r c g) e d],.val G [.str s]]=>
  match st.gN r with
  |some (.sl (.own (I b)) f k)=>
   if h:f=.int .u8 then
    if e=.int .u8/\E.sl t=I (.int .u8)/\E.str i=O/\ep=st.ep/\b=c then
     K ({st.hZ r (.sl (.own (I c)) (.int .u8) (KB (h▸k:Z (CT.int .u8).D) g.toNat (dU (s.take d.length))))with ep:=st.ep+1}.put o.dst (.one (.int .i64 (min d.length s.length:Nat))))
    else W
   else W
  |_=>W
 |_,_=>W
def NZ (o:Oper)(S:TypeId)(t f:Nat)(b:AS)(K:AS->aS R):aS R:=
 match lV E.ty S,b.get t,afd E.fts S f with
 |some ⟨O,ct,d⟩,.val O a,I T=>
  match nth d f,lV E.ty T with
  |some (fo,n),I c=>
   if n=c.ct.size/\a.length=ct.size/\fo+n<=a.length then
    K ((b.put (I t) (.val O (fV a fo (bz b.ep ((a.drop fo).take n))))).put o.dst (.val c.agg ((a.drop fo).take n)))
   else W
  |_,_=>W
 |_,_,_=>W
def EV (o:Oper)(k:Z TypeId)(a:Z Operand)(d:AS)(K:AS->aS R):aS R:=
 match k,a with
 |[t,f],[s,x]=>
  match d.take s with
  |(.val G [.sl (.own _) e b],c)=>
   match c.take x with
   |(.val G [.sl j i g],M)=>
    if h:i=e then
     if E.sl t=I e/\E.sl f=I e/\j.qn d.ep e.flat then
      room (b.length+g.length) (K (M.wD o.dst e (b++(h▸g:Z e.D))))
     else W
    else W
   |(.val G [.str s],M)=>
    if h:e=.int .u8 then
     if E.sl t=I e/\E.str f then room (b.length+s.length) (K (M.wD o.dst (.int .u8) ((h▸b:Z (CT.int .u8).D)++dU s))) else W
    else W
   |_=>W
  |_=>W
 |_,_=>W
def Z9:Nat->Z AC->aS (sn×Nat)
 |_,[]=>W
 |j,.sl (.loc _ (I (r,_))) _ _::_=>I (r,j)
 |j,_::a=>Z9 (j+1) a
def sn.pos:sn->Nat
 | .slot _ j=>j
 | .box _ j=>j
 | .io j=>j
def AS.Rn (a:AS):sn->aS (Z AC)
 | .slot s _=>match a.get s with| .val _ b=>I b|_=>W
 | .box s _=>(nth a.boxes s).getD W
 | .io _=>I a.io
def AS.Nt (st:AS)(r:sn)(a:Z AC):=
 match r with
 | .slot s _=>match st.get s with| .val g _=>st.put (I s) (.val g a)|_=>st
 | .box s _=>st.gD s (I a)
 | .io _=>{st with io:=a}
def tj:Z AC->Z AC->aS (Z AC)
 |[],[]=>I []
 | .sl (.loc _ (I (_,t))) _ _::a,.sl (.own (I d)) e f::c=>bif d==t then(tj a c).bind λr=>I (.sl (.own W) e f::r) else W
 | .int k n::a,.int _ _::c=>(tj a c).bind λr=>I (.int k n::r)
 | .bool b::a,.bool _::c=>(tj a c).bind λr=>I (.bool b::r)
 | .str x::a,.str _::c=>(tj a c).bind λr=>I (.str x::r)
 |_,_=>W
def AV.mj:AV->Bool
 | .val _ a=>a.all AC.mj
 | .DZ b=>b.all λx=>x.2.all AC.mj
def abU (c:AS)(x:Operand):aS (AV×AS):=
 match c.rd x with
 | .val g b=>
   match Z9 0 b with
   |some (r,j)=>
    match c.Rn r with
    |some a=>
     match tj b ((a.drop (r.pos-j)).take b.length)with
     |some d=>I (.val g d,c.Nt r (fV a (r.pos-j) (bz c.ep ((a.drop (r.pos-j)).take b.length))))
     |none=>W
    |none=>W
   |none=>W
 |_=>W
def aax (o:Oper)(x:Operand)(b:AS)(K:AS->aS R):aS R:=
 match abU b x with
 |some (v,a)=>K (a.put o.dst v)
 |none=>W
def ER (T:TypeId)(p x:Operand)(f:AS)(K:AS->aS R):aS R:=
 match lV E.ty T,f.rd p with
 |some e,.val G [.ptr s a]=>
  match abU f x with
  |some (.val _ c,b)=>
   match (nth b.boxes s).getD W with
   |some d=>
    if c.length=e.ct.size/\c.all AC.RK then
     if a+e.ct.size<=d.length then K (b.gD s (I (fV d a c))) else W
    else W
   |none=>W
  |_=>W
 |_,_=>W
def AC.strip:AC->AC
 | .sl (.own _) e a=> .sl (.own W) e a
 | .sl (.loc _ _) _ _=> .bot
 | .sl (.nest ..) _ _=> .bot
 | .sl (.part ..) _ _=> .bot
 | .sl (.im _ i _) e a=> .sl (.im W i W) e a
 | .ptr _ _=> .bot
 | .I7 _ _ _ _ _=> .bot
 |c=>c
def AC.ain:AC->Bool
 | .sl (.own _) _ _=>O
 |c=>c.mj
def AC.Gx (k:Bool):AC->Bool
 | .sl (.own _) _ _=>O
 | .sl (.arg a) _ _=>a==k
 |c=>c.mj
def AC.adm:AC->AC
 | .sl (.own _) e a=> .sl (.own W) e a
 | .sl (.arg _) e a=> .sl (.arg O) e a
 |c=>c.strip
def AC.ati (k:Bool)(a:aS Nat):AC->AC
 | .sl (.own _) e b=> .sl (.own a) e b
 | .sl (.arg _) e b=> .sl (.arg k) e b
 |c=>c
def we (k:Bool)(mk:Nat->aS Nat):Nat->Z AC->Z AC
 |_,[]=>[]
 |j,c::a=>c.ati k (mk j)::we k mk (j+1) a
def L8 (a:Z AC):=a.any λc=>match c with| .sl (.arg k) _ _=>k|_=>G
def AC.Su:AC->Bool
 | .sl (.arg k) _ _=> !k
 |c=>c.mj
def AV.Su:AV->Bool
 | .val _ a=>a.all AC.Su
 | .DZ _=>G
def AS.Y8 (d:AS):AC->AC
 | .sl (.own _) e a=> .sl (.arg G) e a
 | .sl (.arg _) e a=> .sl (.arg G) e a
 | .sl (.loc _ (I (.slot b j,t))) _ _=>match d.gN (.slot b j)with
   |some (.sl (.own (I g)) c h)=>if g=t then .sl (.arg G) c h else .bot
   |_=> .bot
 | .int k n=> .int k n
 | .bool b=> .bool b
 | .str s=> .str s
 | .fn f=> .fn f
 |_=> .bot
def Jk (a:AS):Operand->AV
 | .tmp t=>(match a.get t with| .val g b=> .val g (b.map a.Y8)|v=>v)
 |x=>a.rd x
def Kt (a:AS):Operand->Bool
 | .tmp t=>(match a.get t with| .val _ b=>(b.map a.Y8).all AC.Su|_=>G)
 |x=>(a.rd x).mj
def AC.am6:AC->Bool
 | .sl (.own _) _ _=>O
 |c=>c.mj
def AV.am6:AV->Bool
 | .val _ a=>a.all AC.am6
 | .DZ b=>b.all λx=>x.2.all AC.am6
def aj3 (a:AS)s b:={(a.gD s (I b)).iC (I s)with ep:=a.ep+1}
def Ct (o:Oper)f(c:Z Operand)(a:AS)(K:AS->aS R):=
 match c with
 |e::d=>
  match a.rd e with
  | .val G [.ptr s 0]=>
    match (nth a.boxes s).getD W with
    |some b=>
     bif b.all (AC.Gx (L8 b))&&d.all (Kt a) then
      U ((Y f).fn (.val O (b.map AC.adm)::d.map (Jk a))) λy=>
       bif ((Y f).back y).all (AC.Gx O)&&((Y f).av y).am6 then
        bif (Y f).cur&&b.all AC.Qq then
         K (((a.gD s (I (we (L8 b) (λ_=>W) 0 ((Y f).back y)))).iC o.dst).put o.dst (((Y f).av y).L9 a.ep (a.kL o.dst)))
        else
        K (((aj3 a s (we (L8 b) (a.kL (I s)) 0 ((Y f).back y))).iC o.dst).put o.dst
          (((Y f).av y).L9 (a.ep+1) ((aj3 a s (we (L8 b) (a.kL (I s)) 0 ((Y f).back y))).kL o.dst)))
       else W
     else W
    |none=>W
  |_=>W
 |[]=>W
def am7 (o:Oper)f(a:Z Operand)(b:AS)(K:AS->aS R):=
 match o.dst with
 |some d=>
  match nth b.boxes d with
  |some W=>
   bif a.all (λx=>(b.rd x).Su) then
    U ((Y f).fn (a.map b.rd)) λy=>
     bif ((Y f).back y).all AC.Su then K ((b.gD d (I ((Y f).back y))).put (I d) (.one (.ptr d 0))) else W
   else W
  |_=>W
 |none=>W
def Ma (o:Oper)(f:Operand)(b:Z Operand)(a:AS)(K:AS->aS R):aS R:=
 match a.rd f with
 | .val G [.fn f]=>
   bif (Y f).bx then Ct Y o f b a K else
   bif (Y f).pr then am7 Y o f b a K else
   bif (Y f).io then W
   else U ((Y f).fn (b.map λx=>((a.rd x).fresh a).asArg a.ep)) λr=>cond ((Y f).sel r) (K ((a.iC o.dst).put o.dst (((Y f).av r).L9 a.ep (a.kL o.dst)))) (K ((a.iC o.dst).put o.dst (((Y f).alt r).L9 a.ep (a.kL o.dst))))
 |_=>W
def Mc {R:Type}(op:BinOp)(b:Bool)(K:AC->aS R):=
 match op with
 | .eql=>K (.bool b)
 | .neq=>K (.bool (!b))
 |_=>W
def I3 (o:Oper)(op:BinOp)(T:TypeId)(x y:Operand)(d:AS)(K:AS->aS R):aS R:=
 match d.rd x,d.rd y with
 | .val G [.bool a],.val G [.bool b]=>if E.bool T then OI op (.one (.bool a)) (.one (.bool b)) λc=>K (d.put o.dst (.one c)) else W
 | .val O e,.val O h=>match aaB E.eqs T with
   |some g=>if fits g e then OI op (.val O e) (.val O h) λc=>K (d.put o.dst (.one c)) else W
   |none=>W
 | .val G [.sl f _ e],.val G [.mP]=>if(E.sl T).isSome/\f.live d.ep then(if e.length=0 then W else Mc op G λc=>K (d.put o.dst (.one c))) else W
 | .val G [.mP],.val G [.mP]=>if(E.sl T).isSome then Mc op O λc=>K (d.put o.dst (.one c)) else W
 |a,b=>OI op a b λc=>K (d.put o.dst (.one c))
def dM (o:Oper)(d:AS)(K:AS->aS R):=
 match o.op with
 | .move x=>Ky Q o x d K
 | .assign x=>if Ii Q o then aax o x d K else Cs E Q o x d K
 | .pick c a b=>Nh o c a b d K
 | .alloc T=>KY E o T d K
 | .box _ x=>abO o x d K
 | .load T p=>vD E Q o T p d K
 | .store T p x=>match o.dst with|none=>(if Ii Q o then ER E T p x d K else EP E T p x d K)|some _=>W
 | .nilCheck x=>
   match d.rd x with
   | .val G [.ptr s g]=>K (d.put o.dst (.one (.ptr s g)))
   | .val G [.I7 h e y i g]=>K (d.put o.dst (.one (.I7 h e y i g)))
   |_=>W
 | .binOp op T x y _=>I3 E o op T x y d K
 | .unOp op _ x=>unC op (d.rd x) λc=>K (d.put o.dst (.one c))
 | .fieldAddr S p f=>HY E o S p f d K
 | .indexAddr T x i=>qY E o T x i d K
 | .index T x i=>JO E o T x i d K
 | .build T parts=>JF E o T parts.toList d K
 | .buildSlice T len parts=>qg E o T len parts.toList d K
 | .makeSlice T n c=>uF E o T n c d K
 | .slice T x k j W=>Ix E Q o T x k j d K
 | .field S (.tmp t) f=>NZ E o S t f d K
 | .call {callee:=.builtin .copy,args,argTypes}=>ZJ E o argTypes.toList args.toList d K
 | .convert src dst x=>qi E o src dst x d K
 | .extract (.tmp t) i=>qm o t i d K
 | .call {callee:=.builtin .len,args,argTypes}=>Xj E o argTypes.toList args.toList d K
 | .call {callee:=.builtin .min,args,..}=>Zc o args.toList d K
 | .call {callee:=.builtin .max,args,..}=>Zb o args.toList d K
 | .call {callee:=.builtin .append,args,argTypes}=>EV E o argTypes.toList args.toList d K
 | .call {callee:=.value f,args,..}=>Ma Y o f args.toList d K
 |_=>W
def jS (c:Z Oper)(o:Oper)a K:=
 match o.guard with
 |none=>dM E Y Q o a K
 |some (j,e)=>
  match (nth c j).bind (·.dst)with
  |some d=>
   match a.get d with
   | .val G [.bool b]=>
     let go (t:Bool):aS R:=
      if t==e then dM E Y Q o (a.put (I d) (.one (.bool t))) K else K ((a.put (I d) (.one (.bool t))).put o.dst (.one .un))
     cond b (go O) (go G)
   | .val G [.un]=>K (a.put o.dst (.one .un))
   |_=>W
  |none=>W
def acM (a:Z Oper):Z Oper->AS->(AS->aS R)->aS R
 |[],b,K=>K b
 |o::r,b,K=>jS E Y Q a o b λc=>acM a r c K
def fG:Code->Nat
 | .region id _ _=>id
 | .seq a _=>fG a
 | .block _ c=>fG c
 | .loop c=>fG c
 | .cond _ a b=>match fG a with|0=>fG b|n=>n
 |_=>0
def Ef c:=1000000+2*fG c
def nV (l:gw):Code->Z Code
 | .seq a b=>nV l a++(bif l.contains (fG b) then b::nV l b else nV l b)
 | .cond _ a b=>nV l a++nV l b
 | .block _ c=>nV l c
 | .loop c=>nV l c
 |_=>[]
def I5 l(fn:Func)k:=(nth (nV l (fn.body.getD .skip)) k).getD .skip
def kT:Code->Z Code
 | .seq a b=>kT a++kT b
 | .cond _ a b=>kT a++kT b
 | .block _ c=>kT c
 | .loop c=>c::kT c
 |_=>[]
def jh (fn:Func)k:=(nth (kT (fn.body.getD .skip)) k).getD .skip
def Hb j:=3*(4096*1000003+j)
def sn.ND:sn->aS Nat
 | .slot s j=>bif Nat.ble 4096 j then W else bif Nat.ble 1000000 s then W else I (3*(4096*s+j))
 | .box s j=>bif Nat.ble 4096 j then W else I (3*(4096*s+j)+1)
 | .io j=>bif Nat.ble 4096 j then W else I (Hb j)
def AC.apV (io:Z AC)(j t:Nat)(e:CT):aS (Z e.D):=
 match nth io j with
 |some (.sl (.own (I b)) a c)=>if h:a=e then bif b==t then I (h▸c) else W else W
 |_=>W
def AC.mask (jY:gw)(d:Nat)(io:Z AC)(g:sn):AC->AC
 | .ptr s b=>if jY.contains s then .ptr s b else .bot
 | .sl (.loc e f) t a=>
   match f with
   |some (.io j,n)=>match AC.apV io j n t with
    |some h=> .sl (.loc 0 ((sn.ND (.io j)).map λq=>(.io j,q))) t h
    |none=>if e==d then .sl (.loc 0 W) t a else .bot
   |_=>if e==d then .sl (.loc 0 W) t a else .bot
 | .sl (.own _) t a=> .sl (.own g.ND) t a
 | .sl (.nest ..) _ _=> .bot
 | .sl (.part ..) _ _=> .bot
 | .sl (.im _ i _) e a=> .sl (.im W i W) e a
 | .I7 _ _ _ _ _=> .bot
 |c=>c
def S7 (jY:gw)(a:Nat)(io:Z AC)(f:Nat->sn):Nat->Z AC->Z AC
 |_,[]=>[]
 |j,c::b=>c.mask jY a io (f j)::S7 jY a io f (j+1) b
def AV.mask (jY:gw)(b:Nat)(io:Z AC)(s:Nat):AV->AV
 | .val g a=> .val g (S7 jY b io (.slot s) 0 a)
 | .DZ _=> .bot
def ta (jY:gw)(a:Nat)(io:Z AC):Nat->Z AV->Z AV
 |_,[]=>[]
 |i,v::r=>(if jY.contains i then v.mask jY a io i else .bot)::ta jY a io (i+1) r
def sZ (jY:gw)(a:Nat)(io:Z AC):Nat->Z (aS (Z AC))->Z (aS (Z AC))
 |_,[]=>[]
 |i,b::r=>(if jY.contains i then b.map (S7 jY a io (.box i) 0) else W)::sZ jY a io (i+1) r
def aiD (jY:gw):Nat->Z AC->Z AC
 |_,[]=>[]
 |j,c::d=>(match c with| .sl (.own _) e b=> .sl (.own (sn.ND (.io j))) e b| .sl (.im _ i _) e b=> .sl (.im W i W) e b| .ptr s a=>if jY.contains s then .ptr s a else .bot|c=>bif c.mj then c else .bot)::aiD jY (j+1) d
def AS.mask (jY:gw)(a:AS):AS:=
 ⟨ta jY a.ep a.io 0 a.slots,sZ jY a.ep a.io 0 a.boxes,0,List.replicate a.slots.length G,aiD jY 0 a.io⟩
def getBool (a:AS)(s:Nat):aS Bool:=
 match a.get s with
 | .val G [.bool b]=>I b
 |_=>W
def jV Q(a:gw)(o:Oper):=
 match o.op with
 | .assign (.const _)=> !Ii Q o
 | .assign (.tmp t)=>a.contains t&& !Ii Q o
 | .move _| .load ..=>match o.dst with|some d=> !Q.mv.contains d|none=>G
 | .slice ..=> !NJ Q o
 | .pick ..| .binOp ..| .unOp ..| .fieldAddr ..| .indexAddr ..| .index ..| .nilCheck _=>O
 | .build _ b=>b.isEmpty
 | .call {callee:=.builtin .len,..}| .call {callee:=.builtin .min,..}| .call {callee:=.builtin .max,..}=>O
 | .call {callee:=.value _,..}=>O
 |_=>G
def PF (a:Z Oper):gw:=a.filterMap (·.dst)
def AS.I6 (a:AS):gw->AS
 |[]=>a
 |d::r=>((a.put (I d) .bot).iC (I d)).I6 r
def OO (a:Z Oper)(A:Z gw):Nat->Z Oper->AS->(AS->aS R)->aS R
 |_,[],b,K=>K b
 |i,o::r,b,K=>bif fb E Q (Ag Q A i 0 a) o b then jS E Y Q a o b λc=>OO a A (i+1) r c K else W
def MK a draw b(K:AS->aS R):=
 bif draw then(bif adY Q a then OO E Y.Qh Q a (adD a []) 0 a b K else W) else acM E Y Q a a b K
def acU (id:Nat)(a:Z Oper)(draw:Bool)(c:AS)(K:AS->aS R):aS R:=
 match Q.merge id with
 |none=>MK E Y Q a draw c K
 |some s=>
  if a.all (jV Q (PF a)) then
   U (MK E Y.calm Q a draw c λd=>getBool d s) λb=>K ((c.I6 (PF a)).put (I s) (.one (.bool b)))
  else W
def GF (a:gw)(B:AS->(Ex->AS->aS R)->aS R):Nat->AS->(Ex->AS->aS R)->aS R
 |0,_,_=>W
 |m+1,c,K=>B c λe b=>
  match e with
  | .normal=>GF a B m (b.mask a) K
  |e=>K e (b.mask a)
def den (g:Qn):Code->AS->(Ex->AS->aS R)->aS R
 | .skip,f,K=>K .normal f
 | .region id h draw,f,K=>acU E Y Q id h.toList draw f (K .normal)
 | .seq a b,f,K=>den g a f λe d=>match e with
   | .normal=>bif Q.cut.contains (fG b) then(g (Ef b)).go (d.mask (Q.mask (Ef b))) K else den g b d K
   |e=>K e d
 | .cond c a b,f,K=>
   match f.rd c with
   | .val G [.bool t]=>cond t (den g a f K) (den g b f K)
   |_=>W
 | .block id c,f,K=>den g c f λe d=>
   match e with
   | .exit j=>if j==id then K .normal d else K (.exit j) d
   |e=>K e d
 | .loop c,f,K=>
   bif Q.peel.contains (fG c) then den g c (f.mask (Q.mask (fG c))) λe d=>
    match e with
    | .normal=>(g (fG c)).go (d.mask (Q.mask (fG c))) K
    |e=>K e (d.mask (Q.mask (fG c)))
   else(g (fG c)).go (f.mask (Q.mask (fG c))) K
 | .exit id,f,K=>K (.exit id) f
 | .ret,f,K=>K .ret f
 |_,_,_=>W
end
def XP (d:AS)(E:Env):ResultVar->aS ((Bool×Nat)×Bool×Z AC)
 | .tmp t=>match d.get t with| .val g b=>I ((G,t),g,b.map AC.strip)|_=>W
 | .cell t T=>match lV E.ty T,d.get t with
   |some c,.val G [.ptr s a]=>((nth d.boxes s).getD W).bind λb=>
    if a+c.ct.size<=b.length then I ((O,s),c.agg,((b.drop a).take c.ct.size).map AC.strip) else W
   |_,_=>W
def uJ (b:AS)(E:Env):Z (Bool×Nat)->Z ResultVar->aS (Z (Bool×Z AC))
 |_,[]=>I []
 |a,r::c=>(XP b E r).bind λx=>if a.contains x.1 then W else(uJ b E (x.1::a) c).bind λd=>I (x.2::d)
def results (E:Env)(b:Z ResultVar)(c:AS):aS AV:=
 match uJ c E [] b with
 |some [(g,a)]=>I (.val g a)
 |some d=>I (.DZ d)
 |none=>W
def ua (fn:Func)(a:Z AV):AS:=⟨a++List.replicate (fn.ntmps-a.length) .bot,List.replicate (a.length+(fn.ntmps-a.length)) W,0,List.replicate fn.ntmps G,[]⟩
abbrev xY:Z (Bool×FT)->Type
 |[]=>Unit
 |[(_,t)]=>t.ct.D
 |(_,t)::r=>t.ct.D×xY r
def nr:(l:Z (Bool×FT))->Z (Bool×Z AC)->aS (xY l)
 |[],[]=>I ()
 |[(g,t)],[(b,a)]=>bif g==b then(match Vz t a with|some (x,[])=>I x|_=>W) else W
 |(g,t)::p::r,(b,a)::c=>bif g==b then(match Vz t a with|some (x,[])=>(nr (p::r) c).bind λy=>I (x,y)|_=>W) else W
 |_,_=>W
def atY:(l:Z (Bool×FT))->xY l->Z (Bool×Z AC)
 |[],_=>[]
 |[(g,t)],x=>[(g,lY t x)]
 |(g,t)::p::r,x=>(g,lY t x.1)::atY (p::r) x.2
def GK l(x:xY l):AV:=
 match atY l x with
 |[(g,a)]=> .val g a
 |b=> .DZ b
def ML E Y Q f(fn:Func)b(a:Z AV):=
 match fn.body with
 |some c=>if a.length=fn.params.size then den E Y Q f c (ua fn a) λe d=>
  match e with
  | .exit _=>W
  |_=>U (uJ d E [] fn.results.toList) (nr b)
  else W
 |none=>W
def evalAlt E Y Q i(fn:Func)f b h(a:Z AV):=
 match fn.body with
 |some c=>if a.length=fn.params.size then den E Y Q i c (ua fn a) λe g=>
  match e with
  | .exit _=>W
  |_=>U (uJ g E [] fn.results.toList) λd=>
   match nr f d with
   |some y=>I (O,y)
   |none=>match nr b d with
    |some y=>I (G,cast h y)
    |none=>W
  else W
 |none=>W
def aim:Nat->Z AC->Z AC
 |_,[]=>[]
 |j,.sl _ e b::a=> .sl (.own (I (Hb j))) e b::aim (j+1) a
 |j,c::a=>c::aim (j+1) a
def Ih:Nat->Z AC->Z AC
 |_,[]=>[]
 |j,.sl _ e b::a=> .sl (.loc 0 (I (.io j,Hb j))) e b::Ih (j+1) a
 |j,c::a=>c::Ih (j+1) a
def OC fn g b a:={ua fn (.val g (Ih 0 b)::a)with io:=aim 0 b}
def ahB E Y Q i(fn:Func)h t(a:Z AV):=
 match fn.body,a with
 |some c,.val g b::f=>if f.length+1=fn.params.size/\b.all AC.ain=O then den E Y Q i c (OC fn g b f) λe d=>
  match e with
  | .exit _=>W
  |_=>U (U (uJ d E [] fn.results.toList) (nr h)) λr=>
   match mC t d.io with
   |some (x,[])=>I (r,x)
   |_=>W
  else W
 |_,_=>W
def Qw:Nat->Z AC->Z AC
 |_,[]=>[]
 |j,.sl (.own _) e b::a=> .sl (.own (I (3*j+1))) e b::Qw (j+1) a
 |j,c::a=>c::Qw (j+1) a
def IH fn b a:=
 {ua fn (.one (.ptr 0 0)::a)with boxes:=I (Qw 0 b)::List.replicate (a.length+(fn.ntmps-(a.length+1))) W,io:=[.ptr 0 0]}
def ab5 E Y Q i(fn:Func)h t(a:Z AV):=
 match fn.body,a with
 |some c,.val O f::g=>if g.length+1=fn.params.size/\f.all (AC.Gx O)=O then den E Y Q i c (IH fn f g) λe d=>
  match e with
  | .exit _=>W
  |_=>U (U (uJ d E [(O,0)] fn.results.toList) (nr h)) λr=>
   match d.io,d.boxes with
   |[.ptr 0 0],I b::_=>match Vz t (b.map AC.strip)with
    |some (x,[])=>I (r,x)
    |_=>W
   |_,_=>W
  else W
 |_,_=>W
def Vu E Y Q f(fn:Func)t(a:Z AV):=
 match fn.body with
 |some c=>if a.length=fn.params.size then den E Y Q f c (ua fn a) λe d=>
  match e with
  | .exit _=>W
  |_=>match fn.results.toList with
   |[.tmp i]=>match d.get i with
    | .val G [.ptr s 0]=>match (nth d.boxes s).getD W with
      |some b=>if b.all AC.Su=O then(match Vz t (b.map AC.strip)with|some (x,[])=>I x|_=>W) else W
      |none=>W
    |_=>W
   |_=>W
  else W
 |none=>W
end Go.Dn
