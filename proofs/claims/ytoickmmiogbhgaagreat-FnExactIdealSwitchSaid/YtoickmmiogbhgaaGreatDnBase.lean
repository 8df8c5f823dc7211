import Derived.Test.YtoickmmiogbhgaaGreatDnData
/- An abstract, heap-free semantics of the model's code, for functions that treat their data by value: definitions. -/
namespace Go.Dn

inductive Root where
  | slot (s j : Nat) | box (s j : Nat) | io (j : Nat)
  deriving DecidableEq

inductive Flag where
  | own (tag : Option Nat)
  | loc (ep : Nat) (pv : Option (Root × Nat))
  | arg
  /-- inside element i, at cell off, of the slice that a root owns -/
  | nest (ep : Nat) (r : Root) (t : Nat) (e : CT) (i : Int) (off : Nat)
  /-- a part, from element lo on, of the slice that a root owns -/
  | part (ep : Nat) (r : Root) (t : Nat) (lo : Int)
  /-- owned but for element i, which was taken over at that epoch -/
  | holed (tag : Option Nat) (i : Int) (ep : Option Nat)

inductive AC where
  | int (k : IntKind) (n : Int) | bool (b : Bool) | str (s : List UInt8)
  | sl (fl : Flag) (e : CT) (xs : List e.D)
  | nilsl
  | ptr (s off : Nat)
  | elt (fl : Flag) (e : CT) (x : e.D) (i : Int) (off : Nat)
  | fn (f : Nat)
  | un
  | bot

inductive AV where
  | val (agg : Bool) (cs : List AC)
  | tup (vs : List (Bool × List AC))

@[reducible] def AV.one (c : AC) : AV := .val false [c]
@[reducible] def AV.bot : AV := .val false [.bot]

structure AS where
  slots : List AV
  boxes : List (Option (List AC))
  ep : Nat
  /-- of which slots the stamps are given out -/
  iss : List Bool
  /-- what is handed in to be written -/
  io : List AC

/-- a type: is it a struct? its cells; of a struct the fields' places and sizes -/
structure Shape where
  agg : Bool
  ct : CT
  offs : List (Nat × Nat) := []

structure An where
  mask : Nat → List Nat := fun _ => []
  merge : Nat → Option Nat := fun _ => none
  mv : List Nat := []
  nest : List Nat := []
  mb : Nat → Option Nat := fun _ => none
  /-- the box that a pointer's slot leads to, for stores in drawn regions -/
  sb : Nat → Option Nat := fun _ => none
  /-- slots that are read, and taken over from their roots when they are stored or assigned -/
  late : List Nat := []
  /-- loops whose first round is laid apart -/
  peel : List Nat := []
  /-- assignments that keep a nil slice as such -/
  nils : List Nat := []
  /-- slots that loads and moves of drawn regions fill with flat data -/
  fm : List Nat := []
  /-- the box that roots the element at which a pointer's slot points -/
  eb : Nat → Option Nat := fun _ => none
  /-- the same where a slot is the root -/
  es : Nat → Option Nat := fun _ => none
  /-- the slot that a load of a drawn region reads anew -/
  er : Nat → Option Nat := fun _ => none

def cellsOf : (t : CT) → Flag → t.D → List AC
  | .int k, _, n => [.int k n]
  | .bool, _, b => [.bool b]
  | .str, _, s => [.str s]
  | .sl e, fl, xs => [.sl fl e xs]
  | .pair a b, fl, x => cellsOf a fl x.1 ++ cellsOf b fl x.2

/-- the typed element that cells make, slices inside owned; and the cells behind -/
def ofCells : (t : CT) → List AC → Option (t.D × List AC)
  | .int k, .int k' n :: r => if k' = k then some (n, r) else none
  | .bool, .bool b :: r => some (b, r)
  | .str, .str s :: r => some (s, r)
  | .sl e, .sl (.own _) e' xs :: r => if h : e' = e then some (h ▸ xs, r) else none
  | .sl _, .nilsl :: r => some ([], r)
  | .pair a b, cs => (ofCells a cs).bind fun x => (ofCells b x.2).bind fun y => some ((x.1, y.1), y.2)
  | _, _ => none

def nth {α : Type} : List α → Nat → Option α
  | [], _ => none
  | a :: _, 0 => some a
  | _ :: l, n + 1 => nth l n

def setl {α : Type} : List α → Nat → α → List α
  | [], _, _ => []
  | _ :: l, 0, v => v :: l
  | a :: l, n + 1, v => a :: setl l n v

def AS.get (st : AS) (i : Nat) : AV := (nth st.slots i).getD .bot
def AS.put (st : AS) (d : Option Nat) (v : AV) : AS :=
  match d with
  | some d => { st with slots := setl st.slots d v }
  | none => st

/-- the stamps of what an operation makes: by the slot that it writes and the cell's number -/
def stampOf (d j : Nat) : Nat := 3 * (4096 * d + j) + 2
def AS.mint (st : AS) (d : Option Nat) (j : Nat) : Option Nat :=
  match d with
  | some d => bif (nth st.iss d).getD true then none else bif Nat.ble 4096 j then none else some (stampOf d j)
  | none => none
def AS.issue (st : AS) (d : Option Nat) : AS :=
  match d with
  | some d => { st with iss := setl st.iss d true }
  | none => st
/-- an owned slice that is new -/
def AS.putNew (st : AS) (d : Option Nat) (e : CT) (xs : List e.D) : AS :=
  (st.issue d).put d (.one (.sl (.own (st.mint d 0)) e xs))

def AC.borrow (ep : Nat) (rt : Option Root) : AC → AC
  | .sl (.own tag) e xs => .sl (.loc ep (match rt, tag with | some r, some t => some (r, t) | _, _ => none)) e xs
  | .sl (.holed tag _ (some ep0)) e xs => .sl (.loc ep0 (match rt, tag with | some r, some t => some (r, t) | _, _ => none)) e xs
  | .sl (.holed _ _ none) _ _ => .bot
  | c => c

/-- the cells as they are read from an owner, cell j of root f -/
def borrowCs (ep : Nat) (f : Nat → Root) : Nat → List AC → List AC
  | _, [] => []
  | j, c :: cs => c.borrow ep (some (f j)) :: borrowCs ep f (j + 1) cs
def borrowBare (ep : Nat) (cs : List AC) : List AC := cs.map (AC.borrow ep none)

def AV.borrow (ep : Nat) (f : Nat → Root) : AV → AV
  | .val g cs => .val g (borrowCs ep f 0 cs)
  | .tup vs => .tup (vs.map fun x => (x.1, borrowBare ep x.2))
def AV.borrowBare (ep : Nat) : AV → AV
  | .val g cs => .val g (Dn.borrowBare ep cs)
  | .tup vs => .tup (vs.map fun x => (x.1, Dn.borrowBare ep x.2))

def ofConst : Value → AV
  | .int k n => .one (.int k n)
  | .bool b => .one (.bool b)
  | .string s => .one (.str s.data.toList)
  | .slice none 0 0 => .one .nilsl
  | _ => .bot

/-- an operand, read only -/
def AS.rd (st : AS) : Operand → AV
  | .tmp t => (st.get t).borrow st.ep (.slot t)
  | .const v => ofConst v
  | .func f => .one (.fn f)
  | .global _ => .bot

/-- an operand, whatever it owns taken over: the slot keeps a reader's copy -/
def AS.take (st : AS) : Operand → AV × AS
  | .tmp t => (st.get t, st.put (some t) ((st.get t).borrowBare st.ep))
  | x => (st.rd x, st)

def AS.setBox (st : AS) (s : Nat) (b : Option (List AC)) : AS := { st with boxes := setl st.boxes s b }

/-- nothing of the value but its data: a callee's view -/
def AC.asArg (ep : Nat) : AC → AC
  | .int k n => .int k n
  | .bool b => .bool b
  | .str s => .str s
  | .sl (.own _) e xs => .sl .arg e xs
  | .sl (.loc ep' _) e xs => if ep' == ep then .sl .arg e xs else .bot
  | .sl .arg e xs => .sl .arg e xs
  | .nilsl => .nilsl
  | .fn f => .fn f
  | _ => .bot
def AV.asArg (ep : Nat) : AV → AV
  | .val g cs => .val g (cs.map (AC.asArg ep))
  | .tup _ => .bot

/-- a callee's result in the caller: what is owned is new; what the callee had from its arguments is read only -/
def AC.asRes (ep : Nat) (tag : Option Nat) : AC → AC
  | .sl (.own _) e xs => .sl (.own tag) e xs
  | .sl .arg e xs => .sl (.loc ep none) e xs
  | .sl (.loc _ _) _ _ => .bot
  | .sl (.nest ..) _ _ => .bot
  | .sl (.part ..) _ _ => .bot
  | .sl (.holed _ i _) e xs => .sl (.holed none i none) e xs
  | .ptr _ _ => .bot
  | .elt _ _ _ _ _ => .bot
  | c => c
def resCells (ep : Nat) (mk : Nat → Option Nat) : Nat → List AC → List AC
  | _, [] => []
  | j, c :: cs => c.asRes ep (mk j) :: resCells ep mk (j + 1) cs
def resTup (ep : Nat) (mk : Nat → Option Nat) : Nat → List (Bool × List AC) → List (Bool × List AC)
  | _, [] => []
  | j, t :: ts => (t.1, resCells ep mk j t.2) :: resTup ep mk (j + t.2.length) ts
def AV.asRes (ep : Nat) (mk : Nat → Option Nat) : AV → AV
  | .val g cs => .val g (resCells ep mk 0 cs)
  | .tup vs => .tup (resTup ep mk 0 vs)

/-- a function as it is known to its callers: what it makes of data, and what that data looks like -/
structure GEnt where
  R : Type
  fn : List AV → Option R
  av : R → AV
  /-- does it write what its first argument holds? and what is there behind the call -/
  io : Bool := false
  back : R → List AC := fun _ => []
  /-- is its first argument a pointer? back then tells what the block holds behind the call -/
  bx : Bool := false
  /-- of which of two kinds is the result? by the second what should be owned may be borrowed -/
  sel : R → Bool := fun _ => true
  alt : R → AV := fun _ => .val false [.bot]
def GEnt.res (F : GEnt) (y : F.R) : AV := cond (F.sel y) (F.av y) (F.alt y)
abbrev Gam := Nat → GEnt
/-- those that write nothing that they are handed -/
def Gam.calm (Γ : Gam) : Gam := fun f => bif (Γ f).io || (Γ f).bx then { R := Unit, fn := fun _ => none, av := fun _ => .val false [.bot] } else Γ f

def intOp {R : Type} (op : BinOp) (k : IntKind) (x y : Int) (K : AC → Option R) : Option R :=
  match op with
  | .add => K (.int k (k.wrap (x + y)))
  | .sub => K (.int k (k.wrap (x - y)))
  | .mul => K (.int k (k.wrap (x * y)))
  | .quo => if y = 0 then none else K (.int k (k.wrap (x.tdiv y)))
  | .rem => if y = 0 then none else K (.int k (x.tmod y))
  | .and => K (.int k (k.wrap (BitVec.ofInt k.bits x &&& BitVec.ofInt k.bits y).toNat))
  | .or => K (.int k (k.wrap (BitVec.ofInt k.bits x ||| BitVec.ofInt k.bits y).toNat))
  | .xor => K (.int k (k.wrap (BitVec.ofInt k.bits x ^^^ BitVec.ofInt k.bits y).toNat))
  | .andNot => K (.int k (k.wrap (BitVec.ofInt k.bits x &&& ~~~ BitVec.ofInt k.bits y).toNat))
  | .eql => K (.bool (x == y))
  | .neq => K (.bool (x != y))
  | .lss => K (.bool (decide (x < y)))
  | .leq => K (.bool (decide (x ≤ y)))
  | .gtr => K (.bool (decide (x > y)))
  | .geq => K (.bool (decide (x ≥ y)))
  | _ => none

def strOp {R : Type} (op : BinOp) (x y : List UInt8) (K : AC → Option R) : Option R :=
  match op with
  | .add => room (x.length + y.length) (K (.str (x ++ y)))
  | .eql => K (.bool (x == y))
  | .neq => K (.bool (!(x == y)))
  | .lss => K (.bool (Op.bytesLess x y))
  | .leq => K (.bool (Op.bytesLess x y || x == y))
  | .gtr => K (.bool (!(Op.bytesLess x y || x == y)))
  | .geq => K (.bool (!(Op.bytesLess x y)))
  | _ => none

/-- cell by cell; only cells without memory behind them -/
def eqCells : List AC → List AC → Option Bool
  | [], [] => some true
  | .int k x :: r, .int k' y :: r' => if k = k' then (eqCells r r').bind fun b => some ((x == y) && b) else none
  | .bool x :: r, .bool y :: r' => (eqCells r r').bind fun b => some ((x == y) && b)
  | .str x :: r, .str y :: r' => (eqCells r r').bind fun b => some ((x == y) && b)
  | _, _ => none

def binC {R : Type} (op : BinOp) (x y : AV) (K : AC → Option R) : Option R :=
  match x, y with
  | .val false [.int k a], .val false [.int k' b] =>
    match op with
    | .shl => if b < 0 then none else K (.int k (k.wrap (a * 2 ^ (min b.toNat k.bits))))
    | .shr => if b < 0 then none else K (.int k (a.fdiv (2 ^ (min b.toNat k.bits))))
    | _ => if k = k' then intOp op k a b K else none
  | .val false [.str a], .val false [.str b] => strOp op a b K
  | .val false [.bool a], .val false [.bool b] =>
    match op with
    | .eql => K (.bool (a == b))
    | .neq => K (.bool (!(a == b)))
    | _ => none
  | .val true xs, .val true ys =>
    match op with
    | .eql => bindO (eqCells xs ys) fun b => K (.bool b)
    | .neq => bindO (eqCells xs ys) fun b => K (.bool (!b))
    | _ => none
  | _, _ => none

def unC {R : Type} (op : UnOp) (x : AV) (K : AC → Option R) : Option R :=
  match op, x with
  | .not, .val false [.bool b] => K (.bool (!b))
  | .neg, .val false [.int k n] => K (.int k (k.wrap (0 - n)))
  | .xor, .val false [.int k n] => intOp .xor k (if k.signed then -1 else k.max) n K
  | _, _ => none

/-- cells laid over others from off on -/
def splice (cs : List AC) (off : Nat) (vs : List AC) : List AC := cs.take off ++ vs ++ cs.drop (off + vs.length)

/-- the slice that a root owns -/
def AS.rootGet (st : AS) : Root → Option AC
  | .slot s j => match st.get s with | .val _ cs => nth cs j | _ => none
  | .box s j => ((nth st.boxes s).getD none).bind fun cs => nth cs j
  | .io j => nth st.io j
def AS.rootSet (st : AS) (r : Root) (c : AC) : AS :=
  match r with
  | .slot s j => match st.get s with | .val g cs => st.put (some s) (.val g (setl cs j c)) | _ => st
  | .box s j => match (nth st.boxes s).getD none with | some cs => st.setBox s (some (setl cs j c)) | none => st
  | .io j => { st with io := setl st.io j c }

/-- a borrowed slice, read anew where its root owns it still -/
def AS.fresh (st : AS) : AC → AC
  | .sl (.loc ep (some (r, t))) e xs =>
    bif ep == st.ep then .sl (.loc ep (some (r, t))) e xs else
      match st.rootGet r with
      | some (.sl (.own (some t')) e' ys) => if h : e' = e then bif t' == t then .sl (.loc st.ep (some (r, t))) e (h ▸ ys) else .sl (.loc ep (some (r, t))) e xs else .sl (.loc ep (some (r, t))) e xs
      | _ => .sl (.loc ep (some (r, t))) e xs
  | c => c
def AV.fresh (st : AS) : AV → AV
  | .val g cs => .val g (cs.map st.fresh)
  | .tup vs => .tup vs
/-- nothing read is out of date -/
def AC.now (ep : Nat) : AC → Bool
  | .sl (.loc ep' (some _)) _ _ => ep' == ep
  | _ => true

/-- cells stored into element i, from off on, of the slice that the root owns -/
def AS.storeElt {R : Type} (st : AS) (r : Root) (t : Nat) (e : CT) (i : Int) (off : Nat) (vs : List AC) (K : AS → Option R) : Option R :=
  match st.rootGet r with
  | some (.sl (.own (some t')) e' xs) =>
    if h : e' = e then
      if t' = t then
        bindO (idx (h ▸ xs : List e.D) i) fun x =>
          match ofCells e (splice (cellsOf e (.own none) x) off vs) with
          | some (x', []) => K { st.rootSet r (.sl (.own (some t')) e ((h ▸ xs : List e.D).set i.toNat x')) with ep := st.ep + 1 }
          | _ => none
      else none
    else none
  | some (.sl (.holed (some t') i' _) e' xs) =>
    if h : e' = e then
      if t' = t ∧ i' = i ∧ off = 0 then
        bindO (idx (h ▸ xs : List e.D) i) fun _ =>
          match ofCells e vs with
          | some (x', []) => K { st.rootSet r (.sl (.own (some t')) e ((h ▸ xs : List e.D).set i.toNat x')) with ep := st.ep + 1 }
          | _ => none
      else none
    else none
  | _ => none


def AV.cells : AV → List AC
  | .val _ cs => cs
  | .tup _ => [.bot]

def takeAll (st : AS) : List Operand → List AV × AS
  | [] => ([], st)
  | x :: xs => let (v, st1) := st.take x; let (vs, st2) := takeAll st1 xs; (v :: vs, st2)

/-- a slice literal's elements, all of them given in order -/
def litElems (e : CT) : List (List AC) → Option (List e.D)
  | [] => some []
  | cs :: r => match ofCells e cs with
    | some (x, []) => (litElems e r).bind fun xs => some (x :: xs)
    | _ => none

def inOrder : Nat → List (Nat × Operand) → Bool
  | _, [] => true
  | n, (i, _) :: r => i == n && inOrder (n + 1) r

def AC.solid : AC → Bool
  | .bot => false
  | .un => false
  | _ => true

def buildCells (offs : List (Nat × Nat)) (zero : List AC) : List (Nat × List AC) → Option (List AC)
  | [] => some zero
  | (i, cs) :: r => match nth offs i with
    | some (off, n) => if cs.length = n ∧ off + n ≤ zero.length ∧ cs.all AC.solid then buildCells offs (splice zero off cs) r else none
    | none => none

inductive LK where
  | int | bool | str
  deriving DecidableEq

/-- the table of the types: their shapes; those structs whose '==' goes cell by cell, with their cells' kinds -/
structure Env where
  ty : List (Nat × Shape)
  eqs : List (Nat × List LK) := []
  /-- the types of structs' fields -/
  fts : List ((Nat × Nat) × Nat) := []

def lookQ (l : List (Nat × List LK)) (t : Nat) : Option (List LK) :=
  match l with
  | [] => none
  | (u, sh) :: r => bif u == t then some sh else lookQ r t

def fits : List LK → List AC → Bool
  | [], [] => true
  | .int :: ls, .int _ _ :: r => fits ls r
  | .bool :: ls, .bool _ :: r => fits ls r
  | .str :: ls, .str _ :: r => fits ls r
  | _, _ => false

def lookF (l : List ((Nat × Nat) × Nat)) (S f : Nat) : Option Nat :=
  match l with
  | [] => none
  | ((u, k), T) :: r => bif u == S && k == f then some T else lookF r S f

def lookE (l : List (Nat × Shape)) (t : Nat) : Option Shape :=
  match l with
  | [] => none
  | (u, sh) :: r => bif u == t then some sh else lookE r t

def Env.sl (E : Env) (t : Nat) : Option CT :=
  match lookE E.ty t with
  | some ⟨false, .sl e, _⟩ => some e
  | _ => none
def Env.str (E : Env) (t : Nat) : Bool :=
  match lookE E.ty t with
  | some ⟨false, .str, _⟩ => true
  | _ => false
def Env.bool (E : Env) (t : Nat) : Bool :=
  match lookE E.ty t with
  | some ⟨false, .bool, _⟩ => true
  | _ => false
/-- a slice of bytes -/
def Env.bytes (E : Env) (t : Nat) : Bool :=
  match lookE E.ty t with
  | some ⟨false, .sl (.int .u8), [(te, _)]⟩ => match lookE E.ty te with | some ⟨false, .int .u8, _⟩ => true | _ => false
  | _ => false

/-- may it be read now? -/
def Flag.live (ep : Nat) : Flag → Bool
  | .loc ep' _ => ep' == ep
  | .arg => true
  | .own _ => false
  | .nest .. => false
  | .part .. => false
  | .holed .. => false
/-- may its elements be copied into an owned slice? -/
def Flag.gives (ep : Nat) (flat : Bool) : Flag → Bool
  | .loc ep' _ => ep' == ep && flat
  | .arg => flat
  | .own _ => true
  | .nest .. => false
  | .part .. => false
  | .holed .. => false
def Flag.bare : Flag → Flag
  | .loc ep _ => .loc ep none
  | f => f

def AC.flatB : AC → Bool
  | .int _ _ => true
  | .bool _ => true
  | .str _ => true
  | .fn _ => true
  | _ => false
def tm : Operand → List Nat
  | .tmp t => [t]
  | _ => []
def tms (l : List Operand) : List Nat := l.flatMap tm
/-- operations that take over what an element or a slice has -/
def tookE (an : An) (o : Oper) : Bool :=
  match o.dst with
  | some d => an.mv.contains d && (an.mb d).isNone
  | none => false
def nilB (an : An) (o : Oper) : Bool :=
  match o.dst with
  | some d => an.nils.contains d
  | none => false
def lateB (an : An) (o : Oper) : Bool :=
  match o.op with
  | .assign (.tmp s) => an.late.contains s
  | .store _ _ (.tmp s) => an.late.contains s
  | _ => false
def tmO : Option Operand → List Nat
  | some x => tm x
  | none => []

/-- the slots that an operation looks at -/
def looks (o : Oper) : List Nat :=
  match o.op with
  | .move x => tm x
  | .assign x => tm x
  | .pick c a b => tm c ++ tm a ++ tm b
  | .box _ x => tm x
  | .load _ p => tm p
  | .store _ p x => tm p ++ tm x
  | .nilCheck x => tm x
  | .binOp _ _ x y _ => tm x ++ tm y
  | .unOp _ _ x => tm x
  | .fieldAddr _ p _ => tm p
  | .indexAddr _ x i => tm x ++ tm i
  | .index _ x i => tm x ++ tm i
  | .build _ parts => tms (parts.toList.map (·.2))
  | .buildSlice _ _ parts => tms (parts.toList.map (·.2))
  | .makeSlice _ n c => tm n ++ tm c
  | .slice _ x lo hi none => tm x ++ tmO lo ++ tmO hi
  | .convert _ _ x => tm x
  | .extract (.tmp t) _ => [t]
  | .call { callee := .builtin _, args, .. } => tms args.toList
  | .call { callee := .value f, args, .. } => tm f ++ tms args.toList
  | _ => []

def takes (an : An) (o : Oper) : Bool :=
  match o.op with
  | .move _ => match o.dst with | some d => an.mv.contains d | none => false
  | .assign _ => true
  | .box .. => true
  | .build .. => true
  | .buildSlice .. => true
  | .store .. => true
  | .extract .. => match o.dst with | some d => an.mv.contains d | none => false
  | .call { callee := .builtin .append, .. } => true
  | _ => false

/-- the boxes that an operation turns -/
def wbox (an : An) (o : Oper) : List Nat :=
  match o.op with
  | .alloc _ => o.dst.toList
  | .box .. => o.dst.toList
  | .load .. => match o.dst with | some d => bif an.mv.contains d then (an.mb d).toList else [] | none => []
  | .store _ (.tmp p) _ => (an.sb p).toList
  | _ => []

/-- operations that turn slots and boxes alone -/
def mobile (an : An) (o : Oper) : Bool :=
  match o.op with
  | .move _ => true
  | .load .. => match o.dst with | some d => !an.mv.contains d || (an.mb d).isSome | none => false
  | .extract (.tmp _) _ => true
  | .store _ (.tmp p) _ => (an.sb p).isSome && !lateB an o
  | .assign _ => !lateB an o
  | .pick .. | .alloc _ | .box .. | .nilCheck _ | .binOp .. | .unOp .. | .fieldAddr .. | .indexAddr .. | .index .. | .build .. | .buildSlice .. | .makeSlice .. | .convert .. => true
  | .slice _ _ _ _ none => !tookE an o
  | .call { callee := .builtin .len, .. } | .call { callee := .builtin .min, .. } | .call { callee := .builtin .max, .. } | .call { callee := .builtin .append, .. } => true
  | .call { callee := .value _, .. } => true
  | _ => false

def writes (an : An) (o : Oper) : List Nat := o.dst.toList ++ (bif takes an o then looks o else [])

def AV.now (ep : Nat) : AV → Bool
  | .val _ cs => cs.all (AC.now ep)
  | .tup _ => true
/-- data without memory of its own -/
def AC.stillB : AC → Bool
  | .int .. => true
  | .bool _ => true
  | .str _ => true
  | .fn _ => true
  | .ptr .. => true
  | _ => false
def AV.stillB : AV → Bool
  | .val _ cs => cs.all AC.stillB
  | .tup _ => false
/-- is what lies in box s from off on, as much as a type takes, flat? -/
def flatAt (E : Env) (T : TypeId) (st : AS) (s off : Nat) : Bool :=
  match lookE E.ty T, (nth st.boxes s).getD none with
  | some sh, some cs => ((cs.drop off).take sh.ct.size).all AC.stillB
  | _, _ => false
def fmB (an : An) (o : Oper) : Bool := match o.dst with | some d => an.fm.contains d | none => false
/-- a load that takes -/
def takeLd (an : An) (o : Oper) : Bool :=
  match o.op, o.dst, o.guard with
  | .load _ (.tmp _), some d, none => an.mv.contains d && (an.mb d).isSome
  | _, _, _ => false
/-- a load of flat data -/
def flatLd (an : An) (o : Oper) : Bool :=
  match o.op, o.dst, o.guard with
  | .load _ (.tmp _), some d, none => !an.mv.contains d && an.fm.contains d
  | _, _, _ => false
def erS (an : An) (o : Oper) : List Nat :=
  match o.op, o.dst with
  | .load .., some d => (an.er d).toList
  | _, _ => []
def freeOf (E : Env) (an : An) (X : List Nat) (o : Oper) (st : AS) : Bool :=
  match o.op with
  | .move x => !fmB an o || (st.rd x).stillB
  | .indexAddr _ x _ => (st.rd x).now st.ep
  | .slice _ x _ _ none => (st.rd x).now st.ep
  | .call { callee := .value _, args, .. } => args.toList.all fun x => (st.rd x).now st.ep
  | .load T p => match st.rd p with
    | .val false [.ptr s off] => !X.contains s && (match o.dst with | some d => !an.mv.contains d || an.mb d == some s | none => true) && (!fmB an o || flatAt E T st s off)
    | .val false [.elt fl _ _ _ _] => (fl.live st.ep || (match fl with
      | .loc _ (some (.slot b _, _)) => (erS an o).contains b
      | .loc _ (some (.box b _, _)) => !X.contains b
      | _ => false)) && !(fmB an o || takeLd an o)
    | _ => !(fmB an o || takeLd an o)
  | .store _ (.tmp p) _ => ((an.sb p).isNone && (an.eb p).isNone && (an.es p).isNone) || (match st.rd (.tmp p) with
    | .val false [.ptr s _] => !X.contains s && an.sb p == some s
    | .val false [.elt (.loc _ (some (.box b _, _))) _ _ _ _] => an.eb p == some b && (an.sb p).isNone && (an.es p).isNone
    | .val false [.elt (.loc _ (some (.slot b _, _))) _ _ _ _] => an.es p == some b && (an.sb p).isNone && (an.eb p).isNone
    | _ => false)
  | .extract (.tmp t) i => match st.get t with
    | .tup vs => match nth vs i with | some x => x.2.all AC.flatB || (match o.dst with | some d => an.mv.contains d | none => false) | none => true
    | _ => true
  | _ => true

def gslot (an : An) (ops : List Oper) (o : Oper) : List Nat :=
  (match o.guard with
  | some (j, _) => ((nth ops j).bind (·.dst)).toList
  | none => []) ++ erS an o

def meets (a b : List Nat) : Bool := a.any fun x => b.contains x

/-- what one turns the other neither looks at nor turns -/
def apartB (an : An) (ops : List Oper) (X Y : List Nat) (o p : Oper) : Bool :=
  mobile an o && mobile an p && !meets (writes an o) (looks p ++ gslot an ops p ++ writes an p) && !meets (writes an p) (looks o ++ gslot an ops o) &&
  (wbox an o).all (fun d => Y.contains d) && (wbox an p).all (fun d => X.contains d) && !meets (wbox an o) (p.dst.toList ++ wbox an p) && !meets (wbox an p) o.dst.toList

/-- two parts of one tuple -/
def exPair (o p : Oper) : Bool :=
  match o.op, p.op, o.dst, p.dst, o.guard, p.guard with
  | .extract (.tmp t) i, .extract (.tmp t') j, some d, some d', none, none => t == t' && !(i == j) && !(d == d') && !(d == t) && !(d' == t)
  | _, _, _, _, _, _ => false
/-- a flat move, or an extract, ahead of a store into an element -/
def elPair (an : An) (o p : Oper) : Bool :=
  match p.op, p.dst, p.guard with
  | .store _ (.tmp q) (.tmp x), none, none => ((an.eb q).isSome && (an.es q).isNone || (match an.es q with | some b => (an.eb q).isNone && !(b == x) && !(b == q) && !meets [b] (o.dst.toList ++ looks o) | none => false)) && (an.sb q).isNone && !lateB an p && (match o.op, o.dst, o.guard with
    | .move (.tmp t), some d, none => !an.mv.contains d && an.fm.contains d && !(d == q) && !(d == x) && !(t == x) && !(t == q) && !(d == t)
    | .extract (.tmp t) _, some d, none => !(d == q) && !(d == x) && !(t == x) && !(t == q) && !(d == t)
    | _, _, _ => false)
  | _, _, _ => false
/-- one takes, one reads flat data -/
def ldPair (an : An) (o p : Oper) : Bool :=
  (takeLd an o && flatLd an p || flatLd an o && takeLd an p) && !meets o.dst.toList (p.dst.toList ++ looks p) && !meets p.dst.toList (looks o)
def pairX (an : An) (o p : Oper) : Bool := exPair o p || elPair an o p || ldPair an o p
def apartX (an : An) (ops : List Oper) (X Y : List Nat) (o p : Oper) : Bool := pairX an o p || apartB an ops X Y o p

def preds (o : Oper) : List Nat := (o.after.toList.filter (fun e => Region.binds .any e)).map (·.on)

def unionN (a b : List Nat) : List Nat := a.foldl (fun s x => bif s.contains x then s else x :: s) b
/-- of each operation those that are surely ahead of it -/
def ancs : List Oper → List (List Nat) → List (List Nat)
  | [], acc => acc
  | o :: r, acc => ancs r (acc ++ [(preds o).foldl (fun s j => unionN (j :: (nth acc j).getD []) s) []])
def ordB (A : List (List Nat)) (i k : Nat) : Bool := ((nth A i).getD []).contains k
/-- the boxes that are made at a time that is open -/
def boxesOf (an : An) (A : List (List Nat)) (i : Nat) (fl : Bool) : Nat → List Oper → List Nat
  | _, [] => []
  | k, o :: r => (bif !ordB A i k && !ordB A k i && !(k == i) && !(fl && takeLd an o) then wbox an o else []) ++ boxesOf an A i fl (k + 1) r
def boxesOff (an : An) (A : List (List Nat)) (i k : Nat) (ops : List Oper) : List Nat := boxesOf an A i (match nth ops i with | some o => flatLd an o | none => false) k ops
def pairB1 (an : An) (ops : List Oper) (A : List (List Nat)) (i : Nat) (oi : Oper) : Nat → List Oper → Bool
  | _, [] => true
  | j, oj :: r => bif Nat.ble i j then true else (ordB A i j || apartX an ops (boxesOff an A j 0 ops) (boxesOff an A i 0 ops) oj oi) && pairB1 an ops A i oi (j + 1) r
def pairsB (an : An) (ops : List Oper) (A : List (List Nat)) : Nat → List Oper → Bool
  | _, [] => true
  | i, oi :: r => (preds oi).all (fun k => Nat.blt k i) && pairB1 an ops A i oi 0 ops && pairsB an ops A (i + 1) r
def drawB (an : An) (ops : List Oper) : Bool := pairsB an ops (ancs ops []) 0 ops

inductive Ex where
  | normal | ret | exit (id : Nat)

inductive FK where
  | own (tag : Option Nat) | arg | loc | lio (j t : Nat) | nil

def FK.flag : FK → Flag
  | .own t => .own t
  | .arg => .arg
  | .loc => .loc 0 none
  | .lio j t => .loc 0 (some (.io j, t))
  | .nil => .arg
def FK.isNil : FK → Bool
  | .nil => true
  | _ => false

/-- a shape whose slices bear flags -/
inductive FT where
  | int (k : IntKind) | bool | str | sl (fl : FK) (e : CT) | pair (a b : FT)
@[reducible] def FT.ct : FT → CT
  | .int k => .int k
  | .bool => .bool
  | .str => .str
  | .sl _ e => .sl e
  | .pair a b => .pair a.ct b.ct
def cellsF : (t : FT) → t.ct.D → List AC
  | .int k, n => [.int k n]
  | .bool, b => [.bool b]
  | .str, s => [.str s]
  | .sl fl e, xs => [bif fl.isNil then .nilsl else .sl fl.flag e xs]
  | .pair a b, x => cellsF a x.1 ++ cellsF b x.2
def FK.fits : FK → Flag → Bool
  | .own t, .own t' => t == t'
  | .arg, .arg => true
  | .loc, .loc 0 none => true
  | .lio j t, .loc 0 (some (.io j', t')) => j == j' && t == t'
  | _, _ => false
/-- the data that cells of such a shape make, and the cells behind -/
def ofF : (t : FT) → List AC → Option (t.ct.D × List AC)
  | .int k, .int k' n :: r => if k' = k then some (n, r) else none
  | .bool, .bool b :: r => some (b, r)
  | .str, .str s :: r => some (s, r)
  | .sl fl e, .sl fl' e' xs :: r => if h : e' = e then bif fl.fits fl' then some (h ▸ xs, r) else none else none
  | .sl fl _, .nilsl :: r => bif fl.isNil then some ([], r) else none
  | .pair a b, cs => (ofF a cs).bind fun x => (ofF b x.2).bind fun y => some ((x.1, y.1), y.2)
  | _, _ => none

/-- what is known of a slot at a loop's head -/
inductive PD where
  | bot | ptr (s off : Nat) | fn (f : Nat) | data (g : Bool) (t : FT)
/-- what is handed in: nothing, data, or the pointer to box 0 -/
inductive IoD where
  | none | some (t : FT) | ptr
structure SD where
  slots : List PD
  boxes : List (Option FT)
  io : IoD := .none

@[reducible] def slotsD : List PD → Type
  | [] => Unit
  | .data _ t :: r => t.ct.D × slotsD r
  | _ :: r => slotsD r
@[reducible] def boxesD : List (Option FT) → Type
  | [] => Unit
  | some t :: r => t.ct.D × boxesD r
  | none :: r => boxesD r
@[reducible] def ioD : IoD → Type
  | .none => Unit
  | .some t => t.ct.D
  | .ptr => Unit
@[reducible] def SD.D (d : SD) : Type := slotsD d.slots × boxesD d.boxes × ioD d.io

def encSlots : (l : List PD) → slotsD l → List AV
  | [], _ => []
  | .data g t :: r, x => .val g (cellsF t x.1) :: encSlots r x.2
  | .bot :: r, x => .bot :: encSlots r x
  | .ptr s off :: r, x => .one (.ptr s off) :: encSlots r x
  | .fn f :: r, x => .one (.fn f) :: encSlots r x
def encBoxes : (l : List (Option FT)) → boxesD l → List (Option (List AC))
  | [], _ => []
  | some t :: r, x => some (cellsF t x.1) :: encBoxes r x.2
  | none :: r, x => none :: encBoxes r x
def encIo : (o : IoD) → ioD o → List AC
  | .none, _ => []
  | .some t, x => cellsF t x
  | .ptr, _ => [.ptr 0 0]
def SD.enc (d : SD) (x : d.D) : AS := ⟨encSlots d.slots x.1, encBoxes d.boxes x.2.1, 0, List.replicate d.slots.length false, encIo d.io x.2.2⟩

def AV.isBot : AV → Bool
  | .val false [.bot] => true
  | _ => false
def AV.isPtr (s off : Nat) : AV → Bool
  | .val false [.ptr s' off'] => s == s' && off == off'
  | _ => false
def AV.isFn (f : Nat) : AV → Bool
  | .val false [.fn f'] => f == f'
  | _ => false
def decSlots : (l : List PD) → List AV → Option (slotsD l)
  | [], [] => some ()
  | .data g t :: r, .val g' cs :: vs => bif g == g' then (match ofF t cs with | some (x, []) => (decSlots r vs).bind fun y => some (x, y) | _ => none) else none
  | .bot :: r, v :: vs => bif v.isBot then decSlots r vs else none
  | .ptr s off :: r, v :: vs => bif v.isPtr s off then decSlots r vs else none
  | .fn f :: r, v :: vs => bif v.isFn f then decSlots r vs else none
  | _, _ => none
def decBoxes : (l : List (Option FT)) → List (Option (List AC)) → Option (boxesD l)
  | [], [] => some ()
  | some t :: r, some cs :: bs => match ofF t cs with | some (x, []) => (decBoxes r bs).bind fun y => some (x, y) | _ => none
  | none :: r, none :: bs => decBoxes r bs
  | _, _ => none
def isPtr0 : List AC → Bool
  | [.ptr 0 0] => true
  | _ => false
def decIo : (o : IoD) → List AC → Option (ioD o)
  | .none, [] => some ()
  | .some t, cs => match ofF t cs with | some (x, []) => some x | _ => none
  | .ptr, cs => bif isPtr0 cs then some () else none
  | _, _ => none
def SD.dec (d : SD) (st : AS) : Option d.D :=
  bif st.ep == 0 && st.iss == List.replicate d.slots.length false then
    (decSlots d.slots st.slots).bind fun x => (decBoxes d.boxes st.boxes).bind fun y => (decIo d.io st.io).bind fun z => some (x, y, z)
  else none

/-- a loop as it is known: what is kept at its head, and what it makes of that -/
structure LEnt where
  sd : SD
  run : {R : Type} → sd.D → (Ex → AS → Option R) → Option R
abbrev Lam := Nat → LEnt
def LEnt.go {R : Type} (l : LEnt) (st : AS) (K : Ex → AS → Option R) : Option R := bindO (l.sd.dec st) fun x => l.run x K
def LEnt.none : LEnt := ⟨⟨[], [], .none⟩, fun _ _ => Option.none⟩
def Lam.nil : Lam := fun _ => LEnt.none
def Lam.add (Λ : Lam) (k : Nat) (l : LEnt) : Lam := fun j => bif j == k then l else Λ j

section
variable {R : Type} (E : Env) (Γ : Gam) (an : An)

def moveC (o : Oper) (x : Operand) (st : AS) (K : AS → Option R) : Option R :=
  match o.dst with
  | some d => if an.mv.contains d then K ((st.take x).2.put o.dst (st.take x).1) else K (st.put o.dst (st.rd x))
  | none => none

def assignC (o : Oper) (x : Operand) (st : AS) (K : AS → Option R) : Option R :=
  match st.take x with
  | (.val false [.nilsl], _) => match E.sl o.type with
    | some e => K (st.put o.dst (.one (bif nilB an o then .nilsl else .sl (.own none) e [])))
    | none => none
  | (v, st') => K (st'.put o.dst v)

def pickC (o : Oper) (c a b : Operand) (st : AS) (K : AS → Option R) : Option R :=
  match st.rd c with
  | .val false [.bool t] => match st.rd a, st.rd b with
    | .val false [.bool x], .val false [.bool y] => K (st.put o.dst (.one (.bool (cond t x y))))
    | va, vb => cond t (K (st.put o.dst va)) (K (st.put o.dst vb))
  | _ => none

def allocC (o : Oper) (T : TypeId) (st : AS) (K : AS → Option R) : Option R :=
  match o.dst, lookE E.ty T with
  | some d, some sh => match nth st.boxes d with
    | some none => K ((st.setBox d (some (cellsOf sh.ct (.own none) sh.ct.zero))).put o.dst (.one (.ptr d 0)))
    | _ => none
  | _, _ => none

def boxC (o : Oper) (x : Operand) (st : AS) (K : AS → Option R) : Option R :=
  match o.dst, st.take x with
  | some d, (.val _ cs, st') =>
    match nth st'.boxes d with
    | some none => if cs.all AC.solid then K ((st'.setBox d (some cs)).put o.dst (.one (.ptr d 0))) else none
    | _ => none
  | _, _ => none

/-- slices inside an element, each with its place -/
def nestGo (ep : Nat) (r : Root) (t : Nat) (e : CT) (i : Int) : Nat → List AC → List AC
  | _, [] => []
  | p, .sl _ e' xs :: cs => .sl (.nest ep r t e i p) e' xs :: nestGo ep r t e i (p + 1) cs
  | p, c :: cs => c :: nestGo ep r t e i (p + 1) cs
def nestCs (o : Oper) (ep : Nat) (fl : Flag) (e : CT) (i : Int) (off : Nat) (cs : List AC) : List AC :=
  match fl, o.dst with
  | .loc _ (some (r, t)), some d => bif an.nest.contains d then nestGo ep r t e i off cs else cs
  | _, _ => cs

/-- through a pointer to an element that has been written since: the owner is read anew -/
def staleC (o : Oper) (sh : Shape) (fl : Flag) (e : CT) (i : Int) (off : Nat) (st : AS) (K : AS → Option R) : Option R :=
  match fl with
  | .loc _ (some (r, t)) =>
    match st.rootGet r with
    | some (.sl (.own (some t')) e' ys) =>
      if h : e' = e then
        if t' = t ∧ off + sh.ct.size ≤ e.size then
          bindO (idx (h ▸ ys : List e.D) i) fun y => K (st.put o.dst (.val sh.agg (((cellsOf e (.loc st.ep none) y).drop off).take sh.ct.size)))
        else none
      else none
    | _ => none
  | _ => none

/-- an element taken over; a hole is left -/
def takeEltC (o : Oper) (sh : Shape) (fl : Flag) (e : CT) (i : Int) (off : Nat) (st : AS) (K : AS → Option R) : Option R :=
  match fl with
  | .loc _ (some (r, t)) =>
    match st.rootGet r with
    | some (.sl (.own (some t')) e' ys) =>
      if h : e' = e then
        if t' = t ∧ off = 0 ∧ sh.ct = e then
          bindO (idx (h ▸ ys : List e.D) i) fun y => K ((st.rootSet r (.sl (.holed (some t) i (some st.ep)) e (h ▸ ys))).put o.dst (.val sh.agg (cellsOf e (.own none) y)))
        else none
      else none
    | _ => none
  | _ => none

def loadC (o : Oper) (T : TypeId) (p : Operand) (st : AS) (K : AS → Option R) : Option R :=
  match lookE E.ty T, st.rd p with
  | some sh, .val false [.ptr s off] =>
    match (nth st.boxes s).getD none with
    | some cs =>
      if off + sh.ct.size ≤ cs.length then
        match o.dst with
        | some d =>
          if an.mv.contains d then
            K ((st.setBox s (some (splice cs off (borrowBare st.ep ((cs.drop off).take sh.ct.size))))).put o.dst (.val sh.agg ((cs.drop off).take sh.ct.size)))
          else K (st.put o.dst (.val sh.agg (borrowCs st.ep (.box s) off ((cs.drop off).take sh.ct.size))))
        | none => none
      else none
    | none => none
  | some sh, .val false [.elt fl e x i off] =>
    if tookE an o then takeEltC o sh fl e i off st K
    else if fl.live st.ep then
      if off + sh.ct.size ≤ e.size then K (st.put o.dst (.val sh.agg (nestCs an o st.ep fl e i off (((cellsOf e fl.bare x).drop off).take sh.ct.size)))) else none
    else staleC o sh fl e i off st K
  | _, _ => none

def storeC (T : TypeId) (p x : Operand) (st : AS) (K : AS → Option R) : Option R :=
  match lookE E.ty T, st.rd p with
  | some sh, .val false [.ptr s off] =>
    match st.take x with
    | (.val _ vs, st') =>
      match (nth st'.boxes s).getD none with
      | some cs =>
        if vs.length = sh.ct.size ∧ vs.all AC.solid then
          if off + sh.ct.size ≤ cs.length then K (st'.setBox s (some (splice cs off vs))) else none
        else none
      | none => none
    | _ => none
  | some sh, .val false [.elt (.loc _ (some (r, t))) e _ i off] =>
    match st.take x with
    | (.val _ vs, st') =>
      if vs.length = sh.ct.size ∧ off + sh.ct.size ≤ e.size then st'.storeElt r t e i off vs K else none
    | _ => none
  | _, _ => none

def fieldC (o : Oper) (S : TypeId) (p : Operand) (f : Nat) (st : AS) (K : AS → Option R) : Option R :=
  match lookE E.ty S, st.rd p with
  | some ⟨true, _, offs⟩, .val false [.ptr s off] => match nth offs f with | some (fo, _) => K (st.put o.dst (.one (.ptr s (off + fo)))) | none => none
  | some ⟨true, _, offs⟩, .val false [.elt fl e x i off] => match nth offs f with | some (fo, _) => K (st.put o.dst (.one (.elt fl e x i (off + fo)))) | none => none
  | _, _ => none

def indexAddrC (o : Oper) (T : TypeId) (x i : Operand) (st : AS) (K : AS → Option R) : Option R :=
  match E.sl T, (st.rd x).fresh st, st.rd i with
  | some e', .val false [.sl fl e xs], .val false [.int _ n] =>
    if e' = e ∧ fl.live st.ep then bindO (idx xs n) fun y => K (st.put o.dst (.one (.elt fl e y n 0))) else none
  | _, _, _ => none

def indexC (o : Oper) (T : TypeId) (x i : Operand) (st : AS) (K : AS → Option R) : Option R :=
  match st.rd x, st.rd i with
  | .val false [.str s], .val false [.int _ n] => if E.str T then bindO (idx s n) fun b => K (st.put o.dst (.one (.int .u8 b.toNat))) else none
  | _, _ => none

def buildC (o : Oper) (T : TypeId) (parts : List (Nat × Operand)) (st : AS) (K : AS → Option R) : Option R :=
  match lookE E.ty T with
  | some ⟨true, ct, offs⟩ =>
    match takeAll st (parts.map (·.2)) with
    | (vs, st') =>
      match buildCells offs (cellsOf ct (.own none) ct.zero) ((parts.map (·.1)).zip (vs.map AV.cells)) with
      | some cs => K (st'.put o.dst (.val true cs))
      | none => none
  | _ => none

def buildSliceC (o : Oper) (T : TypeId) (len : Nat) (parts : List (Nat × Operand)) (st : AS) (K : AS → Option R) : Option R :=
  match E.sl T with
  | some e =>
    if parts.length = len ∧ inOrder 0 parts ∧ len ≤ 1000 then
      match takeAll st (parts.map (·.2)) with
      | (vs, st') =>
        match litElems e (vs.map AV.cells) with
        | some xs => K (st'.putNew o.dst e xs)
        | none => none
    else none
  | none => none

def makeSliceC (o : Oper) (T : TypeId) (n c : Operand) (st : AS) (K : AS → Option R) : Option R :=
  match E.sl T, st.rd n, st.rd c with
  | some e, .val false [.int .i64 len], .val false [.int .i64 cap] =>
    if 0 ≤ len ∧ len ≤ cap then room cap.toNat (K (st.putNew o.dst e (List.replicate len.toNat e.zero))) else none
  | _, _, _ => none

def boundsC (st : AS) (lo hi : Option Operand) (n : Nat) (K : Int → Int → Option R) : Option R :=
  match lo.map st.rd, hi.map st.rd with
  | none, none => K 0 n
  | some (.val false [.int _ a]), none => K a n
  | none, some (.val false [.int _ b]) => K 0 b
  | some (.val false [.int _ a]), some (.val false [.int _ b]) => K a b
  | _, _ => none

/-- the tail of an owned slice, taken over -/
def sliceTakeC (o : Oper) (T : TypeId) (x : Operand) (lo hi : Option Operand) (st : AS) (K : AS → Option R) : Option R :=
  match st.take x, lo.map st.rd, hi with
  | (.val false [.sl (.own _) e xs], st'), some (.val false [.int _ a]), none =>
    if E.sl T = some e then bindO (sub xs a xs.length) fun xs' => K (st'.putNew o.dst e xs') else none
  | _, _, _ => none
def partF (o : Oper) (fl : Flag) (a : Int) : Flag :=
  match fl, o.dst with
  | .loc ep (some (r, t)), some d => bif an.nest.contains d then .part ep r t a else .loc ep none
  | fl, _ => fl.bare

def sliceC (o : Oper) (T : TypeId) (x : Operand) (lo hi : Option Operand) (st : AS) (K : AS → Option R) : Option R :=
  if tookE an o then sliceTakeC E o T x lo hi st K else
  match (st.rd x).fresh st with
  | .val false [.str s] => if E.str T then boundsC st lo hi s.length fun a b => bindO (sub s a b) fun s' => K (st.put o.dst (.one (.str s'))) else none
  | .val false [.sl fl e xs] =>
    if E.sl T = some e ∧ fl.live st.ep then boundsC st lo hi xs.length fun a b => bindO (sub xs a b) fun xs' => K (st.put o.dst (.one (.sl (partF an o fl a) e xs'))) else none
  | _ => none

def convertC (o : Oper) (src dst : TypeId) (x : Operand) (st : AS) (K : AS → Option R) : Option R :=
  match lookE E.ty src, lookE E.ty dst, st.rd x with
  | some _, some ⟨false, .int k, _⟩, .val false [.int _ n] => K (st.put o.dst (.one (.int k (k.wrap n))))
  | some ⟨false, .str, _⟩, some ⟨false, .str, _⟩, .val false [.str s] => K (st.put o.dst (.one (.str s)))
  | some ⟨false, .str, _⟩, some _, .val false [.str s] =>
    if E.bytes dst then room s.length (K (st.putNew o.dst (.int .u8) (intsOf s))) else none
  | some _, some ⟨false, .str, _⟩, .val false [.sl fl (.int .u8) xs] =>
    if E.bytes src ∧ fl.live st.ep then K (st.put o.dst (.one (.str (bytesOf xs)))) else none
  | _, _, _ => none

def extractC (o : Oper) (t i : Nat) (st : AS) (K : AS → Option R) : Option R :=
  match st.get t with
  | .tup vs => match nth vs i with
    | some (g, cs) => K ((st.put (some t) (.tup (setl vs i (g, borrowBare 0 cs)))).put o.dst (.val g cs))
    | none => none
  | _ => none

def lenC (o : Oper) (ts : List TypeId) (args : List Operand) (st : AS) (K : AS → Option R) : Option R :=
  match ts, args.map st.rd with
  | [t], [.val false [.str s]] => if E.str t then K (st.put o.dst (.one (.int .i64 s.length))) else none
  | [t], [.val false [.sl _ _ xs]] => if (E.sl t).isSome then K (st.put o.dst (.one (.int .i64 xs.length))) else none
  | _, _ => none

def minC (o : Oper) (args : List Operand) (st : AS) (K : AS → Option R) : Option R :=
  match args.map st.rd with
  | [.val false [.int k x], .val false [.int _ y]] => K (st.put o.dst (.one (.int k (if y < x then y else x))))
  | _ => none
def maxC (o : Oper) (args : List Operand) (st : AS) (K : AS → Option R) : Option R :=
  match args.map st.rd with
  | [.val false [.int k x], .val false [.int _ y]] => K (st.put o.dst (.one (.int k (if y > x then y else x))))
  | _ => none

def copyC (o : Oper) (ts : List TypeId) (args : List Operand) (st : AS) (K : AS → Option R) : Option R :=
  match ts, args.map st.rd with
  | [t, t'], [.val false [.sl (.part ep r tg lo) e xs], .val false [.str s]] =>
    match st.rootGet r with
    | some (.sl (.own (some tg')) e' ys) =>
      if h : e' = .int .u8 then
        if e = .int .u8 ∧ E.sl t = some (.int .u8) ∧ E.str t' = true ∧ ep = st.ep ∧ tg' = tg then
          K ({ st.rootSet r (.sl (.own (some tg)) (.int .u8) (overL (h ▸ ys : List (CT.int .u8).D) lo.toNat (intsOf (s.take xs.length)))) with ep := st.ep + 1 }.put o.dst (.one (.int .i64 (min xs.length s.length : Nat))))
        else none
      else none
    | _ => none
  | _, _ => none

/-- a field of a struct in a slot, taken over -/
def fieldVC (o : Oper) (S : TypeId) (t f : Nat) (st : AS) (K : AS → Option R) : Option R :=
  match lookE E.ty S, st.get t, lookF E.fts S f with
  | some ⟨true, ct, offs⟩, .val true cs, some T =>
    match nth offs f, lookE E.ty T with
    | some (fo, n), some sh =>
      if n = sh.ct.size ∧ cs.length = ct.size ∧ fo + n ≤ cs.length then
        K ((st.put (some t) (.val true (splice cs fo (borrowBare st.ep ((cs.drop fo).take n))))).put o.dst (.val sh.agg ((cs.drop fo).take n)))
      else none
    | _, _ => none
  | _, _, _ => none

def appendC (o : Oper) (ts : List TypeId) (args : List Operand) (st : AS) (K : AS → Option R) : Option R :=
  match ts, args with
  | [t, t'], [s, x] =>
    match st.take s with
    | (.val false [.sl (.own _) e xs], st1) =>
      match st1.take x with
      | (.val false [.sl fl e' ys], st2) =>
        if h : e' = e then
          if E.sl t = some e ∧ E.sl t' = some e ∧ fl.gives st.ep e.flat then
            room (xs.length + ys.length) (K (st2.putNew o.dst e (xs ++ (h ▸ ys : List e.D))))
          else none
        else none
      | (.val false [.str s], st2) =>
        if h : e = .int .u8 then
          if E.sl t = some e ∧ E.str t' then room (xs.length + s.length) (K (st2.putNew o.dst (.int .u8) ((h ▸ xs : List (CT.int .u8).D) ++ intsOf s))) else none
        else none
      | _ => none
    | _ => none
  | _, _ => none

/-- the first slice that is handed in to be written: its root and its place -/
def firstRoot : Nat → List AC → Option (Root × Nat)
  | _, [] => none
  | j, .sl (.loc _ (some (r, _))) _ _ :: _ => some (r, j)
  | j, _ :: cs => firstRoot (j + 1) cs
def Root.pos : Root → Nat
  | .slot _ j => j
  | .box _ j => j
  | .io j => j
def AS.ownCells (st : AS) : Root → Option (List AC)
  | .slot s _ => match st.get s with | .val _ cs => some cs | _ => none
  | .box s _ => (nth st.boxes s).getD none
  | .io _ => some st.io
def AS.setOwn (st : AS) (r : Root) (cs : List AC) : AS :=
  match r with
  | .slot s _ => match st.get s with | .val g _ => st.put (some s) (.val g cs) | _ => st
  | .box s _ => st.setBox s (some cs)
  | .io _ => { st with io := cs }
/-- what is handed in, by what its owner has -/
def segArg : List AC → List AC → Option (List AC)
  | [], [] => some []
  | .sl (.loc _ (some (_, t))) _ _ :: os, .sl (.own (some t')) e xs :: ss => bif t' == t then (segArg os ss).bind fun r => some (.sl (.own none) e xs :: r) else none
  | .int k n :: os, .int _ _ :: ss => (segArg os ss).bind fun r => some (.int k n :: r)
  | .bool b :: os, .bool _ :: ss => (segArg os ss).bind fun r => some (.bool b :: r)
  | .str x :: os, .str _ :: ss => (segArg os ss).bind fun r => some (.str x :: r)
  | _, _ => none
def segBack : List AC → List AC → List AC → Option (List AC)
  | [], [], [] => some []
  | .sl (.loc _ (some (_, t'))) _ _ :: os, .sl (.own (some t)) _ _ :: ss, .sl (.own _) e ys :: bs => bif t == t' then (segBack os ss bs).bind fun r => some (.sl (.own (some t)) e ys :: r) else none
  | .int _ _ :: os, .int k n :: ss, .int _ _ :: bs => (segBack os ss bs).bind fun r => some (.int k n :: r)
  | .bool _ :: os, .bool b :: ss, .bool _ :: bs => (segBack os ss bs).bind fun r => some (.bool b :: r)
  | .str _ :: os, .str x :: ss, .str _ :: bs => (segBack os ss bs).bind fun r => some (.str x :: r)
  | _, _, _ => none
def AV.flatB : AV → Bool
  | .val _ cs => cs.all AC.flatB
  | .tup vs => vs.all fun x => x.2.all AC.flatB

/-- what was read out of an owner, taken over from there -/
def claimC (st : AS) (x : Operand) : Option (AV × AS) :=
  match st.rd x with
  | .val g cs =>
    match firstRoot 0 cs with
    | some (r, j) =>
      match st.ownCells r with
      | some csO =>
        match segArg cs ((csO.drop (r.pos - j)).take cs.length) with
        | some cs' => some (.val g cs', st.setOwn r (splice csO (r.pos - j) (borrowBare st.ep ((csO.drop (r.pos - j)).take cs.length))))
        | none => none
      | none => none
    | none => none
  | _ => none
def lateC (o : Oper) (x : Operand) (st : AS) (K : AS → Option R) : Option R :=
  match claimC st x with
  | some (v, st') => K (st'.put o.dst v)
  | none => none
def storeLateC (T : TypeId) (p x : Operand) (st : AS) (K : AS → Option R) : Option R :=
  match lookE E.ty T, st.rd p with
  | some sh, .val false [.ptr s off] =>
    match claimC st x with
    | some (.val _ vs, st') =>
      match (nth st'.boxes s).getD none with
      | some cs =>
        if vs.length = sh.ct.size ∧ vs.all AC.solid then
          if off + sh.ct.size ≤ cs.length then K (st'.setBox s (some (splice cs off vs))) else none
        else none
      | none => none
    | _ => none
  | _, _ => none

/-- a call that writes a slice inside an element of an owned slice -/
def nestC (o : Oper) (f : Nat) (g : Bool) (cs : List AC) (xs : List Operand) (st : AS) (K : AS → Option R) : Option R :=
  match cs with
  | [.sl (.nest ep r t en i off) _ _] =>
    match st.ownCells r with
    | some csO =>
      match (csO.drop r.pos).take 1 with
      | [.sl (.own (some t')) e ys] =>
        bif (ep == st.ep) && (t' == t) && (en.size == e.size) && xs.all (fun x => (st.rd x).flatB) then
          bindO (idx ys i) fun x =>
            match ((cellsOf e (.own none) x).drop off).take 1 with
            | [.sl (.own _) e2 zs] =>
              bindO ((Γ f).fn (.val g [.sl (.own none) e2 zs] :: xs.map st.rd)) fun y =>
                match (Γ f).back y with
                | [.sl (.own _) e3 zs'] =>
                  match ofCells e (splice (cellsOf e (.own none) x) off [.sl (.own none) e3 zs']) with
                  | some (x', []) => bif ((Γ f).av y).flatB then K ({ st.setOwn r (splice csO r.pos [.sl (.own (some t)) e (ys.set i.toNat x')]) with ep := st.ep + 1 }.put o.dst ((Γ f).av y)) else none
                  | _ => none
                | _ => none
            | _ => none
        else none
      | _ => none
    | none => none
  | _ => none

def ioC (o : Oper) (f : Nat) (args : List Operand) (st : AS) (K : AS → Option R) : Option R :=
  match args with
  | x0 :: xs =>
    match st.rd x0 with
    | .val g cs =>
      match firstRoot 0 cs with
      | some (r, j) =>
        match st.ownCells r with
        | some csO =>
          match segArg cs ((csO.drop (r.pos - j)).take cs.length) with
          | some cs' =>
            bif xs.all (fun x => (st.rd x).flatB) then
              bindO ((Γ f).fn (.val g cs' :: xs.map st.rd)) fun y =>
                match segBack cs ((csO.drop (r.pos - j)).take cs.length) ((Γ f).back y) with
                | some seg => bif ((Γ f).av y).flatB then K ({ st.setOwn r (splice csO (r.pos - j) seg) with ep := st.ep + 1 }.put o.dst ((Γ f).av y)) else none
                | none => none
            else none
          | none => none
        | none => none
      | none => nestC Γ o f g cs xs st K
    | _ => none
  | [] => none

/-- what may leave a function -/
def AC.strip : AC → AC
  | .sl (.own _) e xs => .sl (.own none) e xs
  | .sl (.loc _ _) _ _ => .bot
  | .sl (.nest ..) _ _ => .bot
  | .sl (.part ..) _ _ => .bot
  | .sl (.holed _ i _) e xs => .sl (.holed none i none) e xs
  | .ptr _ _ => .bot
  | .elt _ _ _ _ _ => .bot
  | c => c

/-- may it be handed in to be written? -/
def AC.ioOk : AC → Bool
  | .sl (.own _) _ _ => true
  | c => c.flatB
/-- a call that writes the block that its first argument points to -/
def boxCallC (o : Oper) (f : Nat) (args : List Operand) (st : AS) (K : AS → Option R) : Option R :=
  match args with
  | x0 :: xs =>
    match st.rd x0 with
    | .val false [.ptr s 0] =>
      match (nth st.boxes s).getD none with
      | some cs =>
        bif cs.all AC.ioOk && xs.all (fun x => (st.rd x).flatB) then
          bindO ((Γ f).fn (.val true (cs.map AC.strip) :: xs.map st.rd)) fun y =>
            bif ((Γ f).back y).all AC.ioOk && ((Γ f).av y).flatB then
              K ({ (st.setBox s (some (resCells (st.ep + 1) (st.mint (some s)) 0 ((Γ f).back y)))).issue (some s) with ep := st.ep + 1 }.put o.dst ((Γ f).av y))
            else none
        else none
      | none => none
    | _ => none
  | [] => none

def callC (o : Oper) (f : Operand) (args : List Operand) (st : AS) (K : AS → Option R) : Option R :=
  match st.rd f with
  | .val false [.fn f] =>
    bif (Γ f).bx then boxCallC Γ o f args st K else
    bif (Γ f).io then ioC Γ o f args st K
    else bindO ((Γ f).fn (args.map fun x => ((st.rd x).fresh st).asArg st.ep)) fun r => cond ((Γ f).sel r) (K ((st.issue o.dst).put o.dst (((Γ f).av r).asRes st.ep (st.mint o.dst)))) (K ((st.issue o.dst).put o.dst (((Γ f).alt r).asRes st.ep (st.mint o.dst))))
  | _ => none

/-- a slice and the literal nil -/
def eqNil {R : Type} (op : BinOp) (b : Bool) (K : AC → Option R) : Option R :=
  match op with
  | .eql => K (.bool b)
  | .neq => K (.bool (!b))
  | _ => none

def binTC (o : Oper) (op : BinOp) (T : TypeId) (x y : Operand) (st : AS) (K : AS → Option R) : Option R :=
  match st.rd x, st.rd y with
  | .val false [.bool a], .val false [.bool b] => if E.bool T then binC op (.one (.bool a)) (.one (.bool b)) fun c => K (st.put o.dst (.one c)) else none
  | .val true xs, .val true ys => match lookQ E.eqs T with
    | some ls => if fits ls xs then binC op (.val true xs) (.val true ys) fun c => K (st.put o.dst (.one c)) else none
    | none => none
  | .val false [.sl fl _ xs], .val false [.nilsl] => if (E.sl T).isSome ∧ fl.live st.ep then (if xs.length = 0 then none else eqNil op false fun c => K (st.put o.dst (.one c))) else none
  | .val false [.nilsl], .val false [.nilsl] => if (E.sl T).isSome then eqNil op true fun c => K (st.put o.dst (.one c)) else none
  | a, b => binC op a b fun c => K (st.put o.dst (.one c))

def stepC (o : Oper) (st : AS) (K : AS → Option R) : Option R :=
  match o.op with
  | .move x => moveC an o x st K
  | .assign x => if lateB an o then lateC o x st K else assignC E an o x st K
  | .pick c a b => pickC o c a b st K
  | .alloc T => allocC E o T st K
  | .box _ x => boxC o x st K
  | .load T p => loadC E an o T p st K
  | .store T p x => match o.dst with | none => (if lateB an o then storeLateC E T p x st K else storeC E T p x st K) | some _ => none
  | .nilCheck x =>
    match st.rd x with
    | .val false [.ptr s off] => K (st.put o.dst (.one (.ptr s off)))
    | .val false [.elt fl e y i off] => K (st.put o.dst (.one (.elt fl e y i off)))
    | _ => none
  | .binOp op T x y _ => binTC E o op T x y st K
  | .unOp op _ x => unC op (st.rd x) fun c => K (st.put o.dst (.one c))
  | .fieldAddr S p f => fieldC E o S p f st K
  | .indexAddr T x i => indexAddrC E o T x i st K
  | .index T x i => indexC E o T x i st K
  | .build T parts => buildC E o T parts.toList st K
  | .buildSlice T len parts => buildSliceC E o T len parts.toList st K
  | .makeSlice T n c => makeSliceC E o T n c st K
  | .slice T x lo hi none => sliceC E an o T x lo hi st K
  | .field S (.tmp t) f => fieldVC E o S t f st K
  | .call { callee := .builtin .copy, args, argTypes } => copyC E o argTypes.toList args.toList st K
  | .convert src dst x => convertC E o src dst x st K
  | .extract (.tmp t) i => extractC o t i st K
  | .call { callee := .builtin .len, args, argTypes } => lenC E o argTypes.toList args.toList st K
  | .call { callee := .builtin .min, args, .. } => minC o args.toList st K
  | .call { callee := .builtin .max, args, .. } => maxC o args.toList st K
  | .call { callee := .builtin .append, args, argTypes } => appendC E o argTypes.toList args.toList st K
  | .call { callee := .value f, args, .. } => callC Γ o f args.toList st K
  | _ => none

/-- an operation under its guard: the guard's slot is known on each way -/
def guardC (ops : List Oper) (o : Oper) (st : AS) (K : AS → Option R) : Option R :=
  match o.guard with
  | none => stepC E Γ an o st K
  | some (j, want) =>
    match (nth ops j).bind (·.dst) with
    | some d =>
      match st.get d with
      | .val false [.bool b] =>
        let go (t : Bool) : Option R :=
          if t == want then stepC E Γ an o (st.put (some d) (.one (.bool t))) K else K ((st.put (some d) (.one (.bool t))).put o.dst (.one .un))
        cond b (go true) (go false)
      | .val false [.un] => K (st.put o.dst (.one .un))
      | _ => none
    | none => none

def opsC (ops : List Oper) : List Oper → AS → (AS → Option R) → Option R
  | [], st, K => K st
  | o :: r, st, K => guardC E Γ an ops o st fun st' => opsC ops r st' K

def firstReg : Code → Nat
  | .region id _ _ => id
  | .seq a _ => firstReg a
  | .block _ c => firstReg c
  | .loop c => firstReg c
  | _ => 0

/-- the bodies of all loops, in the order of the text, an outer one ahead of those inside it -/
def loopsOf : Code → List Code
  | .seq a b => loopsOf a ++ loopsOf b
  | .cond _ a b => loopsOf a ++ loopsOf b
  | .block _ c => loopsOf c
  | .loop c => c :: loopsOf c
  | _ => []
def loopBody (fn : Func) (k : Nat) : Code := (nth (loopsOf (fn.body.getD .skip)) k).getD .skip

/-- the stamps of what is handed in -/
def ioStamp (j : Nat) : Nat := 3 * (4096 * 1000003 + j)
/-- the stamp of a place -/
def Root.stamp : Root → Option Nat
  | .slot s j => bif Nat.ble 4096 j then none else bif Nat.ble 1000000 s then none else some (3 * (4096 * s + j))
  | .box s j => bif Nat.ble 4096 j then none else some (3 * (4096 * s + j) + 1)
  | .io j => bif Nat.ble 4096 j then none else some (ioStamp j)
def AC.ioNow (io : List AC) (j t : Nat) (e : CT) : Option (List e.D) :=
  match nth io j with
  | some (.sl (.own (some t')) e' ys) => if h : e' = e then bif t' == t then some (h ▸ ys) else none else none
  | _ => none
def AC.mask (keep : List Nat) (ep : Nat) (io : List AC) (rt : Root) : AC → AC
  | .ptr s off => if keep.contains s then .ptr s off else .bot
  | .sl (.loc e pv) t xs =>
    match pv with
    | some (.io j, n) => match AC.ioNow io j n t with
      | some ys => .sl (.loc 0 ((Root.stamp (.io j)).map fun q => (.io j, q))) t ys
      | none => if e == ep then .sl (.loc 0 none) t xs else .bot
    | _ => if e == ep then .sl (.loc 0 none) t xs else .bot
  | .sl (.own _) t xs => .sl (.own rt.stamp) t xs
  | .sl (.nest ..) _ _ => .bot
  | .sl (.part ..) _ _ => .bot
  | .sl (.holed _ i _) e xs => .sl (.holed none i none) e xs
  | .elt _ _ _ _ _ => .bot
  | c => c
def maskCs (keep : List Nat) (ep : Nat) (io : List AC) (f : Nat → Root) : Nat → List AC → List AC
  | _, [] => []
  | j, c :: cs => c.mask keep ep io (f j) :: maskCs keep ep io f (j + 1) cs
def AV.mask (keep : List Nat) (ep : Nat) (io : List AC) (s : Nat) : AV → AV
  | .val g cs => .val g (maskCs keep ep io (.slot s) 0 cs)
  | .tup _ => .bot
def maskSlots (keep : List Nat) (ep : Nat) (io : List AC) : Nat → List AV → List AV
  | _, [] => []
  | i, v :: r => (if keep.contains i then v.mask keep ep io i else .bot) :: maskSlots keep ep io (i + 1) r
def maskBoxes (keep : List Nat) (ep : Nat) (io : List AC) : Nat → List (Option (List AC)) → List (Option (List AC))
  | _, [] => []
  | i, b :: r => (if keep.contains i then b.map (maskCs keep ep io (.box i) 0) else none) :: maskBoxes keep ep io (i + 1) r
/-- what is handed in, stamped by its places -/
def maskIo (keep : List Nat) : Nat → List AC → List AC
  | _, [] => []
  | j, c :: cs => (match c with | .sl (.own _) e xs => .sl (.own (Root.stamp (.io j))) e xs | .sl (.holed _ i _) e xs => .sl (.holed none i none) e xs | .ptr s off => if keep.contains s then .ptr s off else .bot | c => bif c.flatB then c else .bot) :: maskIo keep (j + 1) cs
def AS.mask (keep : List Nat) (st : AS) : AS :=
  ⟨maskSlots keep st.ep st.io 0 st.slots, maskBoxes keep st.ep st.io 0 st.boxes, 0, List.replicate st.slots.length false, maskIo keep 0 st.io⟩

def getBool (st : AS) (s : Nat) : Option Bool :=
  match st.get s with
  | .val false [.bool b] => some b
  | _ => none

/-- operations that turn no slot but their own, no box, and give nothing away -/
def quietOp (an : An) (ds : List Nat) (o : Oper) : Bool :=
  match o.op with
  | .assign (.const _) => !lateB an o
  | .assign (.tmp t) => ds.contains t && !lateB an o
  | .move _ | .load .. => match o.dst with | some d => !an.mv.contains d | none => false
  | .slice .. => !tookE an o
  | .pick .. | .binOp .. | .unOp .. | .fieldAddr .. | .indexAddr .. | .index .. | .nilCheck _ => true
  | .build _ ps => ps.isEmpty
  | .call { callee := .builtin .len, .. } | .call { callee := .builtin .min, .. } | .call { callee := .builtin .max, .. } => true
  | .call { callee := .value _, .. } => true
  | _ => false

def dsts (ops : List Oper) : List Nat := ops.filterMap (·.dst)
def AS.drops (st : AS) : List Nat → AS
  | [] => st
  | d :: r => ((st.put (some d) .bot).issue (some d)).drops r

def drawC (ops : List Oper) (A : List (List Nat)) : Nat → List Oper → AS → (AS → Option R) → Option R
  | _, [], st, K => K st
  | i, o :: r, st, K => bif freeOf E an (boxesOff an A i 0 ops) o st then guardC E Γ an ops o st fun st' => drawC ops A (i + 1) r st' K else none

def evalC (ops : List Oper) (draw : Bool) (st : AS) (K : AS → Option R) : Option R :=
  bif draw then (bif drawB an ops then drawC E Γ.calm an ops (ancs ops []) 0 ops st K else none) else opsC E Γ an ops ops st K

def regionC (id : Nat) (ops : List Oper) (draw : Bool) (st : AS) (K : AS → Option R) : Option R :=
  match an.merge id with
  | none => evalC E Γ an ops draw st K
  | some s =>
    if ops.all (quietOp an (dsts ops)) then
      bindO (evalC E Γ.calm an ops draw st fun st' => getBool st' s) fun b => K ((st.drops (dsts ops)).put (some s) (.one (.bool b)))
    else none

def loopC (key : List Nat) (B : AS → (Ex → AS → Option R) → Option R) : Nat → AS → (Ex → AS → Option R) → Option R
  | 0, _, _ => none
  | m + 1, st, K => B st fun e st' =>
    match e with
    | .normal => loopC key B m (st'.mask key) K
    | e => K e (st'.mask key)

def den (Λ : Lam) : Code → AS → (Ex → AS → Option R) → Option R
  | .skip, st, K => K .normal st
  | .region id ops draw, st, K => regionC E Γ an id ops.toList draw st (K .normal)
  | .seq a b, st, K => den Λ a st fun e st' => match e with | .normal => den Λ b st' K | e => K e st'
  | .cond c a b, st, K =>
    match st.rd c with
    | .val false [.bool t] => cond t (den Λ a st K) (den Λ b st K)
    | _ => none
  | .block id c, st, K => den Λ c st fun e st' =>
    match e with
    | .exit j => if j == id then K .normal st' else K (.exit j) st'
    | e => K e st'
  | .loop c, st, K =>
    bif an.peel.contains (firstReg c) then den Λ c (st.mask (an.mask (firstReg c))) fun e st' =>
      match e with
      | .normal => (Λ (firstReg c)).go (st'.mask (an.mask (firstReg c))) K
      | e => K e (st'.mask (an.mask (firstReg c)))
    else (Λ (firstReg c)).go (st.mask (an.mask (firstReg c))) K
  | .exit id, st, K => K (.exit id) st
  | .ret, st, K => K .ret st
  | _, _, _ => none

end

/-- the results of a function, out of its last state, each with its owner -/
def resOne (st : AS) (E : Env) : ResultVar → Option ((Bool × Nat) × Bool × List AC)
  | .tmp t => match st.get t with | .val g cs => some ((false, t), g, cs.map AC.strip) | _ => none
  | .cell t T => match lookE E.ty T, st.get t with
    | some sh, .val false [.ptr s off] => ((nth st.boxes s).getD none).bind fun cs =>
        if off + sh.ct.size ≤ cs.length then some ((true, s), sh.agg, ((cs.drop off).take sh.ct.size).map AC.strip) else none
    | _, _ => none
def resAll (st : AS) (E : Env) : List (Bool × Nat) → List ResultVar → Option (List (Bool × List AC))
  | _, [] => some []
  | had, r :: rs => (resOne st E r).bind fun x => if had.contains x.1 then none else (resAll st E (x.1 :: had) rs).bind fun xs => some (x.2 :: xs)
def results (E : Env) (rs : List ResultVar) (st : AS) : Option AV :=
  match resAll st E [] rs with
  | some [(g, cs)] => some (.val g cs)
  | some vs => some (.tup vs)
  | none => none

def start (fn : Func) (args : List AV) : AS := ⟨args ++ List.replicate (fn.ntmps - args.length) .bot, List.replicate (args.length + (fn.ntmps - args.length)) none, 0, List.replicate fn.ntmps false, []⟩

/-- data of results -/
@[reducible] def resD : List (Bool × FT) → Type
  | [] => Unit
  | [(_, t)] => t.ct.D
  | (_, t) :: r => t.ct.D × resD r
def ofResL : (l : List (Bool × FT)) → List (Bool × List AC) → Option (resD l)
  | [], [] => some ()
  | [(g, t)], [(g', cs)] => bif g == g' then (match ofF t cs with | some (x, []) => some x | _ => none) else none
  | (g, t) :: p :: r, (g', cs) :: vs => bif g == g' then (match ofF t cs with | some (x, []) => (ofResL (p :: r) vs).bind fun y => some (x, y) | _ => none) else none
  | _, _ => none
def resL : (l : List (Bool × FT)) → resD l → List (Bool × List AC)
  | [], _ => []
  | [(g, t)], x => [(g, cellsF t x)]
  | (g, t) :: p :: r, x => (g, cellsF t x.1) :: resL (p :: r) x.2
def avOf (l : List (Bool × FT)) (x : resD l) : AV :=
  match resL l x with
  | [(g, cs)] => .val g cs
  | vs => .tup vs

def evalFn (E : Env) (Γ : Gam) (an : An) (Λ : Lam) (fn : Func) (rs : List (Bool × FT)) (args : List AV) : Option (resD rs) :=
  match fn.body with
  | some c => if args.length = fn.params.size then den E Γ an Λ c (start fn args) fun e st =>
      match e with
      | .exit _ => none
      | _ => bindO (resAll st E [] fn.results.toList) (ofResL rs)
    else none
  | none => none

/-- results of two kinds -/
def evalAlt (E : Env) (Γ : Gam) (an : An) (Λ : Lam) (fn : Func) (rs rs2 : List (Bool × FT)) (h : resD rs2 = resD rs) (args : List AV) : Option (Bool × resD rs) :=
  match fn.body with
  | some c => if args.length = fn.params.size then den E Γ an Λ c (start fn args) fun e st =>
      match e with
      | .exit _ => none
      | _ => bindO (resAll st E [] fn.results.toList) fun ys =>
        match ofResL rs ys with
        | some y => some (true, y)
        | none => match ofResL rs2 ys with
          | some y => some (false, cast h y)
          | none => none
    else none
  | none => none

/-- what is handed in, at a function's door -/
def ioIn : Nat → List AC → List AC
  | _, [] => []
  | j, .sl _ e xs :: cs => .sl (.own (some (ioStamp j))) e xs :: ioIn (j + 1) cs
  | j, c :: cs => c :: ioIn (j + 1) cs
def ioLent : Nat → List AC → List AC
  | _, [] => []
  | j, .sl _ e xs :: cs => .sl (.loc 0 (some (.io j, ioStamp j))) e xs :: ioLent (j + 1) cs
  | j, c :: cs => c :: ioLent (j + 1) cs
def startIo (fn : Func) (g : Bool) (cs : List AC) (args : List AV) : AS := { start fn (.val g (ioLent 0 cs) :: args) with io := ioIn 0 cs }

def evalIo (E : Env) (Γ : Gam) (an : An) (Λ : Lam) (fn : Func) (rs : List (Bool × FT)) (t : CT) (args : List AV) : Option (resD rs × t.D) :=
  match fn.body, args with
  | some c, .val g cs :: xs => if xs.length + 1 = fn.params.size ∧ cs.all AC.ioOk = true then den E Γ an Λ c (startIo fn g cs xs) fun e st =>
      match e with
      | .exit _ => none
      | _ => bindO (bindO (resAll st E [] fn.results.toList) (ofResL rs)) fun r =>
        match ofCells t st.io with
        | some (x, []) => some (r, x)
        | _ => none
    else none
  | _, _ => none

/-- the block behind a pointer that is handed in, stamped by its places -/
def boxIn : Nat → List AC → List AC
  | _, [] => []
  | j, .sl _ e xs :: cs => .sl (.own (some (3 * j + 1))) e xs :: boxIn (j + 1) cs
  | j, c :: cs => c :: boxIn (j + 1) cs
def startBox (fn : Func) (cs : List AC) (args : List AV) : AS :=
  { start fn (.one (.ptr 0 0) :: args) with boxes := some (boxIn 0 cs) :: List.replicate (args.length + (fn.ntmps - (args.length + 1))) none, io := [.ptr 0 0] }
def evalBox (E : Env) (Γ : Gam) (an : An) (Λ : Lam) (fn : Func) (rs : List (Bool × FT)) (t : CT) (args : List AV) : Option (resD rs × t.D) :=
  match fn.body, args with
  | some c, .val true cs :: xs => if xs.length + 1 = fn.params.size ∧ cs.all AC.ioOk = true then den E Γ an Λ c (startBox fn cs xs) fun e st =>
      match e with
      | .exit _ => none
      | _ => bindO (bindO (resAll st E [] fn.results.toList) (ofResL rs)) fun r =>
        match st.io, st.boxes with
        | [.ptr 0 0], some cs' :: _ => match ofCells t cs' with
          | some (x, []) => some (r, x)
          | _ => none
        | _, _ => none
    else none
  | _, _ => none

end Go.Dn
