import GoSem.Core.Sem
import GoSem.Dispatch
import Derived.KernelRfl
/- Short names for lemmas that are used often. -/
namespace Go
abbrev au.{u}(α:Type u):Type u:=List α
abbrev aw.{u}(α:Type u):Type u:=Option α
theorem ch:True:=trivial
abbrev gu (x:Int):BitVec (IntKind.bits .i64):=BitVec.ofInt (IntKind.bits .i64) x
abbrev rp (x:Int):Nat:=min (Int.toNat x) (IntKind.bits .i64)
abbrev bN:Type:=au Int
abbrev eG:Type:=au Nat
abbrev bE:Type:=List (List UInt8)
abbrev jY:Type:=Int×Int×Int×Int
abbrev se:Type:=Int×Int×Int
abbrev C0:Type:=Int×Int×Int×Int×Int×Int
abbrev ET:Type:=Int×Int×Int×Int×Int
abbrev ig:Type:=List Value
theorem mi.{u}{c:Prop}{i:Decidable c}(h:¬c:=by omega){α:Sort u}{t e:α}:ite c t e=e:=if_neg h
theorem zip.{u}{c:Prop}{i:Decidable c}(h:c:=by omega){α:Sort u}{t e:α}:ite c t e=t:=if_pos h
theorem gT {p:Prop}[i:Decidable p](h:¬p:=by omega):decide p=false:=decide_eq_false h
theorem iV {p:Prop}[i:Decidable p](h:p:=by omega):decide p=true:=decide_eq_true h
theorem af:∀{α:Sort _}(a b:α),(bif false then a else b)=b:= @cond_false
theorem ai:∀{α:Type _}{as bs:au α},List.length (as++bs)=List.length as+List.length bs:= @List.length_append
theorem ah:∀{α:Sort _}(a b:α),(bif true then a else b)=a:= @cond_true
theorem ae:∀(a b:Bool),((a&&b)=true)=(a=true/\b=true):= @Bool.and_eq_true
theorem aj:(!true)=false:= @Bool.not_true
theorem ax:∀(n:Nat),Int.toNat ↑n=n:= @Int.toNat_natCast
theorem aU:∀{α:Type _}(as bs cs:au α),as++bs++cs=as++(bs++cs):= @List.append_assoc
theorem aI:∀{α:Type _}{i:Nat}{l:au α},List.length (List.drop i l)=List.length l-i:= @List.length_drop
theorem bm:∀{n m k:Nat},n<=m->m<=k->n<=k:= @Nat.le_trans
theorem aA:∀{α:Type _}{as:au α}{i:Nat}{a:α},List.length (List.set as i a)=List.length as:= @List.length_set
theorem ba:∀(n:Nat),n<=n:= @Nat.le_refl
theorem bq:∀{α:Type _}{b:α}(as:au α){bs:au α},b∈bs->b∈as++bs:= @List.mem_append_right
theorem bf:(false=true)=False:= @Bool.false_eq_true
theorem bl:∀{α:Type _}(val val_1:α),(some val=some val_1)=(val=val_1):= @Option.some.injEq
theorem aH:∀(b:Bool),((!b)=true)=(b=false):= @Bool.not_eq_true'
theorem aO:∀{α:Type _}{i:Nat}{l:au α},List.length (List.take i l)=min i (List.length l):= @List.length_take
theorem ay:∀{α:Type _}{a:α}{s t:au α},a∈s++t↔a∈s\/a∈t:= @List.mem_append
theorem aY:∀{α:Type _}{a:α}{as:au α},List.length (a::as)=List.length as+1:= @List.length_cons
theorem bA:∀{α:Type _}{a:α}{as:au α}(bs:au α),a∈as->a∈as++bs:= @List.mem_append_left
theorem aC:∀{α:Type _}{p:α->Bool}{l:au α},List.all l p=true↔∀(x:α),x∈l->p x=true:= @List.all_eq_true
theorem bw:∀{α:Type _}(as:au α),as++[]=as:= @List.append_nil
theorem aW:∀{α:Type _}{i:Nat}{l:au α}(h:i<List.length l),List.take (i+1) l=List.take i l++[l[i]]:= @List.take_succ_eq_append_getElem
theorem bW:∀{α:Type _}(as:au α),[]++as=as:= @List.nil_append
theorem aV:∀{α:Type _}{a:α},List.length [a]=1:= @List.length_singleton
theorem bR:∀{α:Type _}{i:Nat}{l:au α},List.length l<=i->List.take i l=l:= @List.take_of_length_le
theorem cl:∀(b:Bool),(b||b)=b:= @Bool.or_self
theorem cv:∀{n m:Nat}(k:Nat),n<=m->n*k<=m*k:= @Nat.mul_le_mul_right
theorem cp:∀{α:Type _}(i:Nat)(l:au α),List.take i l++List.drop i l=l:= @List.take_append_drop
theorem aL:∀{α:Type _}{l:au α}{n:Nat}(h:n<List.length l),l[n]∈l:= @List.getElem_mem
theorem bV:∀(n m:Nat),n<m\/n>=m:= @Nat.lt_or_ge
theorem bj:∀(b:Bool),(true&&b)=b:= @Bool.true_and
theorem bQ:∀{α:Type _}{i:Nat}{l:au α}(h:i<List.length l),List.drop i l=l[i]::List.drop (i+1) l:= @List.drop_eq_getElem_cons
theorem cz:∀(b:Bool),(false||b)=b:= @Bool.false_or
theorem cy:∀(n m k:Nat),(n+m)*k=n*k+m*k:= @Nat.add_mul
theorem ca:∀{α:Type _}{l:au α},List.length l=0->l=[]:= @List.eq_nil_of_length_eq_zero
theorem bU:∀{α:Type _}{a:α}{l:au α}{f:α->Bool},List.all (a::l) f=(f a&&List.all l f):= @List.all_cons
theorem cg:∀(n:Nat),0+n=n:= @Nat.zero_add
theorem bF:∀{α:Type _}{β:Type _}{as:au α}(f:α->β),List.length (List.map f as)=List.length as:= @List.length_map
theorem bS:∀(n:Nat),0<=n:= @Nat.zero_le
theorem cQ:∀{α:Type _}{i:Nat}{l:au α},List.length l<=i->List.drop i l=[]:= @List.drop_of_length_le
theorem br:(!false)=true:= @Bool.not_false
theorem cB:∀(a b:Bool),((a||b)=true)=(a=true\/b=true):= @Bool.or_eq_true
theorem cS:∀{α:Type _}{β:Type _}{f:α->β}{a:α}{l:au α},List.map f (a::l)=f a::List.map f l:= @List.map_cons
theorem db:∀{α:Type _}{β:Type _}(a:α)(f:α->β),Option.map f (some a)=some (f a):= @Option.map_some
theorem dx:∀(w n:Nat),BitVec.ofInt w ↑n=BitVec.ofNat w n:= @BitVec.ofInt_natCast
theorem bM:∀{α:Type _}{val val_1:α},some val=some val_1->val=val_1:= @Option.some.inj
theorem cn:∀{a b:Bool},a=b↔(a=true↔b=true):= @Bool.eq_iff_iff
theorem df:∀{a b:Int},0<=a->Int.tmod a b=a%b:= @Int.tmod_eq_emod_of_nonneg
theorem dQ:∀(n:Nat),n+0=n:= @Nat.add_zero
theorem cC:∀{α:Sort _}{a b:α},a≠b->b≠a:= @Ne.symm
theorem eK:∀(a:Int){b:Int},0<b->a%b<b:= @Int.emod_lt_of_pos
theorem dJ:∀(x w:Nat),BitVec.toNat (BitVec.ofNat w x)=x%2^w:= @BitVec.toNat_ofNat
theorem dS:∀{α:Type _}{L₁ L₂:au (au α)},List.flatten (L₁++L₂)=List.flatten L₁++List.flatten L₂:= @List.flatten_append
theorem dR:∀{a b:Nat},a<b->a%b=a:= @Nat.mod_eq_of_lt
theorem eD:∀{α:Type _}{l:au α},List.drop 0 l=l:= @List.drop_zero
theorem eI:∀(a:Int){b:Int},b≠0->0<=a%b:= @Int.emod_nonneg
theorem eS:∀(n:Nat),1*n=n:= @Nat.one_mul
theorem aQ:∀{α:Type _}{b:α}{α_1:Type _}{x:aw α_1}{f:α_1->aw α},Option.bind x f=some b↔∃a,x=some a/\f a=some b:= @Option.bind_eq_some_iff
theorem eC:∀{α:Type _}{i j:Nat}{l:au α},List.drop i (List.drop j l)=List.drop (j+i) l:= @List.drop_drop
theorem cc:∀{x y:Bool},(x||y)=false↔x=false/\y=false:= @Bool.or_eq_false_iff
theorem dF:∀{α:Type _}{β:Type _}{f:α->β}{l₁ l₂:au α},List.map f (l₁++l₂)=List.map f l₁++List.map f l₂:= @List.map_append
theorem ed:∀{α:Type _}{β:Type _}(a:α)(f:α->aw β),Option.bind (some a) f=f a:= @Option.bind_some
theorem cm:∀{α:Type _}{l:au α},List.take (List.length l) l=l:= @List.take_length
theorem cq:∀(b:Bool),(b&&b)=b:= @Bool.and_self
theorem eP:∀{α:Type _}{xs ys:Array α},Array.toList xs=Array.toList ys->xs=ys:= @Array.ext'
theorem fj:∀(n m k:Nat),n+m+k=n+(m+k):= @Nat.add_assoc
theorem dq:∀{α:Type _}{β:Type _}{a:α}{l:au α}{f:β->α->β}{b:β},List.foldl f b (a::l)=List.foldl f (f b a) l:= @List.foldl_cons
theorem ff:∀{α:Type _}{a b:α},Option.getD (some a) b=a:= @Option.getD_some
theorem fg:∀(b:Bool),(!!b)=b:= @Bool.not_not
theorem dZ:∀{α:Type _}(y:α){a:α}{l:au α},a∈l->a∈y::l:= @List.mem_cons_of_mem
theorem bG:∀{α:Type _}{b:α}{l:au α}{a:α},a∈b::l↔a=b\/a∈l:= @List.mem_cons
theorem bu:∀{α:Type _}{a b:α},a∈[b]↔a=b:= @List.mem_singleton
theorem dB:∀(b:Bool),((!b)=false)=(b=true):= @Bool.not_eq_false'
theorem dw:∀(b:Bool),(false&&b)=false:= @Bool.false_and
theorem gC:∀{n m:Nat},n<=m->Nat.ble n m=true:= @Nat.ble_eq_true_of_le
theorem gK:∀(n:Nat),n-n=0:= @Nat.sub_self
theorem gJ:∀{a b:Nat},a<b->a≠b:= @Nat.ne_of_lt
theorem bz:∀{m n:Nat},m∈List.range n↔m<n:= @List.mem_range
theorem ez:∀(b:Bool),(b&&false)=false:= @Bool.and_false
theorem gP:∀{a b:Nat},a<=b->min a b=a:= @Nat.min_eq_left
theorem ij:∀(p:Prop),(p/\True)=p:= @and_true
theorem gv:∀{α:Type _}{l:au α},List.drop (List.length l) l=[]:= @List.drop_length
theorem gI:∀(b:Bool),(true||b)=true:= @Bool.true_or
theorem fW:∀{n:Nat},List.range (Nat.succ n)=List.range n++[n]:= @List.range_succ
theorem cu:∀(a:Int),a<=a:= @Int.le_refl
theorem gH:∀(b:Bool),(b||true)=true:= @Bool.or_true
theorem mn:∀(n:Nat),n*1=n:= @Nat.mul_one
theorem dP:∀{α:Type _}{β:Type _}{b:β}{f:α->β}{l:au α},b∈List.map f l↔∃a,a∈l/\f a=b:= @List.mem_map
theorem fi:∀(b:Bool),(b&&true)=b:= @Bool.and_true
theorem ar:∀{p:Prop}[Decidable p],p->decide p=true:= @decide_eq_true
theorem bn:∀{p:Prop}[Decidable p],decide p=true->p:= @of_decide_eq_true
theorem aE:∀{p:Prop}[Decidable p],(decide p=true)=p:= @decide_eq_true_eq
theorem al:∀{p:Prop}[Decidable p],¬p->decide p=false:= @decide_eq_false
theorem cJ:∀{p:Prop}{_:Decidable p},decide p=false↔¬p:= @decide_eq_false_iff_not
theorem aD:∀{c:Prop}{h:Decidable c},¬c->∀{α:Sort _}{t e:α}, @ite α c h t e=e:= @if_neg
theorem aF:∀{c:Prop}{h:Decidable c},c->∀{α:Sort _}{t e:α}, @ite α c h t e=t:= @if_pos
theorem bT:∀{α:Sort _}{_:Decidable True}(t e:α),(if True then t else e)=t:= @if_true
theorem cd:∀{α:Sort _}{_:Decidable False}(t e:α),(if False then t else e)=e:= @if_false
theorem aN:∀{a:Int},0<=a->∃n:Nat,a=(n:Int):= @Int.eq_ofNat_of_zero_le
theorem bh:∀{α:Type _}[BEq α][LawfulBEq α]{a b:α},(a==b)=true↔a=b:= @beq_iff_eq
theorem bP:∀{α:Type _}[BEq α][LawfulBEq α]{a b:α},(a==b)=false↔a≠b:= @beq_eq_false_iff_ne
theorem du:∀{α:Type _},List.length ([]:au α)=0:= @List.length_nil
end Go
