import GoSem.Core.Sem
import GoSem.Dispatch
import Derived.KernelRfl
/- Short names for lemmas that are used often. -/
namespace Go
abbrev ax.{u}(α:Type u):Type u:=List α
abbrev aB.{u}(α:Type u):Type u:=Option α
theorem cC:True:=trivial
abbrev gN (x:Int):BitVec (IntKind.bits .i64):=BitVec.ofInt (IntKind.bits .i64) x
abbrev mq (x:Int):Nat:=min (Int.toNat x) (IntKind.bits .i64)
abbrev dC:Type:=ax Int
abbrev fF:Type:=ax Nat
abbrev bW:Type:=List (List UInt8)
abbrev lb:Type:=Int×Int×Int×Int
abbrev HI:Type:=Int×Int×Int
abbrev AQ:Type:=Int×Int×Int×Int×Int×Int
abbrev CL:Type:=Int×Int×Int×Int×Int
abbrev iS:Type:=List Value
theorem jR.{u}{c:Prop}{i:Decidable c}(h:¬c:=by omega){α:Sort u}{t e:α}:ite c t e=e:=if_neg h
theorem zip.{u}{c:Prop}{i:Decidable c}(h:c:=by omega){α:Sort u}{t e:α}:ite c t e=t:=if_pos h
theorem jJ {p:Prop}[i:Decidable p](h:¬p:=by omega):decide p=false:=decide_eq_false h
theorem lT {p:Prop}[i:Decidable p](h:p:=by omega):decide p=true:=decide_eq_true h
theorem af:∀{α:Sort _}(a b:α),(bif false then a else b)=b:= @cond_false
theorem ai:∀{α:Type _}{as bs:ax α},List.length (as++bs)=List.length as+List.length bs:= @List.length_append
theorem ah:∀{α:Sort _}(a b:α),(bif true then a else b)=a:= @cond_true
theorem ae:∀(a b:Bool),((a&&b)=true)=(a=true/\b=true):= @Bool.and_eq_true
theorem aj:(!true)=false:= @Bool.not_true
theorem ay:∀(n:Nat),Int.toNat ↑n=n:= @Int.toNat_natCast
theorem aN:∀{α:Type _}(as bs cs:ax α),as++bs++cs=as++(bs++cs):= @List.append_assoc
theorem aO:∀{α:Type _}{i:Nat}{l:ax α},List.length (List.drop i l)=List.length l-i:= @List.length_drop
theorem bE:∀{n m k:Nat},n<=m->m<=k->n<=k:= @Nat.le_trans
theorem az:∀{α:Type _}{as:ax α}{i:Nat}{a:α},List.length (List.set as i a)=List.length as:= @List.length_set
theorem aR:∀(n:Nat),n<=n:= @Nat.le_refl
theorem bg:∀{α:Type _}{b:α}(as:ax α){bs:ax α},b∈bs->b∈as++bs:= @List.mem_append_right
theorem ba:(false=true)=False:= @Bool.false_eq_true
theorem bj:∀{α:Type _}(val val_1:α),(some val=some val_1)=(val=val_1):= @Option.some.injEq
theorem aL:∀(b:Bool),((!b)=true)=(b=false):= @Bool.not_eq_true'
theorem aS:∀{α:Type _}{i:Nat}{l:ax α},List.length (List.take i l)=min i (List.length l):= @List.length_take
theorem aw:∀{α:Type _}{a:α}{s t:ax α},a∈s++t↔a∈s\/a∈t:= @List.mem_append
theorem bc:∀{α:Type _}{a:α}{as:ax α},List.length (a::as)=List.length as+1:= @List.length_cons
theorem bA:∀{α:Type _}{a:α}{as:ax α}(bs:ax α),a∈as->a∈as++bs:= @List.mem_append_left
theorem aJ:∀{α:Type _}{p:α->Bool}{l:ax α},List.all l p=true↔∀(x:α),x∈l->p x=true:= @List.all_eq_true
theorem bN:∀{α:Type _}(as:ax α),as++[]=as:= @List.append_nil
theorem cb:∀{α:Type _}{i:Nat}{l:ax α}(h:i<List.length l),List.take (i+1) l=List.take i l++[l[i]]:= @List.take_succ_eq_append_getElem
theorem cJ:∀{α:Type _}(as:ax α),[]++as=as:= @List.nil_append
theorem br:∀{α:Type _}{a:α},List.length [a]=1:= @List.length_singleton
theorem bP:∀{α:Type _}{i:Nat}{l:ax α},List.length l<=i->List.take i l=l:= @List.take_of_length_le
theorem bQ:∀(b:Bool),(b||b)=b:= @Bool.or_self
theorem cK:∀{n m:Nat}(k:Nat),n<=m->n*k<=m*k:= @Nat.mul_le_mul_right
theorem cy:∀{α:Type _}(i:Nat)(l:ax α),List.take i l++List.drop i l=l:= @List.take_append_drop
theorem bz:∀{α:Type _}{l:ax α}{n:Nat}(h:n<List.length l),l[n]∈l:= @List.getElem_mem
theorem ca:∀(n m:Nat),n<m\/n>=m:= @Nat.lt_or_ge
theorem bB:∀(b:Bool),(true&&b)=b:= @Bool.true_and
theorem cg:∀{α:Type _}{i:Nat}{l:ax α}(h:i<List.length l),List.drop i l=l[i]::List.drop (i+1) l:= @List.drop_eq_getElem_cons
theorem cz:∀(b:Bool),(false||b)=b:= @Bool.false_or
theorem cO:∀(n m k:Nat),(n+m)*k=n*k+m*k:= @Nat.add_mul
theorem bS:∀{α:Type _}{l:ax α},List.length l=0->l=[]:= @List.eq_nil_of_length_eq_zero
theorem cr:∀{α:Type _}{a:α}{l:ax α}{f:α->Bool},List.all (a::l) f=(f a&&List.all l f):= @List.all_cons
theorem cD:∀(n:Nat),0+n=n:= @Nat.zero_add
theorem cI:∀{α:Type _}{β:Type _}{as:ax α}(f:α->β),List.length (List.map f as)=List.length as:= @List.length_map
theorem bX:∀(n:Nat),0<=n:= @Nat.zero_le
theorem cq:∀{α:Type _}{i:Nat}{l:ax α},List.length l<=i->List.drop i l=[]:= @List.drop_of_length_le
theorem cd:(!false)=true:= @Bool.not_false
theorem cG:∀(a b:Bool),((a||b)=true)=(a=true\/b=true):= @Bool.or_eq_true
theorem cU:∀{α:Type _}{β:Type _}{f:α->β}{a:α}{l:ax α},List.map f (a::l)=f a::List.map f l:= @List.map_cons
theorem dz:∀{α:Type _}{β:Type _}(a:α)(f:α->β),Option.map f (some a)=some (f a):= @Option.map_some
theorem dK:∀(w n:Nat),BitVec.ofInt w ↑n=BitVec.ofNat w n:= @BitVec.ofInt_natCast
theorem cZ:∀{α:Type _}{val val_1:α},some val=some val_1->val=val_1:= @Option.some.inj
theorem dS:∀{a b:Bool},a=b↔(a=true↔b=true):= @Bool.eq_iff_iff
theorem dB:∀{a b:Int},0<=a->Int.tmod a b=a%b:= @Int.tmod_eq_emod_of_nonneg
theorem dQ:∀(n:Nat),n+0=n:= @Nat.add_zero
theorem cc:∀{α:Sort _}{a b:α},a≠b->b≠a:= @Ne.symm
theorem fA:∀(a:Int){b:Int},0<b->a%b<b:= @Int.emod_lt_of_pos
theorem eh:∀(x w:Nat),BitVec.toNat (BitVec.ofNat w x)=x%2^w:= @BitVec.toNat_ofNat
theorem dT:∀{α:Type _}{L₁ L₂:ax (ax α)},List.flatten (L₁++L₂)=List.flatten L₁++List.flatten L₂:= @List.flatten_append
theorem eF:∀{a b:Nat},a<b->a%b=a:= @Nat.mod_eq_of_lt
theorem fM:∀{α:Type _}{l:ax α},List.drop 0 l=l:= @List.drop_zero
theorem fy:∀(a:Int){b:Int},b≠0->0<=a%b:= @Int.emod_nonneg
theorem fO:∀(n:Nat),1*n=n:= @Nat.one_mul
theorem aP:∀{α:Type _}{b:α}{α_1:Type _}{x:aB α_1}{f:α_1->aB α},Option.bind x f=some b↔∃a,x=some a/\f a=some b:= @Option.bind_eq_some_iff
theorem fj:∀{α:Type _}{i j:Nat}{l:ax α},List.drop i (List.drop j l)=List.drop (j+i) l:= @List.drop_drop
theorem cj:∀{x y:Bool},(x||y)=false↔x=false/\y=false:= @Bool.or_eq_false_iff
theorem cY:∀{α:Type _}{β:Type _}{f:α->β}{l₁ l₂:ax α},List.map f (l₁++l₂)=List.map f l₁++List.map f l₂:= @List.map_append
theorem eT:∀{α:Type _}{β:Type _}(a:α)(f:α->aB β),Option.bind (some a) f=f a:= @Option.bind_some
theorem eS:∀{α:Type _}{l:ax α},List.take (List.length l) l=l:= @List.take_length
theorem dL:∀(b:Bool),(b&&b)=b:= @Bool.and_self
theorem fE:∀{α:Type _}{xs ys:Array α},Array.toList xs=Array.toList ys->xs=ys:= @Array.ext'
theorem fK:∀(n m k:Nat),n+m+k=n+(m+k):= @Nat.add_assoc
theorem fX:∀{α:Type _}{a b:α},Option.getD (some a) b=a:= @Option.getD_some
theorem gL:∀(b:Bool),(!!b)=b:= @Bool.not_not
theorem fD:∀{α:Type _}(y:α){a:α}{l:ax α},a∈l->a∈y::l:= @List.mem_cons_of_mem
theorem cA:∀{α:Type _}{b:α}{l:ax α}{a:α},a∈b::l↔a=b\/a∈l:= @List.mem_cons
theorem bG:∀{α:Type _}{a b:α},a∈[b]↔a=b:= @List.mem_singleton
theorem dN:∀(b:Bool),((!b)=false)=(b=true):= @Bool.not_eq_false'
theorem fi:∀(b:Bool),(false&&b)=false:= @Bool.false_and
theorem hU:∀{n m:Nat},n<=m->Nat.ble n m=true:= @Nat.ble_eq_true_of_le
theorem fQ:∀{α:Type _}{x:α}{l:ax α},[x]++l=x::l:= @List.singleton_append
theorem lf:∀(n:Nat),n-n=0:= @Nat.sub_self
theorem ib:∀{a b:Nat},a<b->a≠b:= @Nat.ne_of_lt
theorem cp:∀{m n:Nat},m∈List.range n↔m<n:= @List.mem_range
theorem eM:∀(b:Bool),(b&&false)=false:= @Bool.and_false
theorem ig:∀{a b:Nat},a<=b->min a b=a:= @Nat.min_eq_left
theorem iU:∀(p:Prop),(p/\True)=p:= @and_true
theorem gX:∀{α:Type _}{l:ax α},List.drop (List.length l) l=[]:= @List.drop_length
theorem iT:∀(b:Bool),(true||b)=true:= @Bool.true_or
theorem eo:∀(a:Int),a<=a:= @Int.le_refl
theorem jL:∀(b:Bool),(b||true)=true:= @Bool.or_true
theorem mM:∀(n:Nat),n*1=n:= @Nat.mul_one
theorem eQ:∀{α:Type _}{β:Type _}{b:β}{f:α->β}{l:ax α},b∈List.map f l↔∃a,a∈l/\f a=b:= @List.mem_map
theorem iq:∀(b:Bool),(b&&true)=b:= @Bool.and_true
theorem au:∀{p:Prop}[Decidable p],p->decide p=true:= @decide_eq_true
theorem bu:∀{p:Prop}[Decidable p],decide p=true->p:= @of_decide_eq_true
theorem aD:∀{p:Prop}[Decidable p],(decide p=true)=p:= @decide_eq_true_eq
theorem ar:∀{p:Prop}[Decidable p],¬p->decide p=false:= @decide_eq_false
theorem cR:∀{p:Prop}{_:Decidable p},decide p=false↔¬p:= @decide_eq_false_iff_not
theorem aI:∀{c:Prop}{h:Decidable c},¬c->∀{α:Sort _}{t e:α}, @ite α c h t e=e:= @if_neg
theorem aH:∀{c:Prop}{h:Decidable c},c->∀{α:Sort _}{t e:α}, @ite α c h t e=t:= @if_pos
theorem bU:∀{α:Sort _}{_:Decidable True}(t e:α),(if True then t else e)=t:= @if_true
theorem cl:∀{α:Sort _}{_:Decidable False}(t e:α),(if False then t else e)=e:= @if_false
theorem aG:∀{a:Int},0<=a->∃n:Nat,a=(n:Int):= @Int.eq_ofNat_of_zero_le
theorem bq:∀{α:Type _}[BEq α][LawfulBEq α]{a b:α},(a==b)=true↔a=b:= @beq_iff_eq
theorem gY:∀{α:Type _}[BEq α][ReflBEq α](a:α),(a==a)=true:= @beq_self_eq_true
theorem bT:∀{α:Type _}[BEq α][LawfulBEq α]{a b:α},(a==b)=false↔a≠b:= @beq_eq_false_iff_ne
theorem eD:∀{α:Type _},List.length ([]:ax α)=0:= @List.length_nil
theorem fN:∀{α:Type _}{a:α}{l:ax α},a∈l->∃(i:Nat)(h:i<l.length),l[i]=a:= @List.getElem_of_mem
theorem al:∀{α:Type _}{l:ax α}{i:Nat}(h:i<List.length l),l[i]?=some l[i]:= @List.getElem?_eq_getElem
theorem aA:∀{α:Type _}{i:Nat}{a:α}{l:ax α},l[i]?=some a↔∃(h:i<List.length l),l[i]=a:= @List.getElem?_eq_some_iff
theorem aK:∀{α:Type _}{l₁ l₂:ax α},List.Nodup (l₁++l₂)↔List.Nodup l₁/\List.Nodup l₂/\∀(a:α),a∈l₁->∀(b:α),b∈l₂->a≠b:= @List.nodup_append
theorem aF:∀{α:Type _}{l:ax α}{i j:Nat},i≠j->∀{a:α},(List.set l i a)[j]?=l[j]?:= @List.getElem?_set_ne
theorem aW:∀{α:Type _}{l:ax α}{i:Nat}{a:α},l[i]?=some a->a∈l:= @List.mem_of_getElem?
theorem aY:∀{α:Type _}{l:ax α}{i:Nat}{a:α},List.getD l i a=Option.getD l[i]? a:= @List.getD_eq_getElem?_getD
theorem bt:∀{α:Type _}{l₁ l₂:ax α}{i:Nat},List.length l₁<=i->(l₁++l₂)[i]?=l₂[i-List.length l₁]?:= @List.getElem?_append_right
theorem bH:∀{α:Type _}{l:ax α}{i:Nat},List.length l<=i->l[i]?=none:= @List.getElem?_eq_none
theorem bf:∀{α:Type _}{l₁ l₂:ax α}{i:Nat},i<List.length l₁->(l₁++l₂)[i]?=l₁[i]?:= @List.getElem?_append_left
theorem bC:∀{α:Type _}{l:ax α}{i j:Nat}{a:α},(List.set l i a)[j]?=if i=j then if i<List.length l then some a else none else l[j]?:= @List.getElem?_set
theorem bJ:∀{α:Type _}{xs:ax α}{i j:Nat},(List.drop i xs)[j]?=xs[i+j]?:= @List.getElem?_drop
theorem fJ:∀{α:Type _}{l:ax α}{i:Nat}{a b:α},a∈List.set l i b->a∈l\/a=b:= @List.mem_or_eq_of_mem_set
theorem bw:∀{α:Type _}{l:ax α}{i:Nat}{a:α},i<List.length l->(List.set l i a)[i]?=some a:= @List.getElem?_set_self
theorem cH:∀{α:Type _}{a:α}{l:ax α},(a::l)[0]?=some a:= @List.getElem?_cons_zero
theorem fz:∀{α:Type _}{a:α}{i:Nat}{l:ax α},(a::l)[i+1]?=l[i]?:= @List.getElem?_cons_succ
theorem cx:∀{α:Type _}{xs:Array α}{i:Nat},(Array.toList xs)[i]?=xs[i]?:= @Array.getElem?_toList
theorem cV:∀{α:Type _}{l₁ l₂:ax α},(∀(i:Nat),l₁[i]?=l₂[i]?)->l₁=l₂:= @List.ext_getElem?
theorem dy:∀{α:Type _}{a:α}{l:ax α},List.Nodup (a::l)↔¬a∈l/\List.Nodup l:= @List.nodup_cons
theorem dP:∀{α:Type _}{l:ax α}{i j:Nat},(List.take i l)[j]?=if j<i then l[j]? else none:= @List.getElem?_take
theorem du:∀{α:Type _}{l:ax α}{i j:Nat},i<j->(List.take j l)[i]?=l[i]?:= @List.getElem?_take_of_lt
theorem dJ:∀{α:Type _}{xs:Array α}{i:Nat}{d:α},Array.getD xs i d=Option.getD xs[i]? d:= @Array.getD_eq_getD_getElem?
theorem dU:∀{n:Nat}{α:Type _}{a:α}{i:Nat},(List.replicate n a)[i]?=if i<n then some a else none:= @List.getElem?_replicate
theorem gz:∀{p:Prop}[Decidable p],decide p=false->¬p:= @of_decide_eq_false
end Go
