import GoSem.Core.Sem
import GoSem.Dispatch
import Derived.KernelRfl
/- Short names for lemmas that are used often. -/
namespace Go
theorem ai:∀{α:Sort _}(a b:α),(bif false then a else b)=b:= @cond_false
theorem ak:∀{α:Type _}{as bs:List α},List.length (as++bs)=List.length as+List.length bs:= @List.length_append
theorem ah:∀{α:Sort _}(a b:α),(bif true then a else b)=a:= @cond_true
theorem ab:∀(a b:Bool),((a&&b)=true)=(a=true∧b=true):= @Bool.and_eq_true
theorem ar:(!true)=false:= @Bool.not_true
theorem aH:∀(n:Nat),Int.toNat ↑n=n:= @Int.toNat_natCast
theorem aC:∀{α:Type _}(as bs cs:List α),as++bs++cs=as++(bs++cs):= @List.append_assoc
theorem bc:∀{α:Type _}{i:Nat}{l:List α},List.length (List.drop i l)=List.length l-i:= @List.length_drop
theorem bS:∀{n m k:Nat},n≤m→m≤k→n≤k:= @Nat.le_trans
theorem aP:∀{α:Type _}{as:List α}{i:Nat}{a:α},List.length (List.set as i a)=List.length as:= @List.length_set
theorem aQ:∀(n:Nat),n≤n:= @Nat.le_refl
theorem aI:∀{α:Type _}{b:α}(as:List α){bs:List α},b∈bs→b∈as++bs:= @List.mem_append_right
theorem aG:(false=true)=False:= @Bool.false_eq_true
theorem aO:∀{α:Type _}(val val_1:α),(some val=some val_1)=(val=val_1):= @Option.some.injEq
theorem aB:∀(b:Bool),((!b)=true)=(b=false):= @Bool.not_eq_true'
theorem bn:∀{α:Type _}{i:Nat}{l:List α},List.length (List.take i l)=min i (List.length l):= @List.length_take
theorem al:∀{α:Type _}{a:α}{s t:List α},a∈s++t↔a∈s∨a∈t:= @List.mem_append
theorem bD:∀{α:Type _}{a:α}{as:List α},List.length (a::as)=List.length as+1:= @List.length_cons
theorem aS:∀{α:Type _}{a:α}{as:List α}(bs:List α),a∈as→a∈as++bs:= @List.mem_append_left
theorem az:∀{α:Type _}{p:α→Bool}{l:List α},List.all l p=true↔∀(x:α),x∈l→p x=true:= @List.all_eq_true
theorem ba:∀{α:Type _}(as:List α),as++[]=as:= @List.append_nil
theorem bJ:∀{α:Type _}{i:Nat}{l:List α}(h:i<List.length l),List.take (i+1) l=List.take i l++[l[i]]:= @List.take_succ_eq_append_getElem
theorem bu:∀{α:Type _}(as:List α),[]++as=as:= @List.nil_append
theorem bR:∀{α:Type _}{a:α},List.length [a]=1:= @List.length_singleton
theorem bz:∀{α:Type _}{i:Nat}{l:List α},List.length l≤i→List.take i l=l:= @List.take_of_length_le
theorem c9:∀(b:Bool),(b||b)=b:= @Bool.or_self
theorem bP:∀{n m:Nat}(k:Nat),n≤m→n*k≤m*k:= @Nat.mul_le_mul_right
theorem bI:∀{α:Type _}(i:Nat)(l:List α),List.take i l++List.drop i l=l:= @List.take_append_drop
theorem aM:∀{α:Type _}{l:List α}{n:Nat}(h:n<List.length l),l[n]∈l:= @List.getElem_mem
theorem bB:∀(n m:Nat),n<m∨n≥m:= @Nat.lt_or_ge
theorem bg:∀(b:Bool),(true&&b)=b:= @Bool.true_and
theorem bA:∀{α:Type _}{i:Nat}{l:List α}(h:i<List.length l),List.drop i l=l[i]::List.drop (i+1) l:= @List.drop_eq_getElem_cons
theorem cZ:∀(b:Bool),(false||b)=b:= @Bool.false_or
theorem bQ:∀(n m k:Nat),(n+m)*k=n*k+m*k:= @Nat.add_mul
theorem bF:∀{α:Type _}{l:List α},List.length l=0→l=[]:= @List.eq_nil_of_length_eq_zero
theorem bp:∀{α:Type _}{a:α}{l:List α}{f:α→Bool},List.all (a::l) f=(f a&&List.all l f):= @List.all_cons
theorem bM:∀(n:Nat),0+n=n:= @Nat.zero_add
theorem cg:∀{α:Type _}{β:Type _}{as:List α}(f:α→β),List.length (List.map f as)=List.length as:= @List.length_map
theorem bt:∀(n:Nat),0≤n:= @Nat.zero_le
theorem cc:∀{α:Type _}{i:Nat}{l:List α},List.length l≤i→List.drop i l=[]:= @List.drop_of_length_le
theorem cp:(!false)=true:= @Bool.not_false
theorem bU:∀(a b:Bool),((a||b)=true)=(a=true∨b=true):= @Bool.or_eq_true
theorem cP:∀{α:Type _}{β:Type _}{f:α→β}{a:α}{l:List α},List.map f (a::l)=f a::List.map f l:= @List.map_cons
theorem ch:∀{α:Type _}{β:Type _}(a:α)(f:α→β),Option.map f (some a)=some (f a):= @Option.map_some
theorem cq:∀(w n:Nat),BitVec.ofInt w ↑n=BitVec.ofNat w n:= @BitVec.ofInt_natCast
theorem bE:∀{α:Type _}{val val_1:α},some val=some val_1→val=val_1:= @Option.some.inj
theorem bO:∀{a b:Bool},a=b↔(a=true↔b=true):= @Bool.eq_iff_iff
theorem dD:∀{a b:Int},0≤a→Int.tmod a b=a%b:= @Int.tmod_eq_emod_of_nonneg
theorem db:∀(n:Nat),n+0=n:= @Nat.add_zero
theorem bL:∀{α:Sort _}{a b:α},a≠b→b≠a:= @Ne.symm
theorem cC:∀(x w:Nat),BitVec.toNat (BitVec.ofNat w x)=x%2^w:= @BitVec.toNat_ofNat
theorem cI:∀{α:Type _}{L₁ L₂:List (List α)},List.flatten (L₁++L₂)=List.flatten L₁++List.flatten L₂:= @List.flatten_append
theorem cH:∀{a b:Nat},a<b→a%b=a:= @Nat.mod_eq_of_lt
theorem da:∀{α:Type _}{l:List α},List.drop 0 l=l:= @List.drop_zero
theorem dx:∀(n:Nat),1*n=n:= @Nat.one_mul
theorem ay:∀{α:Type _}{b:α}{α_1:Type _}{x:Option α_1}{f:α_1→Option α},Option.bind x f=some b↔∃a,x=some a∧f a=some b:= @Option.bind_eq_some_iff
theorem cU:∀{α:Type _}{β:Type _}(a:α)(f:α→Option β),Option.bind (some a) f=f a:= @Option.bind_some
theorem cS:∀{α:Type _}{l:List α},List.take (List.length l) l=l:= @List.take_length
theorem dj:∀(b:Bool),(b&&b)=b:= @Bool.and_self
theorem cQ:∀{α:Type _}{xs ys:Array α},Array.toList xs=Array.toList ys→xs=ys:= @Array.ext'
theorem dw:∀(n m k:Nat),n+m+k=n+(m+k):= @Nat.add_assoc
theorem cE:∀{α:Type _}{β:Type _}{a:α}{l:List α}{f:β→α→β}{b:β},List.foldl f b (a::l)=List.foldl f (f b a) l:= @List.foldl_cons
theorem dM:∀{α:Type _}{a b:α},Option.getD (some a) b=a:= @Option.getD_some
theorem c8:∀(b:Bool),(!!b)=b:= @Bool.not_not
theorem dv:∀{α:Type _}(y:α){a:α}{l:List α},a∈l→a∈y::l:= @List.mem_cons_of_mem
theorem bl:∀{α:Type _}{b:α}{l:List α}{a:α},a∈b::l↔a=b∨a∈l:= @List.mem_cons
theorem bw:∀{α:Type _}{a b:α},a∈[b]↔a=b:= @List.mem_singleton
theorem dQ:∀(b:Bool),(false&&b)=false:= @Bool.false_and
theorem eu:∀{n m:Nat},n≤m→Nat.ble n m=true:= @Nat.ble_eq_true_of_le
theorem fP:∀(n:Nat),n-n=0:= @Nat.sub_self
theorem ew:∀{a b:Nat},a<b→a≠b:= @Nat.ne_of_lt
theorem bf:∀{m n:Nat},m∈List.range n↔m<n:= @List.mem_range
theorem eG:∀(b:Bool),(b&&false)=false:= @Bool.and_false
theorem eB:∀(p:Prop),(p∧True)=p:= @and_true
theorem fO:∀(b:Bool),(true||b)=true:= @Bool.true_or
theorem ek:∀{n m k:Nat},n<m→m≤k→n<k:= @Nat.lt_of_lt_of_le
theorem eH:∀(a:Int),a≤a:= @Int.le_refl
theorem fN:∀(b:Bool),(b||true)=true:= @Bool.or_true
theorem iH:∀(n:Nat),n*1=n:= @Nat.mul_one
theorem dL:∀(b:Bool),(b&&true)=b:= @Bool.and_true
theorem aj:∀{p:Prop}[Decidable p],p→decide p=true:= @decide_eq_true
theorem a6:∀{p:Prop}[Decidable p],decide p=true→p:= @of_decide_eq_true
theorem aD:∀{p:Prop}[Decidable p],(decide p=true)=p:= @decide_eq_true_eq
theorem af:∀{p:Prop}[Decidable p],¬p→decide p=false:= @decide_eq_false
theorem dy:∀{p:Prop}{_:Decidable p},decide p=false↔¬p:= @decide_eq_false_iff_not
theorem aq:∀{c:Prop}{h:Decidable c},¬c→∀{α:Sort _}{t e:α}, @ite α c h t e=e:= @if_neg
theorem au:∀{c:Prop}{h:Decidable c},c→∀{α:Sort _}{t e:α}, @ite α c h t e=t:= @if_pos
theorem bj:∀{α:Sort _}{_:Decidable True}(t e:α),(if True then t else e)=t:= @if_true
theorem bC:∀{α:Sort _}{_:Decidable False}(t e:α),(if False then t else e)=e:= @if_false
theorem bd:∀{a:Int},0≤a→∃n:Nat,a=(n:Int):= @Int.eq_ofNat_of_zero_le
theorem aL:∀{α:Type _}[BEq α][LawfulBEq α]{a b:α},(a==b)=true↔a=b:= @beq_iff_eq
theorem cJ:∀{α:Type _}[BEq α][LawfulBEq α]{a b:α},(a==b)=false↔a≠b:= @beq_eq_false_iff_ne
end Go
