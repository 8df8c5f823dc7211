import GoSem.Core.Sem
import GoSem.Dispatch
import Derived.KernelRfl
/- Short names for lemmas that are used often. -/
namespace Go
theorem af:∀{α:Sort _}(a b:α),(bif false then a else b)=b:= @cond_false
theorem ak:∀{α:Type _}{as bs:List α},List.length (as++bs)=List.length as+List.length bs:= @List.length_append
theorem ai:∀{α:Sort _}(a b:α),(bif true then a else b)=a:= @cond_true
theorem aj:∀(a b:Bool),((a&&b)=true)=(a=true∧b=true):= @Bool.and_eq_true
theorem al:(!true)=false:= @Bool.not_true
theorem ax:∀(n:Nat),Int.toNat ↑n=n:= @Int.toNat_natCast
theorem aG:∀{α:Type _}(as bs cs:List α),as++bs++cs=as++(bs++cs):= @List.append_assoc
theorem bd:∀{α:Type _}{i:Nat}{l:List α},List.length (List.drop i l)=List.length l-i:= @List.length_drop
theorem a7:∀{n m k:Nat},n≤m→m≤k→n≤k:= @Nat.le_trans
theorem aY:∀{α:Type _}{as:List α}{i:Nat}{a:α},List.length (List.set as i a)=List.length as:= @List.length_set
theorem aV:∀(n:Nat),n≤n:= @Nat.le_refl
theorem aQ:∀{α:Type _}{b:α}(as:List α){bs:List α},b∈bs→b∈as++bs:= @List.mem_append_right
theorem aP:(false=true)=False:= @Bool.false_eq_true
theorem aS:∀{α:Type _}(val val_1:α),(some val=some val_1)=(val=val_1):= @Option.some.injEq
theorem aR:∀(b:Bool),((!b)=true)=(b=false):= @Bool.not_eq_true'
theorem bf:∀{α:Type _}{i:Nat}{l:List α},List.length (List.take i l)=min i (List.length l):= @List.length_take
theorem ar:∀{α:Type _}{a:α}{s t:List α},a∈s++t↔a∈s∨a∈t:= @List.mem_append
theorem bj:∀{α:Type _}{a:α}{as:List α},List.length (a::as)=List.length as+1:= @List.length_cons
theorem a8:∀{α:Type _}{a:α}{as:List α}(bs:List α),a∈as→a∈as++bs:= @List.mem_append_left
theorem aU:∀{α:Type _}{p:α→Bool}{l:List α},List.all l p=true↔∀(x:α),x∈l→p x=true:= @List.all_eq_true
theorem bc:∀{α:Type _}(as:List α),as++[]=as:= @List.append_nil
theorem bh:∀{α:Type _}{i:Nat}{l:List α}(h:i<List.length l),List.take (i+1) l=List.take i l++[l[i]]:= @List.take_succ_eq_append_getElem
theorem bm:∀{α:Type _}(as:List α),[]++as=as:= @List.nil_append
theorem dh:∀{α:Type _}{a:α},List.length [a]=1:= @List.length_singleton
theorem bp:∀{α:Type _}{i:Nat}{l:List α},List.length l≤i→List.take i l=l:= @List.take_of_length_le
theorem bK:∀(b:Bool),(b||b)=b:= @Bool.or_self
theorem bC:∀{n m:Nat}(k:Nat),n≤m→n*k≤m*k:= @Nat.mul_le_mul_right
theorem bz:∀{α:Type _}(i:Nat)(l:List α),List.take i l++List.drop i l=l:= @List.take_append_drop
theorem aL:∀{α:Type _}{l:List α}{n:Nat}(h:n<List.length l),l[n]∈l:= @List.getElem_mem
theorem bw:∀(n m:Nat),n<m∨n≥m:= @Nat.lt_or_ge
theorem a9:∀(b:Bool),(true&&b)=b:= @Bool.true_and
theorem bA:∀{α:Type _}{i:Nat}{l:List α}(h:i<List.length l),List.drop i l=l[i]::List.drop (i+1) l:= @List.drop_eq_getElem_cons
theorem cz:∀(a b c:Int),a+b+c=a+(b+c):= @Int.add_assoc
theorem cY:∀(b:Bool),(false||b)=b:= @Bool.false_or
theorem bF:∀(n m k:Nat),(n+m)*k=n*k+m*k:= @Nat.add_mul
theorem bI:∀{α:Type _}{l:List α},List.length l=0→l=[]:= @List.eq_nil_of_length_eq_zero
theorem bD:∀{α:Type _}{a:α}{l:List α}{f:α→Bool},List.all (a::l) f=(f a&&List.all l f):= @List.all_cons
theorem bU:∀(n:Nat),0+n=n:= @Nat.zero_add
theorem cK:∀{α:Type _}{β:Type _}{as:List α}(f:α→β),List.length (List.map f as)=List.length as:= @List.length_map
theorem dM:∀(n:Nat),0≤n:= @Nat.zero_le
theorem bT:∀{α:Type _}{i:Nat}{l:List α},List.length l≤i→List.drop i l=[]:= @List.drop_of_length_le
theorem di:(!false)=true:= @Bool.not_false
theorem cm:∀(a b:Bool),((a||b)=true)=(a=true∨b=true):= @Bool.or_eq_true
theorem cq:∀{α:Type _}{β:Type _}{f:α→β}{a:α}{l:List α},List.map f (a::l)=f a::List.map f l:= @List.map_cons
theorem cp:∀{α:Type _}{β:Type _}(a:α)(f:α→β),Option.map f (some a)=some (f a):= @Option.map_some
theorem cy:∀(w n:Nat),BitVec.ofInt w ↑n=BitVec.ofNat w n:= @BitVec.ofInt_natCast
theorem cL:∀{α:Type _}{val val_1:α},some val=some val_1→val=val_1:= @Option.some.inj
theorem bX:∀{a b:Bool},a=b↔(a=true↔b=true):= @Bool.eq_iff_iff
theorem cU:∀{a b:Int},0≤a→Int.tmod a b=a%b:= @Int.tmod_eq_emod_of_nonneg
theorem cD:∀(n:Nat),n+0=n:= @Nat.add_zero
theorem bR:∀{α:Sort _}{a b:α},a≠b→b≠a:= @Ne.symm
theorem cG:∀(a:Int){b:Int},0<b→a%b<b:= @Int.emod_lt_of_pos
theorem cE:∀(x w:Nat),BitVec.toNat (BitVec.ofNat w x)=x%2^w:= @BitVec.toNat_ofNat
theorem cO:∀{α:Type _}{L₁ L₂:List (List α)},List.flatten (L₁++L₂)=List.flatten L₁++List.flatten L₂:= @List.flatten_append
theorem cM:∀{a b:Nat},a<b→a%b=a:= @Nat.mod_eq_of_lt
theorem cJ:∀{α:Type _}{l:List α},List.drop 0 l=l:= @List.drop_zero
theorem dB:∀(a:Int){b:Int},b≠0→0≤a%b:= @Int.emod_nonneg
theorem dk:∀(n:Nat),1*n=n:= @Nat.one_mul
theorem aF:∀{α:Type _}{b:α}{α_1:Type _}{x:Option α_1}{f:α_1→Option α},Option.bind x f=some b↔∃a,x=some a∧f a=some b:= @Option.bind_eq_some_iff
theorem dx:∀{α:Type _}{i j:Nat}{l:List α},List.drop i (List.drop j l)=List.drop (j+i) l:= @List.drop_drop
theorem ei:∀{x y:Bool},(x||y)=false↔x=false∧y=false:= @Bool.or_eq_false_iff
theorem dp:∀{α:Type _}{β:Type _}(a:α)(f:α→Option β),Option.bind (some a) f=f a:= @Option.bind_some
theorem cn:∀{α:Type _}{l:List α},List.take (List.length l) l=l:= @List.take_length
theorem dK:∀(b:Bool),(b&&b)=b:= @Bool.and_self
theorem dn:∀{α:Type _}{xs ys:Array α},Array.toList xs=Array.toList ys→xs=ys:= @Array.ext'
theorem dL:∀(n m k:Nat),n+m+k=n+(m+k):= @Nat.add_assoc
theorem dq:∀{α:Type _}{a b:α},Option.getD (some a) b=a:= @Option.getD_some
theorem c8:∀(b:Bool),(!!b)=b:= @Bool.not_not
theorem bE:∀{α:Type _}{b:α}{l:List α}{a:α},a∈b::l↔a=b∨a∈l:= @List.mem_cons
theorem ec:∀{α:Type _}{a b:α},a∈[b]↔a=b:= @List.mem_singleton
theorem fP:∀(b:Bool),((!b)=false)=(b=true):= @Bool.not_eq_false'
theorem gj:∀(b:Bool),(false&&b)=false:= @Bool.false_and
theorem eO:∀{n m:Nat},n≤m→Nat.ble n m=true:= @Nat.ble_eq_true_of_le
theorem gr:∀(n:Nat),n-n=0:= @Nat.sub_self
theorem eR:∀{a b:Nat},a<b→a≠b:= @Nat.ne_of_lt
theorem cw:∀{m n:Nat},m∈List.range n↔m<n:= @List.mem_range
theorem gi:∀(b:Bool),(b&&false)=false:= @Bool.and_false
theorem fQ:∀{a b:Nat},a≤b→min a b=a:= @Nat.min_eq_left
theorem fH:∀(p:Prop),(p∧True)=p:= @and_true
theorem jy:∀(n:Nat),n*1=n:= @Nat.mul_one
theorem fG:∀(x y:Bool),(!(x&&y))=(!x|| !y):= @Bool.not_and
theorem ah:∀{p:Prop}[Decidable p],p→decide p=true:= @decide_eq_true
theorem dy:∀{p:Prop}[Decidable p],decide p=true→p:= @of_decide_eq_true
theorem aK:∀{p:Prop}[Decidable p],(decide p=true)=p:= @decide_eq_true_eq
theorem ae:∀{p:Prop}[Decidable p],¬p→decide p=false:= @decide_eq_false
theorem cV:∀{p:Prop}{_:Decidable p},decide p=false↔¬p:= @decide_eq_false_iff_not
theorem ao:∀{c:Prop}{h:Decidable c},¬c→∀{α:Sort _}{t e:α}, @ite α c h t e=e:= @if_neg
theorem ay:∀{c:Prop}{h:Decidable c},c→∀{α:Sort _}{t e:α}, @ite α c h t e=t:= @if_pos
theorem bk:∀{α:Sort _}{_:Decidable True}(t e:α),(if True then t else e)=t:= @if_true
theorem bB:∀{α:Sort _}{_:Decidable False}(t e:α),(if False then t else e)=e:= @if_false
theorem aM:∀{a:Int},0≤a→∃n:Nat,a=(n:Int):= @Int.eq_ofNat_of_zero_le
theorem bP:∀(n m:Nat),((n+m:Nat):Int)=(n:Int)+(m:Int):= @Int.natCast_add
theorem bQ:((1:Nat):Int)=(1:Int):= @Int.natCast_one
theorem aW:∀{α:Type _}[BEq α][LawfulBEq α]{a b:α},(a==b)=true↔a=b:= @beq_iff_eq
theorem dr:∀{α:Type _}[BEq α][ReflBEq α](a:α),(a==a)=true:= @beq_self_eq_true
theorem ez:∀{α:Type _}[BEq α][LawfulBEq α](a:α),(a !=a)=false:= @bne_self_eq_false
theorem ch:∀{α:Type _}[BEq α][LawfulBEq α]{a b:α},(a==b)=false↔a≠b:= @beq_eq_false_iff_ne
end Go
