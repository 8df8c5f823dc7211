import GoSem.Core.Sem
import GoSem.Dispatch
import Derived.KernelRfl
/- Short names for lemmas that are used often. -/
namespace Go
abbrev ax.{u}(α:Type u):Type u:=List α
abbrev aA.{u}(α:Type u):Type u:=Option α
theorem dx:True:=trivial
abbrev gm (x:Int):BitVec (IntKind.bits .i64):=BitVec.ofInt (IntKind.bits .i64) x
abbrev ql (x:Int):Nat:=min (Int.toNat x) (IntKind.bits .i64)
abbrev PJ:Int×Int×Int×Int×Int×Int×Int×Int×Int×Int×Int×Int×Int×Int×Int×List UInt8:=(0,0,0,0,0,0,0,0,0,0,0,0,0,0,0,[])
abbrev dm:Type:=ax Int
abbrev fi:Type:=ax Nat
abbrev bK:Type:=List (List UInt8)
abbrev mn:Type:=Int×Int×Int×Int
abbrev MF:Type:=Int×Int×Int
abbrev Dd:Type:=Int×Int×Int×Int×Int×Int
abbrev Ad:Type:=Int×Int×Int×Int×Int
abbrev jI:Type:=List Value
theorem lH.{u}{c:Prop}{i:Decidable c}(h:¬c:=by omega){α:Sort u}{t e:α}:ite c t e=e:=if_neg h
theorem zip.{u}{c:Prop}{i:Decidable c}(h:c:=by omega){α:Sort u}{t e:α}:ite c t e=t:=if_pos h
theorem ie {p:Prop}[i:Decidable p](h:¬p:=by omega):decide p=false:=decide_eq_false h
theorem kW {p:Prop}[i:Decidable p](h:p:=by omega):decide p=true:=decide_eq_true h
theorem ae:∀{α:Sort _}(a b:α),(bif false then a else b)=b:= @cond_false
theorem aq:∀{α:Type _}{as bs:ax α},List.length (as++bs)=List.length as+List.length bs:= @List.length_append
theorem af:∀{α:Sort _}(a b:α),(bif true then a else b)=a:= @cond_true
theorem ah:∀(a b:Bool),((a&&b)=true)=(a=true/\b=true):= @Bool.and_eq_true
theorem aj:(!true)=false:= @Bool.not_true
theorem aC:∀(n:Nat),Int.toNat ↑n=n:= @Int.toNat_natCast
theorem aG:∀{α:Type _}(as bs cs:ax α),as++bs++cs=as++(bs++cs):= @List.append_assoc
theorem bA:∀{α:Type _}{i:Nat}{l:ax α},List.length (List.drop i l)=List.length l-i:= @List.length_drop
theorem bF:∀{n m k:Nat},n<=m->m<=k->n<=k:= @Nat.le_trans
theorem aL:∀{α:Type _}{as:ax α}{i:Nat}{a:α},List.length (List.set as i a)=List.length as:= @List.length_set
theorem bc:∀(n:Nat),n<=n:= @Nat.le_refl
theorem bj:∀{α:Type _}{b:α}(as:ax α){bs:ax α},b∈bs->b∈as++bs:= @List.mem_append_right
theorem bm:(false=true)=False:= @Bool.false_eq_true
theorem br:∀{α:Type _}(val Z1:α),(some val=some Z1)=(val=Z1):= @Option.some.injEq
theorem aP:∀(b:Bool),((!b)=true)=(b=false):= @Bool.not_eq_true'
theorem bt:∀{α:Type _}{i:Nat}{l:ax α},List.length (List.take i l)=min i (List.length l):= @List.length_take
theorem aB:∀{α:Type _}{a:α}{s t:ax α},a∈s++t↔a∈s\/a∈t:= @List.mem_append
theorem bp:∀{α:Type _}{a:α}{as:ax α},List.length (a::as)=List.length as+1:= @List.length_cons
theorem aU:∀{α:Type _}{a:α}{as:ax α}(bs:ax α),a∈as->a∈as++bs:= @List.mem_append_left
theorem aO:∀{α:Type _}{p:α->Bool}{l:ax α},List.all l p=true↔∀(x:α),x∈l->p x=true:= @List.all_eq_true
theorem bg:∀{α:Type _}(as:ax α),as++[]=as:= @List.append_nil
theorem bz:∀{α:Type _}{i:Nat}{l:ax α}(h:i<List.length l),List.take (i+1) l=List.take i l++[l[i]]:= @List.take_succ_eq_append_getElem
theorem bU:∀{α:Type _}(as:ax α),[]++as=as:= @List.nil_append
theorem bu:∀{α:Type _}{a:α},List.length [a]=1:= @List.length_singleton
theorem bZ:∀{α:Type _}{i:Nat}{l:ax α},List.length l<=i->List.take i l=l:= @List.take_of_length_le
theorem bN:∀(b:Bool),(b||b)=b:= @Bool.or_self
theorem dw:∀{n m:Nat}(k:Nat),n<=m->n*k<=m*k:= @Nat.mul_le_mul_right
theorem cg:∀{α:Type _}(i:Nat)(l:ax α),List.take i l++List.drop i l=l:= @List.take_append_drop
theorem bn:∀{α:Type _}{l:ax α}{n:Nat}(h:n<List.length l),l[n]∈l:= @List.getElem_mem
theorem ca:∀(n m:Nat),n<m\/n>=m:= @Nat.lt_or_ge
theorem bH:∀(b:Bool),(true&&b)=b:= @Bool.true_and
theorem cr:∀{α:Type _}{i:Nat}{l:ax α}(h:i<List.length l),List.drop i l=l[i]::List.drop (i+1) l:= @List.drop_eq_getElem_cons
theorem cM:∀(b:Bool),(false||b)=b:= @Bool.false_or
theorem dg:∀(n m k:Nat),(n+m)*k=n*k+m*k:= @Nat.add_mul
theorem cb:∀{α:Type _}{l:ax α},List.length l=0->l=[]:= @List.eq_nil_of_length_eq_zero
theorem cx:∀{α:Type _}{a:α}{l:ax α}{f:α->Bool},List.all (a::l) f=(f a&&List.all l f):= @List.all_cons
theorem cJ:∀(n:Nat),0+n=n:= @Nat.zero_add
theorem bX:∀{α:Type _}{β:Type _}{as:ax α}(f:α->β),List.length (List.map f as)=List.length as:= @List.length_map
theorem cU:∀(n:Nat),0<=n:= @Nat.zero_le
theorem cW:∀{α:Type _}{i:Nat}{l:ax α},List.length l<=i->List.drop i l=[]:= @List.drop_of_length_le
theorem cA:(!false)=true:= @Bool.not_false
theorem dE:∀(a b:Bool),((a||b)=true)=(a=true\/b=true):= @Bool.or_eq_true
theorem fb:∀{α:Type _}{β:Type _}{f:α->β}{a:α}{l:ax α},List.map f (a::l)=f a::List.map f l:= @List.map_cons
theorem dQ:∀{α:Type _}{β:Type _}(a:α)(f:α->β),Option.map f (some a)=some (f a):= @Option.map_some
theorem bQ:∀{α:Type _}{val Z1:α},some val=some Z1->val=Z1:= @Option.some.inj
theorem gx:∀{a b:Bool},a=b↔(a=true↔b=true):= @Bool.eq_iff_iff
theorem eM:∀{a b:Int},0<=a->Int.tmod a b=a%b:= @Int.tmod_eq_emod_of_nonneg
theorem eT:∀(n:Nat),n+0=n:= @Nat.add_zero
theorem cE:∀{α:Sort _}{a b:α},a≠b->b≠a:= @Ne.symm
theorem im:∀(a:Int){b:Int},0<b->a%b<b:= @Int.emod_lt_of_pos
theorem dY:∀{α:Type _}{amn amo:ax (ax α)},List.flatten (amn++amo)=List.flatten amn++List.flatten amo:= @List.flatten_append
theorem fR:∀{α:Type _}{l:ax α},List.drop 0 l=l:= @List.drop_zero
theorem fT:∀(n:Nat),1*n=n:= @Nat.one_mul
theorem aY:∀{α:Type _}{b:α}{anl:Type _}{x:aA anl}{f:anl->aA α},Option.bind x f=some b↔∃a,x=some a/\f a=some b:= @Option.bind_eq_some_iff
theorem fa:∀{α:Type _}{i j:Nat}{l:ax α},List.drop i (List.drop j l)=List.drop (j+i) l:= @List.drop_drop
theorem de:∀{x y:Bool},(x||y)=false↔x=false/\y=false:= @Bool.or_eq_false_iff
theorem cS:∀{α:Type _}{β:Type _}{f:α->β}{H2 LA:ax α},List.map f (H2++LA)=List.map f H2++List.map f LA:= @List.map_append
theorem fL:∀{α:Type _}{β:Type _}(a:α)(f:α->aA β),Option.bind (some a) f=f a:= @Option.bind_some
theorem cQ:∀{α:Type _}{l:ax α},List.take (List.length l) l=l:= @List.take_length
theorem du:∀(b:Bool),(b&&b)=b:= @Bool.and_self
theorem fY:∀{α:Type _}{xs ys:Array α},Array.toList xs=Array.toList ys->xs=ys:= @Array.ext'
theorem gn:∀(n m k:Nat),n+m+k=n+(m+k):= @Nat.add_assoc
theorem gH:∀{α:Type _}{a b:α},Option.getD (some a) b=a:= @Option.getD_some
theorem cc:∀{α:Type _}(y:α){a:α}{l:ax α},a∈l->a∈y::l:= @List.mem_cons_of_mem
theorem cy:∀{α:Type _}{b:α}{l:ax α}{a:α},a∈b::l↔a=b\/a∈l:= @List.mem_cons
theorem bq:∀{α:Type _}{a b:α},a∈[b]↔a=b:= @List.mem_singleton
theorem eY:∀(b:Bool),((!b)=false)=(b=true):= @Bool.not_eq_false'
theorem iw:∀(b:Bool),(false&&b)=false:= @Bool.false_and
theorem jg:∀{n m:Nat},n<=m->Nat.ble n m=true:= @Nat.ble_eq_true_of_le
theorem jj:∀{a b:Nat},a<b->a≠b:= @Nat.ne_of_lt
theorem cP:∀{m n:Nat},m∈List.range n↔m<n:= @List.mem_range
theorem ig:∀{α:Type _}{a:α}{as bs:ax α},a::as++bs=a::(as++bs):= @List.cons_append
theorem iv:∀(b:Bool),(b&&false)=false:= @Bool.and_false
theorem ko:∀{a b:Nat},a<=b->min a b=a:= @Nat.min_eq_left
theorem jY:∀(p:Prop),(p/\True)=p:= @and_true
theorem ij:∀{α:Type _}{l:ax α},List.drop (List.length l) l=[]:= @List.drop_length
theorem lA:∀(b:Bool),(true||b)=true:= @Bool.true_or
theorem iH:∀(a:Int),a<=a:= @Int.le_refl
theorem pn:∀(n:Nat),¬n<n:= @Nat.lt_irrefl
theorem mF:∀(n:Nat),n*1=n:= @Nat.mul_one
theorem dZ:∀{α:Type _}{β:Type _}{b:β}{f:α->β}{l:ax α},b∈List.map f l↔∃a,a∈l/\f a=b:= @List.mem_map
theorem jw:∀(b:Bool),(b&&true)=b:= @Bool.and_true
theorem az:∀{p:Prop}[Decidable p],p->decide p=true:= @decide_eq_true
theorem bS:∀{p:Prop}[Decidable p],decide p=true->p:= @of_decide_eq_true
theorem bE:∀{p:Prop}[Decidable p],(decide p=true)=p:= @decide_eq_true_eq
theorem aw:∀{p:Prop}[Decidable p],¬p->decide p=false:= @decide_eq_false
theorem dh:∀{p:Prop}{_:Decidable p},decide p=false↔¬p:= @decide_eq_false_iff_not
theorem aK:∀{c:Prop}{h:Decidable c},¬c->∀{α:Sort _}{t e:α}, @ite α c h t e=e:= @if_neg
theorem aI:∀{c:Prop}{h:Decidable c},c->∀{α:Sort _}{t e:α}, @ite α c h t e=t:= @if_pos
theorem cL:∀{α:Sort _}{_:Decidable True}(t e:α),(if True then t else e)=t:= @if_true
theorem cG:∀{α:Sort _}{_:Decidable False}(t e:α),(if False then t else e)=e:= @if_false
theorem au:∀{a:Int},0<=a->∃n:Nat,a=(n:Int):= @Int.eq_ofNat_of_zero_le
theorem bD:∀{α:Type _}[BEq α][LawfulBEq α]{a b:α},(a==b)=true↔a=b:= @beq_iff_eq
theorem cq:∀{α:Type _}[BEq α][LawfulBEq α]{a b:α},(a==b)=false↔a≠b:= @beq_eq_false_iff_ne
theorem eO:∀{α:Type _},List.length ([]:ax α)=0:= @List.length_nil
theorem fO:∀{α:Type _}{a:α}{l:ax α},a∈l->∃(i:Nat)(h:i<l.length),l[i]=a:= @List.getElem_of_mem
theorem ay:∀{α:Type _}{l:ax α}{i:Nat}(h:i<List.length l),l[i]?=some l[i]:= @List.getElem?_eq_getElem
theorem aD:∀{α:Type _}{i:Nat}{a:α}{l:ax α},l[i]?=some a↔∃(h:i<List.length l),l[i]=a:= @List.getElem?_eq_some_iff
theorem aN:∀{α:Type _}{H2 LA:ax α},List.Nodup (H2++LA)↔List.Nodup H2/\List.Nodup LA/\∀(a:α),a∈H2->∀(b:α),b∈LA->a≠b:= @List.nodup_append
theorem aM:∀{α:Type _}{l:ax α}{i j:Nat},i≠j->∀{a:α},(List.set l i a)[j]?=l[j]?:= @List.getElem?_set_ne
theorem aX:∀{α:Type _}{l:ax α}{i:Nat}{a:α},l[i]?=some a->a∈l:= @List.mem_of_getElem?
theorem cB:∀{α:Type _}{l:ax α}{i:Nat}{a:α},List.getD l i a=Option.getD l[i]? a:= @List.getD_eq_getElem?_getD
theorem bJ:∀{α:Type _}{H2 LA:ax α}{i:Nat},List.length H2<=i->(H2++LA)[i]?=LA[i-List.length H2]?:= @List.getElem?_append_right
theorem cd:∀{α:Type _}{l:ax α}{i:Nat},List.length l<=i->l[i]?=none:= @List.getElem?_eq_none
theorem bB:∀{α:Type _}{H2 LA:ax α}{i:Nat},i<List.length H2->(H2++LA)[i]?=H2[i]?:= @List.getElem?_append_left
theorem bO:∀{α:Type _}{l:ax α}{i j:Nat}{a:α},(List.set l i a)[j]?=if i=j then if i<List.length l then some a else none else l[j]?:= @List.getElem?_set
theorem cj:∀{α:Type _}{xs:ax α}{i j:Nat},(List.drop i xs)[j]?=xs[i+j]?:= @List.getElem?_drop
theorem bL:∀{α:Type _}{l:ax α}{i:Nat}{a:α},i<List.length l->(List.set l i a)[i]?=some a:= @List.getElem?_set_self
theorem df:∀{α:Type _}{a:α}{l:ax α},(a::l)[0]?=some a:= @List.getElem?_cons_zero
theorem fS:∀{α:Type _}{a:α}{i:Nat}{l:ax α},(a::l)[i+1]?=l[i]?:= @List.getElem?_cons_succ
theorem cK:∀{α:Type _}{xs:Array α}{i:Nat},(Array.toList xs)[i]?=xs[i]?:= @Array.getElem?_toList
theorem dB:∀{α:Type _}{H2 LA:ax α},(∀(i:Nat),H2[i]?=LA[i]?)->H2=LA:= @List.ext_getElem?
theorem dH:∀{α:Type _}{a:α}{l:ax α},List.Nodup (a::l)↔¬a∈l/\List.Nodup l:= @List.nodup_cons
theorem eJ:∀{α:Type _}{l:ax α}{i j:Nat},(List.take i l)[j]?=if j<i then l[j]? else none:= @List.getElem?_take
theorem eG:∀{α:Type _}{l:ax α}{i j:Nat},i<j->(List.take j l)[i]?=l[i]?:= @List.getElem?_take_of_lt
theorem dz:∀{α:Type _}{xs:Array α}{i:Nat}{d:α},Array.getD xs i d=Option.getD xs[i]? d:= @Array.getD_eq_getD_getElem?
theorem dU:∀{n:Nat}{α:Type _}{a:α}{i:Nat},(List.replicate n a)[i]?=if i<n then some a else none:= @List.getElem?_replicate
theorem fG:∀{p:Prop}[Decidable p],decide p=false->¬p:= @of_decide_eq_false
end Go
