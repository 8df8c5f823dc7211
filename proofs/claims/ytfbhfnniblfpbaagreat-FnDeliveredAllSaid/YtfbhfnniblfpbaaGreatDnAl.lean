import GoSem.Core.Sem
import GoSem.Dispatch
import Derived.KernelRfl
/- Short names for lemmas that are used often. -/
namespace Go
abbrev au.{u}(α:Type u):Type u:=List α
abbrev ax.{u}(α:Type u):Type u:=Option α
theorem cv:True:=trivial
abbrev fa (x:Int):BitVec (IntKind.bits .i64):=BitVec.ofInt (IntKind.bits .i64) x
abbrev re (x:Int):Nat:=min (Int.toNat x) (IntKind.bits .i64)
abbrev ME:Int×Int×Int×Int×Int×Int×Int×Int×Int×Int×Int×Int×Int×Int×Int×List UInt8:=(0,0,0,0,0,0,0,0,0,0,0,0,0,0,0,[])
abbrev cL:Type:=au Int
abbrev eo:Type:=au Nat
abbrev bD:Type:=List (List UInt8)
abbrev kg:Type:=Int×Int×Int×Int
abbrev K0:Type:=Int×Int×Int
abbrev CY:Type:=Int×Int×Int×Int×Int×Int
abbrev DF:Type:=Int×Int×Int×Int×Int
abbrev ie:Type:=List Value
theorem mQ.{u}{c:Prop}{i:Decidable c}(h:¬c:=by omega){α:Sort u}{t e:α}:ite c t e=e:=if_neg h
theorem zip.{u}{c:Prop}{i:Decidable c}(h:c:=by omega){α:Sort u}{t e:α}:ite c t e=t:=if_pos h
theorem fT {p:Prop}[i:Decidable p](h:¬p:=by omega):decide p=false:=decide_eq_false h
theorem jy {p:Prop}[i:Decidable p](h:p:=by omega):decide p=true:=decide_eq_true h
theorem ae:∀{α:Sort _}(a b:α),(bif false then a else b)=b:= @cond_false
theorem aq:∀{α:Type _}{as bs:au α},List.length (as++bs)=List.length as+List.length bs:= @List.length_append
theorem af:∀{α:Sort _}(a b:α),(bif true then a else b)=a:= @cond_true
theorem ah:∀(a b:Bool),((a&&b)=true)=(a=true/\b=true):= @Bool.and_eq_true
theorem aj:(!true)=false:= @Bool.not_true
theorem az:∀(n:Nat),Int.toNat ↑n=n:= @Int.toNat_natCast
theorem aZ:∀{α:Type _}(as bs cs:au α),as++bs++cs=as++(bs++cs):= @List.append_assoc
theorem bh:∀{α:Type _}{i:Nat}{l:au α},List.length (List.drop i l)=List.length l-i:= @List.length_drop
theorem aP:∀{n m k:Nat},n<=m->m<=k->n<=k:= @Nat.le_trans
theorem aB:∀{α:Type _}{as:au α}{i:Nat}{a:α},List.length (List.set as i a)=List.length as:= @List.length_set
theorem aU:∀(n:Nat),n<=n:= @Nat.le_refl
theorem bk:∀{α:Type _}{b:α}(as:au α){bs:au α},b∈bs->b∈as++bs:= @List.mem_append_right
theorem aX:(false=true)=False:= @Bool.false_eq_true
theorem ba:∀{α:Type _}(val Wo:α),(some val=some Wo)=(val=Wo):= @Option.some.injEq
theorem aN:∀(b:Bool),((!b)=true)=(b=false):= @Bool.not_eq_true'
theorem bq:∀{α:Type _}{i:Nat}{l:au α},List.length (List.take i l)=min i (List.length l):= @List.length_take
theorem aA:∀{α:Type _}{a:α}{s t:au α},a∈s++t↔a∈s\/a∈t:= @List.mem_append
theorem bZ:∀{α:Type _}{a:α}{as:au α},List.length (a::as)=List.length as+1:= @List.length_cons
theorem bt:∀{α:Type _}{a:α}{as:au α}(bs:au α),a∈as->a∈as++bs:= @List.mem_append_left
theorem aL:∀{α:Type _}{p:α->Bool}{l:au α},List.all l p=true↔∀(x:α),x∈l->p x=true:= @List.all_eq_true
theorem bA:∀{α:Type _}(as:au α),as++[]=as:= @List.append_nil
theorem bg:∀{α:Type _}{i:Nat}{l:au α}(h:i<List.length l),List.take (i+1) l=List.take i l++[l[i]]:= @List.take_succ_eq_append_getElem
theorem bO:∀{α:Type _}(as:au α),[]++as=as:= @List.nil_append
theorem bf:∀{α:Type _}{a:α},List.length [a]=1:= @List.length_singleton
theorem bL:∀{α:Type _}{i:Nat}{l:au α},List.length l<=i->List.take i l=l:= @List.take_of_length_le
theorem bF:∀(b:Bool),(b||b)=b:= @Bool.or_self
theorem cO:∀{n m:Nat}(k:Nat),n<=m->n*k<=m*k:= @Nat.mul_le_mul_right
theorem bW:∀{α:Type _}(i:Nat)(l:au α),List.take i l++List.drop i l=l:= @List.take_append_drop
theorem aY:∀{α:Type _}{l:au α}{n:Nat}(h:n<List.length l),l[n]∈l:= @List.getElem_mem
theorem bQ:∀(n m:Nat),n<m\/n>=m:= @Nat.lt_or_ge
theorem bB:∀(b:Bool),(true&&b)=b:= @Bool.true_and
theorem bN:∀{α:Type _}{i:Nat}{l:au α}(h:i<List.length l),List.drop i l=l[i]::List.drop (i+1) l:= @List.drop_eq_getElem_cons
theorem cJ:∀(b:Bool),(false||b)=b:= @Bool.false_or
theorem cB:∀(n m k:Nat),(n+m)*k=n*k+m*k:= @Nat.add_mul
theorem ca:∀{α:Type _}{l:au α},List.length l=0->l=[]:= @List.eq_nil_of_length_eq_zero
theorem bR:∀{α:Type _}{a:α}{l:au α}{f:α->Bool},List.all (a::l) f=(f a&&List.all l f):= @List.all_cons
theorem cl:∀(n:Nat),0+n=n:= @Nat.zero_add
theorem cA:∀{α:Type _}{β:Type _}{as:au α}(f:α->β),List.length (List.map f as)=List.length as:= @List.length_map
theorem cd:∀(n:Nat),0<=n:= @Nat.zero_le
theorem df:∀{α:Type _}{i:Nat}{l:au α},List.length l<=i->List.drop i l=[]:= @List.drop_of_length_le
theorem bS:(!false)=true:= @Bool.not_false
theorem di:∀(a b:Bool),((a||b)=true)=(a=true\/b=true):= @Bool.or_eq_true
theorem dk:∀{α:Type _}{β:Type _}(a:α)(f:α->β),Option.map f (some a)=some (f a):= @Option.map_some
theorem cC:∀{α:Type _}{val Wo:α},some val=some Wo->val=Wo:= @Option.some.inj
theorem fe:∀{a b:Bool},a=b↔(a=true↔b=true):= @Bool.eq_iff_iff
theorem dU:∀{a b:Int},0<=a->Int.tmod a b=a%b:= @Int.tmod_eq_emod_of_nonneg
theorem eh:∀(n:Nat),n+0=n:= @Nat.add_zero
theorem cY:∀{α:Sort _}{a b:α},a≠b->b≠a:= @Ne.symm
theorem fQ:∀(a:Int){b:Int},0<b->a%b<b:= @Int.emod_lt_of_pos
theorem dR:∀{α:Type _}{ah0 ah1:au (au α)},List.flatten (ah0++ah1)=List.flatten ah0++List.flatten ah1:= @List.flatten_append
theorem eG:∀{α:Type _}{l:au α},List.drop 0 l=l:= @List.drop_zero
theorem eI:∀(n:Nat),1*n=n:= @Nat.one_mul
theorem aO:∀{α:Type _}{b:α}{aiX:Type _}{x:ax aiX}{f:aiX->ax α},Option.bind x f=some b↔∃a,x=some a/\f a=some b:= @Option.bind_eq_some_iff
theorem ec:∀{α:Type _}{i j:Nat}{l:au α},List.drop i (List.drop j l)=List.drop (j+i) l:= @List.drop_drop
theorem cX:∀{x y:Bool},(x||y)=false↔x=false/\y=false:= @Bool.or_eq_false_iff
theorem eu:∀{α:Type _}{β:Type _}(a:α)(f:α->ax β),Option.bind (some a) f=f a:= @Option.bind_some
theorem cI:∀{α:Type _}{l:au α},List.take (List.length l) l=l:= @List.take_length
theorem dE:∀(b:Bool),(b&&b)=b:= @Bool.and_self
theorem eO:∀{α:Type _}{xs ys:Array α},Array.toList xs=Array.toList ys->xs=ys:= @Array.ext'
theorem fu:∀(n m k:Nat),n+m+k=n+(m+k):= @Nat.add_assoc
theorem fj:∀{α:Type _}{a b:α},Option.getD (some a) b=a:= @Option.getD_some
theorem dK:∀{α:Type _}(y:α){a:α}{l:au α},a∈l->a∈y::l:= @List.mem_cons_of_mem
theorem cg:∀{α:Type _}{b:α}{l:au α}{a:α},a∈b::l↔a=b\/a∈l:= @List.mem_cons
theorem cH:∀{α:Type _}{a b:α},a∈[b]↔a=b:= @List.mem_singleton
theorem dL:∀(b:Bool),((!b)=false)=(b=true):= @Bool.not_eq_false'
theorem gD:∀(b:Bool),(false&&b)=false:= @Bool.false_and
theorem gG:∀{n m:Nat},n<=m->Nat.ble n m=true:= @Nat.ble_eq_true_of_le
theorem gJ:∀{a b:Nat},a<b->a≠b:= @Nat.ne_of_lt
theorem cW:∀{m n:Nat},m∈List.range n↔m<n:= @List.mem_range
theorem jJ:∀(b:Bool),(b&&false)=false:= @Bool.and_false
theorem ja:∀{a b:Nat},a<=b->min a b=a:= @Nat.min_eq_left
theorem iH:∀(p:Prop),(p/\True)=p:= @and_true
theorem gC:∀{α:Type _}{l:au α},List.drop (List.length l) l=[]:= @List.drop_length
theorem jW:∀(b:Bool),(true||b)=true:= @Bool.true_or
theorem il:∀(a:Int),a<=a:= @Int.le_refl
theorem nv:∀(n:Nat),¬n<n:= @Nat.lt_irrefl
theorem nw:∀(n:Nat),n*1=n:= @Nat.mul_one
theorem gW:∀(b:Bool),(b&&true)=b:= @Bool.and_true
theorem aw:∀{p:Prop}[Decidable p],p->decide p=true:= @decide_eq_true
theorem bI:∀{p:Prop}[Decidable p],decide p=true->p:= @of_decide_eq_true
theorem bp:∀{p:Prop}[Decidable p],(decide p=true)=p:= @decide_eq_true_eq
theorem ar:∀{p:Prop}[Decidable p],¬p->decide p=false:= @decide_eq_false
theorem cP:∀{p:Prop}{_:Decidable p},decide p=false↔¬p:= @decide_eq_false_iff_not
theorem aH:∀{c:Prop}{h:Decidable c},¬c->∀{α:Sort _}{t e:α}, @ite α c h t e=e:= @if_neg
theorem aF:∀{c:Prop}{h:Decidable c},c->∀{α:Sort _}{t e:α}, @ite α c h t e=t:= @if_pos
theorem cp:∀{α:Sort _}{_:Decidable True}(t e:α),(if True then t else e)=t:= @if_true
theorem cc:∀{α:Sort _}{_:Decidable False}(t e:α),(if False then t else e)=e:= @if_false
theorem aG:∀{a:Int},0<=a->∃n:Nat,a=(n:Int):= @Int.eq_ofNat_of_zero_le
theorem bw:∀{α:Type _}[BEq α][LawfulBEq α]{a b:α},(a==b)=true↔a=b:= @beq_iff_eq
theorem cK:∀{α:Type _}[BEq α][LawfulBEq α]{a b:α},(a==b)=false↔a≠b:= @beq_eq_false_iff_ne
theorem ef:∀{α:Type _},List.length ([]:au α)=0:= @List.length_nil
theorem al:∀{α:Type _}{l:au α}{i:Nat}(h:i<List.length l),l[i]?=some l[i]:= @List.getElem?_eq_getElem
theorem aE:∀{α:Type _}{i:Nat}{a:α}{l:au α},l[i]?=some a↔∃(h:i<List.length l),l[i]=a:= @List.getElem?_eq_some_iff
theorem aJ:∀{α:Type _}{Jc N3:au α},List.Nodup (Jc++N3)↔List.Nodup Jc/\List.Nodup N3/\∀(a:α),a∈Jc->∀(b:α),b∈N3->a≠b:= @List.nodup_append
theorem aR:∀{α:Type _}{l:au α}{i j:Nat},i≠j->∀{a:α},(List.set l i a)[j]?=l[j]?:= @List.getElem?_set_ne
theorem bn:∀{α:Type _}{l:au α}{i:Nat}{a:α},l[i]?=some a->a∈l:= @List.mem_of_getElem?
theorem bz:∀{α:Type _}{Jc N3:au α}{i:Nat},List.length Jc<=i->(Jc++N3)[i]?=N3[i-List.length Jc]?:= @List.getElem?_append_right
theorem bJ:∀{α:Type _}{l:au α}{i:Nat},List.length l<=i->l[i]?=none:= @List.getElem?_eq_none
theorem bH:∀{α:Type _}{Jc N3:au α}{i:Nat},i<List.length Jc->(Jc++N3)[i]?=Jc[i]?:= @List.getElem?_append_left
theorem br:∀{α:Type _}{l:au α}{i j:Nat}{a:α},(List.set l i a)[j]?=if i=j then if i<List.length l then some a else none else l[j]?:= @List.getElem?_set
theorem bV:∀{α:Type _}{xs:au α}{i j:Nat},(List.drop i xs)[j]?=xs[i+j]?:= @List.getElem?_drop
theorem cz:∀{α:Type _}{a:α}{l:au α},(a::l)[0]?=some a:= @List.getElem?_cons_zero
theorem eH:∀{α:Type _}{a:α}{i:Nat}{l:au α},(a::l)[i+1]?=l[i]?:= @List.getElem?_cons_succ
theorem cm:∀{α:Type _}{xs:Array α}{i:Nat},(Array.toList xs)[i]?=xs[i]?:= @Array.getElem?_toList
theorem cS:∀{α:Type _}{Jc N3:au α},(∀(i:Nat),Jc[i]?=N3[i]?)->Jc=N3:= @List.ext_getElem?
theorem dj:∀{α:Type _}{a:α}{l:au α},List.Nodup (a::l)↔¬a∈l/\List.Nodup l:= @List.nodup_cons
theorem dz:∀{α:Type _}{l:au α}{i j:Nat},(List.take i l)[j]?=if j<i then l[j]? else none:= @List.getElem?_take
theorem ez:∀{α:Type _}{l:au α}{i j:Nat},i<j->(List.take j l)[i]?=l[i]?:= @List.getElem?_take_of_lt
theorem cR:∀{α:Type _}{xs:Array α}{i:Nat}{d:α},Array.getD xs i d=Option.getD xs[i]? d:= @Array.getD_eq_getD_getElem?
theorem dp:∀{n:Nat}{α:Type _}{a:α}{i:Nat},(List.replicate n a)[i]?=if i<n then some a else none:= @List.getElem?_replicate
theorem dM:∀{p:Prop}[Decidable p],decide p=false->¬p:= @of_decide_eq_false
end Go
