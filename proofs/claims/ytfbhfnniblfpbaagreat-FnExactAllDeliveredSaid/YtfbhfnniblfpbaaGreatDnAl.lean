import GoSem.Core.Sem
import GoSem.Dispatch
import Derived.KernelRfl
/- Short names for lemmas that are used often. -/
namespace Go
abbrev au.{u}(α:Type u):Type u:=List α
abbrev aw.{u}(α:Type u):Type u:=Option α
theorem df:True:=trivial
abbrev fE (x:Int):BitVec (IntKind.bits .i64):=BitVec.ofInt (IntKind.bits .i64) x
abbrev rp (x:Int):Nat:=min (Int.toNat x) (IntKind.bits .i64)
abbrev My:Int×Int×Int×Int×Int×Int×Int×Int×Int×Int×Int×Int×Int×Int×Int×List UInt8:=(0,0,0,0,0,0,0,0,0,0,0,0,0,0,0,[])
abbrev dR:Type:=au Int
abbrev dI:Type:=au Nat
abbrev bw:Type:=List (List UInt8)
abbrev kA:Type:=Int×Int×Int×Int
abbrev MS:Type:=Int×Int×Int
abbrev Dh:Type:=Int×Int×Int×Int×Int×Int
abbrev Fa:Type:=Int×Int×Int×Int×Int
abbrev gP:Type:=List Value
theorem mG.{u}{c:Prop}{i:Decidable c}(h:¬c:=by omega){α:Sort u}{t e:α}:ite c t e=e:=if_neg h
theorem zip.{u}{c:Prop}{i:Decidable c}(h:c:=by omega){α:Sort u}{t e:α}:ite c t e=t:=if_pos h
theorem fO {p:Prop}[i:Decidable p](h:¬p:=by omega):decide p=false:=decide_eq_false h
theorem jo {p:Prop}[i:Decidable p](h:p:=by omega):decide p=true:=decide_eq_true h
theorem ae:∀{α:Sort _}(a b:α),(bif false then a else b)=b:= @cond_false
theorem ar:∀{α:Type _}{as bs:au α},List.length (as++bs)=List.length as+List.length bs:= @List.length_append
theorem af:∀{α:Sort _}(a b:α),(bif true then a else b)=a:= @cond_true
theorem ah:∀(a b:Bool),((a&&b)=true)=(a=true/\b=true):= @Bool.and_eq_true
theorem ai:(!true)=false:= @Bool.not_true
theorem az:∀(n:Nat),Int.toNat ↑n=n:= @Int.toNat_natCast
theorem aP:∀{α:Type _}(as bs cs:au α),as++bs++cs=as++(bs++cs):= @List.append_assoc
theorem bh:∀{α:Type _}{i:Nat}{l:au α},List.length (List.drop i l)=List.length l-i:= @List.length_drop
theorem aH:∀{n m k:Nat},n<=m->m<=k->n<=k:= @Nat.le_trans
theorem aJ:∀{α:Type _}{as:au α}{i:Nat}{a:α},List.length (List.set as i a)=List.length as:= @List.length_set
theorem aX:∀(n:Nat),n<=n:= @Nat.le_refl
theorem ba:∀{α:Type _}{b:α}(as:au α){bs:au α},b∈bs->b∈as++bs:= @List.mem_append_right
theorem aY:(false=true)=False:= @Bool.false_eq_true
theorem aZ:∀{α:Type _}(val Wz:α),(some val=some Wz)=(val=Wz):= @Option.some.injEq
theorem aO:∀(b:Bool),((!b)=true)=(b=false):= @Bool.not_eq_true'
theorem bn:∀{α:Type _}{i:Nat}{l:au α},List.length (List.take i l)=min i (List.length l):= @List.length_take
theorem ay:∀{α:Type _}{a:α}{s t:au α},a∈s++t↔a∈s\/a∈t:= @List.mem_append
theorem ca:∀{α:Type _}{a:α}{as:au α},List.length (a::as)=List.length as+1:= @List.length_cons
theorem bj:∀{α:Type _}{a:α}{as:au α}(bs:au α),a∈as->a∈as++bs:= @List.mem_append_left
theorem aW:∀{α:Type _}{p:α->Bool}{l:au α},List.all l p=true↔∀(x:α),x∈l->p x=true:= @List.all_eq_true
theorem br:∀{α:Type _}(as:au α),as++[]=as:= @List.append_nil
theorem bg:∀{α:Type _}{i:Nat}{l:au α}(h:i<List.length l),List.take (i+1) l=List.take i l++[l[i]]:= @List.take_succ_eq_append_getElem
theorem bK:∀{α:Type _}(as:au α),[]++as=as:= @List.nil_append
theorem bf:∀{α:Type _}{a:α},List.length [a]=1:= @List.length_singleton
theorem bB:∀{α:Type _}{i:Nat}{l:au α},List.length l<=i->List.take i l=l:= @List.take_of_length_le
theorem bz:∀(b:Bool),(b||b)=b:= @Bool.or_self
theorem cA:∀{n m:Nat}(k:Nat),n<=m->n*k<=m*k:= @Nat.mul_le_mul_right
theorem cf:∀{α:Type _}(i:Nat)(l:au α),List.take i l++List.drop i l=l:= @List.take_append_drop
theorem bc:∀{α:Type _}{l:au α}{n:Nat}(h:n<List.length l),l[n]∈l:= @List.getElem_mem
theorem bL:∀(n m:Nat),n<m\/n>=m:= @Nat.lt_or_ge
theorem bt:∀(b:Bool),(true&&b)=b:= @Bool.true_and
theorem bQ:∀{α:Type _}{i:Nat}{l:au α}(h:i<List.length l),List.drop i l=l[i]::List.drop (i+1) l:= @List.drop_eq_getElem_cons
theorem cH:∀(b:Bool),(false||b)=b:= @Bool.false_or
theorem cl:∀(n m k:Nat),(n+m)*k=n*k+m*k:= @Nat.add_mul
theorem cr:∀{α:Type _}{l:au α},List.length l=0->l=[]:= @List.eq_nil_of_length_eq_zero
theorem bO:∀{α:Type _}{a:α}{l:au α}{f:α->Bool},List.all (a::l) f=(f a&&List.all l f):= @List.all_cons
theorem cc:∀(n:Nat),0+n=n:= @Nat.zero_add
theorem cj:∀{α:Type _}{β:Type _}{as:au α}(f:α->β),List.length (List.map f as)=List.length as:= @List.length_map
theorem cC:∀(n:Nat),0<=n:= @Nat.zero_le
theorem cK:∀{α:Type _}{i:Nat}{l:au α},List.length l<=i->List.drop i l=[]:= @List.drop_of_length_le
theorem bR:(!false)=true:= @Bool.not_false
theorem cX:∀(a b:Bool),((a||b)=true)=(a=true\/b=true):= @Bool.or_eq_true
theorem cY:∀{α:Type _}{β:Type _}(a:α)(f:α->β),Option.map f (some a)=some (f a):= @Option.map_some
theorem cx:∀{α:Type _}{val Wz:α},some val=some Wz->val=Wz:= @Option.some.inj
theorem eT:∀{a b:Bool},a=b↔(a=true↔b=true):= @Bool.eq_iff_iff
theorem eC:∀{a b:Int},0<=a->Int.tmod a b=a%b:= @Int.tmod_eq_emod_of_nonneg
theorem dC:∀(n:Nat),n+0=n:= @Nat.add_zero
theorem cD:∀{α:Sort _}{a b:α},a≠b->b≠a:= @Ne.symm
theorem fL:∀(a:Int){b:Int},0<b->a%b<b:= @Int.emod_lt_of_pos
theorem dD:∀{α:Type _}{ahO ahP:au (au α)},List.flatten (ahO++ahP)=List.flatten ahO++List.flatten ahP:= @List.flatten_append
theorem ef:∀{α:Type _}{l:au α},List.drop 0 l=l:= @List.drop_zero
theorem ei:∀(n:Nat),1*n=n:= @Nat.one_mul
theorem aK:∀{α:Type _}{b:α}{aiF:Type _}{x:aw aiF}{f:aiF->aw α},Option.bind x f=some b↔∃a,x=some a/\f a=some b:= @Option.bind_eq_some_iff
theorem dJ:∀{α:Type _}{i j:Nat}{l:au α},List.drop i (List.drop j l)=List.drop (j+i) l:= @List.drop_drop
theorem dh:∀{x y:Bool},(x||y)=false↔x=false/\y=false:= @Bool.or_eq_false_iff
theorem dX:∀{α:Type _}{β:Type _}(a:α)(f:α->aw β),Option.bind (some a) f=f a:= @Option.bind_some
theorem cw:∀{α:Type _}{l:au α},List.take (List.length l) l=l:= @List.take_length
theorem du:∀(b:Bool),(b&&b)=b:= @Bool.and_self
theorem dQ:∀{α:Type _}{xs ys:Array α},Array.toList xs=Array.toList ys->xs=ys:= @Array.ext'
theorem fb:∀(n m k:Nat),n+m+k=n+(m+k):= @Nat.add_assoc
theorem eY:∀{α:Type _}{a b:α},Option.getD (some a) b=a:= @Option.getD_some
theorem dK:∀{α:Type _}(y:α){a:α}{l:au α},a∈l->a∈y::l:= @List.mem_cons_of_mem
theorem cg:∀{α:Type _}{b:α}{l:au α}{a:α},a∈b::l↔a=b\/a∈l:= @List.mem_cons
theorem eu:∀{α:Type _}{a b:α},a∈[b]↔a=b:= @List.mem_singleton
theorem eo:∀(b:Bool),((!b)=false)=(b=true):= @Bool.not_eq_false'
theorem gv:∀(b:Bool),(false&&b)=false:= @Bool.false_and
theorem gC:∀{n m:Nat},n<=m->Nat.ble n m=true:= @Nat.ble_eq_true_of_le
theorem gD:∀{a b:Nat},a<b->a≠b:= @Nat.ne_of_lt
theorem dm:∀{m n:Nat},m∈List.range n↔m<n:= @List.mem_range
theorem js:∀(b:Bool),(b&&false)=false:= @Bool.and_false
theorem iI:∀{a b:Nat},a<=b->min a b=a:= @Nat.min_eq_left
theorem gR:∀(p:Prop),(p/\True)=p:= @and_true
theorem gu:∀{α:Type _}{l:au α},List.drop (List.length l) l=[]:= @List.drop_length
theorem jE:∀(b:Bool),(true||b)=true:= @Bool.true_or
theorem gy:∀{n m k:Nat},n<m->m<=k->n<k:= @Nat.lt_of_lt_of_le
theorem ng:∀(n:Nat),¬n<n:= @Nat.lt_irrefl
theorem nh:∀(n:Nat),n*1=n:= @Nat.mul_one
theorem gQ:∀(b:Bool),(b&&true)=b:= @Bool.and_true
theorem ax:∀{p:Prop}[Decidable p],p->decide p=true:= @decide_eq_true
theorem gT:∀{p:Prop}[Decidable p],decide p=true->p:= @of_decide_eq_true
theorem bD:∀{p:Prop}[Decidable p],(decide p=true)=p:= @decide_eq_true_eq
theorem aq:∀{p:Prop}[Decidable p],¬p->decide p=false:= @decide_eq_false
theorem cM:∀{p:Prop}{_:Decidable p},decide p=false↔¬p:= @decide_eq_false_iff_not
theorem aE:∀{c:Prop}{h:Decidable c},¬c->∀{α:Sort _}{t e:α}, @ite α c h t e=e:= @if_neg
theorem aF:∀{c:Prop}{h:Decidable c},c->∀{α:Sort _}{t e:α}, @ite α c h t e=t:= @if_pos
theorem bN:∀{α:Sort _}{_:Decidable True}(t e:α),(if True then t else e)=t:= @if_true
theorem bV:∀{α:Sort _}{_:Decidable False}(t e:α),(if False then t else e)=e:= @if_false
theorem aG:∀{a:Int},0<=a->∃n:Nat,a=(n:Int):= @Int.eq_ofNat_of_zero_le
theorem bC:∀{α:Type _}[BEq α][LawfulBEq α]{a b:α},(a==b)=true↔a=b:= @beq_iff_eq
theorem cy:∀{α:Type _}[BEq α][LawfulBEq α]{a b:α},(a==b)=false↔a≠b:= @beq_eq_false_iff_ne
theorem dU:∀{α:Type _},List.length ([]:au α)=0:= @List.length_nil
theorem al:∀{α:Type _}{l:au α}{i:Nat}(h:i<List.length l),l[i]?=some l[i]:= @List.getElem?_eq_getElem
theorem aD:∀{α:Type _}{i:Nat}{a:α}{l:au α},l[i]?=some a↔∃(h:i<List.length l),l[i]=a:= @List.getElem?_eq_some_iff
theorem aB:∀{α:Type _}{JP OA:au α},List.Nodup (JP++OA)↔List.Nodup JP/\List.Nodup OA/\∀(a:α),a∈JP->∀(b:α),b∈OA->a≠b:= @List.nodup_append
theorem aN:∀{α:Type _}{l:au α}{i j:Nat},i≠j->∀{a:α},(List.set l i a)[j]?=l[j]?:= @List.getElem?_set_ne
theorem cL:∀{α:Type _}{l:au α}{i:Nat}{a:α},l[i]?=some a->a∈l:= @List.mem_of_getElem?
theorem bq:∀{α:Type _}{JP OA:au α}{i:Nat},List.length JP<=i->(JP++OA)[i]?=OA[i-List.length JP]?:= @List.getElem?_append_right
theorem bE:∀{α:Type _}{l:au α}{i:Nat},List.length l<=i->l[i]?=none:= @List.getElem?_eq_none
theorem bA:∀{α:Type _}{JP OA:au α}{i:Nat},i<List.length JP->(JP++OA)[i]?=JP[i]?:= @List.getElem?_append_left
theorem bk:∀{α:Type _}{l:au α}{i j:Nat}{a:α},(List.set l i a)[j]?=if i=j then if i<List.length l then some a else none else l[j]?:= @List.getElem?_set
theorem bH:∀{α:Type _}{xs:au α}{i j:Nat},(List.drop i xs)[j]?=xs[i+j]?:= @List.getElem?_drop
theorem ch:∀{α:Type _}{a:α}{l:au α},(a::l)[0]?=some a:= @List.getElem?_cons_zero
theorem eh:∀{α:Type _}{a:α}{i:Nat}{l:au α},(a::l)[i+1]?=l[i]?:= @List.getElem?_cons_succ
theorem bZ:∀{α:Type _}{xs:Array α}{i:Nat},(Array.toList xs)[i]?=xs[i]?:= @Array.getElem?_toList
theorem cI:∀{α:Type _}{JP OA:au α},(∀(i:Nat),JP[i]?=OA[i]?)->JP=OA:= @List.ext_getElem?
theorem cJ:∀{α:Type _}{a:α}{l:au α},List.Nodup (a::l)↔¬a∈l/\List.Nodup l:= @List.nodup_cons
theorem cP:∀{α:Type _}{l:au α}{i j:Nat},(List.take i l)[j]?=if j<i then l[j]? else none:= @List.getElem?_take
theorem dY:∀{α:Type _}{l:au α}{i j:Nat},i<j->(List.take j l)[i]?=l[i]?:= @List.getElem?_take_of_lt
theorem cG:∀{α:Type _}{xs:Array α}{i:Nat}{d:α},Array.getD xs i d=Option.getD xs[i]? d:= @Array.getD_eq_getD_getElem?
theorem db:∀{n:Nat}{α:Type _}{a:α}{i:Nat},(List.replicate n a)[i]?=if i<n then some a else none:= @List.getElem?_replicate
end Go
