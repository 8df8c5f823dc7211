import GoSem.Core.Sem
import GoSem.Dispatch
import Derived.KernelRfl
/- Short names for lemmas that are used often. -/
namespace Go
abbrev az.{u}(α:Type u):Type u:=List α
abbrev aC.{u}(α:Type u):Type u:=Option α
theorem cM:True:=trivial
abbrev gM (x:Int):BitVec (IntKind.bits .i64):=BitVec.ofInt (IntKind.bits .i64) x
abbrev ow (x:Int):Nat:=min (Int.toNat x) (IntKind.bits .i64)
abbrev RB:Int×Int×Int×Int×Int×Int×Int×Int×Int×Int×Int×Int×Int×Int×Int×List UInt8:=(0,0,0,0,0,0,0,0,0,0,0,0,0,0,0,[])
abbrev dA:Type:=az Int
abbrev gk:Type:=az Nat
abbrev cg:Type:=List (List UInt8)
abbrev na:Type:=Int×Int×Int×Int
abbrev MT:Type:=Int×Int×Int
abbrev E5:Type:=Int×Int×Int×Int×Int×Int
abbrev zW:Type:=Int×Int×Int×Int×Int
abbrev jT:Type:=List Value
theorem kz.{u}{c:Prop}{i:Decidable c}(h:¬c:=by omega){α:Sort u}{t e:α}:ite c t e=e:=if_neg h
theorem zip.{u}{c:Prop}{i:Decidable c}(h:c:=by omega){α:Sort u}{t e:α}:ite c t e=t:=if_pos h
theorem dw {p:Prop}[i:Decidable p](h:¬p:=by omega):decide p=false:=decide_eq_false h
theorem lH {p:Prop}[i:Decidable p](h:p:=by omega):decide p=true:=decide_eq_true h
theorem af:∀{α:Sort _}(a b:α),(bif false then a else b)=b:= @cond_false
theorem aj:∀{α:Type _}{as bs:az α},List.length (as++bs)=List.length as+List.length bs:= @List.length_append
theorem ah:∀{α:Sort _}(a b:α),(bif true then a else b)=a:= @cond_true
theorem ae:∀(a b:Bool),((a&&b)=true)=(a=true/\b=true):= @Bool.and_eq_true
theorem ak:(!true)=false:= @Bool.not_true
theorem ax:∀(n:Nat),Int.toNat ↑n=n:= @Int.toNat_natCast
theorem aE:∀{α:Type _}(as bs cs:az α),as++bs++cs=as++(bs++cs):= @List.append_assoc
theorem aP:∀{α:Type _}{i:Nat}{l:az α},List.length (List.drop i l)=List.length l-i:= @List.length_drop
theorem bH:∀{n m k:Nat},n<=m->m<=k->n<=k:= @Nat.le_trans
theorem aD:∀{α:Type _}{as:az α}{i:Nat}{a:α},List.length (List.set as i a)=List.length as:= @List.length_set
theorem aX:∀(n:Nat),n<=n:= @Nat.le_refl
theorem bm:∀{α:Type _}{b:α}(as:az α){bs:az α},b∈bs->b∈as++bs:= @List.mem_append_right
theorem bj:(false=true)=False:= @Bool.false_eq_true
theorem bw:∀{α:Type _}(val Ys:α),(some val=some Ys)=(val=Ys):= @Option.some.injEq
theorem aN:∀(b:Bool),((!b)=true)=(b=false):= @Bool.not_eq_true'
theorem aY:∀{α:Type _}{i:Nat}{l:az α},List.length (List.take i l)=min i (List.length l):= @List.length_take
theorem ay:∀{α:Type _}{a:α}{s t:az α},a∈s++t↔a∈s\/a∈t:= @List.mem_append
theorem aV:∀{α:Type _}{a:α}{as:az α},List.length (a::as)=List.length as+1:= @List.length_cons
theorem aU:∀{α:Type _}{a:α}{as:az α}(bs:az α),a∈as->a∈as++bs:= @List.mem_append_left
theorem aL:∀{α:Type _}{p:α->Bool}{l:az α},List.all l p=true↔∀(x:α),x∈l->p x=true:= @List.all_eq_true
theorem bB:∀{α:Type _}(as:az α),as++[]=as:= @List.append_nil
theorem bZ:∀{α:Type _}{i:Nat}{l:az α}(h:i<List.length l),List.take (i+1) l=List.take i l++[l[i]]:= @List.take_succ_eq_append_getElem
theorem bX:∀{α:Type _}(as:az α),[]++as=as:= @List.nil_append
theorem bD:∀{α:Type _}{a:α},List.length [a]=1:= @List.length_singleton
theorem bW:∀{α:Type _}{i:Nat}{l:az α},List.length l<=i->List.take i l=l:= @List.take_of_length_le
theorem bJ:∀(b:Bool),(b||b)=b:= @Bool.or_self
theorem cU:∀{n m:Nat}(k:Nat),n<=m->n*k<=m*k:= @Nat.mul_le_mul_right
theorem cC:∀{α:Type _}(i:Nat)(l:az α),List.take i l++List.drop i l=l:= @List.take_append_drop
theorem bF:∀{α:Type _}{l:az α}{n:Nat}(h:n<List.length l),l[n]∈l:= @List.getElem_mem
theorem ca:∀(n m:Nat),n<m\/n>=m:= @Nat.lt_or_ge
theorem bC:∀(b:Bool),(true&&b)=b:= @Bool.true_and
theorem bV:∀{α:Type _}{i:Nat}{l:az α}(h:i<List.length l),List.drop i l=l[i]::List.drop (i+1) l:= @List.drop_eq_getElem_cons
theorem cj:∀(b:Bool),(false||b)=b:= @Bool.false_or
theorem df:∀(n m k:Nat),(n+m)*k=n*k+m*k:= @Nat.add_mul
theorem cp:∀{α:Type _}{l:az α},List.length l=0->l=[]:= @List.eq_nil_of_length_eq_zero
theorem cw:∀{α:Type _}{a:α}{l:az α}{f:α->Bool},List.all (a::l) f=(f a&&List.all l f):= @List.all_cons
theorem cP:∀(n:Nat),0+n=n:= @Nat.zero_add
theorem cz:∀{α:Type _}{β:Type _}{as:az α}(f:α->β),List.length (List.map f as)=List.length as:= @List.length_map
theorem bM:∀(n:Nat),0<=n:= @Nat.zero_le
theorem cx:∀{α:Type _}{i:Nat}{l:az α},List.length l<=i->List.drop i l=[]:= @List.drop_of_length_le
theorem cl:(!false)=true:= @Bool.not_false
theorem cJ:∀(a b:Bool),((a||b)=true)=(a=true\/b=true):= @Bool.or_eq_true
theorem cS:∀{α:Type _}{β:Type _}{f:α->β}{a:α}{l:az α},List.map f (a::l)=f a::List.map f l:= @List.map_cons
theorem dL:∀{α:Type _}{β:Type _}(a:α)(f:α->β),Option.map f (some a)=some (f a):= @Option.map_some
theorem dY:∀(w n:Nat),BitVec.ofInt w ↑n=BitVec.ofNat w n:= @BitVec.ofInt_natCast
theorem bQ:∀{α:Type _}{val Ys:α},some val=some Ys->val=Ys:= @Option.some.inj
theorem dU:∀{a b:Bool},a=b↔(a=true↔b=true):= @Bool.eq_iff_iff
theorem cZ:∀{a b:Int},0<=a->Int.tmod a b=a%b:= @Int.tmod_eq_emod_of_nonneg
theorem eE:∀(n:Nat),n+0=n:= @Nat.add_zero
theorem cd:∀{α:Sort _}{a b:α},a≠b->b≠a:= @Ne.symm
theorem fY:∀(a:Int){b:Int},0<b->a%b<b:= @Int.emod_lt_of_pos
theorem eU:∀(x w:Nat),BitVec.toNat (BitVec.ofNat w x)=x%2^w:= @BitVec.toNat_ofNat
theorem eJ:∀{α:Type _}{anr ans:az (az α)},List.flatten (anr++ans)=List.flatten anr++List.flatten ans:= @List.flatten_append
theorem fi:∀{a b:Nat},a<b->a%b=a:= @Nat.mod_eq_of_lt
theorem eI:∀{α:Type _}{l:az α},List.drop 0 l=l:= @List.drop_zero
theorem fV:∀(a:Int){b:Int},b≠0->0<=a%b:= @Int.emod_nonneg
theorem gB:∀(n:Nat),1*n=n:= @Nat.one_mul
theorem aZ:∀{α:Type _}{b:α}{aoC:Type _}{x:aC aoC}{f:aoC->aC α},Option.bind x f=some b↔∃a,x=some a/\f a=some b:= @Option.bind_eq_some_iff
theorem eZ:∀{α:Type _}{i j:Nat}{l:az α},List.drop i (List.drop j l)=List.drop (j+i) l:= @List.drop_drop
theorem cn:∀{x y:Bool},(x||y)=false↔x=false/\y=false:= @Bool.or_eq_false_iff
theorem cu:∀{α:Type _}{β:Type _}{f:α->β}{Ga JJ:az α},List.map f (Ga++JJ)=List.map f Ga++List.map f JJ:= @List.map_append
theorem fM:∀{α:Type _}{β:Type _}(a:α)(f:α->aC β),Option.bind (some a) f=f a:= @Option.bind_some
theorem fg:∀{α:Type _}{l:az α},List.take (List.length l) l=l:= @List.take_length
theorem cK:∀(b:Bool),(b&&b)=b:= @Bool.and_self
theorem gj:∀{α:Type _}{xs ys:Array α},Array.toList xs=Array.toList ys->xs=ys:= @Array.ext'
theorem gw:∀(n m k:Nat),n+m+k=n+(m+k):= @Nat.add_assoc
theorem gR:∀{α:Type _}{a b:α},Option.getD (some a) b=a:= @Option.getD_some
theorem hU:∀(b:Bool),(!!b)=b:= @Bool.not_not
theorem dZ:∀{α:Type _}(y:α){a:α}{l:az α},a∈l->a∈y::l:= @List.mem_cons_of_mem
theorem cD:∀{α:Type _}{b:α}{l:az α}{a:α},a∈b::l↔a=b\/a∈l:= @List.mem_cons
theorem bA:∀{α:Type _}{a b:α},a∈[b]↔a=b:= @List.mem_singleton
theorem dM:∀(b:Bool),((!b)=false)=(b=true):= @Bool.not_eq_false'
theorem eY:∀(b:Bool),(false&&b)=false:= @Bool.false_and
theorem jk:∀{n m:Nat},n<=m->Nat.ble n m=true:= @Nat.ble_eq_true_of_le
theorem gI:∀{α:Type _}{x:α}{l:az α},[x]++l=x::l:= @List.singleton_append
theorem ni:∀(n:Nat),n-n=0:= @Nat.sub_self
theorem jo:∀{a b:Nat},a<b->a≠b:= @Nat.ne_of_lt
theorem cB:∀{m n:Nat},m∈List.range n↔m<n:= @List.mem_range
theorem ik:∀{α:Type _}{a:α}{as bs:az α},a::as++bs=a::(as++bs):= @List.cons_append
theorem eH:∀(b:Bool),(b&&false)=false:= @Bool.and_false
theorem jv:∀{a b:Nat},a<=b->min a b=a:= @Nat.min_eq_left
theorem jV:∀(p:Prop),(p/\True)=p:= @and_true
theorem gQ:∀{α:Type _}{l:az α},List.drop (List.length l) l=[]:= @List.drop_length
theorem jU:∀(b:Bool),(true||b)=true:= @Bool.true_or
theorem eV:∀(a:Int),a<=a:= @Int.le_refl
theorem ly:∀(b:Bool),(b||true)=true:= @Bool.or_true
theorem oQ:∀(n:Nat),n*1=n:= @Nat.mul_one
theorem dx:∀{α:Type _}{β:Type _}{b:β}{f:α->β}{l:az α},b∈List.map f l↔∃a,a∈l/\f a=b:= @List.mem_map
theorem iI:∀(b:Bool),(b&&true)=b:= @Bool.and_true
theorem aw:∀{p:Prop}[Decidable p],p->decide p=true:= @decide_eq_true
theorem bz:∀{p:Prop}[Decidable p],decide p=true->p:= @of_decide_eq_true
theorem aG:∀{p:Prop}[Decidable p],(decide p=true)=p:= @decide_eq_true_eq
theorem au:∀{p:Prop}[Decidable p],¬p->decide p=false:= @decide_eq_false
theorem cG:∀{p:Prop}{_:Decidable p},decide p=false↔¬p:= @decide_eq_false_iff_not
theorem aI:∀{c:Prop}{h:Decidable c},¬c->∀{α:Sort _}{t e:α}, @ite α c h t e=e:= @if_neg
theorem aJ:∀{c:Prop}{h:Decidable c},c->∀{α:Sort _}{t e:α}, @ite α c h t e=t:= @if_pos
theorem cr:∀{α:Sort _}{_:Decidable True}(t e:α),(if True then t else e)=t:= @if_true
theorem cy:∀{α:Sort _}{_:Decidable False}(t e:α),(if False then t else e)=e:= @if_false
theorem aA:∀{a:Int},0<=a->∃n:Nat,a=(n:Int):= @Int.eq_ofNat_of_zero_le
theorem bn:∀{α:Type _}[BEq α][LawfulBEq α]{a b:α},(a==b)=true↔a=b:= @beq_iff_eq
theorem fN:∀{α:Type _}[BEq α][ReflBEq α](a:α),(a==a)=true:= @beq_self_eq_true
theorem cq:∀{α:Type _}[BEq α][LawfulBEq α]{a b:α},(a==b)=false↔a≠b:= @beq_eq_false_iff_ne
theorem dg:∀{α:Type _},List.length ([]:az α)=0:= @List.length_nil
theorem gA:∀{α:Type _}{a:α}{l:az α},a∈l->∃(i:Nat)(h:i<l.length),l[i]=a:= @List.getElem_of_mem
theorem aq:∀{α:Type _}{l:az α}{i:Nat}(h:i<List.length l),l[i]?=some l[i]:= @List.getElem?_eq_getElem
theorem aB:∀{α:Type _}{i:Nat}{a:α}{l:az α},l[i]?=some a↔∃(h:i<List.length l),l[i]=a:= @List.getElem?_eq_some_iff
theorem aO:∀{α:Type _}{Ga JJ:az α},List.Nodup (Ga++JJ)↔List.Nodup Ga/\List.Nodup JJ/\∀(a:α),a∈Ga->∀(b:α),b∈JJ->a≠b:= @List.nodup_append
theorem aF:∀{α:Type _}{l:az α}{i j:Nat},i≠j->∀{a:α},(List.set l i a)[j]?=l[j]?:= @List.getElem?_set_ne
theorem aQ:∀{α:Type _}{l:az α}{i:Nat}{a:α},l[i]?=some a->a∈l:= @List.mem_of_getElem?
theorem bc:∀{α:Type _}{l:az α}{i:Nat}{a:α},List.getD l i a=Option.getD l[i]? a:= @List.getD_eq_getElem?_getD
theorem bE:∀{α:Type _}{Ga JJ:az α}{i:Nat},List.length Ga<=i->(Ga++JJ)[i]?=JJ[i-List.length Ga]?:= @List.getElem?_append_right
theorem bS:∀{α:Type _}{l:az α}{i:Nat},List.length l<=i->l[i]?=none:= @List.getElem?_eq_none
theorem bu:∀{α:Type _}{Ga JJ:az α}{i:Nat},i<List.length Ga->(Ga++JJ)[i]?=Ga[i]?:= @List.getElem?_append_left
theorem bL:∀{α:Type _}{l:az α}{i j:Nat}{a:α},(List.set l i a)[j]?=if i=j then if i<List.length l then some a else none else l[j]?:= @List.getElem?_set
theorem bP:∀{α:Type _}{xs:az α}{i j:Nat},(List.drop i xs)[j]?=xs[i+j]?:= @List.getElem?_drop
theorem fI:∀{α:Type _}{l:az α}{i:Nat}{a b:α},a∈List.set l i b->a∈l\/a=b:= @List.mem_or_eq_of_mem_set
theorem bq:∀{α:Type _}{l:az α}{i:Nat}{a:α},i<List.length l->(List.set l i a)[i]?=some a:= @List.getElem?_set_self
theorem cR:∀{α:Type _}{a:α}{l:az α},(a::l)[0]?=some a:= @List.getElem?_cons_zero
theorem fW:∀{α:Type _}{a:α}{i:Nat}{l:az α},(a::l)[i+1]?=l[i]?:= @List.getElem?_cons_succ
theorem cI:∀{α:Type _}{xs:Array α}{i:Nat},(Array.toList xs)[i]?=xs[i]?:= @Array.getElem?_toList
theorem de:∀{α:Type _}{Ga JJ:az α},(∀(i:Nat),Ga[i]?=JJ[i]?)->Ga=JJ:= @List.ext_getElem?
theorem dK:∀{α:Type _}{a:α}{l:az α},List.Nodup (a::l)↔¬a∈l/\List.Nodup l:= @List.nodup_cons
theorem eD:∀{α:Type _}{l:az α}{i j:Nat},(List.take i l)[j]?=if j<i then l[j]? else none:= @List.getElem?_take
theorem dI:∀{α:Type _}{l:az α}{i j:Nat},i<j->(List.take j l)[i]?=l[i]?:= @List.getElem?_take_of_lt
theorem dX:∀{α:Type _}{xs:Array α}{i:Nat}{d:α},Array.getD xs i d=Option.getD xs[i]? d:= @Array.getD_eq_getD_getElem?
theorem gv:∀{α:Type _}[Add α][Zero α]{a:α}{l:az α},List.sum (a::l)=a+List.sum l:= @List.sum_cons
theorem eK:∀{n:Nat}{α:Type _}{a:α}{i:Nat},(List.replicate n a)[i]?=if i<n then some a else none:= @List.getElem?_replicate
theorem fA:∀{α:Type _}{β:Type _}{f:α->β}{l:az α}{i:Nat},(List.map f l)[i]?=Option.map f l[i]?:= @List.getElem?_map
theorem fZ:∀{p:Prop}[Decidable p],decide p=false->¬p:= @of_decide_eq_false
end Go
