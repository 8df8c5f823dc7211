import GoSem.Core.Sem
import GoSem.Dispatch
import Derived.KernelRfl
/- Short names for lemmas that are used often. -/
namespace Go
abbrev aw.{u}(α:Type u):Type u:=List α
abbrev ax.{u}(α:Type u):Type u:=Option α
theorem cv:True:=trivial
abbrev ga (x:Int):BitVec (IntKind.bits .i64):=BitVec.ofInt (IntKind.bits .i64) x
abbrev oC (x:Int):Nat:=min (Int.toNat x) (IntKind.bits .i64)
abbrev MP:Int×Int×Int×Int×Int×Int×Int×Int×Int×Int×Int×Int×Int×Int×Int×List UInt8:=(0,0,0,0,0,0,0,0,0,0,0,0,0,0,0,[])
abbrev cw:Type:=aw Int
abbrev fw:Type:=aw Nat
abbrev bM:Type:=List (List UInt8)
abbrev lN:Type:=Int×Int×Int×Int
abbrev L3:Type:=Int×Int×Int
abbrev Da:Type:=Int×Int×Int×Int×Int×Int
abbrev Ep:Type:=Int×Int×Int×Int×Int
abbrev iq:Type:=List Value
theorem lZ.{u}{c:Prop}{i:Decidable c}(h:¬c:=by omega){α:Sort u}{t e:α}:ite c t e=e:=if_neg h
theorem zip.{u}{c:Prop}{i:Decidable c}(h:c:=by omega){α:Sort u}{t e:α}:ite c t e=t:=if_pos h
theorem cC {p:Prop}[i:Decidable p](h:¬p:=by omega):decide p=false:=decide_eq_false h
theorem jU {p:Prop}[i:Decidable p](h:p:=by omega):decide p=true:=decide_eq_true h
theorem af:∀{α:Sort _}(a b:α),(bif false then a else b)=b:= @cond_false
theorem ai:∀{α:Type _}{as bs:aw α},List.length (as++bs)=List.length as+List.length bs:= @List.length_append
theorem ah:∀{α:Sort _}(a b:α),(bif true then a else b)=a:= @cond_true
theorem ae:∀(a b:Bool),((a&&b)=true)=(a=true/\b=true):= @Bool.and_eq_true
theorem aj:(!true)=false:= @Bool.not_true
theorem az:∀(n:Nat),Int.toNat ↑n=n:= @Int.toNat_natCast
theorem aQ:∀{α:Type _}(as bs cs:aw α),as++bs++cs=as++(bs++cs):= @List.append_assoc
theorem aM:∀{α:Type _}{i:Nat}{l:aw α},List.length (List.drop i l)=List.length l-i:= @List.length_drop
theorem bw:∀{n m k:Nat},n<=m->m<=k->n<=k:= @Nat.le_trans
theorem aC:∀{α:Type _}{as:aw α}{i:Nat}{a:α},List.length (List.set as i a)=List.length as:= @List.length_set
theorem aU:∀(n:Nat),n<=n:= @Nat.le_refl
theorem bj:∀{α:Type _}{b:α}(as:aw α){bs:aw α},b∈bs->b∈as++bs:= @List.mem_append_right
theorem aW:(false=true)=False:= @Bool.false_eq_true
theorem aZ:∀{α:Type _}(val Tx:α),(some val=some Tx)=(val=Tx):= @Option.some.injEq
theorem aK:∀(b:Bool),((!b)=true)=(b=false):= @Bool.not_eq_true'
theorem aY:∀{α:Type _}{i:Nat}{l:aw α},List.length (List.take i l)=min i (List.length l):= @List.length_take
theorem ay:∀{α:Type _}{a:α}{s t:aw α},a∈s++t↔a∈s\/a∈t:= @List.mem_append
theorem bc:∀{α:Type _}{a:α}{as:aw α},List.length (a::as)=List.length as+1:= @List.length_cons
theorem bt:∀{α:Type _}{a:α}{as:aw α}(bs:aw α),a∈as->a∈as++bs:= @List.mem_append_left
theorem aG:∀{α:Type _}{p:α->Bool}{l:aw α},List.all l p=true↔∀(x:α),x∈l->p x=true:= @List.all_eq_true
theorem bV:∀{α:Type _}(as:aw α),as++[]=as:= @List.append_nil
theorem bQ:∀{α:Type _}{i:Nat}{l:aw α}(h:i<List.length l),List.take (i+1) l=List.take i l++[l[i]]:= @List.take_succ_eq_append_getElem
theorem cA:∀{α:Type _}(as:aw α),[]++as=as:= @List.nil_append
theorem bA:∀{α:Type _}{a:α},List.length [a]=1:= @List.length_singleton
theorem bK:∀{α:Type _}{i:Nat}{l:aw α},List.length l<=i->List.take i l=l:= @List.take_of_length_le
theorem bZ:∀(b:Bool),(b||b)=b:= @Bool.or_self
theorem cu:∀{n m:Nat}(k:Nat),n<=m->n*k<=m*k:= @Nat.mul_le_mul_right
theorem cl:∀{α:Type _}(i:Nat)(l:aw α),List.take i l++List.drop i l=l:= @List.take_append_drop
theorem bk:∀{α:Type _}{l:aw α}{n:Nat}(h:n<List.length l),l[n]∈l:= @List.getElem_mem
theorem cc:∀(n m:Nat),n<m\/n>=m:= @Nat.lt_or_ge
theorem bp:∀(b:Bool),(true&&b)=b:= @Bool.true_and
theorem bJ:∀{α:Type _}{i:Nat}{l:aw α}(h:i<List.length l),List.drop i l=l[i]::List.drop (i+1) l:= @List.drop_eq_getElem_cons
theorem cG:∀(b:Bool),(false||b)=b:= @Bool.false_or
theorem cy:∀(n m k:Nat),(n+m)*k=n*k+m*k:= @Nat.add_mul
theorem bS:∀{α:Type _}{l:aw α},List.length l=0->l=[]:= @List.eq_nil_of_length_eq_zero
theorem cb:∀{α:Type _}{a:α}{l:aw α}{f:α->Bool},List.all (a::l) f=(f a&&List.all l f):= @List.all_cons
theorem ca:∀(n:Nat),0+n=n:= @Nat.zero_add
theorem da:∀{α:Type _}{β:Type _}{as:aw α}(f:α->β),List.length (List.map f as)=List.length as:= @List.length_map
theorem bW:∀(n:Nat),0<=n:= @Nat.zero_le
theorem cK:∀{α:Type _}{i:Nat}{l:aw α},List.length l<=i->List.drop i l=[]:= @List.drop_of_length_le
theorem bF:(!false)=true:= @Bool.not_false
theorem cz:∀(a b:Bool),((a||b)=true)=(a=true\/b=true):= @Bool.or_eq_true
theorem cV:∀{α:Type _}{β:Type _}{f:α->β}{a:α}{l:aw α},List.map f (a::l)=f a::List.map f l:= @List.map_cons
theorem dc:∀{α:Type _}{β:Type _}(a:α)(f:α->β),Option.map f (some a)=some (f a):= @Option.map_some
theorem dv:∀(w n:Nat),BitVec.ofInt w ↑n=BitVec.ofNat w n:= @BitVec.ofInt_natCast
theorem dp:∀{α:Type _}{val Tx:α},some val=some Tx->val=Tx:= @Option.some.inj
theorem cq:∀{a b:Bool},a=b↔(a=true↔b=true):= @Bool.eq_iff_iff
theorem df:∀{a b:Int},0<=a->Int.tmod a b=a%b:= @Int.tmod_eq_emod_of_nonneg
theorem dT:∀(n:Nat),n+0=n:= @Nat.add_zero
theorem cO:∀{α:Sort _}{a b:α},a≠b->b≠a:= @Ne.symm
theorem eJ:∀(a:Int){b:Int},0<b->a%b<b:= @Int.emod_lt_of_pos
theorem dK:∀(x w:Nat),BitVec.toNat (BitVec.ofNat w x)=x%2^w:= @BitVec.toNat_ofNat
theorem dV:∀{α:Type _}{aiD aiE:aw (aw α)},List.flatten (aiD++aiE)=List.flatten aiD++List.flatten aiE:= @List.flatten_append
theorem dU:∀{a b:Nat},a<b->a%b=a:= @Nat.mod_eq_of_lt
theorem dP:∀{α:Type _}{l:aw α},List.drop 0 l=l:= @List.drop_zero
theorem eI:∀(a:Int){b:Int},b≠0->0<=a%b:= @Int.emod_nonneg
theorem fb:∀(n:Nat),1*n=n:= @Nat.one_mul
theorem aL:∀{α:Type _}{b:α}{ajN:Type _}{x:ax ajN}{f:ajN->ax α},Option.bind x f=some b↔∃a,x=some a/\f a=some b:= @Option.bind_eq_some_iff
theorem eH:∀{α:Type _}{i j:Nat}{l:aw α},List.drop i (List.drop j l)=List.drop (j+i) l:= @List.drop_drop
theorem cg:∀{x y:Bool},(x||y)=false↔x=false/\y=false:= @Bool.or_eq_false_iff
theorem eo:∀{α:Type _}{β:Type _}(a:α)(f:α->ax β),Option.bind (some a) f=f a:= @Option.bind_some
theorem eR:∀{α:Type _}{l:aw α},List.take (List.length l) l=l:= @List.take_length
theorem eY:∀(b:Bool),(b&&b)=b:= @Bool.and_self
theorem eQ:∀{α:Type _}{xs ys:Array α},Array.toList xs=Array.toList ys->xs=ys:= @Array.ext'
theorem fC:∀(n m k:Nat),n+m+k=n+(m+k):= @Nat.add_assoc
theorem cZ:∀{α:Type _}{β:Type _}{a:α}{l:aw α}{f:β->α->β}{b:β},List.foldl f b (a::l)=List.foldl f (f b a) l:= @List.foldl_cons
theorem fB:∀{α:Type _}{a b:α},Option.getD (some a) b=a:= @Option.getD_some
theorem fZ:∀(b:Bool),(!!b)=b:= @Bool.not_not
theorem ec:∀{α:Type _}(y:α){a:α}{l:aw α},a∈l->a∈y::l:= @List.mem_cons_of_mem
theorem bO:∀{α:Type _}{b:α}{l:aw α}{a:α},a∈b::l↔a=b\/a∈l:= @List.mem_cons
theorem cf:∀{α:Type _}{a b:α},a∈[b]↔a=b:= @List.mem_singleton
theorem dz:∀(b:Bool),((!b)=false)=(b=true):= @Bool.not_eq_false'
theorem dN:∀(b:Bool),(false&&b)=false:= @Bool.false_and
theorem gD:∀{n m:Nat},n<=m->Nat.ble n m=true:= @Nat.ble_eq_true_of_le
theorem kW:∀(n:Nat),n-n=0:= @Nat.sub_self
theorem gH:∀{a b:Nat},a<b->a≠b:= @Nat.ne_of_lt
theorem bT:∀{m n:Nat},m∈List.range n↔m<n:= @List.mem_range
theorem fE:∀(b:Bool),(b&&false)=false:= @Bool.and_false
theorem gL:∀{a b:Nat},a<=b->min a b=a:= @Nat.min_eq_left
theorem iu:∀(p:Prop),(p/\True)=p:= @and_true
theorem ir:∀(b:Bool),(true||b)=true:= @Bool.true_or
theorem dL:∀(a:Int),a<=a:= @Int.le_refl
theorem jt:∀(b:Bool),(b||true)=true:= @Bool.or_true
theorem mG:∀(n:Nat),n*1=n:= @Nat.mul_one
theorem dS:∀(b:Bool),(b&&true)=b:= @Bool.and_true
theorem ar:∀{p:Prop}[Decidable p],p->decide p=true:= @decide_eq_true
theorem bl:∀{p:Prop}[Decidable p],decide p=true->p:= @of_decide_eq_true
theorem aB:∀{p:Prop}[Decidable p],(decide p=true)=p:= @decide_eq_true_eq
theorem aq:∀{p:Prop}[Decidable p],¬p->decide p=false:= @decide_eq_false
theorem cP:∀{p:Prop}{_:Decidable p},decide p=false↔¬p:= @decide_eq_false_iff_not
theorem aH:∀{c:Prop}{h:Decidable c},¬c->∀{α:Sort _}{t e:α}, @ite α c h t e=e:= @if_neg
theorem aE:∀{c:Prop}{h:Decidable c},c->∀{α:Sort _}{t e:α}, @ite α c h t e=t:= @if_pos
theorem bN:∀{α:Sort _}{_:Decidable True}(t e:α),(if True then t else e)=t:= @if_true
theorem bU:∀{α:Sort _}{_:Decidable False}(t e:α),(if False then t else e)=e:= @if_false
theorem aV:∀{a:Int},0<=a->∃n:Nat,a=(n:Int):= @Int.eq_ofNat_of_zero_le
theorem aS:∀{α:Type _}[BEq α][LawfulBEq α]{a b:α},(a==b)=true↔a=b:= @beq_iff_eq
theorem cI:∀{α:Type _}[BEq α][LawfulBEq α]{a b:α},(a==b)=false↔a≠b:= @beq_eq_false_iff_ne
theorem ef:∀{α:Type _},List.length ([]:aw α)=0:= @List.length_nil
theorem eZ:∀{α:Type _}{a:α}{l:aw α},a∈l->∃(i:Nat)(h:i<l.length),l[i]=a:= @List.getElem_of_mem
theorem al:∀{α:Type _}{l:aw α}{i:Nat}(h:i<List.length l),l[i]?=some l[i]:= @List.getElem?_eq_getElem
theorem aF:∀{α:Type _}{i:Nat}{a:α}{l:aw α},l[i]?=some a↔∃(h:i<List.length l),l[i]=a:= @List.getElem?_eq_some_iff
theorem aI:∀{α:Type _}{Gc KW:aw α},List.Nodup (Gc++KW)↔List.Nodup Gc/\List.Nodup KW/\∀(a:α),a∈Gc->∀(b:α),b∈KW->a≠b:= @List.nodup_append
theorem aO:∀{α:Type _}{l:aw α}{i j:Nat},i≠j->∀{a:α},(List.set l i a)[j]?=l[j]?:= @List.getElem?_set_ne
theorem bn:∀{α:Type _}{l:aw α}{i:Nat}{a:α},l[i]?=some a->a∈l:= @List.mem_of_getElem?
theorem cm:∀{α:Type _}{l:aw α}{i:Nat}{a:α},List.getD l i a=Option.getD l[i]? a:= @List.getD_eq_getElem?_getD
theorem bq:∀{α:Type _}{Gc KW:aw α}{i:Nat},List.length Gc<=i->(Gc++KW)[i]?=KW[i-List.length Gc]?:= @List.getElem?_append_right
theorem bh:∀{α:Type _}{l:aw α}{i:Nat},List.length l<=i->l[i]?=none:= @List.getElem?_eq_none
theorem bz:∀{α:Type _}{Gc KW:aw α}{i:Nat},i<List.length Gc->(Gc++KW)[i]?=Gc[i]?:= @List.getElem?_append_left
theorem br:∀{α:Type _}{l:aw α}{i j:Nat}{a:α},(List.set l i a)[j]?=if i=j then if i<List.length l then some a else none else l[j]?:= @List.getElem?_set
theorem bI:∀{α:Type _}{xs:aw α}{i j:Nat},(List.drop i xs)[j]?=xs[i+j]?:= @List.getElem?_drop
theorem cr:∀{α:Type _}{a:α}{l:aw α},(a::l)[0]?=some a:= @List.getElem?_cons_zero
theorem dW:∀{α:Type _}{a:α}{i:Nat}{l:aw α},(a::l)[i+1]?=l[i]?:= @List.getElem?_cons_succ
theorem cj:∀{α:Type _}{xs:Array α}{i:Nat},(Array.toList xs)[i]?=xs[i]?:= @Array.getElem?_toList
theorem cn:∀{α:Type _}{Gc KW:aw α},(∀(i:Nat),Gc[i]?=KW[i]?)->Gc=KW:= @List.ext_getElem?
theorem db:∀{α:Type _}{a:α}{l:aw α},List.Nodup (a::l)↔¬a∈l/\List.Nodup l:= @List.nodup_cons
theorem dA:∀{α:Type _}{l:aw α}{i j:Nat},(List.take i l)[j]?=if j<i then l[j]? else none:= @List.getElem?_take
theorem dQ:∀{α:Type _}{l:aw α}{i j:Nat},i<j->(List.take j l)[i]?=l[i]?:= @List.getElem?_take_of_lt
theorem du:∀{α:Type _}{xs:Array α}{i:Nat}{d:α},Array.getD xs i d=Option.getD xs[i]? d:= @Array.getD_eq_getD_getElem?
theorem dX:∀{n:Nat}{α:Type _}{a:α}{i:Nat},(List.replicate n a)[i]?=if i<n then some a else none:= @List.getElem?_replicate
theorem eK:∀{p:Prop}[Decidable p],decide p=false->¬p:= @of_decide_eq_false
end Go
