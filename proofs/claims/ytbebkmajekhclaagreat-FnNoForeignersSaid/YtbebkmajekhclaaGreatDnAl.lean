import GoSem.Core.Sem
import GoSem.Dispatch
import Derived.KernelRfl
/- Short names for lemmas that are used often. -/
namespace Go
abbrev ax.{u}(α:Type u):Type u:=List α
abbrev az.{u}(α:Type u):Type u:=Option α
theorem cB:True:=trivial
abbrev ir (x:Int):BitVec (IntKind.bits .i64):=BitVec.ofInt (IntKind.bits .i64) x
abbrev nZ (x:Int):Nat:=min (Int.toNat x) (IntKind.bits .i64)
abbrev HU:Int×Int×Int×Int×Int×Int×Int×Int×Int×Int×Int×Int×Int×Int×Int×List UInt8:=(0,0,0,0,0,0,0,0,0,0,0,0,0,0,0,[])
abbrev bW:Type:=ax Int
abbrev fK:Type:=ax Nat
abbrev bP:Type:=List (List UInt8)
abbrev kY:Type:=Int×Int×Int×Int
abbrev uA:Type:=Int×Int×Int
abbrev Ha:Type:=Int×Int×Int×Int×Int×Int
abbrev Jn:Type:=Int×Int×Int×Int×Int
abbrev jt:Type:=List Value
theorem nU.{u}{c:Prop}{i:Decidable c}(h:¬c:=by omega){α:Sort u}{t e:α}:ite c t e=e:=if_neg h
theorem zip.{u}{c:Prop}{i:Decidable c}(h:c:=by omega){α:Sort u}{t e:α}:ite c t e=t:=if_pos h
theorem cC {p:Prop}[i:Decidable p](h:¬p:=by omega):decide p=false:=decide_eq_false h
theorem jI {p:Prop}[i:Decidable p](h:p:=by omega):decide p=true:=decide_eq_true h
theorem af:∀{α:Sort _}(a b:α),(bif false then a else b)=b:= @cond_false
theorem ai:∀{α:Type _}{as bs:ax α},List.length (as++bs)=List.length as+List.length bs:= @List.length_append
theorem ah:∀{α:Sort _}(a b:α),(bif true then a else b)=a:= @cond_true
theorem ae:∀(a b:Bool),((a&&b)=true)=(a=true/\b=true):= @Bool.and_eq_true
theorem aj:(!true)=false:= @Bool.not_true
theorem aw:∀(n:Nat),Int.toNat ↑n=n:= @Int.toNat_natCast
theorem aL:∀{α:Type _}(as bs cs:ax α),as++bs++cs=as++(bs++cs):= @List.append_assoc
theorem aJ:∀{α:Type _}{i:Nat}{l:ax α},List.length (List.drop i l)=List.length l-i:= @List.length_drop
theorem bp:∀{n m k:Nat},n<=m->m<=k->n<=k:= @Nat.le_trans
theorem aC:∀{α:Type _}{as:ax α}{i:Nat}{a:α},List.length (List.set as i a)=List.length as:= @List.length_set
theorem bj:∀(n:Nat),n<=n:= @Nat.le_refl
theorem bw:∀{α:Type _}{b:α}(as:ax α){bs:ax α},b∈bs->b∈as++bs:= @List.mem_append_right
theorem bm:(false=true)=False:= @Bool.false_eq_true
theorem bq:∀{α:Type _}(val Z4:α),(some val=some Z4)=(val=Z4):= @Option.some.injEq
theorem aN:∀(b:Bool),((!b)=true)=(b=false):= @Bool.not_eq_true'
theorem aV:∀{α:Type _}{i:Nat}{l:ax α},List.length (List.take i l)=min i (List.length l):= @List.length_take
theorem ay:∀{α:Type _}{a:α}{s t:ax α},a∈s++t↔a∈s\/a∈t:= @List.mem_append
theorem aU:∀{α:Type _}{a:α}{as:ax α},List.length (a::as)=List.length as+1:= @List.length_cons
theorem bK:∀{α:Type _}{a:α}{as:ax α}(bs:ax α),a∈as->a∈as++bs:= @List.mem_append_left
theorem aF:∀{α:Type _}{p:α->Bool}{l:ax α},List.all l p=true↔∀(x:α),x∈l->p x=true:= @List.all_eq_true
theorem bD:∀{α:Type _}(as:ax α),as++[]=as:= @List.append_nil
theorem bc:∀{α:Type _}{i:Nat}{l:ax α}(h:i<List.length l),List.take (i+1) l=List.take i l++[l[i]]:= @List.take_succ_eq_append_getElem
theorem cd:∀{α:Type _}(as:ax α),[]++as=as:= @List.nil_append
theorem ba:∀{α:Type _}{a:α},List.length [a]=1:= @List.length_singleton
theorem cf:∀{α:Type _}{i:Nat}{l:ax α},List.length l<=i->List.take i l=l:= @List.take_of_length_le
theorem cl:∀(b:Bool),(b||b)=b:= @Bool.or_self
theorem cK:∀{n m:Nat}(k:Nat),n<=m->n*k<=m*k:= @Nat.mul_le_mul_right
theorem cI:∀{α:Type _}(i:Nat)(l:ax α),List.take i l++List.drop i l=l:= @List.take_append_drop
theorem aM:∀{α:Type _}{l:ax α}{n:Nat}(h:n<List.length l),l[n]∈l:= @List.getElem_mem
theorem cr:∀(n m:Nat),n<m\/n>=m:= @Nat.lt_or_ge
theorem bn:∀(b:Bool),(true&&b)=b:= @Bool.true_and
theorem cc:∀{α:Type _}{i:Nat}{l:ax α}(h:i<List.length l),List.drop i l=l[i]::List.drop (i+1) l:= @List.drop_eq_getElem_cons
theorem cJ:∀(b:Bool),(false||b)=b:= @Bool.false_or
theorem cU:∀(n m k:Nat),(n+m)*k=n*k+m*k:= @Nat.add_mul
theorem cq:∀{α:Type _}{l:ax α},List.length l=0->l=[]:= @List.eq_nil_of_length_eq_zero
theorem cj:∀{α:Type _}{a:α}{l:ax α}{f:α->Bool},List.all (a::l) f=(f a&&List.all l f):= @List.all_cons
theorem cy:∀(n:Nat),0+n=n:= @Nat.zero_add
theorem bH:∀{α:Type _}{β:Type _}{as:ax α}(f:α->β),List.length (List.map f as)=List.length as:= @List.length_map
theorem cg:∀(n:Nat),0<=n:= @Nat.zero_le
theorem di:∀{α:Type _}{i:Nat}{l:ax α},List.length l<=i->List.drop i l=[]:= @List.drop_of_length_le
theorem bt:(!false)=true:= @Bool.not_false
theorem cY:∀(a b:Bool),((a||b)=true)=(a=true\/b=true):= @Bool.or_eq_true
theorem dk:∀{α:Type _}{β:Type _}{f:α->β}{a:α}{l:ax α},List.map f (a::l)=f a::List.map f l:= @List.map_cons
theorem dH:∀{α:Type _}{β:Type _}(a:α)(f:α->β),Option.map f (some a)=some (f a):= @Option.map_some
theorem dX:∀(w n:Nat),BitVec.ofInt w ↑n=BitVec.ofNat w n:= @BitVec.ofInt_natCast
theorem bN:∀{α:Type _}{val Z4:α},some val=some Z4->val=Z4:= @Option.some.inj
theorem cH:∀{a b:Bool},a=b↔(a=true↔b=true):= @Bool.eq_iff_iff
theorem dK:∀{a b:Int},0<=a->Int.tmod a b=a%b:= @Int.tmod_eq_emod_of_nonneg
theorem eP:∀(n:Nat),n+0=n:= @Nat.add_zero
theorem cZ:∀{α:Sort _}{a b:α},a≠b->b≠a:= @Ne.symm
theorem fL:∀(a:Int){b:Int},0<b->a%b<b:= @Int.emod_lt_of_pos
theorem eI:∀(x w:Nat),BitVec.toNat (BitVec.ofNat w x)=x%2^w:= @BitVec.toNat_ofNat
theorem eR:∀{α:Type _}{ap8 ap9:ax (ax α)},List.flatten (ap8++ap9)=List.flatten ap8++List.flatten ap9:= @List.flatten_append
theorem eQ:∀{a b:Nat},a<b->a%b=a:= @Nat.mod_eq_of_lt
theorem eL:∀{α:Type _}{l:ax α},List.drop 0 l=l:= @List.drop_zero
theorem fJ:∀(a:Int){b:Int},b≠0->0<=a%b:= @Int.emod_nonneg
theorem fX:∀(n:Nat),1*n=n:= @Nat.one_mul
theorem aZ:∀{α:Type _}{b:α}{arn:Type _}{x:az arn}{f:arn->az α},Option.bind x f=some b↔∃a,x=some a/\f a=some b:= @Option.bind_eq_some_iff
theorem eK:∀{α:Type _}{i j:Nat}{l:ax α},List.drop i (List.drop j l)=List.drop (j+i) l:= @List.drop_drop
theorem cn:∀{x y:Bool},(x||y)=false↔x=false/\y=false:= @Bool.or_eq_false_iff
theorem dF:∀{α:Type _}{β:Type _}{f:α->β}{GA Kx:ax α},List.map f (GA++Kx)=List.map f GA++List.map f Kx:= @List.map_append
theorem fu:∀{α:Type _}{β:Type _}(a:α)(f:α->az β),Option.bind (some a) f=f a:= @Option.bind_some
theorem cE:∀{α:Type _}{l:ax α},List.take (List.length l) l=l:= @List.take_length
theorem bR:∀(b:Bool),(b&&b)=b:= @Bool.and_self
theorem fR:∀{α:Type _}{xs ys:Array α},Array.toList xs=Array.toList ys->xs=ys:= @Array.ext'
theorem gy:∀(n m k:Nat),n+m+k=n+(m+k):= @Nat.add_assoc
theorem du:∀{α:Type _}{β:Type _}{a:α}{l:ax α}{f:β->α->β}{b:β},List.foldl f b (a::l)=List.foldl f (f b a) l:= @List.foldl_cons
theorem gr:∀{α:Type _}{a b:α},Option.getD (some a) b=a:= @Option.getD_some
theorem gu:∀(b:Bool),(!!b)=b:= @Bool.not_not
theorem dY:∀{α:Type _}(y:α){a:α}{l:ax α},a∈l->a∈y::l:= @List.mem_cons_of_mem
theorem bS:∀{α:Type _}{b:α}{l:ax α}{a:α},a∈b::l↔a=b\/a∈l:= @List.mem_cons
theorem bz:∀{α:Type _}{a b:α},a∈[b]↔a=b:= @List.mem_singleton
theorem dM:∀(b:Bool),((!b)=false)=(b=true):= @Bool.not_eq_false'
theorem dJ:∀(b:Bool),(false&&b)=false:= @Bool.false_and
theorem iG:∀{n m:Nat},n<=m->Nat.ble n m=true:= @Nat.ble_eq_true_of_le
theorem jv:∀(n:Nat),n-n=0:= @Nat.sub_self
theorem iP:∀{a b:Nat},a<b->a≠b:= @Nat.ne_of_lt
theorem bB:∀{m n:Nat},m∈List.range n↔m<n:= @List.mem_range
theorem fG:∀(b:Bool),(b&&false)=false:= @Bool.and_false
theorem iW:∀{a b:Nat},a<=b->min a b=a:= @Nat.min_eq_left
theorem jw:∀(p:Prop),(p/\True)=p:= @and_true
theorem gO:∀{α:Type _}{l:ax α},List.drop (List.length l) l=[]:= @List.drop_length
theorem iO:∀(b:Bool),(true||b)=true:= @Bool.true_or
theorem gZ:∀{n:Nat},List.range (Nat.succ n)=List.range n++[n]:= @List.range_succ
theorem cR:∀(a:Int),a<=a:= @Int.le_refl
theorem hZ:∀(b:Bool),(b||true)=true:= @Bool.or_true
theorem oG:∀(n:Nat),n*1=n:= @Nat.mul_one
theorem eG:∀{α:Type _}{β:Type _}{b:β}{f:α->β}{l:ax α},b∈List.map f l↔∃a,a∈l/\f a=b:= @List.mem_map
theorem gw:∀(b:Bool),(b&&true)=b:= @Bool.and_true
theorem ar:∀{p:Prop}[Decidable p],p->decide p=true:= @decide_eq_true
theorem bu:∀{p:Prop}[Decidable p],decide p=true->p:= @of_decide_eq_true
theorem aE:∀{p:Prop}[Decidable p],(decide p=true)=p:= @decide_eq_true_eq
theorem aq:∀{p:Prop}[Decidable p],¬p->decide p=false:= @decide_eq_false
theorem cL:∀{p:Prop}{_:Decidable p},decide p=false↔¬p:= @decide_eq_false_iff_not
theorem aG:∀{c:Prop}{h:Decidable c},¬c->∀{α:Sort _}{t e:α}, @ite α c h t e=e:= @if_neg
theorem aI:∀{c:Prop}{h:Decidable c},c->∀{α:Sort _}{t e:α}, @ite α c h t e=t:= @if_pos
theorem ch:∀{α:Sort _}{_:Decidable True}(t e:α),(if True then t else e)=t:= @if_true
theorem cw:∀{α:Sort _}{_:Decidable False}(t e:α),(if False then t else e)=e:= @if_false
theorem aD:∀{a:Int},0<=a->∃n:Nat,a=(n:Int):= @Int.eq_ofNat_of_zero_le
theorem bg:∀{α:Type _}[BEq α][LawfulBEq α]{a b:α},(a==b)=true↔a=b:= @beq_iff_eq
theorem fS:∀{α:Type _}[BEq α][ReflBEq α](a:α),(a==a)=true:= @beq_self_eq_true
theorem cv:∀{α:Type _}[BEq α][LawfulBEq α]{a b:α},(a==b)=false↔a≠b:= @beq_eq_false_iff_ne
theorem dg:∀{α:Type _},List.length ([]:ax α)=0:= @List.length_nil
theorem al:∀{α:Type _}{l:ax α}{i:Nat}(h:i<List.length l),l[i]?=some l[i]:= @List.getElem?_eq_getElem
theorem aA:∀{α:Type _}{i:Nat}{a:α}{l:ax α},l[i]?=some a↔∃(h:i<List.length l),l[i]=a:= @List.getElem?_eq_some_iff
theorem aQ:∀{α:Type _}{GA Kx:ax α},List.Nodup (GA++Kx)↔List.Nodup GA/\List.Nodup Kx/\∀(a:α),a∈GA->∀(b:α),b∈Kx->a≠b:= @List.nodup_append
theorem aP:∀{α:Type _}{l:ax α}{i j:Nat},i≠j->∀{a:α},(List.set l i a)[j]?=l[j]?:= @List.getElem?_set_ne
theorem aY:∀{α:Type _}{l:ax α}{i:Nat}{a:α},l[i]?=some a->a∈l:= @List.mem_of_getElem?
theorem bG:∀{α:Type _}{l:ax α}{i:Nat}{a:α},List.getD l i a=Option.getD l[i]? a:= @List.getD_eq_getElem?_getD
theorem bA:∀{α:Type _}{GA Kx:ax α}{i:Nat},List.length GA<=i->(GA++Kx)[i]?=Kx[i-List.length GA]?:= @List.getElem?_append_right
theorem bI:∀{α:Type _}{l:ax α}{i:Nat},List.length l<=i->l[i]?=none:= @List.getElem?_eq_none
theorem bF:∀{α:Type _}{GA Kx:ax α}{i:Nat},i<List.length GA->(GA++Kx)[i]?=GA[i]?:= @List.getElem?_append_left
theorem bJ:∀{α:Type _}{l:ax α}{i j:Nat}{a:α},(List.set l i a)[j]?=if i=j then if i<List.length l then some a else none else l[j]?:= @List.getElem?_set
theorem bQ:∀{α:Type _}{xs:ax α}{i j:Nat},(List.drop i xs)[j]?=xs[i+j]?:= @List.getElem?_drop
theorem dw:∀{α:Type _}{l:ax α}{i:Nat}{a b:α},a∈List.set l i b->a∈l\/a=b:= @List.mem_or_eq_of_mem_set
theorem cW:∀{α:Type _}{l:ax α}{i:Nat}{a:α},i<List.length l->(List.set l i a)[i]?=some a:= @List.getElem?_set_self
theorem cD:∀{α:Type _}{a:α}{l:ax α},(a::l)[0]?=some a:= @List.getElem?_cons_zero
theorem eT:∀{α:Type _}{a:α}{i:Nat}{l:ax α},(a::l)[i+1]?=l[i]?:= @List.getElem?_cons_succ
theorem cG:∀{α:Type _}{xs:Array α}{i:Nat},(Array.toList xs)[i]?=xs[i]?:= @Array.getElem?_toList
theorem cS:∀{α:Type _}{GA Kx:ax α},(∀(i:Nat),GA[i]?=Kx[i]?)->GA=Kx:= @List.ext_getElem?
theorem dG:∀{α:Type _}{a:α}{l:ax α},List.Nodup (a::l)↔¬a∈l/\List.Nodup l:= @List.nodup_cons
theorem ej:∀{α:Type _}{l:ax α}{i j:Nat},(List.take i l)[j]?=if j<i then l[j]? else none:= @List.getElem?_take
theorem eM:∀{α:Type _}{l:ax α}{i j:Nat},i<j->(List.take j l)[i]?=l[i]?:= @List.getElem?_take_of_lt
theorem dW:∀{α:Type _}{xs:Array α}{i:Nat}{d:α},Array.getD xs i d=Option.getD xs[i]? d:= @Array.getD_eq_getD_getElem?
theorem fW:∀{α:Type _}[Add α][Zero α]{a:α}{l:ax α},List.sum (a::l)=a+List.sum l:= @List.sum_cons
theorem eV:∀{n:Nat}{α:Type _}{a:α}{i:Nat},(List.replicate n a)[i]?=if i<n then some a else none:= @List.getElem?_replicate
theorem eU:∀{α:Type _}{β:Type _}{f:α->β}{l:ax α}{i:Nat},(List.map f l)[i]?=Option.map f l[i]?:= @List.getElem?_map
theorem dN:∀{p:Prop}[Decidable p],decide p=false->¬p:= @of_decide_eq_false
theorem gx:∀{α:Type _}{a:α}{l:ax α},a∈l->∃(i:Nat),l[i]?=some a:= @List.getElem?_of_mem
end Go
