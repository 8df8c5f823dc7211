import GoSem.Core.Sem
import GoSem.Dispatch
import Derived.KernelRfl
/- Short names for lemmas that are used often. -/
namespace Go
abbrev ay.{u}(α:Type u):Type u:=List α
abbrev aC.{u}(α:Type u):Type u:=Option α
theorem dq:True:=trivial
abbrev ia (x:Int):BitVec (IntKind.bits .i64):=BitVec.ofInt (IntKind.bits .i64) x
abbrev nk (x:Int):Nat:=min (Int.toNat x) (IntKind.bits .i64)
abbrev O3:Int×Int×Int×Int×Int×Int×Int×Int×Int×Int×Int×Int×Int×Int×Int×List UInt8:=(0,0,0,0,0,0,0,0,0,0,0,0,0,0,0,[])
abbrev dB:Type:=ay Int
abbrev fR:Type:=ay Nat
abbrev cg:Type:=List (List UInt8)
abbrev mR:Type:=Int×Int×Int×Int
abbrev K7:Type:=Int×Int×Int
abbrev Dm:Type:=Int×Int×Int×Int×Int×Int
abbrev AB:Type:=Int×Int×Int×Int×Int
abbrev jz:Type:=List Value
theorem kl.{u}{c:Prop}{i:Decidable c}(h:¬c:=by omega){α:Sort u}{t e:α}:ite c t e=e:=if_neg h
theorem zip.{u}{c:Prop}{i:Decidable c}(h:c:=by omega){α:Sort u}{t e:α}:ite c t e=t:=if_pos h
theorem du {p:Prop}[i:Decidable p](h:¬p:=by omega):decide p=false:=decide_eq_false h
theorem mh {p:Prop}[i:Decidable p](h:p:=by omega):decide p=true:=decide_eq_true h
theorem af:∀{α:Sort _}(a b:α),(bif false then a else b)=b:= @cond_false
theorem aj:∀{α:Type _}{as bs:ay α},List.length (as++bs)=List.length as+List.length bs:= @List.length_append
theorem ah:∀{α:Sort _}(a b:α),(bif true then a else b)=a:= @cond_true
theorem ab:∀(a b:Bool),((a&&b)=true)=(a=true/\b=true):= @Bool.and_eq_true
theorem ak:(!true)=false:= @Bool.not_true
theorem aA:∀(n:Nat),Int.toNat ↑n=n:= @Int.toNat_natCast
theorem aD:∀{α:Type _}(as bs cs:ay α),as++bs++cs=as++(bs++cs):= @List.append_assoc
theorem aP:∀{α:Type _}{i:Nat}{l:ay α},List.length (List.drop i l)=List.length l-i:= @List.length_drop
theorem bT:∀{n m k:Nat},n<=m->m<=k->n<=k:= @Nat.le_trans
theorem aK:∀{α:Type _}{as:ay α}{i:Nat}{a:α},List.length (List.set as i a)=List.length as:= @List.length_set
theorem aV:∀(n:Nat),n<=n:= @Nat.le_refl
theorem bj:∀{α:Type _}{b:α}(as:ay α){bs:ay α},b∈bs->b∈as++bs:= @List.mem_append_right
theorem bh:(false=true)=False:= @Bool.false_eq_true
theorem bu:∀{α:Type _}(val VN:α),(some val=some VN)=(val=VN):= @Option.some.injEq
theorem aN:∀(b:Bool),((!b)=true)=(b=false):= @Bool.not_eq_true'
theorem aY:∀{α:Type _}{i:Nat}{l:ay α},List.length (List.take i l)=min i (List.length l):= @List.length_take
theorem ax:∀{α:Type _}{a:α}{s t:ay α},a∈s++t↔a∈s\/a∈t:= @List.mem_append
theorem aS:∀{α:Type _}{a:α}{as:ay α},List.length (a::as)=List.length as+1:= @List.length_cons
theorem aR:∀{α:Type _}{a:α}{as:ay α}(bs:ay α),a∈as->a∈as++bs:= @List.mem_append_left
theorem aL:∀{α:Type _}{p:α->Bool}{l:ay α},List.all l p=true↔∀(x:α),x∈l->p x=true:= @List.all_eq_true
theorem bA:∀{α:Type _}(as:ay α),as++[]=as:= @List.append_nil
theorem bV:∀{α:Type _}{i:Nat}{l:ay α}(h:i<List.length l),List.take (i+1) l=List.take i l++[l[i]]:= @List.take_succ_eq_append_getElem
theorem cC:∀{α:Type _}(as:ay α),[]++as=as:= @List.nil_append
theorem bB:∀{α:Type _}{a:α},List.length [a]=1:= @List.length_singleton
theorem bU:∀{α:Type _}{i:Nat}{l:ay α},List.length l<=i->List.take i l=l:= @List.take_of_length_le
theorem bG:∀(b:Bool),(b||b)=b:= @Bool.or_self
theorem cO:∀{n m:Nat}(k:Nat),n<=m->n*k<=m*k:= @Nat.mul_le_mul_right
theorem cz:∀{α:Type _}(i:Nat)(l:ay α),List.take i l++List.drop i l=l:= @List.take_append_drop
theorem bE:∀{α:Type _}{l:ay α}{n:Nat}(h:n<List.length l),l[n]∈l:= @List.getElem_mem
theorem bW:∀(n m:Nat),n<m\/n>=m:= @Nat.lt_or_ge
theorem bF:∀(b:Bool),(true&&b)=b:= @Bool.true_and
theorem ca:∀{α:Type _}{i:Nat}{l:ay α}(h:i<List.length l),List.drop i l=l[i]::List.drop (i+1) l:= @List.drop_eq_getElem_cons
theorem cd:∀(b:Bool),(false||b)=b:= @Bool.false_or
theorem cW:∀(n m k:Nat),(n+m)*k=n*k+m*k:= @Nat.add_mul
theorem bZ:∀{α:Type _}{l:ay α},List.length l=0->l=[]:= @List.eq_nil_of_length_eq_zero
theorem cv:∀{α:Type _}{a:α}{l:ay α}{f:α->Bool},List.all (a::l) f=(f a&&List.all l f):= @List.all_cons
theorem cK:∀(n:Nat),0+n=n:= @Nat.zero_add
theorem cI:∀{α:Type _}{β:Type _}{as:ay α}(f:α->β),List.length (List.map f as)=List.length as:= @List.length_map
theorem cq:∀(n:Nat),0<=n:= @Nat.zero_le
theorem cB:∀{α:Type _}{i:Nat}{l:ay α},List.length l<=i->List.drop i l=[]:= @List.drop_of_length_le
theorem bQ:(!false)=true:= @Bool.not_false
theorem cH:∀(a b:Bool),((a||b)=true)=(a=true\/b=true):= @Bool.or_eq_true
theorem cZ:∀{α:Type _}{β:Type _}{f:α->β}{a:α}{l:ay α},List.map f (a::l)=f a::List.map f l:= @List.map_cons
theorem dJ:∀{α:Type _}{β:Type _}(a:α)(f:α->β),Option.map f (some a)=some (f a):= @Option.map_some
theorem dR:∀(w n:Nat),BitVec.ofInt w ↑n=BitVec.ofNat w n:= @BitVec.ofInt_natCast
theorem cb:∀{α:Type _}{val VN:α},some val=some VN->val=VN:= @Option.some.inj
theorem dN:∀{a b:Bool},a=b↔(a=true↔b=true):= @Bool.eq_iff_iff
theorem dr:∀{a b:Int},0<=a->Int.tmod a b=a%b:= @Int.tmod_eq_emod_of_nonneg
theorem dX:∀(n:Nat),n+0=n:= @Nat.add_zero
theorem cr:∀{α:Sort _}{a b:α},a≠b->b≠a:= @Ne.symm
theorem fH:∀(a:Int){b:Int},0<b->a%b<b:= @Int.emod_lt_of_pos
theorem eJ:∀(x w:Nat),BitVec.toNat (BitVec.ofNat w x)=x%2^w:= @BitVec.toNat_ofNat
theorem eo:∀{α:Type _}{akP akQ:ay (ay α)},List.flatten (akP++akQ)=List.flatten akP++List.flatten akQ:= @List.flatten_append
theorem eR:∀{a b:Nat},a<b->a%b=a:= @Nat.mod_eq_of_lt
theorem eP:∀{α:Type _}{l:ay α},List.drop 0 l=l:= @List.drop_zero
theorem fF:∀(a:Int){b:Int},b≠0->0<=a%b:= @Int.emod_nonneg
theorem fY:∀(n:Nat),1*n=n:= @Nat.one_mul
theorem aW:∀{α:Type _}{b:α}{al1:Type _}{x:aC al1}{f:al1->aC α},Option.bind x f=some b↔∃a,x=some a/\f a=some b:= @Option.bind_eq_some_iff
theorem eO:∀{α:Type _}{i j:Nat}{l:ay α},List.drop i (List.drop j l)=List.drop (j+i) l:= @List.drop_drop
theorem cj:∀{x y:Bool},(x||y)=false↔x=false/\y=false:= @Bool.or_eq_false_iff
theorem cp:∀{α:Type _}{β:Type _}{f:α->β}{Er HQ:ay α},List.map f (Er++HQ)=List.map f Er++List.map f HQ:= @List.map_append
theorem fg:∀{α:Type _}{β:Type _}(a:α)(f:α->aC β),Option.bind (some a) f=f a:= @Option.bind_some
theorem eF:∀{α:Type _}{l:ay α},List.take (List.length l) l=l:= @List.take_length
theorem cY:∀(b:Bool),(b&&b)=b:= @Bool.and_self
theorem fN:∀{α:Type _}{xs ys:Array α},Array.toList xs=Array.toList ys->xs=ys:= @Array.ext'
theorem fV:∀(n m k:Nat),n+m+k=n+(m+k):= @Nat.add_assoc
theorem gy:∀{α:Type _}{a b:α},Option.getD (some a) b=a:= @Option.getD_some
theorem ik:∀(b:Bool),(!!b)=b:= @Bool.not_not
theorem dS:∀{α:Type _}(y:α){a:α}{l:ay α},a∈l->a∈y::l:= @List.mem_cons_of_mem
theorem cw:∀{α:Type _}{b:α}{l:ay α}{a:α},a∈b::l↔a=b\/a∈l:= @List.mem_cons
theorem bn:∀{α:Type _}{a b:α},a∈[b]↔a=b:= @List.mem_singleton
theorem dV:∀(b:Bool),((!b)=false)=(b=true):= @Bool.not_eq_false'
theorem eZ:∀(b:Bool),(false&&b)=false:= @Bool.false_and
theorem iK:∀{n m:Nat},n<=m->Nat.ble n m=true:= @Nat.ble_eq_true_of_le
theorem gk:∀{α:Type _}{x:α}{l:ay α},[x]++l=x::l:= @List.singleton_append
theorem mi:∀(n:Nat),n-n=0:= @Nat.sub_self
theorem iO:∀{a b:Nat},a<b->a≠b:= @Nat.ne_of_lt
theorem cy:∀{m n:Nat},m∈List.range n↔m<n:= @List.mem_range
theorem gO:∀{α:Type _}{a:α}{as bs:ay α},a::as++bs=a::(as++bs):= @List.cons_append
theorem ee:∀(b:Bool),(b&&false)=false:= @Bool.and_false
theorem iX:∀{a b:Nat},a<=b->min a b=a:= @Nat.min_eq_left
theorem jB:∀(p:Prop),(p/\True)=p:= @and_true
theorem gx:∀{α:Type _}{l:ay α},List.drop (List.length l) l=[]:= @List.drop_length
theorem iM:∀(b:Bool),(true||b)=true:= @Bool.true_or
theorem eT:∀(a:Int),a<=a:= @Int.le_refl
theorem jA:∀(b:Bool),(b||true)=true:= @Bool.or_true
theorem nL:∀(n:Nat),n*1=n:= @Nat.mul_one
theorem dp:∀{α:Type _}{β:Type _}{b:β}{f:α->β}{l:ay α},b∈List.map f l↔∃a,a∈l/\f a=b:= @List.mem_map
theorem ja:∀(b:Bool),(b&&true)=b:= @Bool.and_true
theorem aq:∀{p:Prop}[Decidable p],p->decide p=true:= @decide_eq_true
theorem bw:∀{p:Prop}[Decidable p],decide p=true->p:= @of_decide_eq_true
theorem aE:∀{p:Prop}[Decidable p],(decide p=true)=p:= @decide_eq_true_eq
theorem ar:∀{p:Prop}[Decidable p],¬p->decide p=false:= @decide_eq_false
theorem cP:∀{p:Prop}{_:Decidable p},decide p=false↔¬p:= @decide_eq_false_iff_not
theorem aH:∀{c:Prop}{h:Decidable c},¬c->∀{α:Sort _}{t e:α}, @ite α c h t e=e:= @if_neg
theorem aF:∀{c:Prop}{h:Decidable c},c->∀{α:Sort _}{t e:α}, @ite α c h t e=t:= @if_pos
theorem cc:∀{α:Sort _}{_:Decidable True}(t e:α),(if True then t else e)=t:= @if_true
theorem cn:∀{α:Sort _}{_:Decidable False}(t e:α),(if False then t else e)=e:= @if_false
theorem az:∀{a:Int},0<=a->∃n:Nat,a=(n:Int):= @Int.eq_ofNat_of_zero_le
theorem bm:∀{α:Type _}[BEq α][LawfulBEq α]{a b:α},(a==b)=true↔a=b:= @beq_iff_eq
theorem fO:∀{α:Type _}[BEq α][ReflBEq α](a:α),(a==a)=true:= @beq_self_eq_true
theorem cu:∀{α:Type _}[BEq α][LawfulBEq α]{a b:α},(a==b)=false↔a≠b:= @beq_eq_false_iff_ne
theorem dv:∀{α:Type _},List.length ([]:ay α)=0:= @List.length_nil
theorem fX:∀{α:Type _}{a:α}{l:ay α},a∈l->∃(i:Nat)(h:i<l.length),l[i]=a:= @List.getElem_of_mem
theorem aw:∀{α:Type _}{l:ay α}{i:Nat}(h:i<List.length l),l[i]?=some l[i]:= @List.getElem?_eq_getElem
theorem aB:∀{α:Type _}{i:Nat}{a:α}{l:ay α},l[i]?=some a↔∃(h:i<List.length l),l[i]=a:= @List.getElem?_eq_some_iff
theorem aM:∀{α:Type _}{Er HQ:ay α},List.Nodup (Er++HQ)↔List.Nodup Er/\List.Nodup HQ/\∀(a:α),a∈Er->∀(b:α),b∈HQ->a≠b:= @List.nodup_append
theorem aJ:∀{α:Type _}{l:ay α}{i j:Nat},i≠j->∀{a:α},(List.set l i a)[j]?=l[j]?:= @List.getElem?_set_ne
theorem aZ:∀{α:Type _}{l:ay α}{i:Nat}{a:α},l[i]?=some a->a∈l:= @List.mem_of_getElem?
theorem bc:∀{α:Type _}{l:ay α}{i:Nat}{a:α},List.getD l i a=Option.getD l[i]? a:= @List.getD_eq_getElem?_getD
theorem bz:∀{α:Type _}{Er HQ:ay α}{i:Nat},List.length Er<=i->(Er++HQ)[i]?=HQ[i-List.length Er]?:= @List.getElem?_append_right
theorem bM:∀{α:Type _}{l:ay α}{i:Nat},List.length l<=i->l[i]?=none:= @List.getElem?_eq_none
theorem bp:∀{α:Type _}{Er HQ:ay α}{i:Nat},i<List.length Er->(Er++HQ)[i]?=Er[i]?:= @List.getElem?_append_left
theorem bH:∀{α:Type _}{l:ay α}{i j:Nat}{a:α},(List.set l i a)[j]?=if i=j then if i<List.length l then some a else none else l[j]?:= @List.getElem?_set
theorem bK:∀{α:Type _}{xs:ay α}{i j:Nat},(List.drop i xs)[j]?=xs[i+j]?:= @List.getElem?_drop
theorem bD:∀{α:Type _}{l:ay α}{i:Nat}{a:α},i<List.length l->(List.set l i a)[i]?=some a:= @List.getElem?_set_self
theorem cM:∀{α:Type _}{a:α}{l:ay α},(a::l)[0]?=some a:= @List.getElem?_cons_zero
theorem fG:∀{α:Type _}{a:α}{i:Nat}{l:ay α},(a::l)[i+1]?=l[i]?:= @List.getElem?_cons_succ
theorem cG:∀{α:Type _}{xs:Array α}{i:Nat},(Array.toList xs)[i]?=xs[i]?:= @Array.getElem?_toList
theorem dh:∀{α:Type _}{Er HQ:ay α},(∀(i:Nat),Er[i]?=HQ[i]?)->Er=HQ:= @List.ext_getElem?
theorem dI:∀{α:Type _}{a:α}{l:ay α},List.Nodup (a::l)↔¬a∈l/\List.Nodup l:= @List.nodup_cons
theorem dW:∀{α:Type _}{l:ay α}{i j:Nat},(List.take i l)[j]?=if j<i then l[j]? else none:= @List.getElem?_take
theorem dE:∀{α:Type _}{l:ay α}{i j:Nat},i<j->(List.take j l)[i]?=l[i]?:= @List.getElem?_take_of_lt
theorem dQ:∀{α:Type _}{xs:Array α}{i:Nat}{d:α},Array.getD xs i d=Option.getD xs[i]? d:= @Array.getD_eq_getD_getElem?
theorem eD:∀{n:Nat}{α:Type _}{a:α}{i:Nat},(List.replicate n a)[i]?=if i<n then some a else none:= @List.getElem?_replicate
theorem fI:∀{p:Prop}[Decidable p],decide p=false->¬p:= @of_decide_eq_false
end Go
