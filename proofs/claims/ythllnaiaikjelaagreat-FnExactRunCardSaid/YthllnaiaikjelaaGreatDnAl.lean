import GoSem.Core.Sem
import GoSem.Dispatch
import Derived.KernelRfl
/- Short names for lemmas that are used often. -/
namespace Go
abbrev ar.{u}(α:Type u):Type u:=List α
abbrev au.{u}(α:Type u):Type u:=Option α
theorem bF:True:=trivial
abbrev gv (x:Int):BitVec (IntKind.bits .i64):=BitVec.ofInt (IntKind.bits .i64) x
abbrev vH (x:Int):Nat:=min (Int.toNat x) (IntKind.bits .i64)
abbrev Ro:Int×Int×Int×Int×Int×Int×Int×Int×Int×Int×Int×Int×Int×Int×Int×List UInt8:=(0,0,0,0,0,0,0,0,0,0,0,0,0,0,0,[])
abbrev cI:Type:=ar Int
abbrev ei:Type:=ar Nat
abbrev bp:Type:=List (List UInt8)
abbrev kl:Type:=Int×Int×Int×Int
abbrev Cx:Type:=Int×Int×Int
abbrev IY:Type:=Int×Int×Int×Int×Int×Int
abbrev K5:Type:=Int×Int×Int×Int×Int
abbrev iW:Type:=List Value
theorem ny.{u}{c:Prop}{i:Decidable c}(h:¬c:=by omega){α:Sort u}{t e:α}:ite c t e=e:=if_neg h
theorem zip.{u}{c:Prop}{i:Decidable c}(h:c:=by omega){α:Sort u}{t e:α}:ite c t e=t:=if_pos h
theorem fG {p:Prop}[i:Decidable p](h:¬p:=by omega):decide p=false:=decide_eq_false h
theorem gL {p:Prop}[i:Decidable p](h:p:=by omega):decide p=true:=decide_eq_true h
theorem ae:∀{α:Sort _}(a b:α),(bif false then a else b)=b:= @cond_false
theorem ay:∀{α:Type _}{as bs:ar α},List.length (as++bs)=List.length as+List.length bs:= @List.length_append
theorem af:∀{α:Sort _}(a b:α),(bif true then a else b)=a:= @cond_true
theorem ah:∀(a b:Bool),((a&&b)=true)=(a=true/\b=true):= @Bool.and_eq_true
theorem ai:(!true)=false:= @Bool.not_true
theorem aw:∀(n:Nat),Int.toNat ↑n=n:= @Int.toNat_natCast
theorem aX:∀{α:Type _}(as bs cs:ar α),as++bs++cs=as++(bs++cs):= @List.append_assoc
theorem bl:∀{α:Type _}{i:Nat}{l:ar α},List.length (List.drop i l)=List.length l-i:= @List.length_drop
theorem aF:∀{n m k:Nat},n<=m->m<=k->n<=k:= @Nat.le_trans
theorem aL:∀{α:Type _}{as:ar α}{i:Nat}{a:α},List.length (List.set as i a)=List.length as:= @List.length_set
theorem ba:∀(n:Nat),n<=n:= @Nat.le_refl
theorem bh:∀{α:Type _}{b:α}(as:ar α){bs:ar α},b∈bs->b∈as++bs:= @List.mem_append_right
theorem bg:(false=true)=False:= @Bool.false_eq_true
theorem bf:∀{α:Type _}(val aeH:α),(some val=some aeH)=(val=aeH):= @Option.some.injEq
theorem aW:∀(b:Bool),((!b)=true)=(b=false):= @Bool.not_eq_true'
theorem bm:∀{α:Type _}{i:Nat}{l:ar α},List.length (List.take i l)=min i (List.length l):= @List.length_take
theorem aA:∀{α:Type _}{a:α}{s t:ar α},a∈s++t↔a∈s\/a∈t:= @List.mem_append
theorem bJ:∀{α:Type _}{a:α}{as:ar α},List.length (a::as)=List.length as+1:= @List.length_cons
theorem br:∀{α:Type _}{a:α}{as:ar α}(bs:ar α),a∈as->a∈as++bs:= @List.mem_append_left
theorem aP:∀{α:Type _}{p:α->Bool}{l:ar α},List.all l p=true↔∀(x:α),x∈l->p x=true:= @List.all_eq_true
theorem bD:∀{α:Type _}(as:ar α),as++[]=as:= @List.append_nil
theorem aO:∀{α:Type _}{i:Nat}{l:ar α}(h:i<List.length l),List.take (i+1) l=List.take i l++[l[i]]:= @List.take_succ_eq_append_getElem
theorem bH:∀{α:Type _}(as:ar α),[]++as=as:= @List.nil_append
theorem aS:∀{α:Type _}{a:α},List.length [a]=1:= @List.length_singleton
theorem bN:∀{α:Type _}{i:Nat}{l:ar α},List.length l<=i->List.take i l=l:= @List.take_of_length_le
theorem bO:∀(b:Bool),(b||b)=b:= @Bool.or_self
theorem cD:∀{n m:Nat}(k:Nat),n<=m->n*k<=m*k:= @Nat.mul_le_mul_right
theorem cK:∀{α:Type _}(i:Nat)(l:ar α),List.take i l++List.drop i l=l:= @List.take_append_drop
theorem aE:∀{α:Type _}{l:ar α}{n:Nat}(h:n<List.length l),l[n]∈l:= @List.getElem_mem
theorem bS:∀(n m:Nat),n<m\/n>=m:= @Nat.lt_or_ge
theorem bj:∀(b:Bool),(true&&b)=b:= @Bool.true_and
theorem cg:∀{α:Type _}{i:Nat}{l:ar α}(h:i<List.length l),List.drop i l=l[i]::List.drop (i+1) l:= @List.drop_eq_getElem_cons
theorem dJ:∀(a b c:Int),a+b+c=a+(b+c):= @Int.add_assoc
theorem cC:∀(b:Bool),(false||b)=b:= @Bool.false_or
theorem cx:∀(n m k:Nat),(n+m)*k=n*k+m*k:= @Nat.add_mul
theorem cQ:∀{α:Type _}{l:ar α},List.length l=0->l=[]:= @List.eq_nil_of_length_eq_zero
theorem bV:∀{α:Type _}{a:α}{l:ar α}{f:α->Bool},List.all (a::l) f=(f a&&List.all l f):= @List.all_cons
theorem cv:∀(n:Nat),0+n=n:= @Nat.zero_add
theorem bW:∀{α:Type _}{β:Type _}{as:ar α}(f:α->β),List.length (List.map f as)=List.length as:= @List.length_map
theorem eh:∀(n:Nat),0<=n:= @Nat.zero_le
theorem dk:∀{α:Type _}{i:Nat}{l:ar α},List.length l<=i->List.drop i l=[]:= @List.drop_of_length_le
theorem bB:(!false)=true:= @Bool.not_false
theorem dA:∀(a b:Bool),((a||b)=true)=(a=true\/b=true):= @Bool.or_eq_true
theorem ew:∀{α:Type _}{β:Type _}{f:α->β}{a:α}{l:ar α},List.map f (a::l)=f a::List.map f l:= @List.map_cons
theorem dB:∀{α:Type _}{β:Type _}(a:α)(f:α->β),Option.map f (some a)=some (f a):= @Option.map_some
theorem cY:∀{α:Type _}{val aeH:α},some val=some aeH->val=aeH:= @Option.some.inj
theorem dU:∀{a b:Bool},a=b↔(a=true↔b=true):= @Bool.eq_iff_iff
theorem fu:∀{a b:Int},0<=a->Int.tmod a b=a%b:= @Int.tmod_eq_emod_of_nonneg
theorem dZ:∀(n:Nat),n+0=n:= @Nat.add_zero
theorem cX:∀{α:Sort _}{a b:α},a≠b->b≠a:= @Ne.symm
theorem gG:∀(a:Int){b:Int},0<b->a%b<b:= @Int.emod_lt_of_pos
theorem eE:∀{α:Type _}{are arf:ar (ar α)},List.flatten (are++arf)=List.flatten are++List.flatten arf:= @List.flatten_append
theorem fJ:∀{α:Type _}{l:ar α},List.drop 0 l=l:= @List.drop_zero
theorem eH:∀(n:Nat),1*n=n:= @Nat.one_mul
theorem aY:∀{α:Type _}{b:α}{asb:Type _}{x:au asb}{f:asb->au α},Option.bind x f=some b↔∃a,x=some a/\f a=some b:= @Option.bind_eq_some_iff
theorem eO:∀{α:Type _}{i j:Nat}{l:ar α},List.drop i (List.drop j l)=List.drop (j+i) l:= @List.drop_drop
theorem dy:∀{x y:Bool},(x||y)=false↔x=false/\y=false:= @Bool.or_eq_false_iff
theorem eu:∀{α:Type _}{β:Type _}{f:α->β}{MA Qy:ar α},List.map f (MA++Qy)=List.map f MA++List.map f Qy:= @List.map_append
theorem eV:∀{α:Type _}{β:Type _}(a:α)(f:α->au β),Option.bind (some a) f=f a:= @Option.bind_some
theorem bA:∀{α:Type _}{l:ar α},List.take (List.length l) l=l:= @List.take_length
theorem dF:∀{α:Type _}(a:α){b:α}{l:ar α}{i:Nat},List.set (List.set l i a) i b=List.set l i b:= @List.set_set
theorem cB:∀(b:Bool),(b&&b)=b:= @Bool.and_self
theorem eQ:∀{α:Type _}{xs ys:Array α},Array.toList xs=Array.toList ys->xs=ys:= @Array.ext'
theorem fZ:∀(n m k:Nat),n+m+k=n+(m+k):= @Nat.add_assoc
theorem fY:∀{n m:Nat},n=m->n<=m:= @Nat.le_of_eq
theorem fU:∀{α:Type _}{a b:α},Option.getD (some a) b=a:= @Option.getD_some
theorem lv:∀(b:Bool),(!!b)=b:= @Bool.not_not
theorem dK:∀{α:Type _}(y:α){a:α}{l:ar α},a∈l->a∈y::l:= @List.mem_cons_of_mem
theorem cq:∀{α:Type _}{b:α}{l:ar α}{a:α},a∈b::l↔a=b\/a∈l:= @List.mem_cons
theorem dC:∀{α:Type _}{a b:α},a∈[b]↔a=b:= @List.mem_singleton
theorem ef:∀(b:Bool),((!b)=false)=(b=true):= @Bool.not_eq_false'
theorem gN:∀(b:Bool),(false&&b)=false:= @Bool.false_and
theorem iL:∀{n m:Nat},n<=m->Nat.ble n m=true:= @Nat.ble_eq_true_of_le
theorem hZ:∀(n:Nat),n-n=0:= @Nat.sub_self
theorem iO:∀{a b:Nat},a<b->a≠b:= @Nat.ne_of_lt
theorem bU:∀{m n:Nat},m∈List.range n↔m<n:= @List.mem_range
theorem la:∀(b:Bool),(b&&false)=false:= @Bool.and_false
theorem hG:∀{a b:Nat},a<=b->min a b=a:= @Nat.min_eq_left
theorem iX:∀(p:Prop),(p/\True)=p:= @and_true
theorem jB:∀(b:Bool),(true||b)=true:= @Bool.true_or
theorem iH:∀{n m k:Nat},n<m->m<=k->n<k:= @Nat.lt_of_lt_of_le
theorem jA:∀(b:Bool),(b||true)=true:= @Bool.or_true
theorem jw:∀{a b:Nat},b<=a->min a b=b:= @Nat.min_eq_right
theorem pP:∀(n:Nat),¬n<n:= @Nat.lt_irrefl
theorem pQ:∀(n:Nat),n*1=n:= @Nat.mul_one
theorem gw:∀(b:Bool),(b&&true)=b:= @Bool.and_true
theorem ax:∀{p:Prop}[Decidable p],p->decide p=true:= @decide_eq_true
theorem iY:∀{p:Prop}[Decidable p],decide p=true->p:= @of_decide_eq_true
theorem bK:∀{p:Prop}[Decidable p],(decide p=true)=p:= @decide_eq_true_eq
theorem aq:∀{p:Prop}[Decidable p],¬p->decide p=false:= @decide_eq_false
theorem cM:∀{p:Prop}{_:Decidable p},decide p=false↔¬p:= @decide_eq_false_iff_not
theorem aK:∀{c:Prop}{h:Decidable c},¬c->∀{α:Sort _}{t e:α}, @ite α c h t e=e:= @if_neg
theorem aM:∀{c:Prop}{h:Decidable c},c->∀{α:Sort _}{t e:α}, @ite α c h t e=t:= @if_pos
theorem cd:∀{α:Sort _}{_:Decidable True}(t e:α),(if True then t else e)=t:= @if_true
theorem cE:∀{α:Sort _}{_:Decidable False}(t e:α),(if False then t else e)=e:= @if_false
theorem aD:∀{a:Int},0<=a->∃n:Nat,a=(n:Int):= @Int.eq_ofNat_of_zero_le
theorem dg:∀(n m:Nat),((n+m:Nat):Int)=(n:Int)+(m:Int):= @Int.natCast_add
theorem dh:((1:Nat):Int)=(1:Int):= @Int.natCast_one
theorem bn:∀{α:Type _}[BEq α][LawfulBEq α]{a b:α},(a==b)=true↔a=b:= @beq_iff_eq
theorem gC:∀{α:Type _}[BEq α][ReflBEq α](a:α),(a==a)=true:= @beq_self_eq_true
theorem cz:∀{α:Type _}[BEq α][LawfulBEq α]{a b:α},(a==b)=false↔a≠b:= @beq_eq_false_iff_ne
theorem eo:∀{α:Type _},List.length ([]:ar α)=0:= @List.length_nil
theorem al:∀{α:Type _}{l:ar α}{i:Nat}(h:i<List.length l),l[i]?=some l[i]:= @List.getElem?_eq_getElem
theorem aJ:∀{α:Type _}{i:Nat}{a:α}{l:ar α},l[i]?=some a↔∃(h:i<List.length l),l[i]=a:= @List.getElem?_eq_some_iff
theorem aG:∀{α:Type _}{MA Qy:ar α},List.Nodup (MA++Qy)↔List.Nodup MA/\List.Nodup Qy/\∀(a:α),a∈MA->∀(b:α),b∈Qy->a≠b:= @List.nodup_append
theorem aZ:∀{α:Type _}{l:ar α}{i j:Nat},i≠j->∀{a:α},(List.set l i a)[j]?=l[j]?:= @List.getElem?_set_ne
theorem bM:∀{α:Type _}{l:ar α}{i:Nat}{a:α},l[i]?=some a->a∈l:= @List.mem_of_getElem?
theorem bw:∀{α:Type _}{MA Qy:ar α}{i:Nat},List.length MA<=i->(MA++Qy)[i]?=Qy[i-List.length MA]?:= @List.getElem?_append_right
theorem bL:∀{α:Type _}{l:ar α}{i:Nat},List.length l<=i->l[i]?=none:= @List.getElem?_eq_none
theorem bI:∀{α:Type _}{MA Qy:ar α}{i:Nat},i<List.length MA->(MA++Qy)[i]?=MA[i]?:= @List.getElem?_append_left
theorem bu:∀{α:Type _}{l:ar α}{i j:Nat}{a:α},(List.set l i a)[j]?=if i=j then if i<List.length l then some a else none else l[j]?:= @List.getElem?_set
theorem bR:∀{α:Type _}{xs:ar α}{i j:Nat},(List.drop i xs)[j]?=xs[i+j]?:= @List.getElem?_drop
theorem eR:∀{α:Type _}{l:ar α}{i:Nat}{a b:α},a∈List.set l i b->a∈l\/a=b:= @List.mem_or_eq_of_mem_set
theorem cL:∀{α:Type _}{a:α}{l:ar α},(a::l)[0]?=some a:= @List.getElem?_cons_zero
theorem fg:∀{α:Type _}{a:α}{i:Nat}{l:ar α},(a::l)[i+1]?=l[i]?:= @List.getElem?_cons_succ
theorem cp:∀{α:Type _}{xs:Array α}{i:Nat},(Array.toList xs)[i]?=xs[i]?:= @Array.getElem?_toList
theorem cW:∀{α:Type _}{MA Qy:ar α},(∀(i:Nat),MA[i]?=Qy[i]?)->MA=Qy:= @List.ext_getElem?
theorem di:∀{α:Type _}{a:α}{l:ar α},List.Nodup (a::l)↔¬a∈l/\List.Nodup l:= @List.nodup_cons
theorem dp:∀{α:Type _}{l:ar α}{i j:Nat},(List.take i l)[j]?=if j<i then l[j]? else none:= @List.getElem?_take
theorem eX:∀{α:Type _}{l:ar α}{i j:Nat},i<j->(List.take j l)[i]?=l[i]?:= @List.getElem?_take_of_lt
theorem db:∀{α:Type _}{xs:Array α}{i:Nat}{d:α},Array.getD xs i d=Option.getD xs[i]? d:= @Array.getD_eq_getD_getElem?
theorem dE:∀{n:Nat}{α:Type _}{a:α}{i:Nat},(List.replicate n a)[i]?=if i<n then some a else none:= @List.getElem?_replicate
theorem iI:∀{p:Prop}[Decidable p],decide p=false->¬p:= @of_decide_eq_false
end Go
