import GoSem.Core.Sem
import GoSem.Dispatch
import Derived.KernelRfl
/- Short names for lemmas that are used often. -/
namespace Go
abbrev aw.{u}(α:Type u):Type u:=List α
abbrev aB.{u}(α:Type u):Type u:=Option α
theorem cG:True:=trivial
abbrev iR (x:Int):BitVec (IntKind.bits .i64):=BitVec.ofInt (IntKind.bits .i64) x
abbrev rX (x:Int):Nat:=min (Int.toNat x) (IntKind.bits .i64)
abbrev OJ:Int×Int×Int×Int×Int×Int×Int×Int×Int×Int×Int×Int×Int×Int×Int×List UInt8:=(0,0,0,0,0,0,0,0,0,0,0,0,0,0,0,[])
abbrev cc:Type:=aw Int
abbrev fM:Type:=aw Nat
abbrev bO:Type:=List (List UInt8)
abbrev lZ:Type:=Int×Int×Int×Int
abbrev uW:Type:=Int×Int×Int
abbrev FW:Type:=Int×Int×Int×Int×Int×Int
abbrev Iv:Type:=Int×Int×Int×Int×Int
abbrev jJ:Type:=List Value
theorem lI.{u}{c:Prop}{i:Decidable c}(h:¬c:=by omega){α:Sort u}{t e:α}:ite c t e=e:=if_neg h
theorem zip.{u}{c:Prop}{i:Decidable c}(h:c:=by omega){α:Sort u}{t e:α}:ite c t e=t:=if_pos h
theorem cL {p:Prop}[i:Decidable p](h:¬p:=by omega):decide p=false:=decide_eq_false h
theorem jP {p:Prop}[i:Decidable p](h:p:=by omega):decide p=true:=decide_eq_true h
theorem af:∀{α:Sort _}(a b:α),(bif false then a else b)=b:= @cond_false
theorem ai:∀{α:Type _}{as bs:aw α},List.length (as++bs)=List.length as+List.length bs:= @List.length_append
theorem ah:∀{α:Sort _}(a b:α),(bif true then a else b)=a:= @cond_true
theorem ae:∀(a b:Bool),((a&&b)=true)=(a=true/\b=true):= @Bool.and_eq_true
theorem aj:(!true)=false:= @Bool.not_true
theorem au:∀(n:Nat),Int.toNat ↑n=n:= @Int.toNat_natCast
theorem aR:∀{α:Type _}(as bs cs:aw α),as++bs++cs=as++(bs++cs):= @List.append_assoc
theorem aM:∀{α:Type _}{i:Nat}{l:aw α},List.length (List.drop i l)=List.length l-i:= @List.length_drop
theorem bq:∀{n m k:Nat},n<=m->m<=k->n<=k:= @Nat.le_trans
theorem az:∀{α:Type _}{as:aw α}{i:Nat}{a:α},List.length (List.set as i a)=List.length as:= @List.length_set
theorem bc:∀(n:Nat),n<=n:= @Nat.le_refl
theorem bz:∀{α:Type _}{b:α}(as:aw α){bs:aw α},b∈bs->b∈as++bs:= @List.mem_append_right
theorem bm:(false=true)=False:= @Bool.false_eq_true
theorem bu:∀{α:Type _}(val abv:α),(some val=some abv)=(val=abv):= @Option.some.injEq
theorem aO:∀(b:Bool),((!b)=true)=(b=false):= @Bool.not_eq_true'
theorem aV:∀{α:Type _}{i:Nat}{l:aw α},List.length (List.take i l)=min i (List.length l):= @List.length_take
theorem aA:∀{α:Type _}{a:α}{s t:aw α},a∈s++t↔a∈s\/a∈t:= @List.mem_append
theorem aP:∀{α:Type _}{a:α}{as:aw α},List.length (a::as)=List.length as+1:= @List.length_cons
theorem bH:∀{α:Type _}{a:α}{as:aw α}(bs:aw α),a∈as->a∈as++bs:= @List.mem_append_left
theorem aF:∀{α:Type _}{p:α->Bool}{l:aw α},List.all l p=true↔∀(x:α),x∈l->p x=true:= @List.all_eq_true
theorem bD:∀{α:Type _}(as:aw α),as++[]=as:= @List.append_nil
theorem bl:∀{α:Type _}{i:Nat}{l:aw α}(h:i<List.length l),List.take (i+1) l=List.take i l++[l[i]]:= @List.take_succ_eq_append_getElem
theorem cv:∀{α:Type _}(as:aw α),[]++as=as:= @List.nil_append
theorem aY:∀{α:Type _}{a:α},List.length [a]=1:= @List.length_singleton
theorem ca:∀{α:Type _}{i:Nat}{l:aw α},List.length l<=i->List.take i l=l:= @List.take_of_length_le
theorem cu:∀(b:Bool),(b||b)=b:= @Bool.or_self
theorem de:∀{n m:Nat}(k:Nat),n<=m->n*k<=m*k:= @Nat.mul_le_mul_right
theorem cR:∀{α:Type _}(i:Nat)(l:aw α),List.take i l++List.drop i l=l:= @List.take_append_drop
theorem aK:∀{α:Type _}{l:aw α}{n:Nat}(h:n<List.length l),l[n]∈l:= @List.getElem_mem
theorem cg:∀(n m:Nat),n<m\/n>=m:= @Nat.lt_or_ge
theorem bt:∀(b:Bool),(true&&b)=b:= @Bool.true_and
theorem bW:∀{α:Type _}{i:Nat}{l:aw α}(h:i<List.length l),List.drop i l=l[i]::List.drop (i+1) l:= @List.drop_eq_getElem_cons
theorem cJ:∀(b:Bool),(false||b)=b:= @Bool.false_or
theorem dk:∀(n m k:Nat),(n+m)*k=n*k+m*k:= @Nat.add_mul
theorem cr:∀{α:Type _}{l:aw α},List.length l=0->l=[]:= @List.eq_nil_of_length_eq_zero
theorem cz:∀{α:Type _}{a:α}{l:aw α}{f:α->Bool},List.all (a::l) f=(f a&&List.all l f):= @List.all_cons
theorem cE:∀(n:Nat),0+n=n:= @Nat.zero_add
theorem bF:∀{α:Type _}{β:Type _}{as:aw α}(f:α->β),List.length (List.map f as)=List.length as:= @List.length_map
theorem cd:∀(n:Nat),0<=n:= @Nat.zero_le
theorem cI:∀{α:Type _}{i:Nat}{l:aw α},List.length l<=i->List.drop i l=[]:= @List.drop_of_length_le
theorem bE:(!false)=true:= @Bool.not_false
theorem cY:∀(a b:Bool),((a||b)=true)=(a=true\/b=true):= @Bool.or_eq_true
theorem dm:∀{α:Type _}{β:Type _}{f:α->β}{a:α}{l:aw α},List.map f (a::l)=f a::List.map f l:= @List.map_cons
theorem dP:∀{α:Type _}{β:Type _}(a:α)(f:α->β),Option.map f (some a)=some (f a):= @Option.map_some
theorem eE:∀(w n:Nat),BitVec.ofInt w ↑n=BitVec.ofNat w n:= @BitVec.ofInt_natCast
theorem bP:∀{α:Type _}{val abv:α},some val=some abv->val=abv:= @Option.some.inj
theorem cQ:∀{a b:Bool},a=b↔(a=true↔b=true):= @Bool.eq_iff_iff
theorem dR:∀{a b:Int},0<=a->Int.tmod a b=a%b:= @Int.tmod_eq_emod_of_nonneg
theorem dX:∀(n:Nat),n+0=n:= @Nat.add_zero
theorem cl:∀{α:Sort _}{a b:α},a≠b->b≠a:= @Ne.symm
theorem fY:∀(a:Int){b:Int},0<b->a%b<b:= @Int.emod_lt_of_pos
theorem eZ:∀(x w:Nat),BitVec.toNat (BitVec.ofNat w x)=x%2^w:= @BitVec.toNat_ofNat
theorem eO:∀{α:Type _}{arY arZ:aw (aw α)},List.flatten (arY++arZ)=List.flatten arY++List.flatten arZ:= @List.flatten_append
theorem fi:∀{a b:Nat},a<b->a%b=a:= @Nat.mod_eq_of_lt
theorem fQ:∀{α:Type _}{l:aw α},List.drop 0 l=l:= @List.drop_zero
theorem fV:∀(a:Int){b:Int},b≠0->0<=a%b:= @Int.emod_nonneg
theorem gx:∀(n:Nat),1*n=n:= @Nat.one_mul
theorem ba:∀{α:Type _}{b:α}{atg:Type _}{x:aB atg}{f:atg->aB α},Option.bind x f=some b↔∃a,x=some a/\f a=some b:= @Option.bind_eq_some_iff
theorem fP:∀{α:Type _}{i j:Nat}{l:aw α},List.drop i (List.drop j l)=List.drop (j+i) l:= @List.drop_drop
theorem cA:∀{x y:Bool},(x||y)=false↔x=false/\y=false:= @Bool.or_eq_false_iff
theorem cZ:∀{α:Type _}{β:Type _}{f:α->β}{G6 Lb:aw α},List.map f (G6++Lb)=List.map f G6++List.map f Lb:= @List.map_append
theorem fF:∀{α:Type _}{β:Type _}(a:α)(f:α->aB β),Option.bind (some a) f=f a:= @Option.bind_some
theorem cO:∀{α:Type _}{l:aw α},List.take (List.length l) l=l:= @List.take_length
theorem cq:∀(b:Bool),(b&&b)=b:= @Bool.and_self
theorem gj:∀{α:Type _}{xs ys:Array α},Array.toList xs=Array.toList ys->xs=ys:= @Array.ext'
theorem gv:∀(n m k:Nat),n+m+k=n+(m+k):= @Nat.add_assoc
theorem dY:∀{α:Type _}{β:Type _}{a:α}{l:aw α}{f:β->α->β}{b:β},List.foldl f b (a::l)=List.foldl f (f b a) l:= @List.foldl_cons
theorem gO:∀{α:Type _}{a b:α},Option.getD (some a) b=a:= @Option.getD_some
theorem gP:∀(b:Bool),(!!b)=b:= @Bool.not_not
theorem fB:∀{α:Type _}(y:α){a:α}{l:aw α},a∈l->a∈y::l:= @List.mem_cons_of_mem
theorem bU:∀{α:Type _}{b:α}{l:aw α}{a:α},a∈b::l↔a=b\/a∈l:= @List.mem_cons
theorem br:∀{α:Type _}{a b:α},a∈[b]↔a=b:= @List.mem_singleton
theorem eF:∀(b:Bool),((!b)=false)=(b=true):= @Bool.not_eq_false'
theorem eo:∀(b:Bool),(false&&b)=false:= @Bool.false_and
theorem iY:∀{n m:Nat},n<=m->Nat.ble n m=true:= @Nat.ble_eq_true_of_le
theorem gC:∀{α:Type _}{x:α}{l:aw α},[x]++l=x::l:= @List.singleton_append
theorem iC:∀(n:Nat),n-n=0:= @Nat.sub_self
theorem jf:∀{a b:Nat},a<b->a≠b:= @Nat.ne_of_lt
theorem bG:∀{m n:Nat},m∈List.range n↔m<n:= @List.mem_range
theorem eM:∀(b:Bool),(b&&false)=false:= @Bool.and_false
theorem jk:∀{a b:Nat},a<=b->min a b=a:= @Nat.min_eq_left
theorem jK:∀(p:Prop),(p/\True)=p:= @and_true
theorem gN:∀{α:Type _}{l:aw α},List.drop (List.length l) l=[]:= @List.drop_length
theorem je:∀(b:Bool),(true||b)=true:= @Bool.true_or
theorem iz:∀{n:Nat},List.range (Nat.succ n)=List.range n++[n]:= @List.range_succ
theorem cU:∀(a:Int),a<=a:= @Int.le_refl
theorem jd:∀(b:Bool),(b||true)=true:= @Bool.or_true
theorem oS:∀(n:Nat),n*1=n:= @Nat.mul_one
theorem dB:∀{α:Type _}{β:Type _}{b:β}{f:α->β}{l:aw α},b∈List.map f l↔∃a,a∈l/\f a=b:= @List.mem_map
theorem gQ:∀(b:Bool),(b&&true)=b:= @Bool.and_true
theorem ax:∀{p:Prop}[Decidable p],p->decide p=true:= @decide_eq_true
theorem bA:∀{p:Prop}[Decidable p],decide p=true->p:= @of_decide_eq_true
theorem aJ:∀{p:Prop}[Decidable p],(decide p=true)=p:= @decide_eq_true_eq
theorem aq:∀{p:Prop}[Decidable p],¬p->decide p=false:= @decide_eq_false
theorem df:∀{p:Prop}{_:Decidable p},decide p=false↔¬p:= @decide_eq_false_iff_not
theorem aG:∀{c:Prop}{h:Decidable c},¬c->∀{α:Sort _}{t e:α}, @ite α c h t e=e:= @if_neg
theorem aH:∀{c:Prop}{h:Decidable c},c->∀{α:Sort _}{t e:α}, @ite α c h t e=t:= @if_pos
theorem cw:∀{α:Sort _}{_:Decidable True}(t e:α),(if True then t else e)=t:= @if_true
theorem cC:∀{α:Sort _}{_:Decidable False}(t e:α),(if False then t else e)=e:= @if_false
theorem aD:∀{a:Int},0<=a->∃n:Nat,a=(n:Int):= @Int.eq_ofNat_of_zero_le
theorem bn:∀{α:Type _}[BEq α][LawfulBEq α]{a b:α},(a==b)=true↔a=b:= @beq_iff_eq
theorem fG:∀{α:Type _}[BEq α][ReflBEq α](a:α),(a==a)=true:= @beq_self_eq_true
theorem bM:∀{α:Type _}[BEq α][LawfulBEq α]{a b:α},(a==b)=false↔a≠b:= @beq_eq_false_iff_ne
theorem dZ:∀{α:Type _},List.length ([]:aw α)=0:= @List.length_nil
theorem gw:∀{α:Type _}{a:α}{l:aw α},a∈l->∃(i:Nat)(h:i<l.length),l[i]=a:= @List.getElem_of_mem
theorem al:∀{α:Type _}{l:aw α}{i:Nat}(h:i<List.length l),l[i]?=some l[i]:= @List.getElem?_eq_getElem
theorem ay:∀{α:Type _}{i:Nat}{a:α}{l:aw α},l[i]?=some a↔∃(h:i<List.length l),l[i]=a:= @List.getElem?_eq_some_iff
theorem aS:∀{α:Type _}{G6 Lb:aw α},List.Nodup (G6++Lb)↔List.Nodup G6/\List.Nodup Lb/\∀(a:α),a∈G6->∀(b:α),b∈Lb->a≠b:= @List.nodup_append
theorem aE:∀{α:Type _}{l:aw α}{i j:Nat},i≠j->∀{a:α},(List.set l i a)[j]?=l[j]?:= @List.getElem?_set_ne
theorem aL:∀{α:Type _}{l:aw α}{i:Nat}{a:α},l[i]?=some a->a∈l:= @List.mem_of_getElem?
theorem aW:∀{α:Type _}{l:aw α}{i:Nat}{a:α},List.getD l i a=Option.getD l[i]? a:= @List.getD_eq_getElem?_getD
theorem bw:∀{α:Type _}{G6 Lb:aw α}{i:Nat},List.length G6<=i->(G6++Lb)[i]?=Lb[i-List.length G6]?:= @List.getElem?_append_right
theorem bI:∀{α:Type _}{l:aw α}{i:Nat},List.length l<=i->l[i]?=none:= @List.getElem?_eq_none
theorem bp:∀{α:Type _}{G6 Lb:aw α}{i:Nat},i<List.length G6->(G6++Lb)[i]?=G6[i]?:= @List.getElem?_append_left
theorem bJ:∀{α:Type _}{l:aw α}{i j:Nat}{a:α},(List.set l i a)[j]?=if i=j then if i<List.length l then some a else none else l[j]?:= @List.getElem?_set
theorem bR:∀{α:Type _}{xs:aw α}{i j:Nat},(List.drop i xs)[j]?=xs[i+j]?:= @List.getElem?_drop
theorem cK:∀{α:Type _}{l:aw α}{i:Nat}{a b:α},a∈List.set l i b->a∈l\/a=b:= @List.mem_or_eq_of_mem_set
theorem bf:∀{α:Type _}{l:aw α}{i:Nat}{a:α},i<List.length l->(List.set l i a)[i]?=some a:= @List.getElem?_set_self
theorem cM:∀{α:Type _}{a:α}{l:aw α},(a::l)[0]?=some a:= @List.getElem?_cons_zero
theorem fW:∀{α:Type _}{a:α}{i:Nat}{l:aw α},(a::l)[i+1]?=l[i]?:= @List.getElem?_cons_succ
theorem cP:∀{α:Type _}{xs:Array α}{i:Nat},(Array.toList xs)[i]?=xs[i]?:= @Array.getElem?_toList
theorem dj:∀{α:Type _}{G6 Lb:aw α},(∀(i:Nat),G6[i]?=Lb[i]?)->G6=Lb:= @List.ext_getElem?
theorem dN:∀{α:Type _}{a:α}{l:aw α},List.Nodup (a::l)↔¬a∈l/\List.Nodup l:= @List.nodup_cons
theorem eG:∀{α:Type _}{l:aw α}{i j:Nat},(List.take i l)[j]?=if j<i then l[j]? else none:= @List.getElem?_take
theorem dL:∀{α:Type _}{l:aw α}{i j:Nat},i<j->(List.take j l)[i]?=l[i]?:= @List.getElem?_take_of_lt
theorem eD:∀{α:Type _}{xs:Array α}{i:Nat}{d:α},Array.getD xs i d=Option.getD xs[i]? d:= @Array.getD_eq_getD_getElem?
theorem gu:∀{α:Type _}[Add α][Zero α]{a:α}{l:aw α},List.sum (a::l)=a+List.sum l:= @List.sum_cons
theorem eP:∀{n:Nat}{α:Type _}{a:α}{i:Nat},(List.replicate n a)[i]?=if i<n then some a else none:= @List.getElem?_replicate
theorem eH:∀{p:Prop}[Decidable p],decide p=false->¬p:= @of_decide_eq_false
theorem eV:∀{α:Type _}{a:α}{l:aw α},a∈l->∃(i:Nat),l[i]?=some a:= @List.getElem?_of_mem
end Go
