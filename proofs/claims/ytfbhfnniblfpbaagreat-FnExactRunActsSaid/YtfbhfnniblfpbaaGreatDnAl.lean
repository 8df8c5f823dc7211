import GoSem.Core.Sem
import GoSem.Dispatch
import Derived.KernelRfl
/- Short names for lemmas that are used often. -/
namespace Go
abbrev aq.{u}(α:Type u):Type u:=List α
abbrev au.{u}(α:Type u):Type u:=Option α
theorem bN:True:=trivial
abbrev fR (x:Int):BitVec (IntKind.bits .i64):=BitVec.ofInt (IntKind.bits .i64) x
abbrev rL (x:Int):Nat:=min (Int.toNat x) (IntKind.bits .i64)
abbrev Nb:Int×Int×Int×Int×Int×Int×Int×Int×Int×Int×Int×Int×Int×Int×Int×List UInt8:=(0,0,0,0,0,0,0,0,0,0,0,0,0,0,0,[])
abbrev ew:Type:=aq Int
abbrev dX:Type:=aq Nat
abbrev bt:Type:=List (List UInt8)
abbrev kW:Type:=Int×Int×Int×Int
abbrev Nw:Type:=Int×Int×Int
abbrev Ea:Type:=Int×Int×Int×Int×Int×Int
abbrev F6:Type:=Int×Int×Int×Int×Int
abbrev ie:Type:=List Value
theorem mI.{u}{c:Prop}{i:Decidable c}(h:¬c:=by omega){α:Sort u}{t e:α}:ite c t e=e:=if_neg h
theorem zip.{u}{c:Prop}{i:Decidable c}(h:c:=by omega){α:Sort u}{t e:α}:ite c t e=t:=if_pos h
theorem gr {p:Prop}[i:Decidable p](h:¬p:=by omega):decide p=false:=decide_eq_false h
theorem jF {p:Prop}[i:Decidable p](h:p:=by omega):decide p=true:=decide_eq_true h
theorem ae:∀{α:Sort _}(a b:α),(bif false then a else b)=b:= @cond_false
theorem aw:∀{α:Type _}{as bs:aq α},List.length (as++bs)=List.length as+List.length bs:= @List.length_append
theorem af:∀{α:Sort _}(a b:α),(bif true then a else b)=a:= @cond_true
theorem ah:∀(a b:Bool),((a&&b)=true)=(a=true/\b=true):= @Bool.and_eq_true
theorem ai:(!true)=false:= @Bool.not_true
theorem ay:∀(n:Nat),Int.toNat ↑n=n:= @Int.toNat_natCast
theorem aN:∀{α:Type _}(as bs cs:aq α),as++bs++cs=as++(bs++cs):= @List.append_assoc
theorem bj:∀{α:Type _}{i:Nat}{l:aq α},List.length (List.drop i l)=List.length l-i:= @List.length_drop
theorem aE:∀{n m k:Nat},n<=m->m<=k->n<=k:= @Nat.le_trans
theorem aH:∀{α:Type _}{as:aq α}{i:Nat}{a:α},List.length (List.set as i a)=List.length as:= @List.length_set
theorem aR:∀(n:Nat),n<=n:= @Nat.le_refl
theorem ba:∀{α:Type _}{b:α}(as:aq α){bs:aq α},b∈bs->b∈as++bs:= @List.mem_append_right
theorem aY:(false=true)=False:= @Bool.false_eq_true
theorem aZ:∀{α:Type _}(val Xp:α),(some val=some Xp)=(val=Xp):= @Option.some.injEq
theorem aP:∀(b:Bool),((!b)=true)=(b=false):= @Bool.not_eq_true'
theorem bm:∀{α:Type _}{i:Nat}{l:aq α},List.length (List.take i l)=min i (List.length l):= @List.length_take
theorem az:∀{α:Type _}{a:α}{s t:aq α},a∈s++t↔a∈s\/a∈t:= @List.mem_append
theorem bC:∀{α:Type _}{a:α}{as:aq α},List.length (a::as)=List.length as+1:= @List.length_cons
theorem bk:∀{α:Type _}{a:α}{as:aq α}(bs:aq α),a∈as->a∈as++bs:= @List.mem_append_left
theorem aW:∀{α:Type _}{p:α->Bool}{l:aq α},List.all l p=true↔∀(x:α),x∈l->p x=true:= @List.all_eq_true
theorem bp:∀{α:Type _}(as:aq α),as++[]=as:= @List.append_nil
theorem bg:∀{α:Type _}{i:Nat}{l:aq α}(h:i<List.length l),List.take (i+1) l=List.take i l++[l[i]]:= @List.take_succ_eq_append_getElem
theorem bU:∀{α:Type _}(as:aq α),[]++as=as:= @List.nil_append
theorem bf:∀{α:Type _}{a:α},List.length [a]=1:= @List.length_singleton
theorem bB:∀{α:Type _}{i:Nat}{l:aq α},List.length l<=i->List.take i l=l:= @List.take_of_length_le
theorem bM:∀(b:Bool),(b||b)=b:= @Bool.or_self
theorem bZ:∀{n m:Nat}(k:Nat),n<=m->n*k<=m*k:= @Nat.mul_le_mul_right
theorem cp:∀{α:Type _}(i:Nat)(l:aq α),List.take i l++List.drop i l=l:= @List.take_append_drop
theorem bc:∀{α:Type _}{l:aq α}{n:Nat}(h:n<List.length l),l[n]∈l:= @List.getElem_mem
theorem bS:∀(n m:Nat),n<m\/n>=m:= @Nat.lt_or_ge
theorem bF:∀(b:Bool),(true&&b)=b:= @Bool.true_and
theorem cl:∀{α:Type _}{i:Nat}{l:aq α}(h:i<List.length l),List.drop i l=l[i]::List.drop (i+1) l:= @List.drop_eq_getElem_cons
theorem bV:∀(a b c:Int),a+b+c=a+(b+c):= @Int.add_assoc
theorem cL:∀(b:Bool),(false||b)=b:= @Bool.false_or
theorem cn:∀(n m k:Nat),(n+m)*k=n*k+m*k:= @Nat.add_mul
theorem cz:∀{α:Type _}{l:aq α},List.length l=0->l=[]:= @List.eq_nil_of_length_eq_zero
theorem bQ:∀{α:Type _}{a:α}{l:aq α}{f:α->Bool},List.all (a::l) f=(f a&&List.all l f):= @List.all_cons
theorem cm:∀(n:Nat),0+n=n:= @Nat.zero_add
theorem cr:∀{α:Type _}{β:Type _}{as:aq α}(f:α->β),List.length (List.map f as)=List.length as:= @List.length_map
theorem dR:∀(n:Nat),0<=n:= @Nat.zero_le
theorem cS:∀{α:Type _}{i:Nat}{l:aq α},List.length l<=i->List.drop i l=[]:= @List.drop_of_length_le
theorem cf:(!false)=true:= @Bool.not_false
theorem df:∀(a b:Bool),((a||b)=true)=(a=true\/b=true):= @Bool.or_eq_true
theorem ed:∀{α:Type _}{β:Type _}{f:α->β}{a:α}{l:aq α},List.map f (a::l)=f a::List.map f l:= @List.map_cons
theorem dg:∀{α:Type _}{β:Type _}(a:α)(f:α->β),Option.map f (some a)=some (f a):= @Option.map_some
theorem cE:∀{α:Type _}{val Xp:α},some val=some Xp->val=Xp:= @Option.some.inj
theorem fj:∀{a b:Bool},a=b↔(a=true↔b=true):= @Bool.eq_iff_iff
theorem eP:∀{a b:Int},0<=a->Int.tmod a b=a%b:= @Int.tmod_eq_emod_of_nonneg
theorem dM:∀(n:Nat),n+0=n:= @Nat.add_zero
theorem cJ:∀{α:Sort _}{a b:α},a≠b->b≠a:= @Ne.symm
theorem gb:∀(a:Int){b:Int},0<b->a%b<b:= @Int.emod_lt_of_pos
theorem dN:∀{α:Type _}{ai1 ai2:aq (aq α)},List.flatten (ai1++ai2)=List.flatten ai1++List.flatten ai2:= @List.flatten_append
theorem fa:∀{α:Type _}{l:aq α},List.drop 0 l=l:= @List.drop_zero
theorem dQ:∀(n:Nat),1*n=n:= @Nat.one_mul
theorem aL:∀{α:Type _}{b:α}{ajQ:Type _}{x:au ajQ}{f:ajQ->au α},Option.bind x f=some b↔∃a,x=some a/\f a=some b:= @Option.bind_eq_some_iff
theorem ec:∀{α:Type _}{i j:Nat}{l:aq α},List.drop i (List.drop j l)=List.drop (j+i) l:= @List.drop_drop
theorem dC:∀{x y:Bool},(x||y)=false↔x=false/\y=false:= @Bool.or_eq_false_iff
theorem eC:∀{α:Type _}{β:Type _}(a:α)(f:α->au β),Option.bind (some a) f=f a:= @Option.bind_some
theorem cD:∀{α:Type _}{l:aq α},List.take (List.length l) l=l:= @List.take_length
theorem eo:∀{α:Type _}(a:α){b:α}{l:aq α}{i:Nat},List.set (List.set l i a) i b=List.set l i b:= @List.set_set
theorem dZ:∀(b:Bool),(b&&b)=b:= @Bool.and_self
theorem ei:∀{α:Type _}{xs ys:Array α},Array.toList xs=Array.toList ys->xs=ys:= @Array.ext'
theorem fF:∀(n m k:Nat),n+m+k=n+(m+k):= @Nat.add_assoc
theorem fD:∀{n m:Nat},n=m->n<=m:= @Nat.le_of_eq
theorem fC:∀(a:Int),a+0=a:= @Int.add_zero
theorem fz:∀{α:Type _}{a b:α},Option.getD (some a) b=a:= @Option.getD_some
theorem ee:∀{α:Type _}(y:α){a:α}{l:aq α},a∈l->a∈y::l:= @List.mem_cons_of_mem
theorem cv:∀{α:Type _}{b:α}{l:aq α}{a:α},a∈b::l↔a=b\/a∈l:= @List.mem_cons
theorem eL:∀{α:Type _}{a b:α},a∈[b]↔a=b:= @List.mem_singleton
theorem eK:∀(b:Bool),((!b)=false)=(b=true):= @Bool.not_eq_false'
theorem gO:∀(b:Bool),(false&&b)=false:= @Bool.false_and
theorem gU:∀{n m:Nat},n<=m->Nat.ble n m=true:= @Nat.ble_eq_true_of_le
theorem lO:∀(n:Nat),n-n=0:= @Nat.sub_self
theorem gW:∀{a b:Nat},a<b->a≠b:= @Nat.ne_of_lt
theorem dy:∀{m n:Nat},m∈List.range n↔m<n:= @List.mem_range
theorem jI:∀(b:Bool),(b&&false)=false:= @Bool.and_false
theorem iW:∀{a b:Nat},a<=b->min a b=a:= @Nat.min_eq_left
theorem ij:∀(p:Prop),(p/\True)=p:= @and_true
theorem jU:∀(b:Bool),(true||b)=true:= @Bool.true_or
theorem gR:∀{n m k:Nat},n<m->m<=k->n<k:= @Nat.lt_of_lt_of_le
theorem nz:∀(n:Nat),¬n<n:= @Nat.lt_irrefl
theorem nA:∀(n:Nat),n*1=n:= @Nat.mul_one
theorem ig:∀(b:Bool),(b&&true)=b:= @Bool.and_true
theorem ax:∀{p:Prop}[Decidable p],p->decide p=true:= @decide_eq_true
theorem ik:∀{p:Prop}[Decidable p],decide p=true->p:= @of_decide_eq_true
theorem bE:∀{p:Prop}[Decidable p],(decide p=true)=p:= @decide_eq_true_eq
theorem ar:∀{p:Prop}[Decidable p],¬p->decide p=false:= @decide_eq_false
theorem dm:∀{p:Prop}{_:Decidable p},decide p=false↔¬p:= @decide_eq_false_iff_not
theorem aF:∀{c:Prop}{h:Decidable c},¬c->∀{α:Sort _}{t e:α}, @ite α c h t e=e:= @if_neg
theorem aG:∀{c:Prop}{h:Decidable c},c->∀{α:Sort _}{t e:α}, @ite α c h t e=t:= @if_pos
theorem bL:∀{α:Sort _}{_:Decidable True}(t e:α),(if True then t else e)=t:= @if_true
theorem cc:∀{α:Sort _}{_:Decidable False}(t e:α),(if False then t else e)=e:= @if_false
theorem aJ:∀{a:Int},0<=a->∃n:Nat,a=(n:Int):= @Int.eq_ofNat_of_zero_le
theorem bz:∀(n m:Nat),((n+m:Nat):Int)=(n:Int)+(m:Int):= @Int.natCast_add
theorem cP:((1:Nat):Int)=(1:Int):= @Int.natCast_one
theorem dL:((0:Nat):Int)=(0:Int):= @Int.natCast_zero
theorem bD:∀{α:Type _}[BEq α][LawfulBEq α]{a b:α},(a==b)=true↔a=b:= @beq_iff_eq
theorem fZ:∀{α:Type _}[BEq α][ReflBEq α](a:α),(a==a)=true:= @beq_self_eq_true
theorem cG:∀{α:Type _}[BEq α][LawfulBEq α]{a b:α},(a==b)=false↔a≠b:= @beq_eq_false_iff_ne
theorem ej:∀{α:Type _},List.length ([]:aq α)=0:= @List.length_nil
theorem al:∀{α:Type _}{l:aq α}{i:Nat}(h:i<List.length l),l[i]?=some l[i]:= @List.getElem?_eq_getElem
theorem aD:∀{α:Type _}{i:Nat}{a:α}{l:aq α},l[i]?=some a↔∃(h:i<List.length l),l[i]=a:= @List.getElem?_eq_some_iff
theorem aB:∀{α:Type _}{KB Pc:aq α},List.Nodup (KB++Pc)↔List.Nodup KB/\List.Nodup Pc/\∀(a:α),a∈KB->∀(b:α),b∈Pc->a≠b:= @List.nodup_append
theorem aO:∀{α:Type _}{l:aq α}{i j:Nat},i≠j->∀{a:α},(List.set l i a)[j]?=l[j]?:= @List.getElem?_set_ne
theorem cU:∀{α:Type _}{l:aq α}{i:Nat}{a:α},l[i]?=some a->a∈l:= @List.mem_of_getElem?
theorem bq:∀{α:Type _}{KB Pc:aq α}{i:Nat},List.length KB<=i->(KB++Pc)[i]?=Pc[i-List.length KB]?:= @List.getElem?_append_right
theorem bH:∀{α:Type _}{l:aq α}{i:Nat},List.length l<=i->l[i]?=none:= @List.getElem?_eq_none
theorem bw:∀{α:Type _}{KB Pc:aq α}{i:Nat},i<List.length KB->(KB++Pc)[i]?=KB[i]?:= @List.getElem?_append_left
theorem bl:∀{α:Type _}{l:aq α}{i j:Nat}{a:α},(List.set l i a)[j]?=if i=j then if i<List.length l then some a else none else l[j]?:= @List.getElem?_set
theorem bJ:∀{α:Type _}{xs:aq α}{i j:Nat},(List.drop i xs)[j]?=xs[i+j]?:= @List.getElem?_drop
theorem cq:∀{α:Type _}{a:α}{l:aq α},(a::l)[0]?=some a:= @List.getElem?_cons_zero
theorem eI:∀{α:Type _}{a:α}{i:Nat}{l:aq α},(a::l)[i+1]?=l[i]?:= @List.getElem?_cons_succ
theorem cg:∀{α:Type _}{xs:Array α}{i:Nat},(Array.toList xs)[i]?=xs[i]?:= @Array.getElem?_toList
theorem cM:∀{α:Type _}{KB Pc:aq α},(∀(i:Nat),KB[i]?=Pc[i]?)->KB=Pc:= @List.ext_getElem?
theorem cQ:∀{α:Type _}{a:α}{l:aq α},List.Nodup (a::l)↔¬a∈l/\List.Nodup l:= @List.nodup_cons
theorem cW:∀{α:Type _}{l:aq α}{i j:Nat},(List.take i l)[j]?=if j<i then l[j]? else none:= @List.getElem?_take
theorem eD:∀{α:Type _}{l:aq α}{i j:Nat},i<j->(List.take j l)[i]?=l[i]?:= @List.getElem?_take_of_lt
theorem cK:∀{α:Type _}{xs:Array α}{i:Nat}{d:α},Array.getD xs i d=Option.getD xs[i]? d:= @Array.getD_eq_getD_getElem?
theorem dk:∀{n:Nat}{α:Type _}{a:α}{i:Nat},(List.replicate n a)[i]?=if i<n then some a else none:= @List.getElem?_replicate
end Go
