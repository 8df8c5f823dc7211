import GoSem.Core.Sem
import GoSem.Dispatch
import Derived.KernelRfl
/- Short names for lemmas that are used often. -/
namespace Go
abbrev aq.{u}(α:Type u):Type u:=List α
abbrev ar.{u}(α:Type u):Type u:=Option α
theorem bX:True:=trivial
abbrev iD (x:Int):BitVec (IntKind.bits .i64):=BitVec.ofInt (IntKind.bits .i64) x
abbrev qS (x:Int):Nat:=min (Int.toNat x) (IntKind.bits .i64)
abbrev PF:Int×Int×Int×Int×Int×Int×Int×Int×Int×Int×Int×Int×Int×Int×Int×List UInt8:=(0,0,0,0,0,0,0,0,0,0,0,0,0,0,0,[])
abbrev cG:Type:=aq Int
abbrev dy:Type:=aq Nat
abbrev cy:Type:=List (List UInt8)
abbrev xB:Type:=Int×Int×Int×Int
abbrev Mw:Type:=Int×Int×Int
abbrev Da:Type:=Int×Int×Int×Int×Int×Int
abbrev HV:Type:=Int×Int×Int×Int×Int
abbrev gO:Type:=List Value
theorem mL.{u}{c:Prop}{i:Decidable c}(h:¬c:=by omega){α:Sort u}{t e:α}:ite c t e=e:=if_neg h
theorem zip.{u}{c:Prop}{i:Decidable c}(h:c:=by omega){α:Sort u}{t e:α}:ite c t e=t:=if_pos h
theorem gZ {p:Prop}[i:Decidable p](h:¬p:=by omega):decide p=false:=decide_eq_false h
theorem jh {p:Prop}[i:Decidable p](h:p:=by omega):decide p=true:=decide_eq_true h
theorem ae:∀{α:Sort _}(a b:α),(bif false then a else b)=b:= @cond_false
theorem au:∀{α:Type _}{as bs:aq α},List.length (as++bs)=List.length as+List.length bs:= @List.length_append
theorem af:∀{α:Sort _}(a b:α),(bif true then a else b)=a:= @cond_true
theorem ah:∀(a b:Bool),((a&&b)=true)=(a=true/\b=true):= @Bool.and_eq_true
theorem aj:(!true)=false:= @Bool.not_true
theorem aA:∀(n:Nat),Int.toNat ↑n=n:= @Int.toNat_natCast
theorem aO:∀{α:Type _}(as bs cs:aq α),as++bs++cs=as++(bs++cs):= @List.append_assoc
theorem bl:∀{α:Type _}{i:Nat}{l:aq α},List.length (List.drop i l)=List.length l-i:= @List.length_drop
theorem bf:∀{n m k:Nat},n<=m->m<=k->n<=k:= @Nat.le_trans
theorem bg:∀{α:Type _}{as:aq α}{i:Nat}{a:α},List.length (List.set as i a)=List.length as:= @List.length_set
theorem bc:∀(n:Nat),n<=n:= @Nat.le_refl
theorem aX:∀{α:Type _}{b:α}(as:aq α){bs:aq α},b∈bs->b∈as++bs:= @List.mem_append_right
theorem aW:(false=true)=False:= @Bool.false_eq_true
theorem aZ:∀{α:Type _}(val Wr:α),(some val=some Wr)=(val=Wr):= @Option.some.injEq
theorem aQ:∀(b:Bool),((!b)=true)=(b=false):= @Bool.not_eq_true'
theorem bm:∀{α:Type _}{i:Nat}{l:aq α},List.length (List.take i l)=min i (List.length l):= @List.length_take
theorem ay:∀{α:Type _}{a:α}{s t:aq α},a∈s++t↔a∈s\/a∈t:= @List.mem_append
theorem cf:∀{α:Type _}{a:α}{as:aq α},List.length (a::as)=List.length as+1:= @List.length_cons
theorem bh:∀{α:Type _}{a:α}{as:aq α}(bs:aq α),a∈as->a∈as++bs:= @List.mem_append_left
theorem ba:∀{α:Type _}{p:α->Bool}{l:aq α},List.all l p=true↔∀(x:α),x∈l->p x=true:= @List.all_eq_true
theorem bt:∀{α:Type _}(as:aq α),as++[]=as:= @List.append_nil
theorem aU:∀{α:Type _}{i:Nat}{l:aq α}(h:i<List.length l),List.take (i+1) l=List.take i l++[l[i]]:= @List.take_succ_eq_append_getElem
theorem cp:∀{α:Type _}(as:aq α),[]++as=as:= @List.nil_append
theorem bw:∀{α:Type _}{a:α},List.length [a]=1:= @List.length_singleton
theorem bI:∀{α:Type _}{i:Nat}{l:aq α},List.length l<=i->List.take i l=l:= @List.take_of_length_le
theorem cD:∀(b:Bool),(b||b)=b:= @Bool.or_self
theorem cq:∀{n m:Nat}(k:Nat),n<=m->n*k<=m*k:= @Nat.mul_le_mul_right
theorem cg:∀{α:Type _}(i:Nat)(l:aq α),List.take i l++List.drop i l=l:= @List.take_append_drop
theorem aN:∀{α:Type _}{l:aq α}{n:Nat}(h:n<List.length l),l[n]∈l:= @List.getElem_mem
theorem bH:∀(n m:Nat),n<m\/n>=m:= @Nat.lt_or_ge
theorem bp:∀(b:Bool),(true&&b)=b:= @Bool.true_and
theorem cc:∀{α:Type _}{i:Nat}{l:aq α}(h:i<List.length l),List.drop i l=l[i]::List.drop (i+1) l:= @List.drop_eq_getElem_cons
theorem dp:∀(a b c:Int),a+b+c=a+(b+c):= @Int.add_assoc
theorem cR:∀(b:Bool),(false||b)=b:= @Bool.false_or
theorem bZ:∀(n m k:Nat),(n+m)*k=n*k+m*k:= @Nat.add_mul
theorem cw:∀{α:Type _}{l:aq α},List.length l=0->l=[]:= @List.eq_nil_of_length_eq_zero
theorem bC:∀{α:Type _}{a:α}{l:aq α}{f:α->Bool},List.all (a::l) f=(f a&&List.all l f):= @List.all_cons
theorem cj:∀(n:Nat),0+n=n:= @Nat.zero_add
theorem cn:∀{α:Type _}{β:Type _}{as:aq α}(f:α->β),List.length (List.map f as)=List.length as:= @List.length_map
theorem fB:∀(n:Nat),0<=n:= @Nat.zero_le
theorem cP:∀{α:Type _}{i:Nat}{l:aq α},List.length l<=i->List.drop i l=[]:= @List.drop_of_length_le
theorem cL:(!false)=true:= @Bool.not_false
theorem da:∀(a b:Bool),((a||b)=true)=(a=true\/b=true):= @Bool.or_eq_true
theorem dC:∀{α:Type _}{β:Type _}{f:α->β}{a:α}{l:aq α},List.map f (a::l)=f a::List.map f l:= @List.map_cons
theorem db:∀{α:Type _}{β:Type _}(a:α)(f:α->β),Option.map f (some a)=some (f a):= @Option.map_some
theorem di:∀{α:Type _}{val Wr:α},some val=some Wr->val=Wr:= @Option.some.inj
theorem ez:∀{a b:Bool},a=b↔(a=true↔b=true):= @Bool.eq_iff_iff
theorem fw:∀{a b:Int},0<=a->Int.tmod a b=a%b:= @Int.tmod_eq_emod_of_nonneg
theorem dF:∀(n:Nat),n+0=n:= @Nat.add_zero
theorem cC:∀{α:Sort _}{a b:α},a≠b->b≠a:= @Ne.symm
theorem fI:∀(a:Int){b:Int},0<b->a%b<b:= @Int.emod_lt_of_pos
theorem dI:∀{α:Type _}{ahY ahZ:aq (aq α)},List.flatten (ahY++ahZ)=List.flatten ahY++List.flatten ahZ:= @List.flatten_append
theorem fj:∀{α:Type _}{l:aq α},List.drop 0 l=l:= @List.drop_zero
theorem dL:∀(n:Nat),1*n=n:= @Nat.one_mul
theorem aI:∀{α:Type _}{b:α}{aiM:Type _}{x:ar aiM}{f:aiM->ar α},Option.bind x f=some b↔∃a,x=some a/\f a=some b:= @Option.bind_eq_some_iff
theorem eo:∀{α:Type _}{i j:Nat}{l:aq α},List.drop i (List.drop j l)=List.drop (j+i) l:= @List.drop_drop
theorem dR:∀{x y:Bool},(x||y)=false↔x=false/\y=false:= @Bool.or_eq_false_iff
theorem dZ:∀{α:Type _}{β:Type _}(a:α)(f:α->ar β),Option.bind (some a) f=f a:= @Option.bind_some
theorem ch:∀{α:Type _}{l:aq α},List.take (List.length l) l=l:= @List.take_length
theorem cW:∀(b:Bool),(b&&b)=b:= @Bool.and_self
theorem dV:∀{α:Type _}{xs ys:Array α},Array.toList xs=Array.toList ys->xs=ys:= @Array.ext'
theorem fg:∀(n m k:Nat),n+m+k=n+(m+k):= @Nat.add_assoc
theorem fb:∀{α:Type _}{a b:α},Option.getD (some a) b=a:= @Option.getD_some
theorem jv:∀(b:Bool),(!!b)=b:= @Bool.not_not
theorem eH:∀{α:Type _}(y:α){a:α}{l:aq α},a∈l->a∈y::l:= @List.mem_cons_of_mem
theorem bU:∀{α:Type _}{b:α}{l:aq α}{a:α},a∈b::l↔a=b\/a∈l:= @List.mem_cons
theorem eE:∀{α:Type _}{a b:α},a∈[b]↔a=b:= @List.mem_singleton
theorem eY:∀(b:Bool),((!b)=false)=(b=true):= @Bool.not_eq_false'
theorem fM:∀(b:Bool),(false&&b)=false:= @Bool.false_and
theorem gE:∀{n m:Nat},n<=m->Nat.ble n m=true:= @Nat.ble_eq_true_of_le
theorem jw:∀(n:Nat),n-n=0:= @Nat.sub_self
theorem gG:∀{a b:Nat},a<b->a≠b:= @Nat.ne_of_lt
theorem dm:∀{m n:Nat},m∈List.range n↔m<n:= @List.mem_range
theorem jk:∀(b:Bool),(b&&false)=false:= @Bool.and_false
theorem iE:∀{a b:Nat},a<=b->min a b=a:= @Nat.min_eq_left
theorem gQ:∀(p:Prop),(p/\True)=p:= @and_true
theorem gC:∀{n m k:Nat},n<m->m<=k->n<k:= @Nat.lt_of_lt_of_le
theorem mO:∀(n:Nat),¬n<n:= @Nat.lt_irrefl
theorem mP:∀(n:Nat),n*1=n:= @Nat.mul_one
theorem gP:∀(b:Bool),(b&&true)=b:= @Bool.and_true
theorem aw:∀{p:Prop}[Decidable p],p->decide p=true:= @decide_eq_true
theorem gR:∀{p:Prop}[Decidable p],decide p=true->p:= @of_decide_eq_true
theorem bE:∀{p:Prop}[Decidable p],(decide p=true)=p:= @decide_eq_true_eq
theorem al:∀{p:Prop}[Decidable p],¬p->decide p=false:= @decide_eq_false
theorem fi:∀{p:Prop}{_:Decidable p},decide p=false↔¬p:= @decide_eq_false_iff_not
theorem aG:∀{c:Prop}{h:Decidable c},¬c->∀{α:Sort _}{t e:α}, @ite α c h t e=e:= @if_neg
theorem aH:∀{c:Prop}{h:Decidable c},c->∀{α:Sort _}{t e:α}, @ite α c h t e=t:= @if_pos
theorem bF:∀{α:Sort _}{_:Decidable True}(t e:α),(if True then t else e)=t:= @if_true
theorem bV:∀{α:Sort _}{_:Decidable False}(t e:α),(if False then t else e)=e:= @if_false
theorem aF:∀{a:Int},0<=a->∃n:Nat,a=(n:Int):= @Int.eq_ofNat_of_zero_le
theorem cH:∀(n m:Nat),((n+m:Nat):Int)=(n:Int)+(m:Int):= @Int.natCast_add
theorem cI:((1:Nat):Int)=(1:Int):= @Int.natCast_one
theorem bk:∀{α:Type _}[BEq α][LawfulBEq α]{a b:α},(a==b)=true↔a=b:= @beq_iff_eq
theorem fG:∀{α:Type _}[BEq α][ReflBEq α](a:α),(a==a)=true:= @beq_self_eq_true
theorem cM:∀{α:Type _}[BEq α][LawfulBEq α]{a b:α},(a==b)=false↔a≠b:= @beq_eq_false_iff_ne
theorem ax:∀{α:Type _}{l:aq α}{i:Nat}(h:i<List.length l),l[i]?=some l[i]:= @List.getElem?_eq_getElem
theorem aD:∀{α:Type _}{i:Nat}{a:α}{l:aq α},l[i]?=some a↔∃(h:i<List.length l),l[i]=a:= @List.getElem?_eq_some_iff
theorem aB:∀{α:Type _}{Kb Oz:aq α},List.Nodup (Kb++Oz)↔List.Nodup Kb/\List.Nodup Oz/\∀(a:α),a∈Kb->∀(b:α),b∈Oz->a≠b:= @List.nodup_append
theorem aS:∀{α:Type _}{l:aq α}{i j:Nat},i≠j->∀{a:α},(List.set l i a)[j]?=l[j]?:= @List.getElem?_set_ne
theorem dw:∀{α:Type _}{l:aq α}{i:Nat}{a:α},l[i]?=some a->a∈l:= @List.mem_of_getElem?
theorem bq:∀{α:Type _}{Kb Oz:aq α}{i:Nat},List.length Kb<=i->(Kb++Oz)[i]?=Oz[i-List.length Kb]?:= @List.getElem?_append_right
theorem br:∀{α:Type _}{l:aq α}{i:Nat},List.length l<=i->l[i]?=none:= @List.getElem?_eq_none
theorem bu:∀{α:Type _}{Kb Oz:aq α}{i:Nat},i<List.length Kb->(Kb++Oz)[i]?=Kb[i]?:= @List.getElem?_append_left
theorem bj:∀{α:Type _}{l:aq α}{i j:Nat}{a:α},(List.set l i a)[j]?=if i=j then if i<List.length l then some a else none else l[j]?:= @List.getElem?_set
theorem bB:∀{α:Type _}{xs:aq α}{i j:Nat},(List.drop i xs)[j]?=xs[i+j]?:= @List.getElem?_drop
theorem cm:∀{α:Type _}{a:α}{l:aq α},(a::l)[0]?=some a:= @List.getElem?_cons_zero
theorem eC:∀{α:Type _}{a:α}{i:Nat}{l:aq α},(a::l)[i+1]?=l[i]?:= @List.getElem?_cons_succ
theorem bK:∀{α:Type _}{xs:Array α}{i:Nat},(Array.toList xs)[i]?=xs[i]?:= @Array.getElem?_toList
theorem cA:∀{α:Type _}{Kb Oz:aq α},(∀(i:Nat),Kb[i]?=Oz[i]?)->Kb=Oz:= @List.ext_getElem?
theorem cJ:∀{α:Type _}{a:α}{l:aq α},List.Nodup (a::l)↔¬a∈l/\List.Nodup l:= @List.nodup_cons
theorem cS:∀{α:Type _}{l:aq α}{i j:Nat},(List.take i l)[j]?=if j<i then l[j]? else none:= @List.getElem?_take
theorem ed:∀{α:Type _}{l:aq α}{i j:Nat},i<j->(List.take j l)[i]?=l[i]?:= @List.getElem?_take_of_lt
theorem cE:∀{α:Type _}{xs:Array α}{i:Nat}{d:α},Array.getD xs i d=Option.getD xs[i]? d:= @Array.getD_eq_getD_getElem?
theorem df:∀{n:Nat}{α:Type _}{a:α}{i:Nat},(List.replicate n a)[i]?=if i<n then some a else none:= @List.getElem?_replicate
end Go
