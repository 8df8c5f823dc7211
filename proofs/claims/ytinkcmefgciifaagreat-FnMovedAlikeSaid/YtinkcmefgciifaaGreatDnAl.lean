import GoSem.Core.Sem
import GoSem.Dispatch
import Derived.KernelRfl
/- Short names for lemmas that are used often. -/
namespace Go
abbrev ax.{u}(α:Type u):Type u:=List α
abbrev ay.{u}(α:Type u):Type u:=Option α
theorem cq:True:=trivial
abbrev gr (x:Int):BitVec (IntKind.bits .i64):=BitVec.ofInt (IntKind.bits .i64) x
abbrev oU (x:Int):Nat:=min (Int.toNat x) (IntKind.bits .i64)
abbrev M6:Int×Int×Int×Int×Int×Int×Int×Int×Int×Int×Int×Int×Int×Int×Int×List UInt8:=(0,0,0,0,0,0,0,0,0,0,0,0,0,0,0,[])
abbrev cZ:Type:=ax Int
abbrev fy:Type:=ax Nat
abbrev bR:Type:=List (List UInt8)
abbrev kx:Type:=Int×Int×Int×Int
abbrev JD:Type:=Int×Int×Int
abbrev Cd:Type:=Int×Int×Int×Int×Int×Int
abbrev D4:Type:=Int×Int×Int×Int×Int
abbrev iG:Type:=List Value
theorem lv.{u}{c:Prop}{i:Decidable c}(h:¬c:=by omega){α:Sort u}{t e:α}:ite c t e=e:=if_neg h
theorem zip.{u}{c:Prop}{i:Decidable c}(h:c:=by omega){α:Sort u}{t e:α}:ite c t e=t:=if_pos h
theorem cP {p:Prop}[i:Decidable p](h:¬p:=by omega):decide p=false:=decide_eq_false h
theorem ks {p:Prop}[i:Decidable p](h:p:=by omega):decide p=true:=decide_eq_true h
theorem af:∀{α:Sort _}(a b:α),(bif false then a else b)=b:= @cond_false
theorem ai:∀{α:Type _}{as bs:ax α},List.length (as++bs)=List.length as+List.length bs:= @List.length_append
theorem ah:∀{α:Sort _}(a b:α),(bif true then a else b)=a:= @cond_true
theorem ae:∀(a b:Bool),((a&&b)=true)=(a=true/\b=true):= @Bool.and_eq_true
theorem aj:(!true)=false:= @Bool.not_true
theorem aA:∀(n:Nat),Int.toNat ↑n=n:= @Int.toNat_natCast
theorem aR:∀{α:Type _}(as bs cs:ax α),as++bs++cs=as++(bs++cs):= @List.append_assoc
theorem aM:∀{α:Type _}{i:Nat}{l:ax α},List.length (List.drop i l)=List.length l-i:= @List.length_drop
theorem bw:∀{n m k:Nat},n<=m->m<=k->n<=k:= @Nat.le_trans
theorem aC:∀{α:Type _}{as:ax α}{i:Nat}{a:α},List.length (List.set as i a)=List.length as:= @List.length_set
theorem aS:∀(n:Nat),n<=n:= @Nat.le_refl
theorem bj:∀{α:Type _}{b:α}(as:ax α){bs:ax α},b∈bs->b∈as++bs:= @List.mem_append_right
theorem aY:(false=true)=False:= @Bool.false_eq_true
theorem bc:∀{α:Type _}(val TR:α),(some val=some TR)=(val=TR):= @Option.some.injEq
theorem aK:∀(b:Bool),((!b)=true)=(b=false):= @Bool.not_eq_true'
theorem aW:∀{α:Type _}{i:Nat}{l:ax α},List.length (List.take i l)=min i (List.length l):= @List.length_take
theorem az:∀{α:Type _}{a:α}{s t:ax α},a∈s++t↔a∈s\/a∈t:= @List.mem_append
theorem bz:∀{α:Type _}{a:α}{as:ax α},List.length (a::as)=List.length as+1:= @List.length_cons
theorem bt:∀{α:Type _}{a:α}{as:ax α}(bs:ax α),a∈as->a∈as++bs:= @List.mem_append_left
theorem aF:∀{α:Type _}{p:α->Bool}{l:ax α},List.all l p=true↔∀(x:α),x∈l->p x=true:= @List.all_eq_true
theorem bS:∀{α:Type _}(as:ax α),as++[]=as:= @List.append_nil
theorem bL:∀{α:Type _}{i:Nat}{l:ax α}(h:i<List.length l),List.take (i+1) l=List.take i l++[l[i]]:= @List.take_succ_eq_append_getElem
theorem cG:∀{α:Type _}(as:ax α),[]++as=as:= @List.nil_append
theorem bC:∀{α:Type _}{a:α},List.length [a]=1:= @List.length_singleton
theorem bI:∀{α:Type _}{i:Nat}{l:ax α},List.length l<=i->List.take i l=l:= @List.take_of_length_le
theorem bZ:∀(b:Bool),(b||b)=b:= @Bool.or_self
theorem cw:∀{n m:Nat}(k:Nat),n<=m->n*k<=m*k:= @Nat.mul_le_mul_right
theorem cm:∀{α:Type _}(i:Nat)(l:ax α),List.take i l++List.drop i l=l:= @List.take_append_drop
theorem aZ:∀{α:Type _}{l:ax α}{n:Nat}(h:n<List.length l),l[n]∈l:= @List.getElem_mem
theorem cd:∀(n m:Nat),n<m\/n>=m:= @Nat.lt_or_ge
theorem bq:∀(b:Bool),(true&&b)=b:= @Bool.true_and
theorem bO:∀{α:Type _}{i:Nat}{l:ax α}(h:i<List.length l),List.drop i l=l[i]::List.drop (i+1) l:= @List.drop_eq_getElem_cons
theorem cJ:∀(b:Bool),(false||b)=b:= @Bool.false_or
theorem cB:∀(n m k:Nat),(n+m)*k=n*k+m*k:= @Nat.add_mul
theorem bV:∀{α:Type _}{l:ax α},List.length l=0->l=[]:= @List.eq_nil_of_length_eq_zero
theorem cc:∀{α:Type _}{a:α}{l:ax α}{f:α->Bool},List.all (a::l) f=(f a&&List.all l f):= @List.all_cons
theorem cr:∀(n:Nat),0+n=n:= @Nat.zero_add
theorem cb:∀{α:Type _}{β:Type _}{as:ax α}(f:α->β),List.length (List.map f as)=List.length as:= @List.length_map
theorem bU:∀(n:Nat),0<=n:= @Nat.zero_le
theorem cC:∀{α:Type _}{i:Nat}{l:ax α},List.length l<=i->List.drop i l=[]:= @List.drop_of_length_le
theorem cg:(!false)=true:= @Bool.not_false
theorem cE:∀(a b:Bool),((a||b)=true)=(a=true\/b=true):= @Bool.or_eq_true
theorem cS:∀{α:Type _}{β:Type _}{f:α->β}{a:α}{l:ax α},List.map f (a::l)=f a::List.map f l:= @List.map_cons
theorem de:∀{α:Type _}{β:Type _}(a:α)(f:α->β),Option.map f (some a)=some (f a):= @Option.map_some
theorem dA:∀(w n:Nat),BitVec.ofInt w ↑n=BitVec.ofNat w n:= @BitVec.ofInt_natCast
theorem du:∀{α:Type _}{val TR:α},some val=some TR->val=TR:= @Option.some.inj
theorem cD:∀{a b:Bool},a=b↔(a=true↔b=true):= @Bool.eq_iff_iff
theorem dg:∀{a b:Int},0<=a->Int.tmod a b=a%b:= @Int.tmod_eq_emod_of_nonneg
theorem dT:∀(n:Nat),n+0=n:= @Nat.add_zero
theorem cO:∀{α:Sort _}{a b:α},a≠b->b≠a:= @Ne.symm
theorem eP:∀(a:Int){b:Int},0<b->a%b<b:= @Int.emod_lt_of_pos
theorem dN:∀(x w:Nat),BitVec.toNat (BitVec.ofNat w x)=x%2^w:= @BitVec.toNat_ofNat
theorem dV:∀{α:Type _}{ajk ajl:ax (ax α)},List.flatten (ajk++ajl)=List.flatten ajk++List.flatten ajl:= @List.flatten_append
theorem dU:∀{a b:Nat},a<b->a%b=a:= @Nat.mod_eq_of_lt
theorem eZ:∀{α:Type _}{l:ax α},List.drop 0 l=l:= @List.drop_zero
theorem eL:∀(a:Int){b:Int},b≠0->0<=a%b:= @Int.emod_nonneg
theorem ff:∀(n:Nat),1*n=n:= @Nat.one_mul
theorem aO:∀{α:Type _}{b:α}{akx:Type _}{x:ay akx}{f:akx->ay α},Option.bind x f=some b↔∃a,x=some a/\f a=some b:= @Option.bind_eq_some_iff
theorem eK:∀{α:Type _}{i j:Nat}{l:ax α},List.drop i (List.drop j l)=List.drop (j+i) l:= @List.drop_drop
theorem ch:∀{x y:Bool},(x||y)=false↔x=false/\y=false:= @Bool.or_eq_false_iff
theorem dS:∀{α:Type _}{β:Type _}{f:α->β}{CQ Gn:ax α},List.map f (CQ++Gn)=List.map f CQ++List.map f Gn:= @List.map_append
theorem eu:∀{α:Type _}{β:Type _}(a:α)(f:α->ay β),Option.bind (some a) f=f a:= @Option.bind_some
theorem eo:∀{α:Type _}{l:ax α},List.take (List.length l) l=l:= @List.take_length
theorem dH:∀(b:Bool),(b&&b)=b:= @Bool.and_self
theorem eU:∀{α:Type _}{xs ys:Array α},Array.toList xs=Array.toList ys->xs=ys:= @Array.ext'
theorem fD:∀(n m k:Nat),n+m+k=n+(m+k):= @Nat.add_assoc
theorem fC:∀{α:Type _}{a b:α},Option.getD (some a) b=a:= @Option.getD_some
theorem fO:∀(b:Bool),(!!b)=b:= @Bool.not_not
theorem eT:∀{α:Type _}(y:α){a:α}{l:ax α},a∈l->a∈y::l:= @List.mem_cons_of_mem
theorem cn:∀{α:Type _}{b:α}{l:ax α}{a:α},a∈b::l↔a=b\/a∈l:= @List.mem_cons
theorem cp:∀{α:Type _}{a b:α},a∈[b]↔a=b:= @List.mem_singleton
theorem dB:∀(b:Bool),((!b)=false)=(b=true):= @Bool.not_eq_false'
theorem eJ:∀(b:Bool),(false&&b)=false:= @Bool.false_and
theorem gN:∀{n m:Nat},n<=m->Nat.ble n m=true:= @Nat.ble_eq_true_of_le
theorem jG:∀(n:Nat),n-n=0:= @Nat.sub_self
theorem gR:∀{a b:Nat},a<b->a≠b:= @Nat.ne_of_lt
theorem bK:∀{m n:Nat},m∈List.range n↔m<n:= @List.mem_range
theorem fH:∀(b:Bool),(b&&false)=false:= @Bool.and_false
theorem gV:∀{a b:Nat},a<=b->min a b=a:= @Nat.min_eq_left
theorem iI:∀(p:Prop),(p/\True)=p:= @and_true
theorem gH:∀{α:Type _}{l:ax α},List.drop (List.length l) l=[]:= @List.drop_length
theorem iH:∀(b:Bool),(true||b)=true:= @Bool.true_or
theorem dW:∀(a:Int),a<=a:= @Int.le_refl
theorem jF:∀(b:Bool),(b||true)=true:= @Bool.or_true
theorem mW:∀(n:Nat),n*1=n:= @Nat.mul_one
theorem dR:∀(b:Bool),(b&&true)=b:= @Bool.and_true
theorem gk:∀(x:Nat){y:Nat},0<y->x%y<y:= @Nat.mod_lt
theorem aw:∀{p:Prop}[Decidable p],p->decide p=true:= @decide_eq_true
theorem bk:∀{p:Prop}[Decidable p],decide p=true->p:= @of_decide_eq_true
theorem aD:∀{p:Prop}[Decidable p],(decide p=true)=p:= @decide_eq_true_eq
theorem au:∀{p:Prop}[Decidable p],¬p->decide p=false:= @decide_eq_false
theorem cU:∀{p:Prop}{_:Decidable p},decide p=false↔¬p:= @decide_eq_false_iff_not
theorem aI:∀{c:Prop}{h:Decidable c},¬c->∀{α:Sort _}{t e:α}, @ite α c h t e=e:= @if_neg
theorem aH:∀{c:Prop}{h:Decidable c},c->∀{α:Sort _}{t e:α}, @ite α c h t e=t:= @if_pos
theorem bQ:∀{α:Sort _}{_:Decidable True}(t e:α),(if True then t else e)=t:= @if_true
theorem bW:∀{α:Sort _}{_:Decidable False}(t e:α),(if False then t else e)=e:= @if_false
theorem aQ:∀{a:Int},0<=a->∃n:Nat,a=(n:Int):= @Int.eq_ofNat_of_zero_le
theorem aV:∀{α:Type _}[BEq α][LawfulBEq α]{a b:α},(a==b)=true↔a=b:= @beq_iff_eq
theorem gI:∀{α:Type _}[BEq α][ReflBEq α](a:α),(a==a)=true:= @beq_self_eq_true
theorem cH:∀{α:Type _}[BEq α][LawfulBEq α]{a b:α},(a==b)=false↔a≠b:= @beq_eq_false_iff_ne
theorem eO:∀{α:Type _},List.length ([]:ax α)=0:= @List.length_nil
theorem fb:∀{α:Type _}{a:α}{l:ax α},a∈l->∃(i:Nat)(h:i<l.length),l[i]=a:= @List.getElem_of_mem
theorem aq:∀{α:Type _}{l:ax α}{i:Nat}(h:i<List.length l),l[i]?=some l[i]:= @List.getElem?_eq_getElem
theorem aG:∀{α:Type _}{i:Nat}{a:α}{l:ax α},l[i]?=some a↔∃(h:i<List.length l),l[i]=a:= @List.getElem?_eq_some_iff
theorem aJ:∀{α:Type _}{CQ Gn:ax α},List.Nodup (CQ++Gn)↔List.Nodup CQ/\List.Nodup Gn/\∀(a:α),a∈CQ->∀(b:α),b∈Gn->a≠b:= @List.nodup_append
theorem aN:∀{α:Type _}{l:ax α}{i j:Nat},i≠j->∀{a:α},(List.set l i a)[j]?=l[j]?:= @List.getElem?_set_ne
theorem bp:∀{α:Type _}{l:ax α}{i:Nat}{a:α},l[i]?=some a->a∈l:= @List.mem_of_getElem?
theorem bA:∀{α:Type _}{l:ax α}{i:Nat}{a:α},List.getD l i a=Option.getD l[i]? a:= @List.getD_eq_getElem?_getD
theorem bm:∀{α:Type _}{CQ Gn:ax α}{i:Nat},List.length CQ<=i->(CQ++Gn)[i]?=Gn[i-List.length CQ]?:= @List.getElem?_append_right
theorem bn:∀{α:Type _}{l:ax α}{i:Nat},List.length l<=i->l[i]?=none:= @List.getElem?_eq_none
theorem bB:∀{α:Type _}{CQ Gn:ax α}{i:Nat},i<List.length CQ->(CQ++Gn)[i]?=CQ[i]?:= @List.getElem?_append_left
theorem br:∀{α:Type _}{l:ax α}{i j:Nat}{a:α},(List.set l i a)[j]?=if i=j then if i<List.length l then some a else none else l[j]?:= @List.getElem?_set
theorem bH:∀{α:Type _}{xs:ax α}{i j:Nat},(List.drop i xs)[j]?=xs[i+j]?:= @List.getElem?_drop
theorem dJ:∀{α:Type _}{l:ax α}{i:Nat}{a b:α},a∈List.set l i b->a∈l\/a=b:= @List.mem_or_eq_of_mem_set
theorem cv:∀{α:Type _}{a:α}{l:ax α},(a::l)[0]?=some a:= @List.getElem?_cons_zero
theorem eM:∀{α:Type _}{a:α}{i:Nat}{l:ax α},(a::l)[i+1]?=l[i]?:= @List.getElem?_cons_succ
theorem cl:∀{α:Type _}{xs:Array α}{i:Nat},(Array.toList xs)[i]?=xs[i]?:= @Array.getElem?_toList
theorem cA:∀{α:Type _}{CQ Gn:ax α},(∀(i:Nat),CQ[i]?=Gn[i]?)->CQ=Gn:= @List.ext_getElem?
theorem dc:∀{α:Type _}{a:α}{l:ax α},List.Nodup (a::l)↔¬a∈l/\List.Nodup l:= @List.nodup_cons
theorem dC:∀{α:Type _}{l:ax α}{i j:Nat},(List.take i l)[j]?=if j<i then l[j]? else none:= @List.getElem?_take
theorem dQ:∀{α:Type _}{l:ax α}{i j:Nat},i<j->(List.take j l)[i]?=l[i]?:= @List.getElem?_take_of_lt
theorem dz:∀{α:Type _}{xs:Array α}{i:Nat}{d:α},Array.getD xs i d=Option.getD xs[i]? d:= @Array.getD_eq_getD_getElem?
theorem dX:∀{n:Nat}{α:Type _}{a:α}{i:Nat},(List.replicate n a)[i]?=if i<n then some a else none:= @List.getElem?_replicate
theorem fA:∀{p:Prop}[Decidable p],decide p=false->¬p:= @of_decide_eq_false
end Go
