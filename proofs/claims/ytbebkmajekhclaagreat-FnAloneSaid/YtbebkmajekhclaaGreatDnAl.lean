import GoSem.Core.Sem
import GoSem.Dispatch
import Derived.KernelRfl
/- Short names for lemmas that are used often. -/
namespace Go
abbrev aw.{u}(α:Type u):Type u:=List α
abbrev ay.{u}(α:Type u):Type u:=Option α
theorem cy:True:=trivial
abbrev ie (x:Int):BitVec (IntKind.bits .i64):=BitVec.ofInt (IntKind.bits .i64) x
abbrev tU (x:Int):Nat:=min (Int.toNat x) (IntKind.bits .i64)
abbrev Na:Int×Int×Int×Int×Int×Int×Int×Int×Int×Int×Int×Int×Int×Int×Int×List UInt8:=(0,0,0,0,0,0,0,0,0,0,0,0,0,0,0,[])
abbrev bP:Type:=aw Int
abbrev fE:Type:=aw Nat
abbrev bN:Type:=List (List UInt8)
abbrev lB:Type:=Int×Int×Int×Int
abbrev tX:Type:=Int×Int×Int
abbrev GG:Type:=Int×Int×Int×Int×Int×Int
abbrev IS:Type:=Int×Int×Int×Int×Int
abbrev jd:Type:=List Value
theorem nX.{u}{c:Prop}{i:Decidable c}(h:¬c:=by omega){α:Sort u}{t e:α}:ite c t e=e:=if_neg h
theorem zip.{u}{c:Prop}{i:Decidable c}(h:c:=by omega){α:Sort u}{t e:α}:ite c t e=t:=if_pos h
theorem cz {p:Prop}[i:Decidable p](h:¬p:=by omega):decide p=false:=decide_eq_false h
theorem iU {p:Prop}[i:Decidable p](h:p:=by omega):decide p=true:=decide_eq_true h
theorem af:∀{α:Sort _}(a b:α),(bif false then a else b)=b:= @cond_false
theorem ai:∀{α:Type _}{as bs:aw α},List.length (as++bs)=List.length as+List.length bs:= @List.length_append
theorem ah:∀{α:Sort _}(a b:α),(bif true then a else b)=a:= @cond_true
theorem ae:∀(a b:Bool),((a&&b)=true)=(a=true/\b=true):= @Bool.and_eq_true
theorem aj:(!true)=false:= @Bool.not_true
theorem ax:∀(n:Nat),Int.toNat ↑n=n:= @Int.toNat_natCast
theorem aY:∀{α:Type _}(as bs cs:aw α),as++bs++cs=as++(bs++cs):= @List.append_assoc
theorem aL:∀{α:Type _}{i:Nat}{l:aw α},List.length (List.drop i l)=List.length l-i:= @List.length_drop
theorem bq:∀{n m k:Nat},n<=m->m<=k->n<=k:= @Nat.le_trans
theorem aB:∀{α:Type _}{as:aw α}{i:Nat}{a:α},List.length (List.set as i a)=List.length as:= @List.length_set
theorem bh:∀(n:Nat),n<=n:= @Nat.le_refl
theorem bu:∀{α:Type _}{b:α}(as:aw α){bs:aw α},b∈bs->b∈as++bs:= @List.mem_append_right
theorem bm:(false=true)=False:= @Bool.false_eq_true
theorem bp:∀{α:Type _}(val Zv:α),(some val=some Zv)=(val=Zv):= @Option.some.injEq
theorem aK:∀(b:Bool),((!b)=true)=(b=false):= @Bool.not_eq_true'
theorem aV:∀{α:Type _}{i:Nat}{l:aw α},List.length (List.take i l)=min i (List.length l):= @List.length_take
theorem az:∀{α:Type _}{a:α}{s t:aw α},a∈s++t↔a∈s\/a∈t:= @List.mem_append
theorem ba:∀{α:Type _}{a:α}{as:aw α},List.length (a::as)=List.length as+1:= @List.length_cons
theorem bH:∀{α:Type _}{a:α}{as:aw α}(bs:aw α),a∈as->a∈as++bs:= @List.mem_append_left
theorem aD:∀{α:Type _}{p:α->Bool}{l:aw α},List.all l p=true↔∀(x:α),x∈l->p x=true:= @List.all_eq_true
theorem bI:∀{α:Type _}(as:aw α),as++[]=as:= @List.append_nil
theorem bn:∀{α:Type _}{i:Nat}{l:aw α}(h:i<List.length l),List.take (i+1) l=List.take i l++[l[i]]:= @List.take_succ_eq_append_getElem
theorem ch:∀{α:Type _}(as:aw α),[]++as=as:= @List.nil_append
theorem bf:∀{α:Type _}{a:α},List.length [a]=1:= @List.length_singleton
theorem cd:∀{α:Type _}{i:Nat}{l:aw α},List.length l<=i->List.take i l=l:= @List.take_of_length_le
theorem cB:∀(b:Bool),(b||b)=b:= @Bool.or_self
theorem cJ:∀{n m:Nat}(k:Nat),n<=m->n*k<=m*k:= @Nat.mul_le_mul_right
theorem cE:∀{α:Type _}(i:Nat)(l:aw α),List.take i l++List.drop i l=l:= @List.take_append_drop
theorem aI:∀{α:Type _}{l:aw α}{n:Nat}(h:n<List.length l),l[n]∈l:= @List.getElem_mem
theorem cn:∀(n m:Nat),n<m\/n>=m:= @Nat.lt_or_ge
theorem bl:∀(b:Bool),(true&&b)=b:= @Bool.true_and
theorem ca:∀{α:Type _}{i:Nat}{l:aw α}(h:i<List.length l),List.drop i l=l[i]::List.drop (i+1) l:= @List.drop_eq_getElem_cons
theorem cA:∀(b:Bool),(false||b)=b:= @Bool.false_or
theorem cM:∀(n m k:Nat),(n+m)*k=n*k+m*k:= @Nat.add_mul
theorem cm:∀{α:Type _}{l:aw α},List.length l=0->l=[]:= @List.eq_nil_of_length_eq_zero
theorem bX:∀{α:Type _}{a:α}{l:aw α}{f:α->Bool},List.all (a::l) f=(f a&&List.all l f):= @List.all_cons
theorem cx:∀(n:Nat),0+n=n:= @Nat.zero_add
theorem bL:∀{α:Type _}{β:Type _}{as:aw α}(f:α->β),List.length (List.map f as)=List.length as:= @List.length_map
theorem cf:∀(n:Nat),0<=n:= @Nat.zero_le
theorem dg:∀{α:Type _}{i:Nat}{l:aw α},List.length l<=i->List.drop i l=[]:= @List.drop_of_length_le
theorem bw:(!false)=true:= @Bool.not_false
theorem cQ:∀(a b:Bool),((a||b)=true)=(a=true\/b=true):= @Bool.or_eq_true
theorem da:∀{α:Type _}{β:Type _}{f:α->β}{a:α}{l:aw α},List.map f (a::l)=f a::List.map f l:= @List.map_cons
theorem dE:∀{α:Type _}{β:Type _}(a:α)(f:α->β),Option.map f (some a)=some (f a):= @Option.map_some
theorem dS:∀(w n:Nat),BitVec.ofInt w ↑n=BitVec.ofNat w n:= @BitVec.ofInt_natCast
theorem cc:∀{α:Type _}{val Zv:α},some val=some Zv->val=Zv:= @Option.some.inj
theorem cq:∀{a b:Bool},a=b↔(a=true↔b=true):= @Bool.eq_iff_iff
theorem dG:∀{a b:Int},0<=a->Int.tmod a b=a%b:= @Int.tmod_eq_emod_of_nonneg
theorem eG:∀(n:Nat),n+0=n:= @Nat.add_zero
theorem cR:∀{α:Sort _}{a b:α},a≠b->b≠a:= @Ne.symm
theorem fF:∀(a:Int){b:Int},0<b->a%b<b:= @Int.emod_lt_of_pos
theorem eu:∀(x w:Nat),BitVec.toNat (BitVec.ofNat w x)=x%2^w:= @BitVec.toNat_ofNat
theorem eI:∀{α:Type _}{apT apU:aw (aw α)},List.flatten (apT++apU)=List.flatten apT++List.flatten apU:= @List.flatten_append
theorem eH:∀{a b:Nat},a<b->a%b=a:= @Nat.mod_eq_of_lt
theorem ez:∀{α:Type _}{l:aw α},List.drop 0 l=l:= @List.drop_zero
theorem fC:∀(a:Int){b:Int},b≠0->0<=a%b:= @Int.emod_nonneg
theorem fO:∀(n:Nat),1*n=n:= @Nat.one_mul
theorem aS:∀{α:Type _}{b:α}{ard:Type _}{x:ay ard}{f:ard->ay α},Option.bind x f=some b↔∃a,x=some a/\f a=some b:= @Option.bind_eq_some_iff
theorem fw:∀{α:Type _}{i j:Nat}{l:aw α},List.drop i (List.drop j l)=List.drop (j+i) l:= @List.drop_drop
theorem cu:∀{x y:Bool},(x||y)=false↔x=false/\y=false:= @Bool.or_eq_false_iff
theorem ee:∀{α:Type _}{β:Type _}{f:α->β}{F7 J1:aw α},List.map f (F7++J1)=List.map f F7++List.map f J1:= @List.map_append
theorem eZ:∀{α:Type _}{β:Type _}(a:α)(f:α->ay β),Option.bind (some a) f=f a:= @Option.bind_some
theorem cO:∀{α:Type _}{l:aw α},List.take (List.length l) l=l:= @List.take_length
theorem cG:∀(b:Bool),(b&&b)=b:= @Bool.and_self
theorem fK:∀{α:Type _}{xs ys:Array α},Array.toList xs=Array.toList ys->xs=ys:= @Array.ext'
theorem gi:∀(n m k:Nat),n+m+k=n+(m+k):= @Nat.add_assoc
theorem dp:∀{α:Type _}{β:Type _}{a:α}{l:aw α}{f:β->α->β}{b:β},List.foldl f b (a::l)=List.foldl f (f b a) l:= @List.foldl_cons
theorem ga:∀{α:Type _}{a b:α},Option.getD (some a) b=a:= @Option.getD_some
theorem fu:∀(b:Bool),(!!b)=b:= @Bool.not_not
theorem eR:∀{α:Type _}(y:α){a:α}{l:aw α},a∈l->a∈y::l:= @List.mem_cons_of_mem
theorem bM:∀{α:Type _}{b:α}{l:aw α}{a:α},a∈b::l↔a=b\/a∈l:= @List.mem_cons
theorem bF:∀{α:Type _}{a b:α},a∈[b]↔a=b:= @List.mem_singleton
theorem dV:∀(b:Bool),((!b)=false)=(b=true):= @Bool.not_eq_false'
theorem dQ:∀(b:Bool),(false&&b)=false:= @Bool.false_and
theorem iv:∀{n m:Nat},n<=m->Nat.ble n m=true:= @Nat.ble_eq_true_of_le
theorem jg:∀(n:Nat),n-n=0:= @Nat.sub_self
theorem iC:∀{a b:Nat},a<b->a≠b:= @Nat.ne_of_lt
theorem bD:∀{m n:Nat},m∈List.range n↔m<n:= @List.mem_range
theorem ft:∀(b:Bool),(b&&false)=false:= @Bool.and_false
theorem iI:∀{a b:Nat},a<=b->min a b=a:= @Nat.min_eq_left
theorem jh:∀(p:Prop),(p/\True)=p:= @and_true
theorem ig:∀{α:Type _}{l:aw α},List.drop (List.length l) l=[]:= @List.drop_length
theorem iB:∀(b:Bool),(true||b)=true:= @Bool.true_or
theorem gP:∀{n:Nat},List.range (Nat.succ n)=List.range n++[n]:= @List.range_succ
theorem cX:∀(a:Int),a<=a:= @Int.le_refl
theorem iA:∀(b:Bool),(b||true)=true:= @Bool.or_true
theorem oa:∀(n:Nat),n*1=n:= @Nat.mul_one
theorem eF:∀{α:Type _}{β:Type _}{b:β}{f:α->β}{l:aw α},b∈List.map f l↔∃a,a∈l/\f a=b:= @List.mem_map
theorem dy:∀(b:Bool),(b&&true)=b:= @Bool.and_true
theorem jf:∀(x y:Bool),(!(x&&y))=(!x|| !y):= @Bool.not_and
theorem au:∀{p:Prop}[Decidable p],p->decide p=true:= @decide_eq_true
theorem bt:∀{p:Prop}[Decidable p],decide p=true->p:= @of_decide_eq_true
theorem aF:∀{p:Prop}[Decidable p],(decide p=true)=p:= @decide_eq_true_eq
theorem aq:∀{p:Prop}[Decidable p],¬p->decide p=false:= @decide_eq_false
theorem cY:∀{p:Prop}{_:Decidable p},decide p=false↔¬p:= @decide_eq_false_iff_not
theorem aG:∀{c:Prop}{h:Decidable c},¬c->∀{α:Sort _}{t e:α}, @ite α c h t e=e:= @if_neg
theorem aH:∀{c:Prop}{h:Decidable c},c->∀{α:Sort _}{t e:α}, @ite α c h t e=t:= @if_pos
theorem cg:∀{α:Sort _}{_:Decidable True}(t e:α),(if True then t else e)=t:= @if_true
theorem cv:∀{α:Sort _}{_:Decidable False}(t e:α),(if False then t else e)=e:= @if_false
theorem aQ:∀{a:Int},0<=a->∃n:Nat,a=(n:Int):= @Int.eq_ofNat_of_zero_le
theorem aZ:∀{α:Type _}[BEq α][LawfulBEq α]{a b:α},(a==b)=true↔a=b:= @beq_iff_eq
theorem cr:∀{α:Type _}[BEq α][LawfulBEq α]{a b:α},(a==b)=false↔a≠b:= @beq_eq_false_iff_ne
theorem ed:∀{α:Type _},List.length ([]:aw α)=0:= @List.length_nil
theorem ak:∀{α:Type _}{l:aw α}{i:Nat}(h:i<List.length l),l[i]?=some l[i]:= @List.getElem?_eq_getElem
theorem aC:∀{α:Type _}{i:Nat}{a:α}{l:aw α},l[i]?=some a↔∃(h:i<List.length l),l[i]=a:= @List.getElem?_eq_some_iff
theorem aN:∀{α:Type _}{F7 J1:aw α},List.Nodup (F7++J1)↔List.Nodup F7/\List.Nodup J1/\∀(a:α),a∈F7->∀(b:α),b∈J1->a≠b:= @List.nodup_append
theorem aP:∀{α:Type _}{l:aw α}{i j:Nat},i≠j->∀{a:α},(List.set l i a)[j]?=l[j]?:= @List.getElem?_set_ne
theorem aW:∀{α:Type _}{l:aw α}{i:Nat}{a:α},l[i]?=some a->a∈l:= @List.mem_of_getElem?
theorem bK:∀{α:Type _}{l:aw α}{i:Nat}{a:α},List.getD l i a=Option.getD l[i]? a:= @List.getD_eq_getElem?_getD
theorem bz:∀{α:Type _}{F7 J1:aw α}{i:Nat},List.length F7<=i->(F7++J1)[i]?=J1[i-List.length F7]?:= @List.getElem?_append_right
theorem bC:∀{α:Type _}{l:aw α}{i:Nat},List.length l<=i->l[i]?=none:= @List.getElem?_eq_none
theorem bE:∀{α:Type _}{F7 J1:aw α}{i:Nat},i<List.length F7->(F7++J1)[i]?=F7[i]?:= @List.getElem?_append_left
theorem bG:∀{α:Type _}{l:aw α}{i j:Nat}{a:α},(List.set l i a)[j]?=if i=j then if i<List.length l then some a else none else l[j]?:= @List.getElem?_set
theorem bS:∀{α:Type _}{xs:aw α}{i j:Nat},(List.drop i xs)[j]?=xs[i+j]?:= @List.getElem?_drop
theorem dv:∀{α:Type _}{l:aw α}{i:Nat}{a b:α},a∈List.set l i b->a∈l\/a=b:= @List.mem_or_eq_of_mem_set
theorem dA:∀{α:Type _}{l:aw α}{i:Nat}{a:α},i<List.length l->(List.set l i a)[i]?=some a:= @List.getElem?_set_self
theorem cC:∀{α:Type _}{a:α}{l:aw α},(a::l)[0]?=some a:= @List.getElem?_cons_zero
theorem fD:∀{α:Type _}{a:α}{i:Nat}{l:aw α},(a::l)[i+1]?=l[i]?:= @List.getElem?_cons_succ
theorem cD:∀{α:Type _}{xs:Array α}{i:Nat},(Array.toList xs)[i]?=xs[i]?:= @Array.getElem?_toList
theorem cI:∀{α:Type _}{F7 J1:aw α},(∀(i:Nat),F7[i]?=J1[i]?)->F7=J1:= @List.ext_getElem?
theorem dD:∀{α:Type _}{a:α}{l:aw α},List.Nodup (a::l)↔¬a∈l/\List.Nodup l:= @List.nodup_cons
theorem dW:∀{α:Type _}{l:aw α}{i j:Nat},(List.take i l)[j]?=if j<i then l[j]? else none:= @List.getElem?_take
theorem eC:∀{α:Type _}{l:aw α}{i j:Nat},i<j->(List.take j l)[i]?=l[i]?:= @List.getElem?_take_of_lt
theorem dR:∀{α:Type _}{xs:Array α}{i:Nat}{d:α},Array.getD xs i d=Option.getD xs[i]? d:= @Array.getD_eq_getD_getElem?
theorem fi:∀{α:Type _}[Add α][Zero α]{a:α}{l:aw α},List.sum (a::l)=a+List.sum l:= @List.sum_cons
theorem eL:∀{n:Nat}{α:Type _}{a:α}{i:Nat},(List.replicate n a)[i]?=if i<n then some a else none:= @List.getElem?_replicate
theorem dX:∀{p:Prop}[Decidable p],decide p=false->¬p:= @of_decide_eq_false
theorem gb:∀{α:Type _}{a:α}{l:aw α},a∈l->∃(i:Nat),l[i]?=some a:= @List.getElem?_of_mem
end Go
