import GoSem.Core.Sem
import GoSem.Dispatch
import Derived.KernelRfl
/- Short names for lemmas that are used often. -/
namespace Go
theorem J {p:Prop}(h:p:=by omega):p:=h
theorem aD {p:Prop}(h:p:=by simp):p:=h
theorem eR {p:Prop}(h:p:=by decide):p:=h
theorem gA {p:Prop}(h:p:=by grind):p:=h
abbrev Z.{u}(α:Type u):Type u:=List α
abbrev aS.{u}(α:Type u):Type u:=Option α
theorem B:True:=trivial
abbrev ie (x:Int):BitVec (IntKind.bits .i64):=BitVec.ofInt (IntKind.bits .i64) x
abbrev tZ (x:Int):Nat:=min (Int.toNat x) (IntKind.bits .i64)
abbrev Mp:Int×Int×Int×Int×Int×Int×Int×Int×Int×Int×Int×Int×Int×Int×Int×List UInt8:=(0,0,0,0,0,0,0,0,0,0,0,0,0,0,0,[])
abbrev dw:Type:=Z Int
abbrev gw:Type:=Z Nat
abbrev cL:Type:=List (List UInt8)
abbrev rn:Type:=Int×Int×Int×Int
abbrev J6:Type:=Int×Int×Int
abbrev KW:Type:=Int×Int×Int×Int×Int×Int
abbrev ON:Type:=Int×Int×Int×Int×Int
abbrev oz:Type:=List Value
theorem nQ.{u}{c:Prop}{i:Decidable c}(h:¬c:=by omega){α:Sort u}{t e:α}:ite c t e=e:=if_neg h
theorem zip.{u}{c:Prop}{i:Decidable c}(h:c:=by omega){α:Sort u}{t e:α}:ite c t e=t:=if_pos h
theorem ga {p:Prop}[i:Decidable p](h:¬p:=by omega):decide p=false:=decide_eq_false h
theorem iG {p:Prop}[i:Decidable p](h:p:=by omega):decide p=true:=decide_eq_true h
theorem ab:∀{α:Sort _}(a b:α),(bif false then a else b)=b:= @cond_false
theorem aq:∀{α:Type _}{as bs:Z α},List.length (as++bs)=List.length as+List.length bs:= @List.length_append
theorem ae:∀{α:Sort _}(a b:α),(bif true then a else b)=a:= @cond_true
theorem af:∀(a b:Bool),((a&&b)=true)=(a=true/\b=true):= @Bool.and_eq_true
theorem ak:(!true)=false:= @Bool.not_true
theorem au:∀(n:Nat),Int.toNat ↑n=n:= @Int.toNat_natCast
theorem aH:∀{α:Type _}(as bs a:Z α),as++bs++a=as++(bs++a):= @List.append_assoc
theorem bA:∀{α:Type _}{i:Nat}{l:Z α},List.length (List.drop i l)=List.length l-i:= @List.length_drop
theorem bf:∀{n m k:Nat},n<=m->m<=k->n<=k:= @Nat.le_trans
theorem aC:∀{α:Type _}{as:Z α}{i:Nat}{a:α},List.length (List.set as i a)=List.length as:= @List.length_set
theorem bq:∀(n:Nat),n<=n:= @Nat.le_refl
theorem bC:∀{α:Type _}{b:α}(as:Z α){bs:Z α},b∈bs->b∈as++bs:= @List.mem_append_right
theorem bD:(false=true)=False:= @Bool.false_eq_true
theorem bI:∀{α:Type _}(val a:α),(some val=some a)=(val=a):= @Option.some.injEq
theorem aW:∀(b:Bool),((!b)=true)=(b=false):= @Bool.not_eq_true'
theorem bp:∀{α:Type _}{i:Nat}{l:Z α},List.length (List.take i l)=min i (List.length l):= @List.length_take
theorem aB:∀{α:Type _}{a:α}{s t:Z α},a∈s++t↔a∈s\/a∈t:= @List.mem_append
theorem bj:∀{α:Type _}{a:α}{as:Z α},List.length (a::as)=List.length as+1:= @List.length_cons
theorem bh:∀{α:Type _}{a:α}{as:Z α}(bs:Z α),a∈as->a∈as++bs:= @List.mem_append_left
theorem aL:∀{α:Type _}{p:α->Bool}{l:Z α},List.all l p=true↔∀(x:α),x∈l->p x=true:= @List.all_eq_true
theorem bm:∀{α:Type _}(as:Z α),as++[]=as:= @List.append_nil
theorem aM:∀{α:Type _}{i:Nat}{l:Z α}(h:i<List.length l),List.take (i+1) l=List.take i l++[l[i]]:= @List.take_succ_eq_append_getElem
theorem bF:∀{α:Type _}(as:Z α),[]++as=as:= @List.nil_append
theorem aO:∀{α:Type _}{a:α},List.length [a]=1:= @List.length_singleton
theorem cd:∀{α:Type _}{i:Nat}{l:Z α},List.length l<=i->List.take i l=l:= @List.take_of_length_le
theorem bL:∀(b:Bool),(b||b)=b:= @Bool.or_self
theorem dN:∀{n m:Nat}(k:Nat),n<=m->n*k<=m*k:= @Nat.mul_le_mul_right
theorem cH:∀{α:Type _}(i:Nat)(l:Z α),List.take i l++List.drop i l=l:= @List.take_append_drop
theorem az:∀{α:Type _}{l:Z α}{n:Nat}(h:n<List.length l),l[n]∈l:= @List.getElem_mem
theorem ca:∀(n m:Nat),n<m\/n>=m:= @Nat.lt_or_ge
theorem bg:∀(b:Bool),(true&&b)=b:= @Bool.true_and
theorem bZ:∀{α:Type _}{i:Nat}{l:Z α}(h:i<List.length l),List.drop i l=l[i]::List.drop (i+1) l:= @List.drop_eq_getElem_cons
theorem cq:∀(b:Bool),(false||b)=b:= @Bool.false_or
theorem dA:∀(n m k:Nat),(n+m)*k=n*k+m*k:= @Nat.add_mul
theorem cB:∀{α:Type _}{l:Z α},List.length l=0->l=[]:= @List.eq_nil_of_length_eq_zero
theorem cC:∀{α:Type _}{a:α}{l:Z α}{f:α->Bool},List.all (a::l) f=(f a&&List.all l f):= @List.all_cons
theorem cR:∀(n:Nat),0+n=n:= @Nat.zero_add
theorem bt:∀{α:Type _}{β:Type _}{as:Z α}(f:α->β),List.length (List.map f as)=List.length as:= @List.length_map
theorem cg:∀(n:Nat),0<=n:= @Nat.zero_le
theorem dz:∀{α:Type _}{i:Nat}{l:Z α},List.length l<=i->List.drop i l=[]:= @List.drop_of_length_le
theorem bS:(!false)=true:= @Bool.not_false
theorem dW:∀(a b:Bool),((a||b)=true)=(a=true\/b=true):= @Bool.or_eq_true
theorem gC:∀{α:Type _}{β:Type _}{f:α->β}{a:α}{l:Z α},List.map f (a::l)=f a::List.map f l:= @List.map_cons
theorem eP:∀{α:Type _}{β:Type _}(a:α)(f:α->β),Option.map f (some a)=some (f a):= @Option.map_some
theorem bu:∀{α:Type _}{val a:α},some val=some a->val=a:= @Option.some.inj
theorem fE:∀{a b:Bool},a=b↔(a=true↔b=true):= @Bool.eq_iff_iff
theorem fD:∀{a b:Int},0<=a->Int.tmod a b=a%b:= @Int.tmod_eq_emod_of_nonneg
theorem eY:∀(n:Nat),n+0=n:= @Nat.add_zero
theorem cI:∀{α:Sort _}{a b:α},a≠b->b≠a:= @Ne.symm
theorem jr:∀(a:Int){b:Int},0<b->a%b<b:= @Int.emod_lt_of_pos
theorem eX:∀{α:Type _}{a b:Z (Z α)},List.flatten (a++b)=List.flatten a++List.flatten b:= @List.flatten_append
theorem ik:∀{α:Type _}{l:Z α},List.drop 0 l=l:= @List.drop_zero
theorem gJ:∀(n:Nat),1*n=n:= @Nat.one_mul
theorem br:∀{α:Type _}{b:α}{c:Type _}{x:aS c}{f:c->aS α},Option.bind x f=some b↔∃a,x=some a/\f a=some b:= @Option.bind_eq_some_iff
theorem fM:∀{α:Type _}{i j:Nat}{l:Z α},List.drop i (List.drop j l)=List.drop (j+i) l:= @List.drop_drop
theorem dj:∀{x y:Bool},(x||y)=false↔x=false/\y=false:= @Bool.or_eq_false_iff
theorem df:∀{α:Type _}{β:Type _}{f:α->β}{a b:Z α},List.map f (a++b)=List.map f a++List.map f b:= @List.map_append
theorem gi:∀{α:Type _}{β:Type _}(a:α)(f:α->aS β),Option.bind (some a) f=f a:= @Option.bind_some
theorem bB:∀{α:Type _}{l:Z α},List.take (List.length l) l=l:= @List.take_length
theorem bR:∀(b:Bool),(b&&b)=b:= @Bool.and_self
theorem gV:∀{α:Type _}{a b:Array α},Array.toList a=Array.toList b->a=b:= @Array.ext'
theorem ig:∀(n m k:Nat),n+m+k=n+(m+k):= @Nat.add_assoc
theorem gj:∀{α:Type _}{a b:α},Option.getD (some a) b=a:= @Option.getD_some
theorem nm:∀(b:Bool),(!!b)=b:= @Bool.not_not
theorem cy:∀{α:Type _}(y:α){a:α}{l:Z α},a∈l->a∈y::l:= @List.mem_cons_of_mem
theorem bW:∀{α:Type _}{b:α}{l:Z α}{a:α},a∈b::l↔a=b\/a∈l:= @List.mem_cons
theorem aY:∀{α:Type _}{a b:α},a∈[b]↔a=b:= @List.mem_singleton
theorem eH:∀(b:Bool),((!b)=false)=(b=true):= @Bool.not_eq_false'
theorem iR:∀(b:Bool),(false&&b)=false:= @Bool.false_and
theorem kj:∀{n m:Nat},n<=m->Nat.ble n m=true:= @Nat.ble_eq_true_of_le
theorem kz:∀(n:Nat),n-n=0:= @Nat.sub_self
theorem kx:∀{a b:Nat},a<b->a≠b:= @Nat.ne_of_lt
theorem bK:∀{m n:Nat},m∈List.range n↔m<n:= @List.mem_range
theorem jm:∀{α:Type _}{a:α}{as bs:Z α},a::as++bs=a::(as++bs):= @List.cons_append
theorem ij:∀(b:Bool),(b&&false)=false:= @Bool.and_false
theorem jF:∀{a b:Nat},a<=b->min a b=a:= @Nat.min_eq_left
theorem lJ:∀(p:Prop),(p/\True)=p:= @and_true
theorem gW:∀{α:Type _}{l:Z α},List.drop (List.length l) l=[]:= @List.drop_length
theorem lI:∀(b:Bool),(true||b)=true:= @Bool.true_or
theorem ja:∀{n:Nat},List.range (Nat.succ n)=List.range n++[n]:= @List.range_succ
theorem gH:∀(a:Int),a<=a:= @Int.le_refl
theorem kv:∀(b:Bool),(b||true)=true:= @Bool.or_true
theorem lB:∀{a b:Nat},b<=a->min a b=b:= @Nat.min_eq_right
theorem nC:∀{a b:Nat},¬a<b->b<=a:= @Nat.le_of_not_lt
theorem sy:∀(n:Nat),¬n<n:= @Nat.lt_irrefl
theorem oO:∀(n:Nat),n*1=n:= @Nat.mul_one
theorem cX:∀{α:Type _}{β:Type _}{b:β}{f:α->β}{l:Z α},b∈List.map f l↔∃a,a∈l/\f a=b:= @List.mem_map
theorem gB:∀(b:Bool),(b&&true)=b:= @Bool.and_true
theorem ax:∀{p:Prop}[Decidable p],p->decide p=true:= @decide_eq_true
theorem cw:∀{p:Prop}[Decidable p],decide p=true->p:= @of_decide_eq_true
theorem bO:∀{p:Prop}[Decidable p],(decide p=true)=p:= @decide_eq_true_eq
theorem aw:∀{p:Prop}[Decidable p],¬p->decide p=false:= @decide_eq_false
theorem cp:∀{p:Prop}{_:Decidable p},decide p=false↔¬p:= @decide_eq_false_iff_not
theorem aK:∀{c:Prop}{h:Decidable c},¬c->∀{α:Sort _}{t e:α}, @ite α c h t e=e:= @if_neg
theorem aI:∀{c:Prop}{h:Decidable c},c->∀{α:Sort _}{t e:α}, @ite α c h t e=t:= @if_pos
theorem dm:∀{α:Sort _}{_:Decidable True}(t e:α),(if True then t else e)=t:= @if_true
theorem cY:∀{α:Sort _}{_:Decidable False}(t e:α),(if False then t else e)=e:= @if_false
theorem ar:∀{a:Int},0<=a->∃n:Nat,a=(n:Int):= @Int.eq_ofNat_of_zero_le
theorem bw:∀{α:Type _}[BEq α][LawfulBEq α]{a b:α},(a==b)=true↔a=b:= @beq_iff_eq
theorem iI:∀{α:Type _}[BEq α][ReflBEq α](a:α),(a==a)=true:= @beq_self_eq_true
theorem cc:∀{α:Type _}[BEq α][LawfulBEq α]{a b:α},(a==b)=false↔a≠b:= @beq_eq_false_iff_ne
theorem fF:∀{α:Type _},List.length ([]:Z α)=0:= @List.length_nil
theorem fP:∀{α:Type _}{a:α}{l:Z α},a∈l->∃(i:Nat)(h:i<l.length),l[i]=a:= @List.getElem_of_mem
theorem ah:∀{α:Type _}{l:Z α}{i:Nat}(h:i<List.length l),l[i]?=some l[i]:= @List.getElem?_eq_getElem
theorem aA:∀{α:Type _}{i:Nat}{a:α}{l:Z α},l[i]?=some a↔∃(h:i<List.length l),l[i]=a:= @List.getElem?_eq_some_iff
theorem aX:∀{α:Type _}{c d:Z α},List.Nodup (c++d)↔List.Nodup c/\List.Nodup d/\∀(a:α),a∈c->∀(b:α),b∈d->a≠b:= @List.nodup_append
theorem aJ:∀{α:Type _}{l:Z α}{i j:Nat},i≠j->∀{a:α},(List.set l i a)[j]?=l[j]?:= @List.getElem?_set_ne
theorem aF:∀{α:Type _}{l:Z α}{i:Nat}{a:α},l[i]?=some a->a∈l:= @List.mem_of_getElem?
theorem bH:∀{α:Type _}{l:Z α}{i:Nat}{a:α},List.getD l i a=Option.getD l[i]? a:= @List.getD_eq_getElem?_getD
theorem bN:∀{α:Type _}{a b:Z α}{i:Nat},List.length a<=i->(a++b)[i]?=b[i-List.length a]?:= @List.getElem?_append_right
theorem cn:∀{α:Type _}{l:Z α}{i:Nat},List.length l<=i->l[i]?=none:= @List.getElem?_eq_none
theorem bE:∀{α:Type _}{a b:Z α}{i:Nat},i<List.length a->(a++b)[i]?=a[i]?:= @List.getElem?_append_left
theorem bX:∀{α:Type _}{l:Z α}{i j:Nat}{a:α},(List.set l i a)[j]?=if i=j then if i<List.length l then some a else none else l[j]?:= @List.getElem?_set
theorem cA:∀{α:Type _}{a:Z α}{i j:Nat},(List.drop i a)[j]?=a[i+j]?:= @List.getElem?_drop
theorem cG:∀{α:Type _}{l:Z α}{i:Nat}{a b:α},a∈List.set l i b->a∈l\/a=b:= @List.mem_or_eq_of_mem_set
theorem bn:∀{α:Type _}{l:Z α}{i:Nat}{a:α},i<List.length l->(List.set l i a)[i]?=some a:= @List.getElem?_set_self
theorem dy:∀{α:Type _}{a:α}{l:Z α},(a::l)[0]?=some a:= @List.getElem?_cons_zero
theorem gI:∀{α:Type _}{a:α}{i:Nat}{l:Z α},(a::l)[i+1]?=l[i]?:= @List.getElem?_cons_succ
theorem du:∀{α:Type _}{a:Array α}{i:Nat},(Array.toList a)[i]?=a[i]?:= @Array.getElem?_toList
theorem dK:∀{α:Type _}{a b:Z α},(∀(i:Nat),a[i]?=b[i]?)->a=b:= @List.ext_getElem?
theorem eo:∀{α:Type _}{a:α}{l:Z α},List.Nodup (a::l)↔¬a∈l/\List.Nodup l:= @List.nodup_cons
theorem fA:∀{α:Type _}{l:Z α}{i j:Nat},(List.take i l)[j]?=if j<i then l[j]? else none:= @List.getElem?_take
theorem ft:∀{α:Type _}{l:Z α}{i j:Nat},i<j->(List.take j l)[i]?=l[i]?:= @List.getElem?_take_of_lt
theorem dR:∀{α:Type _}{a:Array α}{i:Nat}{d:α},Array.getD a i d=Option.getD a[i]? d:= @Array.getD_eq_getD_getElem?
theorem dZ:∀{n:Nat}{α:Type _}{a:α}{i:Nat},(List.replicate n a)[i]?=if i<n then some a else none:= @List.getElem?_replicate
theorem gz:∀{α:Type _}{β:Type _}{f:α->β}{l:Z α}{i:Nat},(List.map f l)[i]?=Option.map f l[i]?:= @List.getElem?_map
theorem eS:∀{p:Prop}[Decidable p],decide p=false->¬p:= @of_decide_eq_false
theorem eM:∀{α:Type _}{a:α}{l:Z α},a∈l->∃(i:Nat),l[i]?=some a:= @List.getElem?_of_mem
end Go
