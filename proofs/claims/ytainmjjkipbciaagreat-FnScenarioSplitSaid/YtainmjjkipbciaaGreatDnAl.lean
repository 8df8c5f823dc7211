import GoSem.Core.Sem
import GoSem.Dispatch
import Derived.KernelRfl
/- Short names for lemmas that are used often. -/
namespace Go
abbrev aw.{u}(α:Type u):Type u:=List α
abbrev ax.{u}(α:Type u):Type u:=Option α
theorem cx:True:=trivial
abbrev gb (x:Int):BitVec (IntKind.bits .i64):=BitVec.ofInt (IntKind.bits .i64) x
abbrev om (x:Int):Nat:=min (Int.toNat x) (IntKind.bits .i64)
abbrev MD:Int×Int×Int×Int×Int×Int×Int×Int×Int×Int×Int×Int×Int×Int×Int×List UInt8:=(0,0,0,0,0,0,0,0,0,0,0,0,0,0,0,[])
abbrev cL:Type:=aw Int
abbrev fg:Type:=aw Nat
abbrev ca:Type:=List (List UInt8)
abbrev lE:Type:=Int×Int×Int×Int
abbrev LP:Type:=Int×Int×Int
abbrev CS:Type:=Int×Int×Int×Int×Int×Int
abbrev D4:Type:=Int×Int×Int×Int×Int
abbrev ir:Type:=List Value
theorem lR.{u}{c:Prop}{i:Decidable c}(h:¬c:=by omega){α:Sort u}{t e:α}:ite c t e=e:=if_neg h
theorem zip.{u}{c:Prop}{i:Decidable c}(h:c:=by omega){α:Sort u}{t e:α}:ite c t e=t:=if_pos h
theorem jj {p:Prop}[i:Decidable p](h:¬p:=by omega):decide p=false:=decide_eq_false h
theorem kK {p:Prop}[i:Decidable p](h:p:=by omega):decide p=true:=decide_eq_true h
theorem af:∀{α:Sort _}(a b:α),(bif false then a else b)=b:= @cond_false
theorem ai:∀{α:Type _}{as bs:aw α},List.length (as++bs)=List.length as+List.length bs:= @List.length_append
theorem ah:∀{α:Sort _}(a b:α),(bif true then a else b)=a:= @cond_true
theorem ae:∀(a b:Bool),((a&&b)=true)=(a=true/\b=true):= @Bool.and_eq_true
theorem aj:(!true)=false:= @Bool.not_true
theorem az:∀(n:Nat),Int.toNat ↑n=n:= @Int.toNat_natCast
theorem aP:∀{α:Type _}(as bs cs:aw α),as++bs++cs=as++(bs++cs):= @List.append_assoc
theorem aL:∀{α:Type _}{i:Nat}{l:aw α},List.length (List.drop i l)=List.length l-i:= @List.length_drop
theorem bA:∀{n m k:Nat},n<=m->m<=k->n<=k:= @Nat.le_trans
theorem aC:∀{α:Type _}{as:aw α}{i:Nat}{a:α},List.length (List.set as i a)=List.length as:= @List.length_set
theorem aU:∀(n:Nat),n<=n:= @Nat.le_refl
theorem bj:∀{α:Type _}{b:α}(as:aw α){bs:aw α},b∈bs->b∈as++bs:= @List.mem_append_right
theorem aW:(false=true)=False:= @Bool.false_eq_true
theorem ba:∀{α:Type _}(val TR:α),(some val=some TR)=(val=TR):= @Option.some.injEq
theorem aK:∀(b:Bool),((!b)=true)=(b=false):= @Bool.not_eq_true'
theorem aZ:∀{α:Type _}{i:Nat}{l:aw α},List.length (List.take i l)=min i (List.length l):= @List.length_take
theorem ay:∀{α:Type _}{a:α}{s t:aw α},a∈s++t↔a∈s\/a∈t:= @List.mem_append
theorem bB:∀{α:Type _}{a:α}{as:aw α},List.length (a::as)=List.length as+1:= @List.length_cons
theorem bw:∀{α:Type _}{a:α}{as:aw α}(bs:aw α),a∈as->a∈as++bs:= @List.mem_append_left
theorem aE:∀{α:Type _}{p:α->Bool}{l:aw α},List.all l p=true↔∀(x:α),x∈l->p x=true:= @List.all_eq_true
theorem bR:∀{α:Type _}(as:aw α),as++[]=as:= @List.append_nil
theorem bI:∀{α:Type _}{i:Nat}{l:aw α}(h:i<List.length l),List.take (i+1) l=List.take i l++[l[i]]:= @List.take_succ_eq_append_getElem
theorem cu:∀{α:Type _}(as:aw α),[]++as=as:= @List.nil_append
theorem bt:∀{α:Type _}{a:α},List.length [a]=1:= @List.length_singleton
theorem bN:∀{α:Type _}{i:Nat}{l:aw α},List.length l<=i->List.take i l=l:= @List.take_of_length_le
theorem bQ:∀(b:Bool),(b||b)=b:= @Bool.or_self
theorem cv:∀{n m:Nat}(k:Nat),n<=m->n*k<=m*k:= @Nat.mul_le_mul_right
theorem cb:∀{α:Type _}(i:Nat)(l:aw α),List.take i l++List.drop i l=l:= @List.take_append_drop
theorem bm:∀{α:Type _}{l:aw α}{n:Nat}(h:n<List.length l),l[n]∈l:= @List.getElem_mem
theorem cf:∀(n m:Nat),n<m\/n>=m:= @Nat.lt_or_ge
theorem bC:∀(b:Bool),(true&&b)=b:= @Bool.true_and
theorem cd:∀{α:Type _}{i:Nat}{l:aw α}(h:i<List.length l),List.drop i l=l[i]::List.drop (i+1) l:= @List.drop_eq_getElem_cons
theorem cE:∀(b:Bool),(false||b)=b:= @Bool.false_or
theorem cA:∀(n m k:Nat),(n+m)*k=n*k+m*k:= @Nat.add_mul
theorem bV:∀{α:Type _}{l:aw α},List.length l=0->l=[]:= @List.eq_nil_of_length_eq_zero
theorem cc:∀{α:Type _}{a:α}{l:aw α}{f:α->Bool},List.all (a::l) f=(f a&&List.all l f):= @List.all_cons
theorem cp:∀(n:Nat),0+n=n:= @Nat.zero_add
theorem da:∀{α:Type _}{β:Type _}{as:aw α}(f:α->β),List.length (List.map f as)=List.length as:= @List.length_map
theorem bO:∀(n:Nat),0<=n:= @Nat.zero_le
theorem cW:∀{α:Type _}{i:Nat}{l:aw α},List.length l<=i->List.drop i l=[]:= @List.drop_of_length_le
theorem bU:(!false)=true:= @Bool.not_false
theorem cC:∀(a b:Bool),((a||b)=true)=(a=true\/b=true):= @Bool.or_eq_true
theorem cR:∀{α:Type _}{β:Type _}{f:α->β}{a:α}{l:aw α},List.map f (a::l)=f a::List.map f l:= @List.map_cons
theorem dc:∀{α:Type _}{β:Type _}(a:α)(f:α->β),Option.map f (some a)=some (f a):= @Option.map_some
theorem dv:∀(w n:Nat),BitVec.ofInt w ↑n=BitVec.ofNat w n:= @BitVec.ofInt_natCast
theorem dD:∀{α:Type _}{val TR:α},some val=some TR->val=TR:= @Option.some.inj
theorem cB:∀{a b:Bool},a=b↔(a=true↔b=true):= @Bool.eq_iff_iff
theorem dg:∀{a b:Int},0<=a->Int.tmod a b=a%b:= @Int.tmod_eq_emod_of_nonneg
theorem dT:∀(n:Nat),n+0=n:= @Nat.add_zero
theorem cM:∀{α:Sort _}{a b:α},a≠b->b≠a:= @Ne.symm
theorem eJ:∀(a:Int){b:Int},0<b->a%b<b:= @Int.emod_lt_of_pos
theorem dN:∀(x w:Nat),BitVec.toNat (BitVec.ofNat w x)=x%2^w:= @BitVec.toNat_ofNat
theorem dV:∀{α:Type _}{akU akV:aw (aw α)},List.flatten (akU++akV)=List.flatten akU++List.flatten akV:= @List.flatten_append
theorem dU:∀{a b:Nat},a<b->a%b=a:= @Nat.mod_eq_of_lt
theorem eV:∀{α:Type _}{l:aw α},List.drop 0 l=l:= @List.drop_zero
theorem eG:∀(a:Int){b:Int},b≠0->0<=a%b:= @Int.emod_nonneg
theorem eY:∀(n:Nat),1*n=n:= @Nat.one_mul
theorem aM:∀{α:Type _}{b:α}{apy:Type _}{x:ax apy}{f:apy->ax α},Option.bind x f=some b↔∃a,x=some a/\f a=some b:= @Option.bind_eq_some_iff
theorem eF:∀{α:Type _}{i j:Nat}{l:aw α},List.drop i (List.drop j l)=List.drop (j+i) l:= @List.drop_drop
theorem ch:∀{x y:Bool},(x||y)=false↔x=false/\y=false:= @Bool.or_eq_false_iff
theorem eh:∀{α:Type _}{β:Type _}(a:α)(f:α->ax β),Option.bind (some a) f=f a:= @Option.bind_some
theorem dS:∀{α:Type _}{l:aw α},List.take (List.length l) l=l:= @List.take_length
theorem eU:∀(b:Bool),(b&&b)=b:= @Bool.and_self
theorem eQ:∀{α:Type _}{xs ys:Array α},Array.toList xs=Array.toList ys->xs=ys:= @Array.ext'
theorem ft:∀(n m k:Nat),n+m+k=n+(m+k):= @Nat.add_assoc
theorem fj:∀{α:Type _}{a b:α},Option.getD (some a) b=a:= @Option.getD_some
theorem fY:∀(b:Bool),(!!b)=b:= @Bool.not_not
theorem eO:∀{α:Type _}(y:α){a:α}{l:aw α},a∈l->a∈y::l:= @List.mem_cons_of_mem
theorem cm:∀{α:Type _}{b:α}{l:aw α}{a:α},a∈b::l↔a=b\/a∈l:= @List.mem_cons
theorem cn:∀{α:Type _}{a b:α},a∈[b]↔a=b:= @List.mem_singleton
theorem dz:∀(b:Bool),((!b)=false)=(b=true):= @Bool.not_eq_false'
theorem eE:∀(b:Bool),(false&&b)=false:= @Bool.false_and
theorem gD:∀{n m:Nat},n<=m->Nat.ble n m=true:= @Nat.ble_eq_true_of_le
theorem kQ:∀(n:Nat),n-n=0:= @Nat.sub_self
theorem gH:∀{a b:Nat},a<b->a≠b:= @Nat.ne_of_lt
theorem bW:∀{m n:Nat},m∈List.range n↔m<n:= @List.mem_range
theorem fA:∀(b:Bool),(b&&false)=false:= @Bool.and_false
theorem gL:∀{a b:Nat},a<=b->min a b=a:= @Nat.min_eq_left
theorem iv:∀(p:Prop),(p/\True)=p:= @and_true
theorem gG:∀(b:Bool),(true||b)=true:= @Bool.true_or
theorem dC:∀(a:Int),a<=a:= @Int.le_refl
theorem iu:∀(b:Bool),(b||true)=true:= @Bool.or_true
theorem my:∀(n:Nat),n*1=n:= @Nat.mul_one
theorem dR:∀(b:Bool),(b&&true)=b:= @Bool.and_true
theorem au:∀{p:Prop}[Decidable p],p->decide p=true:= @decide_eq_true
theorem bk:∀{p:Prop}[Decidable p],decide p=true->p:= @of_decide_eq_true
theorem aB:∀{p:Prop}[Decidable p],(decide p=true)=p:= @decide_eq_true_eq
theorem ar:∀{p:Prop}[Decidable p],¬p->decide p=false:= @decide_eq_false
theorem cw:∀{p:Prop}{_:Decidable p},decide p=false↔¬p:= @decide_eq_false_iff_not
theorem aH:∀{c:Prop}{h:Decidable c},¬c->∀{α:Sort _}{t e:α}, @ite α c h t e=e:= @if_neg
theorem aF:∀{c:Prop}{h:Decidable c},c->∀{α:Sort _}{t e:α}, @ite α c h t e=t:= @if_pos
theorem bP:∀{α:Sort _}{_:Decidable True}(t e:α),(if True then t else e)=t:= @if_true
theorem bX:∀{α:Sort _}{_:Decidable False}(t e:α),(if False then t else e)=e:= @if_false
theorem aX:∀{a:Int},0<=a->∃n:Nat,a=(n:Int):= @Int.eq_ofNat_of_zero_le
theorem aV:∀{α:Type _}[BEq α][LawfulBEq α]{a b:α},(a==b)=true↔a=b:= @beq_iff_eq
theorem dk:∀{α:Type _}[BEq α][LawfulBEq α]{a b:α},(a==b)=false↔a≠b:= @beq_eq_false_iff_ne
theorem eI:∀{α:Type _},List.length ([]:aw α)=0:= @List.length_nil
theorem eX:∀{α:Type _}{a:α}{l:aw α},a∈l->∃(i:Nat)(h:i<l.length),l[i]=a:= @List.getElem_of_mem
theorem al:∀{α:Type _}{l:aw α}{i:Nat}(h:i<List.length l),l[i]?=some l[i]:= @List.getElem?_eq_getElem
theorem aG:∀{α:Type _}{i:Nat}{a:α}{l:aw α},l[i]?=some a↔∃(h:i<List.length l),l[i]=a:= @List.getElem?_eq_some_iff
theorem aI:∀{α:Type _}{FH KN:aw α},List.Nodup (FH++KN)↔List.Nodup FH/\List.Nodup KN/\∀(a:α),a∈FH->∀(b:α),b∈KN->a≠b:= @List.nodup_append
theorem aR:∀{α:Type _}{l:aw α}{i j:Nat},i≠j->∀{a:α},(List.set l i a)[j]?=l[j]?:= @List.getElem?_set_ne
theorem bp:∀{α:Type _}{l:aw α}{i:Nat}{a:α},l[i]?=some a->a∈l:= @List.mem_of_getElem?
theorem cH:∀{α:Type _}{l:aw α}{i:Nat}{a:α},List.getD l i a=Option.getD l[i]? a:= @List.getD_eq_getElem?_getD
theorem bq:∀{α:Type _}{FH KN:aw α}{i:Nat},List.length FH<=i->(FH++KN)[i]?=KN[i-List.length FH]?:= @List.getElem?_append_right
theorem br:∀{α:Type _}{l:aw α}{i:Nat},List.length l<=i->l[i]?=none:= @List.getElem?_eq_none
theorem bD:∀{α:Type _}{FH KN:aw α}{i:Nat},i<List.length FH->(FH++KN)[i]?=FH[i]?:= @List.getElem?_append_left
theorem bu:∀{α:Type _}{l:aw α}{i j:Nat}{a:α},(List.set l i a)[j]?=if i=j then if i<List.length l then some a else none else l[j]?:= @List.getElem?_set
theorem bM:∀{α:Type _}{xs:aw α}{i j:Nat},(List.drop i xs)[j]?=xs[i+j]?:= @List.getElem?_drop
theorem cr:∀{α:Type _}{a:α}{l:aw α},(a::l)[0]?=some a:= @List.getElem?_cons_zero
theorem eH:∀{α:Type _}{a:α}{i:Nat}{l:aw α},(a::l)[i+1]?=l[i]?:= @List.getElem?_cons_succ
theorem cl:∀{α:Type _}{xs:Array α}{i:Nat},(Array.toList xs)[i]?=xs[i]?:= @Array.getElem?_toList
theorem cz:∀{α:Type _}{FH KN:aw α},(∀(i:Nat),FH[i]?=KN[i]?)->FH=KN:= @List.ext_getElem?
theorem db:∀{α:Type _}{a:α}{l:aw α},List.Nodup (a::l)↔¬a∈l/\List.Nodup l:= @List.nodup_cons
theorem dA:∀{α:Type _}{l:aw α}{i j:Nat},(List.take i l)[j]?=if j<i then l[j]? else none:= @List.getElem?_take
theorem dQ:∀{α:Type _}{l:aw α}{i j:Nat},i<j->(List.take j l)[i]?=l[i]?:= @List.getElem?_take_of_lt
theorem du:∀{α:Type _}{xs:Array α}{i:Nat}{d:α},Array.getD xs i d=Option.getD xs[i]? d:= @Array.getD_eq_getD_getElem?
theorem dX:∀{n:Nat}{α:Type _}{a:α}{i:Nat},(List.replicate n a)[i]?=if i<n then some a else none:= @List.getElem?_replicate
theorem fP:∀{p:Prop}[Decidable p],decide p=false->¬p:= @of_decide_eq_false
end Go
