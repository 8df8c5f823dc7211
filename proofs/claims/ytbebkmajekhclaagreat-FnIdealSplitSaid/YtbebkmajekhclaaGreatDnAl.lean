import GoSem.Core.Sem
import GoSem.Dispatch
import Derived.KernelRfl
/- Short names for lemmas that are used often. -/
namespace Go
abbrev aw.{u}(α:Type u):Type u:=List α
abbrev az.{u}(α:Type u):Type u:=Option α
theorem cq:True:=trivial
abbrev fQ (x:Int):BitVec (IntKind.bits .i64):=BitVec.ofInt (IntKind.bits .i64) x
abbrev qO (x:Int):Nat:=min (Int.toNat x) (IntKind.bits .i64)
abbrev KM:Int×Int×Int×Int×Int×Int×Int×Int×Int×Int×Int×Int×Int×Int×Int×List UInt8:=(0,0,0,0,0,0,0,0,0,0,0,0,0,0,0,[])
abbrev bQ:Type:=aw Int
abbrev fA:Type:=aw Nat
abbrev bV:Type:=List (List UInt8)
abbrev od:Type:=Int×Int×Int×Int
abbrev uK:Type:=Int×Int×Int
abbrev Ja:Type:=Int×Int×Int×Int×Int×Int
abbrev Hc:Type:=Int×Int×Int×Int×Int
abbrev jf:Type:=List Value
theorem nI.{u}{c:Prop}{i:Decidable c}(h:¬c:=by omega){α:Sort u}{t e:α}:ite c t e=e:=if_neg h
theorem zip.{u}{c:Prop}{i:Decidable c}(h:c:=by omega){α:Sort u}{t e:α}:ite c t e=t:=if_pos h
theorem cD {p:Prop}[i:Decidable p](h:¬p:=by omega):decide p=false:=decide_eq_false h
theorem iH {p:Prop}[i:Decidable p](h:p:=by omega):decide p=true:=decide_eq_true h
theorem ae:∀{α:Sort _}(a b:α),(bif false then a else b)=b:= @cond_false
theorem ai:∀{α:Type _}{as bs:aw α},List.length (as++bs)=List.length as+List.length bs:= @List.length_append
theorem ah:∀{α:Sort _}(a b:α),(bif true then a else b)=a:= @cond_true
theorem af:∀(a b:Bool),((a&&b)=true)=(a=true/\b=true):= @Bool.and_eq_true
theorem al:(!true)=false:= @Bool.not_true
theorem ax:∀(n:Nat),Int.toNat ↑n=n:= @Int.toNat_natCast
theorem bj:∀{α:Type _}(as bs cs:aw α),as++bs++cs=as++(bs++cs):= @List.append_assoc
theorem aS:∀{α:Type _}{i:Nat}{l:aw α},List.length (List.drop i l)=List.length l-i:= @List.length_drop
theorem bp:∀{n m k:Nat},n<=m->m<=k->n<=k:= @Nat.le_trans
theorem ay:∀{α:Type _}{as:aw α}{i:Nat}{a:α},List.length (List.set as i a)=List.length as:= @List.length_set
theorem bt:∀(n:Nat),n<=n:= @Nat.le_refl
theorem bD:∀{α:Type _}{b:α}(as:aw α){bs:aw α},b∈bs->b∈as++bs:= @List.mem_append_right
theorem bn:(false=true)=False:= @Bool.false_eq_true
theorem bq:∀{α:Type _}(val abE:α),(some val=some abE)=(val=abE):= @Option.some.injEq
theorem aM:∀(b:Bool),((!b)=true)=(b=false):= @Bool.not_eq_true'
theorem aP:∀{α:Type _}{i:Nat}{l:aw α},List.length (List.take i l)=min i (List.length l):= @List.length_take
theorem aA:∀{α:Type _}{a:α}{s t:aw α},a∈s++t↔a∈s\/a∈t:= @List.mem_append
theorem bg:∀{α:Type _}{a:α}{as:aw α},List.length (a::as)=List.length as+1:= @List.length_cons
theorem bP:∀{α:Type _}{a:α}{as:aw α}(bs:aw α),a∈as->a∈as++bs:= @List.mem_append_left
theorem aF:∀{α:Type _}{p:α->Bool}{l:aw α},List.all l p=true↔∀(x:α),x∈l->p x=true:= @List.all_eq_true
theorem bR:∀{α:Type _}(as:aw α),as++[]=as:= @List.append_nil
theorem aV:∀{α:Type _}{i:Nat}{l:aw α}(h:i<List.length l),List.take (i+1) l=List.take i l++[l[i]]:= @List.take_succ_eq_append_getElem
theorem bz:∀{α:Type _}(as:aw α),[]++as=as:= @List.nil_append
theorem aW:∀{α:Type _}{a:α},List.length [a]=1:= @List.length_singleton
theorem cx:∀{α:Type _}{i:Nat}{l:aw α},List.length l<=i->List.take i l=l:= @List.take_of_length_le
theorem cc:∀(b:Bool),(b||b)=b:= @Bool.or_self
theorem de:∀{n m:Nat}(k:Nat),n<=m->n*k<=m*k:= @Nat.mul_le_mul_right
theorem cW:∀{α:Type _}(i:Nat)(l:aw α),List.take i l++List.drop i l=l:= @List.take_append_drop
theorem aB:∀{α:Type _}{l:aw α}{n:Nat}(h:n<List.length l),l[n]∈l:= @List.getElem_mem
theorem bT:∀(n m:Nat),n<m\/n>=m:= @Nat.lt_or_ge
theorem aZ:∀(b:Bool),(true&&b)=b:= @Bool.true_and
theorem cv:∀{α:Type _}{i:Nat}{l:aw α}(h:i<List.length l),List.drop i l=l[i]::List.drop (i+1) l:= @List.drop_eq_getElem_cons
theorem cZ:∀(b:Bool),(false||b)=b:= @Bool.false_or
theorem dc:∀(n m k:Nat),(n+m)*k=n*k+m*k:= @Nat.add_mul
theorem cQ:∀{α:Type _}{l:aw α},List.length l=0->l=[]:= @List.eq_nil_of_length_eq_zero
theorem bX:∀{α:Type _}{a:α}{l:aw α}{f:α->Bool},List.all (a::l) f=(f a&&List.all l f):= @List.all_cons
theorem cO:∀(n:Nat),0+n=n:= @Nat.zero_add
theorem bw:∀{α:Type _}{β:Type _}{as:aw α}(f:α->β),List.length (List.map f as)=List.length as:= @List.length_map
theorem bC:∀(n:Nat),0<=n:= @Nat.zero_le
theorem dP:∀{α:Type _}{i:Nat}{l:aw α},List.length l<=i->List.drop i l=[]:= @List.drop_of_length_le
theorem bH:(!false)=true:= @Bool.not_false
theorem dk:∀(a b:Bool),((a||b)=true)=(a=true\/b=true):= @Bool.or_eq_true
theorem db:∀{α:Type _}{β:Type _}{f:α->β}{a:α}{l:aw α},List.map f (a::l)=f a::List.map f l:= @List.map_cons
theorem dD:∀{α:Type _}{β:Type _}(a:α)(f:α->β),Option.map f (some a)=some (f a):= @Option.map_some
theorem dR:∀(w n:Nat),BitVec.ofInt w ↑n=BitVec.ofNat w n:= @BitVec.ofInt_natCast
theorem bM:∀{α:Type _}{val abE:α},some val=some abE->val=abE:= @Option.some.inj
theorem cG:∀{a b:Bool},a=b↔(a=true↔b=true):= @Bool.eq_iff_iff
theorem ed:∀{a b:Int},0<=a->Int.tmod a b=a%b:= @Int.tmod_eq_emod_of_nonneg
theorem eN:∀(n:Nat),n+0=n:= @Nat.add_zero
theorem df:∀{α:Sort _}{a b:α},a≠b->b≠a:= @Ne.symm
theorem fK:∀(a:Int){b:Int},0<b->a%b<b:= @Int.emod_lt_of_pos
theorem eD:∀(x w:Nat),BitVec.toNat (BitVec.ofNat w x)=x%2^w:= @BitVec.toNat_ofNat
theorem eP:∀{α:Type _}{asb asc:aw (aw α)},List.flatten (asb++asc)=List.flatten asb++List.flatten asc:= @List.flatten_append
theorem eO:∀{a b:Nat},a<b->a%b=a:= @Nat.mod_eq_of_lt
theorem eG:∀{α:Type _}{l:aw α},List.drop 0 l=l:= @List.drop_zero
theorem fH:∀(a:Int){b:Int},b≠0->0<=a%b:= @Int.emod_nonneg
theorem fJ:∀(n:Nat),1*n=n:= @Nat.one_mul
theorem aY:∀{α:Type _}{b:α}{atv:Type _}{x:az atv}{f:atv->az α},Option.bind x f=some b↔∃a,x=some a/\f a=some b:= @Option.bind_eq_some_iff
theorem fE:∀{α:Type _}{i j:Nat}{l:aw α},List.drop i (List.drop j l)=List.drop (j+i) l:= @List.drop_drop
theorem cI:∀{x y:Bool},(x||y)=false↔x=false/\y=false:= @Bool.or_eq_false_iff
theorem eH:∀{α:Type _}{β:Type _}{f:α->β}{HL LG:aw α},List.map f (HL++LG)=List.map f HL++List.map f LG:= @List.map_append
theorem ft:∀{α:Type _}{β:Type _}(a:α)(f:α->az β),Option.bind (some a) f=f a:= @Option.bind_some
theorem cf:∀{α:Type _}{l:aw α},List.take (List.length l) l=l:= @List.take_length
theorem bW:∀(b:Bool),(b&&b)=b:= @Bool.and_self
theorem fN:∀{α:Type _}{xs ys:Array α},Array.toList xs=Array.toList ys->xs=ys:= @Array.ext'
theorem gi:∀(n m k:Nat),n+m+k=n+(m+k):= @Nat.add_assoc
theorem dL:∀{α:Type _}{β:Type _}{a:α}{l:aw α}{f:β->α->β}{b:β},List.foldl f b (a::l)=List.foldl f (f b a) l:= @List.foldl_cons
theorem fY:∀{α:Type _}{a b:α},Option.getD (some a) b=a:= @Option.getD_some
theorem ff:∀(b:Bool),(!!b)=b:= @Bool.not_not
theorem eY:∀{α:Type _}(y:α){a:α}{l:aw α},a∈l->a∈y::l:= @List.mem_cons_of_mem
theorem bZ:∀{α:Type _}{b:α}{l:aw α}{a:α},a∈b::l↔a=b\/a∈l:= @List.mem_cons
theorem bI:∀{α:Type _}{a b:α},a∈[b]↔a=b:= @List.mem_singleton
theorem dX:∀(b:Bool),((!b)=false)=(b=true):= @Bool.not_eq_false'
theorem eF:∀(b:Bool),(false&&b)=false:= @Bool.false_and
theorem iE:∀{n m:Nat},n<=m->Nat.ble n m=true:= @Nat.ble_eq_true_of_le
theorem gZ:∀(n:Nat),n-n=0:= @Nat.sub_self
theorem iK:∀{a b:Nat},a<b->a≠b:= @Nat.ne_of_lt
theorem bE:∀{m n:Nat},m∈List.range n↔m<n:= @List.mem_range
theorem iu:∀(b:Bool),(b&&false)=false:= @Bool.and_false
theorem ju:∀{a b:Nat},a<=b->min a b=a:= @Nat.min_eq_left
theorem jg:∀(p:Prop),(p/\True)=p:= @and_true
theorem gb:∀(b:Bool),(true||b)=true:= @Bool.true_or
theorem gz:∀{n:Nat},List.range (Nat.succ n)=List.range n++[n]:= @List.range_succ
theorem dB:∀(a:Int),a<=a:= @Int.le_refl
theorem iJ:∀(b:Bool),(b||true)=true:= @Bool.or_true
theorem kM:∀{a b:Nat},¬a<b->b<=a:= @Nat.le_of_not_lt
theorem oo:∀(n:Nat),¬n<n:= @Nat.lt_irrefl
theorem oq:∀(n:Nat),n*1=n:= @Nat.mul_one
theorem dH:∀{α:Type _}{β:Type _}{b:β}{f:α->β}{l:aw α},b∈List.map f l↔∃a,a∈l/\f a=b:= @List.mem_map
theorem fC:∀(b:Bool),(b&&true)=b:= @Bool.and_true
theorem iI:∀(x y:Bool),(!(x&&y))=(!x|| !y):= @Bool.not_and
theorem au:∀{p:Prop}[Decidable p],p->decide p=true:= @decide_eq_true
theorem br:∀{p:Prop}[Decidable p],decide p=true->p:= @of_decide_eq_true
theorem aG:∀{p:Prop}[Decidable p],(decide p=true)=p:= @decide_eq_true_eq
theorem aq:∀{p:Prop}[Decidable p],¬p->decide p=false:= @decide_eq_false
theorem cH:∀{p:Prop}{_:Decidable p},decide p=false↔¬p:= @decide_eq_false_iff_not
theorem aK:∀{c:Prop}{h:Decidable c},¬c->∀{α:Sort _}{t e:α}, @ite α c h t e=e:= @if_neg
theorem aI:∀{c:Prop}{h:Decidable c},c->∀{α:Sort _}{t e:α}, @ite α c h t e=t:= @if_pos
theorem cz:∀{α:Sort _}{_:Decidable True}(t e:α),(if True then t else e)=t:= @if_true
theorem cJ:∀{α:Sort _}{_:Decidable False}(t e:α),(if False then t else e)=e:= @if_false
theorem aO:∀{a:Int},0<=a->∃n:Nat,a=(n:Int):= @Int.eq_ofNat_of_zero_le
theorem ba:∀{α:Type _}[BEq α][LawfulBEq α]{a b:α},(a==b)=true↔a=b:= @beq_iff_eq
theorem gG:∀{α:Type _}[BEq α][ReflBEq α](a:α),(a==a)=true:= @beq_self_eq_true
theorem cg:∀{α:Type _}[BEq α][LawfulBEq α]{a b:α},(a==b)=false↔a≠b:= @beq_eq_false_iff_ne
theorem da:∀{α:Type _},List.length ([]:aw α)=0:= @List.length_nil
theorem ak:∀{α:Type _}{l:aw α}{i:Nat}(h:i<List.length l),l[i]?=some l[i]:= @List.getElem?_eq_getElem
theorem aC:∀{α:Type _}{i:Nat}{a:α}{l:aw α},l[i]?=some a↔∃(h:i<List.length l),l[i]=a:= @List.getElem?_eq_some_iff
theorem aQ:∀{α:Type _}{HL LG:aw α},List.Nodup (HL++LG)↔List.Nodup HL/\List.Nodup LG/\∀(a:α),a∈HL->∀(b:α),b∈LG->a≠b:= @List.nodup_append
theorem aR:∀{α:Type _}{l:aw α}{i j:Nat},i≠j->∀{a:α},(List.set l i a)[j]?=l[j]?:= @List.getElem?_set_ne
theorem aU:∀{α:Type _}{l:aw α}{i:Nat}{a:α},l[i]?=some a->a∈l:= @List.mem_of_getElem?
theorem bu:∀{α:Type _}{l:aw α}{i:Nat}{a:α},List.getD l i a=Option.getD l[i]? a:= @List.getD_eq_getElem?_getD
theorem bA:∀{α:Type _}{HL LG:aw α}{i:Nat},List.length HL<=i->(HL++LG)[i]?=LG[i-List.length HL]?:= @List.getElem?_append_right
theorem bJ:∀{α:Type _}{l:aw α}{i:Nat},List.length l<=i->l[i]?=none:= @List.getElem?_eq_none
theorem bK:∀{α:Type _}{HL LG:aw α}{i:Nat},i<List.length HL->(HL++LG)[i]?=HL[i]?:= @List.getElem?_append_left
theorem bO:∀{α:Type _}{l:aw α}{i j:Nat}{a:α},(List.set l i a)[j]?=if i=j then if i<List.length l then some a else none else l[j]?:= @List.getElem?_set
theorem bS:∀{α:Type _}{xs:aw α}{i j:Nat},(List.drop i xs)[j]?=xs[i+j]?:= @List.getElem?_drop
theorem cd:∀{α:Type _}{l:aw α}{i:Nat}{a b:α},a∈List.set l i b->a∈l\/a=b:= @List.mem_or_eq_of_mem_set
theorem cw:∀{α:Type _}{l:aw α}{i:Nat}{a:α},i<List.length l->(List.set l i a)[i]?=some a:= @List.getElem?_set_self
theorem cR:∀{α:Type _}{a:α}{l:aw α},(a::l)[0]?=some a:= @List.getElem?_cons_zero
theorem fI:∀{α:Type _}{a:α}{i:Nat}{l:aw α},(a::l)[i+1]?=l[i]?:= @List.getElem?_cons_succ
theorem cV:∀{α:Type _}{xs:Array α}{i:Nat},(Array.toList xs)[i]?=xs[i]?:= @Array.getElem?_toList
theorem dj:∀{α:Type _}{HL LG:aw α},(∀(i:Nat),HL[i]?=LG[i]?)->HL=LG:= @List.ext_getElem?
theorem dC:∀{α:Type _}{a:α}{l:aw α},List.Nodup (a::l)↔¬a∈l/\List.Nodup l:= @List.nodup_cons
theorem dY:∀{α:Type _}{l:aw α}{i j:Nat},(List.take i l)[j]?=if j<i then l[j]? else none:= @List.getElem?_take
theorem dV:∀{α:Type _}{l:aw α}{i j:Nat},i<j->(List.take j l)[i]?=l[i]?:= @List.getElem?_take_of_lt
theorem dQ:∀{α:Type _}{xs:Array α}{i:Nat}{d:α},Array.getD xs i d=Option.getD xs[i]? d:= @Array.getD_eq_getD_getElem?
theorem eI:∀{α:Type _}[Add α][Zero α]{a:α}{l:aw α},List.sum (a::l)=a+List.sum l:= @List.sum_cons
theorem eS:∀{n:Nat}{α:Type _}{a:α}{i:Nat},(List.replicate n a)[i]?=if i<n then some a else none:= @List.getElem?_replicate
theorem dy:∀{p:Prop}[Decidable p],decide p=false->¬p:= @of_decide_eq_false
end Go
