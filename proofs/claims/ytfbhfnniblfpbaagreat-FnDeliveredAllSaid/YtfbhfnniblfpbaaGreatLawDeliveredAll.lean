/- FnDeliveredAll: for every input the law returns true, and each argument reads behind the call as it read before. No condition. -/
import Derived.Test.YtfbhfnniblfpbaaGreatSeat
import Derived.Test.YtfbhfnniblfpbaaGreatPuLawDeliveredAll
namespace Go.Proofs.YtfbhfnniblfpbaaGreat.DeliveredAll
open Go.Dn Go.ChangeShapes Go.WideShapes Go.ChangeAt Go.RowKit
set_option maxRecDepth 100000
theorem own:ownKnob Tryz.prog.godebug=none:=by kernel_rfl
theorem laidOut:laidOutB Tryz.prog=true:=by kernel_rfl
theorem agV:Tryz.prog.underlying 4=some .bool:=by kernel_rfl
theorem reads:Tryz.f4.params.toList.all (λt=>Tryz.prog.readableRec t&&decide (t<Tryz.prog.types.size))=true:=by kernel_rfl
theorem ty0:R2 Tryz.prog 3 22 (.sl (.int .u8))=true:=by kernel_rfl
theorem ag0:agP Tryz.prog 22=false:=by kernel_rfl
theorem afG:∀{t:CT}{x:t.D},InR t x->Pu.acD t x
 | .int _,_,h=>h
 | .bool,_,_=>trivial
 | .str,_,h=>h
 | .sl _,_,h=>⟨h.1,λx hx=>afG (h.2 x hx)⟩
 | .pair _ _,_,h=>⟨afG h.1,afG h.2⟩
theorem acS (H:Type)(enc:TypeId×Value->H)(W:World)(base:Nat)(args:Array Value)(ds gs:au (DataW H))(before:au MemPlace)(HO:∀(j:Nat) t v,Tryz.f4.params[j]?=some t->args[j]?=some v->Value.okWide Tryz.prog W .any base t v)(hW:DataW.Whole enc Tryz.prog Tryz.f4.params.toList Rows.fnDeliveredAllSpec.vars false W args.toList ds gs before): Calls Tryz.prog 4 args W λe W'=>∃v,e=.returned v/\Rows.fnDeliveredAllSpec.post enc Tryz.prog Tryz.f4 false true false false W args v W':=by
 have hW':=hW;obtain⟨p,q,hA0,hV,rfl,hfz,Ft⟩:=hW;have hA:DataW.TrodAll enc Tryz.prog W 0 (λ_=>true) true Tryz.f4.params.toList args.toList ds p:=hA0;rw[Tryz.params4]at hA HO;obtain⟨v0,vs0,d0,ds0,p0,q0,aoa,rfl,rfl,h0,r0⟩:=trodAll_cons hA;obtain⟨rfl,rfl,rfl⟩:=trodAll_nil r0;obtain rfl:args=#[v0]:=by cases args;simp_all
 obtain⟨rfl,rfl⟩:=trodVars_none hV;obtain⟨x0,hx0,hi0⟩:=ad9 ty0 ag0 (HO 0 22 v0 rfl rfl) h0;have hy:(Fn.xw).fn (im Fn.qu (x0,()))=some true:=(Pu.It x0 (afG hi0))
 refine(aba Fn.EZ rfl rfl (vs:=[v0]) (xs:=im Fn.qu (x0,())) ⟨hx0,cv⟩ (y:=true) hy rfl).mono λe W' ⟨he,hb⟩=>?_;subst he;exact⟨_,rfl,adS laidOut reads (by kernel_rfl) agV rfl rfl hW' hb⟩
theorem lifted (os:Os)(started:os.Started)(H:Type)(enc:TypeId×Value->H): ReturnsInHanded {} Tryz.checked os 4 .any (Rows.fnDeliveredAllSpec.pre6 enc Tryz.prog Tryz.f4 Rows.fnDeliveredAllRow.domain false) (Rows.fnDeliveredAllSpec.post enc Tryz.prog Tryz.f4 false true false false):=by refine returnsInHanded_of_change (C:=Tryz.checked) own started (by kernel_rfl) Tryz.func4 (ChangeSpec.witness6 (enc:=enc) (C:=Tryz.checked) false ⟨#[],#[.slice none 0 0],[]⟩ 8 (by kernel_rfl) (by kernel_rfl) (by kernel_rfl) (by kernel_rfl)) ?_;intro W base args ds gs before HO hW _ _;exact acS H enc W base args ds gs before HO hW
def k1 (K i:Nat):Nat:=(K>>>(5*i))%32
def k2 (P:Program)(K:Nat):au Func->Nat->Bool
 |[],_=>true
 |g::l,i=>(P.leadsTo g).all (λh=>Nat.blt (k1 K h) (k1 K i))&&k2 P K l (i+1)
theorem k3 {P:Program}{K:Nat}:∀(l:au Func)(i:Nat),k2 P K l i=true->∀(j:Nat)(f:Func),l[j]?=some f->∀h∈P.leadsTo f,k1 K h<k1 K (i+j)
 |g::l,i,e,j,f,p,h,q=>by rw[k2,ah,aL]at e;cases j with|zero=>cases p;exact Nat.blt_eq.mp (e.1 h q)|succ j=>have:=k3 l (i+1) e.2 j f p h q;rwa[Nat.add_right_comm]at this
theorem k4 {P:Program}{r:Nat->Nat}(a:∀(g:Nat)(f:Func),P.funcs[g]?=some f->∀h∈P.leadsTo f,r h<r g):∀(n:Nat)(t s:au FuncId)(x:FuncId),x∈P.closureVia n t s->x∈s\/∃b∈t,r x<=r b:=by
 intro n;induction n with
 |zero=>intro t s x h;exact Or.inl (by simpa[Program.closureVia]using h)
 |succ n u=>
  intro t s x h;cases t with
  |nil=>exact Or.inl (by simpa[Program.closureVia]using h)
  |cons f t=>
   rw[Program.closureVia]at h;split at h;rcases u _ _ _ h with h|⟨b,c,d⟩;exact Or.inl h;exact Or.inr ⟨b,dK _ c,d⟩;rcases u _ _ _ h with h|⟨b,c,d⟩;rcases cg.1 h with rfl|h;exact Or.inr ⟨_,List.mem_cons_self,aU _⟩;exact Or.inl h;rcases aA.1 c with c|c;cases e:P.funcs[f]? with
   |none=>rw[e]at c;exact nomatch c
   |some g=>rw[e]at c;have:=a f g e b c;exact Or.inr ⟨f,List.mem_cons_self,by omega⟩
   exact Or.inr ⟨b,dK _ c,d⟩
theorem k5 {P:Program}(K f:Nat)(u:P.unfollowed f=false)(v:k2 P K P.funcs.toList 0=true):P.recurses f=false:=by
 have a:∀(g:Nat)(f:Func),P.funcs[g]?=some f->∀h∈P.leadsTo f,k1 K h<k1 K g:=λg f e h q=>by have:=k3 _ _ v g f (by rw[cm];exact e) h q;rwa[cl]at this
 rw[Program.recurses,u,cJ,List.any_eq_false];intro g _ x;obtain⟨h,b,c⟩:=List.any_eq_true.1 x;cases e:P.funcs[g]? with
 |none=>rw[e]at b;exact nomatch b
 |some f=>rw[e]at b;have i:=a g f e h b;rcases k4 a _ _ _ _ (List.contains_iff_mem.1 c)with d|⟨t,d,j⟩;exact nomatch d;cases cH.1 d;omega
theorem j1:(Rows.fnDeliveredAllRow.wf (OpenSpec.ofChange Rows.fnDeliveredAllSpec))=true:=by kernel_rfl
theorem j2:(laidOutB Tryz.prog)=true:=by kernel_rfl
theorem j3:(mapsRowed Tryz.prog)=true:=by kernel_rfl
theorem j4:(Tryz.f4.params.all (Tryz.prog.readableRec ·))=true:=by kernel_rfl
theorem j5:(namedTie Tryz.prog Rows.fnDeliveredAllRow.named Rows.fnDeliveredAllSpec.vars)=true:=by kernel_rfl
theorem j6:(Rows.fnDeliveredAllRow.stops==[])=true:=by kernel_rfl
theorem j7:(Tryz.prog.stops==[])=true:=by kernel_rfl
theorem j8:(Rows.fnDeliveredAllRow.knobs==[])=true:=by kernel_rfl
theorem j9:(Tryz.prog.stopKnobs==[])=true:=by kernel_rfl
theorem j10:(Rows.fnDeliveredAllRow.inPlace==Tryz.prog.inPlace 4)=true:=by kernel_rfl
theorem j11:(Rows.fnDeliveredAllRow.unfollowed==Tryz.prog.unfollowed 4)=true:=by kernel_rfl
theorem j12:(Rows.fnDeliveredAllRow.recurses==Tryz.prog.recurses 4)=true:=by rw[k5 458011889752800344875850031471939818135542574846534908819740780413610846303115826312688125525713138255818813408807193740569074462584517095810695491273825219557067220484918995238564656389086088466429771708649262826230288155973250924627142815680822637280248792429095525210047123492523996409201266179270819882264561820610929786787931793982465909195660086294301467440719757417901397720128589003053556748591501499086370185345055172673407471741751379265352954055263502027778276014771632110235704092847979309144321290329118632443102304735864776932569302017047176353777631529382397596160641998659671754760786595880892116146349359158143620898517780296366347396521173845991358490173789050589392319369081577413514660987860192429899225827938656310938930450391438167888417895689902064640 4 (by kernel_rfl) (by kernel_rfl)];rfl
theorem j13:(Rows.fnDeliveredAllRow.named==Tryz.prog.varsNamed 4)=true:=by kernel_rfl
theorem j14:(Rows.fnDeliveredAllRow.maps==(Tryz.f4.params.toList++Rows.fnDeliveredAllSpec.plain.varTypes Tryz.prog).any (Tryz.prog.mapsRec ·))=true:=by kernel_rfl
theorem j15:(Rows.fnDeliveredAllRow.ifaces==(Tryz.f4.params.toList++Rows.fnDeliveredAllSpec.plain.varTypes Tryz.prog).any (Tryz.prog.ifacesRec ·))=true:=by kernel_rfl
theorem j16:(Rows.fnDeliveredAllRow.mapsOut==Tryz.prog.mapsAmong Tryz.f4.resultTypes.toList)=true:=by kernel_rfl
theorem j17:(Rows.fnDeliveredAllRow.loops==(Tryz.f4.params.toList++Rows.fnDeliveredAllSpec.plain.varTypes Tryz.prog).any (Tryz.prog.loopsFrom ·))=true:=by kernel_rfl
theorem j18:(Rows.fnDeliveredAllRow.wideKeys==(Tryz.f4.params.toList++Rows.fnDeliveredAllSpec.plain.varTypes Tryz.prog++Tryz.f4.resultTypes.toList).any (Tryz.prog.wideKeysFrom ·))=true:=by kernel_rfl
theorem j19:(Rows.fnDeliveredAllSpec.vars.all (Tryz.prog.varReadable ·))=true:=by kernel_rfl
theorem j20:(Tryz.f4.resultTypes.all (λt=>Tryz.prog.readableRec t&&decide (t<Tryz.prog.types.size)))=true:=by kernel_rfl
theorem j21:(Rows.fnDeliveredAllRow.ifacesOut==Tryz.f4.resultTypes.toList.any (Tryz.prog.ifacesRec ·))=true:=by kernel_rfl
theorem j22:(Rows.fnDeliveredAllRow.loopsOut==Tryz.f4.resultTypes.toList.any (Tryz.prog.loopsFrom ·))=true:=by kernel_rfl
theorem j23:(Rows.fnDeliveredAllRow.plainKeys==Tryz.prog.plainKeys)=true:=by kernel_rfl
theorem j24:(Rows.fnDeliveredAllRow.shortTexts.isNone)=true:=by kernel_rfl
theorem j25:(Tryz.prog.stopsHeard)=true:=by kernel_rfl
theorem j26:(Tryz.prog.mayEnter)=true:=by kernel_rfl
theorem j27:(Rows.fnDeliveredAllRow.lifted==Tryz.prog.liftsFinal)=true:=by kernel_rfl
theorem j28:(Tryz.prog.make==some Rows.fnDeliveredAllRow.make)=true:=by kernel_rfl
theorem j29:(Rows.fnDeliveredAllRow.kinds==(if Rows.fnDeliveredAllRow.domain.isEmpty then [] else Tryz.f4.params.toList.map λt=>match Tryz.prog.underlying t with|some (.int k)=>some k|_=>none))=true:=by kernel_rfl
theorem j30:(Rows.fnDeliveredAllRow.pinned==Rows.fnDeliveredAllRow.pinnedBy)=true:=by kernel_rfl
theorem j31:(Rows.fnDeliveredAllRow.veiled==(Tryz.f4.params.toList++Rows.fnDeliveredAllSpec.plain.varTypes Tryz.prog++Tryz.f4.resultTypes.toList).any (Tryz.prog.veiledRec ·))=true:=by kernel_rfl
theorem j32:(Rows.fnDeliveredAllRow.veiledFits Tryz.prog Tryz.f4.params.toList (Tryz.f4.params.toList++Rows.fnDeliveredAllSpec.plain.varTypes Tryz.prog++Tryz.f4.resultTypes.toList))=true:=by kernel_rfl
theorem uW {a b:Bool}(h:a=true)(g:b=true):(a&&b)=true:=by rw[h,g];rfl
theorem closed:joinedFacts Tryz.prog 4 Tryz.f4 Rows.fnDeliveredAllSpec Rows.fnDeliveredAllRow=true:=by unfold joinedFacts;exact(uW (uW (uW (uW (uW (uW (uW (uW (uW (uW (uW (uW (uW (uW (uW (uW (uW (uW (uW (uW (uW (uW (uW (uW (uW (uW (uW (uW (uW (uW (uW j1 j2) j3) j4) j5) j6) j7) j8) j9) j10) j11) j12) j13) j14) j15) j16) j17) j18) j19) j20) j21) j22) j23) j24) j25) j26) j27) j28) j29) j30) j31) j32)
theorem proved:Rows.FnDeliveredAllSaid:=
 OpenClaim.holds_of_wide 4 Tryz.f4 rfl rfl rfl rfl rfl rfl rfl ⟨rfl,rfl,rfl,rfl,rfl⟩ rfl rfl rfl rfl rfl (by kernel_rfl) Tryz.func4 closed
  (bI (by kernel_rfl)) (by unfold Func.isWrapper;first|(rw[aF (by decide+kernel)];kernel_rfl)|(rw[aH (by decide+kernel)];exact⟨rfl,rfl⟩))
  (λos started H enc _=>lifted os started H enc)
end Go.Proofs.YtfbhfnniblfpbaaGreat.DeliveredAll
