/- FnSoftSends: for every input the law returns true, and each argument reads behind the call as it read before. No condition. -/
import Derived.Test.YthjhpjjgcfedbaaGreatSeat
import Derived.Test.YthjhpjjgcfedbaaGreatPuLawSoftSends
namespace Go.Proofs.YthjhpjjgcfedbaaGreat.SoftSends
open Go.Dn Go.ChangeShapes Go.WideShapes Go.ChangeAt Go.RowKit
set_option maxRecDepth 100000
theorem own:ownKnob Tryz.prog.godebug=none:=by kernel_rfl
theorem laidOut:laidOutB Tryz.prog=true:=by kernel_rfl
theorem MJ:Tryz.prog.underlying 4=some .bool:=by kernel_rfl
theorem reads:Tryz.f3.params.toList.all (λt=>Tryz.prog.readableRec t&&decide (t<Tryz.prog.types.size))=true:=by kernel_rfl
theorem YI:zA Tryz.prog 3 22 (.sl (.int .u8))=true:=by kernel_rfl
theorem WS:ME Tryz.prog 22=false:=by kernel_rfl
theorem KS:∀{t:CT}{x:t.D},HO t x→Pu.HU t x
 | .int _,_,h=>h
 | .bool,_,_=>trivial
 | .str,_,h=>h
 | .sl _,_,h=>⟨h.1,λx hx=>KS (h.2 x hx)⟩
 | .pair _ _,_,h=>⟨KS h.1,KS h.2⟩
theorem H8 (H:Type)(enc:TypeId×Value→H)(W:World)(base:Nat)(args:Array Value)(ds gs:List (DataW H))(before:List MemPlace)(hval:∀(j:Nat) t v,Tryz.f3.params[j]?=some t→args[j]?=some v→Value.okWide Tryz.prog W .any base t v)(hW:DataW.Whole enc Tryz.prog Tryz.f3.params.toList Rows.fnSoftSendsSpec.vars false W args.toList ds gs before): Calls Tryz.prog 3 args W λe W'=>∃v,e=.returned v∧Rows.fnSoftSendsSpec.post enc Tryz.prog Tryz.f3 false true false false W args v W':=by
 have hW':=hW;obtain⟨p,q,hA0,hV,rfl,hfz,hnd⟩:=hW;have hA:DataW.TrodAll enc Tryz.prog W 0 (λ_=>true) true Tryz.f3.params.toList args.toList ds p:=hA0;rw[Tryz.params3]at hA hval;obtain⟨v0,vs0,d0,ds0,p0,q0,hargs0,rfl,rfl,h0,r0⟩:=trodAll_cons hA;obtain⟨rfl,rfl,rfl⟩:=trodAll_nil r0;obtain rfl:args=#[v0]:=by cases args;simp_all
 obtain⟨rfl,rfl⟩:=trodVars_none hV;obtain⟨x0,hx0,hi0⟩:=I4 YI WS (hval 0 22 v0 rfl rfl) h0;have hy:(Fn.nM).fn (fg Fn.kx (x0,()))=some true:=(Pu.xu x0 (KS hi0))
 refine(GL Fn.su rfl rfl (vs:=[v0]) (xs:=fg Fn.kx (x0,())) ⟨hx0,trivial⟩ (y:=true) hy rfl).mono λe W' ⟨he,hb⟩=>?_;subst he;exact⟨_,rfl,IM laidOut reads (by kernel_rfl) MJ rfl rfl hW' hb⟩
theorem lifted (os:Os)(started:os.Started)(H:Type)(enc:TypeId×Value→H): ReturnsInHanded {} Tryz.checked os 3 .any (Rows.fnSoftSendsSpec.pre6 enc Tryz.prog Tryz.f3 Rows.fnSoftSendsRow.domain false) (Rows.fnSoftSendsSpec.post enc Tryz.prog Tryz.f3 false true false false):=by refine returnsInHanded_of_change (C:=Tryz.checked) own started (by kernel_rfl) Tryz.func3 (ChangeSpec.witness6 (enc:=enc) (C:=Tryz.checked) false ⟨#[],#[.slice none 0 0],[]⟩ 8 (by kernel_rfl) (by kernel_rfl) (by kernel_rfl) (by kernel_rfl)) ?_;intro W base args ds gs before hval hW _ _;exact H8 H enc W base args ds gs before hval hW
theorem j1:(Rows.fnSoftSendsRow.wf (OpenSpec.ofChange Rows.fnSoftSendsSpec))=true:=by kernel_rfl
theorem j2:(laidOutB Tryz.prog)=true:=by kernel_rfl
theorem j3:(mapsRowed Tryz.prog)=true:=by kernel_rfl
theorem j4:(Tryz.f3.params.all (Tryz.prog.readableRec ·))=true:=by kernel_rfl
theorem j5:(namedTie Tryz.prog Rows.fnSoftSendsRow.named Rows.fnSoftSendsSpec.vars)=true:=by kernel_rfl
theorem j6:(Rows.fnSoftSendsRow.stops==[])=true:=by kernel_rfl
theorem j7:(Tryz.prog.stops==[])=true:=by kernel_rfl
theorem j8:(Rows.fnSoftSendsRow.knobs==[])=true:=by kernel_rfl
theorem j9:(Tryz.prog.stopKnobs==[])=true:=by kernel_rfl
theorem XG:(Rows.fnSoftSendsRow.inPlace==Tryz.prog.inPlace 3)=true:=by kernel_rfl
theorem XH:(Rows.fnSoftSendsRow.unfollowed==Tryz.prog.unfollowed 3)=true:=by kernel_rfl
theorem XI:(Rows.fnSoftSendsRow.recurses==Tryz.prog.recurses 3)=true:=by kernel_rfl
theorem XJ:(Rows.fnSoftSendsRow.named==Tryz.prog.varsNamed 3)=true:=by kernel_rfl
theorem XK:(Rows.fnSoftSendsRow.maps==(Tryz.f3.params.toList++Rows.fnSoftSendsSpec.plain.varTypes Tryz.prog).any (Tryz.prog.mapsRec ·))=true:=by kernel_rfl
theorem XL:(Rows.fnSoftSendsRow.ifaces==(Tryz.f3.params.toList++Rows.fnSoftSendsSpec.plain.varTypes Tryz.prog).any (Tryz.prog.ifacesRec ·))=true:=by kernel_rfl
theorem XM:(Rows.fnSoftSendsRow.mapsOut==Tryz.prog.mapsAmong Tryz.f3.resultTypes.toList)=true:=by kernel_rfl
theorem XN:(Rows.fnSoftSendsRow.loops==(Tryz.f3.params.toList++Rows.fnSoftSendsSpec.plain.varTypes Tryz.prog).any (Tryz.prog.loopsFrom ·))=true:=by kernel_rfl
theorem XO:(Rows.fnSoftSendsRow.wideKeys==(Tryz.f3.params.toList++Rows.fnSoftSendsSpec.plain.varTypes Tryz.prog++Tryz.f3.resultTypes.toList).any (Tryz.prog.wideKeysFrom ·))=true:=by kernel_rfl
theorem XP:(Rows.fnSoftSendsSpec.vars.all (Tryz.prog.varReadable ·))=true:=by kernel_rfl
theorem XQ:(Tryz.f3.resultTypes.all (λt=>Tryz.prog.readableRec t&&decide (t<Tryz.prog.types.size)))=true:=by kernel_rfl
theorem XR:(Rows.fnSoftSendsRow.ifacesOut==Tryz.f3.resultTypes.toList.any (Tryz.prog.ifacesRec ·))=true:=by kernel_rfl
theorem XS:(Rows.fnSoftSendsRow.loopsOut==Tryz.f3.resultTypes.toList.any (Tryz.prog.loopsFrom ·))=true:=by kernel_rfl
theorem XT:(Rows.fnSoftSendsRow.plainKeys==Tryz.prog.plainKeys)=true:=by kernel_rfl
theorem XU:(Rows.fnSoftSendsRow.shortTexts.isNone)=true:=by kernel_rfl
theorem XV:(Tryz.prog.stopsHeard)=true:=by kernel_rfl
theorem XW:(Tryz.prog.mayEnter)=true:=by kernel_rfl
theorem XX:(Rows.fnSoftSendsRow.lifted==Tryz.prog.liftsFinal)=true:=by kernel_rfl
theorem XY:(Tryz.prog.make==some Rows.fnSoftSendsRow.make)=true:=by kernel_rfl
theorem XZ:(Rows.fnSoftSendsRow.kinds==(if Rows.fnSoftSendsRow.domain.isEmpty then [] else Tryz.f3.params.toList.map λt=>match Tryz.prog.underlying t with|some (.int k)=>some k|_=>none))=true:=by kernel_rfl
theorem X0:(Rows.fnSoftSendsRow.pinned==Rows.fnSoftSendsRow.pinnedBy)=true:=by kernel_rfl
theorem X1:(Rows.fnSoftSendsRow.veiled==(Tryz.f3.params.toList++Rows.fnSoftSendsSpec.plain.varTypes Tryz.prog++Tryz.f3.resultTypes.toList).any (Tryz.prog.veiledRec ·))=true:=by kernel_rfl
theorem X2:(Rows.fnSoftSendsRow.veiledFits Tryz.prog Tryz.f3.params.toList (Tryz.f3.params.toList++Rows.fnSoftSendsSpec.plain.varTypes Tryz.prog++Tryz.f3.resultTypes.toList))=true:=by kernel_rfl
theorem ks {a b:Bool}(h:a=true)(g:b=true):(a&&b)=true:=by rw[h,g];rfl
theorem closed:joinedFacts Tryz.prog 3 Tryz.f3 Rows.fnSoftSendsSpec Rows.fnSoftSendsRow=true:=by unfold joinedFacts;exact(ks (ks (ks (ks (ks (ks (ks (ks (ks (ks (ks (ks (ks (ks (ks (ks (ks (ks (ks (ks (ks (ks (ks (ks (ks (ks (ks (ks (ks (ks (ks j1 j2) j3) j4) j5) j6) j7) j8) j9) XG) XH) XI) XJ) XK) XL) XM) XN) XO) XP) XQ) XR) XS) XT) XU) XV) XW) XX) XY) XZ) X0) X1) X2)
theorem proved:Rows.FnSoftSendsSaid:=
 OpenClaim.holds_of_wide 3 Tryz.f3 rfl rfl rfl rfl rfl rfl rfl ⟨rfl,rfl,rfl,rfl,rfl⟩ rfl rfl rfl rfl rfl (by kernel_rfl) Tryz.func3 closed
  (aW (by kernel_rfl)) (by unfold Func.isWrapper;first|(rw[ar (by decide+kernel)];kernel_rfl)|(rw[aq (by decide+kernel)];exact⟨rfl,rfl⟩))
  (λos started H enc _=>lifted os started H enc)
end Go.Proofs.YthjhpjjgcfedbaaGreat.SoftSends
