/- FnDrained: for every input the law returns true, and each argument reads behind the call as it read before. No condition. -/
import Derived.Test.YtainmjjkipbciaaGreatSeat
import Derived.Test.YtainmjjkipbciaaGreatPuLawDrained
namespace Go.Proofs.YtainmjjkipbciaaGreat.Drained
open Go.Dn Go.ChangeShapes Go.WideShapes Go.ChangeAt Go.RowKit
set_option maxRecDepth 100000
theorem own:ownKnob Tryz.prog.godebug=none:=by kernel_rfl
theorem laidOut:laidOutB Tryz.prog=true:=by kernel_rfl
theorem aep:Tryz.prog.underlying 4=some .bool:=by kernel_rfl
theorem reads:Tryz.f6.params.toList.all (λt=>Tryz.prog.readableRec t&&decide (t<Tryz.prog.types.size))=true:=by kernel_rfl
theorem ty0:M4 Tryz.prog 3 22 (.sl (.int .u8))=true:=by kernel_rfl
theorem ag0:aek Tryz.prog 22=false:=by kernel_rfl
theorem acm:∀{t:CT}{x:t.D},Yr t x->Pu.VS t x
 | .int _,_,h=>h
 | .bool,_,_=>trivial
 | .str,_,h=>h
 | .sl _,_,h=>⟨h.1,λx hx=>acm (h.2 x hx)⟩
 | .pair _ _,_,h=>⟨acm h.1,acm h.2⟩
theorem YO (H:Type)(enc:TypeId×Value->H)(W:World)(base:Nat)(args:Array Value)(ds gs:ax (DataW H))(before:ax MemPlace)(hval:∀(j:Nat) t v,Tryz.f6.params[j]?=some t->args[j]?=some v->Value.okWide Tryz.prog W .any base t v)(hW:DataW.Whole enc Tryz.prog Tryz.f6.params.toList Rows.fnDrainedSpec.vars false W args.toList ds gs before): Calls Tryz.prog 6 args W λe W'=>∃v,e=.returned v/\Rows.fnDrainedSpec.post enc Tryz.prog Tryz.f6 false true false false W args v W':=by
 have hW':=hW;obtain⟨p,q,hA0,hV,rfl,hfz,hnd⟩:=hW;have hA:DataW.TrodAll enc Tryz.prog W 0 (λ_=>true) true Tryz.f6.params.toList args.toList ds p:=hA0;rw[Tryz.params6]at hA hval;obtain⟨v0,vs0,d0,ds0,p0,q0,hargs0,rfl,rfl,h0,r0⟩:=trodAll_cons hA;obtain⟨rfl,rfl,rfl⟩:=trodAll_nil r0;obtain rfl:args=#[v0]:=by cases args;simp_all
 obtain⟨rfl,rfl⟩:=trodVars_none hV;obtain⟨x0,hx0,hi0⟩:=ZW ty0 ag0 (hval 0 22 v0 rfl rfl) h0;have hy:(Fn.zw).fn (nH Fn.uJ (x0,()))=some true:=(Pu.NP x0 (acm hi0))
 refine(WV Fn.F0 rfl rfl (vs:=[v0]) (xs:=nH Fn.uJ (x0,())) ⟨hx0,cC⟩ (y:=true) hy rfl).mono λe W' ⟨he,hb⟩=>?_;subst he;exact⟨_,rfl,ZD laidOut reads (by kernel_rfl) aep rfl rfl hW' hb⟩
theorem lifted (os:Os)(started:os.Started)(H:Type)(enc:TypeId×Value->H): ReturnsInHanded {} Tryz.checked os 6 .any (Rows.fnDrainedSpec.pre6 enc Tryz.prog Tryz.f6 Rows.fnDrainedRow.domain false) (Rows.fnDrainedSpec.post enc Tryz.prog Tryz.f6 false true false false):=by refine returnsInHanded_of_change (C:=Tryz.checked) own started (by kernel_rfl) Tryz.func6 (ChangeSpec.witness6 (enc:=enc) (C:=Tryz.checked) false ⟨#[],#[.slice none 0 0],[]⟩ 8 (by kernel_rfl) (by kernel_rfl) (by kernel_rfl) (by kernel_rfl)) ?_;intro W base args ds gs before hval hW _ _;exact YO H enc W base args ds gs before hval hW
theorem j1:(Rows.fnDrainedRow.wf (OpenSpec.ofChange Rows.fnDrainedSpec))=true:=by kernel_rfl
theorem j2:(laidOutB Tryz.prog)=true:=by kernel_rfl
theorem j3:(mapsRowed Tryz.prog)=true:=by kernel_rfl
theorem j4:(Tryz.f6.params.all (Tryz.prog.readableRec ·))=true:=by kernel_rfl
theorem j5:(namedTie Tryz.prog Rows.fnDrainedRow.named Rows.fnDrainedSpec.vars)=true:=by kernel_rfl
theorem j6:(Rows.fnDrainedRow.stops==[])=true:=by kernel_rfl
theorem j7:(Tryz.prog.stops==[])=true:=by kernel_rfl
theorem j8:(Rows.fnDrainedRow.knobs==[])=true:=by kernel_rfl
theorem j9:(Tryz.prog.stopKnobs==[])=true:=by kernel_rfl
theorem j10:(Rows.fnDrainedRow.inPlace==Tryz.prog.inPlace 6)=true:=by kernel_rfl
theorem j11:(Rows.fnDrainedRow.unfollowed==Tryz.prog.unfollowed 6)=true:=by kernel_rfl
theorem j12:(Rows.fnDrainedRow.recurses==Tryz.prog.recurses 6)=true:=by kernel_rfl
theorem j13:(Rows.fnDrainedRow.named==Tryz.prog.varsNamed 6)=true:=by kernel_rfl
theorem j14:(Rows.fnDrainedRow.maps==(Tryz.f6.params.toList++Rows.fnDrainedSpec.plain.varTypes Tryz.prog).any (Tryz.prog.mapsRec ·))=true:=by kernel_rfl
theorem j15:(Rows.fnDrainedRow.ifaces==(Tryz.f6.params.toList++Rows.fnDrainedSpec.plain.varTypes Tryz.prog).any (Tryz.prog.ifacesRec ·))=true:=by kernel_rfl
theorem j16:(Rows.fnDrainedRow.mapsOut==Tryz.prog.mapsAmong Tryz.f6.resultTypes.toList)=true:=by kernel_rfl
theorem j17:(Rows.fnDrainedRow.loops==(Tryz.f6.params.toList++Rows.fnDrainedSpec.plain.varTypes Tryz.prog).any (Tryz.prog.loopsFrom ·))=true:=by kernel_rfl
theorem j18:(Rows.fnDrainedRow.wideKeys==(Tryz.f6.params.toList++Rows.fnDrainedSpec.plain.varTypes Tryz.prog++Tryz.f6.resultTypes.toList).any (Tryz.prog.wideKeysFrom ·))=true:=by kernel_rfl
theorem j19:(Rows.fnDrainedSpec.vars.all (Tryz.prog.varReadable ·))=true:=by kernel_rfl
theorem j20:(Tryz.f6.resultTypes.all (λt=>Tryz.prog.readableRec t&&decide (t<Tryz.prog.types.size)))=true:=by kernel_rfl
theorem j21:(Rows.fnDrainedRow.ifacesOut==Tryz.f6.resultTypes.toList.any (Tryz.prog.ifacesRec ·))=true:=by kernel_rfl
theorem j22:(Rows.fnDrainedRow.loopsOut==Tryz.f6.resultTypes.toList.any (Tryz.prog.loopsFrom ·))=true:=by kernel_rfl
theorem j23:(Rows.fnDrainedRow.plainKeys==Tryz.prog.plainKeys)=true:=by kernel_rfl
theorem j24:(Rows.fnDrainedRow.shortTexts.isNone)=true:=by kernel_rfl
theorem j25:(Tryz.prog.stopsHeard)=true:=by kernel_rfl
theorem j26:(Tryz.prog.mayEnter)=true:=by kernel_rfl
theorem j27:(Rows.fnDrainedRow.lifted==Tryz.prog.liftsFinal)=true:=by kernel_rfl
theorem j28:(Tryz.prog.make==some Rows.fnDrainedRow.make)=true:=by kernel_rfl
theorem j29:(Rows.fnDrainedRow.kinds==(if Rows.fnDrainedRow.domain.isEmpty then [] else Tryz.f6.params.toList.map λt=>match Tryz.prog.underlying t with|some (.int k)=>some k|_=>none))=true:=by kernel_rfl
theorem j30:(Rows.fnDrainedRow.pinned==Rows.fnDrainedRow.pinnedBy)=true:=by kernel_rfl
theorem j31:(Rows.fnDrainedRow.veiled==(Tryz.f6.params.toList++Rows.fnDrainedSpec.plain.varTypes Tryz.prog++Tryz.f6.resultTypes.toList).any (Tryz.prog.veiledRec ·))=true:=by kernel_rfl
theorem j32:(Rows.fnDrainedRow.veiledFits Tryz.prog Tryz.f6.params.toList (Tryz.f6.params.toList++Rows.fnDrainedSpec.plain.varTypes Tryz.prog++Tryz.f6.resultTypes.toList))=true:=by kernel_rfl
theorem sG {a b:Bool}(h:a=true)(g:b=true):(a&&b)=true:=by rw[h,g];rfl
theorem closed:joinedFacts Tryz.prog 6 Tryz.f6 Rows.fnDrainedSpec Rows.fnDrainedRow=true:=by unfold joinedFacts;exact(sG (sG (sG (sG (sG (sG (sG (sG (sG (sG (sG (sG (sG (sG (sG (sG (sG (sG (sG (sG (sG (sG (sG (sG (sG (sG (sG (sG (sG (sG (sG j1 j2) j3) j4) j5) j6) j7) j8) j9) j10) j11) j12) j13) j14) j15) j16) j17) j18) j19) j20) j21) j22) j23) j24) j25) j26) j27) j28) j29) j30) j31) j32)
theorem proved:Rows.FnDrainedSaid:=
 OpenClaim.holds_of_wide 6 Tryz.f6 rfl rfl rfl rfl rfl rfl rfl ⟨rfl,rfl,rfl,rfl,rfl⟩ rfl rfl rfl rfl rfl (by kernel_rfl) Tryz.func6 closed
  (bu (by kernel_rfl)) (by unfold Func.isWrapper;first|(rw[aH (by decide+kernel)];kernel_rfl)|(rw[aI (by decide+kernel)];exact⟨rfl,rfl⟩))
  (λos started H enc _=>lifted os started H enc)
end Go.Proofs.YtainmjjkipbciaaGreat.Drained
