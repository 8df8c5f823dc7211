/- FnResetWorks: for every input the law returns true, and each argument reads behind the call as it read before. No condition. -/
import Derived.Test.YtinkcmefgciifaaGreatSeat
import Derived.Test.YtinkcmefgciifaaGreatPuLawResetWorks
namespace Go.Proofs.YtinkcmefgciifaaGreat.ResetWorks
open Go.Dn Go.ChangeShapes Go.WideShapes Go.ChangeAt Go.RowKit
set_option maxRecDepth 100000
theorem own:ownKnob Tryz.prog.godebug=none:=by kernel_rfl
theorem laidOut:laidOutB Tryz.prog=true:=by kernel_rfl
theorem alz:Tryz.prog.underlying 4=some .bool:=by kernel_rfl
theorem reads:Tryz.f7.params.toList.all (λt=>Tryz.prog.readableRec t&&decide (t<Tryz.prog.types.size))=true:=by kernel_rfl
theorem ty0:TH Tryz.prog 3 22 (.sl (.int .u8))=true:=by kernel_rfl
theorem ag0:als Tryz.prog 22=false:=by kernel_rfl
theorem ajM:∀{t:CT}{x:t.D},InR t x->Pu.afB t x
 | .int _,_,h=>h
 | .bool,_,_=>trivial
 | .str,_,h=>h
 | .sl _,_,h=>⟨h.1,λx hx=>ajM (h.2 x hx)⟩
 | .pair _ _,_,h=>⟨ajM h.1,ajM h.2⟩
theorem afR (H:Type)(enc:TypeId×Value->H)(W:World)(base:Nat)(args:Array Value)(ds gs:az (DataW H))(before:az MemPlace)(H9:∀(j:Nat) t v,Tryz.f7.params[j]?=some t->args[j]?=some v->Value.okWide Tryz.prog W .any base t v)(hW:DataW.Whole enc Tryz.prog Tryz.f7.params.toList Rows.fnResetWorksSpec.vars false W args.toList ds gs before): Calls Tryz.prog 7 args W λe W'=>∃v,e=.returned v/\Rows.fnResetWorksSpec.post enc Tryz.prog Tryz.f7 false true false false W args v W':=by
 have hW':=hW;obtain⟨p,q,hA0,hV,rfl,hfz,GW⟩:=hW;have hA:DataW.TrodAll enc Tryz.prog W 0 (λ_=>true) true Tryz.f7.params.toList args.toList ds p:=hA0;rw[Tryz.params7]at hA H9;obtain⟨v0,vs0,d0,ds0,p0,q0,asf,rfl,rfl,h0,r0⟩:=trodAll_cons hA;obtain⟨rfl,rfl,rfl⟩:=trodAll_nil r0;obtain rfl:args=#[v0]:=by cases args;simp_all
 obtain⟨rfl,rfl⟩:=trodVars_none hV;obtain⟨x0,hx0,hi0⟩:=ahN ty0 ag0 (H9 0 22 v0 rfl rfl) h0;have hy:(Fn.Ax).fn (nb Fn.uo (x0,()))=some true:=(Pu.Nf x0 (ajM hi0))
 refine(ad5 Fn.Hm rfl rfl (vs:=[v0]) (xs:=nb Fn.uo (x0,())) ⟨hx0,cM⟩ (y:=true) hy rfl).mono λe W' ⟨he,hb⟩=>?_;subst he;exact⟨_,rfl,ahv laidOut reads (by kernel_rfl) alz rfl rfl hW' hb⟩
theorem lifted (os:Os)(started:os.Started)(H:Type)(enc:TypeId×Value->H): ReturnsInHanded {} Tryz.checked os 7 .any (Rows.fnResetWorksSpec.pre6 enc Tryz.prog Tryz.f7 Rows.fnResetWorksRow.domain false) (Rows.fnResetWorksSpec.post enc Tryz.prog Tryz.f7 false true false false):=by refine returnsInHanded_of_change (C:=Tryz.checked) own started (by kernel_rfl) Tryz.func7 (ChangeSpec.witness6 (enc:=enc) (C:=Tryz.checked) false ⟨#[],#[.slice none 0 0],[]⟩ 8 (by kernel_rfl) (by kernel_rfl) (by kernel_rfl) (by kernel_rfl)) ?_;intro W base args ds gs before H9 hW _ _;exact afR H enc W base args ds gs before H9 hW
theorem j1:(Rows.fnResetWorksRow.wf (OpenSpec.ofChange Rows.fnResetWorksSpec))=true:=by kernel_rfl
theorem j2:(laidOutB Tryz.prog)=true:=by kernel_rfl
theorem j3:(mapsRowed Tryz.prog)=true:=by kernel_rfl
theorem j4:(Tryz.f7.params.all (Tryz.prog.readableRec ·))=true:=by kernel_rfl
theorem j5:(namedTie Tryz.prog Rows.fnResetWorksRow.named Rows.fnResetWorksSpec.vars)=true:=by kernel_rfl
theorem j6:(Rows.fnResetWorksRow.stops==[])=true:=by kernel_rfl
theorem j7:(Tryz.prog.stops==[])=true:=by kernel_rfl
theorem j8:(Rows.fnResetWorksRow.knobs==[])=true:=by kernel_rfl
theorem j9:(Tryz.prog.stopKnobs==[])=true:=by kernel_rfl
theorem j10:(Rows.fnResetWorksRow.inPlace==Tryz.prog.inPlace 7)=true:=by kernel_rfl
theorem j11:(Rows.fnResetWorksRow.unfollowed==Tryz.prog.unfollowed 7)=true:=by kernel_rfl
theorem j12:(Rows.fnResetWorksRow.recurses==Tryz.prog.recurses 7)=true:=by kernel_rfl
theorem j13:(Rows.fnResetWorksRow.named==Tryz.prog.varsNamed 7)=true:=by kernel_rfl
theorem j14:(Rows.fnResetWorksRow.maps==(Tryz.f7.params.toList++Rows.fnResetWorksSpec.plain.varTypes Tryz.prog).any (Tryz.prog.mapsRec ·))=true:=by kernel_rfl
theorem j15:(Rows.fnResetWorksRow.ifaces==(Tryz.f7.params.toList++Rows.fnResetWorksSpec.plain.varTypes Tryz.prog).any (Tryz.prog.ifacesRec ·))=true:=by kernel_rfl
theorem j16:(Rows.fnResetWorksRow.mapsOut==Tryz.prog.mapsAmong Tryz.f7.resultTypes.toList)=true:=by kernel_rfl
theorem j17:(Rows.fnResetWorksRow.loops==(Tryz.f7.params.toList++Rows.fnResetWorksSpec.plain.varTypes Tryz.prog).any (Tryz.prog.loopsFrom ·))=true:=by kernel_rfl
theorem j18:(Rows.fnResetWorksRow.wideKeys==(Tryz.f7.params.toList++Rows.fnResetWorksSpec.plain.varTypes Tryz.prog++Tryz.f7.resultTypes.toList).any (Tryz.prog.wideKeysFrom ·))=true:=by kernel_rfl
theorem j19:(Rows.fnResetWorksSpec.vars.all (Tryz.prog.varReadable ·))=true:=by kernel_rfl
theorem j20:(Tryz.f7.resultTypes.all (λt=>Tryz.prog.readableRec t&&decide (t<Tryz.prog.types.size)))=true:=by kernel_rfl
theorem j21:(Rows.fnResetWorksRow.ifacesOut==Tryz.f7.resultTypes.toList.any (Tryz.prog.ifacesRec ·))=true:=by kernel_rfl
theorem j22:(Rows.fnResetWorksRow.loopsOut==Tryz.f7.resultTypes.toList.any (Tryz.prog.loopsFrom ·))=true:=by kernel_rfl
theorem j23:(Rows.fnResetWorksRow.plainKeys==Tryz.prog.plainKeys)=true:=by kernel_rfl
theorem j24:(Rows.fnResetWorksRow.shortTexts.isNone)=true:=by kernel_rfl
theorem j25:(Tryz.prog.stopsHeard)=true:=by kernel_rfl
theorem j26:(Tryz.prog.mayEnter)=true:=by kernel_rfl
theorem j27:(Rows.fnResetWorksRow.lifted==Tryz.prog.liftsFinal)=true:=by kernel_rfl
theorem j28:(Tryz.prog.make==some Rows.fnResetWorksRow.make)=true:=by kernel_rfl
theorem j29:(Rows.fnResetWorksRow.kinds==(if Rows.fnResetWorksRow.domain.isEmpty then [] else Tryz.f7.params.toList.map λt=>match Tryz.prog.underlying t with|some (.int k)=>some k|_=>none))=true:=by kernel_rfl
theorem j30:(Rows.fnResetWorksRow.pinned==Rows.fnResetWorksRow.pinnedBy)=true:=by kernel_rfl
theorem j31:(Rows.fnResetWorksRow.veiled==(Tryz.f7.params.toList++Rows.fnResetWorksSpec.plain.varTypes Tryz.prog++Tryz.f7.resultTypes.toList).any (Tryz.prog.veiledRec ·))=true:=by kernel_rfl
theorem j32:(Rows.fnResetWorksRow.veiledFits Tryz.prog Tryz.f7.params.toList (Tryz.f7.params.toList++Rows.fnResetWorksSpec.plain.varTypes Tryz.prog++Tryz.f7.resultTypes.toList))=true:=by kernel_rfl
theorem vC {a b:Bool}(h:a=true)(g:b=true):(a&&b)=true:=by rw[h,g];rfl
theorem closed:joinedFacts Tryz.prog 7 Tryz.f7 Rows.fnResetWorksSpec Rows.fnResetWorksRow=true:=by unfold joinedFacts;exact(vC (vC (vC (vC (vC (vC (vC (vC (vC (vC (vC (vC (vC (vC (vC (vC (vC (vC (vC (vC (vC (vC (vC (vC (vC (vC (vC (vC (vC (vC (vC j1 j2) j3) j4) j5) j6) j7) j8) j9) j10) j11) j12) j13) j14) j15) j16) j17) j18) j19) j20) j21) j22) j23) j24) j25) j26) j27) j28) j29) j30) j31) j32)
theorem proved:Rows.FnResetWorksSaid:=
 OpenClaim.holds_of_wide 7 Tryz.f7 rfl rfl rfl rfl rfl rfl rfl ⟨rfl,rfl,rfl,rfl,rfl⟩ rfl rfl rfl rfl rfl (by kernel_rfl) Tryz.func7 closed
  (bz (by kernel_rfl)) (by unfold Func.isWrapper;first|(rw[aJ (by decide+kernel)];kernel_rfl)|(rw[aI (by decide+kernel)];exact⟨rfl,rfl⟩))
  (λos started H enc _=>lifted os started H enc)
end Go.Proofs.YtinkcmefgciifaaGreat.ResetWorks
