/- FnMovedAlike: for every input the law returns true, and each argument zw_reads behind the call as it read before. No condition. -/
import Derived.Test.YtinkcmefgciifaaGreatSeat
import Derived.Test.YtinkcmefgciifaaGreatPuLawMovedAlike
namespace Go.Proofs.YtinkcmefgciifaaGreat.MovedAlike
open Go.Dn Go.ChangeShapes Go.WideShapes Go.ChangeAt Go.RowKit
set_option maxRecDepth 100000
theorem own:ownKnob Tryz.prog.godebug=none:=by kernel_rfl
theorem laidOut:laidOutB Tryz.prog=true:=by kernel_rfl
theorem ahm:Tryz.prog.underlying 4=some .bool:=by kernel_rfl
theorem aeV:Tryz.f5.params.toList.all (λt=>Tryz.prog.readableRec t&&decide (t<Tryz.prog.types.size))=true:=by kernel_rfl
theorem ty0:OU Tryz.prog 3 22 (.sl (.int .u8))=true:=by kernel_rfl
theorem ag0:ahg Tryz.prog 22=false:=by kernel_rfl
theorem afE:∀{t:CT}{x:t.D},InR t x->Pu.Yw t x
 | .int _,_,h=>h
 | .bool,_,_=>trivial
 | .str,_,h=>h
 | .sl _,_,h=>⟨h.1,λx hx=>afE (h.2 x hx)⟩
 | .pair _ _,_,h=>⟨afE h.1,afE h.2⟩
theorem abH (H:Type)(enc:TypeId×Value->H)(W:World)(base:Nat)(args:Array Value)(ds gs:ax (DataW H))(before:ax MemPlace)(EV:∀(j:Nat) t v,Tryz.f5.params[j]?=some t->args[j]?=some v->Value.okWide Tryz.prog W .any base t v)(hW:DataW.Whole enc Tryz.prog Tryz.f5.params.toList Rows.fnMovedAlikeSpec.vars false W args.toList ds gs before): Calls Tryz.prog 5 args W λe W'=>∃v,e=.returned v/\Rows.fnMovedAlikeSpec.post enc Tryz.prog Tryz.f5 false true false false W args v W':=by
 have hW':=hW;obtain⟨p,q,hA0,hV,rfl,hfz,DA⟩:=hW;have hA:DataW.TrodAll enc Tryz.prog W 0 (λ_=>true) true Tryz.f5.params.toList args.toList ds p:=hA0;rw[Tryz.params5]at hA EV;obtain⟨v0,vs0,d0,ds0,p0,q0,an7,rfl,rfl,h0,r0⟩:=trodAll_cons hA;obtain⟨rfl,rfl,rfl⟩:=trodAll_nil r0;obtain rfl:args=#[v0]:=by cases args;simp_all
 obtain⟨rfl,rfl⟩:=trodVars_none hV;obtain⟨x0,hx0,hi0⟩:=adD ty0 ag0 (EV 0 22 v0 rfl rfl) h0;have hy:(Fn.xx).fn (lq Fn.rD (x0,()))=some true:=(Pu.Jx x0 (afE hi0))
 refine(ZW Fn.D1 rfl rfl (vs:=[v0]) (xs:=lq Fn.rD (x0,())) ⟨hx0,cq⟩ (y:=true) hy rfl).mono λe W' ⟨he,hb⟩=>?_;subst he;exact⟨_,rfl,ado laidOut aeV (by kernel_rfl) ahm rfl rfl hW' hb⟩
theorem lifted (os:Os)(started:os.Started)(H:Type)(enc:TypeId×Value->H): ReturnsInHanded {} Tryz.checked os 5 .any (Rows.fnMovedAlikeSpec.pre6 enc Tryz.prog Tryz.f5 Rows.fnMovedAlikeRow.domain false) (Rows.fnMovedAlikeSpec.post enc Tryz.prog Tryz.f5 false true false false):=by refine returnsInHanded_of_change (C:=Tryz.checked) own started (by kernel_rfl) Tryz.func5 (ChangeSpec.witness6 (enc:=enc) (C:=Tryz.checked) false ⟨#[],#[.slice none 0 0],[]⟩ 8 (by kernel_rfl) (by kernel_rfl) (by kernel_rfl) (by kernel_rfl)) ?_;intro W base args ds gs before EV hW _ _;exact abH H enc W base args ds gs before EV hW
theorem j1:(Rows.fnMovedAlikeRow.wf (OpenSpec.ofChange Rows.fnMovedAlikeSpec))=true:=by kernel_rfl
theorem j2:(laidOutB Tryz.prog)=true:=by kernel_rfl
theorem j3:(mapsRowed Tryz.prog)=true:=by kernel_rfl
theorem j4:(Tryz.f5.params.all (Tryz.prog.readableRec ·))=true:=by kernel_rfl
theorem j5:(namedTie Tryz.prog Rows.fnMovedAlikeRow.named Rows.fnMovedAlikeSpec.vars)=true:=by kernel_rfl
theorem j6:(Rows.fnMovedAlikeRow.stops==[])=true:=by kernel_rfl
theorem j7:(Tryz.prog.stops==[])=true:=by kernel_rfl
theorem j8:(Rows.fnMovedAlikeRow.knobs==[])=true:=by kernel_rfl
theorem j9:(Tryz.prog.stopKnobs==[])=true:=by kernel_rfl
theorem j10:(Rows.fnMovedAlikeRow.inPlace==Tryz.prog.inPlace 5)=true:=by kernel_rfl
theorem j11:(Rows.fnMovedAlikeRow.unfollowed==Tryz.prog.unfollowed 5)=true:=by kernel_rfl
theorem j12:(Rows.fnMovedAlikeRow.recurses==Tryz.prog.recurses 5)=true:=by kernel_rfl
theorem j13:(Rows.fnMovedAlikeRow.named==Tryz.prog.varsNamed 5)=true:=by kernel_rfl
theorem j14:(Rows.fnMovedAlikeRow.maps==(Tryz.f5.params.toList++Rows.fnMovedAlikeSpec.plain.varTypes Tryz.prog).any (Tryz.prog.mapsRec ·))=true:=by kernel_rfl
theorem j15:(Rows.fnMovedAlikeRow.ifaces==(Tryz.f5.params.toList++Rows.fnMovedAlikeSpec.plain.varTypes Tryz.prog).any (Tryz.prog.ifacesRec ·))=true:=by kernel_rfl
theorem j16:(Rows.fnMovedAlikeRow.mapsOut==Tryz.prog.mapsAmong Tryz.f5.resultTypes.toList)=true:=by kernel_rfl
theorem j17:(Rows.fnMovedAlikeRow.loops==(Tryz.f5.params.toList++Rows.fnMovedAlikeSpec.plain.varTypes Tryz.prog).any (Tryz.prog.loopsFrom ·))=true:=by kernel_rfl
theorem j18:(Rows.fnMovedAlikeRow.wideKeys==(Tryz.f5.params.toList++Rows.fnMovedAlikeSpec.plain.varTypes Tryz.prog++Tryz.f5.resultTypes.toList).any (Tryz.prog.wideKeysFrom ·))=true:=by kernel_rfl
theorem j19:(Rows.fnMovedAlikeSpec.vars.all (Tryz.prog.varReadable ·))=true:=by kernel_rfl
theorem j20:(Tryz.f5.resultTypes.all (λt=>Tryz.prog.readableRec t&&decide (t<Tryz.prog.types.size)))=true:=by kernel_rfl
theorem j21:(Rows.fnMovedAlikeRow.ifacesOut==Tryz.f5.resultTypes.toList.any (Tryz.prog.ifacesRec ·))=true:=by kernel_rfl
theorem j22:(Rows.fnMovedAlikeRow.loopsOut==Tryz.f5.resultTypes.toList.any (Tryz.prog.loopsFrom ·))=true:=by kernel_rfl
theorem j23:(Rows.fnMovedAlikeRow.plainKeys==Tryz.prog.plainKeys)=true:=by kernel_rfl
theorem j24:(Rows.fnMovedAlikeRow.shortTexts.isNone)=true:=by kernel_rfl
theorem j25:(Tryz.prog.stopsHeard)=true:=by kernel_rfl
theorem j26:(Tryz.prog.mayEnter)=true:=by kernel_rfl
theorem j27:(Rows.fnMovedAlikeRow.lifted==Tryz.prog.liftsFinal)=true:=by kernel_rfl
theorem j28:(Tryz.prog.make==some Rows.fnMovedAlikeRow.make)=true:=by kernel_rfl
theorem j29:(Rows.fnMovedAlikeRow.kinds==(if Rows.fnMovedAlikeRow.domain.isEmpty then [] else Tryz.f5.params.toList.map λt=>match Tryz.prog.underlying t with|some (.int k)=>some k|_=>none))=true:=by kernel_rfl
theorem j30:(Rows.fnMovedAlikeRow.pinned==Rows.fnMovedAlikeRow.pinnedBy)=true:=by kernel_rfl
theorem j31:(Rows.fnMovedAlikeRow.veiled==(Tryz.f5.params.toList++Rows.fnMovedAlikeSpec.plain.varTypes Tryz.prog++Tryz.f5.resultTypes.toList).any (Tryz.prog.veiledRec ·))=true:=by kernel_rfl
theorem j32:(Rows.fnMovedAlikeRow.veiledFits Tryz.prog Tryz.f5.params.toList (Tryz.f5.params.toList++Rows.fnMovedAlikeSpec.plain.varTypes Tryz.prog++Tryz.f5.resultTypes.toList))=true:=by kernel_rfl
theorem sX {a b:Bool}(h:a=true)(g:b=true):(a&&b)=true:=by rw[h,g];rfl
theorem closed:joinedFacts Tryz.prog 5 Tryz.f5 Rows.fnMovedAlikeSpec Rows.fnMovedAlikeRow=true:=by unfold joinedFacts;exact(sX (sX (sX (sX (sX (sX (sX (sX (sX (sX (sX (sX (sX (sX (sX (sX (sX (sX (sX (sX (sX (sX (sX (sX (sX (sX (sX (sX (sX (sX (sX j1 j2) j3) j4) j5) j6) j7) j8) j9) j10) j11) j12) j13) j14) j15) j16) j17) j18) j19) j20) j21) j22) j23) j24) j25) j26) j27) j28) j29) j30) j31) j32)
theorem proved:Rows.FnMovedAlikeSaid:=
 OpenClaim.holds_of_wide 5 Tryz.f5 rfl rfl rfl rfl rfl rfl rfl ⟨rfl,rfl,rfl,rfl,rfl⟩ rfl rfl rfl rfl rfl (by kernel_rfl) Tryz.func5 closed
  (bk (by kernel_rfl)) (by unfold Func.isWrapper;first|(rw[aH (by decide+kernel)];kernel_rfl)|(rw[aI (by decide+kernel)];exact⟨rfl,rfl⟩))
  (λos started H enc _=>lifted os started H enc)
end Go.Proofs.YtinkcmefgciifaaGreat.MovedAlike
