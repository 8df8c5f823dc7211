/- FnResetOnce: for every input the law returns true, and each argument reads behind the call as it read before. No condition. -/
import Derived.Test.YtnmppgnbjfdffaaGreatSeat
import Derived.Test.YtnmppgnbjfdffaaGreatPuLawResetOnce
namespace Go.Proofs.YtnmppgnbjfdffaaGreat.ResetOnce
open Go.Dn Go.ChangeShapes Go.WideShapes Go.ChangeAt Go.RowKit
set_option maxRecDepth 100000
theorem own:ownKnob Tryz.prog.godebug=none:=by kernel_rfl
theorem laidOut:laidOutB Tryz.prog=true:=by kernel_rfl
theorem ae4:Tryz.prog.underlying 4=some .bool:=by kernel_rfl
theorem reads:Tryz.f4.params.toList.all (λt=>Tryz.prog.readableRec t&&decide (t<Tryz.prog.types.size))=true:=by kernel_rfl
theorem ty0:NA Tryz.prog 3 22 (.sl (.int .u8))=true:=by kernel_rfl
theorem ag0:aeY Tryz.prog 22=false:=by kernel_rfl
theorem adl:∀{t:CT}{x:t.D},Zg t x->Pu.Zv t x
 | .int _,_,h=>h
 | .bool,_,_=>trivial
 | .str,_,h=>h
 | .sl _,_,h=>⟨h.1,λx hx=>adl (h.2 x hx)⟩
 | .pair _ _,_,h=>⟨adl h.1,adl h.2⟩
theorem ZK (H:Type)(enc:TypeId×Value->H)(W:World)(base:Nat)(args:Array Value)(ds gs:aw (DataW H))(before:aw MemPlace)(DY:∀(j:Nat) t v,Tryz.f4.params[j]?=some t->args[j]?=some v->Value.okWide Tryz.prog W .any base t v)(hW:DataW.Whole enc Tryz.prog Tryz.f4.params.toList Rows.fnResetOnceSpec.vars false W args.toList ds gs before): Calls Tryz.prog 4 args W λe W'=>∃v,e=.returned v/\Rows.fnResetOnceSpec.post enc Tryz.prog Tryz.f4 false true false false W args v W':=by
 have hW':=hW;obtain⟨p,q,hA0,hV,rfl,hfz,CI⟩:=hW;have hA:DataW.TrodAll enc Tryz.prog W 0 (λ_=>true) true Tryz.f4.params.toList args.toList ds p:=hA0;rw[Tryz.params4]at hA DY;obtain⟨v0,vs0,d0,ds0,p0,q0,aln,rfl,rfl,h0,r0⟩:=trodAll_cons hA;obtain⟨rfl,rfl,rfl⟩:=trodAll_nil r0;obtain rfl:args=#[v0]:=by cases args;simp_all
 obtain⟨rfl,rfl⟩:=trodVars_none hV;obtain⟨x0,hx0,hi0⟩:=abt ty0 ag0 (DY 0 22 v0 rfl rfl) h0;have hy:(Fn.xA).fn (kG Fn.rV (x0,()))=some true:=(Pu.Ky x0 (adl hi0))
 refine(XJ Fn.D6 rfl rfl (vs:=[v0]) (xs:=kG Fn.rV (x0,())) ⟨hx0,cr⟩ (y:=true) hy rfl).mono λe W' ⟨he,hb⟩=>?_;subst he;exact⟨_,rfl,abb laidOut reads (by kernel_rfl) ae4 rfl rfl hW' hb⟩
theorem lifted (os:Os)(started:os.Started)(H:Type)(enc:TypeId×Value->H): ReturnsInHanded {} Tryz.checked os 4 .any (Rows.fnResetOnceSpec.pre6 enc Tryz.prog Tryz.f4 Rows.fnResetOnceRow.domain false) (Rows.fnResetOnceSpec.post enc Tryz.prog Tryz.f4 false true false false):=by refine returnsInHanded_of_change (C:=Tryz.checked) own started (by kernel_rfl) Tryz.func4 (ChangeSpec.witness6 (enc:=enc) (C:=Tryz.checked) false ⟨#[],#[.slice none 0 0],[]⟩ 8 (by kernel_rfl) (by kernel_rfl) (by kernel_rfl) (by kernel_rfl)) ?_;intro W base args ds gs before DY hW _ _;exact ZK H enc W base args ds gs before DY hW
theorem j1:(Rows.fnResetOnceRow.wf (OpenSpec.ofChange Rows.fnResetOnceSpec))=true:=by kernel_rfl
theorem j2:(laidOutB Tryz.prog)=true:=by kernel_rfl
theorem j3:(mapsRowed Tryz.prog)=true:=by kernel_rfl
theorem j4:(Tryz.f4.params.all (Tryz.prog.readableRec ·))=true:=by kernel_rfl
theorem j5:(namedTie Tryz.prog Rows.fnResetOnceRow.named Rows.fnResetOnceSpec.vars)=true:=by kernel_rfl
theorem j6:(Rows.fnResetOnceRow.stops==[])=true:=by kernel_rfl
theorem j7:(Tryz.prog.stops==[])=true:=by kernel_rfl
theorem j8:(Rows.fnResetOnceRow.knobs==[])=true:=by kernel_rfl
theorem j9:(Tryz.prog.stopKnobs==[])=true:=by kernel_rfl
theorem j10:(Rows.fnResetOnceRow.inPlace==Tryz.prog.inPlace 4)=true:=by kernel_rfl
theorem j11:(Rows.fnResetOnceRow.unfollowed==Tryz.prog.unfollowed 4)=true:=by kernel_rfl
theorem j12:(Rows.fnResetOnceRow.recurses==Tryz.prog.recurses 4)=true:=by kernel_rfl
theorem j13:(Rows.fnResetOnceRow.named==Tryz.prog.varsNamed 4)=true:=by kernel_rfl
theorem j14:(Rows.fnResetOnceRow.maps==(Tryz.f4.params.toList++Rows.fnResetOnceSpec.plain.varTypes Tryz.prog).any (Tryz.prog.mapsRec ·))=true:=by kernel_rfl
theorem j15:(Rows.fnResetOnceRow.ifaces==(Tryz.f4.params.toList++Rows.fnResetOnceSpec.plain.varTypes Tryz.prog).any (Tryz.prog.ifacesRec ·))=true:=by kernel_rfl
theorem j16:(Rows.fnResetOnceRow.mapsOut==Tryz.prog.mapsAmong Tryz.f4.resultTypes.toList)=true:=by kernel_rfl
theorem j17:(Rows.fnResetOnceRow.loops==(Tryz.f4.params.toList++Rows.fnResetOnceSpec.plain.varTypes Tryz.prog).any (Tryz.prog.loopsFrom ·))=true:=by kernel_rfl
theorem j18:(Rows.fnResetOnceRow.wideKeys==(Tryz.f4.params.toList++Rows.fnResetOnceSpec.plain.varTypes Tryz.prog++Tryz.f4.resultTypes.toList).any (Tryz.prog.wideKeysFrom ·))=true:=by kernel_rfl
theorem j19:(Rows.fnResetOnceSpec.vars.all (Tryz.prog.varReadable ·))=true:=by kernel_rfl
theorem j20:(Tryz.f4.resultTypes.all (λt=>Tryz.prog.readableRec t&&decide (t<Tryz.prog.types.size)))=true:=by kernel_rfl
theorem j21:(Rows.fnResetOnceRow.ifacesOut==Tryz.f4.resultTypes.toList.any (Tryz.prog.ifacesRec ·))=true:=by kernel_rfl
theorem j22:(Rows.fnResetOnceRow.loopsOut==Tryz.f4.resultTypes.toList.any (Tryz.prog.loopsFrom ·))=true:=by kernel_rfl
theorem j23:(Rows.fnResetOnceRow.plainKeys==Tryz.prog.plainKeys)=true:=by kernel_rfl
theorem j24:(Rows.fnResetOnceRow.shortTexts.isNone)=true:=by kernel_rfl
theorem j25:(Tryz.prog.stopsHeard)=true:=by kernel_rfl
theorem j26:(Tryz.prog.mayEnter)=true:=by kernel_rfl
theorem j27:(Rows.fnResetOnceRow.lifted==Tryz.prog.liftsFinal)=true:=by kernel_rfl
theorem j28:(Tryz.prog.make==some Rows.fnResetOnceRow.make)=true:=by kernel_rfl
theorem j29:(Rows.fnResetOnceRow.kinds==(if Rows.fnResetOnceRow.domain.isEmpty then [] else Tryz.f4.params.toList.map λt=>match Tryz.prog.underlying t with|some (.int k)=>some k|_=>none))=true:=by kernel_rfl
theorem j30:(Rows.fnResetOnceRow.pinned==Rows.fnResetOnceRow.pinnedBy)=true:=by kernel_rfl
theorem j31:(Rows.fnResetOnceRow.veiled==(Tryz.f4.params.toList++Rows.fnResetOnceSpec.plain.varTypes Tryz.prog++Tryz.f4.resultTypes.toList).any (Tryz.prog.veiledRec ·))=true:=by kernel_rfl
theorem j32:(Rows.fnResetOnceRow.veiledFits Tryz.prog Tryz.f4.params.toList (Tryz.f4.params.toList++Rows.fnResetOnceSpec.plain.varTypes Tryz.prog++Tryz.f4.resultTypes.toList))=true:=by kernel_rfl
theorem rM {a b:Bool}(h:a=true)(g:b=true):(a&&b)=true:=by rw[h,g];rfl
theorem closed:joinedFacts Tryz.prog 4 Tryz.f4 Rows.fnResetOnceSpec Rows.fnResetOnceRow=true:=by unfold joinedFacts;exact(rM (rM (rM (rM (rM (rM (rM (rM (rM (rM (rM (rM (rM (rM (rM (rM (rM (rM (rM (rM (rM (rM (rM (rM (rM (rM (rM (rM (rM (rM (rM j1 j2) j3) j4) j5) j6) j7) j8) j9) j10) j11) j12) j13) j14) j15) j16) j17) j18) j19) j20) j21) j22) j23) j24) j25) j26) j27) j28) j29) j30) j31) j32)
theorem proved:Rows.FnResetOnceSaid:=
 OpenClaim.holds_of_wide 4 Tryz.f4 rfl rfl rfl rfl rfl rfl rfl ⟨rfl,rfl,rfl,rfl,rfl⟩ rfl rfl rfl rfl rfl (by kernel_rfl) Tryz.func4 closed
  (bh (by kernel_rfl)) (by unfold Func.isWrapper;first|(rw[aF (by decide+kernel)];kernel_rfl)|(rw[aG (by decide+kernel)];exact⟨rfl,rfl⟩))
  (λos started H enc _=>lifted os started H enc)
end Go.Proofs.YtnmppgnbjfdffaaGreat.ResetOnce
