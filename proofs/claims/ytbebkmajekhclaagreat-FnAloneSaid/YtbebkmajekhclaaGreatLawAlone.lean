/- FnAlone: for every input the law returns true, and each argument reads behind the call as it read before. No condition. -/
import Derived.Test.YtbebkmajekhclaaGreatSeat
import Derived.Test.YtbebkmajekhclaaGreatPuLawAlone
namespace Go.Proofs.YtbebkmajekhclaaGreat.Alone
open Go.Dn Go.ChangeShapes Go.WideShapes Go.ChangeAt Go.RowKit
set_option maxRecDepth 100000
theorem own:ownKnob Tryz.prog.godebug=none:=by kernel_rfl
theorem laidOut:laidOutB Tryz.prog=true:=by kernel_rfl
theorem anK:Tryz.prog.underlying 4=some .bool:=by kernel_rfl
theorem reads:Tryz.f5.params.toList.all (λt=>Tryz.prog.readableRec t&&decide (t<Tryz.prog.types.size))=true:=by kernel_rfl
theorem ty0:TN Tryz.prog 3 22 (.sl (.int .u8))=true:=by kernel_rfl
theorem ag0:anE Tryz.prog 22=false:=by kernel_rfl
theorem aly:∀{t:CT}{x:t.D},InR t x->Pu.ag8 t x
 | .int _,_,h=>h
 | .bool,_,_=>trivial
 | .str,_,h=>h
 | .sl _,_,h=>⟨h.1,λx hx=>aly (h.2 x hx)⟩
 | .pair _ _,_,h=>⟨aly h.1,aly h.2⟩
theorem ahs (H:Type)(enc:TypeId×Value->H)(W:World)(base:Nat)(args:Array Value)(ds gs:aw (DataW H))(before:aw MemPlace)(Im:∀(j:Nat) t v,Tryz.f5.params[j]?=some t->args[j]?=some v->Value.okWide Tryz.prog W .any base t v)(hW:DataW.Whole enc Tryz.prog Tryz.f5.params.toList Rows.fnAloneSpec.vars false W args.toList ds gs before): Calls Tryz.prog 5 args W λe W'=>∃v,e=.returned v/\Rows.fnAloneSpec.post enc Tryz.prog Tryz.f5 false true false false W args v W':=by
 have hW':=hW;obtain⟨p,q,hA0,hV,rfl,hfz,GX⟩:=hW;have hA:DataW.TrodAll enc Tryz.prog W 0 (λ_=>true) true Tryz.f5.params.toList args.toList ds p:=hA0;rw[Tryz.params5]at hA Im;obtain⟨v0,vs0,d0,ds0,p0,q0,ave,rfl,rfl,h0,r0⟩:=trodAll_cons hA;obtain⟨rfl,rfl,rfl⟩:=trodAll_nil r0;obtain rfl:args=#[v0]:=by cases args;simp_all
 obtain⟨rfl,rfl⟩:=trodVars_none hV;obtain⟨x0,hx0,hi0⟩:=ajp ty0 ag0 (Im 0 22 v0 rfl rfl) h0;have hy:(Fn.FC).fn (mm Fn.Cc (x0,()))=some true:=(Pu.ZQ x0 (aly hi0))
 refine(afB Fn.PF rfl rfl (vs:=[v0]) (xs:=mm Fn.Cc (x0,())) ⟨hx0,cy⟩ (y:=true) hy rfl).mono λe W' ⟨he,hb⟩=>?_;subst he;exact⟨_,rfl,ai6 laidOut reads (by kernel_rfl) anK rfl rfl hW' hb⟩
theorem lifted (os:Os)(started:os.Started)(H:Type)(enc:TypeId×Value->H): ReturnsInHanded {} Tryz.checked os 5 .any (Rows.fnAloneSpec.pre6 enc Tryz.prog Tryz.f5 Rows.fnAloneRow.domain false) (Rows.fnAloneSpec.post enc Tryz.prog Tryz.f5 false true false false):=by refine returnsInHanded_of_change (C:=Tryz.checked) own started (by kernel_rfl) Tryz.func5 (ChangeSpec.witness6 (enc:=enc) (C:=Tryz.checked) false ⟨#[],#[.slice none 0 0],[]⟩ 8 (by kernel_rfl) (by kernel_rfl) (by kernel_rfl) (by kernel_rfl)) ?_;intro W base args ds gs before Im hW _ _;exact ahs H enc W base args ds gs before Im hW
theorem j1:(Rows.fnAloneRow.wf (OpenSpec.ofChange Rows.fnAloneSpec))=true:=by kernel_rfl
theorem j2:(laidOutB Tryz.prog)=true:=by kernel_rfl
theorem j3:(mapsRowed Tryz.prog)=true:=by kernel_rfl
theorem j4:(Tryz.f5.params.all (Tryz.prog.readableRec ·))=true:=by kernel_rfl
theorem j5:(namedTie Tryz.prog Rows.fnAloneRow.named Rows.fnAloneSpec.vars)=true:=by kernel_rfl
theorem j6:(Rows.fnAloneRow.stops==[])=true:=by kernel_rfl
theorem j7:(Tryz.prog.stops==[])=true:=by kernel_rfl
theorem j8:(Rows.fnAloneRow.knobs==[])=true:=by kernel_rfl
theorem j9:(Tryz.prog.stopKnobs==[])=true:=by kernel_rfl
theorem j10:(Rows.fnAloneRow.inPlace==Tryz.prog.inPlace 5)=true:=by kernel_rfl
theorem j11:(Rows.fnAloneRow.unfollowed==Tryz.prog.unfollowed 5)=true:=by kernel_rfl
theorem j12:(Rows.fnAloneRow.recurses==Tryz.prog.recurses 5)=true:=by kernel_rfl
theorem j13:(Rows.fnAloneRow.named==Tryz.prog.varsNamed 5)=true:=by kernel_rfl
theorem j14:(Rows.fnAloneRow.maps==(Tryz.f5.params.toList++Rows.fnAloneSpec.plain.varTypes Tryz.prog).any (Tryz.prog.mapsRec ·))=true:=by kernel_rfl
theorem j15:(Rows.fnAloneRow.ifaces==(Tryz.f5.params.toList++Rows.fnAloneSpec.plain.varTypes Tryz.prog).any (Tryz.prog.ifacesRec ·))=true:=by kernel_rfl
theorem j16:(Rows.fnAloneRow.mapsOut==Tryz.prog.mapsAmong Tryz.f5.resultTypes.toList)=true:=by kernel_rfl
theorem j17:(Rows.fnAloneRow.loops==(Tryz.f5.params.toList++Rows.fnAloneSpec.plain.varTypes Tryz.prog).any (Tryz.prog.loopsFrom ·))=true:=by kernel_rfl
theorem j18:(Rows.fnAloneRow.wideKeys==(Tryz.f5.params.toList++Rows.fnAloneSpec.plain.varTypes Tryz.prog++Tryz.f5.resultTypes.toList).any (Tryz.prog.wideKeysFrom ·))=true:=by kernel_rfl
theorem j19:(Rows.fnAloneSpec.vars.all (Tryz.prog.varReadable ·))=true:=by kernel_rfl
theorem j20:(Tryz.f5.resultTypes.all (λt=>Tryz.prog.readableRec t&&decide (t<Tryz.prog.types.size)))=true:=by kernel_rfl
theorem j21:(Rows.fnAloneRow.ifacesOut==Tryz.f5.resultTypes.toList.any (Tryz.prog.ifacesRec ·))=true:=by kernel_rfl
theorem j22:(Rows.fnAloneRow.loopsOut==Tryz.f5.resultTypes.toList.any (Tryz.prog.loopsFrom ·))=true:=by kernel_rfl
theorem j23:(Rows.fnAloneRow.plainKeys==Tryz.prog.plainKeys)=true:=by kernel_rfl
theorem j24:(Rows.fnAloneRow.shortTexts.isNone)=true:=by kernel_rfl
theorem j25:(Tryz.prog.stopsHeard)=true:=by kernel_rfl
theorem j26:(Tryz.prog.mayEnter)=true:=by kernel_rfl
theorem j27:(Rows.fnAloneRow.lifted==Tryz.prog.liftsFinal)=true:=by kernel_rfl
theorem j28:(Tryz.prog.make==some Rows.fnAloneRow.make)=true:=by kernel_rfl
theorem j29:(Rows.fnAloneRow.kinds==(if Rows.fnAloneRow.domain.isEmpty then [] else Tryz.f5.params.toList.map λt=>match Tryz.prog.underlying t with|some (.int k)=>some k|_=>none))=true:=by kernel_rfl
theorem j30:(Rows.fnAloneRow.pinned==Rows.fnAloneRow.pinnedBy)=true:=by kernel_rfl
theorem j31:(Rows.fnAloneRow.veiled==(Tryz.f5.params.toList++Rows.fnAloneSpec.plain.varTypes Tryz.prog++Tryz.f5.resultTypes.toList).any (Tryz.prog.veiledRec ·))=true:=by kernel_rfl
theorem j32:(Rows.fnAloneRow.veiledFits Tryz.prog Tryz.f5.params.toList (Tryz.f5.params.toList++Rows.fnAloneSpec.plain.varTypes Tryz.prog++Tryz.f5.resultTypes.toList))=true:=by kernel_rfl
theorem vx {a b:Bool}(h:a=true)(g:b=true):(a&&b)=true:=by rw[h,g];rfl
theorem closed:joinedFacts Tryz.prog 5 Tryz.f5 Rows.fnAloneSpec Rows.fnAloneRow=true:=by unfold joinedFacts;exact(vx (vx (vx (vx (vx (vx (vx (vx (vx (vx (vx (vx (vx (vx (vx (vx (vx (vx (vx (vx (vx (vx (vx (vx (vx (vx (vx (vx (vx (vx (vx j1 j2) j3) j4) j5) j6) j7) j8) j9) j10) j11) j12) j13) j14) j15) j16) j17) j18) j19) j20) j21) j22) j23) j24) j25) j26) j27) j28) j29) j30) j31) j32)
theorem proved:Rows.FnAloneSaid:=
 OpenClaim.holds_of_wide 5 Tryz.f5 rfl rfl rfl rfl rfl rfl rfl ⟨rfl,rfl,rfl,rfl,rfl⟩ rfl rfl rfl rfl rfl (by kernel_rfl) Tryz.func5 closed
  (bt (by kernel_rfl)) (by unfold Func.isWrapper;first|(rw[aH (by decide+kernel)];kernel_rfl)|(rw[aG (by decide+kernel)];exact⟨rfl,rfl⟩))
  (λos started H enc _=>lifted os started H enc)
end Go.Proofs.YtbebkmajekhclaaGreat.Alone
