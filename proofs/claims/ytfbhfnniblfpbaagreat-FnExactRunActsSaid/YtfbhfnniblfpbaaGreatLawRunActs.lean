/- FnExactRunActs: for every input the law returns true, and each argument reads behind the call as it read before. No condition. -/
import Derived.Test.YtfbhfnniblfpbaaGreatSeat
import Derived.Test.YtfbhfnniblfpbaaGreatPuLawRunActs
namespace Go.Proofs.YtfbhfnniblfpbaaGreat.RunActs
open Go.Dn Go.ChangeShapes Go.WideShapes Go.ChangeAt Go.RowKit
set_option maxRecDepth 100000
theorem own:ownKnob Tryz.prog.godebug=none:=by kernel_rfl
theorem laidOut:laidOutB Tryz.prog=true:=by kernel_rfl
theorem ah2:Tryz.prog.underlying 4=some .bool:=by kernel_rfl
theorem reads:Tryz.f7.params.toList.all (λt=>Tryz.prog.readableRec t&&decide (t<Tryz.prog.types.size))=true:=by kernel_rfl
theorem ty0:QB Tryz.prog 8 94 Pu.cI=true:=by kernel_rfl
theorem ag0:agd Tryz.prog 94=true:=by kernel_rfl
theorem ty1:QB Tryz.prog 8 95 (.sl Pu.As)=true:=by kernel_rfl
theorem ag1:agd Tryz.prog 95=false:=by kernel_rfl
theorem aeU:∀{t:CT}{x:t.D},InR t x->Pu.rM t x
 | .int _,_,h=>h
 | .bool,_,_=>trivial
 | .str,_,h=>h
 | .sl _,_,h=>⟨h.1,λx hx=>aeU (h.2 x hx)⟩
 | .pair _ _,_,h=>⟨aeU h.1,aeU h.2⟩
theorem adJ (H:Type)(enc:TypeId×Value->H)(W:World)(base:Nat)(args:Array Value)(ds gs:aq (DataW H))(before:aq MemPlace)(IC:∀(j:Nat) t v,Tryz.f7.params[j]?=some t->args[j]?=some v->Value.okWide Tryz.prog W .any base t v)(hW:DataW.Whole enc Tryz.prog Tryz.f7.params.toList Rows.fnExactRunActsSpec.vars false W args.toList ds gs before): Calls Tryz.prog 7 args W λe W'=>∃v,e=.returned v/\Rows.fnExactRunActsSpec.post enc Tryz.prog Tryz.f7 false true false false W args v W':=by
 have hW':=hW;obtain⟨p,q,hA0,hV,rfl,hfz,E3⟩:=hW;have hA:DataW.TrodAll enc Tryz.prog W 0 (λ_=>true) true Tryz.f7.params.toList args.toList ds p:=hA0;rw[Tryz.params7]at hA IC;obtain⟨v0,vs0,d0,ds0,p0,q0,aqg,rfl,rfl,h0,r0⟩:=trodAll_cons hA;obtain⟨v1,vs1,d1,ds1,p1,q1,aqh,rfl,rfl,h1,r1⟩:=trodAll_cons r0;obtain⟨rfl,rfl,rfl⟩:=trodAll_nil r1;obtain rfl:args=#[v0,v1]:=by cases args;simp_all
 obtain⟨rfl,rfl⟩:=trodVars_none hV;obtain⟨x0,XD,hi0⟩:=Wo ty0 ag0 (IC 0 94 v0 rfl rfl) h0;obtain⟨x1,hx1,hi1⟩:=Wo ty1 ag1 (IC 1 95 v1 rfl rfl) h1;have hy:(Fn.xX).fn (iy Fn.qc (x0,(x1,())))=some true:=(Pu.Ud x0 x1 (aeU hi0) (aeU hi1))
 refine(ab9 Fn.GK rfl rfl (vs:=[v0,v1]) (xs:=iy Fn.qc (x0,(x1,()))) ⟨XD,hx1,bN⟩ (y:=true) hy rfl).mono λe W' ⟨he,hb⟩=>?_;subst he;exact⟨_,rfl,ae1 laidOut reads (by kernel_rfl) ah2 rfl rfl hW' hb⟩
theorem lifted (os:Os)(started:os.Started)(H:Type)(enc:TypeId×Value->H): ReturnsInHanded {} Tryz.checked os 7 .any (Rows.fnExactRunActsSpec.pre6 enc Tryz.prog Tryz.f7 Rows.fnExactRunActsRow.domain false) (Rows.fnExactRunActsSpec.post enc Tryz.prog Tryz.f7 false true false false):=by refine returnsInHanded_of_change (C:=Tryz.checked) own started (by kernel_rfl) Tryz.func7 (ChangeSpec.witness6 (enc:=enc) (C:=Tryz.checked) false ⟨#[],#[.agg #[.slice none 0 0,.slice none 0 0,.int .i64 0,.int .i64 0,.int .i64 0,.int .i64 0,.int .i64 0,.int .i64 0,.int .i64 0,.slice none 0 0,.slice none 0 0,.int .i64 0,.slice none 0 0,.slice none 0 0,.slice none 0 0,.slice none 0 0,.int .i64 0,.bool false,.slice none 0 0,.slice none 0 0,.slice none 0 0,.string ⟨#[]⟩,.slice none 0 0,.slice none 0 0,.bool false,.slice none 0 0,.slice none 0 0,.slice none 0 0,.int .i64 0,.int .i64 0,.int .i64 0,.int .i64 0,.int .i64 0],.slice none 0 0],[]⟩ 8 (by kernel_rfl) (by kernel_rfl) (by kernel_rfl) (by kernel_rfl)) ?_;intro W base args ds gs before IC hW _ _;exact adJ H enc W base args ds gs before IC hW
theorem j1:(Rows.fnExactRunActsRow.wf (OpenSpec.ofChange Rows.fnExactRunActsSpec))=true:=by kernel_rfl
theorem j2:(laidOutB Tryz.prog)=true:=by kernel_rfl
theorem j3:(mapsRowed Tryz.prog)=true:=by kernel_rfl
theorem j4:(Tryz.f7.params.all (Tryz.prog.readableRec ·))=true:=by kernel_rfl
theorem j5:(namedTie Tryz.prog Rows.fnExactRunActsRow.named Rows.fnExactRunActsSpec.vars)=true:=by kernel_rfl
theorem j6:(Rows.fnExactRunActsRow.stops==[])=true:=by kernel_rfl
theorem j7:(Tryz.prog.stops==[])=true:=by kernel_rfl
theorem j8:(Rows.fnExactRunActsRow.knobs==[])=true:=by kernel_rfl
theorem j9:(Tryz.prog.stopKnobs==[])=true:=by kernel_rfl
theorem j10:(Rows.fnExactRunActsRow.inPlace==Tryz.prog.inPlace 7)=true:=by kernel_rfl
theorem j11:(Rows.fnExactRunActsRow.unfollowed==Tryz.prog.unfollowed 7)=true:=by kernel_rfl
theorem j12:(Rows.fnExactRunActsRow.recurses==Tryz.prog.recurses 7)=true:=by kernel_rfl
theorem j13:(Rows.fnExactRunActsRow.named==Tryz.prog.varsNamed 7)=true:=by kernel_rfl
theorem j14:(Rows.fnExactRunActsRow.maps==(Tryz.f7.params.toList++Rows.fnExactRunActsSpec.plain.varTypes Tryz.prog).any (Tryz.prog.mapsRec ·))=true:=by kernel_rfl
theorem j15:(Rows.fnExactRunActsRow.ifaces==(Tryz.f7.params.toList++Rows.fnExactRunActsSpec.plain.varTypes Tryz.prog).any (Tryz.prog.ifacesRec ·))=true:=by kernel_rfl
theorem j16:(Rows.fnExactRunActsRow.mapsOut==Tryz.prog.mapsAmong Tryz.f7.resultTypes.toList)=true:=by kernel_rfl
theorem j17:(Rows.fnExactRunActsRow.loops==(Tryz.f7.params.toList++Rows.fnExactRunActsSpec.plain.varTypes Tryz.prog).any (Tryz.prog.loopsFrom ·))=true:=by kernel_rfl
theorem j18:(Rows.fnExactRunActsRow.wideKeys==(Tryz.f7.params.toList++Rows.fnExactRunActsSpec.plain.varTypes Tryz.prog++Tryz.f7.resultTypes.toList).any (Tryz.prog.wideKeysFrom ·))=true:=by kernel_rfl
theorem j19:(Rows.fnExactRunActsSpec.vars.all (Tryz.prog.varReadable ·))=true:=by kernel_rfl
theorem j20:(Tryz.f7.resultTypes.all (λt=>Tryz.prog.readableRec t&&decide (t<Tryz.prog.types.size)))=true:=by kernel_rfl
theorem j21:(Rows.fnExactRunActsRow.ifacesOut==Tryz.f7.resultTypes.toList.any (Tryz.prog.ifacesRec ·))=true:=by kernel_rfl
theorem j22:(Rows.fnExactRunActsRow.loopsOut==Tryz.f7.resultTypes.toList.any (Tryz.prog.loopsFrom ·))=true:=by kernel_rfl
theorem j23:(Rows.fnExactRunActsRow.plainKeys==Tryz.prog.plainKeys)=true:=by kernel_rfl
theorem j24:(Rows.fnExactRunActsRow.shortTexts.isNone)=true:=by kernel_rfl
theorem j25:(Tryz.prog.stopsHeard)=true:=by kernel_rfl
theorem j26:(Tryz.prog.mayEnter)=true:=by kernel_rfl
theorem j27:(Rows.fnExactRunActsRow.lifted==Tryz.prog.liftsFinal)=true:=by kernel_rfl
theorem j28:(Tryz.prog.make==some Rows.fnExactRunActsRow.make)=true:=by kernel_rfl
theorem j29:(Rows.fnExactRunActsRow.kinds==(if Rows.fnExactRunActsRow.domain.isEmpty then [] else Tryz.f7.params.toList.map λt=>match Tryz.prog.underlying t with|some (.int k)=>some k|_=>none))=true:=by kernel_rfl
theorem j30:(Rows.fnExactRunActsRow.pinned==Rows.fnExactRunActsRow.pinnedBy)=true:=by kernel_rfl
theorem j31:(Rows.fnExactRunActsRow.veiled==(Tryz.f7.params.toList++Rows.fnExactRunActsSpec.plain.varTypes Tryz.prog++Tryz.f7.resultTypes.toList).any (Tryz.prog.veiledRec ·))=true:=by kernel_rfl
theorem j32:(Rows.fnExactRunActsRow.veiledFits Tryz.prog Tryz.f7.params.toList (Tryz.f7.params.toList++Rows.fnExactRunActsSpec.plain.varTypes Tryz.prog++Tryz.f7.resultTypes.toList))=true:=by kernel_rfl
theorem vm {a b:Bool}(h:a=true)(g:b=true):(a&&b)=true:=by rw[h,g];rfl
theorem closed:joinedFacts Tryz.prog 7 Tryz.f7 Rows.fnExactRunActsSpec Rows.fnExactRunActsRow=true:=by unfold joinedFacts;exact(vm (vm (vm (vm (vm (vm (vm (vm (vm (vm (vm (vm (vm (vm (vm (vm (vm (vm (vm (vm (vm (vm (vm (vm (vm (vm (vm (vm (vm (vm (vm j1 j2) j3) j4) j5) j6) j7) j8) j9) j10) j11) j12) j13) j14) j15) j16) j17) j18) j19) j20) j21) j22) j23) j24) j25) j26) j27) j28) j29) j30) j31) j32)
theorem proved:Rows.FnExactRunActsSaid:=
 OpenClaim.holds_of_wide 7 Tryz.f7 rfl rfl rfl rfl rfl rfl rfl ⟨rfl,rfl,rfl,rfl,rfl⟩ rfl rfl rfl rfl rfl (by kernel_rfl) Tryz.func7 closed
  (ik (by kernel_rfl)) (by unfold Func.isWrapper;first|(rw[aG (by decide+kernel)];kernel_rfl)|(rw[aF (by decide+kernel)];exact⟨rfl,rfl⟩))
  (λos started H enc _=>lifted os started H enc)
end Go.Proofs.YtfbhfnniblfpbaaGreat.RunActs
