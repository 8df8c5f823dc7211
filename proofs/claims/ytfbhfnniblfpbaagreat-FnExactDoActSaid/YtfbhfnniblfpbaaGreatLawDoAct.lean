/- FnExactDoAct: for every input the law returns true, and each argument reads behind the call as it read before. No condition. -/
import Derived.Test.YtfbhfnniblfpbaaGreatSeat
import Derived.Test.YtfbhfnniblfpbaaGreatPuLawDoAct
namespace Go.Proofs.YtfbhfnniblfpbaaGreat.DoAct
open Go.Dn Go.ChangeShapes Go.WideShapes Go.ChangeAt Go.RowKit
set_option maxRecDepth 100000
theorem own:ownKnob Tryz.prog.godebug=none:=by kernel_rfl
theorem laidOut:laidOutB Tryz.prog=true:=by kernel_rfl
theorem ahI:Tryz.prog.underlying 4=some .bool:=by kernel_rfl
theorem reads:Tryz.f6.params.toList.all (λt=>Tryz.prog.readableRec t&&decide (t<Tryz.prog.types.size))=true:=by kernel_rfl
theorem ty0:Qi Tryz.prog 8 94 Pu.cK=true:=by kernel_rfl
theorem ag0:afY Tryz.prog 94=true:=by kernel_rfl
theorem ty1:Qi Tryz.prog 8 108 Pu.Sx=true:=by kernel_rfl
theorem ag1:afY Tryz.prog 108=true:=by kernel_rfl
theorem aeF:∀{t:CT}{x:t.D},InR t x->Pu.th t x
 | .int _,_,h=>h
 | .bool,_,_=>trivial
 | .str,_,h=>h
 | .sl _,_,h=>⟨h.1,λx hx=>aeF (h.2 x hx)⟩
 | .pair _ _,_,h=>⟨aeF h.1,aeF h.2⟩
theorem adt (H:Type)(enc:TypeId×Value->H)(W:World)(base:Nat)(args:Array Value)(ds gs:ar (DataW H))(before:ar MemPlace)(Ij:∀(j:Nat) t v,Tryz.f6.params[j]?=some t->args[j]?=some v->Value.okWide Tryz.prog W .any base t v)(hW:DataW.Whole enc Tryz.prog Tryz.f6.params.toList Rows.fnExactDoActSpec.vars false W args.toList ds gs before): Calls Tryz.prog 6 args W λe W'=>∃v,e=.returned v/\Rows.fnExactDoActSpec.post enc Tryz.prog Tryz.f6 false true false false W args v W':=by
 have hW':=hW;obtain⟨p,q,hA0,hV,rfl,hfz,ES⟩:=hW;have hA:DataW.TrodAll enc Tryz.prog W 0 (λ_=>true) true Tryz.f6.params.toList args.toList ds p:=hA0;rw[Tryz.params6]at hA Ij;obtain⟨v0,vs0,d0,ds0,p0,q0,apU,rfl,rfl,h0,r0⟩:=trodAll_cons hA;obtain⟨v1,vs1,d1,ds1,p1,q1,apV,rfl,rfl,h1,r1⟩:=trodAll_cons r0;obtain⟨rfl,rfl,rfl⟩:=trodAll_nil r1;obtain rfl:args=#[v0,v1]:=by cases args;simp_all
 obtain⟨rfl,rfl⟩:=trodVars_none hV;obtain⟨x0,Uq,hi0⟩:=V1 ty0 ag0 (Ij 0 94 v0 rfl rfl) h0;obtain⟨x1,hx1,hi1⟩:=V1 ty1 ag1 (Ij 1 108 v1 rfl rfl) h1;have hy:(Fn.AG).fn (ix Fn.tr (x0,(x1,())))=some true:=(Pu.XJ x0 x1 (aeF hi0) (aeF hi1))
 refine(abT Fn.Ik rfl rfl (vs:=[v0,v1]) (xs:=ix Fn.tr (x0,(x1,()))) ⟨Uq,hx1,bV⟩ (y:=true) hy rfl).mono λe W' ⟨he,hb⟩=>?_;subst he;exact⟨_,rfl,aeM laidOut reads (by kernel_rfl) ahI rfl rfl hW' hb⟩
theorem lifted (os:Os)(started:os.Started)(H:Type)(enc:TypeId×Value->H): ReturnsInHanded {} Tryz.checked os 6 .any (Rows.fnExactDoActSpec.pre6 enc Tryz.prog Tryz.f6 Rows.fnExactDoActRow.domain false) (Rows.fnExactDoActSpec.post enc Tryz.prog Tryz.f6 false true false false):=by refine returnsInHanded_of_change (C:=Tryz.checked) own started (by kernel_rfl) Tryz.func6 (ChangeSpec.witness6 (enc:=enc) (C:=Tryz.checked) false ⟨#[],#[.agg #[.slice none 0 0,.slice none 0 0,.int .i64 0,.int .i64 0,.int .i64 0,.int .i64 0,.int .i64 0,.int .i64 0,.int .i64 0,.slice none 0 0,.slice none 0 0,.int .i64 0,.slice none 0 0,.slice none 0 0,.slice none 0 0,.slice none 0 0,.int .i64 0,.bool false,.slice none 0 0,.slice none 0 0,.slice none 0 0,.string ⟨#[]⟩,.slice none 0 0,.slice none 0 0,.bool false,.slice none 0 0,.slice none 0 0,.slice none 0 0,.int .i64 0,.int .i64 0,.int .i64 0,.int .i64 0,.int .i64 0],.agg #[.int .i64 0,.int .i64 0,.int .i64 0,.int .i64 0,.int .i64 0,.int .i64 0,.int .i64 0,.int .i64 0,.int .i64 0,.int .i64 0,.int .i64 0,.int .i64 0,.int .i64 0,.int .i64 0,.int .i64 0,.int .i64 0,.string ⟨#[]⟩,.int .i64 0,.int .i64 0,.string ⟨#[]⟩,.int .i64 0]],[]⟩ 8 (by kernel_rfl) (by kernel_rfl) (by kernel_rfl) (by kernel_rfl)) ?_;intro W base args ds gs before Ij hW _ _;exact adt H enc W base args ds gs before Ij hW
theorem j1:(Rows.fnExactDoActRow.wf (OpenSpec.ofChange Rows.fnExactDoActSpec))=true:=by kernel_rfl
theorem j2:(laidOutB Tryz.prog)=true:=by kernel_rfl
theorem j3:(mapsRowed Tryz.prog)=true:=by kernel_rfl
theorem j4:(Tryz.f6.params.all (Tryz.prog.readableRec ·))=true:=by kernel_rfl
theorem j5:(namedTie Tryz.prog Rows.fnExactDoActRow.named Rows.fnExactDoActSpec.vars)=true:=by kernel_rfl
theorem j6:(Rows.fnExactDoActRow.stops==[])=true:=by kernel_rfl
theorem j7:(Tryz.prog.stops==[])=true:=by kernel_rfl
theorem j8:(Rows.fnExactDoActRow.knobs==[])=true:=by kernel_rfl
theorem j9:(Tryz.prog.stopKnobs==[])=true:=by kernel_rfl
theorem j10:(Rows.fnExactDoActRow.inPlace==Tryz.prog.inPlace 6)=true:=by kernel_rfl
theorem j11:(Rows.fnExactDoActRow.unfollowed==Tryz.prog.unfollowed 6)=true:=by kernel_rfl
theorem j12:(Rows.fnExactDoActRow.recurses==Tryz.prog.recurses 6)=true:=by kernel_rfl
theorem j13:(Rows.fnExactDoActRow.named==Tryz.prog.varsNamed 6)=true:=by kernel_rfl
theorem j14:(Rows.fnExactDoActRow.maps==(Tryz.f6.params.toList++Rows.fnExactDoActSpec.plain.varTypes Tryz.prog).any (Tryz.prog.mapsRec ·))=true:=by kernel_rfl
theorem j15:(Rows.fnExactDoActRow.ifaces==(Tryz.f6.params.toList++Rows.fnExactDoActSpec.plain.varTypes Tryz.prog).any (Tryz.prog.ifacesRec ·))=true:=by kernel_rfl
theorem j16:(Rows.fnExactDoActRow.mapsOut==Tryz.prog.mapsAmong Tryz.f6.resultTypes.toList)=true:=by kernel_rfl
theorem j17:(Rows.fnExactDoActRow.loops==(Tryz.f6.params.toList++Rows.fnExactDoActSpec.plain.varTypes Tryz.prog).any (Tryz.prog.loopsFrom ·))=true:=by kernel_rfl
theorem j18:(Rows.fnExactDoActRow.wideKeys==(Tryz.f6.params.toList++Rows.fnExactDoActSpec.plain.varTypes Tryz.prog++Tryz.f6.resultTypes.toList).any (Tryz.prog.wideKeysFrom ·))=true:=by kernel_rfl
theorem j19:(Rows.fnExactDoActSpec.vars.all (Tryz.prog.varReadable ·))=true:=by kernel_rfl
theorem j20:(Tryz.f6.resultTypes.all (λt=>Tryz.prog.readableRec t&&decide (t<Tryz.prog.types.size)))=true:=by kernel_rfl
theorem j21:(Rows.fnExactDoActRow.ifacesOut==Tryz.f6.resultTypes.toList.any (Tryz.prog.ifacesRec ·))=true:=by kernel_rfl
theorem j22:(Rows.fnExactDoActRow.loopsOut==Tryz.f6.resultTypes.toList.any (Tryz.prog.loopsFrom ·))=true:=by kernel_rfl
theorem j23:(Rows.fnExactDoActRow.plainKeys==Tryz.prog.plainKeys)=true:=by kernel_rfl
theorem j24:(Rows.fnExactDoActRow.shortTexts.isNone)=true:=by kernel_rfl
theorem j25:(Tryz.prog.stopsHeard)=true:=by kernel_rfl
theorem j26:(Tryz.prog.mayEnter)=true:=by kernel_rfl
theorem j27:(Rows.fnExactDoActRow.lifted==Tryz.prog.liftsFinal)=true:=by kernel_rfl
theorem j28:(Tryz.prog.make==some Rows.fnExactDoActRow.make)=true:=by kernel_rfl
theorem j29:(Rows.fnExactDoActRow.kinds==(if Rows.fnExactDoActRow.domain.isEmpty then [] else Tryz.f6.params.toList.map λt=>match Tryz.prog.underlying t with|some (.int k)=>some k|_=>none))=true:=by kernel_rfl
theorem j30:(Rows.fnExactDoActRow.pinned==Rows.fnExactDoActRow.pinnedBy)=true:=by kernel_rfl
theorem j31:(Rows.fnExactDoActRow.veiled==(Tryz.f6.params.toList++Rows.fnExactDoActSpec.plain.varTypes Tryz.prog++Tryz.f6.resultTypes.toList).any (Tryz.prog.veiledRec ·))=true:=by kernel_rfl
theorem j32:(Rows.fnExactDoActRow.veiledFits Tryz.prog Tryz.f6.params.toList (Tryz.f6.params.toList++Rows.fnExactDoActSpec.plain.varTypes Tryz.prog++Tryz.f6.resultTypes.toList))=true:=by kernel_rfl
theorem vi {a b:Bool}(h:a=true)(g:b=true):(a&&b)=true:=by rw[h,g];rfl
theorem closed:joinedFacts Tryz.prog 6 Tryz.f6 Rows.fnExactDoActSpec Rows.fnExactDoActRow=true:=by unfold joinedFacts;exact(vi (vi (vi (vi (vi (vi (vi (vi (vi (vi (vi (vi (vi (vi (vi (vi (vi (vi (vi (vi (vi (vi (vi (vi (vi (vi (vi (vi (vi (vi (vi j1 j2) j3) j4) j5) j6) j7) j8) j9) j10) j11) j12) j13) j14) j15) j16) j17) j18) j19) j20) j21) j22) j23) j24) j25) j26) j27) j28) j29) j30) j31) j32)
theorem proved:Rows.FnExactDoActSaid:=
 OpenClaim.holds_of_wide 6 Tryz.f6 rfl rfl rfl rfl rfl rfl rfl ⟨rfl,rfl,rfl,rfl,rfl⟩ rfl rfl rfl rfl rfl (by kernel_rfl) Tryz.func6 closed
  (ij (by kernel_rfl)) (by unfold Func.isWrapper;first|(rw[aG (by decide+kernel)];kernel_rfl)|(rw[aF (by decide+kernel)];exact⟨rfl,rfl⟩))
  (λos started H enc _=>lifted os started H enc)
end Go.Proofs.YtfbhfnniblfpbaaGreat.DoAct
