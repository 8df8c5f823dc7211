/- FnExactRunIdeal: for every input the law returns true, and each argument reads behind the call as it read before. No condition. -/
import Derived.Test.YtjoicgadhgkphabGreatSeat
import Derived.Test.YtjoicgadhgkphabGreatPuLawRunIdeal
namespace Go.Proofs.YtjoicgadhgkphabGreat.RunIdeal
open Go.Dn Go.ChangeShapes Go.WideShapes Go.ChangeAt Go.RowKit
set_option maxRecDepth 100000
theorem own:ownKnob Tryz.prog.godebug=none:=by kernel_rfl
theorem laidOut:laidOutB Tryz.prog=true:=by kernel_rfl
theorem UL:Tryz.prog.underlying 4=some .bool:=by kernel_rfl
theorem reads:Tryz.f3.params.toList.all (λt=>Tryz.prog.readableRec t&&decide (t<Tryz.prog.types.size))=true:=by kernel_rfl
theorem ty0:BN Tryz.prog 10 28 Pu.bk=true:=by kernel_rfl
theorem ag0:O8 Tryz.prog 28=true:=by kernel_rfl
theorem ty1:BN Tryz.prog 10 29 (.sl Pu.bD)=true:=by kernel_rfl
theorem ag1:O8 Tryz.prog 29=false:=by kernel_rfl
theorem ty2:BN Tryz.prog 10 30 (.sl (.int .i64))=true:=by kernel_rfl
theorem ag2:O8 Tryz.prog 30=false:=by kernel_rfl
theorem NY:∀{t:CT}{x:t.D},OW t x→Pu.n4 t x
 | .int _,_,h=>h
 | .bool,_,_=>trivial
 | .str,_,h=>h
 | .sl _,_,h=>⟨h.1,λx hx=>NY (h.2 x hx)⟩
 | .pair _ _,_,h=>⟨NY h.1,NY h.2⟩
theorem Pf (H:Type)(enc:TypeId×Value→H)(W:World)(base:Nat)(args:Array Value)(ds gs:List (DataW H))(before:List MemPlace)(hval:∀(j:Nat) t v,Tryz.f3.params[j]?=some t→args[j]?=some v→Value.okWide Tryz.prog W .any base t v)(hW:DataW.Whole enc Tryz.prog Tryz.f3.params.toList Rows.fnExactRunIdealSpec.vars false W args.toList ds gs before): Calls Tryz.prog 3 args W λe W'=>∃v,e=.returned v∧Rows.fnExactRunIdealSpec.post enc Tryz.prog Tryz.f3 false true false false W args v W':=by
 have hW':=hW;obtain⟨p,q,hA0,hV,rfl,hfz,hnd⟩:=hW;have hA:DataW.TrodAll enc Tryz.prog W 0 (λ_=>true) true Tryz.f3.params.toList args.toList ds p:=hA0;rw[Tryz.params3]at hA hval;obtain⟨v0,vs0,d0,ds0,p0,q0,hargs0,rfl,rfl,h0,r0⟩:=trodAll_cons hA;obtain⟨v1,vs1,d1,ds1,p1,q1,hargs1,rfl,rfl,h1,r1⟩:=trodAll_cons r0;obtain⟨v2,vs2,d2,ds2,p2,q2,hargs2,rfl,rfl,h2,r2⟩:=trodAll_cons r1;obtain⟨rfl,rfl,rfl⟩:=trodAll_nil r2;obtain rfl:args=#[v0,v1,v2]:=by cases args;simp_all
 obtain⟨rfl,rfl⟩:=trodVars_none hV;obtain⟨x0,hx0,hi0⟩:=C3 ty0 ag0 (hval 0 28 v0 rfl rfl) h0;obtain⟨x1,hx1,hi1⟩:=C3 ty1 ag1 (hval 1 29 v1 rfl rfl) h1;obtain⟨x2,hx2,hi2⟩:=C3 ty2 ag2 (hval 2 30 v2 rfl rfl) h2;have hy:(Fn.oh).fn (gN Fn.jU (x0,(x1,(x2,()))))=some true:=(Pu.D4 x0 x1 x2 (NY hi0) (NY hi1) (NY hi2))
 refine(N2 Fn.u1 rfl rfl (vs:=[v0,v1,v2]) (xs:=gN Fn.jU (x0,(x1,(x2,())))) ⟨hx0,hx1,hx2,trivial⟩ (y:=true) hy rfl).mono λe W' ⟨he,hb⟩=>?_;subst he;exact⟨_,rfl,P1 laidOut reads (by kernel_rfl) UL rfl rfl hW' hb⟩
theorem lifted (os:Os)(started:os.Started)(H:Type)(enc:TypeId×Value→H): ReturnsInHanded {} Tryz.checked os 3 .any (Rows.fnExactRunIdealSpec.pre6 enc Tryz.prog Tryz.f3 Rows.fnExactRunIdealRow.domain false) (Rows.fnExactRunIdealSpec.post enc Tryz.prog Tryz.f3 false true false false):=by refine returnsInHanded_of_change (C:=Tryz.checked) own started (by kernel_rfl) Tryz.func3 (ChangeSpec.witness6 (enc:=enc) (C:=Tryz.checked) false ⟨#[],#[.agg #[.slice none 0 0,.slice none 0 0,.slice none 0 0,.slice none 0 0,.slice none 0 0],.slice none 0 0,.slice none 0 0],[]⟩ 8 (by kernel_rfl) (by kernel_rfl) (by kernel_rfl) (by kernel_rfl)) ?_;intro W base args ds gs before hval hW _ _;exact Pf H enc W base args ds gs before hval hW
theorem j1:(Rows.fnExactRunIdealRow.wf (OpenSpec.ofChange Rows.fnExactRunIdealSpec))=true:=by kernel_rfl
theorem j2:(laidOutB Tryz.prog)=true:=by kernel_rfl
theorem j3:(mapsRowed Tryz.prog)=true:=by kernel_rfl
theorem j4:(Tryz.f3.params.all (Tryz.prog.readableRec ·))=true:=by kernel_rfl
theorem j5:(namedTie Tryz.prog Rows.fnExactRunIdealRow.named Rows.fnExactRunIdealSpec.vars)=true:=by kernel_rfl
theorem j6:(Rows.fnExactRunIdealRow.stops==[])=true:=by kernel_rfl
theorem j7:(Tryz.prog.stops==[])=true:=by kernel_rfl
theorem j8:(Rows.fnExactRunIdealRow.knobs==[])=true:=by kernel_rfl
theorem j9:(Tryz.prog.stopKnobs==[])=true:=by kernel_rfl
theorem j10:(Rows.fnExactRunIdealRow.inPlace==Tryz.prog.inPlace 3)=true:=by kernel_rfl
theorem j11:(Rows.fnExactRunIdealRow.unfollowed==Tryz.prog.unfollowed 3)=true:=by kernel_rfl
theorem j12:(Rows.fnExactRunIdealRow.recurses==Tryz.prog.recurses 3)=true:=by kernel_rfl
theorem j13:(Rows.fnExactRunIdealRow.named==Tryz.prog.varsNamed 3)=true:=by kernel_rfl
theorem j14:(Rows.fnExactRunIdealRow.maps==(Tryz.f3.params.toList++Rows.fnExactRunIdealSpec.plain.varTypes Tryz.prog).any (Tryz.prog.mapsRec ·))=true:=by kernel_rfl
theorem j15:(Rows.fnExactRunIdealRow.ifaces==(Tryz.f3.params.toList++Rows.fnExactRunIdealSpec.plain.varTypes Tryz.prog).any (Tryz.prog.ifacesRec ·))=true:=by kernel_rfl
theorem j16:(Rows.fnExactRunIdealRow.mapsOut==Tryz.prog.mapsAmong Tryz.f3.resultTypes.toList)=true:=by kernel_rfl
theorem j17:(Rows.fnExactRunIdealRow.loops==(Tryz.f3.params.toList++Rows.fnExactRunIdealSpec.plain.varTypes Tryz.prog).any (Tryz.prog.loopsFrom ·))=true:=by kernel_rfl
theorem j18:(Rows.fnExactRunIdealRow.wideKeys==(Tryz.f3.params.toList++Rows.fnExactRunIdealSpec.plain.varTypes Tryz.prog++Tryz.f3.resultTypes.toList).any (Tryz.prog.wideKeysFrom ·))=true:=by kernel_rfl
theorem j19:(Rows.fnExactRunIdealSpec.vars.all (Tryz.prog.varReadable ·))=true:=by kernel_rfl
theorem j20:(Tryz.f3.resultTypes.all (λt=>Tryz.prog.readableRec t&&decide (t<Tryz.prog.types.size)))=true:=by kernel_rfl
theorem j21:(Rows.fnExactRunIdealRow.ifacesOut==Tryz.f3.resultTypes.toList.any (Tryz.prog.ifacesRec ·))=true:=by kernel_rfl
theorem j22:(Rows.fnExactRunIdealRow.loopsOut==Tryz.f3.resultTypes.toList.any (Tryz.prog.loopsFrom ·))=true:=by kernel_rfl
theorem j23:(Rows.fnExactRunIdealRow.plainKeys==Tryz.prog.plainKeys)=true:=by kernel_rfl
theorem j24:(Rows.fnExactRunIdealRow.shortTexts.isNone)=true:=by kernel_rfl
theorem j25:(Tryz.prog.stopsHeard)=true:=by kernel_rfl
theorem j26:(Tryz.prog.mayEnter)=true:=by kernel_rfl
theorem j27:(Rows.fnExactRunIdealRow.lifted==Tryz.prog.liftsFinal)=true:=by kernel_rfl
theorem j28:(Tryz.prog.make==some Rows.fnExactRunIdealRow.make)=true:=by kernel_rfl
theorem j29:(Rows.fnExactRunIdealRow.kinds==(if Rows.fnExactRunIdealRow.domain.isEmpty then [] else Tryz.f3.params.toList.map λt=>match Tryz.prog.underlying t with|some (.int k)=>some k|_=>none))=true:=by kernel_rfl
theorem j30:(Rows.fnExactRunIdealRow.pinned==Rows.fnExactRunIdealRow.pinnedBy)=true:=by kernel_rfl
theorem j31:(Rows.fnExactRunIdealRow.veiled==(Tryz.f3.params.toList++Rows.fnExactRunIdealSpec.plain.varTypes Tryz.prog++Tryz.f3.resultTypes.toList).any (Tryz.prog.veiledRec ·))=true:=by kernel_rfl
theorem j32:(Rows.fnExactRunIdealRow.veiledFits Tryz.prog Tryz.f3.params.toList (Tryz.f3.params.toList++Rows.fnExactRunIdealSpec.plain.varTypes Tryz.prog++Tryz.f3.resultTypes.toList))=true:=by kernel_rfl
theorem nN {a b:Bool}(h:a=true)(g:b=true):(a&&b)=true:=by rw[h,g];rfl
theorem closed:joinedFacts Tryz.prog 3 Tryz.f3 Rows.fnExactRunIdealSpec Rows.fnExactRunIdealRow=true:=by unfold joinedFacts;exact(nN (nN (nN (nN (nN (nN (nN (nN (nN (nN (nN (nN (nN (nN (nN (nN (nN (nN (nN (nN (nN (nN (nN (nN (nN (nN (nN (nN (nN (nN (nN j1 j2) j3) j4) j5) j6) j7) j8) j9) j10) j11) j12) j13) j14) j15) j16) j17) j18) j19) j20) j21) j22) j23) j24) j25) j26) j27) j28) j29) j30) j31) j32)
theorem proved:Rows.FnExactRunIdealSaid:=
 OpenClaim.holds_of_wide 3 Tryz.f3 rfl rfl rfl rfl rfl rfl rfl ⟨rfl,rfl,rfl,rfl,rfl⟩ rfl rfl rfl rfl rfl (by kernel_rfl) Tryz.func3 closed
  (eH (by kernel_rfl)) (by unfold Func.isWrapper;first|(rw[az (by decide+kernel)];kernel_rfl)|(rw[ar (by decide+kernel)];exact⟨rfl,rfl⟩))
  (λos started H enc _=>lifted os started H enc)
end Go.Proofs.YtjoicgadhgkphabGreat.RunIdeal
