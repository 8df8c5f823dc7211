/- FnMoved: for every input the law returns true, and each argument reads behind the call as it read before. No condition. -/
import Derived.Test.YtnmppgnbjfdffaaGreatSeat
import Derived.Test.YtnmppgnbjfdffaaGreatPuLawMoved
namespace Go.Proofs.YtnmppgnbjfdffaaGreat.Moved
open Go.Dn Go.ChangeShapes Go.WideShapes Go.ChangeAt Go.RowKit
set_option maxRecDepth 100000
theorem own:ownKnob Tryz.prog.godebug=none:=by kernel_rfl
theorem laidOut:laidOutB Tryz.prog=true:=by kernel_rfl
theorem agI:Tryz.prog.underlying 4=some .bool:=by kernel_rfl
theorem reads:Tryz.f3.params.toList.all (λt=>Tryz.prog.readableRec t&&decide (t<Tryz.prog.types.size))=true:=by kernel_rfl
theorem ty0:OC Tryz.prog 3 22 (.sl (.int .u8))=true:=by kernel_rfl
theorem ag0:agC Tryz.prog 22=false:=by kernel_rfl
theorem aeU:∀{t:CT}{x:t.D},InR t x->Pu.XT t x
 | .int _,_,h=>h
 | .bool,_,_=>trivial
 | .str,_,h=>h
 | .sl _,_,h=>⟨h.1,λx hx=>aeU (h.2 x hx)⟩
 | .pair _ _,_,h=>⟨aeU h.1,aeU h.2⟩
theorem aa1 (H:Type)(enc:TypeId×Value->H)(W:World)(base:Nat)(args:Array Value)(ds gs:aw (DataW H))(before:aw MemPlace)(EJ:∀(j:Nat) t v,Tryz.f3.params[j]?=some t->args[j]?=some v->Value.okWide Tryz.prog W .any base t v)(hW:DataW.Whole enc Tryz.prog Tryz.f3.params.toList Rows.fnMovedSpec.vars false W args.toList ds gs before): Calls Tryz.prog 3 args W λe W'=>∃v,e=.returned v/\Rows.fnMovedSpec.post enc Tryz.prog Tryz.f3 false true false false W args v W':=by
 have hW':=hW;obtain⟨p,q,hA0,hV,rfl,hfz,Dq⟩:=hW;have hA:DataW.TrodAll enc Tryz.prog W 0 (λ_=>true) true Tryz.f3.params.toList args.toList ds p:=hA0;rw[Tryz.params3]at hA EJ;obtain⟨v0,vs0,d0,ds0,p0,q0,am8,rfl,rfl,h0,r0⟩:=trodAll_cons hA;obtain⟨rfl,rfl,rfl⟩:=trodAll_nil r0;obtain rfl:args=#[v0]:=by cases args;simp_all
 obtain⟨rfl,rfl⟩:=trodVars_none hV;obtain⟨x0,hx0,hi0⟩:=ac1 ty0 ag0 (EJ 0 22 v0 rfl rfl) h0;have hy:(Fn.Cg).fn (kR Fn.yI (x0,()))=some true:=(Pu.VF x0 (aeU hi0))
 refine(Zi Fn.K7 rfl rfl (vs:=[v0]) (xs:=kR Fn.yI (x0,())) ⟨hx0,cv⟩ (y:=true) hy rfl).mono λe W' ⟨he,hb⟩=>?_;subst he;exact⟨_,rfl,acK laidOut reads (by kernel_rfl) agI rfl rfl hW' hb⟩
theorem lifted (os:Os)(started:os.Started)(H:Type)(enc:TypeId×Value->H): ReturnsInHanded {} Tryz.checked os 3 .any (Rows.fnMovedSpec.pre6 enc Tryz.prog Tryz.f3 Rows.fnMovedRow.domain false) (Rows.fnMovedSpec.post enc Tryz.prog Tryz.f3 false true false false):=by refine returnsInHanded_of_change (C:=Tryz.checked) own started (by kernel_rfl) Tryz.func3 (ChangeSpec.witness6 (enc:=enc) (C:=Tryz.checked) false ⟨#[],#[.slice none 0 0],[]⟩ 8 (by kernel_rfl) (by kernel_rfl) (by kernel_rfl) (by kernel_rfl)) ?_;intro W base args ds gs before EJ hW _ _;exact aa1 H enc W base args ds gs before EJ hW
theorem j1:(Rows.fnMovedRow.wf (OpenSpec.ofChange Rows.fnMovedSpec))=true:=by kernel_rfl
theorem j2:(laidOutB Tryz.prog)=true:=by kernel_rfl
theorem j3:(mapsRowed Tryz.prog)=true:=by kernel_rfl
theorem j4:(Tryz.f3.params.all (Tryz.prog.readableRec ·))=true:=by kernel_rfl
theorem j5:(namedTie Tryz.prog Rows.fnMovedRow.named Rows.fnMovedSpec.vars)=true:=by kernel_rfl
theorem j6:(Rows.fnMovedRow.stops==[])=true:=by kernel_rfl
theorem j7:(Tryz.prog.stops==[])=true:=by kernel_rfl
theorem j8:(Rows.fnMovedRow.knobs==[])=true:=by kernel_rfl
theorem j9:(Tryz.prog.stopKnobs==[])=true:=by kernel_rfl
theorem j10:(Rows.fnMovedRow.inPlace==Tryz.prog.inPlace 3)=true:=by kernel_rfl
theorem j11:(Rows.fnMovedRow.unfollowed==Tryz.prog.unfollowed 3)=true:=by kernel_rfl
theorem j12:(Rows.fnMovedRow.recurses==Tryz.prog.recurses 3)=true:=by kernel_rfl
theorem j13:(Rows.fnMovedRow.named==Tryz.prog.varsNamed 3)=true:=by kernel_rfl
theorem j14:(Rows.fnMovedRow.maps==(Tryz.f3.params.toList++Rows.fnMovedSpec.plain.varTypes Tryz.prog).any (Tryz.prog.mapsRec ·))=true:=by kernel_rfl
theorem j15:(Rows.fnMovedRow.ifaces==(Tryz.f3.params.toList++Rows.fnMovedSpec.plain.varTypes Tryz.prog).any (Tryz.prog.ifacesRec ·))=true:=by kernel_rfl
theorem j16:(Rows.fnMovedRow.mapsOut==Tryz.prog.mapsAmong Tryz.f3.resultTypes.toList)=true:=by kernel_rfl
theorem j17:(Rows.fnMovedRow.loops==(Tryz.f3.params.toList++Rows.fnMovedSpec.plain.varTypes Tryz.prog).any (Tryz.prog.loopsFrom ·))=true:=by kernel_rfl
theorem j18:(Rows.fnMovedRow.wideKeys==(Tryz.f3.params.toList++Rows.fnMovedSpec.plain.varTypes Tryz.prog++Tryz.f3.resultTypes.toList).any (Tryz.prog.wideKeysFrom ·))=true:=by kernel_rfl
theorem j19:(Rows.fnMovedSpec.vars.all (Tryz.prog.varReadable ·))=true:=by kernel_rfl
theorem j20:(Tryz.f3.resultTypes.all (λt=>Tryz.prog.readableRec t&&decide (t<Tryz.prog.types.size)))=true:=by kernel_rfl
theorem j21:(Rows.fnMovedRow.ifacesOut==Tryz.f3.resultTypes.toList.any (Tryz.prog.ifacesRec ·))=true:=by kernel_rfl
theorem j22:(Rows.fnMovedRow.loopsOut==Tryz.f3.resultTypes.toList.any (Tryz.prog.loopsFrom ·))=true:=by kernel_rfl
theorem j23:(Rows.fnMovedRow.plainKeys==Tryz.prog.plainKeys)=true:=by kernel_rfl
theorem j24:(Rows.fnMovedRow.shortTexts.isNone)=true:=by kernel_rfl
theorem j25:(Tryz.prog.stopsHeard)=true:=by kernel_rfl
theorem j26:(Tryz.prog.mayEnter)=true:=by kernel_rfl
theorem j27:(Rows.fnMovedRow.lifted==Tryz.prog.liftsFinal)=true:=by kernel_rfl
theorem j28:(Tryz.prog.make==some Rows.fnMovedRow.make)=true:=by kernel_rfl
theorem j29:(Rows.fnMovedRow.kinds==(if Rows.fnMovedRow.domain.isEmpty then [] else Tryz.f3.params.toList.map λt=>match Tryz.prog.underlying t with|some (.int k)=>some k|_=>none))=true:=by kernel_rfl
theorem j30:(Rows.fnMovedRow.pinned==Rows.fnMovedRow.pinnedBy)=true:=by kernel_rfl
theorem j31:(Rows.fnMovedRow.veiled==(Tryz.f3.params.toList++Rows.fnMovedSpec.plain.varTypes Tryz.prog++Tryz.f3.resultTypes.toList).any (Tryz.prog.veiledRec ·))=true:=by kernel_rfl
theorem j32:(Rows.fnMovedRow.veiledFits Tryz.prog Tryz.f3.params.toList (Tryz.f3.params.toList++Rows.fnMovedSpec.plain.varTypes Tryz.prog++Tryz.f3.resultTypes.toList))=true:=by kernel_rfl
theorem sG {a b:Bool}(h:a=true)(g:b=true):(a&&b)=true:=by rw[h,g];rfl
theorem closed:joinedFacts Tryz.prog 3 Tryz.f3 Rows.fnMovedSpec Rows.fnMovedRow=true:=by unfold joinedFacts;exact(sG (sG (sG (sG (sG (sG (sG (sG (sG (sG (sG (sG (sG (sG (sG (sG (sG (sG (sG (sG (sG (sG (sG (sG (sG (sG (sG (sG (sG (sG (sG j1 j2) j3) j4) j5) j6) j7) j8) j9) j10) j11) j12) j13) j14) j15) j16) j17) j18) j19) j20) j21) j22) j23) j24) j25) j26) j27) j28) j29) j30) j31) j32)
theorem proved:Rows.FnMovedSaid:=
 OpenClaim.holds_of_wide 3 Tryz.f3 rfl rfl rfl rfl rfl rfl rfl ⟨rfl,rfl,rfl,rfl,rfl⟩ rfl rfl rfl rfl rfl (by kernel_rfl) Tryz.func3 closed
  (bl (by kernel_rfl)) (by unfold Func.isWrapper;first|(rw[aE (by decide+kernel)];kernel_rfl)|(rw[aH (by decide+kernel)];exact⟨rfl,rfl⟩))
  (λos started H enc _=>lifted os started H enc)
end Go.Proofs.YtnmppgnbjfdffaaGreat.Moved
