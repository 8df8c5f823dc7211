/- FnIdealSplit: for every input the law returns true, and each argument reads behind the call as it read before. No condition. -/
import Derived.Test.YtbebkmajekhclaaGreatSeat
import Derived.Test.YtbebkmajekhclaaGreatPuLawIdealSplit
namespace Go.Proofs.YtbebkmajekhclaaGreat.IdealSplit
open Go.Dn Go.ChangeShapes Go.WideShapes Go.ChangeAt Go.RowKit
set_option maxRecDepth 100000
theorem own:ownKnob Tryz.prog.godebug=none:=by kernel_rfl
theorem laidOut:laidOutB Tryz.prog=true:=by kernel_rfl
theorem ap6:Tryz.prog.underlying 4=some .bool:=by kernel_rfl
theorem reads:Tryz.f6.params.toList.all (λt=>Tryz.prog.readableRec t&&decide (t<Tryz.prog.types.size))=true:=by kernel_rfl
theorem ty0:V1 Tryz.prog 3 22 (.sl (.int .u8))=true:=by kernel_rfl
theorem ag0:apZ Tryz.prog 22=false:=by kernel_rfl
theorem anX:∀{t:CT}{x:t.D},InR t x->Pu.ags t x
 | .int _,_,h=>h
 | .bool,_,_=>trivial
 | .str,_,h=>h
 | .sl _,_,h=>⟨h.1,λx hx=>anX (h.2 x hx)⟩
 | .pair _ _,_,h=>⟨anX h.1,anX h.2⟩
theorem aju (H:Type)(enc:TypeId×Value->H)(W:World)(base:Nat)(args:Array Value)(ds gs:aw (DataW H))(before:aw MemPlace)(Kr:∀(j:Nat) t v,Tryz.f6.params[j]?=some t->args[j]?=some v->Value.okWide Tryz.prog W .any base t v)(hW:DataW.Whole enc Tryz.prog Tryz.f6.params.toList Rows.fnIdealSplitSpec.vars false W args.toList ds gs before): Calls Tryz.prog 6 args W λe W'=>∃v,e=.returned v/\Rows.fnIdealSplitSpec.post enc Tryz.prog Tryz.f6 false true false false W args v W':=by
 have hW':=hW;obtain⟨p,q,hA0,hV,rfl,hfz,Jr⟩:=hW;have hA:DataW.TrodAll enc Tryz.prog W 0 (λ_=>true) true Tryz.f6.params.toList args.toList ds p:=hA0;rw[Tryz.params6]at hA Kr;obtain⟨v0,vs0,d0,ds0,p0,q0,ax7,rfl,rfl,h0,r0⟩:=trodAll_cons hA;obtain⟨rfl,rfl,rfl⟩:=trodAll_nil r0;obtain rfl:args=#[v0]:=by cases args;simp_all
 obtain⟨rfl,rfl⟩:=trodVars_none hV;obtain⟨x0,hx0,hi0⟩:=alH ty0 ag0 (Kr 0 22 v0 rfl rfl) h0;have hy:(Fn.BF).fn (ot Fn.uR (x0,()))=some true:=(Pu.O8 x0 (anX hi0))
 refine(ahx Fn.Jg rfl rfl (vs:=[v0]) (xs:=ot Fn.uR (x0,())) ⟨hx0,cq⟩ (y:=true) hy rfl).mono λe W' ⟨he,hb⟩=>?_;subst he;exact⟨_,rfl,aln laidOut reads (by kernel_rfl) ap6 rfl rfl hW' hb⟩
theorem lifted (os:Os)(started:os.Started)(H:Type)(enc:TypeId×Value->H): ReturnsInHanded {} Tryz.checked os 6 .any (Rows.fnIdealSplitSpec.pre6 enc Tryz.prog Tryz.f6 Rows.fnIdealSplitRow.domain false) (Rows.fnIdealSplitSpec.post enc Tryz.prog Tryz.f6 false true false false):=by refine returnsInHanded_of_change (C:=Tryz.checked) own started (by kernel_rfl) Tryz.func6 (ChangeSpec.witness6 (enc:=enc) (C:=Tryz.checked) false ⟨#[],#[.slice none 0 0],[]⟩ 8 (by kernel_rfl) (by kernel_rfl) (by kernel_rfl) (by kernel_rfl)) ?_;intro W base args ds gs before Kr hW _ _;exact aju H enc W base args ds gs before Kr hW
theorem j1:(Rows.fnIdealSplitRow.wf (OpenSpec.ofChange Rows.fnIdealSplitSpec))=true:=by kernel_rfl
theorem j2:(laidOutB Tryz.prog)=true:=by kernel_rfl
theorem j3:(mapsRowed Tryz.prog)=true:=by kernel_rfl
theorem j4:(Tryz.f6.params.all (Tryz.prog.readableRec ·))=true:=by kernel_rfl
theorem j5:(namedTie Tryz.prog Rows.fnIdealSplitRow.named Rows.fnIdealSplitSpec.vars)=true:=by kernel_rfl
theorem j6:(Rows.fnIdealSplitRow.stops==[])=true:=by kernel_rfl
theorem j7:(Tryz.prog.stops==[])=true:=by kernel_rfl
theorem j8:(Rows.fnIdealSplitRow.knobs==[])=true:=by kernel_rfl
theorem j9:(Tryz.prog.stopKnobs==[])=true:=by kernel_rfl
theorem j10:(Rows.fnIdealSplitRow.inPlace==Tryz.prog.inPlace 6)=true:=by kernel_rfl
theorem j11:(Rows.fnIdealSplitRow.unfollowed==Tryz.prog.unfollowed 6)=true:=by kernel_rfl
theorem j12:(Rows.fnIdealSplitRow.recurses==Tryz.prog.recurses 6)=true:=by kernel_rfl
theorem j13:(Rows.fnIdealSplitRow.named==Tryz.prog.varsNamed 6)=true:=by kernel_rfl
theorem j14:(Rows.fnIdealSplitRow.maps==(Tryz.f6.params.toList++Rows.fnIdealSplitSpec.plain.varTypes Tryz.prog).any (Tryz.prog.mapsRec ·))=true:=by kernel_rfl
theorem j15:(Rows.fnIdealSplitRow.ifaces==(Tryz.f6.params.toList++Rows.fnIdealSplitSpec.plain.varTypes Tryz.prog).any (Tryz.prog.ifacesRec ·))=true:=by kernel_rfl
theorem j16:(Rows.fnIdealSplitRow.mapsOut==Tryz.prog.mapsAmong Tryz.f6.resultTypes.toList)=true:=by kernel_rfl
theorem j17:(Rows.fnIdealSplitRow.loops==(Tryz.f6.params.toList++Rows.fnIdealSplitSpec.plain.varTypes Tryz.prog).any (Tryz.prog.loopsFrom ·))=true:=by kernel_rfl
theorem j18:(Rows.fnIdealSplitRow.wideKeys==(Tryz.f6.params.toList++Rows.fnIdealSplitSpec.plain.varTypes Tryz.prog++Tryz.f6.resultTypes.toList).any (Tryz.prog.wideKeysFrom ·))=true:=by kernel_rfl
theorem j19:(Rows.fnIdealSplitSpec.vars.all (Tryz.prog.varReadable ·))=true:=by kernel_rfl
theorem j20:(Tryz.f6.resultTypes.all (λt=>Tryz.prog.readableRec t&&decide (t<Tryz.prog.types.size)))=true:=by kernel_rfl
theorem j21:(Rows.fnIdealSplitRow.ifacesOut==Tryz.f6.resultTypes.toList.any (Tryz.prog.ifacesRec ·))=true:=by kernel_rfl
theorem j22:(Rows.fnIdealSplitRow.loopsOut==Tryz.f6.resultTypes.toList.any (Tryz.prog.loopsFrom ·))=true:=by kernel_rfl
theorem j23:(Rows.fnIdealSplitRow.plainKeys==Tryz.prog.plainKeys)=true:=by kernel_rfl
theorem j24:(Rows.fnIdealSplitRow.shortTexts.isNone)=true:=by kernel_rfl
theorem j25:(Tryz.prog.stopsHeard)=true:=by kernel_rfl
theorem j26:(Tryz.prog.mayEnter)=true:=by kernel_rfl
theorem j27:(Rows.fnIdealSplitRow.lifted==Tryz.prog.liftsFinal)=true:=by kernel_rfl
theorem j28:(Tryz.prog.make==some Rows.fnIdealSplitRow.make)=true:=by kernel_rfl
theorem j29:(Rows.fnIdealSplitRow.kinds==(if Rows.fnIdealSplitRow.domain.isEmpty then [] else Tryz.f6.params.toList.map λt=>match Tryz.prog.underlying t with|some (.int k)=>some k|_=>none))=true:=by kernel_rfl
theorem j30:(Rows.fnIdealSplitRow.pinned==Rows.fnIdealSplitRow.pinnedBy)=true:=by kernel_rfl
theorem j31:(Rows.fnIdealSplitRow.veiled==(Tryz.f6.params.toList++Rows.fnIdealSplitSpec.plain.varTypes Tryz.prog++Tryz.f6.resultTypes.toList).any (Tryz.prog.veiledRec ·))=true:=by kernel_rfl
theorem j32:(Rows.fnIdealSplitRow.veiledFits Tryz.prog Tryz.f6.params.toList (Tryz.f6.params.toList++Rows.fnIdealSplitSpec.plain.varTypes Tryz.prog++Tryz.f6.resultTypes.toList))=true:=by kernel_rfl
theorem wG {a b:Bool}(h:a=true)(g:b=true):(a&&b)=true:=by rw[h,g];rfl
theorem closed:joinedFacts Tryz.prog 6 Tryz.f6 Rows.fnIdealSplitSpec Rows.fnIdealSplitRow=true:=by unfold joinedFacts;exact(wG (wG (wG (wG (wG (wG (wG (wG (wG (wG (wG (wG (wG (wG (wG (wG (wG (wG (wG (wG (wG (wG (wG (wG (wG (wG (wG (wG (wG (wG (wG j1 j2) j3) j4) j5) j6) j7) j8) j9) j10) j11) j12) j13) j14) j15) j16) j17) j18) j19) j20) j21) j22) j23) j24) j25) j26) j27) j28) j29) j30) j31) j32)
theorem proved:Rows.FnIdealSplitSaid:=
 OpenClaim.holds_of_wide 6 Tryz.f6 rfl rfl rfl rfl rfl rfl rfl ⟨rfl,rfl,rfl,rfl,rfl⟩ rfl rfl rfl rfl rfl (by kernel_rfl) Tryz.func6 closed
  (br (by kernel_rfl)) (by unfold Func.isWrapper;first|(rw[aI (by decide+kernel)];kernel_rfl)|(rw[aK (by decide+kernel)];exact⟨rfl,rfl⟩))
  (λos started H enc _=>lifted os started H enc)
end Go.Proofs.YtbebkmajekhclaaGreat.IdealSplit
