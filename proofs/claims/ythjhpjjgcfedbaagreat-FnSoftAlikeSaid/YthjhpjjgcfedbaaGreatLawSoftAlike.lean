/- FnSoftAlike: for every input the law returns true, and each argument reads behind the call as it read before. No condition. -/
import Derived.Test.YthjhpjjgcfedbaaGreatSeat
import Derived.Test.YthjhpjjgcfedbaaGreatPuLawSoftAlike
namespace Go.Proofs.YthjhpjjgcfedbaaGreat.SoftAlike
open Go.Dn Go.ChangeShapes Go.WideShapes Go.ChangeAt Go.RowKit
set_option maxRecDepth 100000
theorem own:ownKnob Tryz.prog.godebug=none:=by kernel_rfl
theorem laidOut:laidOutB Tryz.prog=true:=by kernel_rfl
theorem OZ:Tryz.prog.underlying 4=some .bool:=by kernel_rfl
theorem reads:Tryz.f4.params.toList.all (λt=>Tryz.prog.readableRec t&&decide (t<Tryz.prog.types.size))=true:=by kernel_rfl
theorem ty0:Bq Tryz.prog 3 22 (.sl (.int .u8))=true:=by kernel_rfl
theorem ag0:OU Tryz.prog 22=false:=by kernel_rfl
theorem M1:∀{t:CT}{x:t.D},J3 t x→Pu.J9 t x
 | .int _,_,h=>h
 | .bool,_,_=>trivial
 | .str,_,h=>h
 | .sl _,_,h=>⟨h.1,λx hx=>M1 (h.2 x hx)⟩
 | .pair _ _,_,h=>⟨M1 h.1,M1 h.2⟩
theorem Kl (H:Type)(enc:TypeId×Value→H)(W:World)(base:Nat)(args:Array Value)(ds gs:List (DataW H))(before:List MemPlace)(hval:∀(j:Nat) t v,Tryz.f4.params[j]?=some t→args[j]?=some v→Value.okWide Tryz.prog W .any base t v)(hW:DataW.Whole enc Tryz.prog Tryz.f4.params.toList Rows.fnSoftAlikeSpec.vars false W args.toList ds gs before): Calls Tryz.prog 4 args W λe W'=>∃v,e=.returned v∧Rows.fnSoftAlikeSpec.post enc Tryz.prog Tryz.f4 false true false false W args v W':=by
 have hW':=hW;obtain⟨p,q,hA0,hV,rfl,hfz,hnd⟩:=hW;have hA:DataW.TrodAll enc Tryz.prog W 0 (λ_=>true) true Tryz.f4.params.toList args.toList ds p:=hA0;rw[Tryz.params4]at hA hval;obtain⟨v0,vs0,d0,ds0,p0,q0,hargs0,rfl,rfl,h0,r0⟩:=trodAll_cons hA;obtain⟨rfl,rfl,rfl⟩:=trodAll_nil r0;obtain rfl:args=#[v0]:=by cases args;simp_all
 obtain⟨rfl,rfl⟩:=trodVars_none hV;obtain⟨x0,hx0,hi0⟩:=La ty0 ag0 (hval 0 22 v0 rfl rfl) h0;have hy:(Fn.pg).fn (fK Fn.ll (x0,()))=some true:=(Pu.yZ x0 (M1 hi0))
 refine(IV Fn.tX rfl rfl (vs:=[v0]) (xs:=fK Fn.ll (x0,())) ⟨hx0,trivial⟩ (y:=true) hy rfl).mono λe W' ⟨he,hb⟩=>?_;subst he;exact⟨_,rfl,KV laidOut reads (by kernel_rfl) OZ rfl rfl hW' hb⟩
theorem lifted (os:Os)(started:os.Started)(H:Type)(enc:TypeId×Value→H): ReturnsInHanded {} Tryz.checked os 4 .any (Rows.fnSoftAlikeSpec.pre6 enc Tryz.prog Tryz.f4 Rows.fnSoftAlikeRow.domain false) (Rows.fnSoftAlikeSpec.post enc Tryz.prog Tryz.f4 false true false false):=by refine returnsInHanded_of_change (C:=Tryz.checked) own started (by kernel_rfl) Tryz.func4 (ChangeSpec.witness6 (enc:=enc) (C:=Tryz.checked) false ⟨#[],#[.slice none 0 0],[]⟩ 8 (by kernel_rfl) (by kernel_rfl) (by kernel_rfl) (by kernel_rfl)) ?_;intro W base args ds gs before hval hW _ _;exact Kl H enc W base args ds gs before hval hW
theorem j1:(Rows.fnSoftAlikeRow.wf (OpenSpec.ofChange Rows.fnSoftAlikeSpec))=true:=by kernel_rfl
theorem j2:(laidOutB Tryz.prog)=true:=by kernel_rfl
theorem j3:(mapsRowed Tryz.prog)=true:=by kernel_rfl
theorem j4:(Tryz.f4.params.all (Tryz.prog.readableRec ·))=true:=by kernel_rfl
theorem j5:(namedTie Tryz.prog Rows.fnSoftAlikeRow.named Rows.fnSoftAlikeSpec.vars)=true:=by kernel_rfl
theorem j6:(Rows.fnSoftAlikeRow.stops==[])=true:=by kernel_rfl
theorem j7:(Tryz.prog.stops==[])=true:=by kernel_rfl
theorem j8:(Rows.fnSoftAlikeRow.knobs==[])=true:=by kernel_rfl
theorem j9:(Tryz.prog.stopKnobs==[])=true:=by kernel_rfl
theorem j10:(Rows.fnSoftAlikeRow.inPlace==Tryz.prog.inPlace 4)=true:=by kernel_rfl
theorem j11:(Rows.fnSoftAlikeRow.unfollowed==Tryz.prog.unfollowed 4)=true:=by kernel_rfl
theorem j12:(Rows.fnSoftAlikeRow.recurses==Tryz.prog.recurses 4)=true:=by kernel_rfl
theorem j13:(Rows.fnSoftAlikeRow.named==Tryz.prog.varsNamed 4)=true:=by kernel_rfl
theorem j14:(Rows.fnSoftAlikeRow.maps==(Tryz.f4.params.toList++Rows.fnSoftAlikeSpec.plain.varTypes Tryz.prog).any (Tryz.prog.mapsRec ·))=true:=by kernel_rfl
theorem j15:(Rows.fnSoftAlikeRow.ifaces==(Tryz.f4.params.toList++Rows.fnSoftAlikeSpec.plain.varTypes Tryz.prog).any (Tryz.prog.ifacesRec ·))=true:=by kernel_rfl
theorem j16:(Rows.fnSoftAlikeRow.mapsOut==Tryz.prog.mapsAmong Tryz.f4.resultTypes.toList)=true:=by kernel_rfl
theorem j17:(Rows.fnSoftAlikeRow.loops==(Tryz.f4.params.toList++Rows.fnSoftAlikeSpec.plain.varTypes Tryz.prog).any (Tryz.prog.loopsFrom ·))=true:=by kernel_rfl
theorem j18:(Rows.fnSoftAlikeRow.wideKeys==(Tryz.f4.params.toList++Rows.fnSoftAlikeSpec.plain.varTypes Tryz.prog++Tryz.f4.resultTypes.toList).any (Tryz.prog.wideKeysFrom ·))=true:=by kernel_rfl
theorem j19:(Rows.fnSoftAlikeSpec.vars.all (Tryz.prog.varReadable ·))=true:=by kernel_rfl
theorem j20:(Tryz.f4.resultTypes.all (λt=>Tryz.prog.readableRec t&&decide (t<Tryz.prog.types.size)))=true:=by kernel_rfl
theorem j21:(Rows.fnSoftAlikeRow.ifacesOut==Tryz.f4.resultTypes.toList.any (Tryz.prog.ifacesRec ·))=true:=by kernel_rfl
theorem j22:(Rows.fnSoftAlikeRow.loopsOut==Tryz.f4.resultTypes.toList.any (Tryz.prog.loopsFrom ·))=true:=by kernel_rfl
theorem j23:(Rows.fnSoftAlikeRow.plainKeys==Tryz.prog.plainKeys)=true:=by kernel_rfl
theorem j24:(Rows.fnSoftAlikeRow.shortTexts.isNone)=true:=by kernel_rfl
theorem j25:(Tryz.prog.stopsHeard)=true:=by kernel_rfl
theorem j26:(Tryz.prog.mayEnter)=true:=by kernel_rfl
theorem j27:(Rows.fnSoftAlikeRow.lifted==Tryz.prog.liftsFinal)=true:=by kernel_rfl
theorem j28:(Tryz.prog.make==some Rows.fnSoftAlikeRow.make)=true:=by kernel_rfl
theorem j29:(Rows.fnSoftAlikeRow.kinds==(if Rows.fnSoftAlikeRow.domain.isEmpty then [] else Tryz.f4.params.toList.map λt=>match Tryz.prog.underlying t with|some (.int k)=>some k|_=>none))=true:=by kernel_rfl
theorem j30:(Rows.fnSoftAlikeRow.pinned==Rows.fnSoftAlikeRow.pinnedBy)=true:=by kernel_rfl
theorem j31:(Rows.fnSoftAlikeRow.veiled==(Tryz.f4.params.toList++Rows.fnSoftAlikeSpec.plain.varTypes Tryz.prog++Tryz.f4.resultTypes.toList).any (Tryz.prog.veiledRec ·))=true:=by kernel_rfl
theorem j32:(Rows.fnSoftAlikeRow.veiledFits Tryz.prog Tryz.f4.params.toList (Tryz.f4.params.toList++Rows.fnSoftAlikeSpec.plain.varTypes Tryz.prog++Tryz.f4.resultTypes.toList))=true:=by kernel_rfl
theorem lg {a b:Bool}(h:a=true)(g:b=true):(a&&b)=true:=by rw[h,g];rfl
theorem closed:joinedFacts Tryz.prog 4 Tryz.f4 Rows.fnSoftAlikeSpec Rows.fnSoftAlikeRow=true:=by unfold joinedFacts;exact(lg (lg (lg (lg (lg (lg (lg (lg (lg (lg (lg (lg (lg (lg (lg (lg (lg (lg (lg (lg (lg (lg (lg (lg (lg (lg (lg (lg (lg (lg (lg j1 j2) j3) j4) j5) j6) j7) j8) j9) j10) j11) j12) j13) j14) j15) j16) j17) j18) j19) j20) j21) j22) j23) j24) j25) j26) j27) j28) j29) j30) j31) j32)
theorem proved:Rows.FnSoftAlikeSaid:=
 OpenClaim.holds_of_wide 4 Tryz.f4 rfl rfl rfl rfl rfl rfl rfl ⟨rfl,rfl,rfl,rfl,rfl⟩ rfl rfl rfl rfl rfl (by kernel_rfl) Tryz.func4 closed
  (aL (by kernel_rfl)) (by unfold Func.isWrapper;first|(rw[au (by decide+kernel)];kernel_rfl)|(rw[aq (by decide+kernel)];exact⟨rfl,rfl⟩))
  (λos started H enc _=>lifted os started H enc)
end Go.Proofs.YthjhpjjgcfedbaaGreat.SoftAlike
