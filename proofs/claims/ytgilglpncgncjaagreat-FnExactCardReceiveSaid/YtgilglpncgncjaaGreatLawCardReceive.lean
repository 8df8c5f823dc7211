/- FnExactCardReceive: for every input the law returns true, and each argument reads behind the call as it read before. No condition. -/
import Derived.Test.YtgilglpncgncjaaGreatSeat
import Derived.Test.YtgilglpncgncjaaGreatPuLawCardReceive
namespace Go.Proofs.YtgilglpncgncjaaGreat.CardReceive
open Go.Dn Go.ChangeShapes Go.WideShapes Go.ChangeAt Go.RowKit
set_option maxRecDepth 100000
theorem own:ownKnob Tryz.prog.godebug=none:=by kernel_rfl
theorem laidOut:laidOutB Tryz.prog=true:=by kernel_rfl
theorem YV:Tryz.prog.underlying 4=some .bool:=by kernel_rfl
theorem reads:Tryz.f4.params.toList.all (fun t=>Tryz.prog.readableRec t&&decide (t<Tryz.prog.types.size))=true:=by kernel_rfl
theorem ty0:FL Tryz.prog 10 32 Pu.bU=true:=by kernel_rfl
theorem ag0:Wt Tryz.prog 32=true:=by kernel_rfl
theorem ty1:FL Tryz.prog 10 9 .str=true:=by kernel_rfl
theorem ag1:Wt Tryz.prog 9=false:=by kernel_rfl
theorem Tk:∀{t:CT}{x:t.D},Sa t x→Pu.iz t x
 | .int _,_,h=>h
 | .bool,_,_=>trivial
 | .str,_,h=>h
 | .sl _,_,h=>⟨h.1,fun x hx=>Tk (h.2 x hx)⟩
 | .pair _ _,_,h=>⟨Tk h.1,Tk h.2⟩
theorem Sp (H:Type)(enc:TypeId×Value→H)(W:World)(base:Nat)(args:Array Value)(ds gs:List (DataW H))(before:List MemPlace)
 (hval:∀(j:Nat) t v,Tryz.f4.params[j]?=some t→args[j]?=some v→Value.okWide Tryz.prog W .any base t v)
 (hW:DataW.Whole enc Tryz.prog Tryz.f4.params.toList Rows.fnExactCardReceiveSpec.vars false W args.toList ds gs before):
 Calls Tryz.prog 4 args W fun e W'=>∃v,e= .returned v∧Rows.fnExactCardReceiveSpec.post enc Tryz.prog Tryz.f4 false true false false W args v W':=by
 have hW':=hW
 obtain ⟨p,q,hA0,hV,rfl,hfz,hnd⟩:=hW
 have hA:DataW.TrodAll enc Tryz.prog W 0 (fun _=>true) true Tryz.f4.params.toList args.toList ds p:=hA0
 rw [Tryz.params4] at hA hval
 obtain ⟨v0,vs0,d0,ds0,p0,q0,hargs0,rfl,rfl,h0,r0⟩:=trodAll_cons hA
 obtain ⟨v1,vs1,d1,ds1,p1,q1,hargs1,rfl,rfl,h1,r1⟩:=trodAll_cons r0
 obtain ⟨rfl,rfl,rfl⟩:=trodAll_nil r1
 obtain rfl:args=#[v0,v1]:=by cases args;simp_all
 obtain ⟨rfl,rfl⟩:=trodVars_none hV
 obtain ⟨x0,hx0,hi0⟩:=LW ty0 ag0 (hval 0 32 v0 rfl rfl) h0
 obtain ⟨x1,hx1,hi1⟩:=LW ty1 ag1 (hval 1 9 v1 rfl rfl) h1
 have hy:(Fn.lI).fn (hY Fn.fc (x0,(x1,())))=some true:=(Pu.Bd x0 x1 (Tk hi0) (Tk hi1))
 refine (Ra Fn.tK rfl rfl (vs:=[v0,v1]) (xs:=hY Fn.fc (x0,(x1,()))) ⟨hx0,hx1,trivial⟩ (y:=true) hy rfl).mono fun e W' ⟨he,hb⟩=> ?_
 subst he
 exact ⟨_,rfl,Tr laidOut reads (by kernel_rfl) YV rfl rfl hW' hb⟩
theorem lifted (os:Os)(started:os.Started)(H:Type)(enc:TypeId×Value→H):
 ReturnsInHanded {} Tryz.checked os 4 .any (Rows.fnExactCardReceiveSpec.pre6 enc Tryz.prog Tryz.f4 Rows.fnExactCardReceiveRow.domain false) (Rows.fnExactCardReceiveSpec.post enc Tryz.prog Tryz.f4 false true false false):=by
 refine returnsInHanded_of_change (C:=Tryz.checked) own started (by kernel_rfl) Tryz.func4
  (ChangeSpec.witness6 (enc:=enc) (C:=Tryz.checked) false ⟨#[],#[.agg #[.slice none 0 0,.slice none 0 0,.slice none 0 0,.slice none 0 0,.int .i64 0,.int .i64 0,.int .i64 0,.int .i64 0,.slice none 0 0,.slice none 0 0],.string ⟨#[]⟩],[]⟩ 8 (by kernel_rfl) (by kernel_rfl) (by kernel_rfl) (by kernel_rfl)) ?_
 intro W base args ds gs before hval hW _ _
 exact Sp H enc W base args ds gs before hval hW
theorem j1:(Rows.fnExactCardReceiveRow.wf (OpenSpec.ofChange Rows.fnExactCardReceiveSpec))=true:=by kernel_rfl
theorem j2:(laidOutB Tryz.prog)=true:=by kernel_rfl
theorem j3:(mapsRowed Tryz.prog)=true:=by kernel_rfl
theorem j4:(Tryz.f4.params.all (Tryz.prog.readableRec ·))=true:=by kernel_rfl
theorem j5:(namedTie Tryz.prog Rows.fnExactCardReceiveRow.named Rows.fnExactCardReceiveSpec.vars)=true:=by kernel_rfl
theorem j6:(Rows.fnExactCardReceiveRow.stops==[])=true:=by kernel_rfl
theorem j7:(Tryz.prog.stops==[])=true:=by kernel_rfl
theorem j8:(Rows.fnExactCardReceiveRow.knobs==[])=true:=by kernel_rfl
theorem j9:(Tryz.prog.stopKnobs==[])=true:=by kernel_rfl
theorem j10:(Rows.fnExactCardReceiveRow.inPlace==Tryz.prog.inPlace 4)=true:=by kernel_rfl
theorem j11:(Rows.fnExactCardReceiveRow.unfollowed==Tryz.prog.unfollowed 4)=true:=by kernel_rfl
theorem j12:(Rows.fnExactCardReceiveRow.recurses==Tryz.prog.recurses 4)=true:=by kernel_rfl
theorem j13:(Rows.fnExactCardReceiveRow.named==Tryz.prog.varsNamed 4)=true:=by kernel_rfl
theorem j14:(Rows.fnExactCardReceiveRow.maps==(Tryz.f4.params.toList++Rows.fnExactCardReceiveSpec.plain.varTypes Tryz.prog).any (Tryz.prog.mapsRec ·))=true:=by kernel_rfl
theorem j15:(Rows.fnExactCardReceiveRow.ifaces==(Tryz.f4.params.toList++Rows.fnExactCardReceiveSpec.plain.varTypes Tryz.prog).any (Tryz.prog.ifacesRec ·))=true:=by kernel_rfl
theorem j16:(Rows.fnExactCardReceiveRow.mapsOut==Tryz.prog.mapsAmong Tryz.f4.resultTypes.toList)=true:=by kernel_rfl
theorem j17:(Rows.fnExactCardReceiveRow.loops==(Tryz.f4.params.toList++Rows.fnExactCardReceiveSpec.plain.varTypes Tryz.prog).any (Tryz.prog.loopsFrom ·))=true:=by kernel_rfl
theorem j18:(Rows.fnExactCardReceiveRow.wideKeys==(Tryz.f4.params.toList++Rows.fnExactCardReceiveSpec.plain.varTypes Tryz.prog++Tryz.f4.resultTypes.toList).any (Tryz.prog.wideKeysFrom ·))=true:=by kernel_rfl
theorem j19:(Rows.fnExactCardReceiveSpec.vars.all (Tryz.prog.varReadable ·))=true:=by kernel_rfl
theorem j20:(Tryz.f4.resultTypes.all (fun t=>Tryz.prog.readableRec t&&decide (t<Tryz.prog.types.size)))=true:=by kernel_rfl
theorem j21:(Rows.fnExactCardReceiveRow.ifacesOut==Tryz.f4.resultTypes.toList.any (Tryz.prog.ifacesRec ·))=true:=by kernel_rfl
theorem j22:(Rows.fnExactCardReceiveRow.loopsOut==Tryz.f4.resultTypes.toList.any (Tryz.prog.loopsFrom ·))=true:=by kernel_rfl
theorem j23:(Rows.fnExactCardReceiveRow.plainKeys==Tryz.prog.plainKeys)=true:=by kernel_rfl
theorem j24:(Rows.fnExactCardReceiveRow.shortTexts.isNone)=true:=by kernel_rfl
theorem j25:(Tryz.prog.stopsHeard)=true:=by kernel_rfl
theorem j26:(Tryz.prog.mayEnter)=true:=by kernel_rfl
theorem j27:(Rows.fnExactCardReceiveRow.lifted==Tryz.prog.liftsFinal)=true:=by kernel_rfl
theorem j28:(Tryz.prog.make==some Rows.fnExactCardReceiveRow.make)=true:=by kernel_rfl
theorem j29:(Rows.fnExactCardReceiveRow.kinds==(if Rows.fnExactCardReceiveRow.domain.isEmpty then [] else Tryz.f4.params.toList.map fun t=>match Tryz.prog.underlying t with|some (.int k)=>some k|_=>none))=true:=by kernel_rfl
theorem j30:(Rows.fnExactCardReceiveRow.pinned==Rows.fnExactCardReceiveRow.pinnedBy)=true:=by kernel_rfl
theorem j31:(Rows.fnExactCardReceiveRow.veiled==(Tryz.f4.params.toList++Rows.fnExactCardReceiveSpec.plain.varTypes Tryz.prog++Tryz.f4.resultTypes.toList).any (Tryz.prog.veiledRec ·))=true:=by kernel_rfl
theorem j32:(Rows.fnExactCardReceiveRow.veiledFits Tryz.prog Tryz.f4.params.toList (Tryz.f4.params.toList++Rows.fnExactCardReceiveSpec.plain.varTypes Tryz.prog++Tryz.f4.resultTypes.toList))=true:=by kernel_rfl
theorem m9 {a b:Bool}(h:a=true)(g:b=true):(a&&b)=true:=by rw [h,g];rfl
theorem closed:joinedFacts Tryz.prog 4 Tryz.f4 Rows.fnExactCardReceiveSpec Rows.fnExactCardReceiveRow=true:=by
 unfold joinedFacts
 exact (m9 (m9 (m9 (m9 (m9 (m9 (m9 (m9 (m9 (m9 (m9 (m9 (m9 (m9 (m9 (m9 (m9 (m9 (m9 (m9 (m9 (m9 (m9 (m9 (m9 (m9 (m9 (m9 (m9 (m9 (m9 j1 j2) j3) j4) j5) j6) j7) j8) j9) j10) j11) j12) j13) j14) j15) j16) j17) j18) j19) j20) j21) j22) j23) j24) j25) j26) j27) j28) j29) j30) j31) j32)
theorem proved:Rows.FnExactCardReceiveSaid:=
 OpenClaim.holds_of_wide 4 Tryz.f4 rfl rfl rfl rfl rfl rfl rfl ⟨rfl,rfl,rfl,rfl,rfl⟩ rfl rfl rfl rfl rfl (by kernel_rfl) Tryz.func4 closed
  (of_decide_eq_true (by kernel_rfl)) (by unfold Func.isWrapper;first|(rw [if_pos (by decide+kernel)];kernel_rfl)|(rw [if_neg (by decide+kernel)];exact ⟨rfl,rfl⟩))
  (fun os started H enc _=>lifted os started H enc)
end Go.Proofs.YtgilglpncgncjaaGreat.CardReceive
