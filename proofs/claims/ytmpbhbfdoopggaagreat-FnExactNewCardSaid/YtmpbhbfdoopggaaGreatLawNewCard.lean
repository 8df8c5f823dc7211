/- FnExactNewCard: for every input the law returns true, and each argument reads behind the call as it read before. No condition. -/
import Derived.Test.YtmpbhbfdoopggaaGreatSeat
import Derived.Test.YtmpbhbfdoopggaaGreatPuLawNewCard
namespace Go.Proofs.YtmpbhbfdoopggaaGreat.NewCard
open Go.Dn Go.ChangeShapes Go.WideShapes Go.ChangeAt Go.RowKit
set_option maxRecDepth 100000
theorem own:ownKnob Tryz.prog.godebug=none:=by kernel_rfl
theorem laidOut:laidOutB Tryz.prog=true:=by kernel_rfl
theorem Oh:Tryz.prog.underlying 4=some .bool:=by kernel_rfl
theorem reads:Tryz.f3.params.toList.all (fun t=>Tryz.prog.readableRec t&&decide (t<Tryz.prog.types.size))=true:=by kernel_rfl
theorem ty0:tz Tryz.prog 7 22 (.sl Pu.aw)=true:=by kernel_rfl
theorem ag0:B3 Tryz.prog 22=false:=by kernel_rfl
theorem ty1:tz Tryz.prog 7 31 Pu.aK=true:=by kernel_rfl
theorem Yk:B3 Tryz.prog 31=true:=by kernel_rfl
theorem ty2:tz Tryz.prog 7 4 .bool=true:=by kernel_rfl
theorem Yl:B3 Tryz.prog 4=false:=by kernel_rfl
theorem ty3:tz Tryz.prog 7 33 Pu.cm=true:=by kernel_rfl
theorem ag3:B3 Tryz.prog 33=true:=by kernel_rfl
theorem ty4:tz Tryz.prog 7 36 (.sl .str)=true:=by kernel_rfl
theorem ag4:B3 Tryz.prog 36=true:=by kernel_rfl
theorem ty5:tz Tryz.prog 7 3 (.int .i64)=true:=by kernel_rfl
theorem ag5:B3 Tryz.prog 3=false:=by kernel_rfl
theorem Bf:∀{t:CT}{x:t.D},IK t x→Pu.og t x
 | .int _,_,h=>h
 | .bool,_,_=>trivial
 | .str,_,h=>h
 | .sl _,_,h=>⟨h.1,fun x hx=>Bf (h.2 x hx)⟩
 | .pair _ _,_,h=>⟨Bf h.1,Bf h.2⟩
theorem I2 (H:Type)(enc:TypeId×Value→H)(W:World)(base:Nat)(args:Array Value)(ds gs:List (DataW H))(before:List MemPlace)
 (hval:∀(j:Nat) t v,Tryz.f3.params[j]?=some t→args[j]?=some v→Value.okWide Tryz.prog W .any base t v)
 (hW:DataW.Whole enc Tryz.prog Tryz.f3.params.toList Rows.fnExactNewCardSpec.vars false W args.toList ds gs before):
 Calls Tryz.prog 3 args W fun e W'=>∃v,e= .returned v∧Rows.fnExactNewCardSpec.post enc Tryz.prog Tryz.f3 false true false false W args v W':=by
 have hW':=hW
 obtain ⟨p,q,hA0,hV,rfl,hfz,hnd⟩:=hW
 have hA:DataW.TrodAll enc Tryz.prog W 0 (fun _=>true) true Tryz.f3.params.toList args.toList ds p:=hA0
 rw [Tryz.params3] at hA hval
 obtain ⟨v0,vs0,d0,ds0,p0,q0,hargs0,rfl,rfl,h0,r0⟩:=trodAll_cons hA
 obtain ⟨v1,vs1,d1,ds1,p1,q1,hargs1,rfl,rfl,h1,r1⟩:=trodAll_cons r0
 obtain ⟨v2,vs2,d2,ds2,p2,q2,hargs2,rfl,rfl,h2,r2⟩:=trodAll_cons r1
 obtain ⟨v3,vs3,d3,ds3,p3,q3,hargs3,rfl,rfl,h3,r3⟩:=trodAll_cons r2
 obtain ⟨v4,vs4,d4,ds4,p4,q4,hargs4,rfl,rfl,h4,r4⟩:=trodAll_cons r3
 obtain ⟨v5,vs5,d5,ds5,p5,q5,hargs5,rfl,rfl,h5,r5⟩:=trodAll_cons r4
 obtain ⟨rfl,rfl,rfl⟩:=trodAll_nil r5
 obtain rfl:args=#[v0,v1,v2,v3,v4,v5]:=by cases args;simp_all
 obtain ⟨rfl,rfl⟩:=trodVars_none hV
 obtain ⟨x0,hx0,hi0⟩:=pC ty0 ag0 (hval 0 22 v0 rfl rfl) h0
 obtain ⟨x1,hx1,hi1⟩:=pC ty1 Yk (hval 1 31 v1 rfl rfl) h1
 obtain ⟨x2,hx2,hi2⟩:=pC ty2 Yl (hval 2 4 v2 rfl rfl) h2
 obtain ⟨x3,hx3,hi3⟩:=pC ty3 ag3 (hval 3 33 v3 rfl rfl) h3
 obtain ⟨x4,hx4,hi4⟩:=pC ty4 ag4 (hval 4 36 v4 rfl rfl) h4
 obtain ⟨x5,hx5,hi5⟩:=pC ty5 ag5 (hval 5 3 v5 rfl rfl) h5
 have hy:(Fn.lq).fn (fe Fn.gi (x0,(x1,(x2,(x3,(x4,(x5,())))))))=some true:=(Pu.Br x0 x1 x2 x3 x4 x5 (Bf hi0) (Bf hi1) (Bf hi2) (Bf hi3) (Bf hi4) (Bf hi5))
 refine (HS Fn.qV rfl rfl (vs:=[v0,v1,v2,v3,v4,v5]) (xs:=fe Fn.gi (x0,(x1,(x2,(x3,(x4,(x5,()))))))) ⟨hx0,hx1,hx2,hx3,hx4,hx5,trivial⟩ (y:=true) hy rfl).mono fun e W' ⟨he,hb⟩=> ?_
 subst he
 exact ⟨_,rfl,JS laidOut reads (by kernel_rfl) Oh rfl rfl hW' hb⟩
theorem lifted (os:Os)(started:os.Started)(H:Type)(enc:TypeId×Value→H):
 ReturnsInHanded {} Tryz.checked os 3 .any (Rows.fnExactNewCardSpec.pre6 enc Tryz.prog Tryz.f3 Rows.fnExactNewCardRow.domain false) (Rows.fnExactNewCardSpec.post enc Tryz.prog Tryz.f3 false true false false):=by
 refine returnsInHanded_of_change (C:=Tryz.checked) own started (by kernel_rfl) Tryz.func3
  (ChangeSpec.witness6 (enc:=enc) (C:=Tryz.checked) false ⟨#[],#[.slice none 0 0,.agg #[.slice none 0 0,.slice none 0 0,.string ⟨#[]⟩,.slice none 0 0],.bool false,.agg #[.int .i64 0,.int .i64 0,.int .i64 0],.agg #[.slice none 0 0],.int .i64 0],[]⟩ 8 (by kernel_rfl) (by kernel_rfl) (by kernel_rfl) (by kernel_rfl)) ?_
 intro W base args ds gs before hval hW _ _
 exact I2 H enc W base args ds gs before hval hW
theorem j1:(Rows.fnExactNewCardRow.wf (OpenSpec.ofChange Rows.fnExactNewCardSpec))=true:=by kernel_rfl
theorem j2:(laidOutB Tryz.prog)=true:=by kernel_rfl
theorem j3:(mapsRowed Tryz.prog)=true:=by kernel_rfl
theorem j4:(Tryz.f3.params.all (Tryz.prog.readableRec ·))=true:=by kernel_rfl
theorem j5:(namedTie Tryz.prog Rows.fnExactNewCardRow.named Rows.fnExactNewCardSpec.vars)=true:=by kernel_rfl
theorem j6:(Rows.fnExactNewCardRow.stops==[])=true:=by kernel_rfl
theorem j7:(Tryz.prog.stops==[])=true:=by kernel_rfl
theorem j8:(Rows.fnExactNewCardRow.knobs==[])=true:=by kernel_rfl
theorem j9:(Tryz.prog.stopKnobs==[])=true:=by kernel_rfl
theorem j10:(Rows.fnExactNewCardRow.inPlace==Tryz.prog.inPlace 3)=true:=by kernel_rfl
theorem j11:(Rows.fnExactNewCardRow.unfollowed==Tryz.prog.unfollowed 3)=true:=by kernel_rfl
theorem j12:(Rows.fnExactNewCardRow.recurses==Tryz.prog.recurses 3)=true:=by kernel_rfl
theorem j13:(Rows.fnExactNewCardRow.named==Tryz.prog.varsNamed 3)=true:=by kernel_rfl
theorem j14:(Rows.fnExactNewCardRow.maps==(Tryz.f3.params.toList++Rows.fnExactNewCardSpec.plain.varTypes Tryz.prog).any (Tryz.prog.mapsRec ·))=true:=by kernel_rfl
theorem j15:(Rows.fnExactNewCardRow.ifaces==(Tryz.f3.params.toList++Rows.fnExactNewCardSpec.plain.varTypes Tryz.prog).any (Tryz.prog.ifacesRec ·))=true:=by kernel_rfl
theorem j16:(Rows.fnExactNewCardRow.mapsOut==Tryz.prog.mapsAmong Tryz.f3.resultTypes.toList)=true:=by kernel_rfl
theorem j17:(Rows.fnExactNewCardRow.loops==(Tryz.f3.params.toList++Rows.fnExactNewCardSpec.plain.varTypes Tryz.prog).any (Tryz.prog.loopsFrom ·))=true:=by kernel_rfl
theorem j18:(Rows.fnExactNewCardRow.wideKeys==(Tryz.f3.params.toList++Rows.fnExactNewCardSpec.plain.varTypes Tryz.prog++Tryz.f3.resultTypes.toList).any (Tryz.prog.wideKeysFrom ·))=true:=by kernel_rfl
theorem j19:(Rows.fnExactNewCardSpec.vars.all (Tryz.prog.varReadable ·))=true:=by kernel_rfl
theorem j20:(Tryz.f3.resultTypes.all (fun t=>Tryz.prog.readableRec t&&decide (t<Tryz.prog.types.size)))=true:=by kernel_rfl
theorem j21:(Rows.fnExactNewCardRow.ifacesOut==Tryz.f3.resultTypes.toList.any (Tryz.prog.ifacesRec ·))=true:=by kernel_rfl
theorem j22:(Rows.fnExactNewCardRow.loopsOut==Tryz.f3.resultTypes.toList.any (Tryz.prog.loopsFrom ·))=true:=by kernel_rfl
theorem j23:(Rows.fnExactNewCardRow.plainKeys==Tryz.prog.plainKeys)=true:=by kernel_rfl
theorem j24:(Rows.fnExactNewCardRow.shortTexts.isNone)=true:=by kernel_rfl
theorem j25:(Tryz.prog.stopsHeard)=true:=by kernel_rfl
theorem j26:(Tryz.prog.mayEnter)=true:=by kernel_rfl
theorem j27:(Rows.fnExactNewCardRow.lifted==Tryz.prog.liftsFinal)=true:=by kernel_rfl
theorem j28:(Tryz.prog.make==some Rows.fnExactNewCardRow.make)=true:=by kernel_rfl
theorem j29:(Rows.fnExactNewCardRow.kinds==(if Rows.fnExactNewCardRow.domain.isEmpty then [] else Tryz.f3.params.toList.map fun t=>match Tryz.prog.underlying t with|some (.int k)=>some k|_=>none))=true:=by kernel_rfl
theorem j30:(Rows.fnExactNewCardRow.pinned==Rows.fnExactNewCardRow.pinnedBy)=true:=by kernel_rfl
theorem j31:(Rows.fnExactNewCardRow.veiled==(Tryz.f3.params.toList++Rows.fnExactNewCardSpec.plain.varTypes Tryz.prog++Tryz.f3.resultTypes.toList).any (Tryz.prog.veiledRec ·))=true:=by kernel_rfl
theorem j32:(Rows.fnExactNewCardRow.veiledFits Tryz.prog Tryz.f3.params.toList (Tryz.f3.params.toList++Rows.fnExactNewCardSpec.plain.varTypes Tryz.prog++Tryz.f3.resultTypes.toList))=true:=by kernel_rfl
theorem jH {a b:Bool}(h:a=true)(g:b=true):(a&&b)=true:=by rw [h,g];rfl
theorem closed:joinedFacts Tryz.prog 3 Tryz.f3 Rows.fnExactNewCardSpec Rows.fnExactNewCardRow=true:=by
 unfold joinedFacts
 exact (jH (jH (jH (jH (jH (jH (jH (jH (jH (jH (jH (jH (jH (jH (jH (jH (jH (jH (jH (jH (jH (jH (jH (jH (jH (jH (jH (jH (jH (jH (jH j1 j2) j3) j4) j5) j6) j7) j8) j9) j10) j11) j12) j13) j14) j15) j16) j17) j18) j19) j20) j21) j22) j23) j24) j25) j26) j27) j28) j29) j30) j31) j32)
theorem proved:Rows.FnExactNewCardSaid:=
 OpenClaim.holds_of_wide 3 Tryz.f3 rfl rfl rfl rfl rfl rfl rfl ⟨rfl,rfl,rfl,rfl,rfl⟩ rfl rfl rfl rfl rfl (by kernel_rfl) Tryz.func3 closed
  (of_decide_eq_true (by kernel_rfl)) (by unfold Func.isWrapper;first|(rw [if_pos (by decide+kernel)];kernel_rfl)|(rw [if_neg (by decide+kernel)];exact ⟨rfl,rfl⟩))
  (fun os started H enc _=>lifted os started H enc)
end Go.Proofs.YtmpbhbfdoopggaaGreat.NewCard
