/- FnExactAllDelivered: for every input the law returns true, and each argument reads behind the call as it read before. No condition. -/
import Derived.Test.YtfbhfnniblfpbaaGreatSeat
import Derived.Test.YtfbhfnniblfpbaaGreatPuLawAllDelivered
namespace Go.Proofs.YtfbhfnniblfpbaaGreat.AllDelivered
open Go.Dn Go.ChangeShapes Go.WideShapes Go.ChangeAt Go.RowKit
set_option maxRecDepth 100000
theorem own:ownKnob Tryz.prog.godebug=none:=by kernel_rfl
theorem laidOut:laidOutB Tryz.prog=true:=by kernel_rfl
theorem agN:Tryz.prog.underlying 4=some .bool:=by kernel_rfl
theorem reads:Tryz.f5.params.toList.all (λt=>Tryz.prog.readableRec t&&decide (t<Tryz.prog.types.size))=true:=by kernel_rfl
theorem ty0:PY Tryz.prog 8 94 Pu.da=true:=by kernel_rfl
theorem ag0:ae5 Tryz.prog 94=true:=by kernel_rfl
theorem ty1:PY Tryz.prog 8 95 (.sl Pu.CV)=true:=by kernel_rfl
theorem ag1:ae5 Tryz.prog 95=false:=by kernel_rfl
theorem adS:∀{t:CT}{x:t.D},InR t x->Pu.rq t x
 | .int _,_,h=>h
 | .bool,_,_=>trivial
 | .str,_,h=>h
 | .sl _,_,h=>⟨h.1,λx hx=>adS (h.2 x hx)⟩
 | .pair _ _,_,h=>⟨adS h.1,adS h.2⟩
theorem acN (H:Type)(enc:TypeId×Value->H)(W:World)(base:Nat)(args:Array Value)(ds gs:au (DataW H))(before:au MemPlace)(HK:∀(j:Nat) t v,Tryz.f5.params[j]?=some t->args[j]?=some v->Value.okWide Tryz.prog W .any base t v)(hW:DataW.Whole enc Tryz.prog Tryz.f5.params.toList Rows.fnExactAllDeliveredSpec.vars false W args.toList ds gs before): Calls Tryz.prog 5 args W λe W'=>∃v,e=.returned v/\Rows.fnExactAllDeliveredSpec.post enc Tryz.prog Tryz.f5 false true false false W args v W':=by
 have hW':=hW;obtain⟨p,q,hA0,hV,rfl,hfz,D9⟩:=hW;have hA:DataW.TrodAll enc Tryz.prog W 0 (λ_=>true) true Tryz.f5.params.toList args.toList ds p:=hA0;rw[Tryz.params5]at hA HK;obtain⟨v0,vs0,d0,ds0,p0,q0,aoB,rfl,rfl,h0,r0⟩:=trodAll_cons hA;obtain⟨v1,vs1,d1,ds1,p1,q1,aoC,rfl,rfl,h1,r1⟩:=trodAll_cons r0;obtain⟨rfl,rfl,rfl⟩:=trodAll_nil r1;obtain rfl:args=#[v0,v1]:=by cases args;simp_all
 obtain⟨rfl,rfl⟩:=trodVars_none hV;obtain⟨x0,WO,hi0⟩:=Vw ty0 ag0 (HK 0 94 v0 rfl rfl) h0;obtain⟨x1,hx1,hi1⟩:=Vw ty1 ag1 (HK 1 95 v1 rfl rfl) h1;have hy:(Fn.qB).fn (ia Fn.kL (x0,(x1,())))=some true:=(Pu.I5 x0 x1 (adS hi0) (adS hi1))
 refine(abh Fn.BL rfl rfl (vs:=[v0,v1]) (xs:=ia Fn.kL (x0,(x1,()))) ⟨WO,hx1,df⟩ (y:=true) hy rfl).mono λe W' ⟨he,hb⟩=>?_;subst he;exact⟨_,rfl,adZ laidOut reads (by kernel_rfl) agN rfl rfl hW' hb⟩
theorem lifted (os:Os)(started:os.Started)(H:Type)(enc:TypeId×Value->H): ReturnsInHanded {} Tryz.checked os 5 .any (Rows.fnExactAllDeliveredSpec.pre6 enc Tryz.prog Tryz.f5 Rows.fnExactAllDeliveredRow.domain false) (Rows.fnExactAllDeliveredSpec.post enc Tryz.prog Tryz.f5 false true false false):=by refine returnsInHanded_of_change (C:=Tryz.checked) own started (by kernel_rfl) Tryz.func5 (ChangeSpec.witness6 (enc:=enc) (C:=Tryz.checked) false ⟨#[],#[.agg #[.slice none 0 0,.slice none 0 0,.int .i64 0,.int .i64 0,.int .i64 0,.int .i64 0,.int .i64 0,.int .i64 0,.int .i64 0,.slice none 0 0,.slice none 0 0,.int .i64 0,.slice none 0 0,.slice none 0 0,.slice none 0 0,.slice none 0 0,.int .i64 0,.bool false,.slice none 0 0,.slice none 0 0,.slice none 0 0,.string ⟨#[]⟩,.slice none 0 0,.slice none 0 0,.bool false,.slice none 0 0,.slice none 0 0,.slice none 0 0,.int .i64 0,.int .i64 0,.int .i64 0,.int .i64 0,.int .i64 0],.slice none 0 0],[]⟩ 8 (by kernel_rfl) (by kernel_rfl) (by kernel_rfl) (by kernel_rfl)) ?_;intro W base args ds gs before HK hW _ _;exact acN H enc W base args ds gs before HK hW
def k1 (K i : Nat) : Nat := (K >>> (5 * i)) % 32
def k2 (P : Program) (K : Nat) : List Func → Nat → Bool
  | [], _ => true
  | g :: l, i => (P.leadsTo g).all (fun h => Nat.blt (k1 K h) (k1 K i)) && k2 P K l (i + 1)
theorem k3 {P : Program} {K : Nat} : ∀ (l : List Func) (i : Nat), k2 P K l i = true → ∀ (j : Nat) (f : Func), l[j]? = some f → ∀ h ∈ P.leadsTo f, k1 K h < k1 K (i + j)
  | g :: l, i, e, j, f, p, h, q => by
    rw [k2, Bool.and_eq_true, List.all_eq_true] at e
    cases j with
    | zero => cases p; exact Nat.blt_eq.mp (e.1 h q)
    | succ j => have := k3 l (i + 1) e.2 j f p h q; rwa [Nat.add_right_comm] at this
theorem k4 {P : Program} {r : Nat → Nat} (a : ∀ (g : Nat) (f : Func), P.funcs[g]? = some f → ∀ h ∈ P.leadsTo f, r h < r g) : ∀ (n : Nat) (t s : List FuncId) (x : FuncId), x ∈ P.closureVia n t s → x ∈ s ∨ ∃ b ∈ t, r x ≤ r b := by
  intro n
  induction n with
  | zero => intro t s x h; exact Or.inl (by simpa [Program.closureVia] using h)
  | succ n u =>
    intro t s x h
    cases t with
    | nil => exact Or.inl (by simpa [Program.closureVia] using h)
    | cons f t =>
      rw [Program.closureVia] at h
      split at h
      · rcases u _ _ _ h with h | ⟨b, c, d⟩
        · exact Or.inl h
        · exact Or.inr ⟨b, List.mem_cons_of_mem _ c, d⟩
      · rcases u _ _ _ h with h | ⟨b, c, d⟩
        · rcases List.mem_cons.1 h with rfl | h
          · exact Or.inr ⟨_, List.mem_cons_self, Nat.le_refl _⟩
          · exact Or.inl h
        · rcases List.mem_append.1 c with c | c
          · cases e : P.funcs[f]? with
            | none => rw [e] at c; exact nomatch c
            | some g => rw [e] at c; have := a f g e b c; exact Or.inr ⟨f, List.mem_cons_self, by omega⟩
          · exact Or.inr ⟨b, List.mem_cons_of_mem _ c, d⟩
theorem k5 {P : Program} (K f : Nat) (u : P.unfollowed f = false) (v : k2 P K P.funcs.toList 0 = true) : P.recurses f = false := by
  have a : ∀ (g : Nat) (f : Func), P.funcs[g]? = some f → ∀ h ∈ P.leadsTo f, k1 K h < k1 K g := fun g f e h q => by
    have := k3 _ _ v g f (by rw [Array.getElem?_toList]; exact e) h q
    rwa [Nat.zero_add] at this
  rw [Program.recurses, u, Bool.false_or, List.any_eq_false]
  intro g _ x
  obtain ⟨h, b, c⟩ := List.any_eq_true.1 x
  cases e : P.funcs[g]? with
  | none => rw [e] at b; exact nomatch b
  | some f =>
    rw [e] at b
    have i := a g f e h b
    rcases k4 a _ _ _ _ (List.contains_iff_mem.1 c) with d | ⟨t, d, j⟩
    · exact nomatch d
    · cases List.mem_singleton.1 d; omega
theorem j1:(Rows.fnExactAllDeliveredRow.wf (OpenSpec.ofChange Rows.fnExactAllDeliveredSpec))=true:=by kernel_rfl
theorem j2:(laidOutB Tryz.prog)=true:=by kernel_rfl
theorem j3:(mapsRowed Tryz.prog)=true:=by kernel_rfl
theorem j4:(Tryz.f5.params.all (Tryz.prog.readableRec ·))=true:=by kernel_rfl
theorem j5:(namedTie Tryz.prog Rows.fnExactAllDeliveredRow.named Rows.fnExactAllDeliveredSpec.vars)=true:=by kernel_rfl
theorem j6:(Rows.fnExactAllDeliveredRow.stops==[])=true:=by kernel_rfl
theorem j7:(Tryz.prog.stops==[])=true:=by kernel_rfl
theorem j8:(Rows.fnExactAllDeliveredRow.knobs==[])=true:=by kernel_rfl
theorem j9:(Tryz.prog.stopKnobs==[])=true:=by kernel_rfl
theorem j10:(Rows.fnExactAllDeliveredRow.inPlace==Tryz.prog.inPlace 5)=true:=by kernel_rfl
theorem j11:(Rows.fnExactAllDeliveredRow.unfollowed==Tryz.prog.unfollowed 5)=true:=by kernel_rfl
theorem j12:(Rows.fnExactAllDeliveredRow.recurses==Tryz.prog.recurses 5)=true:=by rw [k5 0x42108041008820880101c21080021082208c021044208ca410403108241884020ca61042108020084220842340400108821006820ca320c6308083080214106528c8618ca61844319063004652000510c40290a021003388c21144019c40290a21100311c001004008040100201040200401081230040309462228472002210d0128c82004420a14201c81004003880019ca41000130c21004210802130c0020d261210030d280042118403104000846100c41000010806208462008221002a494602084811163400200042318409198430884911163400001042200468408a108447300211040008440104220800108802529214a9211000220401110610800011020088830840008820008830048108c230802232c252a5890082022921208ca624034a000004031b44d10ca328ca5109ef508c0001a0715606b9407ba1078400 5 (by kernel_rfl) (by kernel_rfl)]; rfl
theorem j13:(Rows.fnExactAllDeliveredRow.named==Tryz.prog.varsNamed 5)=true:=by kernel_rfl
theorem j14:(Rows.fnExactAllDeliveredRow.maps==(Tryz.f5.params.toList++Rows.fnExactAllDeliveredSpec.plain.varTypes Tryz.prog).any (Tryz.prog.mapsRec ·))=true:=by kernel_rfl
theorem j15:(Rows.fnExactAllDeliveredRow.ifaces==(Tryz.f5.params.toList++Rows.fnExactAllDeliveredSpec.plain.varTypes Tryz.prog).any (Tryz.prog.ifacesRec ·))=true:=by kernel_rfl
theorem j16:(Rows.fnExactAllDeliveredRow.mapsOut==Tryz.prog.mapsAmong Tryz.f5.resultTypes.toList)=true:=by kernel_rfl
theorem j17:(Rows.fnExactAllDeliveredRow.loops==(Tryz.f5.params.toList++Rows.fnExactAllDeliveredSpec.plain.varTypes Tryz.prog).any (Tryz.prog.loopsFrom ·))=true:=by kernel_rfl
theorem j18:(Rows.fnExactAllDeliveredRow.wideKeys==(Tryz.f5.params.toList++Rows.fnExactAllDeliveredSpec.plain.varTypes Tryz.prog++Tryz.f5.resultTypes.toList).any (Tryz.prog.wideKeysFrom ·))=true:=by kernel_rfl
theorem j19:(Rows.fnExactAllDeliveredSpec.vars.all (Tryz.prog.varReadable ·))=true:=by kernel_rfl
theorem j20:(Tryz.f5.resultTypes.all (λt=>Tryz.prog.readableRec t&&decide (t<Tryz.prog.types.size)))=true:=by kernel_rfl
theorem j21:(Rows.fnExactAllDeliveredRow.ifacesOut==Tryz.f5.resultTypes.toList.any (Tryz.prog.ifacesRec ·))=true:=by kernel_rfl
theorem j22:(Rows.fnExactAllDeliveredRow.loopsOut==Tryz.f5.resultTypes.toList.any (Tryz.prog.loopsFrom ·))=true:=by kernel_rfl
theorem j23:(Rows.fnExactAllDeliveredRow.plainKeys==Tryz.prog.plainKeys)=true:=by kernel_rfl
theorem j24:(Rows.fnExactAllDeliveredRow.shortTexts.isNone)=true:=by kernel_rfl
theorem j25:(Tryz.prog.stopsHeard)=true:=by kernel_rfl
theorem j26:(Tryz.prog.mayEnter)=true:=by kernel_rfl
theorem j27:(Rows.fnExactAllDeliveredRow.lifted==Tryz.prog.liftsFinal)=true:=by kernel_rfl
theorem j28:(Tryz.prog.make==some Rows.fnExactAllDeliveredRow.make)=true:=by kernel_rfl
theorem j29:(Rows.fnExactAllDeliveredRow.kinds==(if Rows.fnExactAllDeliveredRow.domain.isEmpty then [] else Tryz.f5.params.toList.map λt=>match Tryz.prog.underlying t with|some (.int k)=>some k|_=>none))=true:=by kernel_rfl
theorem j30:(Rows.fnExactAllDeliveredRow.pinned==Rows.fnExactAllDeliveredRow.pinnedBy)=true:=by kernel_rfl
theorem j31:(Rows.fnExactAllDeliveredRow.veiled==(Tryz.f5.params.toList++Rows.fnExactAllDeliveredSpec.plain.varTypes Tryz.prog++Tryz.f5.resultTypes.toList).any (Tryz.prog.veiledRec ·))=true:=by kernel_rfl
theorem j32:(Rows.fnExactAllDeliveredRow.veiledFits Tryz.prog Tryz.f5.params.toList (Tryz.f5.params.toList++Rows.fnExactAllDeliveredSpec.plain.varTypes Tryz.prog++Tryz.f5.resultTypes.toList))=true:=by kernel_rfl
theorem uG {a b:Bool}(h:a=true)(g:b=true):(a&&b)=true:=by rw[h,g];rfl
theorem closed:joinedFacts Tryz.prog 5 Tryz.f5 Rows.fnExactAllDeliveredSpec Rows.fnExactAllDeliveredRow=true:=by unfold joinedFacts;exact(uG (uG (uG (uG (uG (uG (uG (uG (uG (uG (uG (uG (uG (uG (uG (uG (uG (uG (uG (uG (uG (uG (uG (uG (uG (uG (uG (uG (uG (uG (uG j1 j2) j3) j4) j5) j6) j7) j8) j9) j10) j11) j12) j13) j14) j15) j16) j17) j18) j19) j20) j21) j22) j23) j24) j25) j26) j27) j28) j29) j30) j31) j32)
theorem proved:Rows.FnExactAllDeliveredSaid:=
 OpenClaim.holds_of_wide 5 Tryz.f5 rfl rfl rfl rfl rfl rfl rfl ⟨rfl,rfl,rfl,rfl,rfl⟩ rfl rfl rfl rfl rfl (by kernel_rfl) Tryz.func5 closed
  (gT (by kernel_rfl)) (by unfold Func.isWrapper;first|(rw[aF (by decide+kernel)];kernel_rfl)|(rw[aE (by decide+kernel)];exact⟨rfl,rfl⟩))
  (λos started H enc _=>lifted os started H enc)
end Go.Proofs.YtfbhfnniblfpbaaGreat.AllDelivered
