/- FnExactDoAct: for every input the law returns true, and each argument reads behind the call as it read before. No condition. -/
import Derived.Test.YtfbhfnniblfpbaaGreatSeat
import Derived.Test.YtfbhfnniblfpbaaGreatPuLawDoAct
namespace Go.Proofs.YtfbhfnniblfpbaaGreat.DoAct
open Go.Dn Go.ChangeShapes Go.WideShapes Go.ChangeAt Go.RowKit
set_option maxRecDepth 100000
theorem own:ownKnob Tryz.prog.godebug=none:=by kernel_rfl
theorem laidOut:laidOutB Tryz.prog=true:=by kernel_rfl
theorem ahI:Tryz.prog.underlying 4=some .bool:=by kernel_rfl
theorem reads:Tryz.f6.params.toList.all (λt=>Tryz.prog.readableRec t&&decide (t<Tryz.prog.types.size))=true:=by kernel_rfl
theorem ty0:Qi Tryz.prog 8 94 Pu.cK=true:=by kernel_rfl
theorem ag0:afY Tryz.prog 94=true:=by kernel_rfl
theorem ty1:Qi Tryz.prog 8 108 Pu.Sx=true:=by kernel_rfl
theorem ag1:afY Tryz.prog 108=true:=by kernel_rfl
theorem aeF:∀{t:CT}{x:t.D},InR t x->Pu.th t x
 | .int _,_,h=>h
 | .bool,_,_=>trivial
 | .str,_,h=>h
 | .sl _,_,h=>⟨h.1,λx hx=>aeF (h.2 x hx)⟩
 | .pair _ _,_,h=>⟨aeF h.1,aeF h.2⟩
theorem adt (H:Type)(enc:TypeId×Value->H)(W:World)(base:Nat)(args:Array Value)(ds gs:ar (DataW H))(before:ar MemPlace)(Ij:∀(j:Nat) t v,Tryz.f6.params[j]?=some t->args[j]?=some v->Value.okWide Tryz.prog W .any base t v)(hW:DataW.Whole enc Tryz.prog Tryz.f6.params.toList Rows.fnExactDoActSpec.vars false W args.toList ds gs before): Calls Tryz.prog 6 args W λe W'=>∃v,e=.returned v/\Rows.fnExactDoActSpec.post enc Tryz.prog Tryz.f6 false true false false W args v W':=by
 have hW':=hW;obtain⟨p,q,hA0,hV,rfl,hfz,ES⟩:=hW;have hA:DataW.TrodAll enc Tryz.prog W 0 (λ_=>true) true Tryz.f6.params.toList args.toList ds p:=hA0;rw[Tryz.params6]at hA Ij;obtain⟨v0,vs0,d0,ds0,p0,q0,apU,rfl,rfl,h0,r0⟩:=trodAll_cons hA;obtain⟨v1,vs1,d1,ds1,p1,q1,apV,rfl,rfl,h1,r1⟩:=trodAll_cons r0;obtain⟨rfl,rfl,rfl⟩:=trodAll_nil r1;obtain rfl:args=#[v0,v1]:=by cases args;simp_all
 obtain⟨rfl,rfl⟩:=trodVars_none hV;obtain⟨x0,Uq,hi0⟩:=V1 ty0 ag0 (Ij 0 94 v0 rfl rfl) h0;obtain⟨x1,hx1,hi1⟩:=V1 ty1 ag1 (Ij 1 108 v1 rfl rfl) h1;have hy:(Fn.AG).fn (ix Fn.tr (x0,(x1,())))=some true:=(Pu.XJ x0 x1 (aeF hi0) (aeF hi1))
 refine(abT Fn.Ik rfl rfl (vs:=[v0,v1]) (xs:=ix Fn.tr (x0,(x1,()))) ⟨Uq,hx1,bV⟩ (y:=true) hy rfl).mono λe W' ⟨he,hb⟩=>?_;subst he;exact⟨_,rfl,aeM laidOut reads (by kernel_rfl) ahI rfl rfl hW' hb⟩
theorem lifted (os:Os)(started:os.Started)(H:Type)(enc:TypeId×Value->H): ReturnsInHanded {} Tryz.checked os 6 .any (Rows.fnExactDoActSpec.pre6 enc Tryz.prog Tryz.f6 Rows.fnExactDoActRow.domain false) (Rows.fnExactDoActSpec.post enc Tryz.prog Tryz.f6 false true false false):=by refine returnsInHanded_of_change (C:=Tryz.checked) own started (by kernel_rfl) Tryz.func6 (ChangeSpec.witness6 (enc:=enc) (C:=Tryz.checked) false ⟨#[],#[.agg #[.slice none 0 0,.slice none 0 0,.int .i64 0,.int .i64 0,.int .i64 0,.int .i64 0,.int .i64 0,.int .i64 0,.int .i64 0,.slice none 0 0,.slice none 0 0,.int .i64 0,.slice none 0 0,.slice none 0 0,.slice none 0 0,.slice none 0 0,.int .i64 0,.bool false,.slice none 0 0,.slice none 0 0,.slice none 0 0,.string ⟨#[]⟩,.slice none 0 0,.slice none 0 0,.bool false,.slice none 0 0,.slice none 0 0,.slice none 0 0,.int .i64 0,.int .i64 0,.int .i64 0,.int .i64 0,.int .i64 0],.agg #[.int .i64 0,.int .i64 0,.int .i64 0,.int .i64 0,.int .i64 0,.int .i64 0,.int .i64 0,.int .i64 0,.int .i64 0,.int .i64 0,.int .i64 0,.int .i64 0,.int .i64 0,.int .i64 0,.int .i64 0,.int .i64 0,.string ⟨#[]⟩,.int .i64 0,.int .i64 0,.string ⟨#[]⟩,.int .i64 0]],[]⟩ 8 (by kernel_rfl) (by kernel_rfl) (by kernel_rfl) (by kernel_rfl)) ?_;intro W base args ds gs before Ij hW _ _;exact adt H enc W base args ds gs before Ij hW
def k1 (K i : Nat) : Nat := (K >>> (5 * i)) % 32
def k2 (P : Program) (K : Nat) : List Func → Nat → Bool
  | [], _ => true
  | g :: l, i => (P.leadsTo g).all (fun h => Nat.blt (k1 K h) (k1 K i)) && k2 P K l (i + 1)
theorem k3 {P : Program} {K : Nat} : ∀ (l : List Func) (i : Nat), k2 P K l i = true → ∀ (j : Nat) (f : Func), l[j]? = some f → ∀ h ∈ P.leadsTo f, k1 K h < k1 K (i + j)
  | g :: l, i, e, j, f, p, h, q => by
    rw [k2, Bool.and_eq_true, List.all_eq_true] at e
    cases j with
    | zero => cases p; exact Nat.blt_eq.mp (e.1 h q)
    | succ j => have := k3 l (i + 1) e.2 j f p h q; rwa [Nat.add_right_comm] at this
theorem k4 {P : Program} {r : Nat → Nat} (a : ∀ (g : Nat) (f : Func), P.funcs[g]? = some f → ∀ h ∈ P.leadsTo f, r h < r g) : ∀ (n : Nat) (t s : List FuncId) (x : FuncId), x ∈ P.closureVia n t s → x ∈ s ∨ ∃ b ∈ t, r x ≤ r b := by
  intro n
  induction n with
  | zero => intro t s x h; exact Or.inl (by simpa [Program.closureVia] using h)
  | succ n u =>
    intro t s x h
    cases t with
    | nil => exact Or.inl (by simpa [Program.closureVia] using h)
    | cons f t =>
      rw [Program.closureVia] at h
      split at h
      · rcases u _ _ _ h with h | ⟨b, c, d⟩
        · exact Or.inl h
        · exact Or.inr ⟨b, List.mem_cons_of_mem _ c, d⟩
      · rcases u _ _ _ h with h | ⟨b, c, d⟩
        · rcases List.mem_cons.1 h with rfl | h
          · exact Or.inr ⟨_, List.mem_cons_self, Nat.le_refl _⟩
          · exact Or.inl h
        · rcases List.mem_append.1 c with c | c
          · cases e : P.funcs[f]? with
            | none => rw [e] at c; exact nomatch c
            | some g => rw [e] at c; have := a f g e b c; exact Or.inr ⟨f, List.mem_cons_self, by omega⟩
          · exact Or.inr ⟨b, List.mem_cons_of_mem _ c, d⟩
theorem k5 {P : Program} (K f : Nat) (u : P.unfollowed f = false) (v : k2 P K P.funcs.toList 0 = true) : P.recurses f = false := by
  have a : ∀ (g : Nat) (f : Func), P.funcs[g]? = some f → ∀ h ∈ P.leadsTo f, k1 K h < k1 K g := fun g f e h q => by
    have := k3 _ _ v g f (by rw [Array.getElem?_toList]; exact e) h q
    rwa [Nat.zero_add] at this
  rw [Program.recurses, u, Bool.false_or, List.any_eq_false]
  intro g _ x
  obtain ⟨h, b, c⟩ := List.any_eq_true.1 x
  cases e : P.funcs[g]? with
  | none => rw [e] at b; exact nomatch b
  | some f =>
    rw [e] at b
    have i := a g f e h b
    rcases k4 a _ _ _ _ (List.contains_iff_mem.1 c) with d | ⟨t, d, j⟩
    · exact nomatch d
    · cases List.mem_singleton.1 d; omega
def c1 (P : Program) : Nat → List FuncId → Nat → List FuncId → Option (List FuncId)
  | 0, _, _, _ => none
  | _ + 1, [], _, s => some s.reverse
  | n + 1, f :: t, K, s => cond (K.testBit f) (c1 P n t K s) (c1 P n ((P.funcs[f]?).elim [] P.leadsTo ++ t) (K ||| 1 <<< f) (f :: s))
theorem c2 {P : Program} {L : List FuncId} : ∀ (n m : Nat) (t : List FuncId) (K : Nat) (s : List FuncId), (∀ i, K.testBit i = s.contains i) → c1 P n t K s = some L → n ≤ m → P.closureVia m t s = L
  | n + 1, m, [], K, s, _, e, _ => by cases e; cases m <;> rfl
  | n + 1, m + 1, f :: t, K, s, h, e, b => by
    rw [Program.closureVia, ← h]
    rw [c1] at e
    cases q : K.testBit f with
    | true => rw [q] at e; exact c2 n m t K s h e (by omega)
    | false =>
      rw [q] at e
      exact c2 n m _ _ (f :: s) (fun i => by rw [Nat.testBit_or, h, Nat.one_shiftLeft, Nat.testBit_two_pow, List.contains_cons, Bool.or_comm]; congr 1; by_cases e : i = f; subst e; simp; have := Ne.symm e; simp [e, this]) e (by omega)
theorem c3 {P : Program} {L : List FuncId} (f n : Nat) (h : c1 P n [f] 0 [] = some L) (b : Nat.ble n (1 + (P.funcs.toList.map fun g => (P.leadsTo g).length + 1).sum) = true) : P.closure f = L :=
  c2 n _ [f] 0 [] (fun i => by simp) h (Nat.le_of_ble_eq_true b)
theorem cl : Tryz.prog.closure 6 = [6, 29, 82, 92, 83, 84, 219, 93, 220, 338, 85, 221, 339, 120, 247, 86, 87, 88, 89, 90, 222, 223, 340, 224, 91, 225, 35, 31, 94, 104, 95, 226, 96, 227, 228, 105, 229, 341, 97, 230, 342, 343, 124, 252, 98, 99, 231, 100, 101, 102, 232, 344, 233, 345, 446, 346, 234, 103, 235, 106, 37, 36, 59, 185, 186, 63, 187, 311, 422, 423, 189, 312, 194, 179, 180, 300, 416, 301, 417, 473, 302, 418, 188, 313, 304, 419, 190, 314, 56, 62, 192, 193, 60, 61, 191, 121, 248, 354, 275, 391, 308, 451, 466, 467, 502, 512, 154, 277, 392, 468, 503, 394, 285, 393, 469, 470, 448, 474, 355, 356, 357, 320, 358, 426, 435, 494, 495, 488, 359, 449, 450, 360, 361, 437, 424, 65, 197, 318, 429, 315, 321, 436, 425, 475, 430, 493, 431, 432, 287, 403, 404, 405, 184, 310, 309, 152, 274, 276, 395, 198, 122, 160, 286, 181, 303, 182, 305, 420, 487, 288, 306, 307, 421, 428, 492, 491, 510, 511, 249, 362, 452, 363, 195, 316, 427, 489, 434, 490, 364, 196, 317, 323, 64, 67, 202, 66, 199, 200, 319, 433, 183, 289, 322, 201, 123, 250, 365, 251, 38, 28, 74, 75, 49, 210, 76, 211, 330, 331, 295, 79, 212, 165, 170, 77, 78, 213, 214, 332, 333, 80, 215, 81, 216, 334, 217, 335, 336, 445, 218, 337, 73, 48, 162, 169, 163, 164, 290, 166, 167, 291, 292, 168, 125, 253, 366, 408, 476, 504, 442, 457, 484, 486, 509, 514, 485, 454, 477, 505, 513, 479, 261, 478, 500, 506, 453, 440, 367, 368, 369, 370, 387, 259, 386, 438, 496, 497, 465, 371, 455, 456, 372, 373, 388, 406, 409, 51, 173, 297, 412, 293, 324, 439, 407, 441, 413, 414, 415, 459, 375, 460, 461, 329, 444, 443, 498, 376, 458, 499, 174, 126, 254, 374, 255, 377, 256, 378, 462, 501, 380, 379, 381, 463, 410, 481, 480, 507, 508, 257, 382, 464, 383, 171, 294, 411, 482, 325, 327, 483, 384, 172, 296, 299, 50, 53, 178, 52, 175, 176, 298, 203, 326, 328, 204, 263, 177, 127, 258, 385, 260, 262, 33, 107, 117, 108, 236, 109, 237, 238, 41, 239, 347, 110, 240, 348, 349, 246, 353, 111, 112, 241, 113, 114, 115, 242, 350, 243, 351, 447, 352, 244, 116, 245, 118, 39, 128, 138, 150, 129, 130, 264, 43, 265, 131, 132, 133, 134, 135, 136, 266, 267, 389, 268, 137, 40, 139, 149, 140, 141, 269, 44, 270, 142, 143, 144, 145, 146, 147, 271, 272, 390, 273, 148] := c3 6 1194 (by kernel_rfl) (by kernel_rfl)
theorem uf : Tryz.prog.unfollowed 6 = false := by unfold Program.unfollowed; rw [cl]; kernel_rfl
theorem j1:(Rows.fnExactDoActRow.wf (OpenSpec.ofChange Rows.fnExactDoActSpec))=true:=by kernel_rfl
theorem j2 : (laidOutB Tryz.prog) = true := laidOut
theorem j3:(mapsRowed Tryz.prog)=true:=by kernel_rfl
theorem j4:(Tryz.f6.params.all (Tryz.prog.readableRec ·))=true:=by kernel_rfl
theorem j5:(namedTie Tryz.prog Rows.fnExactDoActRow.named Rows.fnExactDoActSpec.vars)=true:=by kernel_rfl
theorem j6:(Rows.fnExactDoActRow.stops==[])=true:=by kernel_rfl
theorem j7:(Tryz.prog.stops==[])=true:=by kernel_rfl
theorem j8:(Rows.fnExactDoActRow.knobs==[])=true:=by kernel_rfl
theorem j9:(Tryz.prog.stopKnobs==[])=true:=by kernel_rfl
theorem j10 : (Rows.fnExactDoActRow.inPlace == Tryz.prog.inPlace 6) = true := by unfold Program.inPlace; rw [cl]; kernel_rfl
theorem j11 : (Rows.fnExactDoActRow.unfollowed == Tryz.prog.unfollowed 6) = true := by rw [uf]; rfl
theorem j12 : (Rows.fnExactDoActRow.recurses == Tryz.prog.recurses 6) = true := by rw [k5 458011889752800344875850031471939818135542574846534908819740780413610846303115826312688125525713138255818813408807193740569074462584517095810695491273825219557067220484918995238564656389086088466429771708649262826230288155973250924627142815680822637280248792429095525210047123492523996409201266179270819882264561820610929786787931793982465909195660086294301467440719757417901397720128589003053556748591501499086370185345055172673407471741751379265352954055263502027778276014771632110235704092847979309144321290329118632443102304735864776932569302017047176353777631529382397596160641998659671754760786595880892116146349359158143620898517780296366347396521173845991358490173789050589392319369081577413514660987860192429899225827938656310938930450391438167888417895689902064640 6 uf (by kernel_rfl)]; rfl
theorem j13 : (Rows.fnExactDoActRow.named == Tryz.prog.varsNamed 6) = true := by unfold Program.varsNamed; rw [cl]; kernel_rfl
theorem j14:(Rows.fnExactDoActRow.maps==(Tryz.f6.params.toList++Rows.fnExactDoActSpec.plain.varTypes Tryz.prog).any (Tryz.prog.mapsRec ·))=true:=by kernel_rfl
theorem j15:(Rows.fnExactDoActRow.ifaces==(Tryz.f6.params.toList++Rows.fnExactDoActSpec.plain.varTypes Tryz.prog).any (Tryz.prog.ifacesRec ·))=true:=by kernel_rfl
theorem j16:(Rows.fnExactDoActRow.mapsOut==Tryz.prog.mapsAmong Tryz.f6.resultTypes.toList)=true:=by kernel_rfl
theorem j17:(Rows.fnExactDoActRow.loops==(Tryz.f6.params.toList++Rows.fnExactDoActSpec.plain.varTypes Tryz.prog).any (Tryz.prog.loopsFrom ·))=true:=by kernel_rfl
theorem j18:(Rows.fnExactDoActRow.wideKeys==(Tryz.f6.params.toList++Rows.fnExactDoActSpec.plain.varTypes Tryz.prog++Tryz.f6.resultTypes.toList).any (Tryz.prog.wideKeysFrom ·))=true:=by kernel_rfl
theorem j19:(Rows.fnExactDoActSpec.vars.all (Tryz.prog.varReadable ·))=true:=by kernel_rfl
theorem j20:(Tryz.f6.resultTypes.all (λt=>Tryz.prog.readableRec t&&decide (t<Tryz.prog.types.size)))=true:=by kernel_rfl
theorem j21:(Rows.fnExactDoActRow.ifacesOut==Tryz.f6.resultTypes.toList.any (Tryz.prog.ifacesRec ·))=true:=by kernel_rfl
theorem j22:(Rows.fnExactDoActRow.loopsOut==Tryz.f6.resultTypes.toList.any (Tryz.prog.loopsFrom ·))=true:=by kernel_rfl
theorem j23:(Rows.fnExactDoActRow.plainKeys==Tryz.prog.plainKeys)=true:=by kernel_rfl
theorem j24:(Rows.fnExactDoActRow.shortTexts.isNone)=true:=by kernel_rfl
theorem j25:(Tryz.prog.stopsHeard)=true:=by kernel_rfl
theorem j26:(Tryz.prog.mayEnter)=true:=by kernel_rfl
theorem j27:(Rows.fnExactDoActRow.lifted==Tryz.prog.liftsFinal)=true:=by kernel_rfl
theorem j28:(Tryz.prog.make==some Rows.fnExactDoActRow.make)=true:=by kernel_rfl
theorem j29:(Rows.fnExactDoActRow.kinds==(if Rows.fnExactDoActRow.domain.isEmpty then [] else Tryz.f6.params.toList.map λt=>match Tryz.prog.underlying t with|some (.int k)=>some k|_=>none))=true:=by kernel_rfl
theorem j30:(Rows.fnExactDoActRow.pinned==Rows.fnExactDoActRow.pinnedBy)=true:=by kernel_rfl
theorem j31:(Rows.fnExactDoActRow.veiled==(Tryz.f6.params.toList++Rows.fnExactDoActSpec.plain.varTypes Tryz.prog++Tryz.f6.resultTypes.toList).any (Tryz.prog.veiledRec ·))=true:=by kernel_rfl
theorem j32:(Rows.fnExactDoActRow.veiledFits Tryz.prog Tryz.f6.params.toList (Tryz.f6.params.toList++Rows.fnExactDoActSpec.plain.varTypes Tryz.prog++Tryz.f6.resultTypes.toList))=true:=by kernel_rfl
theorem vi {a b:Bool}(h:a=true)(g:b=true):(a&&b)=true:=by rw[h,g];rfl
theorem closed:joinedFacts Tryz.prog 6 Tryz.f6 Rows.fnExactDoActSpec Rows.fnExactDoActRow=true:=by unfold joinedFacts;exact(vi (vi (vi (vi (vi (vi (vi (vi (vi (vi (vi (vi (vi (vi (vi (vi (vi (vi (vi (vi (vi (vi (vi (vi (vi (vi (vi (vi (vi (vi (vi j1 j2) j3) j4) j5) j6) j7) j8) j9) j10) j11) j12) j13) j14) j15) j16) j17) j18) j19) j20) j21) j22) j23) j24) j25) j26) j27) j28) j29) j30) j31) j32)
theorem proved:Rows.FnExactDoActSaid:=
 OpenClaim.holds_of_wide 6 Tryz.f6 rfl rfl rfl rfl rfl rfl rfl ⟨rfl,rfl,rfl,rfl,rfl⟩ rfl rfl rfl rfl rfl (by kernel_rfl) Tryz.func6 closed
  (ij (by kernel_rfl)) (by unfold Func.isWrapper;first|(rw[aG (by decide+kernel)];kernel_rfl)|(rw[aF (by decide+kernel)];exact⟨rfl,rfl⟩))
  (λos started H enc _=>lifted os started H enc)
end Go.Proofs.YtfbhfnniblfpbaaGreat.DoAct
