/- FnTop: for every input the law returns true, and each argument reads behind the call as it read before. No condition. -/
import Derived.Test.YtehfjiddofkdnaaGreatSeat
import Derived.Test.YtehfjiddofkdnaaGreatPuLawTop
namespace Go.Proofs.YtehfjiddofkdnaaGreat.Top
open Go.Dn Go.ChangeShapes Go.WideShapes Go.ChangeAt Go.RowKit
set_option maxRecDepth 100000
theorem own:ownKnob Tryz.prog.godebug=none:=by kernel_rfl
theorem laidOut:laidOutB Tryz.prog=true:=by kernel_rfl
theorem atm:Tryz.prog.underlying 4=some .bool:=by kernel_rfl
theorem reads:Tryz.f3.params.toList.all (λt=>Tryz.prog.readableRec t&&decide (t<Tryz.prog.types.size))=true:=by kernel_rfl
theorem ty0:abY Tryz.prog 3 22 (.sl (.int .u8))=true:=by kernel_rfl
theorem ag0:atg Tryz.prog 22=false:=by kernel_rfl
theorem ar4:∀{t:CT}{x:t.D},InR t x->Pu.alm t x
 | .int _,_,h=>h
 | .bool,_,_=>trivial
 | .str,_,h=>h
 | .sl _,_,h=>⟨h.1,λx a=>ar4 (h.2 x a)⟩
 | .pair _ _,_,h=>⟨ar4 h.1,ar4 h.2⟩
theorem aoZ (H:Type)(enc:TypeId×Value->H)(W:World)(base:Nat)(a:Array Value)(l gs:Z (DataW H))(before:Z MemPlace)(b:∀(j:Nat) t v,Tryz.f3.params[j]?=some t->a[j]?=some v->Value.okWide Tryz.prog W .any base t v)(n:DataW.Whole enc Tryz.prog Tryz.f3.params.toList Rows.fnTopSpec.vars false W a.toList l gs before): Calls Tryz.prog 3 a W λe k=>∃v,e=.returned v/\Rows.fnTopSpec.post enc Tryz.prog Tryz.f3 false true false false W a v k:=by
 have d:=n;obtain⟨p,q,c,s,rfl,z,A⟩:=n;have m:DataW.TrodAll enc Tryz.prog W 0 (λ_=>true) true Tryz.f3.params.toList a.toList l p:=c;rw[Tryz.params3]at m b;obtain⟨h,E,d0,o,F,J,u,rfl,rfl,r,D⟩:=trodAll_cons m;obtain⟨rfl,rfl,rfl⟩:=trodAll_nil D;obtain rfl:a=#[h]:=by cases a;simp_all
 obtain⟨rfl,rfl⟩:=trodVars_none s;obtain⟨i,g,f⟩:=aqi ty0 ag0 (b 0 22 h rfl rfl) r;have C:(Fn.QE).fn (lh Fn.LD (i,()))=some true:=(Pu.aq7 i (ar4 f))
 refine(amI Fn.acL rfl rfl (vs:=[h]) (xs:=lh Fn.LD (i,())) ⟨g,B⟩ (y:=true) C rfl).mono λe k ⟨x,w⟩=>?_;subst x;exact⟨_,rfl,apY laidOut reads (by kernel_rfl) atm rfl rfl d w⟩
theorem lifted (c:Os)(started:c.Started)(H:Type)(enc:TypeId×Value->H): ReturnsInHanded {} Tryz.checked c 3 .any (Rows.fnTopSpec.pre6 enc Tryz.prog Tryz.f3 Rows.fnTopRow.domain false) (Rows.fnTopSpec.post enc Tryz.prog Tryz.f3 false true false false):=by refine returnsInHanded_of_change (C:=Tryz.checked) own started (by kernel_rfl) Tryz.func3 (ChangeSpec.witness6 (enc:=enc) (C:=Tryz.checked) false ⟨#[],#[.slice none 0 0],[]⟩ 8 (by kernel_rfl) (by kernel_rfl) (by kernel_rfl) (by kernel_rfl)) ?_;intro W base a d gs before b e _ _;exact aoZ H enc W base a d gs before b e
def k1 (K i:Nat):Nat:=(K>>>(5*i))%32
def k2 (P:Program)(K:Nat):Z Func->Nat->Bool
 |[],_=>true
 |g::l,i=>(P.leadsTo g).all (λh=>Nat.blt (k1 K h) (k1 K i))&&k2 P K l (i+1)
theorem k3 {P:Program}{K:Nat}:∀(l:Z Func)(i:Nat),k2 P K l i=true->∀(j:Nat)(f:Func),l[j]?=some f->∀h∈P.leadsTo f,k1 K h<k1 K (i+j)
 |g::l,i,e,j,f,p,h,q=>by rw[k2,af,aL]at e;cases j with|zero=>cases p;exact Nat.blt_eq.mp (e.1 h q)|succ j=>have:=k3 l (i+1) e.2 j f p h q;rwa[Nat.add_right_comm]at this
theorem k4 {P:Program}{r:Nat->Nat}(a:∀(g:Nat)(f:Func),P.funcs[g]?=some f->∀h∈P.leadsTo f,r h<r g):∀(n:Nat)(t s:Z FuncId)(x:FuncId),x∈P.closureVia n t s->x∈s\/∃b∈t,r x<=r b:=by
 intro n;induction n with
 |zero=>intro t s x h;exact Or.inl (by simpa[Program.closureVia]using h)
 |succ n u=>
  intro t s x h;cases t with
  |nil=>exact Or.inl (by simpa[Program.closureVia]using h)
  |cons f t=>
   rw[Program.closureVia]at h;split at h;rcases u _ _ _ h with h|⟨b,c,d⟩;exact Or.inl h;exact Or.inr ⟨b,cy _ c,d⟩;rcases u _ _ _ h with h|⟨b,c,d⟩;rcases bW.1 h with rfl|h;exact Or.inr ⟨_,List.mem_cons_self,bq _⟩;exact Or.inl h;rcases aB.1 c with c|c;cases e:P.funcs[f]? with
   |none=>rw[e]at c;exact nomatch c
   |some g=>rw[e]at c;have:=a f g e b c;exact Or.inr ⟨f,List.mem_cons_self,J⟩
   exact Or.inr ⟨b,cy _ c,d⟩
theorem k5 {P:Program}(K f:Nat)(u:P.unfollowed f=false)(v:k2 P K P.funcs.toList 0=true):P.recurses f=false:=by
 have a:∀(g:Nat)(f:Func),P.funcs[g]?=some f->∀h∈P.leadsTo f,k1 K h<k1 K g:=λg f e h q=>by have:=k3 _ _ v g f (by rw[du];exact e) h q;rwa[cR]at this
 rw[Program.recurses,u,cq,List.any_eq_false];intro g _ x;obtain⟨h,b,c⟩:=List.any_eq_true.1 x;cases e:P.funcs[g]? with
 |none=>rw[e]at b;exact nomatch b
 |some f=>rw[e]at b;have i:=a g f e h b;rcases k4 a _ _ _ _ (List.contains_iff_mem.1 c)with d|⟨t,d,j⟩;exact nomatch d;cases aY.1 d;omega
theorem j1:(Rows.fnTopRow.wf (OpenSpec.ofChange Rows.fnTopSpec))=true:=by kernel_rfl
theorem j2:(laidOutB Tryz.prog)=true:=laidOut
theorem j3:(mapsRowed Tryz.prog)=true:=by kernel_rfl
theorem j4:(Tryz.f3.params.all (Tryz.prog.readableRec ·))=true:=by kernel_rfl
theorem j5:(namedTie Tryz.prog Rows.fnTopRow.named Rows.fnTopSpec.vars)=true:=by kernel_rfl
theorem j6:(Rows.fnTopRow.stops==[])=true:=by kernel_rfl
theorem j7:(Tryz.prog.stops==[])=true:=by kernel_rfl
theorem j8:(Rows.fnTopRow.knobs==[])=true:=by kernel_rfl
theorem j9:(Tryz.prog.stopKnobs==[])=true:=by kernel_rfl
theorem j10:(Rows.fnTopRow.inPlace==Tryz.prog.inPlace 3)=true:=by kernel_rfl
theorem j11:(Rows.fnTopRow.unfollowed==Tryz.prog.unfollowed 3)=true:=by kernel_rfl
theorem j12:(Rows.fnTopRow.recurses==Tryz.prog.recurses 3)=true:=by rw[k5 7537102794056055258820952762031531708894806904193681313876424703254469302848090315315842813356538520453272205931283331092674831681259372183092210283442264144029035616687220148234907760140644855136882787690669351229169773551556208275934425706436708808767735254881396795595824678590639540914858549668852023189898439796387009775287713716773813231348997718044169079456369586852563637623504120629533253689899655057475040129918028407080505843713593690122923007785723174944550172667779877040855591182188168999631398191538190105390488353313775306913375508996751737057851656096197858103956464504280026353032663859236956786382685166013842643140239229626997826937957650941854286031897733311030775776256 3 (by kernel_rfl) (by kernel_rfl)];rfl
theorem j13:(Rows.fnTopRow.named==Tryz.prog.varsNamed 3)=true:=by kernel_rfl
theorem j14:(Rows.fnTopRow.maps==(Tryz.f3.params.toList++Rows.fnTopSpec.plain.varTypes Tryz.prog).any (Tryz.prog.mapsRec ·))=true:=by kernel_rfl
theorem j15:(Rows.fnTopRow.ifaces==(Tryz.f3.params.toList++Rows.fnTopSpec.plain.varTypes Tryz.prog).any (Tryz.prog.ifacesRec ·))=true:=by kernel_rfl
theorem j16:(Rows.fnTopRow.mapsOut==Tryz.prog.mapsAmong Tryz.f3.resultTypes.toList)=true:=by kernel_rfl
theorem j17:(Rows.fnTopRow.loops==(Tryz.f3.params.toList++Rows.fnTopSpec.plain.varTypes Tryz.prog).any (Tryz.prog.loopsFrom ·))=true:=by kernel_rfl
theorem j18:(Rows.fnTopRow.wideKeys==(Tryz.f3.params.toList++Rows.fnTopSpec.plain.varTypes Tryz.prog++Tryz.f3.resultTypes.toList).any (Tryz.prog.wideKeysFrom ·))=true:=by kernel_rfl
theorem j19:(Rows.fnTopSpec.vars.all (Tryz.prog.varReadable ·))=true:=by kernel_rfl
theorem j20:(Tryz.f3.resultTypes.all (λt=>Tryz.prog.readableRec t&&decide (t<Tryz.prog.types.size)))=true:=by kernel_rfl
theorem j21:(Rows.fnTopRow.ifacesOut==Tryz.f3.resultTypes.toList.any (Tryz.prog.ifacesRec ·))=true:=by kernel_rfl
theorem j22:(Rows.fnTopRow.loopsOut==Tryz.f3.resultTypes.toList.any (Tryz.prog.loopsFrom ·))=true:=by kernel_rfl
theorem j23:(Rows.fnTopRow.plainKeys==Tryz.prog.plainKeys)=true:=by kernel_rfl
theorem j24:(Rows.fnTopRow.shortTexts.isNone)=true:=by kernel_rfl
theorem j25:(Tryz.prog.stopsHeard)=true:=by kernel_rfl
theorem j26:(Tryz.prog.mayEnter)=true:=by kernel_rfl
theorem j27:(Rows.fnTopRow.lifted==Tryz.prog.liftsFinal)=true:=by kernel_rfl
theorem j28:(Tryz.prog.make==some Rows.fnTopRow.make)=true:=by kernel_rfl
theorem j29:(Rows.fnTopRow.kinds==(if Rows.fnTopRow.domain.isEmpty then [] else Tryz.f3.params.toList.map λt=>match Tryz.prog.underlying t with|some (.int k)=>some k|_=>none))=true:=by kernel_rfl
theorem j30:(Rows.fnTopRow.pinned==Rows.fnTopRow.pinnedBy)=true:=by kernel_rfl
theorem j31:(Rows.fnTopRow.veiled==(Tryz.f3.params.toList++Rows.fnTopSpec.plain.varTypes Tryz.prog++Tryz.f3.resultTypes.toList).any (Tryz.prog.veiledRec ·))=true:=by kernel_rfl
theorem j32:(Rows.fnTopRow.veiledFits Tryz.prog Tryz.f3.params.toList (Tryz.f3.params.toList++Rows.fnTopSpec.plain.varTypes Tryz.prog++Tryz.f3.resultTypes.toList))=true:=by kernel_rfl
theorem BI {a b:Bool}(h:a=true)(g:b=true):(a&&b)=true:=by rw[h,g];rfl
theorem closed:joinedFacts Tryz.prog 3 Tryz.f3 Rows.fnTopSpec Rows.fnTopRow=true:=by unfold joinedFacts;exact(BI (BI (BI (BI (BI (BI (BI (BI (BI (BI (BI (BI (BI (BI (BI (BI (BI (BI (BI (BI (BI (BI (BI (BI (BI (BI (BI (BI (BI (BI (BI j1 j2) j3) j4) j5) j6) j7) j8) j9) j10) j11) j12) j13) j14) j15) j16) j17) j18) j19) j20) j21) j22) j23) j24) j25) j26) j27) j28) j29) j30) j31) j32)
theorem proved:Rows.FnTopSaid:=
 OpenClaim.holds_of_wide 3 Tryz.f3 rfl rfl rfl rfl rfl rfl rfl ⟨rfl,rfl,rfl,rfl,rfl⟩ rfl rfl rfl rfl rfl (by kernel_rfl) Tryz.func3 closed
  (cw (by kernel_rfl)) (by unfold Func.isWrapper;first|(rw[aI (by decide+kernel)];kernel_rfl)|(rw[aK (by decide+kernel)];exact⟨rfl,rfl⟩))
  (λa started H enc _=>lifted a started H enc)
end Go.Proofs.YtehfjiddofkdnaaGreat.Top
