/- FnExactRunCard: for every input the law returns true, and each argument reads behind the call as it read before. No condition. -/
import Derived.Test.YthllnaiaikjelaaGreatSeat
import Derived.Test.YthllnaiaikjelaaGreatPuLawRunCard
namespace Go.Proofs.YthllnaiaikjelaaGreat.RunCard
open Go.Dn Go.ChangeShapes Go.WideShapes Go.ChangeAt Go.RowKit
set_option maxRecDepth 100000
theorem own:ownKnob Tryz.prog.godebug=none:=by kernel_rfl
theorem laidOut:laidOutB Tryz.prog=true:=by kernel_rfl
theorem aqc:Tryz.prog.underlying 4=some .bool:=by kernel_rfl
theorem reads:Tryz.f5.params.toList.all (λt=>Tryz.prog.readableRec t&&decide (t<Tryz.prog.types.size))=true:=by kernel_rfl
theorem ty0:W8 Tryz.prog 10 32 Pu.gB=true:=by kernel_rfl
theorem ag0:aon Tryz.prog 32=true:=by kernel_rfl
theorem ty1:W8 Tryz.prog 10 69 (.sl Pu.gn)=true:=by kernel_rfl
theorem ag1:aon Tryz.prog 69=false:=by kernel_rfl
theorem amL:∀{t:CT}{x:t.D},InR t x->Pu.pJ t x
 | .int _,_,h=>h
 | .bool,_,_=>trivial
 | .str,_,h=>h
 | .sl _,_,h=>⟨h.1,λx hx=>amL (h.2 x hx)⟩
 | .pair _ _,_,h=>⟨amL h.1,amL h.2⟩
theorem alq (H:Type)(enc:TypeId×Value->H)(W:World)(base:Nat)(args:Array Value)(ds gs:ar (DataW H))(before:ar MemPlace)(NW:∀(j:Nat) t v,Tryz.f5.params[j]?=some t->args[j]?=some v->Value.okWide Tryz.prog W .any base t v)(hW:DataW.Whole enc Tryz.prog Tryz.f5.params.toList Rows.fnExactRunCardSpec.vars false W args.toList ds gs before): Calls Tryz.prog 5 args W λe W'=>∃v,e=.returned v/\Rows.fnExactRunCardSpec.post enc Tryz.prog Tryz.f5 false true false false W args v W':=by
 have hW':=hW;obtain⟨p,q,hA0,hV,rfl,hfz,J0⟩:=hW;have hA:DataW.TrodAll enc Tryz.prog W 0 (λ_=>true) true Tryz.f5.params.toList args.toList ds p:=hA0;rw[Tryz.params5]at hA NW;obtain⟨v0,vs0,d0,ds0,p0,q0,azR,rfl,rfl,h0,r0⟩:=trodAll_cons hA;obtain⟨v1,vs1,d1,ds1,p1,q1,azS,rfl,rfl,h1,r1⟩:=trodAll_cons r0;obtain⟨rfl,rfl,rfl⟩:=trodAll_nil r1;obtain rfl:args=#[v0,v1]:=by cases args;simp_all
 obtain⟨rfl,rfl⟩:=trodVars_none hV;obtain⟨x0,hx0,hi0⟩:=adp ty0 ag0 (NW 0 32 v0 rfl rfl) h0;obtain⟨x1,hx1,hi1⟩:=adp ty1 ag1 (NW 1 69 v1 rfl rfl) h1;have hy:(Fn.Ct).fn (jk Fn.tk (x0,(x1,())))=some true:=(Pu.aaU x0 x1 (amL hi0) (amL hi1))
 refine(ajL Fn.LO rfl rfl (vs:=[v0,v1]) (xs:=jk Fn.tk (x0,(x1,()))) ⟨hx0,hx1,bF⟩ (y:=true) hy rfl).mono λe W' ⟨he,hb⟩=>?_;subst he;exact⟨_,rfl,amS laidOut reads (by kernel_rfl) aqc rfl rfl hW' hb⟩
theorem lifted (os:Os)(started:os.Started)(H:Type)(enc:TypeId×Value->H): ReturnsInHanded {} Tryz.checked os 5 .any (Rows.fnExactRunCardSpec.pre6 enc Tryz.prog Tryz.f5 Rows.fnExactRunCardRow.domain false) (Rows.fnExactRunCardSpec.post enc Tryz.prog Tryz.f5 false true false false):=by refine returnsInHanded_of_change (C:=Tryz.checked) own started (by kernel_rfl) Tryz.func5 (ChangeSpec.witness6 (enc:=enc) (C:=Tryz.checked) false ⟨#[],#[.agg #[.slice none 0 0,.slice none 0 0,.slice none 0 0,.slice none 0 0,.int .i64 0,.int .i64 0,.int .i64 0,.int .i64 0,.slice none 0 0,.slice none 0 0],.slice none 0 0],[]⟩ 8 (by kernel_rfl) (by kernel_rfl) (by kernel_rfl) (by kernel_rfl)) ?_;intro W base args ds gs before NW hW _ _;exact alq H enc W base args ds gs before NW hW
def k1 (K i:Nat):Nat:=(K>>>(5*i))%32
def k2 (P:Program)(K:Nat):ar Func->Nat->Bool
 |[],_=>true
 |g::l,i=>(P.leadsTo g).all (λh=>Nat.blt (k1 K h) (k1 K i))&&k2 P K l (i+1)
theorem k3 {P:Program}{K:Nat}:∀(l:ar Func)(i:Nat),k2 P K l i=true->∀(j:Nat)(f:Func),l[j]?=some f->∀h∈P.leadsTo f,k1 K h<k1 K (i+j)
 |g::l,i,e,j,f,p,h,q=>by rw[k2,ah,aP]at e;cases j with|zero=>cases p;exact Nat.blt_eq.mp (e.1 h q)|succ j=>have:=k3 l (i+1) e.2 j f p h q;rwa[Nat.add_right_comm]at this
theorem k4 {P:Program}{r:Nat->Nat}(a:∀(g:Nat)(f:Func),P.funcs[g]?=some f->∀h∈P.leadsTo f,r h<r g):∀(n:Nat)(t s:ar FuncId)(x:FuncId),x∈P.closureVia n t s->x∈s\/∃b∈t,r x<=r b:=by
 intro n;induction n with
 |zero=>intro t s x h;exact Or.inl (by simpa[Program.closureVia]using h)
 |succ n u=>
  intro t s x h;cases t with
  |nil=>exact Or.inl (by simpa[Program.closureVia]using h)
  |cons f t=>
   rw[Program.closureVia]at h;split at h;rcases u _ _ _ h with h|⟨b,c,d⟩;exact Or.inl h;exact Or.inr ⟨b,dK _ c,d⟩;rcases u _ _ _ h with h|⟨b,c,d⟩;rcases cq.1 h with rfl|h;exact Or.inr ⟨_,List.mem_cons_self,ba _⟩;exact Or.inl h;rcases aA.1 c with c|c;cases e:P.funcs[f]? with
   |none=>rw[e]at c;exact nomatch c
   |some g=>rw[e]at c;have:=a f g e b c;exact Or.inr ⟨f,List.mem_cons_self,by omega⟩
   exact Or.inr ⟨b,dK _ c,d⟩
theorem k5 {P:Program}(K f:Nat)(u:P.unfollowed f=false)(v:k2 P K P.funcs.toList 0=true):P.recurses f=false:=by
 have a:∀(g:Nat)(f:Func),P.funcs[g]?=some f->∀h∈P.leadsTo f,k1 K h<k1 K g:=λg f e h q=>by have:=k3 _ _ v g f (by rw[cp];exact e) h q;rwa[cv]at this
 rw[Program.recurses,u,cC,List.any_eq_false];intro g _ x;obtain⟨h,b,c⟩:=List.any_eq_true.1 x;cases e:P.funcs[g]? with
 |none=>rw[e]at b;exact nomatch b
 |some f=>rw[e]at b;have i:=a g f e h b;rcases k4 a _ _ _ _ (List.contains_iff_mem.1 c)with d|⟨t,d,j⟩;exact nomatch d;cases dC.1 d;omega
def c1 (P:Program):Nat->ar FuncId->Nat->ar FuncId->au (ar FuncId)
 |0,_,_,_=>none
 |_+1,[],_,s=>some s.reverse
 |n+1,f::t,K,s=>cond (K.testBit f) (c1 P n t K s) (c1 P n ((P.funcs[f]?).elim [] P.leadsTo++t) (K|||1<<<f) (f::s))
theorem c2 {P:Program}{L:ar FuncId}:∀(n m:Nat)(t:ar FuncId)(K:Nat)(s:ar FuncId),(∀i,K.testBit i=s.contains i)->c1 P n t K s=some L->n<=m->P.closureVia m t s=L
 |n+1,m,[],K,s,_,e,_=>by cases e;cases m<;>rfl
 |n+1,m+1,f::t,K,s,h,e,b=>by rw[Program.closureVia,<-h];rw[c1]at e;cases q:K.testBit f with|true=>rw[q]at e;exact c2 n m t K s h e (by omega)|false=>rw[q]at e;exact c2 n m _ _ (f::s) (λi=>by rw[Nat.testBit_or,h,Nat.one_shiftLeft,Nat.testBit_two_pow,List.contains_cons,Bool.or_comm];congr 1;by_cases e:i=f;subst e;simp;have:=cX e;simp[e,this]) e (by omega)
theorem c3 {P:Program}{L:ar FuncId}(f n:Nat)(h:c1 P n [f] 0 []=some L)(b:Nat.ble n (1+(P.funcs.toList.map λg=>(P.leadsTo g).length+1).sum)=true):P.closure f=L:=c2 n _ [f] 0 [] (λi=>by simp) h (Nat.le_of_ble_eq_true b)
theorem cl:Tryz.prog.closure 5=[5,6,26,99,210,31,211,212,348,30,349,481,213,350,482,172,307,214,215,216,217,218,351,352,483,353,219,354,27,28,100,29,17,13,71,8,39,121,248,45,249,378,250,379,380,44,381,496,251,382,497,498,188,330,252,253,383,254,255,256,384,499,385,500,547,501,386,257,387,258,40,122,259,41,123,42,43,19,15,84,85,18,32,101,220,221,222,174,223,355,102,33,35,73,110,228,111,236,112,103,224,104,176,177,312,435,369,313,373,368,105,106,225,226,227,356,484,362,231,235,229,357,485,358,486,545,359,487,230,360,241,371,232,361,107,233,14,72,74,173,308,434,522,523,76,75,175,309,311,310,77,178,314,316,438,524,525,439,436,437,315,114,238,370,239,243,376,495,372,375,494,546,240,242,374,317,440,441,318,442,444,527,443,526,445,528,179,319,180,320,78,7,34,108,234,363,458,488,364,449,490,489,365,366,491,446,116,245,244,377,367,493,492,246,115,237,109,36,113,37,117,118,119,38,120,247,185,323,324,451,529,552,452,453,530,533,556,555,561,562,325,454,531,455,327,459,532,553,554,456,326,457,321,79,80,181,81,182,82,183,83,184,322,447,448,450,186,187,328,329,20,46,124,125,260,191,127,126,51,128,261,262,263,264,281,265,388,389,266,47,49,48,135,270,136,137,138,277,278,129,267,268,390,269,338,467,396,422,272,280,271,391,286,405,406,273,392,274,393,502,394,503,504,548,395,505,130,275,131,276,132,133,193,194,333,334,461,402,134,16,86,189,87,190,331,460,534,535,89,88,192,332,90,195,335,462,536,463,465,541,542,539,537,403,538,340,142,283,404,284,288,413,512,412,409,511,549,410,285,287,407,408,411,464,417,540,201,339,468,341,469,471,470,337,466,196,336,198,199,197,200,91,9,50,139,279,397,478,506,398,476,507,399,400,508,472,144,290,289,414,401,510,509,148,143,282,140,52,141,53,145,146,147,54,149,150,291,292,415,513,550,416,418,514,543,558,557,563,564,293,419,515,420,344,479,544,559,560,421,294,423,342,92,93,202,94,203,95,204,96,205,343,473,474,475,477,206,207,345,346,10,55,151,295,60,296,424,297,425,426,21,427,516,298,428,517,518,347,480,299,300,429,301,302,303,430,519,431,520,551,521,432,304,433,305,56,152,306,57,153,58,59,22,97,208,209,11,61,65,98,154,24,155,156,157,158,159,160,161,162,62,63,64,23,12,66,70,163,25,164,165,166,167,168,169,170,171,67,68,69]:=c3 5 1574 (by kernel_rfl) (by kernel_rfl)
theorem uf:Tryz.prog.unfollowed 5=false:=by unfold Program.unfollowed;rw[cl];kernel_rfl
theorem j1:(Rows.fnExactRunCardRow.wf (OpenSpec.ofChange Rows.fnExactRunCardSpec))=true:=by kernel_rfl
theorem j2:(laidOutB Tryz.prog)=true:=laidOut
theorem j3:(mapsRowed Tryz.prog)=true:=by kernel_rfl
theorem j4:(Tryz.f5.params.all (Tryz.prog.readableRec ·))=true:=by kernel_rfl
theorem j5:(namedTie Tryz.prog Rows.fnExactRunCardRow.named Rows.fnExactRunCardSpec.vars)=true:=by kernel_rfl
theorem j6:(Rows.fnExactRunCardRow.stops==[])=true:=by kernel_rfl
theorem j7:(Tryz.prog.stops==[])=true:=by kernel_rfl
theorem j8:(Rows.fnExactRunCardRow.knobs==[])=true:=by kernel_rfl
theorem j9:(Tryz.prog.stopKnobs==[])=true:=by kernel_rfl
theorem j10:(Rows.fnExactRunCardRow.inPlace==Tryz.prog.inPlace 5)=true:=by unfold Program.inPlace;rw[cl];kernel_rfl
theorem j11:(Rows.fnExactRunCardRow.unfollowed==Tryz.prog.unfollowed 5)=true:=by rw[uf];rfl
theorem j12:(Rows.fnExactRunCardRow.recurses==Tryz.prog.recurses 5)=true:=by rw[k5 803549291462972721796000502731904823780344431444799076653569079855049053930868499644283225012474436084713873823318986969413948376153754326972828822366967890692047909625732097344707029141337550622156348301200618477171698889337780016582154359704858083945352449480442566883830897751711789391298915069075853524960300960437944031645605017858697139161087861246526105470026455904888592574736558544236082484323543881354903779866279902759996082603905161407360648859805064733163994310530290216398905526878746741732172825436632938916774744862641105111285453049602513884104462133275122974893330857856159093591999232527202055959220155422960565321375022438878793874096464285014488782994625486624366706826507965458542908115843794258863607433103104592230980742143518214564105155753203219920372136803950226632192317183519979570567009341563261638999708009820526674944 5 uf (by kernel_rfl)];rfl
theorem j13:(Rows.fnExactRunCardRow.named==Tryz.prog.varsNamed 5)=true:=by unfold Program.varsNamed;rw[cl];kernel_rfl
theorem j14:(Rows.fnExactRunCardRow.maps==(Tryz.f5.params.toList++Rows.fnExactRunCardSpec.plain.varTypes Tryz.prog).any (Tryz.prog.mapsRec ·))=true:=by kernel_rfl
theorem j15:(Rows.fnExactRunCardRow.ifaces==(Tryz.f5.params.toList++Rows.fnExactRunCardSpec.plain.varTypes Tryz.prog).any (Tryz.prog.ifacesRec ·))=true:=by kernel_rfl
theorem j16:(Rows.fnExactRunCardRow.mapsOut==Tryz.prog.mapsAmong Tryz.f5.resultTypes.toList)=true:=by kernel_rfl
theorem j17:(Rows.fnExactRunCardRow.loops==(Tryz.f5.params.toList++Rows.fnExactRunCardSpec.plain.varTypes Tryz.prog).any (Tryz.prog.loopsFrom ·))=true:=by kernel_rfl
theorem j18:(Rows.fnExactRunCardRow.wideKeys==(Tryz.f5.params.toList++Rows.fnExactRunCardSpec.plain.varTypes Tryz.prog++Tryz.f5.resultTypes.toList).any (Tryz.prog.wideKeysFrom ·))=true:=by kernel_rfl
theorem j19:(Rows.fnExactRunCardSpec.vars.all (Tryz.prog.varReadable ·))=true:=by kernel_rfl
theorem j20:(Tryz.f5.resultTypes.all (λt=>Tryz.prog.readableRec t&&decide (t<Tryz.prog.types.size)))=true:=by kernel_rfl
theorem j21:(Rows.fnExactRunCardRow.ifacesOut==Tryz.f5.resultTypes.toList.any (Tryz.prog.ifacesRec ·))=true:=by kernel_rfl
theorem j22:(Rows.fnExactRunCardRow.loopsOut==Tryz.f5.resultTypes.toList.any (Tryz.prog.loopsFrom ·))=true:=by kernel_rfl
theorem j23:(Rows.fnExactRunCardRow.plainKeys==Tryz.prog.plainKeys)=true:=by kernel_rfl
theorem j24:(Rows.fnExactRunCardRow.shortTexts.isNone)=true:=by kernel_rfl
theorem j25:(Tryz.prog.stopsHeard)=true:=by kernel_rfl
theorem j26:(Tryz.prog.mayEnter)=true:=by kernel_rfl
theorem j27:(Rows.fnExactRunCardRow.lifted==Tryz.prog.liftsFinal)=true:=by kernel_rfl
theorem j28:(Tryz.prog.make==some Rows.fnExactRunCardRow.make)=true:=by kernel_rfl
theorem j29:(Rows.fnExactRunCardRow.kinds==(if Rows.fnExactRunCardRow.domain.isEmpty then [] else Tryz.f5.params.toList.map λt=>match Tryz.prog.underlying t with|some (.int k)=>some k|_=>none))=true:=by kernel_rfl
theorem j30:(Rows.fnExactRunCardRow.pinned==Rows.fnExactRunCardRow.pinnedBy)=true:=by kernel_rfl
theorem j31:(Rows.fnExactRunCardRow.veiled==(Tryz.f5.params.toList++Rows.fnExactRunCardSpec.plain.varTypes Tryz.prog++Tryz.f5.resultTypes.toList).any (Tryz.prog.veiledRec ·))=true:=by kernel_rfl
theorem j32:(Rows.fnExactRunCardRow.veiledFits Tryz.prog Tryz.f5.params.toList (Tryz.f5.params.toList++Rows.fnExactRunCardSpec.plain.varTypes Tryz.prog++Tryz.f5.resultTypes.toList))=true:=by kernel_rfl
theorem zj {a b:Bool}(h:a=true)(g:b=true):(a&&b)=true:=by rw[h,g];rfl
theorem closed:joinedFacts Tryz.prog 5 Tryz.f5 Rows.fnExactRunCardSpec Rows.fnExactRunCardRow=true:=by unfold joinedFacts;exact(zj (zj (zj (zj (zj (zj (zj (zj (zj (zj (zj (zj (zj (zj (zj (zj (zj (zj (zj (zj (zj (zj (zj (zj (zj (zj (zj (zj (zj (zj (zj j1 j2) j3) j4) j5) j6) j7) j8) j9) j10) j11) j12) j13) j14) j15) j16) j17) j18) j19) j20) j21) j22) j23) j24) j25) j26) j27) j28) j29) j30) j31) j32)
theorem proved:Rows.FnExactRunCardSaid:=
 OpenClaim.holds_of_wide 5 Tryz.f5 rfl rfl rfl rfl rfl rfl rfl ⟨rfl,rfl,rfl,rfl,rfl⟩ rfl rfl rfl rfl rfl (by kernel_rfl) Tryz.func5 closed
  (iY (by kernel_rfl)) (by unfold Func.isWrapper;first|(rw[aM (by decide+kernel)];kernel_rfl)|(rw[aK (by decide+kernel)];exact⟨rfl,rfl⟩))
  (λos started H enc _=>lifted os started H enc)
end Go.Proofs.YthllnaiaikjelaaGreat.RunCard
