import Derived.Test.YtjilbinhppledaaDnSig
import Derived.Test.YtjilbinhppledaaRows
/- ActOk: the functions, and the law. -/
namespace Go.Proofs.Ytjilbinhppledaa
open Go.Dn

namespace ActOk
@[reducible] def i : CT := .int .i64
@[reducible] def Seg : CT := .pair i (.pair i (.pair i (.pair i (.pair i (.pair i (.pair i .str))))))
@[reducible] def Pkt : CT := .pair i (.pair i (.pair i (.pair i (.pair i (.pair i (.pair i (.pair i Seg)))))))
@[reducible] def Act : CT := .pair i (.pair Pkt (.pair i (.pair i (.pair .str i))))
def SegS : Shape := ⟨true, Seg, [(0,1),(1,1),(2,1),(3,1),(4,1),(5,1),(6,1),(7,1)]⟩
def PktS : Shape := ⟨true, Pkt, [(0,1),(1,1),(2,1),(3,1),(4,1),(5,1),(6,1),(7,1),(8,8)]⟩
def ActS : Shape := ⟨true, Act, [(0,1),(1,16),(17,1),(18,1),(19,1),(20,1)]⟩
def E : Env := { ty := [(3, ⟨false, .int .i64, []⟩), (4, ⟨false, .bool, []⟩), (9, ⟨false, .str, []⟩), (23, SegS), (30, SegS), (25, PktS), (32, PktS), (27, ActS), (34, ActS)], eqs := [(32, [.int,.int,.int,.int,.int,.int,.int,.int,.int,.int,.int,.int,.int,.int,.int,.str])] }

set_option maxRecDepth 100000
theorem base : Sound Try.prog E Gam.nil := Sound.nil (lookE_ok (by kernel_rfl)) (lookQ_ok (by kernel_rfl))

@[reducible] def inS : List (Bool × CT) := [(false, i), (false, i), (false, i)]
def inB (a b c : Int) : Bool := cond (decide (a ≥ b)) (decide (a ≤ c)) false
def inR (a b c : Int) : Option AV := bindO (cond (decide (a ≥ b)) (some (decide (a ≤ c))) (some false)) fun b => some (.one (.bool b))
theorem inR_eq (a b c : Int) : some (.one (.bool (inB a b c))) = inR a b c := by
  unfold inR inB
  cases decide (a ≥ b) <;> rfl
def inF (x : Args inS) : Option AV := some (.one (.bool (inB x.1 x.2.1 x.2.2.1)))
theorem in_raw (x : Args inS) : evalFn E Gam.nil { merge := fun | 1 => some 6 | _ => none } 0 Try.f41 (argsOf inS x) = inR x.1 x.2.1 x.2.2.1 := by kernel_rfl
theorem in_raw' (x : Args inS) : evalFn E Gam.nil { merge := fun | 1 => some 6 | _ => none } 0 Try.f39 (argsOf inS x) = inR x.1 x.2.1 x.2.2.1 := by kernel_rfl
theorem in_nice (x : Args inS) : inF x = inR x.1 x.2.1 x.2.2.1 := inR_eq _ _ _

def G1 : Gam := (Gam.nil.add 41 (fnOf inS inF)).add 39 (fnOf inS inF)
theorem S1 : Sound Try.prog E G1 :=
  (base.add (FnOk.of (fnOk (an := { merge := fun | 1 => some 6 | _ => none }) (n := 0) base Try.func41 (by kernel_rfl)) (fun x => (in_nice x).trans (in_raw x).symm))).add
    (FnOk.of (fnOk (an := { merge := fun | 1 => some 6 | _ => none }) (n := 0) base Try.func39 (by kernel_rfl)) (fun x => (in_nice x).trans (in_raw' x).symm))

@[reducible] def actS : List (Bool × CT) := [(true, Act)]
def zeros : List AC := [.int .i64 0, .int .i64 0, .int .i64 0, .int .i64 0, .int .i64 0, .int .i64 0, .int .i64 0, .int .i64 0, .int .i64 0, .int .i64 0, .int .i64 0, .int .i64 0, .int .i64 0, .int .i64 0, .int .i64 0, .str []]
def okRaw (k : Int) (p : Pkt.D) (z c : Int) (f : List UInt8) (bu : Int) : Option AV :=
  bindO (cond (!(inB k 0 6)) (some true) (some (decide ((f.length : Int) > 600)))) fun b =>
    cond b (some (.one (.bool false)))
    (bindO (cond (k != 0) (bindO (eqCells (cellsOf Pkt .arg p) zeros)
       fun e => cond (!e) (some true) (cond (z != 0) (some true) (some (c != 0)))) (some false)) fun b =>
      cond b (some (.one (.bool false)))
       (bindO (cond (k == 2) (cond true (cond (k == 5) (some true) (some (bu == 0))) (some false)) (cond (f == []) (cond (k == 5) (some true) (some (bu == 0))) (some false))) fun b => some (.one (.bool b))))
def okR (x : Act.D) : Option AV := okRaw x.1 x.2.1 x.2.2.1 x.2.2.2.1 x.2.2.2.2.1 x.2.2.2.2.2
def anOk : An := { merge := fun | 1 => some 12 | 3 => some 31 | 5 => some 2 | _ => none }
theorem ok_raw (x : Args actS) : evalFn E G1 anOk 0 Try.f12 (argsOf actS x) = okR x.1 := by kernel_rfl
theorem ok_raw' (x : Args actS) : evalFn E G1 anOk 0 Try.f10 (argsOf actS x) = okR x.1 := by kernel_rfl

theorem eq_isS (p : Pkt.D) : ∃ b, eqCells (cellsOf Pkt .arg p) zeros = some b := by
  simp [cellsOf, Pkt, Seg, i, zeros, eqCells]
theorem ok_isB (x : Act.D) : IsB (okR x) := by
  unfold okR okRaw
  refine IsB.bind (isS_cond (isS_ret _) (isS_ret _)) fun b => IsB.cond (IsB.ret _) (IsB.bind (isS_cond (isS_bind (eq_isS _) fun e => isS_cond (isS_ret _) (isS_cond (isS_ret _) (isS_ret _))) (isS_ret _)) fun b => IsB.cond (IsB.ret _) (IsB.bind ?_ fun b => IsB.ret _))
  exact isS_cond (isS_cond (isS_cond (isS_ret _) (isS_ret _)) (isS_ret _)) (isS_cond (isS_cond (isS_ret _) (isS_ret _)) (isS_ret _))
def okF (x : Args actS) : Option AV := some (.one (.bool (theB (okR x.1))))
theorem ok_nice (x : Args actS) : okF x = okR x.1 := (ok_isB x.1).eq.symm

-- the copies
@[reducible] def segS : List (Bool × CT) := [(true, Seg)]
@[reducible] def pktS : List (Bool × CT) := [(true, Pkt)]
def segF (x : Args segS) : Option AV := some (.val true (cellsOf Seg (.own none) x.1))
def pktF (x : Args pktS) : Option AV := some (.val true (cellsOf Pkt (.own none) x.1))
def actF (x : Args actS) : Option AV := some (.val true (cellsOf Act (.own none) x.1))
theorem seg_raw (x : Args segS) : segF x = evalFn E G1 {} 0 Try.f68 (argsOf segS x) := by kernel_rfl
def G2 : Gam := G1.add 68 (fnOf segS segF)
theorem S2 : Sound Try.prog E G2 := S1.add (FnOk.of (fnOk S1 Try.func68 (by kernel_rfl)) seg_raw)
theorem pkt_raw (x : Args pktS) : pktF x = evalFn E G2 {} 0 Try.f40 (argsOf pktS x) := by kernel_rfl
def G3 : Gam := G2.add 40 (fnOf pktS pktF)
theorem S3 : Sound Try.prog E G3 := S2.add (FnOk.of (fnOk S2 Try.func40 (by kernel_rfl)) pkt_raw)
theorem act_raw (x : Args actS) : actF x = evalFn E G3 {} 0 Try.f11 (argsOf actS x) := by kernel_rfl
def G4 : Gam := G3.add 11 (fnOf actS actF)
theorem S4 : Sound Try.prog E G4 := S3.add (FnOk.of (fnOk S3 Try.func11 (by kernel_rfl)) act_raw)

-- the sizes
def sub64 (a b : Int) : Int := IntKind.wrap .i64 (a - b)
def neg1 (l : Int) : Int := cond (decide (l < 0)) (-1) l
@[reducible] def szS (e : CT) : List (Bool × CT) := [(true, e), (false, i)]
def szSeg (x : Seg.D) (l : Int) : Int := neg1 (sub64 l (x.2.2.2.2.2.2.2.length : Int))
def szPkt (x : Pkt.D) (l : Int) : Int := neg1 (szSeg x.2.2.2.2.2.2.2.2 l)
def szAct (x : Act.D) (l : Int) : Int := cond (decide (szPkt x.2.1 l < 0)) (-1) (neg1 (sub64 (szPkt x.2.1 l) (x.2.2.2.2.1.length : Int)))
def ret (n : Int) : Option AV := some (.one (.int .i64 n))
theorem ret_neg1 (l : Int) : cond (decide (l < 0)) (ret (-1)) (ret l) = ret (neg1 l) := by unfold neg1; cases decide (l < 0) <;> rfl
theorem szSeg_raw (x : Args (szS Seg)) : evalFn E G4 {} 0 Try.f67 (argsOf (szS Seg) x) = cond (decide (sub64 x.2.1 (x.1.2.2.2.2.2.2.2.length : Int) < 0)) (ret (-1)) (ret (sub64 x.2.1 (x.1.2.2.2.2.2.2.2.length : Int))) := by kernel_rfl
def szSegF (x : Args (szS Seg)) : Option AV := ret (szSeg x.1 x.2.1)
def G5 : Gam := G4.add 67 (fnOf (szS Seg) szSegF)
theorem S5 : Sound Try.prog E G5 := S4.add (FnOk.of (fnOk S4 Try.func67 (by kernel_rfl)) fun x => ((szSeg_raw x).trans (ret_neg1 _)).symm)
theorem szPkt_raw (x : Args (szS Pkt)) : evalFn E G5 {} 0 Try.f38 (argsOf (szS Pkt) x) = cond (decide (szSeg x.1.2.2.2.2.2.2.2.2 x.2.1 < 0)) (ret (-1)) (ret (szSeg x.1.2.2.2.2.2.2.2.2 x.2.1)) := by kernel_rfl
def szPktF (x : Args (szS Pkt)) : Option AV := ret (szPkt x.1 x.2.1)
def G6 : Gam := G5.add 38 (fnOf (szS Pkt) szPktF)
theorem S6 : Sound Try.prog E G6 := S5.add (FnOk.of (fnOk S5 Try.func38 (by kernel_rfl)) fun x => ((szPkt_raw x).trans (ret_neg1 _)).symm)
theorem szAct_raw (x : Args (szS Act)) : evalFn E G6 {} 0 Try.f9 (argsOf (szS Act) x) = cond (decide (szPkt x.1.2.1 x.2.1 < 0)) (ret (-1))
    (cond (decide (sub64 (szPkt x.1.2.1 x.2.1) (x.1.2.2.2.2.1.length : Int) < 0)) (ret (-1)) (ret (sub64 (szPkt x.1.2.1 x.2.1) (x.1.2.2.2.2.1.length : Int)))) := by kernel_rfl
def szActF (x : Args (szS Act)) : Option AV := ret (szAct x.1 x.2.1)
theorem szAct_nice (x : Args (szS Act)) : szActF x = evalFn E G6 {} 0 Try.f9 (argsOf (szS Act) x) := by
  rw [szAct_raw, ret_neg1]
  unfold szActF szAct
  cases decide (szPkt x.1.2.1 x.2.1 < 0) <;> rfl
def G7 : Gam := ((G6.add 9 (fnOf (szS Act) szActF)).add 10 (fnOf actS okF)).add 12 (fnOf actS okF)
theorem S7 : Sound Try.prog E G7 :=
  ((S6.add (FnOk.of (fnOk S6 Try.func9 (by kernel_rfl)) szAct_nice)).add
    (FnOk.of (fnOk (an := anOk) (n := 0) S1 Try.func10 (by kernel_rfl)) fun x => (ok_nice x).trans (ok_raw' x).symm)).add
    (FnOk.of (fnOk (an := anOk) (n := 0) S1 Try.func12 (by kernel_rfl)) fun x => (ok_nice x).trans (ok_raw x).symm)

theorem law_raw (x : Args actS) : evalFn E G7 {} 0 Try.f3 (argsOf actS x) = cond (decide (szAct x.1 1048576 < 0)) (some (.one (.bool true)))
    (cond (!(theB (okR x.1) == theB (okR x.1))) (some (.one (.bool false))) (some (.one (.bool true)))) := by kernel_rfl
theorem law_true (x : Args actS) : evalFn E G7 {} 0 Try.f3 (argsOf actS x) = some (.one (.bool true)) := by
  rw [law_raw, beq_self_eq_true]
  cases decide (szAct x.1 1048576 < 0) <;> rfl
end ActOk
end Go.Proofs.Ytjilbinhppledaa
