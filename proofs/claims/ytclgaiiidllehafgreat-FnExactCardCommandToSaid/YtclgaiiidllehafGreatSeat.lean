import Derived.Test.YtclgaiiidllehafGreatSeatA
/- Each function of the program is its pure function (made by gen.py). -/
namespace Go.Proofs.YtclgaiiidllehafGreat.Fn
open Go.Dn
open Go.Pu (TMapping TClock TRing TPool TSent TTxQueue TBucket TCompletionQueue TMessage TPacket TSuper TRxQueue TVector TFilter TRule TFlow TCounters TSlot TSteering TStream THost TVirtualFunction TMailbox TCard TSpread TPort TSegment)
set_option maxRecDepth 100000
noncomputable section
@[reducible] def s_laws_FnExactCardCommandTo : List PS := [.data true TCard, .data false (.int .i64), .data true TBucket]
def e_laws_FnExactCardCommandTo : GEnt := entOf s_laws_FnExactCardCommandTo [(false, .bool)] fun a => Pu.laws_FnExactCardCommandTo a.1 a.2.1 a.2.2.1
theorem o_laws_FnExactCardCommandTo : FnOk Tryz.prog 3 e_laws_FnExactCardCommandTo := fk { merge := fun | 8 => some 50 | 14 => some 71 | 25 => some 100 | _ => none, mv := [23, 30, 34, 40, 90], sb := fun | 8 => some 8 | 11 => some 11 | 16 => some 16 | _ => none } (((((((((base).add o4).add o5).add o6).add o7).add o8).add o9).add o10).add o11) Tryz.func3 (Λ := Lam.nil) nF

end

end Go.Proofs.YtclgaiiidllehafGreat.Fn
