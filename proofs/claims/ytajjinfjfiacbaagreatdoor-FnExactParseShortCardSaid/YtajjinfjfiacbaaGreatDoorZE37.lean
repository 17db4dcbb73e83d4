/- Built hands and signs. -/
import Derived.Test.YtajjinfjfiacbaaGreatDoorZE35
set_option linter.unusedSectionVars false
set_option linter.unusedVariables false
set_option linter.unusedSimpArgs false
set_option linter.unnecessarySimpa false
namespace Go
namespace Evp

@[simp] theorem Hand.fill (x : Shape) (y : Orient) (z : Plc) (w : Mov) : fillL [(0, 6, .agg x.cells), (6, 2, .agg y.cells), (8, 3, .agg z.cells), (11, 2, .agg w.cells)] [I 0, I 0, I 0, I 0, I 0, B false, I 0, I 0, I 0, I 0, B false, Sg (bs []), I 0] = some (Hand.mk x y z w).cells := eqOf rfl
@[simp] theorem Sign.fill1 (a : Hand) : fillL [(0, 13, .agg a.cells)] [I 0, I 0, I 0, I 0, I 0, B false, I 0, I 0, I 0, I 0, B false, Sg (bs []), I 0, B false, I 0, I 0, I 0, I 0, I 0, B false, I 0, I 0, I 0, I 0, B false, Sg (bs []), I 0] = some (Sign.mk a false .zero).cells := eqOf rfl
@[simp] theorem Sign.fill3 (a b : Hand) (t : Bool) : fillL [(0, 13, .agg a.cells), (13, 1, B t), (14, 13, .agg b.cells)] [I 0, I 0, I 0, I 0, I 0, B false, I 0, I 0, I 0, I 0, B false, Sg (bs []), I 0, B false, I 0, I 0, I 0, I 0, I 0, B false, I 0, I 0, I 0, I 0, B false, Sg (bs []), I 0] = some (Sign.mk a t b).cells := eqOf rfl

theorem four_put0 (a b c d x : Bool) : putPart [B a, B b, B c, B d] 0 1 (B x) = some [B x, B b, B c, B d] := eqOf rfl
theorem four_put1 (a b c d x : Bool) : putPart [B a, B b, B c, B d] 1 1 (B x) = some [B a, B x, B c, B d] := eqOf rfl
theorem four_put2 (a b c d x : Bool) : putPart [B a, B b, B c, B d] 2 1 (B x) = some [B a, B b, B x, B d] := eqOf rfl
theorem four_put3 (a b c d x : Bool) : putPart [B a, B b, B c, B d] 3 1 (B x) = some [B a, B b, B c, B x] := eqOf rfl
theorem four_part (a b c d : Bool) : partA [B a, B b, B c, B d] 0 4 = some (.agg [B a, B b, B c, B d]) := eqOf rfl
end Evp
end Go
