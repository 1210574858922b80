/- Pieces 4 and on of a run of the evaluator. -/
import Derived.Test.YtgfjlegiofhboaaGreatDoorAlS
import Derived.KernelRfl
namespace Go.Ev.YtgfjlegiofhboaaGreatDoorAl
open Go.Proofs
set_option maxRecDepth 1000000
set_option linter.unusedVariables false
theorem p4 : pieceOf Tryz.prog 17063 [2, 4, 6, 8, 9, 10, 831, 834, 841, 843, 845, 847, 848, 849, 1670, 1673] s3 = some s4 := by kernel_rfl
theorem d4 : noDraw s4 = true := by kernel_rfl
theorem p5 : pieceOf Tryz.prog 17266 [2, 4, 6, 8, 9, 10, 831, 834, 841, 843, 845, 847, 848, 849, 1670, 1673, 1684, 1686, 1688, 1690, 1691, 1692, 1693, 1694, 1695, 1696, 1697, 1698, 1699, 1700, 1748, 1750, 1910, 1923, 1926, 1998, 1999, 2000] s4 = some s5 := by kernel_rfl
theorem d5 : noDraw s5 = true := by kernel_rfl
theorem fin : endsTrue Tryz.prog 9 17663 s5 = true := by kernel_rfl
end Go.Ev.YtgfjlegiofhboaaGreatDoorAl
