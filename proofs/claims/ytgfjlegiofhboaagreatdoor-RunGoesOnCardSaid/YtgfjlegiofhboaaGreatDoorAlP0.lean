/- Pieces 1 and on of a run of the evaluator. -/
import Derived.Test.YtgfjlegiofhboaaGreatDoorAlS
import Derived.KernelRfl
namespace Go.Ev.YtgfjlegiofhboaaGreatDoorAl
open Go.Proofs
set_option maxRecDepth 1000000
set_option linter.unusedVariables false
theorem p1 : pieceOf Tryz.prog 17263 [2, 4, 6, 8, 9, 10, 11, 12, 13, 14, 15, 16, 17, 18, 66, 68, 228, 241, 244, 316, 317, 318] s0 = some s1 := by kernel_rfl
theorem d1 : noDraw s1 = true := by kernel_rfl
theorem p2 : pieceOf Tryz.prog 17010 [2, 4, 6, 8, 9, 10, 831, 834] s1 = some s2 := by kernel_rfl
theorem d2 : noDraw s2 = true := by kernel_rfl
theorem p3 : pieceOf Tryz.prog 17266 [2, 4, 6, 8, 9, 10, 831, 834, 841, 843, 845, 847, 848, 849, 850, 851, 852, 853, 854, 855, 856, 857, 905, 907, 1067, 1080, 1083, 1155, 1156, 1157] s2 = some s3 := by kernel_rfl
theorem d3 : noDraw s3 = true := by kernel_rfl
end Go.Ev.YtgfjlegiofhboaaGreatDoorAl
