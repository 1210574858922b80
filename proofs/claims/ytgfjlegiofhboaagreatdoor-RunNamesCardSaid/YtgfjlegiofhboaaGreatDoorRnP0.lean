/- Pieces 1 and on of a run of the evaluator. -/
import Derived.Test.YtgfjlegiofhboaaGreatDoorRnS
import Derived.KernelRfl
namespace Go.Ev.YtgfjlegiofhboaaGreatDoorRn
open Go.Proofs
set_option maxRecDepth 1000000
set_option linter.unusedVariables false
theorem p1 : pieceOf Tryz.prog 17263 [2, 4, 6, 8, 9, 10, 11, 12, 13, 14, 15, 16, 17, 18, 66, 68, 228, 241, 244, 316, 317, 318] s0 = some s1 := by kernel_rfl
theorem d1 : noDraw s1 = true := by kernel_rfl
theorem p2 : pieceOf Tryz.prog 17186 [2, 4, 6, 8, 9, 10, 550, 551, 558, 560, 562, 564, 565, 566, 567, 568, 569, 570, 571, 572, 573, 574, 622, 624, 784, 797, 800] s1 = some s2 := by kernel_rfl
theorem d2 : noDraw s2 = true := by kernel_rfl
theorem p3 : pieceOf Tryz.prog 16052 [2, 4, 6, 8, 9, 10, 550, 551, 558, 560, 562, 564, 565, 566, 1110, 1112, 1114, 1116, 1117, 1118, 1119, 1120, 1121, 1122, 1123, 1124, 1125, 1126] s2 = some s3 := by kernel_rfl
theorem d3 : noDraw s3 = true := by kernel_rfl
end Go.Ev.YtgfjlegiofhboaaGreatDoorRn
