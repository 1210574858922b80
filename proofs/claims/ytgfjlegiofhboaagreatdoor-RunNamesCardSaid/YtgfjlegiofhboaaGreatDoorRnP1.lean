/- Pieces 4 and on of a run of the evaluator. -/
import Derived.Test.YtgfjlegiofhboaaGreatDoorRnS
import Derived.KernelRfl
namespace Go.Ev.YtgfjlegiofhboaaGreatDoorRn
open Go.Proofs
set_option maxRecDepth 1000000
set_option linter.unusedVariables false
theorem p4 : pieceOf Tryz.prog 19378 [2, 4, 6, 8, 9, 10, 550, 551, 558, 560, 562, 564, 565, 566, 1110, 1112, 1114, 1116, 1117, 1118, 1119, 1120, 1121, 1122, 1123, 1124, 1125] s3 = some s4 := by kernel_rfl
theorem d4 : noDraw s4 = true := by kernel_rfl
theorem p5 : pieceOf Tryz.prog 16000 [2, 4, 6, 8, 9, 10, 550, 551, 558, 560, 562, 564, 565, 566, 1110, 1112, 1114, 1116, 1117, 1118, 1662, 1664, 1666, 1668, 1669, 1670, 1671, 1672, 1673, 1674, 1675, 1676, 1677, 1678, 1726, 1728, 1888, 1901, 1904, 1976, 1977] s4 = some s5 := by kernel_rfl
theorem d5 : noDraw s5 = true := by kernel_rfl
theorem p6 : pieceOf Tryz.prog 17108 [2, 4, 6, 8, 9, 10, 550, 551, 558, 560, 562, 564, 565, 566, 1110, 1112, 1114, 1116, 1117, 1118, 1662, 1664, 1666, 1668, 1669, 1670, 2225, 2226, 2227, 2228, 2229, 2230, 2249, 2251, 2253, 2254, 2255, 2256, 2257, 2258, 2259, 2260, 2261, 2262, 2263, 2311, 2312, 2313, 2314, 2315, 2387] s5 = some s6 := by kernel_rfl
theorem d6 : noDraw s6 = true := by kernel_rfl
end Go.Ev.YtgfjlegiofhboaaGreatDoorRn
