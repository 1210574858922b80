/- Pieces 7 and on of a run of the evaluator. -/
import Derived.Test.YtgfjlegiofhboaaGreatDoorRnS
import Derived.KernelRfl
namespace Go.Ev.YtgfjlegiofhboaaGreatDoorRn
open Go.Proofs
set_option maxRecDepth 1000000
set_option linter.unusedVariables false
theorem p7 : pieceOf Tryz.prog 18540 [2, 4, 6, 8, 9, 10, 550, 551, 558, 560, 562, 564, 565, 566, 1110, 1112, 1114, 1116, 1117, 1118, 1662, 1664, 1666, 1668, 1669, 1670, 2225, 2226, 2227, 2228, 2229, 2230, 2249, 2251, 2253, 2254, 2255, 2256, 2257, 2258, 2795, 2796] s6 = some s7 := by kernel_rfl
theorem d7 : noDraw s7 = true := by kernel_rfl
theorem p8 : pieceOf Tryz.prog 19959 [2, 4, 6, 8, 9, 10, 550, 551, 558, 560, 562, 564, 565, 566, 1110, 1112, 1114, 1116, 1117, 1118, 1662, 1664, 1666, 1668, 1669, 1670, 2225, 2226, 2227, 2228, 2229, 2230, 2249, 2251, 2253, 2254, 2255, 3076, 3079, 3086, 3088, 3090, 3092, 3093, 3094, 3095, 3096, 3097, 3098, 3099, 3100, 3101, 3102, 3150, 3151, 3152, 3312] s7 = some s8 := by kernel_rfl
theorem d8 : noDraw s8 = true := by kernel_rfl
theorem p9 : pieceOf Tryz.prog 17836 [2, 4, 6, 8, 9, 10, 550, 551, 558, 560, 562, 564, 565, 566, 1110, 1112, 1114, 1116, 1117, 1118, 1662, 1664, 1666, 1668, 1669, 1670, 2225, 2226, 2227, 2228, 2229, 2230, 2249, 2251, 2253, 2254, 2255, 3076, 3079, 3086, 3088, 3090, 3092, 3093, 3094, 3095, 3096, 3097, 3634, 3635, 3637, 3638, 3639, 3640, 3641, 3720, 3723] s8 = some s9 := by kernel_rfl
theorem d9 : noDraw s9 = true := by kernel_rfl
end Go.Ev.YtgfjlegiofhboaaGreatDoorRn
