/- Pieces 10 and on of a run of the evaluator. -/
import Derived.Test.YtgfjlegiofhboaaGreatDoorRnS
import Derived.KernelRfl
namespace Go.Ev.YtgfjlegiofhboaaGreatDoorRn
open Go.Proofs
set_option maxRecDepth 1000000
set_option linter.unusedVariables false
theorem p10 : pieceOf Tryz.prog 17019 [2, 4, 6, 8, 9, 10, 550, 551, 558, 560, 562, 564, 565, 566, 1110, 1112, 1114, 1116, 1117, 1118, 1662, 1664, 1666, 1668, 1669, 1670, 2225, 2226, 2227, 2228, 2229, 2230, 2249, 2251, 2253, 2254, 2255, 3076, 3079, 3086, 3088, 3090, 3092, 3093, 3094, 3915, 3918, 3929, 3931, 3933, 3935, 3936, 3937, 3938, 3939, 3940, 3941, 3942, 3943, 3944, 3945, 3993, 3995, 4155, 4168, 4171] s9 = some s10 := by kernel_rfl
theorem d10 : noDraw s10 = true := by kernel_rfl
theorem p11 : pieceOf Tryz.prog 17319 [2, 4, 6, 8, 9, 10, 550, 551, 558, 560, 562, 564, 565, 566, 1110, 1112, 1114, 1116, 1117, 1118, 1662, 1664, 1666, 1668, 1669, 1670, 2225, 2226, 2227, 2228, 2229, 2230, 2249, 2251, 2253, 2254, 2255, 3076, 3079, 3086, 3088, 3090, 3092, 3093, 3094, 3915, 3918, 3929, 3931, 3933, 3935, 3936, 3937, 3938, 3939, 3940, 4477, 4478, 4480, 4481, 4482, 4483, 4484, 4487, 4566, 4569] s10 = some s11 := by kernel_rfl
theorem d11 : noDraw s11 = true := by kernel_rfl
theorem fin : endsTrue Tryz.prog 3 7350 s11 = true := by kernel_rfl
end Go.Ev.YtgfjlegiofhboaaGreatDoorRn
