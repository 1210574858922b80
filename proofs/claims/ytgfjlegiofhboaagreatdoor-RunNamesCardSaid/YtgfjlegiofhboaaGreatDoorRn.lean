/- A run of the evaluator, whole. -/
import Derived.Test.YtgfjlegiofhboaaGreatDoorRnP0
import Derived.Test.YtgfjlegiofhboaaGreatDoorRnP1
import Derived.Test.YtgfjlegiofhboaaGreatDoorRnP2
import Derived.Test.YtgfjlegiofhboaaGreatDoorRnP3
namespace Go.Ev.YtgfjlegiofhboaaGreatDoorRn
open Go.Proofs
set_option maxRecDepth 1000000
set_option linter.unusedVariables false
theorem enter : enterFr Tryz.prog 3 [] = some fr0 := by kernel_rfl
theorem reach : Reach Tryz.prog ⟨fr0, [], hh⟩ s11 := (.step (.step (.step (.step (.step (.step (.step (.step (.step (.step (.step .refl p1 d1) p2 d2) p3 d3) p4 d4) p5 d5) p6 d6) p7 d7) p8 d8) p9 d9) p10 d10) p11 d11)
theorem calls (hfol : Tryz.prog.follows .mixedOrders = true) {ρ : Rho} {w : World} {B : Nat} (hr : HR B w ρ hh w) (hg : GR Tryz.prog ρ) : Calls Tryz.prog 3 #[] w fun e w' => e = .returned (.bool true) ∧ Go.RowKit.Below B w w' :=
  calls_of_chain hfol hr hg enter reach fin
end Go.Ev.YtgfjlegiofhboaaGreatDoorRn
