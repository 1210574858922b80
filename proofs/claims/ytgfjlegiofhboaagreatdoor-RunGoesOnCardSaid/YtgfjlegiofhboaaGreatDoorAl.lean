/- A run of the evaluator, whole. -/
import Derived.Test.YtgfjlegiofhboaaGreatDoorAlP0
import Derived.Test.YtgfjlegiofhboaaGreatDoorAlP1
namespace Go.Ev.YtgfjlegiofhboaaGreatDoorAl
open Go.Proofs
set_option maxRecDepth 1000000
set_option linter.unusedVariables false
theorem enter : enterFr Tryz.prog 9 [] = some fr0 := by kernel_rfl
theorem reach : Reach Tryz.prog ⟨fr0, [], hh⟩ s5 := (.step (.step (.step (.step (.step .refl p1 d1) p2 d2) p3 d3) p4 d4) p5 d5)
theorem calls (hfol : Tryz.prog.follows .mixedOrders = true) {ρ : Rho} {w : World} {B : Nat} (hr : HR B w ρ hh w) (hg : GR Tryz.prog ρ) : Calls Tryz.prog 9 #[] w fun e w' => e = .returned (.bool true) ∧ Go.RowKit.Below B w w' :=
  calls_of_chain hfol hr hg enter reach fin
end Go.Ev.YtgfjlegiofhboaaGreatDoorAl
