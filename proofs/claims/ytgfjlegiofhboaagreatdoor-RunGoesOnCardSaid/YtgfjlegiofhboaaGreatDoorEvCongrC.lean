/- What an operation of the evaluator hangs on, part C. No condition. -/
import Derived.Test.YtgfjlegiofhboaaGreatDoorEvCongrA
import Derived.Test.YtgfjlegiofhboaaGreatDoorEvCongrB
namespace Go.Ev
open Go.RowKit
set_option linter.unusedVariables false
set_option linter.unusedSimpArgs false
set_option autoImplicit false

section
variable {P : Program}

/-- One that looks at memory: it leaves it, and a new block is no matter. -/
theorem evalOp_look {o : Oper} {f : Operand → AV} {h : Heap} {r : R} (hr : rank o.op = 1) (hm : makes o.op = false) (he : evalOp P f o h = some r) :
    ∃ v, r = .val v h ∧ (h.get h.nx = none → ∀ o', evalOp P f o (h.new o') = some (.val v (h.new o'))) := by
  unfold evalOp at he ⊢
  cases hop : o.op <;> rw [hop] at hr hm he
  case load t a =>
    dsimp only at he ⊢
    split at he
    · obtain ⟨v, h1, h2⟩ := pv_val he
      exact ⟨v, h2, fun hn o' => by rw [loadA_more hn h1]; rfl⟩
    · cases he
  case slice t x lo hi mx =>
    obtain ⟨v, h1, h2⟩ := pv_val he
    exact ⟨v, h2, fun hn o' => by dsimp only; rw [sliceA_more hn h1]; rfl⟩
  case lookup t x i ok =>
    obtain ⟨v, h1, h2⟩ := pv_val he
    exact ⟨v, h2, fun hn o' => by dsimp only; rw [lookupA_more hn h1]; rfl⟩
  case call c =>
    dsimp only [rank] at he hr ⊢
    cases hc : c.callee <;> rw [hc] at hr he
    case value y => cases hr
    case invoke y m => cases hr
    case builtin b =>
      dsimp only at he hr ⊢
      cases b <;> try (cases hr; done)
      case len =>
        unfold builtinA at he ⊢
        dsimp only at he ⊢
        obtain ⟨v, h1, h2⟩ := pv_val he
        exact ⟨v, h2, fun hn o' => by rw [lenOpA_more hn h1]; rfl⟩
  all_goals first
    | (cases hr; done)
    | (cases hm; done)
end
end Go.Ev
