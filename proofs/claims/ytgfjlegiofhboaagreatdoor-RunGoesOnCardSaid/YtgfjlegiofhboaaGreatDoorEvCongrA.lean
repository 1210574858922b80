/- What an operation of the evaluator hangs on, part A. No condition. -/
import Derived.Test.YtgfjlegiofhboaaGreatDoorEvCongr1
namespace Go.Ev
open Go.RowKit
set_option linter.unusedVariables false
set_option linter.unusedSimpArgs false
set_option autoImplicit false

section
variable {P : Program}

theorem pv_val {h : Heap} {o : Option AV} {r : R} (he : pv h o = some r) : ∃ v, o = some v ∧ r = .val v h := by
  cases o with
  | none => cases he
  | some v => cases he; exact ⟨v, rfl, rfl⟩

/-- Of its operands alone. -/
theorem evalOp_pure {o : Oper} {f : Operand → AV} {h : Heap} {r : R} (hr : rank o.op = 0) (he : evalOp P f o h = some r) : ∃ v, r = .val v h ∧ ∀ h', evalOp P f o h' = some (.val v h') := by
  unfold evalOp at he ⊢
  cases hop : o.op <;> rw [hop] at hr he <;> simp only [rank] at hr <;> try (cases hr; done)
  case move x => cases he; exact ⟨_, rfl, fun _ => rfl⟩
  case assign x => cases he; exact ⟨_, rfl, fun _ => rfl⟩
  case makeFunc fn a b => cases he; exact ⟨_, rfl, fun _ => rfl⟩
  case pick c a b =>
    dsimp only at he ⊢
    split at he
    · cases he; exact ⟨_, rfl, fun _ => rfl⟩
    · cases he
  case nilCheck x =>
    dsimp only at he ⊢
    split at he
    · cases he; exact ⟨_, rfl, fun _ => rfl⟩
    · cases he; exact ⟨_, rfl, fun _ => rfl⟩
    · cases he; exact ⟨_, rfl, fun _ => rfl⟩
    · cases he
  case makeInterface t x =>
    dsimp only at he ⊢
    split at he
    · cases he
    · rename_i hc; cases he; exact ⟨_, rfl, fun _ => if_neg hc⟩
  case extract x i =>
    dsimp only at he ⊢
    split at he
    · obtain ⟨v, h1, h2⟩ := pv_val he
      exact ⟨v, h2, fun h' => by rw [h1]; rfl⟩
    · cases he
  case call c =>
    dsimp only at he hr ⊢
    split at he
    · rename_i y hc; rw [hc] at hr; cases hr
    · rename_i b hc
      rw [hc] at hr
      (try dsimp only at hr)
      unfold builtinA at he ⊢
      cases b <;> (try (simp at hr; done)) <;> (dsimp only at he ⊢; obtain ⟨v, h1, h2⟩ := pv_val he; exact ⟨v, h2, fun h' => by rw [h1]; rfl⟩)
    · cases he
  all_goals
    (obtain ⟨v, h1, h2⟩ := pv_val he
     exact ⟨v, h2, fun h' => by dsimp only; rw [h1]; rfl⟩)

end
end Go.Ev
