/- What an operation of the evaluator hangs on, part D. No condition. -/
import Derived.Test.YtgfjlegiofhboaaGreatDoorEvCongr1
namespace Go.Ev
open Go.RowKit
set_option linter.unusedVariables false
set_option linter.unusedSimpArgs false
set_option autoImplicit false

section
variable {P : Program}

theorem wantedA_congr {ops : Array Oper} {o : Oper} {f g : Operand → AV} (hx : ∀ j b t, o.guard = some (j, b) → (ops[j]?).bind (·.dst) = some t → f (.tmp t) = g (.tmp t)) :
    wantedA ops o f = wantedA ops o g := by
  unfold wantedA
  cases hg : o.guard with
  | none => rfl
  | some p =>
    obtain ⟨j, b⟩ := p
    dsimp only
    cases ht : (ops[j]?).bind (·.dst) with
    | none => rfl
    | some t => simp only [hx j b t hg ht]

theorem VR.bool_inv {ρ : Rho} {v : AV} {b : Bool} (h : VR ρ v (.bool b)) : v = .lit (.bool b) := by cases h; rfl

/-- The guard says the same, here and there. -/
theorem wantedA_run {ρ : Rho} {ops : Array Oper} {o : Oper} {f : Operand → AV} {tmps : Array Value} (hf : ∀ t, VR ρ (f (.tmp t)) (tmps.getD t Go.undef)) :
    Region.wanted o (yielded ops tmps) = wantedA ops o f := by
  unfold wantedA Region.wanted
  cases hg : o.guard with
  | none => rfl
  | some p =>
    obtain ⟨j, b⟩ := p
    dsimp only
    cases ht : (ops[j]?).bind (·.dst) with
    | none => simp [yielded, ht]
    | some t =>
      have hv := hf t
      have hy : yielded ops tmps j = (match tmps[t]? with | some (.bool b) => some b | _ => none) := by unfold yielded; rw [ht]; rfl
      rw [hy]
      dsimp only
      by_cases hb : ∃ c, f (.tmp t) = .lit (.bool c)
      · obtain ⟨c, hc⟩ := hb
        rw [hc] at hv ⊢
        have hv' := hv.lit_eq
        have h1 : tmps[t]? = some (.bool c) := by
          cases h2 : tmps[t]? with
          | none => rw [Array.getD_eq_getD_getElem?, h2] at hv'; cases hv'
          | some x => rw [Array.getD_eq_getD_getElem?, h2] at hv'; simpa using hv'
        rw [h1]
        simp
      · have h1 : ∀ c, tmps[t]? ≠ some (.bool c) := by
          intro c h2
          rw [Array.getD_eq_getD_getElem?, h2] at hv
          exact hb ⟨c, hv.bool_inv⟩
        have h3 : (match tmps[t]? with | some (.bool b) => some b | _ => none : Option Bool) = none := by
          split
          · rename_i c h2; exact absurd h2 (h1 c)
          · rfl
        rw [h3]
        split
        · rename_i c hc; exact absurd ⟨c, hc⟩ hb
        · rfl
end
end Go.Ev
