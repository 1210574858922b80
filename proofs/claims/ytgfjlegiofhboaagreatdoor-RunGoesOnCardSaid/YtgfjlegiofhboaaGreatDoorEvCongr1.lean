/- What an operation of the evaluator hangs on: its operands, and, by its rank, memory. No condition. -/
import Derived.Test.YtgfjlegiofhboaaGreatDoorEvPlan
namespace Go.Ev
open Go.RowKit
set_option linter.unusedVariables false
set_option linter.unusedSimpArgs false
set_option autoImplicit false

section
variable {P : Program}

theorem mem_call {f : Operand → AV} {g : Operand → AV} {as : Array Operand} (h : ∀ x ∈ as.toList, f x = g x) : as.toList.map f = as.toList.map g := List.map_congr_left h

theorem opt_map {f g : Operand → AV} {o : Option Operand} (h : ∀ x ∈ o.toArray.toList, f x = g x) : o.map f = o.map g := by
  cases o with
  | none => rfl
  | some x => simp [h x (by simp)]

/-- An operation hangs on its operands. -/
theorem evalOp_congr {o : Oper} {f g : Operand → AV} {h : Heap} (hx : ∀ x ∈ o.op.operands.toList, f x = g x) : evalOp P f o h = evalOp P g o h := by
  unfold evalOp
  cases hop : o.op <;> rw [hop] at hx <;> simp only [Op.operands] at hx <;> (try dsimp only)
  case move x => rw [hx x (by simp)]
  case assign x => rw [hx x (by simp)]
  case pick c a b => rw [hx c (by simp), hx a (by simp), hx b (by simp)]
  case box t x => rw [hx x (by simp)]
  case build t ps =>
    have : ps.toList.map (fun p => (p.1, f p.2)) = ps.toList.map (fun p => (p.1, g p.2)) := List.map_congr_left fun p hp => by rw [hx p.2 (by simp; exact ⟨p.1, by simpa using hp⟩)]
    rw [this]
  case buildSlice t n ps =>
    have : ps.toList.map (fun p => (p.1, f p.2)) = ps.toList.map (fun p => (p.1, g p.2)) := List.map_congr_left fun p hp => by rw [hx p.2 (by simp; exact ⟨p.1, by simpa using hp⟩)]
    rw [this]
  case load t a => rw [hx a (by simp)]
  case store t a x => rw [hx a (by simp), hx x (by simp)]
  case nilCheck x => rw [hx x (by simp)]
  case binOp op t x y t' => rw [hx x (by simp), hx y (by simp)]
  case unOp op t x => rw [hx x (by simp)]
  case convert s d x => rw [hx x (by simp)]
  case makeInterface t x => rw [hx x (by simp)]
  case makeFunc fn a b =>
    have h1 : a.toList.map f = a.toList.map g := List.map_congr_left fun p hp => hx p (by simp; left; simpa using hp)
    have h2 : b.toList.map f = b.toList.map g := List.map_congr_left fun p hp => hx p (by simp; right; simpa using hp)
    rw [h1, h2]
  case makeSlice t l c => rw [hx l (by simp), hx c (by simp)]
  case slice t x lo hi mx =>
    have h1 : lo.map f = lo.map g := by cases lo with
      | none => rfl
      | some y => simp [hx y (by simp)]
    have h2 : hi.map f = hi.map g := by cases hi with
      | none => rfl
      | some y => simp [hx y (by simp)]
    have h3 : mx.map f = mx.map g := by cases mx with
      | none => rfl
      | some y => simp [hx y (by simp)]
    rw [hx x (by simp), h1, h2, h3]
  case fieldAddr s x n => rw [hx x (by simp)]
  case field s x n => rw [hx x (by simp)]
  case indexAddr t x i => rw [hx x (by simp), hx i (by simp)]
  case index t x i => rw [hx x (by simp), hx i (by simp)]
  case lookup t x i ok => rw [hx x (by simp), hx i (by simp)]
  case mapUpdate t m k x => rw [hx m (by simp), hx k (by simp), hx x (by simp)]
  case typeAssert x t u ok => rw [hx x (by simp)]
  case extract x i => rw [hx x (by simp)]
  case call c =>
    simp only [Call.operands] at hx
    cases hc : c.callee <;> rw [hc] at hx
    case value y =>
      have h1 : c.args.toList.map f = c.args.toList.map g := List.map_congr_left fun p hp => hx p (by simp; right; simpa using hp)
      simp only [hx y (by simp), h1]
    case builtin b =>
      have h1 : c.args.toList.map f = c.args.toList.map g := List.map_congr_left fun p hp => hx p (by simpa using hp)
      simp only [h1]
  case makeMap t r => cases r <;> rfl
  all_goals rfl

end
end Go.Ev
