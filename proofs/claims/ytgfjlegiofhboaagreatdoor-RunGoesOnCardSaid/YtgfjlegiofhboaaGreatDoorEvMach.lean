/- Single steps of the machine, for any frame. No condition. -/
import Derived.Test.YtgfjlegiofhboaaGreatDoorEvDraw2
namespace Go.Ev
open Go.RowKit
set_option linter.unusedVariables false
set_option linter.unusedSimpArgs false
set_option autoImplicit false

section
variable {P : Program} {fr : Frame} {cs : List Frame} {w w' : World} {k : List Item}

theorem st_exec (hm : fr.mode = .run) : stepG P true { frame := fr, callers := cs, status := .running, dying := none } w = stepG.exec P true true fr cs none w := by
  simp [stepG, hm]

theorem st_skip (hm : fr.mode = .run) (ht : fr.todo = .code .skip :: k) : step P (lone fr cs w) = .next (lone { fr with todo := k } cs w) :=
  step_lone_go (by rw [st_exec hm]; simp [stepG.exec, ht])
theorem st_label {l : Nat} (hm : fr.mode = .run) (ht : fr.todo = .code (.label l) :: k) : step P (lone fr cs w) = .next (lone { fr with todo := k } cs w) :=
  step_lone_go (by rw [st_exec hm]; simp [stepG.exec, ht])
theorem st_inBlock {l : Nat} (hm : fr.mode = .run) (ht : fr.todo = .inBlock l :: k) : step P (lone fr cs w) = .next (lone { fr with todo := k } cs w) :=
  step_lone_go (by rw [st_exec hm]; simp [stepG.exec, ht])
theorem st_inScope {c : Code} (hm : fr.mode = .run) (ht : fr.todo = .inScope c :: k) : step P (lone fr cs w) = .next (lone { fr with todo := k } cs w) :=
  step_lone_go (by rw [st_exec hm]; simp [stepG.exec, ht])
theorem st_seq {a b : Code} (hm : fr.mode = .run) (ht : fr.todo = .code (.seq a b) :: k) : step P (lone fr cs w) = .next (lone { fr with todo := .code a :: .code b :: k } cs w) :=
  step_lone_go (by rw [st_exec hm]; simp [stepG.exec, ht])
theorem st_cond {c : Operand} {a b : Code} {t : Bool} (hm : fr.mode = .run) (ht : fr.todo = .code (.cond c a b) :: k) (hc : fr.eval c = .bool t) :
    step P (lone fr cs w) = .next (lone { fr with todo := .code (if t then a else b) :: k } cs w) :=
  step_lone_go (by rw [st_exec hm]; simp [stepG.exec, ht, hc])
theorem st_block {id : Nat} {c : Code} (hm : fr.mode = .run) (ht : fr.todo = .code (.block id c) :: k) : step P (lone fr cs w) = .next (lone { fr with todo := .code c :: .inBlock id :: k } cs w) :=
  step_lone_go (by rw [st_exec hm]; simp [stepG.exec, ht])
theorem st_loop {c : Code} (hm : fr.mode = .run) (ht : fr.todo = .code (.loop c) :: k) : step P (lone fr cs w) = .next (lone { fr with todo := .code c :: .inLoop c :: k } cs w) :=
  step_lone_go (by rw [st_exec hm]; simp [stepG.exec, ht])
theorem st_inLoop {c : Code} (hm : fr.mode = .run) (ht : fr.todo = .inLoop c :: k) : step P (lone fr cs w) = .next (lone { fr with todo := .code c :: .inLoop c :: k } cs w) :=
  step_lone_go (by rw [st_exec hm]; simp [stepG.exec, ht])
theorem st_scope {c : Code} (hm : fr.mode = .run) (ht : fr.todo = .code (.scope c) :: k) : step P (lone fr cs w) = .next (lone { fr with todo := .code c :: .inScope c :: k } cs w) :=
  step_lone_go (by rw [st_exec hm]; simp [stepG.exec, ht])
theorem st_exit {id : Nat} {k' : List Item} (hm : fr.mode = .run) (ht : fr.todo = .code (.exit id) :: k) (he : exitTo id k = some k') : step P (lone fr cs w) = .next (lone { fr with todo := k' } cs w) :=
  step_lone_go (by rw [st_exec hm]; simp [stepG.exec, ht, he])
theorem st_goto {l : Nat} {k' : List Item} (hm : fr.mode = .run) (ht : fr.todo = .code (.goto l) :: k) (he : gotoIn l k = some k') : step P (lone fr cs w) = .next (lone { fr with todo := k' } cs w) :=
  step_lone_go (by rw [st_exec hm]; simp [stepG.exec, ht, he])
theorem st_region {id : Nat} {ops : Array Oper} (hm : fr.mode = .run) (ht : fr.todo = .code (.region id ops false) :: k) :
    step P (lone fr cs w) = .next (lone { fr with todo := .inRegion ops (List.range ops.size) :: k } cs w) :=
  step_lone_go (by rw [st_exec hm]; simp [stepG.exec, ht])
theorem st_draw {id : Nat} {ops : Array Oper} (hm : fr.mode = .run) (ht : fr.todo = .code (.region id ops true) :: k) :
    step P (lone fr cs w) = .next (lone { fr with todo := .inRegion ops (Region.schedule (P.follows .mixedOrders) ops (w.tape w.drawn (.order fr.fn id))) :: k } cs (drewW w)) :=
  step_lone_go (by rw [st_exec hm]; simp [stepG.exec, ht, choose, Sem.run, Question.forced, Question.cut, drewW])
theorem st_regionEnd {ops : Array Oper} (hm : fr.mode = .run) (ht : fr.todo = .inRegion ops [] :: k) : step P (lone fr cs w) = .next (lone { fr with todo := k } cs w) :=
  step_lone_go (by rw [st_exec hm]; simp [stepG.exec, ht])

theorem finish_region {ops : Array Oper} {i : Nat} {o : Oper} {rest : List Nat} (ht : fr.todo = .inRegion ops (i :: rest) :: k) (ho : ops[i]? = some o) (v : Value) :
    fr.finish v = { fr with tmps := putC fr.tmps o.dst v, todo := .inRegion ops rest :: k } := by
  unfold Frame.finish
  rw [ht]
  dsimp only
  rw [ho]
  cases hd : o.dst <;> simp [putC, hd]

theorem st_opSkip {ops : Array Oper} {i : Nat} {o : Oper} {rest : List Nat} (hm : fr.mode = .run) (ht : fr.todo = .inRegion ops (i :: rest) :: k) (ho : ops[i]? = some o)
    (hw : Region.wanted o (yielded ops fr.tmps) = false) : step P (lone fr cs w) = .next (lone { fr with tmps := putC fr.tmps o.dst Go.undef, todo := .inRegion ops rest :: k } cs w) := by
  rw [← finish_region ht ho]
  exact step_lone_go (by rw [st_exec hm]; simp [stepG.exec, ht, ho, hw])

def notDefer : Op → Prop
  | .defer _ => False
  | _ => True

theorem st_oper {ops : Array Oper} {i : Nat} {o : Oper} {rest : List Nat} (hm : fr.mode = .run) (ht : fr.todo = .inRegion ops (i :: rest) :: k) (ho : ops[i]? = some o)
    (hw : Region.wanted o (yielded ops fr.tmps) = true) (hd : notDefer o.op) :
    stepG P true { frame := fr, callers := cs, status := .running, dying := none } w = stepG.apply P true fr cs none (execOp fr.eval o) w := by
  rw [st_exec hm]
  simp only [stepG.exec, ht, ho, Option.map_some, hw, Option.getD_some, if_true]
  have hop : fr.oper? = some o := by simp [Frame.oper?, ht, ho]
  simp only [stepG.oper, hop]
  cases hr : fr.roundOf with
  | none => rfl
  | some l => cases hq : o.op <;> first | rfl | (rw [hq] at hd; exact hd.elim)

theorem st_opVal {ops : Array Oper} {i : Nat} {o : Oper} {rest : List Nat} {v : Value} (hm : fr.mode = .run) (ht : fr.todo = .inRegion ops (i :: rest) :: k) (ho : ops[i]? = some o)
    (hw : Region.wanted o (yielded ops fr.tmps) = true) (hd : notDefer o.op) (hr : (execOp fr.eval o).run P w = .ok (.value v) w' ∨ ((execOp fr.eval o).run P w = .ok .skip w' ∧ v = Go.undef)) :
    step P (lone fr cs w) = .next (lone { fr with tmps := putC fr.tmps o.dst v, todo := .inRegion ops rest :: k } cs w') := by
  rw [← finish_region ht ho]
  refine step_lone_go ?_
  rw [st_oper hm ht ho hw hd]
  rcases hr with hr | ⟨hr, rfl⟩ <;> simp [stepG.apply, hr]

theorem st_opEnter {ops : Array Oper} {i : Nat} {o : Oper} {rest : List Nat} {f : FuncId} {args : Array Value} (hm : fr.mode = .run) (ht : fr.todo = .inRegion ops (i :: rest) :: k) (ho : ops[i]? = some o)
    (hw : Region.wanted o (yielded ops fr.tmps) = true) (hd : notDefer o.op) (hr : (execOp fr.eval o).run P w = .ok (.enter f args) w') :
    step P (lone fr cs w) = .next (lone (Frame.enter P f args .normal) (fr :: cs) w') := by
  refine step_lone_go ?_
  rw [st_oper hm ht ho hw hd]
  simp [stepG.apply, hr, ht]

theorem st_opRound {ops : Array Oper} {i : Nat} {o : Oper} {rest : List Nat} {l : Nat} {f : FuncId} {tmps : Array Value} {asg body : Code} (hm : fr.mode = .run) (ht : fr.todo = .inRegion ops (i :: rest) :: k) (ho : ops[i]? = some o)
    (hw : Region.wanted o (yielded ops fr.tmps) = true) (hd : notDefer o.op) (hr : (execOp fr.eval o).run P w = .ok (.round l f tmps asg body) w') :
    step P (lone fr cs w) = .next (lone (Frame.round l f tmps asg body .normal) (fr :: cs) w') := by
  refine step_lone_go ?_
  rw [st_oper hm ht ho hw hd]
  simp [stepG.apply, hr, ht]

/-- The end of a frame that is no round's. -/
theorem st_leave {jump : Option Code} (hm : fr.mode = .run) (hr : fr.roundOf = none)
    (ht : (fr.todo = [] ∧ jump = none) ∨ (fr.todo = .code .ret :: k ∧ jump = some .ret)) : step P (lone fr cs w) = .next (lone { fr with mode := .returning } cs w) := by
  refine step_lone_go ?_
  rw [st_exec hm]
  rcases ht with ⟨ht, rfl⟩ | ⟨ht, rfl⟩ <;> simp [stepG.exec, ht, hr]

/-- The end of a round. -/
theorem st_leaveRound {jump : Option Code} {l : Nat} {c : Frame} {v : Value} (hm : fr.mode = .run) (hr : fr.roundOf = some l) (hk : fr.kind = .normal)
    (ht : (fr.todo = [] ∧ jump = none) ∨ (fr.todo = .code .ret :: k ∧ jump = some .ret) ∨ (∃ id, fr.todo = .code (.exit id) :: k ∧ exitTo id k = none ∧ jump = some (.exit id)) ∨ (∃ g, fr.todo = .code (.goto g) :: k ∧ gotoIn g k = none ∧ jump = some (.goto g)))
    (he : (Instr.endRound l jump).run P w = .ok v w') : step P (lone fr (c :: cs) w) = .next (lone (c.finish v) cs w') := by
  refine step_lone_go ?_
  rw [st_exec hm]
  rcases ht with ⟨ht, rfl⟩ | ⟨ht, rfl⟩ | ⟨id, ht, h1, rfl⟩ | ⟨g, ht, h1, rfl⟩ <;> simp [stepG.exec, ht, hr, he, doReturn, hk, *]

theorem st_rangeFunc {f : Operand} {ps : Array Tmp} {asg body : Code} {l : Nat} {mark : List Deferred} {w1 : World} {g : FuncId} {args : Array Value} (hm : fr.mode = .run)
    (ht : fr.todo = .code (.rangeFunc f ps asg body) :: k) (he : (Instr.enterLoop fr.fn fr.tmps ps asg body fr.roundOf).run P w = .ok (l, mark) w1)
    (hc : (do let d ← Deferred.ofValue (fr.eval f) #[.func (.yield l) #[] #[]]; invoke d.target d.args : Sem Next).run P w1 = .ok (.enter g args) w') :
    step P (lone fr cs w) = .next (lone (Frame.enter P g args .normal) ({ fr with todo := .inRangeFunc l :: k, defers := mark ++ fr.defers } :: cs) w') := by
  refine step_lone_go ?_
  rw [st_exec hm]
  have hev : ({ fr with todo := .inRangeFunc l :: k, defers := mark ++ fr.defers } : Frame).eval = fr.eval := by rw [eval_evC, eval_evC]
  have hc' : (do let d ← resolve ({ fr with todo := .inRangeFunc l :: k, defers := mark ++ fr.defers } : Frame).eval { callee := .value f, args := #[.const (.func (.yield l) #[] #[])], argTypes := #[] } 0; invoke d.target d.args : Sem Next).run P w1 = .ok (.enter g args) w' := by
    rw [hev]
    simpa [resolve, eval_evC, evC] using hc
  simp only [stepG.exec, ht, Sem.runT_eq, he, GStep.bare_after]
  simp only [stepG.apply, Sem.runT_eq, hc', if_true]
  simp

theorem st_endRange {l : Nat} {jump : Option Code} (hm : fr.mode = .run) (ht : fr.todo = .endRangeFunc l :: k) (he : (Instr.endLoop l).run P w = .ok jump w') :
    step P (lone fr cs w) = .next (lone { fr with todo := (jump.map Item.code).toList ++ k } cs w') :=
  step_lone_go (by rw [st_exec hm]; simp [stepG.exec, ht, he])

theorem st_beginRound {l : Nat} (hm : fr.mode = .run) (ht : fr.todo = .beginRound :: k) (hr : fr.roundOf = some l) (he : (Instr.beginRound l).run P w = .ok () w') :
    step P (lone fr cs w) = .next (lone { fr with todo := k } cs w') := by
  refine step_lone_go ?_
  rw [st_exec hm]
  simp [stepG.exec, ht, hr, stepG.apply, he, Frame.finish]

/-- The call's end. -/
theorem st_return {c : Frame} {fn : Func} {v : Value} (hm : fr.mode = .returning) (hd : fr.defers = []) (hk : fr.kind = .normal) (hf : P.funcs[fr.fn]? = some fn) (hr : (results fn fr.tmps).run P w = .ok v w') :
    step P (lone fr (c :: cs) w) = .next (lone (c.finish v) cs w') :=
  step_lone_go (by simp [stepG, hm, unwind, hd, hf, hr, doReturn, hk])

theorem st_collected {b : Nat} {ds calls : List Deferred} (hm : fr.mode = .returning) (hd : fr.defers = { target := .collected b, args := #[] } :: ds) (he : (Instr.takeDeferred b).run P w = .ok calls w') :
    step P (lone fr cs w) = .next (lone { fr with defers := calls ++ ds } cs w') :=
  step_lone_go (by simp [stepG, hm, unwind, hd, he])
end
end Go.Ev
