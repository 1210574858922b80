/- All operations of the evaluator in one. No condition. -/
import Derived.Test.YtgfjlegiofhboaaGreatDoorEvOps5
namespace Go.Ev
open Go.RowKit
set_option linter.unusedVariables false
set_option linter.unusedSimpArgs false
set_option autoImplicit false

section
variable {P : Program} {B : Nat} {w0 : World} {ρ : Rho} {h : Heap} {w : World}

/-- What an operation comes to, here and there. -/
def OpOK (P : Program) (B : Nat) (w0 : World) (ρ : Rho) (h : Heap) (w : World) (r : R) (res : Result Next) : Prop :=
  match r with
  | .val v h' => ∃ v' w' ρ', (res = .ok (.value v') w' ∨ (res = .ok .skip w' ∧ v' = Go.undef)) ∧ VR ρ' v v' ∧ HR B w0 ρ' h' w' ∧ Ext ρ h ρ' h'
  | .enter f args => ∃ args' : Array Value, res = .ok (.enter f args') w ∧ VsR ρ args args'.toList
  | .round b args => ∃ c z, ∃ args' : Array Value, ρ b = some (c, z) ∧ VsR ρ args args'.toList ∧ res = (Instr.yield c args').run P w

theorem OpOK.gives (hr : HR B w0 ρ h w) {v : AV} {s : Sem Value} (hg : Gives P ρ w s v) : OpOK P B w0 ρ h w (.val v h) ((do pure (.value (← s)) : Sem Next).run P w) := by
  obtain ⟨u, h1, h2⟩ := hg
  exact ⟨u, w, ρ, .inl (by simp [h1]), h2, hr, Ext.refl _ _⟩

theorem OpOK.pv (hr : HR B w0 ρ h w) {o : Option AV} {r : R} (he : pv h o = some r) {s : Sem Value} (hg : ∀ v, o = some v → Gives P ρ w s v) :
    OpOK P B w0 ρ h w r ((do pure (.value (← s)) : Sem Next).run P w) := by
  cases o with
  | none => cases he
  | some v => cases he; exact OpOK.gives hr (hg v rfl)

theorem OpOK.ph {o : Option Heap} {r : R} (he : ph o = some r) {s : Sem Unit} (hg : ∀ h', o = some h' → ∃ w', s.run P w = .ok () w' ∧ HR B w0 ρ h' w' ∧ Ext ρ h ρ h') :
    OpOK P B w0 ρ h w r ((do s; pure .skip : Sem Next).run P w) := by
  cases o with
  | none => cases he
  | some h' =>
    cases he
    obtain ⟨w', h1, h2, h3⟩ := hg h' rfl
    exact ⟨Go.undef, w', ρ, .inr ⟨by simp [h1], rfl⟩, VR.undef, h2, h3⟩

theorem map_args (ec : Operand → Value) (as : Array Operand) : (as.map ec).toList = as.toList.map ec := by simp

theorem VsR.args {ea : Operand → AV} {ec : Operand → Value} (hev : ∀ x, VR ρ (ea x) (ec x)) (as : Array Operand) : VsR ρ (as.toList.map ea) (as.map ec).toList := by
  rw [map_args]; exact VsR.map_of _ _ _ fun x _ => hev x

theorem OptR.of {ea : Operand → AV} {ec : Operand → Value} (hev : ∀ x, VR ρ (ea x) (ec x)) (o : Option Operand) : OptR ρ (o.map ea) (o.map ec) := by
  cases o with
  | none => exact .none
  | some x => exact .some (hev x)

theorem enterA_run {f : FuncId} {args : List AV} {r : R} (he : enterA P f args = some r) {as : Array Value} (ha : VsR ρ args as.toList) : OpOK P B w0 ρ h w r ((callFunc f as).run P w) := by
  unfold enterA at he
  split at he
  · rename_i fn hf
    split at he
    · cases he
    · rename_i hname
      split at he
      · cases he
      · rename_i hbody
        cases he
        refine ⟨as, ?_, ha⟩
        have hname' : fn.name ≠ "runtime.NumGoroutine" := by simpa using hname
        have hbody' : fn.body ≠ none := by simpa using hbody
        simp [callFunc, hf, hname', hbody']
  · cases he

theorem callA_run {f : AV} {args : List AV} {r : R} (he : callA P f args = some r) {f' : Value} (hf : VR ρ f f') {as : Array Value} (ha : VsR ρ args as.toList) :
    OpOK P B w0 ρ h w r ((do let d ← Deferred.ofValue f' as; invoke d.target d.args : Sem Next).run P w) := by
  unfold callA at he
  split at he
  · rename_i g first captured
    obtain ⟨x, y, rfl, hx, hy⟩ := hf.fn_inv
    have := enterA_run (P := P) (B := B) (w0 := w0) (h := h) (w := w) he (as := (x ++ as) ++ y) (by simp only [Array.toList_append]; exact (hx.append ha).append hy)
    simpa [Deferred.ofValue, invoke] using this
  · rename_i b
    cases he
    obtain ⟨c, z, hρ, rfl⟩ := hf.yld_inv
    exact ⟨c, z, as, hρ, ha, by simp [Deferred.ofValue, invoke]⟩
  · cases he

theorem builtinA_run {b : Builtin} {ts : Array TypeId} {ty : TypeId} {consts : Array Bool} {args : List AV} {r : R} (he : builtinA P b ts args h = some r) (hr : HR B w0 ρ h w) {as : Array Value} (ha : VsR ρ args as.toList) :
    OpOK P B w0 ρ h w r ((builtin b ts ty consts as).run P w) := by
  unfold builtinA at he
  split at he
  · cases hq : appendA P ts args h with
    | none => rw [hq] at he; cases he
    | some p =>
      obtain ⟨v, h'⟩ := p
      rw [hq] at he; cases he
      obtain ⟨v', w', ρ', h1, h2, h3, h4⟩ := appendA_run (ty := ty) hq hr ha
      exact ⟨v', w', ρ', .inl (by simp [builtin, h1]), h2, h3, h4⟩
  · cases hq : copyA P ts args h with
    | none => rw [hq] at he; cases he
    | some p =>
      obtain ⟨v, h'⟩ := p
      rw [hq] at he; cases he
      obtain ⟨v', w', h1, h2, h3, h4⟩ := copyA_run (ty := ty) hq hr ha
      exact ⟨v', w', ρ, .inl (by simp [builtin, h1]), h2, h3, h4⟩
  · exact OpOK.pv hr he fun v hv => lenOpA_run hv hr ha
  · exact OpOK.pv hr he fun v hv => minMaxA_run (mx := true) (ts := ts) (ty := ty) hv ha
  · exact OpOK.pv hr he fun v hv => minMaxA_run (mx := false) (ts := ts) (ty := ty) hv ha
  · cases he

theorem OpOK.make {o : Oper} {ea : Operand → AV} {ec : Operand → Value} (hev : ∀ x, VR ρ (ea x) (ec x)) (hr : HR B w0 ρ h w) {r : R} (hm : MakeOK P o ea h r) :
    OpOK P B w0 ρ h w r ((execOp ec o).run P w) := by
  obtain ⟨v, o', rfl, hro, hrun⟩ := hm
  obtain ⟨oc, z, v', h1, h2, h3⟩ := hrun ρ w ec hev (hr.fresh _ (Nat.le_refl _)).1
  obtain ⟨h4, h5⟩ := hr.both o' oc z h2
  exact ⟨v', _, _, .inl h1, h3, h4, h5⟩

theorem evalOp_run {o : Oper} {ea : Operand → AV} {ec : Operand → Value} (hev : ∀ x, VR ρ (ea x) (ec x)) (hr : HR B w0 ρ h w) {r : R} (he : evalOp P ea o h = some r) :
    OpOK P B w0 ρ h w r ((execOp ec o).run P w) := by
  have he0 := he
  unfold evalOp at he
  cases hop : o.op <;> rw [hop] at he
  case move x => cases he; exact ⟨_, w, ρ, .inl (by simp [execOp, hop]), hev x, hr, Ext.refl _ _⟩
  case assign x => cases he; exact ⟨_, w, ρ, .inl (by simp [execOp, hop]), hev x, hr, Ext.refl _ _⟩
  case pick c a b =>
    dsimp only at he
    split at he
    · rename_i t ht
      cases he
      have hc := hev c
      rw [ht] at hc
      have hc' := hc.lit_eq
      cases t
      · exact ⟨_, w, ρ, .inl (by simp [execOp, hop, hc', asBool]), hev b, hr, Ext.refl _ _⟩
      · exact ⟨_, w, ρ, .inl (by simp [execOp, hop, hc', asBool]), hev a, hr, Ext.refl _ _⟩
    · cases he
  case alloc t => exact OpOK.make hev hr (make_run (by simp [makes, hop]) he0)
  case box t x => exact OpOK.make hev hr (make_run (by simp [makes, hop]) he0)
  case buildSlice t n ps => exact OpOK.make hev hr (make_run (by simp [makes, hop]) he0)
  case makeSlice t l c => exact OpOK.make hev hr (make_run (by simp [makes, hop]) he0)
  case makeMap t rsv => exact OpOK.make hev hr (make_run (by simp [makes, hop]) he0)
  case build t ps =>
    have := OpOK.pv (P := P) hr he (s := Instr.build t (ps.map fun (i, x) => (i, ec x))) fun v hv => buildA_run hev hv
    simpa [execOp, hop] using this
  case load t a =>
    dsimp only at he
    split at he
    · rename_i b off ha
      have hx := hev a
      rw [ha] at hx
      obtain ⟨c, z, hρ, hc⟩ := hx.ptr_inv
      have := OpOK.pv (P := P) hr he (s := Instr.loadAt t (ec a)) fun v hv => by
        obtain ⟨u, h1, h2⟩ := loadA_run (P := P) hv hr hρ
        exact ⟨u, by simp [Instr.loadAt, hc, Instr.sureAddr, h1], h2⟩
      simpa [execOp, hop] using this
    · cases he
  case store t a x =>
    dsimp only at he
    split at he
    · rename_i b off ha
      have hx := hev a
      rw [ha] at hx
      obtain ⟨c, z, hρ, hc⟩ := hx.ptr_inv
      have := OpOK.ph (P := P) (B := B) (w0 := w0) (ρ := ρ) (w := w) (h := h) he (s := Instr.storeAt t (ec a) (ec x)) fun h' hh => by
        obtain ⟨w', h1, h2, h3⟩ := storeA_run (P := P) hh hr hρ (hev x)
        exact ⟨w', by simp [Instr.storeAt, hc, Instr.sureAddr, h1], h2, h3⟩
      simpa [execOp, hop] using this
    · cases he
  case nilCheck x =>
    dsimp only at he
    split at he
    · rename_i b off hx
      cases he
      have hy := hev x
      rw [hx] at hy
      obtain ⟨c, z, hρ, hc⟩ := hy.ptr_inv
      exact ⟨_, w, ρ, .inl (by simp [execOp, hop, hc]), .ptr hρ, hr, Ext.refl _ _⟩
    · rename_i f a b hx
      cases he
      have hy := hev x
      rw [hx] at hy
      obtain ⟨p, q, hc, h1, h2⟩ := hy.fn_inv
      exact ⟨_, w, ρ, .inl (by simp [execOp, hop, hc]), .fn h1 h2, hr, Ext.refl _ _⟩
    · rename_i b hx
      cases he
      have hy := hev x
      rw [hx] at hy
      obtain ⟨c, z, hρ, hc⟩ := hy.yld_inv
      exact ⟨_, w, ρ, .inl (by simp [execOp, hop, hc]), .yld hρ, hr, Ext.refl _ _⟩
    · cases he
  case binOp op t x y t' =>
    have := OpOK.pv (P := P) hr he (s := do eqGuard op t x y (ec x) (ec y); binOp op t (ec x) (ec y)) fun v hv => binA_run hv (hev x) (hev y)
    simpa [execOp, hop] using this
  case unOp op t x =>
    have := OpOK.pv (P := P) hr he (s := Op.unary op (ec x)) fun v hv => unA_run hv (hev x)
    simpa [execOp, hop] using this
  case convert src dst x =>
    have := OpOK.pv (P := P) hr he (s := convert src dst (ec x)) fun v hv => convA_run hv (hev x)
    simpa [execOp, hop] using this
  case makeInterface t x =>
    dsimp only at he
    split at he
    · cases he
    · rename_i hc
      cases he
      simp only [Bool.or_eq_true, not_or, Bool.not_eq_true] at hc
      refine ⟨_, w, ρ, .inl ?_, .ifc (hev x), hr, Ext.refl _ _⟩
      cases hu : P.underlying t with
      | none => rw [hu] at hc; simp at hc
      | some d =>
        have h1 := hc.1
        unfold isIface at h1
        rw [hu] at h1
        simp only [execOp, hop, Instr.makeInterface, Sem.run_bind, run_underlying hu, Result.andThen_ok]
        cases d <;> first | (simp at h1; done) | simp
  case makeFunc fn first captured =>
    cases he
    exact ⟨_, w, ρ, .inl (by simp [execOp, hop, Instr.makeFunc]), .fn (VsR.args hev first) (VsR.args hev captured), hr, Ext.refl _ _⟩
  case slice t x lo hi mx =>
    have := OpOK.pv (P := P) hr he (s := Instr.sliceAt t (ec x) (lo.map ec) (hi.map ec) (mx.map ec)) fun v hv => sliceA_run hv hr (hev x) (OptR.of hev lo) (OptR.of hev hi) (OptR.of hev mx)
    simpa [execOp, hop] using this
  case fieldAddr s x f =>
    have := OpOK.pv (P := P) hr he (s := Instr.fieldAt s (ec x) f) fun v hv => fieldAddrA_run hv (hev x)
    simpa [execOp, hop] using this
  case field t x f =>
    have := OpOK.pv (P := P) hr he (s := Instr.field t (ec x) f) fun v hv => fieldA_run hv (hev x)
    simpa [execOp, hop] using this
  case indexAddr t x ix =>
    have := OpOK.pv (P := P) hr he (s := Instr.indexAt t (ec x) (ec ix)) fun v hv => indexAddrA_run hv (hev x) (hev ix)
    simpa [execOp, hop] using this
  case index t x ix =>
    have := OpOK.pv (P := P) hr he (s := Instr.index t (ec x) (ec ix)) fun v hv => indexA_run hv (hev x) (hev ix)
    simpa [execOp, hop] using this
  case lookup t x ix ok =>
    have := OpOK.pv (P := P) hr he (s := Instr.lookup t (ec x) (ec ix) ok) fun v hv => lookupA_run hv hr (hev x) (hev ix)
    simpa [execOp, hop] using this
  case mapUpdate t m k x =>
    have := OpOK.ph (P := P) (B := B) (w0 := w0) (ρ := ρ) (w := w) (h := h) he (s := Instr.mapUpdate t (ec m) (ec k) (ec x)) fun h' hh => mapUpdateA_run hh hr (hev m) (hev k) (hev x)
    simpa [execOp, hop] using this
  case typeAssert x xt t ok =>
    have := OpOK.pv (P := P) hr he (s := Instr.typeAssert (ec x) xt t ok) fun v hv => typeAssertA_run hv (hev x)
    simpa [execOp, hop] using this
  case extract x i =>
    dsimp only at he
    split at he
    · rename_i l hx
      have hy := hev x
      rw [hx] at hy
      have := OpOK.pv (P := P) hr he (s := Instr.extract (ec x) i) fun v hv => extract_run hv hy
      simpa [execOp, hop] using this
    · cases he
  case call c =>
    dsimp only at he
    split at he
    · rename_i f hcal
      have := callA_run (P := P) (B := B) (w0 := w0) (h := h) (w := w) he (hev f) (VsR.args hev c.args)
      simpa [execOp, hop, resolve, hcal] using this
    · rename_i b hcal
      simp only [execOp, hop, resolve, hcal, Sem.run_bind, Sem.run_pure, Result.andThen_ok, invoke]
      exact builtinA_run he hr (VsR.args hev c.args)
    · cases he
  all_goals (first | cases he)
end
end Go.Ev
