/- The evaluator's machine and the model's: steps within a region, calls. No condition. -/
import Derived.Test.YtgfjlegiofhboaaGreatDoorEvSim
namespace Go.Ev
open Go.RowKit
set_option linter.unusedVariables false
set_option linter.unusedSimpArgs false
set_option autoImplicit false

theorem notDefer_of_rank {op : Op} (h : rank op ≠ 2) : notDefer op := by cases op <;> first | trivial | (exact absurd rfl h)

theorem notDefer_of_eval {P : Program} {f : Operand → AV} {o : Oper} {h : Heap} {r : R} (he : evalOp P f o h = some r) : notDefer o.op := by
  unfold evalOp at he
  cases hop : o.op <;> rw [hop] at he <;> first | trivial | (cases he)

section
variable {P : Program} {B : Nat} {w0 : World} {cs0 : List Frame}

/-- What the machine comes to. -/
def SimTo (P : Program) (B : Nat) (w0 : World) (cs0 : List Frame) (s' : AM) (fr : Frame) (cs : List Frame) (w : World) : Prop :=
  ∃ fr' cs' w', Steps P (lone fr cs w) (lone fr' cs' w') ∧ MR P B w0 cs0 s' fr' cs' w'

/-- The machine does what the evaluator has done, till it comes to something of the plan's. -/
theorem catch_run {ops : Array Oper} {T0 T : Tr AV} {h : Heap} {plan seen : List Nat} {n lo : Nat} {nm : Nat → Key} {c : Frame} {cs : List Frame} {k' : List Item} (hc : c.mode = .run) (hlo : lo ≤ h.nx.toNat) :
    ∀ (σ : List Nat) (tmps : Array Value) (w : World) (ρ : Rho), HR B w0 ρ h w → GR P ρ → DR P ρ h true ops plan seen T0 T n σ tmps nm → (∀ q ∈ σ, q ∉ plan → isMake P ops T0 T q → lo ≤ (nm q).toNat) →
      ∃ σ' tmps' w' ρ', Steps P (lone { c with tmps := tmps, todo := .inRegion ops σ :: k' } cs w) (lone { c with tmps := tmps', todo := .inRegion ops σ' :: k' } cs w') ∧
        HR B w0 ρ' h w' ∧ ExtM lo ρ h ρ' h ∧ DR P ρ' h true ops plan seen T0 T n σ' tmps' nm ∧ (σ' = [] ∨ ∃ i σ2, σ' = i :: σ2 ∧ i ∈ plan) ∧ (∀ q ∈ σ', q ∈ σ)
  | [], tmps, w, ρ, hr, hg, hd, hn => ⟨[], tmps, w, ρ, .refl _ _, hr, ExtM.refl _ _ _, hd, .inl rfl, fun _ h => h⟩
  | i :: σ, tmps, w, ρ, hr, hg, hd, hn => by
    by_cases hi : i ∈ plan
    · exact ⟨i :: σ, tmps, w, ρ, .refl _ _, hr, ExtM.refl _ _ _, hd, .inr ⟨i, σ, rfl, hi⟩, fun _ h => h⟩
    · obtain ⟨o, v', w1, ρ1, ho, hcase, hr1, hx1, hd1⟩ := hd.catch hg hr hi lo hn hlo
      obtain ⟨σ', tmps', w', ρ', hs, a1, a2, a3, a4, a5⟩ := catch_run hc hlo σ (putC tmps o.dst v') w1 ρ1 hr1 (hg.mono hx1.up) hd1 (fun q hq => hn q (List.mem_cons_of_mem _ hq))
      refine ⟨σ', tmps', w', ρ', .head ?_ hs, a1, hx1.trans a2, a3, a4, fun q hq => List.mem_cons_of_mem _ (a5 q hq)⟩
      rcases hcase with ⟨hw, rfl, rfl⟩ | ⟨hw, hrk, hres⟩
      · exact st_opSkip (fr := { c with tmps := tmps, todo := .inRegion ops (i :: σ) :: k' }) hc rfl ho hw
      · refine st_opVal (fr := { c with tmps := tmps, todo := .inRegion ops (i :: σ) :: k' }) hc rfl ho hw (notDefer_of_rank hrk) ?_
        rw [eval_evC]; exact hres

/-- The frame, at an operation of its own: how it waits, if that takes memory on. -/
theorem sus_of {ρ ρ' : Rho} {h h' : Heap} {lo : Nat} {a : AFr} {c : Frame} (hx : Ext ρ h ρ' h')
    (hb : (ItemsR ρ a.todo c.todo ∧ TR ρ a.n a.T c.tmps) ∨
      (∃ ops L rest seen T0 k σ k' nm, a.todo = .draw ops (L :: rest) seen T0 :: k ∧ c.todo = .inRegion ops (L :: σ) :: k' ∧ ItemsR ρ k k' ∧ DR P ρ h true ops (L :: rest) seen T0 a.T a.n (L :: σ) c.tmps nm ∧
        ∀ q ∈ L :: σ, q ∉ L :: rest → isMake P ops T0 a.T q → lo ≤ (nm q).toNat)) : SusB P ρ' h' lo h.nx.toNat a c := by
  rcases hb with ⟨h1, h2⟩ | ⟨ops, L, rest, seen, T0, k, σ, k', nm, h1, h2, h3, h4, h5⟩
  · exact .inl ⟨h1.mono hx.up, h2.mono hx.up⟩
  · have hlt : ∀ q ∈ L :: σ, q ∉ L :: rest → isMake P ops T0 a.T q → (nm q).toNat < h.nx.toNat := fun q hq hn hm => ((h4.pend q hq hn).older hm).1
    exact .inr ⟨ops, L, rest, seen, T0, k, σ, k', nm, h1, h2, h3.mono hx.up, h4.monoM (hx.toM (Nat.le_refl _)) hlt, fun q hq hn hm => ⟨h5 q hq hn hm, hlt q hq hn hm⟩⟩

theorem run_yield {ρ : Rho} {h : Heap} {w : World} (hr : HR B w0 ρ h w) {b : Key} {c z : Nat} (hρ : ρ b = some (c, z)) {args : List AV} {args' : Array Value} (ha : VsR ρ args args'.toList) {g : AFr} (hg : roundFr b args h = some g) {lo : Nat} :
    ∃ l f tmps asg body, (Instr.yield c args').run P w = .ok (.round l f tmps asg body) w ∧ FB ρ g (Frame.round l f tmps asg body .normal) ∧ ActB P ρ h lo g (Frame.round l f tmps asg body .normal) := by
  unfold roundFr at hg
  split at hg
  · rename_i st pd fn n T params asg body d hb
    split at hg
    · rename_i T' hT
      cases hg
      obtain ⟨oc, hw, ho, _⟩ := hr.obj _ _ _ _ hb hρ
      cases ho with
      | loop a1 a2 a3 =>
        rename_i tmps ps dc dz
        obtain ⟨h1, h2⟩ := putParams_run hT ha a1
        have hsz : args'.size = ps.size := by
          rw [← a2] at h2; simpa using h2.symm
        have hz : (ps.zip args').foldl (fun tmps (x : Tmp × Value) => tmps.setIfInBounds x.1 x.2) tmps = (params.zip args'.toList).foldl (fun tmps (x : Tmp × Value) => tmps.setIfInBounds x.1 x.2) tmps := by
          rw [← Array.foldl_toList, Array.toList_zip, a2]
        refine ⟨c, fn, _, asg, body, ?_, ⟨rfl, rfl, rfl, .yes hρ, .nil⟩, .inl ⟨.cons .code (.cons .beginRound (.cons .code .nil)), h1⟩⟩
        rw [← hz]
        simp [Instr.yield, Instr.getLoop, getObj, Sem.run, hw, hsz]
    · cases hg
  · cases hg

/-- An operation of the frame's own, here and there. -/
theorem apply_run {ρ : Rho} {h : Heap} {w : World} {lo : Nat} {a : AFr} {c : Frame} {as : List AFr} {cs : List Frame} {s' : AM} {ops : Array Oper} {i : Nat} {o : Oper} {σ : List Nat} {k' : List Item} {r : R}
    (hr : HR B w0 ρ h w) (hg : GR P ρ) (hlo : lo ≤ h.nx.toNat) (hfb : FB ρ a c) (hret : a.ret = false) (hst : StackR P ρ h cs0 lo as cs)
    (htodo : c.todo = .inRegion ops (i :: σ) :: k') (ho : ops[i]? = some o) (hw : Region.wanted o (yielded ops c.tmps) = true) (hnd : notDefer o.op)
    (hb : (ItemsR ρ a.todo c.todo ∧ TR ρ a.n a.T c.tmps) ∨
      (∃ ops L rest seen T0 k σ k' nm, a.todo = .draw ops (L :: rest) seen T0 :: k ∧ c.todo = .inRegion ops (L :: σ) :: k' ∧ ItemsR ρ k k' ∧ DR P ρ h true ops (L :: rest) seen T0 a.T a.n (L :: σ) c.tmps nm ∧
        ∀ q ∈ L :: σ, q ∉ L :: rest → isMake P ops T0 a.T q → lo ≤ (nm q).toNat))
    (hop : OpOK P B w0 ρ h w r ((execOp (evC c.tmps) o).run P w)) (hs : applyA P a as h (some r) = some s') : SimTo P B w0 cs0 s' c cs w := by
  have hm : c.mode = .run := by rw [hfb.mode, hret]; rfl
  have hop' : OpOK P B w0 ρ h w r ((execOp c.eval o).run P w) := by rw [eval_evC]; exact hop
  cases r with
  | val v h' =>
    unfold applyA at hs
    dsimp only at hs
    split at hs
    · rename_i a' ha'
      cases hs
      obtain ⟨v', w', ρ', hres, hv, hr', hx⟩ := hop'
      obtain ⟨f1, f2, f3⟩ := finish_run ha' (hfb.mono hx.up) hret (sus_of hx hb) hv
      refine ⟨c.finish v', cs, w', .one ?_, ρ', lo, hr', hg.mono hx.up, Nat.le_trans hlo hx.nx, f1, f2, hst.mono (hx.toM hlo)⟩
      rw [finish_region htodo ho]
      exact st_opVal hm htodo ho hw hnd hres
    · cases hs
  | enter f args =>
    unfold applyA at hs
    dsimp only at hs
    split at hs
    · rename_i g hgf
      cases hs
      obtain ⟨args', hres, ha⟩ := hop'
      obtain ⟨f1, f2⟩ := enterFr_run (P := P) (h := h) (lo := h.nx.toNat) hgf ha
      exact ⟨_, c :: cs, w, .one (st_opEnter hm htodo ho hw hnd hres), ρ, h.nx.toNat, hr, hg, Nat.le_refl _, f1, f2, .cons hlo hret hfb (sus_of (Ext.refl _ _) hb) hst⟩
    · cases hs
  | round b args =>
    unfold applyA at hs
    dsimp only at hs
    split at hs
    · rename_i g hgf
      cases hs
      obtain ⟨cc, z, args', hρ, ha, hres⟩ := hop'
      obtain ⟨l, f, tmps, asg, body, hy, f1, f2⟩ := run_yield (P := P) (lo := h.nx.toNat) hr hρ ha hgf
      rw [hy] at hres
      exact ⟨_, c :: cs, w, .one (st_opRound hm htodo ho hw hnd hres), ρ, h.nx.toNat, hr, hg, Nat.le_refl _, f1, f2, .cons hlo hret hfb (sus_of (Ext.refl _ _) hb) hst⟩
    · cases hs

/-- A loop's block is written. -/
theorem loop_set {ρ : Rho} {h : Heap} {w : World} (hr : HR B w0 ρ h w) {b : Key} {st : LoopState} {pd : Option Code} {fn n : Nat} {T : Tr AV} {params : List Tmp} {asg body : Code} {d : Key} {c z : Nat}
    (hb : h.get b = some (.loop st pd fn n T params asg body d)) (hρ : ρ b = some (c, z)) :
    ∃ L : Loop, (Instr.getLoop c).run P w = .ok L w ∧ L.state = st ∧ L.pending = pd ∧ ∀ st' pd', (setObj c (.loop { L with state := st', pending := pd' })).run P w = .ok () { w with heap := w.heap.setIfInBounds c (.loop { L with state := st', pending := pd' }) } ∧
      HR B w0 ρ (h.set b (.loop st' pd' fn n T params asg body d)) { w with heap := w.heap.setIfInBounds c (.loop { L with state := st', pending := pd' }) } ∧ Ext ρ h ρ (h.set b (.loop st' pd' fn n T params asg body d)) := by
  obtain ⟨oc, hw, ho, hB⟩ := hr.obj _ _ _ _ hb hρ
  cases ho with
  | loop a1 a2 a3 =>
    rename_i tmps ps dc dz
    refine ⟨_, by simp [Instr.getLoop, getObj, Sem.run, hw]; rfl, rfl, rfl, fun st' pd' => ⟨by simp [setObj, Sem.run, hw], ?_⟩⟩
    refine hr.update (c := c) (z := z) hb hρ rfl _ (.loop a1 a2 a3) rfl rfl ⟨rfl, rfl, rfl, by simp, fun j hj => ?_⟩
    have := hB rfl
    rw [Array.getElem?_setIfInBounds_ne (by omega)]

theorem endRoundA_run {ρ : Rho} {h h' : Heap} {w : World} (hr : HR B w0 ρ h w) {b : Key} {jump : Option Code} {v : AV} {c z : Nat} (he : endRoundA b jump h = some (v, h')) (hρ : ρ b = some (c, z)) :
    ∃ v' w', (Instr.endRound c jump).run P w = .ok v' w' ∧ VR ρ v v' ∧ HR B w0 ρ h' w' ∧ Ext ρ h ρ h' := by
  unfold endRoundA at he
  split at he
  · rename_i st pd fn n T params asg body d hb
    cases he
    obtain ⟨L, h1, h2, h3, h4⟩ := loop_set (P := P) hr hb hρ
    obtain ⟨g1, g2, g3⟩ := h4 (if jump.isNone then .ready else .done) jump
    exact ⟨_, _, by simp only [Instr.endRound, Sem.run_bind, h1, Result.andThen_ok, g1, Sem.run_pure], .lit, g2, g3⟩
  · cases he

/-- A frame's end. -/
theorem leaveA_run {ρ : Rho} {h : Heap} {w : World} {lo : Nat} {a : AFr} {c : Frame} {as : List AFr} {cs : List Frame} {s' : AM} {jump : Option Code} {k : List Item}
    (hr : HR B w0 ρ h w) (hg : GR P ρ) (hlo : lo ≤ h.nx.toNat) (hfb : FB ρ a c) (hret : a.ret = false) (hst : StackR P ρ h cs0 lo as cs) (hi : ItemsR ρ a.todo c.todo) (ht : TR ρ a.n a.T c.tmps)
    (hj : (c.todo = [] ∧ jump = none) ∨ (c.todo = .code .ret :: k ∧ jump = some .ret) ∨ (∃ id, c.todo = .code (.exit id) :: k ∧ exitTo id k = none ∧ jump = some (.exit id)) ∨ (∃ g, c.todo = .code (.goto g) :: k ∧ gotoIn g k = none ∧ jump = some (.goto g)))
    (hs : leaveA P a as h jump = some s') (hcs : as = [] → cs = cs0) : SimTo P B w0 cs0 s' c cs w := by
  have hm : c.mode = .run := by rw [hfb.mode, hret]; rfl
  unfold leaveA at hs
  split at hs
  · rename_i hrd
    have hro : c.roundOf = none := by
      have := hfb.round; rw [hrd] at this; generalize c.roundOf = x at this ⊢; cases this; rfl
    have fin : ∀ s', s' = { fr := { a with ret := true }, cs := as, h := h } → ((c.todo = [] ∧ jump = none) ∨ (c.todo = .code .ret :: k ∧ jump = some .ret)) → SimTo P B w0 cs0 s' c cs w := by
      intro s' hs' hj'
      subst hs'
      exact ⟨_, cs, w, .one (st_leave hm hro hj'), ρ, lo, hr, hg, hlo, ⟨hfb.fn, hfb.kind, rfl, hfb.round, hfb.defers⟩, .inl ⟨hi, ht⟩, hst⟩
    rcases hj with hj | hj | ⟨id, h1, h2, rfl⟩ | ⟨g, h1, h2, rfl⟩
    · obtain ⟨h1, rfl⟩ := hj
      cases hs
      exact fin _ rfl (.inl ⟨h1, rfl⟩)
    · obtain ⟨h1, rfl⟩ := hj
      cases hs
      exact fin _ rfl (.inr ⟨h1, rfl⟩)
    · cases hs
    · cases hs
  · rename_i b hrd
    have hro : ∃ cc z, c.roundOf = some cc ∧ ρ b = some (cc, z) := by
      have := hfb.round; rw [hrd] at this
      generalize hx : c.roundOf = x at this
      cases this with
      | yes e => exact ⟨_, _, rfl, e⟩
    obtain ⟨cc, z, hro, hρ⟩ := hro
    split at hs
    · rename_i v h1 he
      obtain ⟨v', w', hrun, hv, hr', hx⟩ := endRoundA_run (P := P) hr he hρ
      cases hst with
      | nil => cases hs
      | cons b1 b2 b3 b4 b5 =>
        rename_i lo1 a1 c1 as1 cs1
        dsimp only at hs
        split at hs
        · rename_i a1' hf
          cases hs
          have hxm := hx.toM hlo
          obtain ⟨f1, f2, f3⟩ := finish_run hf (b3.mono hx.up) b2 (b4.mono hxm) hv
          exact ⟨_, cs1, w', .one (st_leaveRound hm hro hfb.kind hj hrun), ρ, lo1, hr', hg, Nat.le_trans (Nat.le_trans b1 hlo) hx.nx, f1, f2, b5.mono (hxm.le b1)⟩
        · cases hs
    · cases hs

theorem enterLoopA_run {ρ : Rho} {h h' : Heap} {w : World} {a : AFr} {c : Frame} {ps : Array Tmp} {asg body : Code} {l : Key} {mark : List Key} (hr : HR B w0 ρ h w) (hfb : FB ρ a c) (ht : TR ρ a.n a.T c.tmps)
    (he : enterLoopA a ps.toList asg body h = some (l, mark, h')) :
    ∃ lc mark' w' ρ' z, (Instr.enterLoop c.fn c.tmps ps asg body c.roundOf).run P w = .ok (lc, mark') w' ∧ ρ' l = some (lc, z) ∧ DefsR ρ' mark mark' ∧ HR B w0 ρ' h' w' ∧ Ext ρ h ρ' h' := by
  unfold enterLoopA at he
  split at he
  · rename_i b hrd
    have hro : ∃ cc z, c.roundOf = some cc ∧ ρ b = some (cc, z) := by
      have := hfb.round; rw [hrd] at this
      generalize hx : c.roundOf = x at this
      cases this with
      | yes e => exact ⟨_, _, rfl, e⟩
    obtain ⟨cc, z, hro, hρ⟩ := hro
    split at he
    · rename_i st pd fn n T params asg' body' d hb
      cases he
      obtain ⟨oc, hw, ho, _⟩ := hr.obj _ _ _ _ hb hρ
      cases ho with
      | loop a1 a2 a3 =>
        rename_i tmps ps' dc dz
        have hn := (hr.fresh h.nx (Nat.le_refl _)).1
        have up := Rho.add_up hn (w.heap.size, 0)
        obtain ⟨h1, h2⟩ := hr.both (.loop .ready none a.fn a.n a.T ps.toList asg body d) (.loop { state := .ready, pending := none, fn := c.fn, tmps := c.tmps, params := ps, assign := asg, body, defers := dc }) 0
          (by rw [hfb.fn]; exact .loop (ht.mono up) rfl (up _ _ a3))
        refine ⟨_, [], _, _, 0, ?_, Rho.add_same _ _ _, .nil, h1, h2⟩
        rw [hro]
        simp [Instr.enterLoop, Instr.getLoop, getObj, Sem.run, hw, World.alloc_eq]
    · cases he
  · rename_i hrd
    have hro : c.roundOf = none := by
      have := hfb.round; rw [hrd] at this; generalize c.roundOf = x at this ⊢; cases this; rfl
    cases he
    have hn := (hr.fresh h.nx (Nat.le_refl _)).1
    have up := Rho.add_up hn (w.heap.size, 0)
    obtain ⟨h1, h2⟩ := hr.both (.defs true) (.deferred (some [])) 0 .defsOpen
    have hn2 := (h1.fresh (h.new (.defs true)).nx (Nat.le_refl _)).1
    have up2 := Rho.add_up hn2 ((w.alloc (.deferred (some []))).heap.size, 0)
    obtain ⟨h3, h4⟩ := h1.both (.loop .ready none a.fn a.n a.T ps.toList asg body h.nx) (.loop { state := .ready, pending := none, fn := c.fn, tmps := c.tmps, params := ps, assign := asg, body, defers := w.heap.size }) 0
      (by rw [hfb.fn]; exact .loop ((ht.mono up).mono up2) rfl (up2 _ _ (Rho.add_same _ _ _)))
    refine ⟨_, [{ target := .collected w.heap.size, args := #[] }], _, _, 0, ?_, Rho.add_same _ _ _, .cons (up2 _ _ (Rho.add_same _ _ _)) .nil, h3, h2.trans h4⟩
    rw [hro]
    simp [Instr.enterLoop, World.alloc_eq]
end
end Go.Ev
