/- The evaluator's machine and the model's: all steps; and calls. No condition. -/
import Derived.Test.YtgfjlegiofhboaaGreatDoorEvSim2
namespace Go.Ev
open Go.RowKit
set_option linter.unusedVariables false
set_option linter.unusedSimpArgs false
set_option autoImplicit false

section
variable {P : Program} {B : Nat} {w0 : World} {cs0 : List Frame}

/-- A frame whose head is no drawn region. -/
theorem ActB.plain {ρ : Rho} {h : Heap} {lo : Nat} {a : AFr} {c : Frame} (hb : ActB P ρ h lo a c) (hn : ∀ ops plan seen T0 k, a.todo ≠ .draw ops plan seen T0 :: k) : ItemsR ρ a.todo c.todo ∧ TR ρ a.n a.T c.tmps := by
  rcases hb with h1 | ⟨_, ops, plan, seen, T0, k, σ, k', nm, h1, _⟩
  · exact h1
  · exact absurd h1 (hn _ _ _ _ _)

theorem ItemsR.cons_inv {ρ : Rho} {x : AItem} {k : List AItem} {l : List Item} (h : ItemsR ρ (x :: k) l) : ∃ y k', l = y :: k' ∧ IR ρ x y ∧ ItemsR ρ k k' := by
  cases h with | cons a b => exact ⟨_, _, rfl, a, b⟩
theorem ItemsR.nil_inv {ρ : Rho} {l : List Item} (h : ItemsR ρ [] l) : l = [] := by cases h; rfl

/-- A step that turns only what the frame has to do. -/
theorem todo_step {ρ : Rho} {h : Heap} {w : World} {lo : Nat} {a : AFr} {c : Frame} {as : List AFr} {cs : List Frame} {t : List AItem} {t' : List Item}
    (hr : HR B w0 ρ h w) (hg : GR P ρ) (hlo : lo ≤ h.nx.toNat) (hfb : FB ρ a c) (hst : StackR P ρ h cs0 lo as cs) (ht : TR ρ a.n a.T c.tmps) (hi : ItemsR ρ t t')
    (hstep : step P (lone c cs w) = .next (lone { c with todo := t' } cs w)) : SimTo P B w0 cs0 { fr := { a with todo := t }, cs := as, h := h } c cs w :=
  ⟨_, cs, w, .one hstep, ρ, lo, hr, hg, hlo, ⟨hfb.fn, hfb.kind, hfb.mode, hfb.round, hfb.defers⟩, .inl ⟨hi, ht⟩, hst⟩

theorem eval_run {ρ : Rho} {T : Tr AV} {n : Nat} {tmps : Array Value} (hg : GR P ρ) (ht : TR ρ n T tmps) (x : Operand) : VR ρ (ev P T x) (evC tmps x) := evF_run hg ht.get x

theorem astep_run (hfol : P.follows .mixedOrders = true) {s s' : AM} {c : Frame} {cs : List Frame} {w : World} (hm : MR P B w0 cs0 s c cs w) (hs : astep P s = some s') : SimTo P B w0 cs0 s' c cs w := by
  obtain ⟨ρ, lo, hr, hg, hlo, hfb, hab, hst⟩ := hm
  obtain ⟨⟨fn, n, T, todo, defers, ret, round⟩, as, h⟩ := s
  dsimp only at hr hlo hfb hab hst
  unfold astep at hs
  dsimp only at hs
  by_cases hret : ret = true
  · -- the frame has come to its end
    subst hret
    rw [if_pos rfl] at hs
    have hmode : c.mode = .returning := hfb.mode
    have hpl : ItemsR ρ todo c.todo ∧ TR ρ n T c.tmps := by
      rcases hab with h1 | ⟨h1, _⟩
      · exact h1
      · cases h1
    have hdf := hfb.defers
    dsimp only at hdf
    split at hs
    · rename_i b ds
      generalize hcd : c.defers = cd at hdf
      cases hdf with
      | cons e1 e2 =>
        rename_i cc z k'
        split at hs
        · rename_i hb
          cases hs
          obtain ⟨oc, hw, ho, hB⟩ := hr.obj _ _ _ _ hb e1
          cases ho with
          | defsOpen =>
            have hup := hr.update (c := cc) (z := z) (o' := .defs false) hb e1 rfl (.deferred none) .defsShut rfl (w' := { w with heap := w.heap.setIfInBounds cc (.deferred none) }) rfl ⟨rfl, rfl, rfl, by simp, fun j hj => by
              have := hB rfl
              rw [Array.getElem?_setIfInBounds_ne (by omega)]⟩
            refine ⟨_, cs, _, .one (st_collected hmode hcd (calls := []) (w' := { w with heap := w.heap.setIfInBounds cc (.deferred none) }) ?_), ρ, lo, hup.1, hg, hlo, ⟨hfb.fn, hfb.kind, hfb.mode, hfb.round, e2⟩, .inl hpl, hst.mono (hup.2.toM hlo)⟩
            simp [Instr.takeDeferred, getObj, setObj, Sem.run, hw]
        · cases hs
    · have hcd : c.defers = [] := by
        generalize c.defers = cd at hdf
        cases hdf; rfl
      split at hs
      · rename_i a1 as1
        cases hst with
        | cons b1 b2 b3 b4 b5 =>
          rename_i lo1 c1 cs1
          split at hs
          · rename_i fnn hf
            split at hs
            · rename_i v hv
              split at hs
              · rename_i a1' hfin
                cases hs
                obtain ⟨u, hu1, hu2⟩ := resultsA_run (P := P) hv hr hpl.2
                obtain ⟨f1, f2, f3⟩ := finish_run hfin b3 b2 b4 hu2
                exact ⟨_, cs1, w, .one (st_return hmode hcd hfb.kind (by rw [hfb.fn]; exact hf) hu1), ρ, lo1, hr, hg, Nat.le_trans b1 hlo, f1, f2, b5⟩
              · cases hs
            · cases hs
          · cases hs
      · cases hs
  · rw [if_neg hret] at hs
    have hret' : ret = false := by simpa using hret
    subst hret'
    have hmode : c.mode = .run := hfb.mode
    split at hs
    · -- nothing left
      obtain ⟨h1, h2⟩ := hab.plain (fun _ _ _ _ _ e => by cases e)
      exact leaveA_run (k := []) hr hg hlo hfb rfl hst h1 h2 (.inl ⟨h1.nil_inv, rfl⟩) hs (fun e => by subst e; cases hst; rfl)
    · obtain ⟨h1, h2⟩ := hab.plain (fun _ _ _ _ _ e => by cases e)
      obtain ⟨y, k', hct, hy, hk⟩ := h1.cons_inv
      cases hy
      cases hs
      exact todo_step hr hg hlo hfb hst h2 hk (st_inBlock hmode hct)
    · obtain ⟨h1, h2⟩ := hab.plain (fun _ _ _ _ _ e => by cases e)
      obtain ⟨y, k', hct, hy, hk⟩ := h1.cons_inv
      cases hy
      cases hs
      exact todo_step hr hg hlo hfb hst h2 hk (st_inScope hmode hct)
    · obtain ⟨h1, h2⟩ := hab.plain (fun _ _ _ _ _ e => by cases e)
      obtain ⟨y, k', hct, hy, hk⟩ := h1.cons_inv
      cases hy
      cases hs
      exact todo_step hr hg hlo hfb hst h2 (.cons .code (.cons .inLoop hk)) (st_inLoop hmode hct)
    · obtain ⟨h1, h2⟩ := hab.plain (fun _ _ _ _ _ e => by cases e)
      obtain ⟨y, k', hct, hy, hk⟩ := h1.cons_inv
      cases hy
      cases hs
      exact todo_step hr hg hlo hfb hst h2 hk (st_regionEnd hmode hct)
    · -- an operation of a plain region
      rename_i ops i rest k
      obtain ⟨h1, h2⟩ := hab.plain (fun _ _ _ _ _ e => by cases e)
      have h1' := h1
      obtain ⟨y, k', hct, hy, hk⟩ := h1.cons_inv
      cases hy
      split at hs
      · rename_i o ho
        have hwr : Region.wanted o (yielded ops c.tmps) = wantedA ops o (ev P T) := wantedA_run (f := ev P T) h2.get
        split at hs
        · rename_i hw
          cases hev : evalOp P (ev P T) o h with
          | none => rw [hev] at hs; cases hs
          | some r =>
            rw [hev] at hs
            exact apply_run hr hg hlo hfb rfl hst hct ho (by rw [hwr]; exact hw) (notDefer_of_eval hev) (.inl ⟨h1', h2⟩) (evalOp_run (eval_run hg h2) hr hev) hs
        · rename_i hw
          split at hs
          · rename_i a' hf
            cases hs
            obtain ⟨f1, f2, f3⟩ := finish_run (lo := lo) (hi := lo) hf hfb rfl (.inl ⟨h1', h2⟩) VR.undef
            refine ⟨c.finish Go.undef, cs, w, .one ?_, ρ, lo, hr, hg, hlo, f1, f2, hst⟩
            rw [finish_region hct ho]
            exact st_opSkip hmode hct ho (by rw [hwr]; simpa using hw)
          · cases hs
      · cases hs
    · -- the end of a drawn region
      rename_i ops seen T0 k
      rcases hab with ⟨h1, h2⟩ | ⟨_, ops', plan', seen', T0', k2, σ, k', nm, e1, hct, hk, hd, hn⟩
      · obtain ⟨y, k', hct, hy, hk⟩ := h1.cons_inv
        cases hy
      · cases e1
        cases hs
        have hd' := hd
        obtain ⟨σ', tmps', w', ρ', hsteps, hr', hx, hd2, hend, _⟩ := catch_run (c := c) (cs := cs) (k' := k') hmode hlo σ c.tmps w ρ hr hg hd hn
        have hσ : σ' = [] := by
          rcases hend with h | ⟨i, σ2, _, h⟩
          · exact h
          · cases h
        subst hσ
        have hc : ({ c with tmps := c.tmps, todo := .inRegion ops σ :: k' } : Frame) = c := by rw [← hct]
        rw [hc] at hsteps
        refine ⟨_, cs, w', hsteps.trans (.one (st_regionEnd (fr := { c with tmps := tmps', todo := .inRegion ops [] :: k' }) hmode rfl)), ρ', lo, hr', hg.mono hx.up, hlo, ?_, .inl ⟨hk.mono hx.up, hd2.finish⟩, hst.mono hx⟩
        exact ⟨hfb.fn, hfb.kind, hfb.mode, hfb.round.mono hx.up, hfb.defers.mono hx.up⟩
    · -- an operation of a drawn region
      rename_i ops i plan seen T0 k
      rcases hab with ⟨h1, h2⟩ | ⟨_, ops', plan', seen', T0', k2, σ, k', nm, e1, hct, hk, hd, hn⟩
      · obtain ⟨y, k', hct, hy, hk⟩ := h1.cons_inv
        cases hy
      · cases e1
        split at hs
        · rename_i o ho
          split at hs
          · rename_i hw
            split at hs
            · -- a loud one
              rename_i hrk
              have hrk' := Nat.eq_of_beq_eq_true hrk
              cases hev : evalOp P (ev P T) o h with
              | none => rw [hev] at hs; cases hs
              | some r =>
                rw [hev] at hs
                obtain ⟨σ', tmps', w', ρ', hsteps, hr', hx, hd2, hend, hsub⟩ := catch_run (c := c) (cs := cs) (k' := k') hmode hlo σ c.tmps w ρ hr hg hd hn
                have hσ : ∃ σ2, σ' = i :: σ2 := by
                  rcases hend with h | ⟨j, σ2, h, hj⟩
                  · subst h; have := hd2.sub i List.mem_cons_self; cases this
                  · subst h
                    by_cases hji : j = i
                    · subst hji; exact ⟨σ2, rfl⟩
                    · exact absurd hj (ahead_of_loud hd2 ho hrk' hji)
                obtain ⟨σ2, rfl⟩ := hσ
                have hc : ({ c with tmps := c.tmps, todo := .inRegion ops σ :: k' } : Frame) = c := by rw [← hct]
                rw [hc] at hsteps
                have hlook := hd2.loud_looks ho
                have hg' := hg.mono hx.up
                have hev' : evalOp P (evF P (curT ops (i :: σ2) T0 T)) o h = some r := by
                  rw [← hev]; exact (evalOp_looks hlook).symm
                have hw' : wantedA ops o (evF P (curT ops (i :: σ2) T0 T)) = true := by
                  rw [← hw]; exact (wantedA_looks hlook).symm
                have hwr : Region.wanted o (yielded ops tmps') = wantedA ops o (evF P (curT ops (i :: σ2) T0 T)) := wantedA_run (f := evF P (curT ops (i :: σ2) T0 T)) hd2.tm
                have hop := evalOp_run (P := P) (ec := evC tmps') (evF_run hg' hd2.tm) hr' hev'
                obtain ⟨fr', cs', w2, hs2, hmr⟩ := apply_run (c := { c with tmps := tmps', todo := .inRegion ops (i :: σ2) :: k' }) hr' hg' hlo
                  ⟨hfb.fn, hfb.kind, hfb.mode, hfb.round.mono hx.up, hfb.defers.mono hx.up⟩ rfl (hst.mono hx) rfl ho (by rw [hwr]; exact hw') (notDefer_of_eval hev)
                  (.inr ⟨ops, i, plan, seen, T0, k, σ2, k', nm, rfl, rfl, hk.mono hx.up, hd2, fun q hq hn1 hm1 => hn q (hsub q hq) hn1 hm1⟩) hop hs
                exact ⟨fr', cs', w2, hsteps.trans hs2, hmr⟩
            · -- a quiet one
              rename_i hrk
              have hrk' : rank o.op ≠ 2 := fun e => hrk (by rw [e]; rfl)
              split at hs
              · rename_i v h' hev
                split at hs
                · rename_i T' hT'
                  cases hs
                  obtain ⟨hr', hx, nm', hd', hnm⟩ := hd.quiet hr ho hT' (.inr ⟨hw, hrk', hev⟩) (seen' := if (Nat.beq (rank o.op) 1 && !makes o.op) = true then i :: seen else seen)
                    (fun x hx => by split
                                    · exact List.mem_cons_of_mem _ hx
                                    · exact hx) (fun _ h1 h2 => by rw [h1, h2]; exact List.mem_cons_self)
                  refine ⟨c, cs, w, .refl _ _, ρ, lo, hr', hg, Nat.le_trans hlo hx.nx, ⟨hfb.fn, hfb.kind, hfb.mode, hfb.round, hfb.defers⟩, .inr ⟨rfl, ops, plan, _, T0, k, σ, k', nm', rfl, hct, hk, hd', fun q hq hnq hmq => ?_⟩, hst.mono (hx.toM hlo)⟩
                  rcases hnm q hq hnq hmq with h1 | ⟨h1, h2, h3⟩
                  · rw [h1]; exact hlo
                  · rw [h3]; exact hn q hq h1 h2
                · cases hs
              · cases hs
          · -- one that is left out
            rename_i hw
            have hw' : wantedA ops o (ev P T) = false := by simpa using hw
            split at hs
            · rename_i T' hT'
              cases hs
              obtain ⟨hr', hx, nm', hd', hnm⟩ := hd.quiet hr ho hT' (.inl ⟨hw', rfl, rfl⟩) (seen' := seen) (fun x hx => hx) (fun h1 => by rw [hw'] at h1; cases h1)
              refine ⟨c, cs, w, .refl _ _, ρ, lo, hr', hg, hlo, ⟨hfb.fn, hfb.kind, hfb.mode, hfb.round, hfb.defers⟩, .inr ⟨rfl, ops, plan, _, T0, k, σ, k', nm', rfl, hct, hk, hd', fun q hq hnq hmq => ?_⟩, hst⟩
              rcases hnm q hq hnq hmq with h1 | ⟨h1, h2, h3⟩
              · rw [h1]; exact hlo
              · rw [h3]; exact hn q hq h1 h2
            · cases hs
        · cases hs
    · cases hs
    · -- behind a range over a function
      rename_i b k
      obtain ⟨h1, h2⟩ := hab.plain (fun _ _ _ _ _ e => by cases e)
      obtain ⟨y, k', hct, hy, hk⟩ := h1.cons_inv
      cases hy with
      | endRF e =>
        rename_i cc z
        split at hs
        · rename_i st pd fn' n' T' params asg body d hb
          obtain ⟨L, g1, g2, g3, g4⟩ := loop_set (P := P) hr hb e
          obtain ⟨q1, q2, q3⟩ := g4 .exhausted pd
          have hne : st ≠ .busy := by rintro rfl; cases hs
          have hrun : (Instr.endLoop cc).run P w = .ok pd { w with heap := w.heap.setIfInBounds cc (.loop { L with state := .exhausted, pending := pd }) } := by
            have : ({ L with state := .exhausted } : Loop) = { L with state := .exhausted, pending := pd } := by rw [← g3]
            have hnb : (L.state == LoopState.busy) = false := by rw [g2]; cases st <;> first | rfl | exact absurd rfl hne
            simp only [Instr.endLoop, Sem.run_bind, g1, Result.andThen_ok, hnb, Bool.false_eq_true, if_false, this, q1, Sem.run_pure, g3]
          have hs' : s' = { fr := ⟨fn, n, T, jumpItems pd k, defers, false, round⟩, cs := as, h := h.set b (.loop .exhausted pd fn' n' T' params asg body d) } := by
            cases st <;> first | exact absurd rfl hne | (cases hs; rfl)
          subst hs'
          refine ⟨_, cs, _, .one (st_endRange hmode hct hrun), ρ, lo, q2, hg, hlo, ⟨hfb.fn, hfb.kind, hfb.mode, hfb.round, hfb.defers⟩, .inl ⟨?_, h2⟩, hst.mono (q3.toM hlo)⟩
          cases pd with
          | none => exact hk
          | some p => exact .cons .code hk
        · cases hs
    · -- a round's beginning
      rename_i k
      obtain ⟨h1, h2⟩ := hab.plain (fun _ _ _ _ _ e => by cases e)
      obtain ⟨y, k', hct, hy, hk⟩ := h1.cons_inv
      cases hy
      split at hs
      · rename_i b
        have hro : ∃ cc z, c.roundOf = some cc ∧ ρ b = some (cc, z) := by
          have := hfb.round
          dsimp only at this
          generalize hx : c.roundOf = x at this
          cases this with
          | yes e => exact ⟨_, _, rfl, e⟩
        obtain ⟨cc, z, hro, e⟩ := hro
        split at hs
        · rename_i pd fn' n' T' params asg body d hb
          cases hs
          obtain ⟨L, g1, g2, g3, g4⟩ := loop_set (P := P) hr hb e
          obtain ⟨q1, q2, q3⟩ := g4 .busy pd
          have hrun : (Instr.beginRound cc).run P w = .ok () { w with heap := w.heap.setIfInBounds cc (.loop { L with state := .busy, pending := pd }) } := by
            have : ({ L with state := .busy } : Loop) = { L with state := .busy, pending := pd } := by rw [← g3]
            simp only [Instr.beginRound, Sem.run_bind, g1, Result.andThen_ok, this, q1, g2, Sem.run_pure]
          exact ⟨_, cs, _, .one (st_beginRound hmode hct hro hrun), ρ, lo, q2, hg, hlo, ⟨hfb.fn, hfb.kind, hfb.mode, hfb.round, hfb.defers⟩, .inl ⟨hk, h2⟩, hst.mono (q3.toM hlo)⟩
        · cases hs
      · cases hs
    · -- code
      rename_i cd k
      obtain ⟨h1, h2⟩ := hab.plain (fun _ _ _ _ _ e => by cases e)
      have h1' := h1
      obtain ⟨y, k', hct, hy, hk⟩ := h1.cons_inv
      cases hy
      have hcs : as = [] → cs = cs0 := fun e => by subst e; cases hst; rfl
      split at hs
      · cases hs; exact todo_step hr hg hlo hfb hst h2 hk (st_skip hmode hct)
      · cases hs; exact todo_step hr hg hlo hfb hst h2 hk (st_label hmode hct)
      · cases hs; exact todo_step hr hg hlo hfb hst h2 (.cons .code (.cons .code hk)) (st_seq hmode hct)
      · rename_i x p q
        split at hs
        · rename_i t ht
          cases hs
          have hx := eval_run hg h2 x
          rw [ht] at hx
          have hx' : c.eval x = .bool t := by rw [eval_evC]; exact hx.lit_eq
          exact todo_step hr hg hlo hfb hst h2 (.cons .code hk) (st_cond hmode hct hx')
        · cases hs
      · cases hs; exact todo_step hr hg hlo hfb hst h2 (.cons .code (.cons .inBlock hk)) (st_block hmode hct)
      · cases hs; exact todo_step hr hg hlo hfb hst h2 (.cons .code (.cons .inLoop hk)) (st_loop hmode hct)
      · cases hs; exact todo_step hr hg hlo hfb hst h2 (.cons .code (.cons .inScope hk)) (st_scope hmode hct)
      · rename_i id
        obtain ⟨e1, e2⟩ := hk.exit (id := id)
        split at hs
        · rename_i k2 hk2
          cases hs
          obtain ⟨r', f1, f2⟩ := e1 _ hk2
          exact todo_step hr hg hlo hfb hst h2 f2 (st_exit hmode hct f1)
        · rename_i hk2
          exact leaveA_run hr hg hlo hfb rfl hst h1' h2 (.inr (.inr (.inl ⟨id, hct, e2 hk2, rfl⟩))) hs hcs
      · rename_i l
        obtain ⟨e1, e2⟩ := hk.goto (l := l)
        split at hs
        · rename_i k2 hk2
          cases hs
          obtain ⟨r', f1, f2⟩ := e1 _ hk2
          exact todo_step hr hg hlo hfb hst h2 f2 (st_goto hmode hct f1)
        · rename_i hk2
          exact leaveA_run hr hg hlo hfb rfl hst h1' h2 (.inr (.inr (.inr ⟨l, hct, e2 hk2, rfl⟩))) hs hcs
      · exact leaveA_run hr hg hlo hfb rfl hst h1' h2 (.inr (.inl ⟨hct, rfl⟩)) hs hcs
      · cases hs; exact todo_step hr hg hlo hfb hst h2 (.cons .inReg hk) (st_region hmode hct)
      · -- a drawn region begins
        rename_i id ops
        split at hs
        · rename_i plan hp
          cases hs
          refine ⟨_, cs, drewW w, .one (st_draw hmode hct), ρ, lo, hr.drew, hg, hlo, ⟨hfb.fn, hfb.kind, hfb.mode, hfb.round, hfb.defers⟩, .inr ⟨rfl, ops, plan, [], T, k, _, k', fun _ => h.nx, rfl, rfl, hk, by rw [hfol]; exact DR.start hp h2 _ _, fun q hq hn _ => ?_⟩, hst⟩
          rw [hfol] at hq
          have hok := planOf_some hp
          exact absurd (mem_of_full hok.len hok.lt hok.nodup q ((lin_schedule hok _).1.lt q hq)) hn
        · cases hs
      · -- a range over a function begins
        rename_i f ps asg body
        split at hs
        · rename_i l mark h' hel
          obtain ⟨lc, mark', w1, ρ1, z, hrun, hl, hdm, hr1, hx1⟩ := enterLoopA_run (P := P) hr hfb h2 hel
          split at hs
          · rename_i g args hcal
            have hfv := (eval_run hg h2 f).mono hx1.up
            have hop := callA_run (P := P) (B := B) (w0 := w0) (h := h') (w := w1) hcal hfv (as := #[.func (.yield lc) #[] #[]]) (.cons (.yld hl) .nil)
            obtain ⟨args', hres, ha⟩ := hop
            unfold applyA at hs
            dsimp only at hs
            split at hs
            · rename_i gf hgf
              cases hs
              obtain ⟨f1, f2⟩ := enterFr_run (P := P) (h := h') (lo := h'.nx.toNat) hgf ha
              have hxm := hx1.toM hlo
              refine ⟨_, _, w1, .one (st_rangeFunc hmode hct hrun (by rw [eval_evC]; exact hres)), ρ1, h'.nx.toNat, hr1, hg.mono hx1.up, Nat.le_refl _, f1, f2, .cons (Nat.le_trans hlo hx1.nx) rfl ⟨hfb.fn, hfb.kind, hfb.mode, hfb.round.mono hx1.up, ?_⟩ (.inl ⟨.cons (.inRF hl) (hk.mono hx1.up), h2.mono hx1.up⟩) (hst.mono hxm)⟩
              have happ : ∀ {a : List Key} {a' : List Deferred} {b : List Key} {b' : List Deferred}, DefsR ρ1 a a' → DefsR ρ1 b b' → DefsR ρ1 (a ++ b) (a' ++ b') := by
                intro a a' b b' ha hb
                induction ha with
                | nil => exact hb
                | cons x _ ih => exact .cons x ih
              exact happ hdm (hfb.defers.mono hx1.up)
            · cases hs
          · cases hs
        · cases hs
      · cases hs

/-- Many steps. -/
theorem arun_run (hfol : P.follows .mixedOrders = true) : ∀ (n : Nat) {s s' : AM} {c : Frame} {cs : List Frame} {w : World}, MR P B w0 cs0 s c cs w → arun P n s = some s' → SimTo P B w0 cs0 s' c cs w
  | 0, s, s', c, cs, w, hm, hs => by cases hs; exact ⟨c, cs, w, .refl _ _, hm⟩
  | n + 1, s, s', c, cs, w, hm, hs => by
    have hs' : (@Option.casesOn AM (fun _ => Option AM) (astep P s) none (arun P n)) = some s' := hs
    cases ha : astep P s with
    | none => rw [ha] at hs'; cases hs'
    | some s1 =>
      rw [ha] at hs'
      obtain ⟨c1, cs1, w1, h1, h2⟩ := astep_run hfol hm ha
      obtain ⟨c2, cs2, w2, h3, h4⟩ := arun_run hfol n h2 hs'
      exact ⟨c2, cs2, w2, h1.trans h3, h4⟩
end

/-- A call that the evaluator has gone through. -/
theorem calls_of_run {P : Program} {f : FuncId} {args : List AV} {args' : Array Value} {h : Heap} {ρ : Rho} {w : World} {B : Nat} {n : Nat} {a : AFr} {e : AM} {v : AV}
    (hfol : P.follows .mixedOrders = true) (hr : HR B w ρ h w) (hg : GR P ρ) (ha : VsR ρ args args'.toList) (hst : enterFr P f args = some a) (hrun : arun P n { fr := a, cs := [], h := h } = some e)
    (hcs : e.cs = []) (hret : e.fr.ret = true) (hdef : e.fr.defers = []) (hfn : e.fr.fn = f) (hv : ∃ fn, P.funcs[f]? = some fn ∧ resultsA P fn e.fr.T e.h = some v) :
    Calls P f args' w fun r w' => ∃ ρ' u, r = .returned u ∧ VR ρ' v u ∧ HR B w ρ' e.h w' := by
  intro cs
  obtain ⟨f1, f2⟩ := enterFr_run (P := P) (h := h) (lo := h.nx.toNat) hst ha
  obtain ⟨fr', cs', w', hs, ρ', lo', hr', hg', hlo', hfb, hab, hst'⟩ := arun_run (cs0 := cs) hfol n (s := { fr := a, cs := [], h := h }) ⟨ρ, h.nx.toNat, hr, hg, Nat.le_refl _, f1, f2, .nil⟩ hrun
  obtain ⟨fn, hf, hres⟩ := hv
  have hcs' : cs' = cs := by
    rw [hcs] at hst'
    cases hst'; rfl
  subst hcs'
  have hpl : TR ρ' e.fr.n e.fr.T fr'.tmps := by
    rcases hab with ⟨_, h2⟩ | ⟨h1, _⟩
    · exact h2
    · rw [hret] at h1; cases h1
  obtain ⟨u, hu1, hu2⟩ := resultsA_run (P := P) hres hr' hpl
  have hmode := hfb.mode
  rw [hret, if_pos rfl] at hmode
  have hd : fr'.defers = [] := by
    have h1 := hfb.defers
    rw [hdef] at h1
    generalize fr'.defers = d at h1 ⊢
    cases h1; rfl
  refine ⟨.returned u, w', fr', ⟨ρ', u, rfl, hu2, hr'⟩, hs, by rw [hfb.fn, hfn], hmode, hd, hfb.kind, fn, ?_, hu1⟩
  rw [hfb.fn, hfn]; exact hf
end Go.Ev
