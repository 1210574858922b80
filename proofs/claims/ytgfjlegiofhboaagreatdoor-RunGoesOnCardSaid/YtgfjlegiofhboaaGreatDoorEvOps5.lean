/- What append, copy and calls of the evaluator come to; and all operations in one. No condition. -/
import Derived.Test.YtgfjlegiofhboaaGreatDoorEvOps4
namespace Go.Ev
open Go.RowKit
set_option linter.unusedVariables false
set_option linter.unusedSimpArgs false
set_option autoImplicit false

section
variable {P : Program} {B : Nat} {w0 : World} {ρ : Rho} {h : Heap} {w : World}

theorem lenA_run {x : AV} {n : Nat} (hl : lenA x = some n) {x' : Value} (hx : VR ρ x x') : (Builtin.lenOf x').run P w = .ok n w := by
  unfold lenA at hl
  split at hl
  · cases hl; obtain ⟨_, _, _, _, _, _, _, _, _, rfl⟩ := hx.slc_inv; rfl
  · cases hl; obtain rfl := hx.lit_eq; rfl
  · cases hl; obtain rfl := hx.lit_eq; rfl
  · cases hl

theorem rowA_run {size n : Nat} {x : AV} {l : List AV} (hl : rowA size n x h = some l) (hr : HR B w0 ρ h w) {x' : Value} (hx : VR ρ x x') :
    ∃ m : List Value, VsR ρ l m ∧ (Builtin.firstCells size n x').run P w = .ok m.toArray w := by
  unfold rowA at hl
  split at hl
  · rename_i b off len cap esz
    obtain ⟨c, z, off', cap', hρ, h1, h2, h3, h4, rfl⟩ := hx.slc_inv
    split at hl
    · rename_i hc
      simp only [Bool.and_eq_true] at hc
      have hn := Nat.le_of_ble_eq_true hc.1
      split at hl
      · rename_i cs ro hb
        by_cases h0 : n * size = 0
        · rw [h0] at hl
          obtain ⟨_, rfl, _⟩ := subL_some hl
          exact ⟨[], by simp; exact .nil, by simp [Builtin.firstCells, h0, loadCells, loadCellsFrom]⟩
        · have : off' = off := h1 (by
            have : 0 < n := by
              rcases Nat.eq_zero_or_pos n with e | e
              · subst e; simp at h0
              · exact e
            simp [anch]; left; omega)
          subst this
          obtain ⟨m, hm, hrun⟩ := rows_run (P := P) hr hρ hb hl
          exact ⟨m, hm, by simp [Builtin.firstCells, hrun]⟩
      · cases hl
    · cases hl
  · split at hl
    · rename_i hc
      cases hl
      obtain rfl := hx.lit_eq
      exact ⟨[], .nil, rfl⟩
    · cases hl
  · cases hl

theorem growBy_le (newLen : Nat) : ∀ (r c : Nat), Builtin.growBy newLen r c ≤ max c (newLen + (newLen + 768) / 4)
  | 0, c => by simp [Builtin.growBy]; omega
  | r + 1, c => by
    unfold Builtin.growBy
    split
    · omega
    · have := growBy_le newLen r (c + (c + 768) / 4)
      omega

theorem cap_le (need old : Nat) (h : old < need) : Builtin.nextslicecap need old ≤ 2 * need + 192 := by
  unfold Builtin.nextslicecap
  split
  · omega
  · split
    · omega
    · have := growBy_le need 4 old
      omega

/-- How an append stands: the types, the row that comes. -/
structure AppCtx (P : Program) (ts : Array TypeId) (w : World) (i : TypeInfo) (elem n : Nat) (x' : Value) (m : List Value) (z : Value) : Prop where
  t : ∃ t xt e, ts[0]? = some t ∧ ts[1]? = some xt ∧ P.underlying t = some (.slice elem) ∧ P.underlying xt = some (.slice e)
  inf : P.info? elem = some i
  n : (Builtin.lenOf x').run P w = .ok n w
  z : i.zero = some z

theorem append_fit {ts : Array TypeId} {ty : TypeId} {i : TypeInfo} {elem n : Nat} {x' : Value} {m : List Value} {z : Value} (hc : AppCtx P ts w i elem n x' m z)
    (hm : (Builtin.firstCells i.size n x').run P w = .ok m.toArray w) {base : Option Addr} {sLen sCap : Nat} (hfit : sLen + n ≤ sCap) :
    (Builtin.append_ ts ty #[.slice base sLen sCap, x']).run P w =
      ((match base with
        | some a => storeCells (a.add (sLen * i.size)) m
        | none => pure () : Sem Unit).run P w).andThen fun _ w' => .ok (.slice base (sLen + n) sCap) w' := by
  obtain ⟨t, xt, e, ht, hxt, hu, hux⟩ := hc.t
  simp only [Builtin.append_, ht, hxt]
  cases base with
  | none => simp [run_underlying hu, run_underlying hux, sizeP_run (show sizeP P elem = some i.size by simp [sizeP, hc.inf]), hc.n, hfit, hm]
  | some a => simp [run_underlying hu, run_underlying hux, sizeP_run (show sizeP P elem = some i.size by simp [sizeP, hc.inf]), hc.n, hfit, hm]

theorem zeroCells_size (z : Array Value) (n : Nat) : (Builtin.zeroCells z n).size = n * z.size := by simp [Builtin.zeroCells]

/-- The world behind a draw. -/
def drewW (w : World) : World := { w with drawn := w.drawn + 1 }

theorem HR.drew (hr : HR B w0 ρ h w) : HR B w0 ρ h (drewW w) :=
  ⟨hr.obj, hr.inj, hr.bnd, hr.fresh, ⟨hr.below.os, hr.below.tape, hr.below.output, hr.below.size, hr.below.block⟩, hr.room⟩

theorem append_grow {ts : Array TypeId} {ty : TypeId} {i : TypeInfo} {elem n : Nat} {x' : Value} {m mo : List Value} {z : Value} (hc : AppCtx P ts w i elem n x' m z)
    (hm : ∀ w' : World, w'.heap = w.heap → (Builtin.firstCells i.size n x').run P w' = .ok m.toArray w') {base : Option Addr} {sLen sCap : Nat} (hfit : sCap < sLen + n)
    (ho : ∀ w' : World, w'.heap = w.heap → (Builtin.firstCells i.size sLen (.slice base sLen sCap)).run P w' = .ok mo.toArray w')
    (h1 : (sLen + n) * i.bytes ≤ 16777216) (h2 : sLen + n ≤ 16777216) :
    ∃ newCap, sLen + n ≤ newCap ∧ (Builtin.append_ ts ty #[.slice base sLen sCap, x']).run P w =
      .ok (.slice (some ⟨(drewW w).heap.size, 0, none⟩) (sLen + n) newCap) ((drewW w).alloc (.cells (mo.toArray ++ m.toArray ++ Builtin.zeroCells z.cells (newCap - (sLen + n))) elem)) := by
  obtain ⟨t, xt, e, ht, hxt, hu, hux⟩ := hc.t
  have hbig : ¬ (Builtin.nextslicecap (sLen + n) sCap * i.bytes > 2 ^ 48) := by
    have hl := cap_le (sLen + n) sCap hfit
    have hb : i.bytes ≤ 16777216 := by
      rcases Nat.eq_zero_or_pos i.bytes with e | e
      · omega
      · have : 1 * i.bytes ≤ (sLen + n) * i.bytes := Nat.mul_le_mul_right _ (by omega)
        omega
    have h3 : Builtin.nextslicecap (sLen + n) sCap * i.bytes ≤ (2 * (sLen + n) + 192) * i.bytes := Nat.mul_le_mul_right _ hl
    have h4 : (2 * (sLen + n) + 192) * i.bytes = 2 * ((sLen + n) * i.bytes) + 192 * i.bytes := by rw [Nat.add_mul, Nat.mul_assoc]
    omega
  have hmax : ¬ (((sLen + n : Nat) : Int) > IntKind.i64.max ∧ (False ∨ i.bytes = 0)) := by
    rw [IntKind.max_i64]; omega
  refine ⟨(Question.appendCap (sLen + n) sCap elem).cut (w.tape w.drawn (.appendCap (sLen + n) sCap elem)), by simp [Question.cut], ?_⟩
  have hzv : ∀ w' : World, (zeroValue elem).run P w' = .ok z w' := fun w' => zeroP_run (by simp [zeroP, hc.inf, hc.z])
  have hszv := sizeP_run (w := w) (show sizeP P elem = some i.size by simp [sizeP, hc.inf])
  simp only [Builtin.append_, ht, hxt]
  simp only [List.getElem?_toArray, List.getElem?_cons_zero, List.getElem?_cons_succ, Sem.run_bind, run_underlying hu, run_underlying hux, Result.andThen_ok, hszv, hc.n, Sem.run_pure, Sem.run_ite, Bool.false_eq_true, if_false,
    run_typeInfoE hc.inf, if_neg (Nat.not_le.2 hfit), run_askRoom]
  rw [if_neg hmax, if_neg hbig]
  simp only [Sem.run_bind, run_choose, Question.forced, Bool.false_eq_true, if_false, Result.andThen_ok, run_typeInfoE hc.inf, run_askRoom]
  have ho' := ho (drewW w) rfl
  have hm' := hm (drewW w) rfl
  unfold drewW at ho' hm'
  simp only [ho', hm', Result.andThen_ok, Bool.not_false, if_true, hzv, newRow, Sem.run_bind, run_newObj, Sem.run_pure]
  rfl

theorem HR.del (hr : HR B w0 ρ h w) {b : Key} {x : Nat × Nat} (hb : ρ b = some x) : HR B w0 ρ (h.del b) w ∧ Ext ρ h ρ (h.del b) := by
  have hg : ∀ {j : Key} {o : AObj}, (h.del b).get j = some o → h.get j = some o := by
    intro j o hj
    by_cases e : j = b
    · subst e; rw [Heap.get_del_same] at hj; cases hj
    · rw [Heap.get_del_ne _ e] at hj; exact hj
  have hn : ∀ {j : Key}, (h.del b).get j ≠ none → h.get j ≠ none := by
    intro j hj
    by_cases e : j = b
    · subst e; exact absurd (Heap.get_del_same _ _) hj
    · rw [Heap.get_del_ne _ e] at hj; exact hj
  refine ⟨⟨fun j o c z hj hρ => hr.obj j o c z (hg hj) hρ, fun j j' c z z' h1 h2 h3 h4 => hr.inj j j' c z z' h1 h2 (hn h3) (hn h4), hr.bnd, fun j hj => ?_, hr.below, hr.room⟩,
    ⟨fun _ _ h => h, fun j hj hl => ⟨hj, Heap.get_del_ne _ (fun e => by subst e; rw [hb] at hj; cases hj)⟩, Nat.le_refl _⟩⟩
  obtain ⟨h1, h2⟩ := hr.fresh j hj
  refine ⟨h1, ?_⟩
  by_cases e : j = b
  · subst e; exact Heap.get_del_same _ _
  · rw [Heap.get_del_ne _ e]; exact h2

/-- A row gets another name, and is written. -/
theorem HR.move {b : Key} {o o' : AObj} {c z : Nat} (hr : HR B w0 ρ h w) (hb : h.get b = some o) (hρ : ρ b = some (c, z)) (hro : o.ro = false)
    (oc' : Obj) (ho : OR (ρ.add h.nx (c, z)) z o' oc') (hro' : o'.ro = false) {w' : World} (hw : w'.heap = w.heap.setIfInBounds c oc') (hbe : Below B w w') :
    HR B w0 (ρ.add h.nx (c, z)) ((h.new o').del b) w' ∧ Ext ρ h (ρ.add h.nx (c, z)) ((h.new o').del b) := by
  obtain ⟨oc, hoc, _, hB⟩ := hr.obj b o c z hb hρ
  have hc := hr.bnd _ _ _ hρ
  have hn := (hr.fresh h.nx (Nat.le_refl _)).1
  have hbn : b ≠ h.nx := fun e => by rw [e, hn] at hρ; cases hρ
  have hnx : ((h.new o').del b).nx.toNat = h.nx.toNat + 1 := nx_new h o'
  have hsame : ((h.new o').del b).get h.nx = some o' := by rw [Heap.get_del_ne _ (fun e => hbn e.symm)]; exact Heap.get_new_same _ _
  have hother : ∀ {j : Key}, j ≠ b → j ≠ h.nx → ((h.new o').del b).get j = h.get j := by
    intro j h1 h2; rw [Heap.get_del_ne _ h1, Heap.get_new_ne _ _ h2]
  have hdel : ((h.new o').del b).get b = none := Heap.get_del_same _ _
  refine ⟨⟨?_, ?_, ?_, ?_, hr.below.trans hbe, by rw [hw]; simpa using hr.room⟩, ⟨Rho.add_up hn _, fun j hj hl => ?_, by omega⟩⟩
  · intro j oj c' zz hj hρj
    by_cases e : j = h.nx
    · subst e
      rw [hsame] at hj; cases hj
      rw [Rho.add_same] at hρj; cases hρj
      exact ⟨oc', by rw [hw]; simp [hc], ho, fun _ => hB hro⟩
    · have e2 : j ≠ b := fun e2 => by subst e2; rw [hdel] at hj; cases hj
      rw [hother e2 e] at hj
      rw [Rho.add_ne _ _ e] at hρj
      obtain ⟨o2, h1, h2, h3⟩ := hr.obj j oj c' zz hj hρj
      refine ⟨o2, ?_, h2.mono (Rho.add_up hn _), h3⟩
      rw [hw, Array.getElem?_setIfInBounds_ne]
      · exact h1
      · intro ec; subst ec
        exact e2 (hr.inj _ _ _ _ _ hρj hρ (by rw [hj]; simp) (by rw [hb]; simp))
  · intro j j' c' zz zz' hj hj' hg hg'
    have e2 : j ≠ b := fun e2 => by subst e2; exact hg hdel
    have e2' : j' ≠ b := fun e2 => by subst e2; exact hg' hdel
    by_cases e : j = h.nx
    · by_cases e' : j' = h.nx
      · rw [e, e']
      · subst e
        rw [Rho.add_same] at hj; cases hj
        rw [Rho.add_ne _ _ e'] at hj'
        rw [hother e2' e'] at hg'
        exact absurd (hr.inj _ _ _ _ _ hj' hρ hg' (by rw [hb]; simp)) e2'
    · by_cases e' : j' = h.nx
      · subst e'
        rw [Rho.add_same] at hj'; cases hj'
        rw [Rho.add_ne _ _ e] at hj
        rw [hother e2 e] at hg
        exact absurd (hr.inj _ _ _ _ _ hj hρ hg (by rw [hb]; simp)) e2
      · rw [Rho.add_ne _ _ e] at hj
        rw [Rho.add_ne _ _ e'] at hj'
        rw [hother e2 e] at hg
        rw [hother e2' e'] at hg'
        exact hr.inj _ _ _ _ _ hj hj' hg hg'
  · intro j c' zz hj
    rw [hw]
    by_cases e : j = h.nx
    · subst e; rw [Rho.add_same] at hj; cases hj; simpa using hc
    · rw [Rho.add_ne _ _ e] at hj; simpa using hr.bnd _ _ _ hj
  · intro j hj
    have e : j ≠ h.nx := fun e => by subst e; omega
    obtain ⟨h1, h2⟩ := hr.fresh j (by omega)
    refine ⟨by rw [Rho.add_ne _ _ e]; exact h1, ?_⟩
    rw [hother (fun e2 => by subst e2; rw [h1] at hρ; cases hρ) e]; exact h2
  · have e : j ≠ h.nx := fun e => by subst e; omega
    have e2 : j ≠ b := fun e2 => by subst e2; rw [hρ] at hj; cases hj
    exact ⟨by rw [Rho.add_ne _ _ e]; exact hj, hother e2 e⟩

theorem rowA_length {size n : Nat} {x : AV} {l : List AV} (hl : rowA size n x h = some l) : l.length = n * size := by
  unfold rowA at hl
  split at hl
  · split at hl
    · split at hl
      · exact (subL_some hl).2.2
      · cases hl
    · cases hl
  · split at hl
    · rename_i hc; cases hl; have := Nat.eq_of_beq_eq_true hc; subst this; simp
    · cases hl
  · cases hl

theorem HR.heapEq (hr : HR B w0 ρ h w) {w' : World} (hw : w'.heap = w.heap) (h1 : w'.os = w.os) (h2 : w'.tape = w.tape) (h3 : w'.output = w.output) : HR B w0 ρ h w' := by
  refine ⟨fun b o c z a b' => ?_, hr.inj, fun b c z a => by rw [hw]; exact hr.bnd _ _ _ a, hr.fresh, ⟨by rw [h1]; exact hr.below.os, by rw [h2]; exact hr.below.tape, by rw [h3]; exact hr.below.output, by rw [hw]; exact hr.below.size, fun k hk => by rw [hw]; exact hr.below.block k hk⟩, by rw [hw]; exact hr.room⟩
  rw [hw]; exact hr.obj _ _ _ _ a b'

theorem rows_heap {b : Key} {cs l : List AV} {ro : Bool} {off n : Nat} (hr : HR B w0 ρ h w) {c z : Nat} (hρ : ρ b = some (c, z)) (hb : h.get b = some (.cells cs ro))
    (hs : subL off n cs = some l) : ∃ m : List Value, VsR ρ l m ∧ ∀ w' : World, w'.heap = w.heap → (loadCells ⟨c, off, none⟩ n).run P w' = .ok m.toArray w' := by
  obtain ⟨oc, hw, ho, _⟩ := hr.obj _ _ _ _ hb hρ
  cases ho with
  | cells h1 h2 h3 h4 =>
    rename_i arr e fz
    obtain ⟨hlen, rfl, hl⟩ := subL_some hs
    refine ⟨(arr.toList.drop off).take n, ?_, fun w' hw' => ?_⟩
    · refine VsR.of_get ?_ ?_
      · simp at hl ⊢; omega
      · intro i v u hv hu
        obtain ⟨hi, hv'⟩ := subL_get hs i v hv
        rw [List.getElem?_take, if_pos hi, List.getElem?_drop] at hu
        obtain ⟨u', hu', hvu⟩ := h3 _ _ hv'
        have : arr[off + i]? = some u := by simpa using hu
        rw [hu'] at this; cases this; exact hvu
    · have hlen' : ((arr.toList.drop off).take n).length = n := by simp at hl ⊢; omega
      have := run_loadCells_list (P := P) w' ⟨c, off, none⟩ ((arr.toList.drop off).take n) (fun j v hj => by
        rw [List.getElem?_take] at hj
        split at hj
        · rw [List.getElem?_drop] at hj
          rw [Addr.add_none]
          exact cell_of (by rw [hw']; exact hw) (by simpa using hj)
        · cases hj)
      rw [hlen'] at this
      exact this

theorem rowA_heap {size n : Nat} {x : AV} {l : List AV} (hl : rowA size n x h = some l) (hr : HR B w0 ρ h w) {x' : Value} (hx : VR ρ x x') :
    ∃ m : List Value, VsR ρ l m ∧ ∀ w' : World, w'.heap = w.heap → (Builtin.firstCells size n x').run P w' = .ok m.toArray w' := by
  unfold rowA at hl
  split at hl
  · rename_i b off len cap esz
    obtain ⟨c, z, off', cap', hρ, h1, h2, h3, h4, rfl⟩ := hx.slc_inv
    split at hl
    · rename_i hc
      simp only [Bool.and_eq_true] at hc
      have hn := Nat.le_of_ble_eq_true hc.1
      split at hl
      · rename_i cs ro hb
        by_cases h0 : n * size = 0
        · rw [h0] at hl
          obtain ⟨_, rfl, _⟩ := subL_some hl
          exact ⟨[], by simp; exact .nil, fun w' _ => by simp [Builtin.firstCells, h0, loadCells, loadCellsFrom]⟩
        · have : off' = off := h1 (by
            have : 0 < n := by
              rcases Nat.eq_zero_or_pos n with e | e
              · subst e; simp at h0
              · exact e
            simp [anch]; left; omega)
          subst this
          obtain ⟨m, hm, hrun⟩ := rows_heap (P := P) hr hρ hb hl
          exact ⟨m, hm, fun w' hw' => by simp [Builtin.firstCells, hrun w' hw']⟩
      · cases hl
    · cases hl
  · split at hl
    · rename_i hc
      cases hl
      obtain rfl := hx.lit_eq
      exact ⟨[], .nil, fun _ _ => rfl⟩
    · cases hl
  · cases hl

/-- What a new row holds. -/
theorem OR.grown {ρ : Rho} {b : Key} (hb : ρ b = none) {cs : List AV} {m : List Value} (hv : VsR ρ cs m) (rest : Array Value) (e : TypeId) (c z : Nat) (hz : (m.toArray ++ rest).size = z) :
    OR (ρ.add b (c, z)) z (.cells cs false) (.cells (m.toArray ++ rest) e) := by
  have hl := hv.length
  have hs : (m.toArray ++ rest).size = m.length + rest.size := by simp
  refine .cells hz (by omega) (fun i v hi => ?_) (fun _ => rfl)
  obtain ⟨u, h1, h2⟩ := hv.get _ _ hi
  refine ⟨u, ?_, h2.mono (Rho.add_up hb _)⟩
  have hlt : i < m.length := (List.getElem?_eq_some_iff.1 h1).1
  rw [Array.getElem?_append_left (by simpa using hlt)]
  simpa using h1

theorem appendA_run {ts : Array TypeId} {ty : TypeId} {args : List AV} {v : AV} {h' : Heap} (he : appendA P ts args h = some (v, h')) (hr : HR B w0 ρ h w) {as : Array Value} (ha : VsR ρ args as.toList) :
    ∃ v' w' ρ', (Builtin.append_ ts ty as).run P w = .ok v' w' ∧ VR ρ' v v' ∧ HR B w0 ρ' h' w' ∧ Ext ρ h ρ' h' := by
  unfold appendA at he
  split at he
  · rename_i s x
    obtain ⟨s', m1, hm1, hs, hn1⟩ := ha.cons_left
    obtain ⟨x', m2, rfl, hx, hn2⟩ := hn1.cons_left
    have := hn2.nil_left
    subst this
    obtain rfl : as = #[s', x'] := by cases as; simp_all
    split at he
    · rename_i t xt ht hxt
      split at he
      · rename_i elem e2 hu hux
        split at he
        · rename_i i n hi hn
          split at he
          · rename_i new hnew
            split at he
            · rename_i z hz
              split at he
              · cases he
              · rename_i hzs
                simp only [Bool.not_eq_true', Bool.not_eq_false] at hzs
                have hzs' := Nat.eq_of_beq_eq_true hzs
                obtain ⟨m, hmv, hmr⟩ := rowA_heap (P := P) hnew hr hx
                have hml := hmv.length
                have hnl := rowA_length hnew
                have hctx : AppCtx P ts w i elem n x' m z := ⟨⟨t, xt, e2, ht, hxt, hu, hux⟩, hi, lenA_run hn hx, hz⟩
                have hn0 := (hr.fresh h.nx (Nat.le_refl _)).1
                split at he
                · obtain rfl := hs.lit_eq
                  split at he
                  · rename_i h0
                    have h0' := Nat.eq_of_beq_eq_true h0
                    subst h0'
                    cases he
                    exact ⟨_, w, ρ, by rw [append_fit hctx (hmr w rfl) (by omega)]; rfl, .lit, hr, Ext.refl _ _⟩
                  · rename_i h0
                    have h0' : n ≠ 0 := fun e => h0 (by rw [e]; rfl)
                    split at he
                    · rename_i hc
                      simp only [Bool.and_eq_true] at hc
                      have hc1 := Nat.le_of_ble_eq_true hc.1
                      have hc2 := Nat.le_of_ble_eq_true hc.2
                      cases he
                      obtain ⟨newCap, hcap, hrun⟩ := append_grow (ty := ty) (mo := []) hctx hmr (base := none) (sLen := 0) (sCap := 0) (by omega) (fun w' _ => rfl) (by simpa using hc1) (by simpa using hc2)
                      simp only [Nat.zero_add] at hcap hrun
                      have hsz : (m.toArray ++ Builtin.zeroCells z.cells (newCap - n)).size = newCap * i.size := by
                        rw [Array.size_append, zeroCells_size, hzs']
                        simp only [List.size_toArray]
                        rw [← hml, hnl, ← Nat.add_mul]; congr 1; omega
                      have hb := hr.drew.both (.cells new false) (.cells (m.toArray ++ Builtin.zeroCells z.cells (newCap - n)) elem) (newCap * i.size) (OR.grown hn0 hmv _ _ _ _ hsz)
                      exact ⟨_, _, _, by simpa using hrun, .slc (Rho.add_same _ _ _) (fun _ => rfl) hcap (fun k hk => by cases hk) (by show 0 + _ ≤ _; omega), hb.1, hb.2⟩
                    · cases he
                · rename_i b off len cap esz
                  obtain ⟨c, zz, off', cap', hρ, b1, b2, b3, b4, rfl⟩ := hs.slc_inv
                  split at he
                  · cases he
                  · rename_i hes
                    simp only [Bool.not_eq_true', Bool.not_eq_false] at hes
                    have hes' := Nat.eq_of_beq_eq_true hes
                    subst hes'
                    split at he
                    · rename_i h0
                      have h0' := Nat.eq_of_beq_eq_true h0
                      subst h0'
                      cases he
                      have hm0 : m = [] := by
                        have : m.length = 0 := by rw [← hml, hnl]; simp
                        exact List.eq_nil_of_length_eq_zero this
                      subst hm0
                      exact ⟨_, w, ρ, by rw [append_fit hctx (hmr w rfl) (by omega)]; rfl, hs, hr, Ext.refl _ _⟩
                    · rename_i h0
                      have h0' : n ≠ 0 := fun e => h0 (by rw [e]; rfl)
                      dsimp only at he
                      split at he
                      · cases he
                      · rename_i hc
                        simp only [Bool.not_eq_true', Bool.not_eq_false, Bool.and_eq_true] at hc
                        have hc1 := Nat.le_of_ble_eq_true hc.1
                        have hc2 := Nat.le_of_ble_eq_true hc.2
                        split at he
                        · rename_i cc
                          have hcc := b3 cc rfl
                          subst hcc
                          split at he
                          · rename_i hfit
                            have hfit' := Nat.le_of_ble_eq_true hfit
                            split at he
                            · cases he
                            · rename_i hone
                              simp only [Bool.not_eq_true', Bool.not_eq_false] at hone
                              split at he
                              · rename_i h1 hw1
                                cases he
                                obtain rfl := b1 (by simp [anch]; right; omega)
                                obtain ⟨w', hrun, hr', hext⟩ := writeA_run (P := P) hw1 hr hρ hmv hone
                                refine ⟨_, w', ρ, ?_, .slc hρ (fun _ => rfl) hfit' (fun k hk => by cases hk; rfl) b4, hr', hext⟩
                                rw [append_fit hctx (hmr w rfl) hfit']
                                simp [Addr.add_none, hrun]
                              · cases he
                          · rename_i hfit
                            have hfit' : cap' < len + n := by
                              rcases Nat.lt_or_ge cap' (len + n) with h | h
                              · exact h
                              · exact absurd (Nat.ble_eq_true_of_le h) hfit
                            split at he
                            · rename_i old hold
                              cases he
                              obtain ⟨mo, hmo, hmor⟩ := rowA_heap (P := P) hold hr hs
                              obtain ⟨newCap, hcap, hrun⟩ := append_grow (ty := ty) hctx hmr hfit' hmor hc1 hc2
                              have hol := rowA_length hold
                              have hmol := hmo.length
                              have hsz : ((mo ++ m).toArray ++ Builtin.zeroCells z.cells (newCap - (len + n))).size = newCap * i.size := by
                                rw [Array.size_append, zeroCells_size, hzs']
                                simp only [List.size_toArray, List.length_append]
                                rw [← hml, hnl, ← hmol, hol, ← Nat.add_mul, ← Nat.add_mul]; congr 1; omega
                              have hb := hr.drew.both (.cells (old ++ new) false) (.cells ((mo ++ m).toArray ++ Builtin.zeroCells z.cells (newCap - (len + n))) elem) (newCap * i.size) (OR.grown hn0 (hmo.append hmv) _ _ _ _ hsz)
                              exact ⟨_, _, _, by simpa using hrun, .slc (Rho.add_same _ _ _) (fun _ => rfl) hcap (fun k hk => by cases hk) (by show 0 + _ ≤ _; omega), hb.1, hb.2⟩
                            · cases he
                        · split at he
                          · cases he
                          · rename_i hoff
                            simp only [Bool.not_eq_true', Bool.not_eq_false, Bool.and_eq_true] at hoff
                            obtain ⟨⟨ho1, ho2⟩, hone⟩ := hoff
                            have ho1' := Nat.eq_of_beq_eq_true ho1
                            have ho2' : 0 < len := by simp [Nat.blt] at ho2; omega
                            subst ho1'
                            obtain rfl := b1 (by simp [anch]; exact ho2')
                            split at he
                            · rename_i cs hb
                              split at he
                              · rename_i old hold
                                cases he
                                obtain ⟨mo, hmo, hmor⟩ := rows_heap (P := P) hr hρ hb hold
                                have hol := (subL_some hold).2.2
                                have hmol := hmo.length
                                by_cases hfit : len + n ≤ cap'
                                · obtain ⟨oc, hw, ho, hB⟩ := hr.obj _ _ _ _ hb hρ
                                  cases ho with
                                  | cells a1 a2 a3 a4 =>
                                    rename_i arr e fz
                                    obtain rfl := a4 rfl
                                    have hBc : B ≤ c := hB rfl
                                    have hsp : (len + n) * i.size ≤ cap' * i.size := Nat.mul_le_mul_right _ hfit
                                    rw [Nat.add_mul] at hsp
                                    have hst := run_storeCells_at (P := P) c (len * i.size) e m 0 arr w hw (by omega) (hmv.ones hone)
                                    have hc := hr.bnd _ _ _ hρ
                                    have hmove := hr.move (o' := .cells (old ++ new) false) hb hρ rfl (.cells (arr.toList.take (len * i.size) ++ m ++ arr.toList.drop (len * i.size + m.length)).toArray e (0, 0))
                                      (w' := w.setRow c (arr.toList.take (len * i.size) ++ m ++ arr.toList.drop (len * i.size + m.length)).toArray) ?_ rfl ?_ ?_
                                    · refine ⟨_, _, _, ?_, .slc (Rho.add_same _ _ _) (fun _ => rfl) hfit (fun k hk => by cases hk) (by simpa using b4), hmove.1, hmove.2⟩
                                      rw [append_fit hctx (hmr w rfl) hfit]
                                      simp only [Addr.add_none, Nat.zero_add]
                                      rw [hst]
                                      rfl
                                    · refine .cells (by simp; omega) (by rw [List.length_append]; omega) (fun j v hj => ?_) (fun _ => rfl)
                                      have hl0 : (arr.toList.take (len * i.size)).length = len * i.size := by simp; omega
                                      simp only [List.getElem?_toArray, List.append_assoc]
                                      by_cases h2 : j < len * i.size
                                      · rw [List.getElem?_append_left (by omega)] at hj
                                        obtain ⟨_, hj'⟩ := subL_get hold _ _ hj
                                        obtain ⟨u, hu1, hu2⟩ := a3 _ _ hj'
                                        refine ⟨u, ?_, hu2.mono (Rho.add_up hn0 _)⟩
                                        rw [List.getElem?_append_left (by omega), List.getElem?_take, if_pos h2]
                                        simpa using hu1
                                      · rw [List.getElem?_append_right (by omega)] at hj
                                        obtain ⟨u, hu1, hu2⟩ := hmv.get _ _ hj
                                        refine ⟨u, ?_, hu2.mono (Rho.add_up hn0 _)⟩
                                        have hlt : j - old.length < m.length := (List.getElem?_eq_some_iff.1 hu1).1
                                        rw [List.getElem?_append_right (by omega), hl0, List.getElem?_append_left (by omega), ← hol]
                                        exact hu1
                                    · show (w.setRow c _).heap = _
                                      apply Array.ext_getElem?
                                      intro k
                                      simp only [World.setRow, Array.getElem?_modify, Array.getElem?_setIfInBounds]
                                      by_cases hk : c = k
                                      · subst hk
                                        rw [if_pos rfl, hw, if_pos rfl, if_pos hc]; rfl
                                      · rw [if_neg hk, if_neg hk]
                                    · refine ⟨rfl, rfl, rfl, by simp [World.setRow], fun k hk => ?_⟩
                                      simp only [World.setRow, Array.getElem?_modify]
                                      rw [if_neg (by omega)]
                                · obtain ⟨newCap, hcap, hrun⟩ := append_grow (ty := ty) (mo := mo) hctx hmr (base := some ⟨c, 0, none⟩) (sLen := len) (sCap := cap') (by omega)
                                    (fun w' hw' => by simp [Builtin.firstCells, hmor w' hw']) hc1 hc2
                                  have hsz : ((mo ++ m).toArray ++ Builtin.zeroCells z.cells (newCap - (len + n))).size = newCap * i.size := by
                                    rw [Array.size_append, zeroCells_size, hzs']
                                    simp only [List.size_toArray, List.length_append]
                                    rw [← hml, hnl, ← hmol, hol, ← Nat.add_mul, ← Nat.add_mul]; congr 1; omega
                                  have hb2 := hr.drew.both (.cells (old ++ new) false) (.cells ((mo ++ m).toArray ++ Builtin.zeroCells z.cells (newCap - (len + n))) elem) (newCap * i.size) (OR.grown hn0 (hmo.append hmv) _ _ _ _ hsz)
                                  have hd := hb2.1.del (Rho.add_up hn0 _ _ _ hρ)
                                  exact ⟨_, _, _, by simpa using hrun, .slc (Rho.add_same _ _ _) (fun _ => rfl) hcap (fun k hk => by cases hk) (by show 0 + _ ≤ _; omega), hd.1, hb2.2.trans hd.2⟩
                              · cases he
                            · cases he
                · cases he
            · cases he
          · cases he
        · cases he
      · cases he
    · cases he
  · cases he

theorem copyA_run {ts : Array TypeId} {ty : TypeId} {args : List AV} {v : AV} {h' : Heap} (he : copyA P ts args h = some (v, h')) (hr : HR B w0 ρ h w) {as : Array Value} (ha : VsR ρ args as.toList) :
    ∃ v' w', (Builtin.copy_ ts ty as).run P w = .ok v' w' ∧ VR ρ v v' ∧ HR B w0 ρ h' w' ∧ Ext ρ h ρ h' := by
  unfold copyA at he
  split at he
  · rename_i d s
    obtain ⟨d', m1, hm1, hd, hn1⟩ := ha.cons_left
    obtain ⟨s', m2, rfl, hs, hn2⟩ := hn1.cons_left
    have := hn2.nil_left
    subst this
    obtain rfl : as = #[d', s'] := by cases as; simp_all
    split at he
    · rename_i t ht
      split at he
      · rename_i elem b off len cap esz mm hu hml
        obtain ⟨c, zz, off', cap', hρ, b1, b2, b3, b4, rfl⟩ := hd.slc_inv
        split at he
        · rename_i z hz
          dsimp only at he
          split at he
          · cases he
          · rename_i hze
            simp only [Bool.not_eq_true', Bool.not_eq_false] at hze
            have hze' := Nat.eq_of_beq_eq_true hze
            subst hze'
            have hnn : (if Nat.ble mm len = true then mm else len) = Nat.min mm len := by
              show _ = min mm len
              by_cases hb : Nat.ble mm len = true
              · rw [if_pos hb]; have := Nat.le_of_ble_eq_true hb; omega
              · rw [if_neg hb]
                have : ¬ mm ≤ len := fun hle => hb (Nat.ble_eq_true_of_le hle)
                omega
            split at he
            · rename_i hl
              cases he
              obtain ⟨m, hm, hmr⟩ := rowA_run (P := P) hl hr hs
              have hm0 := hm.nil_left
              subst hm0
              rw [hnn] at hmr ⊢
              refine ⟨goInt (Nat.min mm len), w, ?_, .lit, hr, Ext.refl _ _⟩
              simp [Builtin.copy_, ht, run_underlying hu, lenA_run hml hs, sizeP_run hz, hmr, storeCells]
            · rename_i l hnil hl
              split at he
              · cases he
              · rename_i hone
                simp only [Bool.not_eq_true', Bool.not_eq_false] at hone
                split at he
                · rename_i h1 hw1
                  cases he
                  obtain ⟨m, hm, hmr⟩ := rowA_run (P := P) hl hr hs
                  have hll := rowA_length hl
                  rw [hnn] at hll hmr ⊢
                  have hlen : 0 < len := by
                    rcases Nat.eq_zero_or_pos len with e | e
                    · subst e
                      have h9 : Nat.min mm 0 = 0 := by show min mm 0 = 0; omega
                      rw [h9] at hll
                      simp at hll
                      subst hll
                      exact absurd rfl hnil
                    · exact e
                  obtain rfl := b1 (by simp [anch]; left; exact hlen)
                  obtain ⟨w', hrun, hr', hext⟩ := writeA_run (P := P) hw1 hr hρ hm hone
                  refine ⟨goInt (Nat.min mm len), w', ?_, .lit, hr', hext⟩
                  simp [Builtin.copy_, ht, run_underlying hu, lenA_run hml hs, sizeP_run hz, hmr, hrun]
                · cases he
            · cases he
        · cases he
      · rename_i elem n hu hml
        split at he
        · rename_i z hz
          cases he
          obtain rfl := hd.lit_eq
          have hfc : (Builtin.firstCells z 0 s').run P w = .ok #[] w := by
            unfold lenA at hml
            split at hml
            · obtain ⟨_, _, _, _, _, _, _, _, _, rfl⟩ := hs.slc_inv; simp [Builtin.firstCells, loadCells, loadCellsFrom]
            · obtain rfl := hs.lit_eq; simp [Builtin.firstCells]
            · obtain rfl := hs.lit_eq; simp [Builtin.firstCells]
            · cases hml
          have h9 : Nat.min n 0 = 0 := by show min n 0 = 0; omega
          refine ⟨goInt 0, w, ?_, .lit, hr, Ext.refl _ _⟩
          simp only [Builtin.copy_, ht]
          simp [run_underlying hu, lenA_run hml hs, sizeP_run hz, h9, hfc]
        · cases he
      · cases he
    · cases he
  · cases he
end
end Go.Ev
