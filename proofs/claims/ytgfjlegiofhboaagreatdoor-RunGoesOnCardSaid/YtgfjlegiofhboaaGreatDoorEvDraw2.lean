/- Drawn regions: the machine's steps. No condition. -/
import Derived.Test.YtgfjlegiofhboaaGreatDoorEvDraw
namespace Go.Ev
open Go.RowKit
set_option linter.unusedVariables false
set_option linter.unusedSimpArgs false
set_option autoImplicit false

/-- What a piece of a run leaves as it was, of the names below m. -/
structure ExtM (m : Nat) (ρ : Rho) (h : Heap) (ρ' : Rho) (h' : Heap) : Prop where
  up : ∀ b x, ρ b = some x → ρ' b = some x
  out : ∀ b : Key, ρ b = none → b.toNat < m → ρ' b = none ∧ h'.get b = h.get b
  nx : h.nx.toNat ≤ h'.nx.toNat

theorem Ext.toM {m : Nat} {ρ ρ' : Rho} {h h' : Heap} (he : Ext ρ h ρ' h') (hm : m ≤ h.nx.toNat) : ExtM m ρ h ρ' h' :=
  ⟨he.up, fun b hb hl => he.out b hb (by omega), he.nx⟩
theorem ExtM.refl (m : Nat) (ρ : Rho) (h : Heap) : ExtM m ρ h ρ h := ⟨fun _ _ h => h, fun _ h _ => ⟨h, rfl⟩, Nat.le_refl _⟩
theorem ExtM.trans {m : Nat} {ρ ρ' ρ'' : Rho} {h h' h'' : Heap} (a : ExtM m ρ h ρ' h') (b : ExtM m ρ' h' ρ'' h'') : ExtM m ρ h ρ'' h'' :=
  ⟨fun k x hk => b.up _ _ (a.up _ _ hk), fun k hk hl =>
    let ⟨h1, h2⟩ := a.out k hk hl
    let ⟨h3, h4⟩ := b.out k h1 hl
    ⟨h3, by rw [h4, h2]⟩, Nat.le_trans a.nx b.nx⟩
theorem ExtM.le {m m' : Nat} {ρ ρ' : Rho} {h h' : Heap} (he : ExtM m ρ h ρ' h') (hm : m' ≤ m) : ExtM m' ρ h ρ' h' := ⟨he.up, fun b hb hl => he.out b hb (by omega), he.nx⟩

/-- The package's variables are named. -/
def GR (P : Program) (ρ : Rho) : Prop := ∀ g, g < P.globals.size → ∃ z, ρ (Key.ofNat g) = some (g, z)
theorem GR.mono {P : Program} {ρ ρ' : Rho} (hg : GR P ρ) (h : ∀ b x, ρ b = some x → ρ' b = some x) : GR P ρ' := fun g hl => let ⟨z, hz⟩ := hg g hl; ⟨z, h _ _ hz⟩

/-- The machine's operands. -/
def evC (tmps : Array Value) : Operand → Value
  | .tmp t => tmps.getD t Go.undef
  | .const v => v
  | .global g => .pointer (some ⟨g, 0, none⟩)
  | .func f => .func (.func f) #[] #[]
theorem eval_evC (fr : Frame) : fr.eval = evC fr.tmps := by
  funext x; cases x <;> rfl

theorem evF_run {P : Program} {ρ : Rho} {g : Tmp → AV} {tmps : Array Value} (hg : GR P ρ) (ht : ∀ t, VR ρ (g t) (tmps.getD t Go.undef)) (x : Operand) : VR ρ (evF P g x) (evC tmps x) := by
  cases x with
  | tmp t => exact ht t
  | const v => exact .ofVal
  | global k =>
    unfold evF evC
    dsimp only
    split
    · rename_i hb
      rw [Nat.blt_eq] at hb
      obtain ⟨z, hz⟩ := hg k hb
      exact .ptr hz
    · exact .lit
  | func f => exact .fn .nil .nil

/-- A slot of the machine's is put. -/
def putC (tmps : Array Value) (d : Option Tmp) (v : Value) : Array Value :=
  match d with
  | some t => tmps.setIfInBounds t v
  | none => tmps
theorem putC_size (tmps : Array Value) (d : Option Tmp) (v : Value) : (putC tmps d v).size = tmps.size := by cases d <;> simp [putC]
theorem putC_get_same (tmps : Array Value) (t : Tmp) (v : Value) (h : t < tmps.size) : (putC tmps (some t) v).getD t Go.undef = v := by
  simp [putC, Array.getD_eq_getD_getElem?, h]
theorem putC_get_ne (tmps : Array Value) (d : Option Tmp) (v : Value) (t : Tmp) (h : d ≠ some t) : (putC tmps d v).getD t Go.undef = tmps.getD t Go.undef := by
  cases d with
  | none => rfl
  | some t' => simp only [putC, Array.getD_eq_getD_getElem?]; rw [Array.getElem?_setIfInBounds_ne (fun e => h (by rw [e]))]

section
variable {P : Program} {ops : Array Oper} {T0 T : Tr AV}

theorem Pend.monoM {m : Nat} {ρ ρ' : Rho} {h h' : Heap} {ok : Bool} {seen : List Nat} {n : Nat} {nm : Nat → Key} {q : Nat} (hp : Pend P ρ h ok ops seen T0 T n nm q) (he : ExtM m ρ h ρ' h') (hm : isMake P ops T0 T q → (nm q).toNat < m) :
    Pend P ρ' h' false ops seen T0 T n nm q := by
  obtain ⟨o, v, h1, h2, h3⟩ := hp
  refine ⟨o, v, h1, h2, ?_⟩
  rcases h3 with h3 | ⟨h3, h4 | ⟨h4, h0, o', h5, h6, h7, h8, h9⟩ | ⟨h4, h5, h6, _⟩⟩
  · exact .inl h3
  · exact .inr ⟨h3, .inl h4⟩
  · obtain ⟨a, b⟩ := he.out _ h8 (hm ⟨o, h1, h4, h3⟩)
    exact .inr ⟨h3, .inr (.inl ⟨h4, h0, o', h5, h6, by rw [b]; exact h7, a, Nat.lt_of_lt_of_le h9 he.nx⟩)⟩
  · exact .inr ⟨h3, .inr (.inr ⟨h4, h5, h6, fun h => by cases h⟩)⟩

theorem DR.monoM {m : Nat} {ρ ρ' : Rho} {h h' : Heap} {ok : Bool} {plan seen σ : List Nat} {n : Nat} {tmps : Array Value} {nm : Nat → Key} (hd : DR P ρ h ok ops plan seen T0 T n σ tmps nm) (he : ExtM m ρ h ρ' h')
    (hm : ∀ q ∈ σ, q ∉ plan → isMake P ops T0 T q → (nm q).toNat < m) : DR P ρ' h' false ops plan seen T0 T n σ tmps nm :=
  ⟨hd.full, hd.lin, hd.sub, hd.size, fun t => (hd.tm t).mono he.up, hd.keep, fun q hq hn => (hd.pend q hq hn).monoM he (hm q hq hn), hd.names⟩

/-- How the slots stand where the machine does what the evaluator has done. -/
theorem tm_step {full : List Nat} (hp : PlanOK ops full) {ρ ρ' : Rho} (hup : ∀ b x, ρ b = some x → ρ' b = some x) {q : Nat} {σ : List Nat} {o : Oper} {n : Nat} {tmps : Array Value} {v : AV} {v' : Value}
    (ho : ops[q]? = some o) (hqσ : q ∉ σ) (hn : tmps.size = n) (hT : ∀ t, o.dst = some t → t < n ∧ T.get (Key.ofNat t) = some v) (hv : VR ρ' v v')
    (tm : ∀ t, VR ρ (curT ops (q :: σ) T0 T t) (tmps.getD t Go.undef)) (t : Tmp) : VR ρ' (curT ops σ T0 T t) ((putC tmps o.dst v').getD t Go.undef) := by
  by_cases hd : o.dst = some t
  · obtain ⟨a, b⟩ := hT t hd
    have hw := (dst_writes ho).1 hd
    have : curT ops σ T0 T t = v := by
      unfold curT; rw [if_pos ⟨q, hw, hqσ⟩]; unfold slotT; rw [b]; rfl
    rw [this, hd, putC_get_same tmps t v' (hn.symm ▸ a)]
    exact hv
  · rw [putC_get_ne _ _ _ _ hd]
    have : curT ops σ T0 T t = curT ops (q :: σ) T0 T t := by
      unfold curT
      have hiff : (∃ j, writes ops j t = true ∧ j ∉ σ) ↔ (∃ j, writes ops j t = true ∧ j ∉ q :: σ) := by
        constructor
        · rintro ⟨j, hj, hjn⟩
          refine ⟨j, hj, ?_⟩
          intro hm
          rcases List.mem_cons.1 hm with rfl | hm
          · exact hd ((dst_writes ho).2 hj)
          · exact hjn hm
        · rintro ⟨j, hj, hjn⟩
          exact ⟨j, hj, fun hm => hjn (List.mem_cons_of_mem _ hm)⟩
      by_cases hx : ∃ j, writes ops j t = true ∧ j ∉ σ
      · rw [if_pos hx, if_pos (hiff.1 hx)]
      · rw [if_neg hx, if_neg (fun hy => hx (hiff.2 hy))]
    rw [this]
    exact (tm t).mono hup

/-- A pending operation, for a map that has more. -/
theorem Pend.grow {ρ ρ' : Rho} {h : Heap} {ok : Bool} {seen : List Nat} {n : Nat} {nm : Nat → Key} {q : Nat} (hp : Pend P ρ h ok ops seen T0 T n nm q) (hn : isMake P ops T0 T q → ρ' (nm q) = none) :
    Pend P ρ' h ok ops seen T0 T n nm q := by
  obtain ⟨o, v, h1, h2, h3⟩ := hp
  refine ⟨o, v, h1, h2, ?_⟩
  rcases h3 with h3 | ⟨h3, h4 | ⟨h4, h0, o', h5, h6, h7, h8, h9⟩ | h4⟩
  · exact .inl h3
  · exact .inr ⟨h3, .inl h4⟩
  · exact .inr ⟨h3, .inr (.inl ⟨h4, h0, o', h5, h6, h7, hn ⟨o, h1, h4, h3⟩, h9⟩)⟩
  · exact .inr ⟨h3, .inr (.inr h4)⟩

/-- The machine does what the evaluator has done already. -/
theorem DR.catch {B : Nat} {w0 w : World} {ρ : Rho} {h : Heap} {plan seen : List Nat} {q n : Nat} {σ : List Nat} {tmps : Array Value} {nm : Nat → Key} (hg : GR P ρ) (hr : HR B w0 ρ h w)
    (hd : DR P ρ h true ops plan seen T0 T n (q :: σ) tmps nm) (hq : q ∉ plan) (m : Nat) (hm : ∀ q' ∈ q :: σ, q' ∉ plan → isMake P ops T0 T q' → m ≤ (nm q').toNat) (hmn : m ≤ h.nx.toNat) :
    ∃ o v' w' ρ', ops[q]? = some o ∧
      ((Region.wanted o (yielded ops tmps) = false ∧ v' = Go.undef ∧ w' = w) ∨
       (Region.wanted o (yielded ops tmps) = true ∧ rank o.op ≠ 2 ∧ ((execOp (evC tmps) o).run P w = .ok (.value v') w' ∨ ((execOp (evC tmps) o).run P w = .ok .skip w' ∧ v' = Go.undef)))) ∧
      HR B w0 ρ' h w' ∧ ExtM m ρ h ρ' h ∧ DR P ρ' h true ops plan seen T0 T n σ (putC tmps o.dst v') nm := by
  obtain ⟨pre, hp⟩ := hd.full
  have hqσ : q ∉ σ := (List.nodup_cons.1 hd.lin.nodup).1
  obtain ⟨o, v, ho, hT, hcase⟩ := hd.pend q List.mem_cons_self hq
  have hbef : ∀ j, Behind ops q j → j ∉ q :: σ := fun j hb => hd.lin.head hb
  have hlook : ∀ t ∈ looks ops o, curT ops (q :: σ) T0 T t = lookT ops q T0 T t := fun t ht => cur_look hp hd.lin List.mem_cons_self hbef ho ht
  have hwt : wantedA ops o (evF P (curT ops (q :: σ) T0 T)) = wantedA ops o (evF P (lookT ops q T0 T)) := wantedA_looks hlook
  have hev : ∀ hh, evalOp P (evF P (curT ops (q :: σ) T0 T)) o hh = evalOp P (evF P (lookT ops q T0 T)) o hh := fun hh => evalOp_looks hlook
  have hrel := evF_run (P := P) hg hd.tm
  have hwr : Region.wanted o (yielded ops tmps) = wantedA ops o (evF P (curT ops (q :: σ) T0 T)) := wantedA_run (f := evF P (curT ops (q :: σ) T0 T)) hd.tm
  have fin : ∀ (ρ' : Rho) (v' : Value), (∀ b x, ρ b = some x → ρ' b = some x) → VR ρ' v v' → (∀ q' ∈ σ, q' ∉ plan → isMake P ops T0 T q' → ρ' (nm q') = none) →
      DR P ρ' h true ops plan seen T0 T n σ (putC tmps o.dst v') nm := by
    intro ρ' v' hup hv hnn
    refine ⟨hd.full, hd.lin.tail, fun i hi => ?_, by rw [putC_size]; exact hd.size, tm_step hp hup ho hqσ hd.size hT hv hd.tm, hd.keep, fun q' hq' hn' => ?_, fun q' hq' hn' hm' q2 hq2 hn2 hm2 => hd.names q' (List.mem_cons_of_mem _ hq') hn' hm' q2 (List.mem_cons_of_mem _ hq2) hn2 hm2⟩
    · rcases List.mem_cons.1 (hd.sub i hi) with rfl | h1
      · exact absurd hi hq
      · exact h1
    · exact (hd.pend q' (List.mem_cons_of_mem _ hq') hn').grow (hnn q' hq' hn')
  have hnone : ∀ q' ∈ σ, q' ∉ plan → isMake P ops T0 T q' → ρ (nm q') = none := fun q' hq' hn' hm' => ((hd.pend q' (List.mem_cons_of_mem _ hq') hn').older hm').2
  rcases hcase with ⟨hw, rfl⟩ | ⟨hw, hk⟩
  · exact ⟨o, Go.undef, w, ρ, ho, .inl ⟨by rw [hwr, hwt]; exact hw, rfl, rfl⟩, hr, ExtM.refl _ _ _, fin ρ _ (fun _ _ h => h) VR.undef hnone⟩
  · have hw' : Region.wanted o (yielded ops tmps) = true := by rw [hwr, hwt]; exact hw
    rcases hk with ⟨hr0, hpure⟩ | ⟨hmk, h0, o', he, hnx, hb, hρ, hlt⟩ | ⟨hr1, hmk, _, he⟩
    · have hop := evalOp_run (ec := evC tmps) hrel hr ((hev h).trans (hpure h))
      obtain ⟨v', w', ρ', hres, hv, hr', hx⟩ := hop
      exact ⟨o, v', w', ρ', ho, .inr ⟨hw', by omega, hres⟩, hr', hx.toM hmn, fin ρ' v' hx.up hv (fun q' a b c => (hx.out _ (hnone q' a b c) ((hd.pend q' (List.mem_cons_of_mem _ a) b).older c).1).1)⟩
    · -- it makes the block that the evaluator has made
      obtain ⟨v1, o1, hv1, hro, hrun⟩ := make_run hmk ((hev h0).trans he)
      injection hv1 with hv1 hh1
      subst hv1
      have ho1 : o1 = o' := by
        have g1 := Heap.get_new_same h0 o1
        have g2 := Heap.get_new_same h0 o'
        rw [← hh1, g2] at g1
        injection g1 with g1
        exact g1.symm
      subst ho1
      rw [hnx] at hrun
      obtain ⟨oc, z, v', h1, h2, h3⟩ := hrun ρ w (evC tmps) hrel hρ
      have hr' := hr.adopt oc z hb hρ hlt h2
      refine ⟨o, v', _, _, ho, .inr ⟨hw', by rw [makes_rank hmk]; omega, .inl h1⟩, hr', ⟨Rho.add_up hρ _, fun b hbn hbl => ⟨?_, rfl⟩, Nat.le_refl _⟩, fin _ v' (Rho.add_up hρ _) h3 (fun q' a b c => ?_)⟩
      · have := hm q List.mem_cons_self hq ⟨o, ho, hmk, hw⟩
        rw [Rho.add_ne _ _ (fun e => by subst e; omega)]; exact hbn
      · rw [Rho.add_ne]
        · exact hnone q' a b c
        · intro e
          have := hd.names q List.mem_cons_self hq ⟨o, ho, hmk, hw⟩ q' (List.mem_cons_of_mem _ a) b c e.symm
          subst this
          exact hqσ a
    · have hop := evalOp_run (ec := evC tmps) hrel hr ((hev h).trans (he rfl))
      obtain ⟨v', w', ρ', hres, hv, hr', hx⟩ := hop
      exact ⟨o, v', w', ρ', ho, .inr ⟨hw', by omega, hres⟩, hr', hx.toM hmn, fin ρ' v' hx.up hv (fun q' a b c => (hx.out _ (hnone q' a b c) ((hd.pend q' (List.mem_cons_of_mem _ a) b).older c).1).1)⟩

/-- What stands ahead of a loud operation for the machine, the evaluator has done. -/
theorem ahead_of_loud {ρ : Rho} {h : Heap} {ok : Bool} {rest seen : List Nat} {L i n : Nat} {σ : List Nat} {tmps : Array Value} {nm : Nat → Key} (hd : DR P ρ h ok ops (L :: rest) seen T0 T n (i :: σ) tmps nm)
    {o : Oper} (ho : ops[L]? = some o) (hr : rank o.op = 2) (hne : i ≠ L) : i ∉ L :: rest := by
  obtain ⟨pre, hp⟩ := hd.full
  intro hi
  rcases List.mem_cons.1 hi with rfl | hi
  · exact hne rfl
  · have hLs : L < ops.size := (Array.getElem?_eq_some_iff.1 ho).1
    have his := hd.lin.lt i List.mem_cons_self
    have := hp.loud L i hLs his
    unfold loudOk at this
    rw [ho] at this
    simp only [Bool.or_eq_true, Bool.not_eq_true', beq_iff_eq, decide_eq_true_eq, hr] at this
    rcases this with ((h1 | h1) | h1) | h1
    · cases h1
    · exact hne h1.symm
    · exact idxOf_ge hp.nodup hi h1
    · have := hd.lin.head (j := L) h1
      exact this (hd.sub L List.mem_cons_self)

/-! values that are the same by their text -/
theorem litEqb_eq {a b : Value} (h : litEqb a b = true) : a = b := by
  unfold litEqb at h
  split at h
  · simp at h; rw [h]
  · simp at h; rw [h.1, h.2]
  · rename_i a b
    rw [beq_toListBytes] at h
    have := eq_of_beq h
    rw [ByteArray.toList_eq, ByteArray.toList_eq] at this
    obtain ⟨⟨x⟩⟩ := a
    obtain ⟨⟨y⟩⟩ := b
    simp at this
    subst this; rfl
  · rfl
  · simp at h; rw [h.1, h.2]
  · rfl
  · rfl
  · rfl
  · cases h

mutual
theorem AV.eqb_eq : ∀ {a b : AV}, a.eqb b = true → a = b
  | .lit a, .lit b, h => by unfold AV.eqb at h; rw [litEqb_eq h]
  | .ptr a i, .ptr b j, h => by
    unfold AV.eqb at h; simp only [Bool.and_eq_true] at h; rw [Key.eqb_eq h.1, Nat.eq_of_beq_eq_true h.2]
  | .slc b i n c z, .slc b' j m d y, h => by
    unfold AV.eqb at h; simp only [Bool.and_eq_true, beq_iff_eq] at h
    rw [Key.eqb_eq h.1.1.1.1, Nat.eq_of_beq_eq_true h.1.1.1.2, Nat.eq_of_beq_eq_true h.1.1.2, h.1.2, Nat.eq_of_beq_eq_true h.2]
  | .map a, .map b, h => by unfold AV.eqb at h; rw [Key.eqb_eq h]
  | .fn f a b, .fn g c d, h => by
    unfold AV.eqb at h; simp only [Bool.and_eq_true, decide_eq_true_eq] at h
    rw [h.1.1, eqbL_eq h.1.2, eqbL_eq h.2]
  | .yld a, .yld b, h => by unfold AV.eqb at h; rw [Key.eqb_eq h]
  | .ifc t a, .ifc u b, h => by
    unfold AV.eqb at h; simp only [Bool.and_eq_true] at h
    rw [Nat.eq_of_beq_eq_true h.1, AV.eqb_eq h.2]
  | .agg a, .agg b, h => by unfold AV.eqb at h; rw [eqbL_eq h]
  | .tup a, .tup b, h => by unfold AV.eqb at h; rw [eqbL_eq h]
theorem eqbL_eq : ∀ {a b : List AV}, eqbL a b = true → a = b
  | [], [], _ => rfl
  | a :: as, b :: bs, h => by
    unfold eqbL at h; simp only [Bool.and_eq_true] at h
    rw [AV.eqb_eq h.1, eqbL_eq h.2]
end

/-- The evaluator's loud step, where the machine has done it too. -/
theorem DR.loud {m : Nat} {ρ ρ' : Rho} {h h' : Heap} {rest seen : List Nat} {L n : Nat} {σ : List Nat} {tmps : Array Value} {nm : Nat → Key} {ok : Bool}
    (hd : DR P ρ h ok ops (L :: rest) seen T0 T n (L :: σ) tmps nm) {o : Oper} (ho : ops[L]? = some o) (he : ExtM m ρ h ρ' h') (hm : ∀ q ∈ L :: σ, q ∉ L :: rest → isMake P ops T0 T q → (nm q).toNat < m)
    {v : AV} {v' : Value} (hv : VR ρ' v v') {T' : Tr AV} (hput : putT n T o.dst v = some T') (hst : stable P ops L T' h' seen = true) :
    DR P ρ' h' true ops rest seen T0 T' n σ (putC tmps o.dst v') nm := by
  obtain ⟨pre, hp⟩ := hd.full
  have hin := nodup_rest hp
  have hLs : L < ops.size := (Array.getElem?_eq_some_iff.1 ho).1
  have hLσ : L ∉ σ := (List.nodup_cons.1 hd.lin.nodup).1
  obtain ⟨hT1, hT2⟩ := putT_get hput
  have hkeep : ∀ t, (∀ j, writes ops j t = true → j ∈ rest) → T'.get (Key.ofNat t) = T0.get (Key.ofNat t) := keep_put ho hin hd.keep hT2
  have hnotin : ∀ q ∈ σ, q ∉ rest → q ∉ L :: rest := by
    intro q hq hn hx
    rcases List.mem_cons.1 hx with rfl | hx
    · exact hLσ hq
    · exact hn hx
  have hnb : ∀ q ∈ σ, q ∉ rest → ¬ Behind ops q L := fun q hq hn => not_behind_of_plan hp (hd.lin.lt q (List.mem_cons_of_mem _ hq)) hLs (hnotin q hq hn)
  have hmk : ∀ q ∈ σ, q ∉ rest → isMake P ops T0 T' q → isMake P ops T0 T q := by
    intro q hq hn ⟨oq, g1, g2, g3⟩
    refine ⟨oq, g1, g2, ?_⟩
    rw [← g3]
    exact wantedA_looks fun t ht => (look_put hp g1 ho (hnb q hq hn) hT2 t).symm
  have hd' := hd.monoM he hm
  refine ⟨⟨pre ++ [L], plan_tail hp⟩, hd.lin.tail, fun i hi => ?_, by rw [putC_size]; exact hd.size, ?_, hkeep, fun q hq hn => ?_, fun q hq hn hm1 q2 hq2 hn2 hm2 => ?_⟩
  · rcases List.mem_cons.1 (hd.sub i (List.mem_cons_of_mem _ hi)) with rfl | h1
    · exact absurd hi hin
    · exact h1
  · refine tm_step (ρ := ρ') (ρ' := ρ') hp (fun _ _ h => h) ho hLσ hd.size hT1 hv (fun t => ?_)
    rw [curT_put hp ho List.mem_cons_self hT2]
    exact hd'.tm t
  · -- pending ones: looks at memory are looked at again
    have h1 := (hd'.pend q (List.mem_cons_of_mem _ hq) (hnotin q hq hn)).put hp ho (fun e => hLσ (e ▸ hq)) (hnb q hq hn) hT2 (fun x hx => hx)
    obtain ⟨oq, vq, g1, g2, g3⟩ := h1
    rcases g3 with g3 | ⟨g3, g4 | g4 | ⟨g4, g5, g6, g7⟩⟩
    · exact ⟨oq, vq, g1, g2, .inl g3⟩
    · exact ⟨oq, vq, g1, g2, .inr ⟨g3, .inl g4⟩⟩
    · exact ⟨oq, vq, g1, g2, .inr ⟨g3, .inr (.inl g4)⟩⟩
    · unfold stable at hst
      rw [List.all_eq_true] at hst
      have h2 := hst q g6
      rw [Bool.or_eq_true] at h2
      rcases h2 with h2 | h2
      · exact absurd (List.mem_cons_of_mem _ hq) (hd.lin.head (j := q) h2)
      · rw [g1] at h2
        dsimp only at h2
        have hqs : q < ops.size := hd.lin.lt q (List.mem_cons_of_mem _ hq)
        -- it reads what the evaluator has in its slots
        have hla : ∀ t ∈ looks ops oq, slotT T' t = lookT ops q T0 T' t := by
          intro t ht
          unfold lookT
          by_cases hw : ∃ j, writes ops j t = true
          · obtain ⟨j, hj⟩ := hw
            rcases hp.reads hj g1 ht with ⟨_, h3⟩ | ⟨_, h3⟩
            · rw [if_pos ⟨j, hj, h3⟩]
            · rw [g4] at h3; cases h3
          · rw [if_neg (fun ⟨j, hj, _⟩ => hw ⟨j, hj⟩)]
            unfold slotT
            rw [hkeep t (fun j hj => absurd ⟨j, hj⟩ hw)]
        have hev : evalOp P (ev P T') oq h' = evalOp P (evF P (lookT ops q T0 T')) oq h' := evalOp_looks hla
        split at h2
        · rename_i u hh hu
          have hu' := hu
          rw [hev] at hu
          obtain ⟨u1, e1, _⟩ := evalOp_look g4 g5 hu
          injection e1 with e1 e2
          subst e1
          subst e2
          cases hdst : oq.dst with
          | none => exact ⟨oq, u, g1, (fun t ht => by rw [hdst] at ht; cases ht), .inr ⟨g3, .inr (.inr ⟨g4, g5, g6, fun _ => hu⟩)⟩⟩
          | some t =>
            rw [hdst] at h2
            dsimp only at h2
            obtain ⟨g8, g9⟩ := g2 t hdst
            rw [g9] at h2
            dsimp only at h2
            have := AV.eqb_eq h2
            subst this
            exact ⟨oq, vq, g1, g2, .inr ⟨g3, .inr (.inr ⟨g4, g5, g6, fun _ => hu⟩)⟩⟩
        · cases h2
  · exact hd.names q (List.mem_cons_of_mem _ hq) (hnotin q hq hn) (hmk q hq hn hm1) q2 (List.mem_cons_of_mem _ hq2) (hnotin q2 hq2 hn2) (hmk q2 hq2 hn2 hm2)

/-- The operands of a loud operation, where the machine has come to it. -/
theorem DR.loud_looks {ρ : Rho} {h : Heap} {ok : Bool} {rest seen : List Nat} {L n : Nat} {σ : List Nat} {tmps : Array Value} {nm : Nat → Key}
    (hd : DR P ρ h ok ops (L :: rest) seen T0 T n (L :: σ) tmps nm) {o : Oper} (ho : ops[L]? = some o) : ∀ t ∈ looks ops o, slotT T t = curT ops (L :: σ) T0 T t := by
  obtain ⟨pre, hp⟩ := hd.full
  intro t ht
  rw [abs_look hp hd.keep ho ht, cur_look hp hd.lin List.mem_cons_self (fun j hb => hd.lin.head hb) ho ht]
end
end Go.Ev
