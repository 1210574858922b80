/- Drawn regions: how the evaluator's order stands to the machine's. No condition. -/
import Derived.Test.YtgfjlegiofhboaaGreatDoorEvCongr1
import Derived.Test.YtgfjlegiofhboaaGreatDoorEvCongrA
import Derived.Test.YtgfjlegiofhboaaGreatDoorEvCongrC
import Derived.Test.YtgfjlegiofhboaaGreatDoorEvCongrD
namespace Go.Ev
open Go.RowKit
set_option linter.unusedVariables false
set_option linter.unusedSimpArgs false
set_option autoImplicit false

/-! the looks, one by one -/
section looks
variable {ops : Array Oper} {plan : List Nat}

theorem writes_lt {j : Nat} {t : Tmp} (h : writes ops j t = true) : j < ops.size := by
  unfold writes at h
  cases ho : ops[j]? with
  | none => rw [ho] at h; simp at h
  | some o => exact (Array.getElem?_eq_some_iff.1 ho).1

theorem writes_iff {j : Nat} {t : Tmp} : writes ops j t = true ↔ (ops[j]?).bind (·.dst) = some t := by simp [writes]

/-- Who writes a slot is one. -/
theorem PlanOK.one (hp : PlanOK ops plan) {i j : Nat} {t : Tmp} (hi : writes ops i t = true) (hj : writes ops j t = true) : i = j := by
  have := hp.slot i j (writes_lt hi) (writes_lt hj)
  unfold slotOk at this
  rw [writes_iff.1 hi] at this
  simp only [Bool.and_eq_true, Bool.or_eq_true, beq_iff_eq, Bool.not_eq_true'] at this
  rcases this.1 with h | h
  · exact h
  · rw [hj] at h; cases h

/-- Who looks at a slot stands behind who writes it; or is of its operands alone, and ahead of it (or it). -/
theorem PlanOK.reads (hp : PlanOK ops plan) {i q : Nat} {t : Tmp} {o : Oper} (hi : writes ops i t = true) (hq : ops[q]? = some o) (ht : t ∈ looks ops o) :
    (i ≠ q ∧ Behind ops q i) ∨ ((i = q ∨ Behind ops i q) ∧ rank o.op = 0) := by
  have := hp.slot i q (writes_lt hi) (Array.getElem?_eq_some_iff.1 hq).1
  unfold slotOk at this
  rw [writes_iff.1 hi, hq] at this
  simp only [Bool.and_eq_true, Bool.or_eq_true, beq_iff_eq, Bool.not_eq_true', bne_iff_ne, ne_eq] at this
  rcases this.2 with (h | h) | h
  · rw [List.contains_iff_mem.2 ht] at h; cases h
  · exact .inl h
  · exact .inr ⟨h.1, Nat.eq_of_beq_eq_true h.2⟩

theorem PlanOK.asym (hp : PlanOK ops plan) {i j : Nat} (hi : i < ops.size) (hj : j < ops.size) (h1 : Behind ops i j) (h2 : Behind ops j i) : False := by
  have := hp.order i j hi hj h1
  have := hp.order j i hj hi h2
  omega

theorem PlanOK.irrefl (hp : PlanOK ops plan) {i : Nat} (hi : i < ops.size) (h1 : Behind ops i i) : False := hp.asym hi hi h1 h1

theorem idxOf_append_lt {pre post : List Nat} {q j : Nat} (hn : (pre ++ q :: post).Nodup) (h : (pre ++ q :: post).idxOf j < (pre ++ q :: post).idxOf q) : j ∈ pre := by
  have hq : q ∉ pre := fun hq => (List.nodup_append.1 hn).2.2 q hq q List.mem_cons_self rfl
  by_cases hj : j ∈ pre
  · exact hj
  · rw [List.idxOf_append, if_neg hj, List.idxOf_append, if_neg hq, List.idxOf_cons_self] at h
    omega

theorem idxOf_ge {pre post : List Nat} {q j : Nat} (hn : (pre ++ q :: post).Nodup) (hj : j ∈ post) : ¬ (pre ++ q :: post).idxOf j < (pre ++ q :: post).idxOf q := by
  intro h
  have h1 := idxOf_append_lt hn h
  exact (List.nodup_append.1 hn).2.2 j h1 j (List.mem_cons_of_mem _ hj) rfl
end looks

open Classical in
/-- What a slot holds for the machine, which has still to do σ. -/
noncomputable def curT (ops : Array Oper) (σ : List Nat) (T0 T : Tr AV) (t : Tmp) : AV :=
  if ∃ j, writes ops j t = true ∧ j ∉ σ then slotT T t else slotT T0 t

open Classical in
/-- What a slot holds for an operation, whenever it is done. -/
noncomputable def lookT (ops : Array Oper) (q : Nat) (T0 T : Tr AV) (t : Tmp) : AV :=
  if ∃ j, writes ops j t = true ∧ Behind ops q j then slotT T t else slotT T0 t

section
variable {P : Program} {ops : Array Oper} {T0 T : Tr AV}

/-- An operation that is ahead of all that is left looks at what it should. -/
theorem cur_look {full : List Nat} (hp : PlanOK ops full) {q : Nat} {σ : List Nat} {o : Oper} (hl : Lin ops σ) (hq : q ∈ σ) (hq1 : ∀ j, Behind ops q j → j ∉ σ) (ho : ops[q]? = some o) {t : Tmp} (ht : t ∈ looks ops o) :
    curT ops σ T0 T t = lookT ops q T0 T t := by
  have hqs := hl.lt q hq
  unfold curT lookT
  by_cases hw : ∃ j, writes ops j t = true
  · obtain ⟨j, hj⟩ := hw
    rcases hp.reads hj ho ht with ⟨h1, h2⟩ | ⟨h1, _⟩
    · rw [if_pos ⟨j, hj, hq1 j h2⟩, if_pos ⟨j, hj, h2⟩]
    · rw [if_neg, if_neg]
      · rintro ⟨j', hj', h3⟩
        obtain rfl := hp.one hj hj'
        rcases h1 with rfl | h1
        · exact hp.irrefl hqs h3
        · exact hp.asym hqs (writes_lt hj) h3 h1
      · rintro ⟨j', hj', h3⟩
        obtain rfl := hp.one hj hj'
        rcases h1 with rfl | h1
        · exact h3 hq
        · exact hl.closed j (writes_lt hj) h3 q h1 hq
  · rw [if_neg (fun ⟨j, hj, _⟩ => hw ⟨j, hj⟩), if_neg (fun ⟨j, hj, _⟩ => hw ⟨j, hj⟩)]

/-- So it does in the evaluator's order. -/
theorem abs_look {pre rest : List Nat} {q : Nat} (hp : PlanOK ops (pre ++ q :: rest)) (keep : ∀ t, (∀ j, writes ops j t = true → j ∈ q :: rest) → T.get (Key.ofNat t) = T0.get (Key.ofNat t))
    {o : Oper} (ho : ops[q]? = some o) {t : Tmp} (ht : t ∈ looks ops o) : slotT T t = lookT ops q T0 T t := by
  have hqs : q < ops.size := (Array.getElem?_eq_some_iff.1 ho).1
  unfold lookT
  by_cases hw : ∃ j, writes ops j t = true
  · obtain ⟨j, hj⟩ := hw
    rcases hp.reads hj ho ht with ⟨h1, h2⟩ | ⟨h1, _⟩
    · rw [if_pos ⟨j, hj, h2⟩]
    · rw [if_neg]
      · unfold slotT
        rw [keep t]
        intro j' hj'
        obtain rfl := hp.one hj hj'
        rcases h1 with rfl | h1
        · exact List.mem_cons_self
        · have h3 := hp.order j q (writes_lt hj) hqs h1
          have hm : j ∈ pre ++ q :: rest := mem_of_full hp.len hp.lt hp.nodup j (writes_lt hj)
          rcases List.mem_append.1 hm with h4 | h4
          · exfalso
            have hq : q ∉ pre := fun hq => (List.nodup_append.1 hp.nodup).2.2 q hq q List.mem_cons_self rfl
            rw [List.idxOf_append, if_neg hq, List.idxOf_append, if_pos h4] at h3
            have := List.idxOf_lt_length_of_mem h4
            omega
          · exact h4
      · rintro ⟨j', hj', h3⟩
        obtain rfl := hp.one hj hj'
        rcases h1 with rfl | h1
        · exact hp.irrefl hqs h3
        · exact hp.asym hqs (writes_lt hj) h3 h1
  · rw [if_neg (fun ⟨j, hj, _⟩ => hw ⟨j, hj⟩)]
    unfold slotT
    rw [keep t (fun j hj => absurd ⟨j, hj⟩ hw)]

/-- The operands and the guard of an operation are among its looks. -/
theorem operand_looks {o : Oper} {t : Tmp} (h : Operand.tmp t ∈ o.op.operands.toList) : t ∈ looks ops o := by
  unfold looks
  refine List.mem_append_left _ ?_
  rw [List.mem_filterMap]
  exact ⟨_, h, rfl⟩
theorem guard_looks {o : Oper} {j : Nat} {b : Bool} {t : Tmp} (hg : o.guard = some (j, b)) (ht : (ops[j]?).bind (·.dst) = some t) : t ∈ looks ops o := by
  unfold looks
  refine List.mem_append_right _ ?_
  rw [hg]; dsimp only; rw [ht]; exact List.mem_cons_self

theorem evalOp_looks {o : Oper} {f g : Tmp → AV} {h : Heap} (hfg : ∀ t ∈ looks ops o, f t = g t) : evalOp P (evF P f) o h = evalOp P (evF P g) o h := by
  refine evalOp_congr fun x hx => ?_
  cases x with
  | tmp t => exact hfg t (operand_looks hx)
  | const v => rfl
  | global g => rfl
  | func f => rfl
theorem wantedA_looks {o : Oper} {f g : Tmp → AV} (hfg : ∀ t ∈ looks ops o, f t = g t) : wantedA ops o (evF P f) = wantedA ops o (evF P g) :=
  wantedA_congr fun j b t hg ht => hfg t (guard_looks hg ht)

/-- An operation that the evaluator has done and the machine not yet. -/
def Pend (P : Program) (ρ : Rho) (h : Heap) (ok : Bool) (ops : Array Oper) (seen : List Nat) (T0 T : Tr AV) (n : Nat) (nm : Nat → Key) (q : Nat) : Prop :=
  ∃ o v, ops[q]? = some o ∧ (∀ t, o.dst = some t → t < n ∧ T.get (Key.ofNat t) = some v) ∧
    ((wantedA ops o (evF P (lookT ops q T0 T)) = false ∧ v = undefA) ∨
     (wantedA ops o (evF P (lookT ops q T0 T)) = true ∧
      ((rank o.op = 0 ∧ ∀ h', evalOp P (evF P (lookT ops q T0 T)) o h' = some (.val v h')) ∨
       (makes o.op = true ∧ ∃ h0 o', evalOp P (evF P (lookT ops q T0 T)) o h0 = some (.val v (h0.new o')) ∧ h0.nx = nm q ∧ h.get (nm q) = some o' ∧ ρ (nm q) = none ∧ (nm q).toNat < h.nx.toNat) ∨
       (rank o.op = 1 ∧ makes o.op = false ∧ q ∈ seen ∧ (ok = true → evalOp P (evF P (lookT ops q T0 T)) o h = some (.val v h))))))

/-- One that makes a block. -/
def isMake (P : Program) (ops : Array Oper) (T0 T : Tr AV) (q : Nat) : Prop := ∃ o, ops[q]? = some o ∧ makes o.op = true ∧ wantedA ops o (evF P (lookT ops q T0 T)) = true

/-- How the evaluator, which has still to do plan, stands to the machine, which has still to do σ. -/
structure DR (P : Program) (ρ : Rho) (h : Heap) (ok : Bool) (ops : Array Oper) (plan seen : List Nat) (T0 T : Tr AV) (n : Nat) (σ : List Nat) (tmps : Array Value) (nm : Nat → Key) : Prop where
  full : ∃ pre, PlanOK ops (pre ++ plan)
  lin : Lin ops σ
  sub : ∀ i ∈ plan, i ∈ σ
  size : tmps.size = n
  tm : ∀ t, VR ρ (curT ops σ T0 T t) (tmps.getD t Go.undef)
  keep : ∀ t, (∀ j, writes ops j t = true → j ∈ plan) → T.get (Key.ofNat t) = T0.get (Key.ofNat t)
  pend : ∀ q ∈ σ, q ∉ plan → Pend P ρ h ok ops seen T0 T n nm q
  names : ∀ q ∈ σ, q ∉ plan → isMake P ops T0 T q → ∀ q' ∈ σ, q' ∉ plan → isMake P ops T0 T q' → nm q = nm q' → q = q'

/-- The start of a region. -/
theorem DR.start {ρ : Rho} {h : Heap} {plan : List Nat} {n : Nat} {tmps : Array Value} (hp : planOf ops = some plan) (ht : TR ρ n T tmps) (t : Nat) (nm : Nat → Key) :
    DR P ρ h true ops plan [] T T n (Region.schedule true ops t) tmps nm := by
  have hok := planOf_some hp
  obtain ⟨h1, h2⟩ := lin_schedule hok t
  refine ⟨⟨[], hok⟩, h1, fun i hi => h2 i (hok.lt i hi), ht.size, fun t' => ?_, fun _ _ => rfl, fun q hq hn => ?_, fun q hq hn => ?_⟩
  · unfold curT; split <;> exact ht.get t'
  · exact absurd (mem_of_full hok.len hok.lt hok.nodup q (h1.lt q hq)) hn
  · exact absurd (mem_of_full hok.len hok.lt hok.nodup q (h1.lt q hq)) hn

/-- The end of a region. -/
theorem DR.finish {ρ : Rho} {h : Heap} {ok : Bool} {seen : List Nat} {n : Nat} {tmps : Array Value} {nm : Nat → Key} (hd : DR P ρ h ok ops [] seen T0 T n [] tmps nm) : TR ρ n T tmps := by
  refine ⟨hd.size, fun t => ?_⟩
  have h1 := hd.tm t
  unfold curT at h1
  split at h1
  · exact h1
  · rename_i hn
    have := hd.keep t (fun j hj => absurd ⟨j, hj, by simp⟩ hn)
    unfold slotT at h1
    rw [this]; exact h1

theorem Pend.mono {ρ ρ' : Rho} {h h' : Heap} {ok : Bool} {seen : List Nat} {n : Nat} {nm : Nat → Key} {q : Nat} (hp : Pend P ρ h ok ops seen T0 T n nm q) (he : Ext ρ h ρ' h') :
    Pend P ρ' h' false ops seen T0 T n nm q := by
  obtain ⟨o, v, h1, h2, h3⟩ := hp
  refine ⟨o, v, h1, h2, ?_⟩
  rcases h3 with h3 | ⟨h3, h4 | ⟨h4, h0, o', h5, h6, h7, h8, h9⟩ | ⟨h4, h5, h6, _⟩⟩
  · exact .inl h3
  · exact .inr ⟨h3, .inl h4⟩
  · obtain ⟨a, b⟩ := he.out _ h8 h9
    exact .inr ⟨h3, .inr (.inl ⟨h4, h0, o', h5, h6, by rw [b]; exact h7, a, Nat.lt_of_lt_of_le h9 he.nx⟩)⟩
  · exact .inr ⟨h3, .inr (.inr ⟨h4, h5, h6, fun h => by cases h⟩)⟩

/-- While another frame runs. -/
theorem DR.mono {ρ ρ' : Rho} {h h' : Heap} {ok : Bool} {plan seen σ : List Nat} {n : Nat} {tmps : Array Value} {nm : Nat → Key} (hd : DR P ρ h ok ops plan seen T0 T n σ tmps nm) (he : Ext ρ h ρ' h') :
    DR P ρ' h' false ops plan seen T0 T n σ tmps nm :=
  ⟨hd.full, hd.lin, hd.sub, hd.size, fun t => (hd.tm t).mono he.up, hd.keep, fun q hq hn => (hd.pend q hq hn).mono he, hd.names⟩

theorem slotT_put_same (T : Tr AV) (t : Tmp) (v : AV) : slotT (T.put (Key.ofNat t) (some v)) t = v := by
  unfold slotT; rw [Tr.get_put_same]; rfl
theorem slotT_put_ne (T : Tr AV) {t t' : Tmp} (v : AV) (h : t' ≠ t) : slotT (T.put (Key.ofNat t) (some v)) t' = slotT T t' := by
  unfold slotT; rw [Tr.get_put_ne _ _ _ _ (Key.ofNat_ne h)]

/-- The slots behind a step. -/
theorem putT_get {n : Nat} {T' : Tr AV} {d : Option Tmp} {v : AV} (h : putT n T d v = some T') :
    (∀ t, d = some t → t < n ∧ T'.get (Key.ofNat t) = some v) ∧ (∀ t, d ≠ some t → T'.get (Key.ofNat t) = T.get (Key.ofNat t)) := by
  unfold putT at h
  cases d with
  | none => cases h; exact ⟨fun t h => (by cases h), fun _ _ => rfl⟩
  | some t0 =>
    dsimp only at h
    split at h
    · rename_i hb
      cases h
      refine ⟨fun t ht => ?_, fun t ht => ?_⟩
      · cases ht; exact ⟨by rw [Nat.blt_eq] at hb; exact hb, Tr.get_put_same _ _ _⟩
      · exact Tr.get_put_ne _ _ _ _ (Key.ofNat_ne (fun e => ht (by rw [e])))
    · cases h

theorem dst_writes {q : Nat} {o : Oper} (ho : ops[q]? = some o) {t : Tmp} : o.dst = some t ↔ writes ops q t = true := by
  rw [writes_iff, ho]; rfl

/-- What the looks of an operation that is done already are behind a step of another one. -/
theorem look_put {full : List Nat} (hp : PlanOK ops full) {q i : Nat} {oq oi : Oper} (hoq : ops[q]? = some oq) (hoi : ops[i]? = some oi) (hqi : ¬ Behind ops q i)
    {T' : Tr AV} (hT : ∀ t, oi.dst ≠ some t → T'.get (Key.ofNat t) = T.get (Key.ofNat t)) (t : Tmp) : lookT ops q T0 T' t = lookT ops q T0 T t := by
  unfold lookT
  by_cases hw : ∃ j, writes ops j t = true ∧ Behind ops q j
  · rw [if_pos hw, if_pos hw]
    obtain ⟨j, hj, hb⟩ := hw
    unfold slotT
    rw [hT t]
    intro hd
    have hi := (dst_writes hoi).1 hd
    obtain rfl := hp.one hi hj
    exact hqi hb
  · rw [if_neg hw, if_neg hw]

theorem Pend.put {full : List Nat} (hp : PlanOK ops full) {ρ : Rho} {h : Heap} {ok : Bool} {seen seen' : List Nat} {n : Nat} {nm : Nat → Key} {q i : Nat} {oi : Oper} (hpe : Pend P ρ h ok ops seen T0 T n nm q)
    (hoi : ops[i]? = some oi) (hne : q ≠ i) (hqi : ¬ Behind ops q i) {T' : Tr AV} (hT : ∀ t, oi.dst ≠ some t → T'.get (Key.ofNat t) = T.get (Key.ofNat t)) (hs : ∀ x ∈ seen, x ∈ seen') :
    Pend P ρ h ok ops seen' T0 T' n nm q := by
  obtain ⟨o, v, h1, h2, h3⟩ := hpe
  have hl : lookT ops q T0 T' = lookT ops q T0 T := funext fun t => look_put hp h1 hoi hqi hT t
  refine ⟨o, v, h1, fun t ht => ?_, ?_⟩
  · obtain ⟨a, b⟩ := h2 t ht
    refine ⟨a, ?_⟩
    rw [hT t, b]
    intro hd
    exact hne (hp.one ((dst_writes h1).1 ht) ((dst_writes hoi).1 hd))
  · rw [hl]
    rcases h3 with h3 | ⟨h3, h4 | h4 | ⟨h4, h5, h6, h7⟩⟩
    · exact .inl h3
    · exact .inr ⟨h3, .inl h4⟩
    · exact .inr ⟨h3, .inr (.inl h4)⟩
    · exact .inr ⟨h3, .inr (.inr ⟨h4, h5, hs _ h6, h7⟩)⟩

/-- What stands ahead in a plan is not behind. -/
theorem not_behind_of_plan {pre rest : List Nat} {i q : Nat} (hp : PlanOK ops (pre ++ i :: rest)) (hq : q < ops.size) (hi : i < ops.size) (hn : q ∉ i :: rest) : ¬ Behind ops q i := by
  intro hb
  have h1 := hp.order q i hq hi hb
  have hm : q ∈ pre ++ i :: rest := mem_of_full hp.len hp.lt hp.nodup q hq
  have hqp : q ∈ pre := (List.mem_append.1 hm).resolve_right hn
  have hin : i ∉ pre := fun hx => (List.nodup_append.1 hp.nodup).2.2 i hx i List.mem_cons_self rfl
  rw [List.idxOf_append, if_neg hin, List.idxOf_append, if_pos hqp] at h1
  have := List.idxOf_lt_length_of_mem hqp
  omega

theorem curT_put {full : List Nat} (hp : PlanOK ops full) {σ : List Nat} {i : Nat} {oi : Oper} (hoi : ops[i]? = some oi) (hi : i ∈ σ)
    {T' : Tr AV} (hT : ∀ t, oi.dst ≠ some t → T'.get (Key.ofNat t) = T.get (Key.ofNat t)) (t : Tmp) : curT ops σ T0 T' t = curT ops σ T0 T t := by
  unfold curT
  by_cases hw : ∃ j, writes ops j t = true ∧ j ∉ σ
  · rw [if_pos hw, if_pos hw]
    obtain ⟨j, hj, hb⟩ := hw
    unfold slotT
    rw [hT t]
    intro hd
    obtain rfl := hp.one ((dst_writes hoi).1 hd) hj
    exact hb hi
  · rw [if_neg hw, if_neg hw]

theorem plan_tail {pre rest : List Nat} {i : Nat} (hp : PlanOK ops (pre ++ i :: rest)) : PlanOK ops ((pre ++ [i]) ++ rest) := by
  have : (pre ++ [i]) ++ rest = pre ++ i :: rest := by simp
  rw [this]; exact hp

theorem keep_put {rest : List Nat} {i : Nat} {oi : Oper} (hoi : ops[i]? = some oi) (hin : i ∉ rest) (keep : ∀ t, (∀ j, writes ops j t = true → j ∈ i :: rest) → T.get (Key.ofNat t) = T0.get (Key.ofNat t))
    {T' : Tr AV} (hT : ∀ t, oi.dst ≠ some t → T'.get (Key.ofNat t) = T.get (Key.ofNat t)) (t : Tmp) (h : ∀ j, writes ops j t = true → j ∈ rest) : T'.get (Key.ofNat t) = T0.get (Key.ofNat t) := by
  rw [hT t (fun hd => hin (h i ((dst_writes hoi).1 hd))), keep t (fun j hj => List.mem_cons_of_mem _ (h j hj))]

theorem nodup_rest {pre rest : List Nat} {i : Nat} (hp : PlanOK ops (pre ++ i :: rest)) : i ∉ rest := (List.nodup_cons.1 (List.nodup_append.1 hp.nodup).2.1).1

theorem makes_rank {op : Op} (h : makes op = true) : rank op = 1 := by cases op <;> first | rfl | (simp [makes] at h)

/-- A pending maker's name is older than the heap's next one. -/
theorem Pend.older {ρ : Rho} {h : Heap} {ok : Bool} {seen : List Nat} {n : Nat} {nm : Nat → Key} {q : Nat} (hp : Pend P ρ h ok ops seen T0 T n nm q) (hm : isMake P ops T0 T q) :
    (nm q).toNat < h.nx.toNat ∧ ρ (nm q) = none := by
  obtain ⟨o, v, h1, h2, h3⟩ := hp
  obtain ⟨o', g1, g2, g3⟩ := hm
  rw [h1] at g1; cases g1
  rcases h3 with ⟨h3, _⟩ | ⟨h3, ⟨h4, _⟩ | ⟨h4, h0, o', h5, h6, h7, h8, h9⟩ | ⟨h4, h5, _⟩⟩
  · rw [h3] at g3; cases g3
  · rw [makes_rank g2] at h4; cases h4
  · exact ⟨h9, h8⟩
  · rw [h5] at g2; cases g2

/-- The evaluator does a quiet operation (or leaves one out), the machine nothing. -/
theorem DR.quiet {B : Nat} {w0 w : World} {ρ : Rho} {h h' : Heap} {rest seen : List Nat} {i n : Nat} {σ : List Nat} {tmps : Array Value} {nm : Nat → Key} {o : Oper} {v : AV} {T' : Tr AV}
    (hr : HR B w0 ρ h w) (hd : DR P ρ h true ops (i :: rest) seen T0 T n σ tmps nm) (ho : ops[i]? = some o) (hput : putT n T o.dst v = some T')
    (hcase : (wantedA ops o (ev P T) = false ∧ v = undefA ∧ h' = h) ∨ (wantedA ops o (ev P T) = true ∧ rank o.op ≠ 2 ∧ evalOp P (ev P T) o h = some (.val v h')))
    {seen' : List Nat} (hseen : ∀ x ∈ seen, x ∈ seen') (hsi : wantedA ops o (ev P T) = true → rank o.op = 1 → makes o.op = false → i ∈ seen') :
    HR B w0 ρ h' w ∧ Ext ρ h ρ h' ∧ ∃ nm', DR P ρ h' true ops rest seen' T0 T' n σ tmps nm' ∧
      ∀ q ∈ σ, q ∉ rest → isMake P ops T0 T' q → (nm' q = h.nx ∨ (q ∉ i :: rest ∧ isMake P ops T0 T q ∧ nm' q = nm q)) := by
  obtain ⟨pre, hp⟩ := hd.full
  have hin := nodup_rest hp
  have his : i < ops.size := (Array.getElem?_eq_some_iff.1 ho).1
  have hiσ : i ∈ σ := hd.sub i List.mem_cons_self
  obtain ⟨hT1, hT2⟩ := putT_get hput
  -- the operation's own looks
  have hla : ∀ t ∈ looks ops o, slotT T t = lookT ops i T0 T' t := by
    intro t ht
    rw [abs_look hp hd.keep ho ht]
    exact (look_put hp ho ho (hp.irrefl his) hT2 t).symm
  have hev : ∀ hh, evalOp P (ev P T) o hh = evalOp P (evF P (lookT ops i T0 T')) o hh := fun hh => evalOp_looks hla
  have hwt : wantedA ops o (ev P T) = wantedA ops o (evF P (lookT ops i T0 T')) := wantedA_looks hla
  have hnb : ∀ q ∈ σ, q ∉ i :: rest → ¬ Behind ops q i := fun q hq hn => not_behind_of_plan hp (hd.lin.lt q hq) his hn
  have hold : ∀ q ∈ σ, q ∉ i :: rest → Pend P ρ h true ops seen' T0 T' n nm q := fun q hq hn =>
    (hd.pend q hq hn).put hp ho (fun e => hn (by rw [e]; exact List.mem_cons_self)) (hnb q hq hn) hT2 hseen
  have hmkold : ∀ q ∈ σ, q ∉ i :: rest → isMake P ops T0 T' q → isMake P ops T0 T q := by
    intro q hq hn ⟨oq, g1, g2, g3⟩
    refine ⟨oq, g1, g2, ?_⟩
    rw [← g3]
    exact wantedA_looks fun t ht => (look_put hp g1 ho (hnb q hq hn) hT2 t).symm
  have mk : ∀ (h' : Heap) (nm' : Nat → Key), (∀ q ∈ σ, q ∉ i :: rest → Pend P ρ h' true ops seen' T0 T' n nm' q) →
      Pend P ρ h' true ops seen' T0 T' n nm' i →
      (∀ q ∈ σ, q ∉ rest → isMake P ops T0 T' q → ∀ q' ∈ σ, q' ∉ rest → isMake P ops T0 T' q' → nm' q = nm' q' → q = q') →
      DR P ρ h' true ops rest seen' T0 T' n σ tmps nm' := by
    intro h' nm' hp1 hp2 hnn
    refine ⟨⟨pre ++ [i], plan_tail hp⟩, hd.lin, fun j hj => hd.sub j (List.mem_cons_of_mem _ hj), hd.size, fun t => by rw [curT_put hp ho hiσ hT2]; exact hd.tm t, keep_put ho hin hd.keep hT2, fun q hq hn => ?_, hnn⟩
    by_cases e : q = i
    · subst e; exact hp2
    · exact hp1 q hq (by simp [e, hn])
  have hsame : ¬ isMake P ops T0 T' i → ∀ q ∈ σ, q ∉ rest → isMake P ops T0 T' q → (nm q = h.nx ∨ (q ∉ i :: rest ∧ isMake P ops T0 T q ∧ nm q = nm q)) := by
    intro hni q hq hn hm
    have e1 : q ≠ i := fun e => hni (e ▸ hm)
    have n1 : q ∉ i :: rest := by simp [e1, hn]
    exact .inr ⟨n1, hmkold q hq n1 hm, rfl⟩
  have hnames : ¬ isMake P ops T0 T' i → ∀ q ∈ σ, q ∉ rest → isMake P ops T0 T' q → ∀ q' ∈ σ, q' ∉ rest → isMake P ops T0 T' q' → nm q = nm q' → q = q' := by
    intro hni q hq hn hm q' hq' hn' hm' he
    have e1 : q ≠ i := fun e => hni (e ▸ hm)
    have e2 : q' ≠ i := fun e => hni (e ▸ hm')
    have n1 : q ∉ i :: rest := by simp [e1, hn]
    have n2 : q' ∉ i :: rest := by simp [e2, hn']
    exact hd.names q hq n1 (hmkold q hq n1 hm) q' hq' n2 (hmkold q' hq' n2 hm') he
  rcases hcase with ⟨hw, rfl, rfl⟩ | ⟨hw, hrk, he⟩
  · have hni : ¬ isMake P ops T0 T' i := by
      rintro ⟨o', g1, g2, g3⟩
      rw [ho] at g1; cases g1
      rw [← hwt, hw] at g3; cases g3
    exact ⟨hr, Ext.refl _ _, nm, mk h' nm hold ⟨o, undefA, ho, hT1, .inl ⟨by rw [← hwt]; exact hw, rfl⟩⟩ (hnames hni), hsame hni⟩
  · by_cases hmk : makes o.op = true
    · -- it makes a block
      obtain ⟨v1, o', hv, hro, hrun⟩ := make_run hmk he
      cases hv
      have hf := hr.fresh h.nx (Nat.le_refl _)
      refine ⟨hr.ahead o', Ext.ahead hr o', fun q => if q = i then h.nx else nm q, mk _ _ (fun q hq hn => ?_) ?_ ?_, fun q hq hn hm => ?_⟩
      · have e : q ≠ i := fun e => hn (by rw [e]; exact List.mem_cons_self)
        obtain ⟨oq, vq, g1, g2, g3⟩ := hold q hq hn
        refine ⟨oq, vq, g1, g2, ?_⟩
        rcases g3 with g3 | ⟨g3, g4 | ⟨g4, h0, o1, g5, g6, g7, g8, g9⟩ | ⟨g4, g5, g6, g7⟩⟩
        · exact .inl g3
        · exact .inr ⟨g3, .inl g4⟩
        · refine .inr ⟨g3, .inr (.inl ⟨g4, h0, o1, g5, by simp [e, g6], ?_, by simp [e, g8], ?_⟩)⟩
          · simp only [e, if_false]; exact get_more hf.2 g7
          · simp only [e, if_false]; rw [nx_new]; omega
        · refine .inr ⟨g3, .inr (.inr ⟨g4, g5, g6, fun _ => ?_⟩)⟩
          obtain ⟨v2, e1, e2⟩ := evalOp_look g4 g5 (g7 rfl)
          cases e1
          exact e2 hf.2 o'
      · refine ⟨o, v, ho, hT1, .inr ⟨by rw [← hwt]; exact hw, .inr (.inl ⟨hmk, h, o', by rw [← hev]; exact he, by simp, ?_, ?_, ?_⟩)⟩⟩
        · simp only [if_true]; exact Heap.get_new_same _ _
        · simp only [if_true]; exact hf.1
        · simp only [if_true]; rw [nx_new]; omega
      · intro q hq hn hm q' hq' hn' hm' hen
        have hlt : ∀ x ∈ σ, x ∉ rest → x ≠ i → isMake P ops T0 T' x → nm x ≠ h.nx := by
          intro x hx hxn hxi hxm hxe
          have n1 : x ∉ i :: rest := by simp [hxi, hxn]
          have := ((hd.pend x hx n1).older (hmkold x hx n1 hxm)).1
          rw [hxe] at this; omega
        by_cases e1 : q = i
        · by_cases e2 : q' = i
          · rw [e1, e2]
          · simp only [e1, e2, if_true, if_false] at hen
            exact absurd hen.symm (hlt q' hq' hn' e2 hm')
        · by_cases e2 : q' = i
          · simp only [e1, e2, if_true, if_false] at hen
            exact absurd hen (hlt q hq hn e1 hm)
          · simp only [e1, e2, if_false] at hen
            have n1 : q ∉ i :: rest := by simp [e1, hn]
            have n2 : q' ∉ i :: rest := by simp [e2, hn']
            exact hd.names q hq n1 (hmkold q hq n1 hm) q' hq' n2 (hmkold q' hq' n2 hm') hen
      · by_cases e : q = i
        · left; simp [e]
        · have n1 : q ∉ i :: rest := by simp [e, hn]
          exact .inr ⟨n1, hmkold q hq n1 hm, by simp [e]⟩
    · have hmk' : makes o.op = false := by simpa using hmk
      have hni : ¬ isMake P ops T0 T' i := by
        rintro ⟨o', g1, g2, g3⟩
        rw [ho] at g1; cases g1
        exact hmk g2
      by_cases hr0 : rank o.op = 0
      · obtain ⟨v1, e1, e2⟩ := evalOp_pure hr0 he
        cases e1
        exact ⟨hr, Ext.refl _ _, nm, mk h nm hold ⟨o, v, ho, hT1, .inr ⟨by rw [← hwt]; exact hw, .inl ⟨hr0, fun hh => by rw [← hev]; exact e2 hh⟩⟩⟩ (hnames hni), hsame hni⟩
      · have hr1 : rank o.op = 1 := by
          have : rank o.op ≤ 2 := by unfold rank; split <;> first | omega | (split <;> omega)
          omega
        obtain ⟨v1, e1, _⟩ := evalOp_look hr1 hmk' he
        cases e1
        exact ⟨hr, Ext.refl _ _, nm, mk h nm hold ⟨o, v, ho, hT1, .inr ⟨by rw [← hwt]; exact hw, .inr (.inr ⟨hr1, hmk', hsi hw hr1 hmk', fun _ => by rw [← hev]; exact he⟩)⟩⟩ (hnames hni), hsame hni⟩
end
end Go.Ev
