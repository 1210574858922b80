/- Drawn regions: what an order that the machine draws is like; and what the look at a plan shows. No condition. -/
import Derived.Test.YtgfjlegiofhboaaGreatDoorEvOps6
import Derived.Orders
namespace Go.Ev
open Go.RowKit
set_option linter.unusedVariables false
set_option linter.unusedSimpArgs false
set_option autoImplicit false

theorem revInd {α : Type} {Q : List α → Prop} (h0 : Q []) (h1 : ∀ l a, Q l → Q (l ++ [a])) (l : List α) : Q l := by
  have : ∀ m : List α, Q m.reverse := by
    intro m
    induction m with
    | nil => exact h0
    | cons a m ih => rw [List.reverse_cons]; exact h1 _ _ ih
  have h2 := this l.reverse
  rwa [List.reverse_reverse] at h2

theorem card_le : ∀ (n : Nat) (l : List Nat), l.Nodup → (∀ x ∈ l, x < n) → l.length ≤ n
  | 0, l, _, h => by
    cases l with
    | nil => simp
    | cons a l => exact absurd (h a List.mem_cons_self) (by omega)
  | n + 1, l, hn, h => by
    by_cases hm : n ∈ l
    · have h1 := card_le n (l.erase n) (hn.erase n) (fun x hx => by
        have h2 := (hn.mem_erase_iff).1 hx
        have := h x h2.2
        have := h2.1
        omega)
      rw [List.length_erase_of_mem hm] at h1
      omega
    · have := card_le n l hn (fun x hx => by
        have := h x hx
        have : x ≠ n := fun e => hm (e ▸ hx)
        omega)
      omega

/-- The mask of one operation, out of those of the ones ahead. -/
def mask (acc : Array Nat) (o : Oper) : Nat := o.after.foldl (fun s e => if Region.binds .any e then s ||| 2 ^ e.on ||| acc.getD e.on 0 else s) 0

theorem mask_bit (acc : Array Nat) (j : Nat) : ∀ (es : List Edge) (s : Nat),
    ((es.foldl (fun s e => if Region.binds .any e then s ||| 2 ^ e.on ||| acc.getD e.on 0 else s) s).testBit j = true ↔
      s.testBit j = true ∨ ∃ e ∈ es, Region.binds .any e = true ∧ (j = e.on ∨ (acc.getD e.on 0).testBit j = true))
  | [], s => by simp
  | e :: es, s => by
    rw [List.foldl_cons, mask_bit acc j es]
    by_cases hb : Region.binds .any e = true
    · rw [if_pos hb]
      simp only [Nat.testBit_or, Bool.or_eq_true, Nat.testBit_two_pow, decide_eq_true_eq, List.mem_cons]
      constructor
      · rintro (((h | h) | h) | ⟨e', h1, h2⟩)
        · exact .inl h
        · exact .inr ⟨e, .inl rfl, hb, .inl h.symm⟩
        · exact .inr ⟨e, .inl rfl, hb, .inr h⟩
        · exact .inr ⟨e', .inr h1, h2⟩
      · rintro (h | ⟨e', rfl | h1, h2, h3⟩)
        · exact .inl (.inl (.inl h))
        · rcases h3 with h3 | h3
          · exact .inl (.inl (.inr h3.symm))
          · exact .inl (.inr h3)
        · exact .inr ⟨e', h1, h2, h3⟩
    · rw [if_neg hb]
      simp only [List.mem_cons]
      constructor
      · rintro (h | ⟨e', h1, h2⟩)
        · exact .inl h
        · exact .inr ⟨e', .inr h1, h2⟩
      · rintro (h | ⟨e', rfl | h1, h2⟩)
        · exact .inl h
        · exact absurd h2.1 hb
        · exact .inr ⟨e', h1, h2⟩

/-- The masks of the first operations. -/
def masks (l : List Oper) : Array Nat := l.foldl (fun acc o => acc.push (mask acc o)) #[]
theorem before_masks (ops : Array Oper) : Region.before ops = masks ops.toList := by
  unfold Region.before masks
  rw [← Array.foldl_toList]; rfl
theorem masks_snoc (l : List Oper) (o : Oper) : masks (l ++ [o]) = (masks l).push (mask (masks l) o) := by simp [masks]
theorem masks_size (l : List Oper) : (masks l).size = l.length := by
  induction l using revInd with
  | h0 => rfl
  | h1 l o ih => rw [masks_snoc]; simp [ih]

theorem masks_get : ∀ (l : List Oper) (i : Nat) (o : Oper), l[i]? = some o → (masks l)[i]? = some (mask (masks (l.take i)) o) := by
  intro l
  induction l using revInd with
  | h0 => intro i o h; simp at h
  | h1 l o' ih =>
    intro i o h
    rw [masks_snoc]
    by_cases hi : i < l.length
    · rw [List.getElem?_append_left hi] at h
      rw [Array.getElem?_push_lt (by rw [masks_size]; exact hi)]
      have := ih i o h
      rw [Array.getElem?_eq_getElem (by rw [masks_size]; exact hi)] at this
      rw [this, List.take_append_of_le_length (by omega)]
    · have hil : i = l.length := by
        have := (List.getElem?_eq_some_iff.1 h).1
        simp at this; omega
      subst hil
      rw [List.getElem?_append_right (Nat.le_refl _)] at h
      simp at h
      subst h
      have hs := masks_size l
      rw [show l.length = (masks l).size from hs.symm, Array.getElem?_push_size, masks_size]
      simp

theorem masks_take (l : List Oper) (i k : Nat) (hk : k < i) : (masks (l.take i)).getD k 0 = (masks l).getD k 0 ∨ l.length ≤ k := by
  by_cases hkl : k < l.length
  · left
    have h1 : (l.take i)[k]? = some l[k] := by rw [List.getElem?_take, if_pos hk, List.getElem?_eq_getElem hkl]
    have h2 : l[k]? = some l[k] := List.getElem?_eq_getElem hkl
    have e1 := masks_get _ _ _ h1
    have e2 := masks_get _ _ _ h2
    rw [List.take_take, Nat.min_eq_left (by omega)] at e1
    simp only [Array.getD_eq_getD_getElem?, e1, e2]
  · right; omega

/-- What a bit of the masks says. -/
theorem before_bit {ops : Array Oper} {i : Nat} {o : Oper} (ho : ops[i]? = some o) (j : Nat) :
    ((Region.before ops).getD i 0).testBit j = true ↔ ∃ e ∈ o.after.toList, Region.binds .any e = true ∧ (j = e.on ∨ (e.on < i ∧ ((Region.before ops).getD e.on 0).testBit j = true)) := by
  rw [before_masks]
  have ho' : ops.toList[i]? = some o := by simpa using ho
  have hi : i < ops.toList.length := (List.getElem?_eq_some_iff.1 ho').1
  have hg := masks_get _ _ _ ho'
  rw [Array.getD_eq_getD_getElem?, hg]
  simp only [Option.getD_some]
  unfold mask
  rw [← Array.foldl_toList, mask_bit]
  simp only [Nat.zero_testBit, Bool.false_eq_true, false_or]
  constructor
  · rintro ⟨e, h1, h2, h3 | h3⟩
    · exact ⟨e, h1, h2, .inl h3⟩
    · refine ⟨e, h1, h2, .inr ?_⟩
      by_cases hk : e.on < i
      · rcases masks_take ops.toList i e.on hk with h4 | h4
        · rw [← h4]; exact ⟨hk, h3⟩
        · omega
      · have : (masks (ops.toList.take i)).getD e.on 0 = 0 := by
          rw [Array.getD_eq_getD_getElem?, Array.getElem?_eq_none]
          · rfl
          · rw [masks_size]; simp; omega
        rw [this] at h3; simp at h3
  · rintro ⟨e, h1, h2, h3 | ⟨hk, h3⟩⟩
    · exact ⟨e, h1, h2, .inl h3⟩
    · refine ⟨e, h1, h2, .inr ?_⟩
      rcases masks_take ops.toList i e.on hk with h4 | h4
      · rw [h4]; exact h3
      · omega

/-- i stands behind j. -/
def Behind (ops : Array Oper) (i j : Nat) : Prop := ((Region.before ops).getD i 0).testBit j = true

/-- An order in which each operation stands behind all that its edges name. -/
structure Lin (ops : Array Oper) (σ : List Nat) : Prop where
  nodup : σ.Nodup
  lt : ∀ i ∈ σ, i < ops.size
  order : ∀ pre i post, σ = pre ++ i :: post → ∀ j, Behind ops i j → j ∉ i :: post
  closed : ∀ j, j < ops.size → j ∉ σ → ∀ q, Behind ops j q → q ∉ σ

theorem Lin.tail {ops : Array Oper} {i : Nat} {σ : List Nat} (h : Lin ops (i :: σ)) : Lin ops σ where
  nodup := (List.nodup_cons.1 h.nodup).2
  lt := fun j hj => h.lt j (List.mem_cons_of_mem _ hj)
  order := fun pre j post e => h.order (i :: pre) j post (by rw [e]; rfl)
  closed := by
    intro j hj hn q hb hq
    by_cases e : j = i
    · subst e; exact h.order [] j σ rfl q hb (List.mem_cons_of_mem _ hq)
    · exact h.closed j hj (by simp [e, hn]) q hb (List.mem_cons_of_mem _ hq)

theorem Lin.head {ops : Array Oper} {i : Nat} {σ : List Nat} (h : Lin ops (i :: σ)) {j : Nat} (hb : Behind ops i j) : j ∉ i :: σ := h.order [] i σ rfl j hb

section lin
variable {ops : Array Oper}

theorem go_zero (t : Nat) (listed : Array Bool) : Region.linearise.go .any ops 0 t listed [] = [] := by simp [Region.linearise.go]

theorem go_none {fuel t : Nat} {listed : Array Bool} (h : (Region.ready .any ops listed)[t % (Region.ready .any ops listed).length]? = none) : Region.linearise.go .any ops (fuel + 1) t listed [] = [] := by
  simp only [Region.linearise.go]
  change (match (Region.ready .any ops listed)[t % (Region.ready .any ops listed).length]? with
      | some i => Region.linearise.go .any ops fuel (t / (Region.ready .any ops listed).length) (listed.setIfInBounds i true) [i]
      | none => [].reverse) = _
  rw [h]; rfl

theorem go_some {fuel t i : Nat} {listed : Array Bool} (h : (Region.ready .any ops listed)[t % (Region.ready .any ops listed).length]? = some i) :
    Region.linearise.go .any ops (fuel + 1) t listed [] = i :: Region.linearise.go .any ops fuel (t / (Region.ready .any ops listed).length) (listed.setIfInBounds i true) [] := by
  simp only [Region.linearise.go]
  change (match (Region.ready .any ops listed)[t % (Region.ready .any ops listed).length]? with
      | some i => Region.linearise.go .any ops fuel (t / (Region.ready .any ops listed).length) (listed.setIfInBounds i true) [i]
      | none => [].reverse) = _
  rw [h]
  dsimp only
  rw [linearise_go_acc]
  rfl

theorem ready_mem {listed : Array Bool} {i : Nat} (h : i ∈ Region.ready .any ops listed) :
    i < ops.size ∧ listed.getD i true = false ∧ ∀ o, ops[i]? = some o → ∀ e ∈ o.after.toList, Region.binds .any e = true → listed.getD e.on false = true := by
  unfold Region.ready at h
  rw [List.mem_filter] at h
  obtain ⟨hr, hc⟩ := h
  simp only [Bool.and_eq_true, Bool.not_eq_true'] at hc
  refine ⟨by simpa using hr, hc.1, fun o ho e hem hb => ?_⟩
  have := hc.2
  rw [ho] at this
  simp only [Option.map_some, Option.getD_some] at this
  rw [← Array.all_toList, List.all_eq_true] at this
  have h5 := this e hem
  rw [hb] at h5
  simpa using h5

theorem set_listed {listed : Array Bool} {i k : Nat} (hi : i < listed.size) (hk : (listed.setIfInBounds i true).getD k true = false) : listed.getD k true = false ∧ k ≠ i := by
  have hne : k ≠ i := by
    intro e; subst e
    rw [Array.getD_eq_getD_getElem?, Array.getElem?_setIfInBounds_self] at hk
    rw [if_pos hi] at hk; cases hk
  rw [Array.getD_eq_getD_getElem?, Array.getElem?_setIfInBounds_ne (fun e => hne e.symm), ← Array.getD_eq_getD_getElem?] at hk
  exact ⟨hk, hne⟩

/-- What the machine's listing gives. -/
theorem go_spec : ∀ (fuel t : Nat) (listed : Array Bool), listed.size = ops.size →
    (Region.linearise.go .any ops fuel t listed []).Nodup ∧
    (∀ i ∈ Region.linearise.go .any ops fuel t listed [], i < ops.size ∧ listed.getD i true = false) ∧
    (∀ pre i post, Region.linearise.go .any ops fuel t listed [] = pre ++ i :: post → ∀ o, ops[i]? = some o → ∀ e ∈ o.after.toList, Region.binds .any e = true → e.on ∈ pre ∨ listed.getD e.on false = true)
  | 0, t, listed, hs => by
    rw [go_zero]
    exact ⟨List.nodup_nil, by simp, fun pre i post h => by simp at h⟩
  | fuel + 1, t, listed, hs => by
    cases hi : (Region.ready .any ops listed)[t % (Region.ready .any ops listed).length]? with
    | none =>
      rw [go_none hi]
      exact ⟨List.nodup_nil, by simp, fun pre i post h => by simp at h⟩
    | some i =>
      rw [go_some hi]
      obtain ⟨hlt, hl, hed⟩ := ready_mem (List.mem_of_getElem? hi)
      obtain ⟨g1, g2, g3⟩ := go_spec fuel (t / (Region.ready .any ops listed).length) (listed.setIfInBounds i true) (by simpa using hs)
      have hset := fun k => set_listed (k := k) (show i < listed.size by omega)
      refine ⟨List.nodup_cons.2 ⟨fun hm => (hset i (g2 i hm).2).2 rfl, g1⟩, ?_, ?_⟩
      · intro k hk
        rcases List.mem_cons.1 hk with rfl | hk
        · exact ⟨hlt, hl⟩
        · exact ⟨(g2 k hk).1, (hset k (g2 k hk).2).1⟩
      · intro pre k post he o ho e hem hb
        cases pre with
        | nil =>
          simp only [List.nil_append, List.cons.injEq] at he
          obtain ⟨rfl, _⟩ := he
          exact .inr (hed o ho e hem hb)
        | cons p pre =>
          simp only [List.cons_append, List.cons.injEq] at he
          obtain ⟨rfl, he⟩ := he
          rcases g3 pre k post he o ho e hem hb with h1 | h1
          · exact .inl (List.mem_cons_of_mem _ h1)
          · by_cases hei : e.on = i
            · left; rw [hei]; exact List.mem_cons_self
            · right
              rw [Array.getD_eq_getD_getElem?, Array.getElem?_setIfInBounds_ne (fun x => hei x.symm), ← Array.getD_eq_getD_getElem?] at h1
              exact h1

/-- The looks at a plan, one by one. -/
structure PlanOK (ops : Array Oper) (plan : List Nat) : Prop where
  len : plan.length = ops.size
  lt : ∀ i ∈ plan, i < ops.size
  nodup : plan.Nodup
  small : ∀ i, i < ops.size → (Region.before ops).getD i 0 < 2 ^ ops.size
  order : ∀ i j, i < ops.size → j < ops.size → Behind ops i j → plan.idxOf j < plan.idxOf i
  slot : ∀ i j, i < ops.size → j < ops.size → slotOk ops (Region.before ops) i j = true
  loud : ∀ i j, i < ops.size → j < ops.size → loudOk ops (Region.before ops) plan i j = true

theorem planOf_some {plan : List Nat} (h : planOf ops = some plan) : PlanOK ops plan := by
  unfold planOf at h
  dsimp only at h
  split at h
  · rename_i hok
    cases h
    generalize planGo ops (Region.before ops) ops.size 0 = plan at hok
    unfold planOk at hok
    simp only [Bool.and_eq_true, List.all_eq_true, decide_eq_true_eq, List.mem_range, Nat.blt_eq] at hok
    obtain ⟨⟨⟨h1, h2⟩, h3⟩, h4⟩ := hok
    refine ⟨Nat.eq_of_beq_eq_true h1, h2, h3, fun i hi => (h4 i hi).1, fun i j hi hj hb => ?_, fun i j hi hj => ((h4 i hi).2 j hj).1.2, fun i j hi hj => ((h4 i hi).2 j hj).2⟩
    have := ((h4 i hi).2 j hj).1.1
    unfold Behind at hb
    rw [hb] at this
    simpa using this
  · cases h

theorem mem_of_full {l : List Nat} {n : Nat} (h1 : l.length = n) (h2 : ∀ i ∈ l, i < n) (h3 : l.Nodup) : ∀ i, i < n → i ∈ l := by
  intro i hi
  by_cases hm : i ∈ l
  · exact hm
  · have := card_le n (i :: l) (List.nodup_cons.2 ⟨hm, h3⟩) (fun x hx => by
      rcases List.mem_cons.1 hx with rfl | hx
      · exact hi
      · exact h2 x hx)
    simp at this; omega

/-- Where a plan stands, the machine's listing comes to its end. -/
theorem go_full {plan : List Nat} (hp : PlanOK ops plan) : ∀ (fuel t : Nat) (listed : Array Bool), listed.size = ops.size →
    ((List.range ops.size).filter fun i => !listed.getD i true).length ≤ fuel → ∀ i, i < ops.size → listed.getD i true = false → i ∈ Region.linearise.go .any ops fuel t listed []
  | 0, t, listed, hs, hc, i, hi, hl => by
    have h0 : ((List.range ops.size).filter fun i => !listed.getD i true) = [] := List.eq_nil_of_length_eq_zero (by omega)
    have : i ∈ ((List.range ops.size).filter fun i => !listed.getD i true) := List.mem_filter.2 ⟨by simpa using hi, by rw [hl]; rfl⟩
    rw [h0] at this; simp at this
  | fuel + 1, t, listed, hs, hc, i, hi, hl => by
    -- the first of the plan that is not listed is ready
    have hex : ∀ (k : Nat) (i : Nat), plan.idxOf i ≤ k → i < ops.size → listed.getD i true = false → ∃ r, r ∈ Region.ready .any ops listed := by
      intro k
      induction k using Nat.strongRecOn with
      | _ k ih =>
        intro i hk hi hl
        by_cases hr : i ∈ Region.ready .any ops listed
        · exact ⟨i, hr⟩
        · have ho : ops[i]? = some ops[i] := Array.getElem?_eq_getElem hi
          have hne : ¬ ∀ e ∈ (ops[i]).after.toList, Region.binds .any e = true → listed.getD e.on false = true := by
            intro hall
            apply hr
            unfold Region.ready
            rw [List.mem_filter]
            refine ⟨by simpa using hi, ?_⟩
            rw [hl, ho]
            simp only [Bool.not_false, Bool.true_and, Option.map_some, Option.getD_some]
            rw [← Array.all_toList, List.all_eq_true]
            intro e he
            by_cases hb : Region.binds .any e = true
            · rw [hall e he hb]; simp
            · simp [hb]
          simp only [Classical.not_forall] at hne
          obtain ⟨e, he, hb, hle⟩ := hne
          have hbeh : Behind ops i e.on := (before_bit ho e.on).2 ⟨e, he, hb, .inl rfl⟩
          have heon : e.on < ops.size := by
            have h1 := hp.small i hi
            have h2 := Nat.ge_two_pow_of_testBit hbeh
            exact (Nat.pow_lt_pow_iff_right (by omega)).1 (Nat.lt_of_le_of_lt h2 h1)
          have hlt := hp.order i e.on hi heon hbeh
          refine ih (plan.idxOf e.on) (by omega) e.on (Nat.le_refl _) heon ?_
          have hin : e.on < listed.size := by omega
          rw [Array.getD_eq_getD_getElem?, Array.getElem?_eq_getElem hin] at hle ⊢
          simpa using hle
    obtain ⟨r, hr⟩ := hex _ i (Nat.le_refl _) hi hl
    have hpos : 0 < (Region.ready .any ops listed).length := List.length_pos_of_mem hr
    have hlt := Nat.mod_lt t hpos
    have hsome : (Region.ready .any ops listed)[t % (Region.ready .any ops listed).length]? = some ((Region.ready .any ops listed)[t % (Region.ready .any ops listed).length]) := List.getElem?_eq_getElem hlt
    generalize (Region.ready .any ops listed)[t % (Region.ready .any ops listed).length] = q at hsome
    rw [go_some hsome]
    obtain ⟨hql, hqn, _⟩ := ready_mem (List.mem_of_getElem? hsome)
    by_cases hiq : i = q
    · rw [hiq]; exact List.mem_cons_self
    · refine List.mem_cons_of_mem _ (go_full hp fuel _ _ (by simpa using hs) ?_ i hi ?_)
      · have hsub : ((List.range ops.size).filter fun i => !(listed.setIfInBounds q true).getD i true) = (((List.range ops.size).filter fun i => !listed.getD i true)).filter (fun i => i != q) := by
          rw [List.filter_filter]
          apply List.filter_congr
          intro k hk
          by_cases hkq : k = q
          · subst hkq
            rw [Array.getD_eq_getD_getElem?, Array.getElem?_setIfInBounds_self, if_pos (by omega)]
            simp
          · rw [Array.getD_eq_getD_getElem?, Array.getElem?_setIfInBounds_ne (fun e => hkq e.symm), ← Array.getD_eq_getD_getElem?]
            simp [hkq]
        rw [hsub]
        have hqm : q ∈ ((List.range ops.size).filter fun i => !listed.getD i true) := List.mem_filter.2 ⟨by simpa using hql, by rw [hqn]; rfl⟩
        have := List.length_filter_lt_length_iff_exists.2 (⟨q, hqm, by simp⟩ : ∃ x ∈ ((List.range ops.size).filter fun i => !listed.getD i true), ¬ (x != q) = true)
        omega
      · rw [Array.getD_eq_getD_getElem?, Array.getElem?_setIfInBounds_ne (fun e => hiq e.symm), ← Array.getD_eq_getD_getElem?]
        exact hl

theorem getD_replicate (n k : Nat) (hk : k < n) (d : Bool) : (Array.replicate n false).getD k d = false := by
  rw [Array.getD_eq_getD_getElem?, Array.getElem?_eq_getElem (by simpa using hk)]; simp

/-- Where a plan stands, each order that the machine may draw is one of all operations. -/
theorem lin_schedule {plan : List Nat} (hp : PlanOK ops plan) (t : Nat) : Lin ops (Region.schedule true ops t) ∧ ∀ i, i < ops.size → i ∈ Region.schedule true ops t := by
  have hsch : Region.schedule true ops t = Region.linearise.go .any ops ops.size t (Array.replicate ops.size false) [] := by
    simp only [Region.schedule, Bool.true_or, if_true]; rfl
  rw [hsch]
  obtain ⟨g1, g2, g3⟩ := go_spec (ops := ops) ops.size t (Array.replicate ops.size false) (by simp)
  have hfull := go_full hp ops.size t (Array.replicate ops.size false) (by simp) (by
    refine Nat.le_trans (List.length_filter_le _ _) ?_; simp)
  refine ⟨⟨g1, fun i hi => (g2 i hi).1, ?_, fun j hj hn => absurd (hfull j hj (getD_replicate _ _ hj _)) hn⟩, fun i hi => hfull i hi (getD_replicate _ _ hi _)⟩
  -- by the place of the operation in its row
  have key : ∀ (i : Nat), ∀ pre post, Region.linearise.go .any ops ops.size t (Array.replicate ops.size false) [] = pre ++ i :: post → ∀ j, Behind ops i j → j ∈ pre := by
    intro i
    induction i using Nat.strongRecOn with
    | _ i ih =>
      intro pre post he j hb
      have hi : i < ops.size := (g2 i (by rw [he]; simp)).1
      have ho : ops[i]? = some ops[i] := Array.getElem?_eq_getElem hi
      obtain ⟨e, h1, h2, h3⟩ := (before_bit ho j).1 hb
      have hpre : e.on ∈ pre := by
        rcases g3 pre i post he _ ho e h1 h2 with h | h
        · exact h
        · exfalso
          by_cases hk : e.on < ops.size
          · rw [getD_replicate _ _ hk] at h; cases h
          · rw [Array.getD_eq_getD_getElem?, Array.getElem?_eq_none (by simp; omega)] at h; simp at h
      rcases h3 with rfl | ⟨h4, h5⟩
      · exact hpre
      · obtain ⟨p1, p2, rfl⟩ := List.append_of_mem hpre
        have := ih e.on h4 p1 (p2 ++ i :: post) (by rw [he]; simp) j h5
        exact List.mem_append_left _ this
  intro pre i post he j hb hj
  have hjp := key i pre post he j hb
  rw [he] at g1
  have := (List.nodup_append.1 g1).2.2 j hjp j hj
  exact this rfl
end lin
end Go.Ev
