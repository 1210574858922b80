/- The evaluator's states and the machine's: how they answer to each other. No condition. -/
import Derived.Test.YtgfjlegiofhboaaGreatDoorEvDef
import Derived.Laws.Sem
import Derived.Laws.Cells
import Derived.Laws.Entries
namespace Go.Ev
open Go.RowKit
set_option linter.unusedVariables false
set_option autoImplicit false

/-! ### Keys and trees -/
def Key.toNat : Key → Nat
  | .one => 1
  | .o p => 2 * p.toNat
  | .i p => 2 * p.toNat + 1
theorem Key.toNat_pos : ∀ k : Key, 0 < k.toNat
  | .one => by simp [Key.toNat]
  | .o p => by have := p.toNat_pos; simp [Key.toNat]; omega
  | .i p => by simp [Key.toNat]
theorem Key.toNat_inj : ∀ {a b : Key}, a.toNat = b.toNat → a = b
  | .one, .one, _ => rfl
  | .one, .o q, h => by have := q.toNat_pos; simp [Key.toNat] at h; omega
  | .one, .i q, h => by have := q.toNat_pos; simp [Key.toNat] at h; omega
  | .o p, .one, h => by have := p.toNat_pos; simp [Key.toNat] at h; omega
  | .o p, .o q, h => by simp [Key.toNat] at h; rw [Key.toNat_inj (by omega : p.toNat = q.toNat)]
  | .o p, .i q, h => by simp [Key.toNat] at h; omega
  | .i p, .one, h => by have := p.toNat_pos; simp [Key.toNat] at h; omega
  | .i p, .o q, h => by simp [Key.toNat] at h; omega
  | .i p, .i q, h => by simp [Key.toNat] at h; rw [Key.toNat_inj (by omega : p.toNat = q.toNat)]
theorem Key.toNat_succ : ∀ k : Key, k.succ.toNat = k.toNat + 1
  | .one => rfl
  | .o p => rfl
  | .i p => by
    have := p.toNat_succ
    show 2 * p.succ.toNat = 2 * p.toNat + 1 + 1
    omega
theorem Key.toNat_ofNat : ∀ n : Nat, (Key.ofNat n).toNat = n + 1
  | 0 => rfl
  | n + 1 => by
    show (Key.ofNat n).succ.toNat = _
    rw [Key.toNat_succ, Key.toNat_ofNat n]
theorem Key.ofNat_inj {a b : Nat} (h : Key.ofNat a = Key.ofNat b) : a = b := by
  have := congrArg Key.toNat h
  simp [Key.toNat_ofNat] at this; exact this
theorem Key.ofNat_ne {a b : Nat} (h : a ≠ b) : Key.ofNat a ≠ Key.ofNat b := fun e => h (Key.ofNat_inj e)
theorem Key.eqb_eq : ∀ {a b : Key}, a.eqb b = true → a = b
  | .one, .one, _ => rfl
  | .one, .o q, h => by cases h
  | .one, .i q, h => by cases h
  | .o p, .one, h => by cases h
  | .o p, .o q, h => by have h' : p.eqb q = true := h; rw [Key.eqb_eq h']
  | .o p, .i q, h => by cases h
  | .i p, .one, h => by cases h
  | .i p, .o q, h => by cases h
  | .i p, .i q, h => by have h' : p.eqb q = true := h; rw [Key.eqb_eq h']

namespace Tr
variable {α : Type}
theorem nodeL_eq (x : Tr α) (v : Option α) (r : Tr α) : nodeL x v r = .node x v r := by cases x <;> rfl
theorem nodeR_eq (l : Tr α) (v : Option α) (x : Tr α) : nodeR l v x = .node l v x := by cases x <;> rfl
theorem get_leaf (k : Key) : (Tr.leaf : Tr α).get k = none := by cases k <;> rfl
theorem put_one_leaf (x : Option α) : (Tr.leaf : Tr α).put .one x = .node .leaf x .leaf := rfl
theorem put_one_node (l : Tr α) (v : Option α) (r : Tr α) (x : Option α) : (Tr.node l v r).put .one x = .node l x r := rfl
theorem put_o_leaf (k : Key) (x : Option α) : (Tr.leaf : Tr α).put (.o k) x = .node (Tr.leaf.put k x) none .leaf := nodeL_eq _ _ _
theorem put_o_node (l : Tr α) (v : Option α) (r : Tr α) (k : Key) (x : Option α) : (Tr.node l v r).put (.o k) x = .node (l.put k x) v r := nodeL_eq _ _ _
theorem put_i_leaf (k : Key) (x : Option α) : (Tr.leaf : Tr α).put (.i k) x = .node .leaf none (Tr.leaf.put k x) := nodeR_eq _ _ _
theorem put_i_node (l : Tr α) (v : Option α) (r : Tr α) (k : Key) (x : Option α) : (Tr.node l v r).put (.i k) x = .node l v (r.put k x) := nodeR_eq _ _ _
theorem get_put_same : ∀ (k : Key) (t : Tr α) (x : Option α), (t.put k x).get k = x
  | .one, .leaf, x => rfl
  | .one, .node _ _ _, x => rfl
  | .o k, .leaf, x => by rw [put_o_leaf]; exact get_put_same k _ x
  | .o k, .node l v r, x => by rw [put_o_node]; exact get_put_same k _ x
  | .i k, .leaf, x => by rw [put_i_leaf]; exact get_put_same k _ x
  | .i k, .node l v r, x => by rw [put_i_node]; exact get_put_same k _ x
theorem get_put_ne : ∀ (k j : Key) (t : Tr α) (x : Option α), j ≠ k → (t.put k x).get j = t.get j
  | .one, .one, _, _, h => absurd rfl h
  | .one, .o j, .leaf, x, _ => by rw [put_one_leaf]; exact get_leaf j
  | .one, .o j, .node _ _ _, x, _ => rfl
  | .one, .i j, .leaf, x, _ => by rw [put_one_leaf]; exact get_leaf j
  | .one, .i j, .node _ _ _, x, _ => rfl
  | .o k, .one, .leaf, x, _ => by rw [put_o_leaf]; rfl
  | .o k, .one, .node _ _ _, x, _ => by rw [put_o_node]; rfl
  | .o k, .o j, .leaf, x, h => by
    rw [put_o_leaf]; show (Tr.leaf.put k x).get j = none
    rw [get_put_ne k j _ x (fun e => h (by rw [e]))]; exact get_leaf j
  | .o k, .o j, .node l v r, x, h => by
    rw [put_o_node]; exact get_put_ne k j l x (fun e => h (by rw [e]))
  | .o k, .i j, .leaf, x, _ => by rw [put_o_leaf]; exact get_leaf j
  | .o k, .i j, .node _ _ _, x, _ => by rw [put_o_node]; rfl
  | .i k, .one, .leaf, x, _ => by rw [put_i_leaf]; rfl
  | .i k, .one, .node _ _ _, x, _ => by rw [put_i_node]; rfl
  | .i k, .o j, .leaf, x, _ => by rw [put_i_leaf]; exact get_leaf j
  | .i k, .o j, .node _ _ _, x, _ => by rw [put_i_node]; rfl
  | .i k, .i j, .leaf, x, h => by
    rw [put_i_leaf]; show (Tr.leaf.put k x).get j = none
    rw [get_put_ne k j _ x (fun e => h (by rw [e]))]; exact get_leaf j
  | .i k, .i j, .node l v r, x, h => by
    rw [put_i_node]; exact get_put_ne k j r x (fun e => h (by rw [e]))
end Tr

/-! ### Lists -/
section lists
variable {α : Type}
theorem nthL_eq : ∀ (l : List α) (n : Nat), nthL l n = l[n]?
  | [], n => by cases n <;> rfl
  | x :: l, 0 => rfl
  | x :: l, n + 1 => by show nthL l n = _; rw [nthL_eq l n]; simp
theorem takeL_some : ∀ (n : Nat) (l r : List α), takeL n l = some r → n ≤ l.length ∧ r = l.take n
  | 0, l, r, h => by cases h; simp
  | n + 1, [], r, h => by cases h
  | n + 1, x :: l, r, h => by
    have h' : (@Option.casesOn (List α) (fun _ => Option (List α)) (takeL n l) none fun r => some (x :: r)) = some r := h
    cases hq : takeL n l with
    | none => rw [hq] at h'; cases h'
    | some q =>
      rw [hq] at h'; cases h'
      obtain ⟨hn, rfl⟩ := takeL_some n l q hq
      simp; omega
theorem dropL_eq : ∀ (n : Nat) (l : List α), dropL n l = l.drop n
  | 0, l => rfl
  | n + 1, [] => rfl
  | n + 1, x :: l => by show dropL n l = _; rw [dropL_eq n l]; simp
theorem subL_some {off n : Nat} {l r : List α} (h : subL off n l = some r) : (n = 0 ∨ off + n ≤ l.length) ∧ r = (l.drop off).take n ∧ r.length = n := by
  unfold subL at h
  obtain ⟨h1, h2⟩ := takeL_some _ _ _ h
  rw [dropL_eq] at h1 h2
  subst h2
  simp at h1 ⊢
  omega
theorem subL_get {off n : Nat} {l r : List α} (h : subL off n l = some r) (i : Nat) (v : α) (hi : r[i]? = some v) : i < n ∧ l[off + i]? = some v := by
  obtain ⟨_, rfl, hl⟩ := subL_some h
  have : i < n := by
    rw [← hl]; exact (List.getElem?_eq_some_iff.1 hi).1
  refine ⟨this, ?_⟩
  rw [List.getElem?_take, if_pos this, List.getElem?_drop] at hi
  exact hi
theorem putL_some : ∀ (xs l r : List α), putL xs l = some r → xs.length ≤ l.length ∧ r = xs ++ l.drop xs.length
  | [], l, r, h => by cases h; simp
  | x :: xs, [], r, h => by cases h
  | x :: xs, y :: l, r, h => by
    have h' : (@Option.casesOn (List α) (fun _ => Option (List α)) (putL xs l) none fun r => some (x :: r)) = some r := h
    cases hq : putL xs l with
    | none => rw [hq] at h'; cases h'
    | some q =>
      rw [hq] at h'; cases h'
      obtain ⟨hn, rfl⟩ := putL_some xs l q hq
      simp; omega
theorem putAt_some : ∀ (off : Nat) (xs l r : List α), putAt off xs l = some r → off + xs.length ≤ l.length ∧ r = l.take off ++ (xs ++ l.drop (off + xs.length))
  | 0, xs, l, r, h => by
    obtain ⟨h1, h2⟩ := putL_some xs l r h
    simp [h2]; omega
  | n + 1, xs, [], r, h => by cases h
  | n + 1, xs, y :: l, r, h => by
    have h' : (@Option.casesOn (List α) (fun _ => Option (List α)) (putAt n xs l) none fun r => some (y :: r)) = some r := h
    cases hq : putAt n xs l with
    | none => rw [hq] at h'; cases h'
    | some q =>
      rw [hq] at h'; cases h'
      obtain ⟨hn, rfl⟩ := putAt_some n xs l q hq
      have : n + 1 + xs.length = (n + xs.length) + 1 := by omega
      simp [this]; omega
theorem putAt_length {off : Nat} {xs l r : List α} (h : putAt off xs l = some r) : r.length = l.length := by
  obtain ⟨h1, rfl⟩ := putAt_some _ _ _ _ h
  simp; omega
/-- What a place holds behind a laying. -/
theorem putAt_get {off : Nat} {xs l r : List α} (h : putAt off xs l = some r) (i : Nat) :
    r[i]? = if off ≤ i ∧ i < off + xs.length then xs[i - off]? else l[i]? := by
  obtain ⟨h1, rfl⟩ := putAt_some _ _ _ _ h
  by_cases h2 : i < off
  · rw [List.getElem?_append_left (by simp; omega), if_neg (by omega), List.getElem?_take, if_pos h2]
  · rw [List.getElem?_append_right (by simp; omega)]
    have hl : (l.take off).length = off := by simp; omega
    rw [hl]
    by_cases h3 : i < off + xs.length
    · rw [if_pos ⟨by omega, h3⟩, List.getElem?_append_left (by omega)]
    · rw [if_neg (by omega), List.getElem?_append_right (by omega), List.getElem?_drop]
      congr 1; omega
end lists

/-! ### What answers to what -/

/-- Which of the machine's blocks a name stands for, and how many cells that has. -/
abbrev Rho := Key → Option (Nat × Nat)

def anch (len : Nat) (cap : Option Nat) : Bool := decide (0 < len) || (match cap with | some k => decide (0 < k) | none => false)

mutual
inductive VR (ρ : Rho) : AV → Value → Prop
  | lit {v : Value} : VR ρ (.lit v) v
  | ptr {b : Key} {off c z : Nat} : ρ b = some (c, z) → VR ρ (.ptr b off) (.pointer (some ⟨c, off, none⟩))
  | slc {b : Key} {off len : Nat} {cap : Option Nat} {esz c z off' cap' : Nat} : ρ b = some (c, z) → (anch len cap = true → off' = off) → len ≤ cap' →
      (∀ k, cap = some k → cap' = k) → off' + cap' * esz ≤ z → VR ρ (.slc b off len cap esz) (.slice (some ⟨c, off', none⟩) len cap')
  | map {b : Key} {c z : Nat} : ρ b = some (c, z) → VR ρ (.map b) (.map (some c))
  | fn {f : Fn} {first cap : List AV} {fs cs : Array Value} : VsR ρ first fs.toList → VsR ρ cap cs.toList → VR ρ (.fn f first cap) (.func f fs cs)
  | yld {b : Key} {c z : Nat} : ρ b = some (c, z) → VR ρ (.yld b) (.func (.yield c) #[] #[])
  | ifc {t : TypeId} {v : AV} {u : Value} : VR ρ v u → VR ρ (.ifc t v) (.iface t u)
  | agg {l : List AV} {a : Array Value} : VsR ρ l a.toList → VR ρ (.agg l) (.agg a)
  | tup {l : List AV} {a : Array Value} : VsR ρ l a.toList → VR ρ (.tup l) (.tuple a)
inductive VsR (ρ : Rho) : List AV → List Value → Prop
  | nil : VsR ρ [] []
  | cons {v : AV} {u : Value} {l : List AV} {m : List Value} : VR ρ v u → VsR ρ l m → VsR ρ (v :: l) (u :: m)
end

mutual
theorem VR.mono {ρ ρ' : Rho} (h : ∀ b x, ρ b = some x → ρ' b = some x) : ∀ {v : AV} {u : Value}, VR ρ v u → VR ρ' v u
  | _, _, .lit => .lit
  | _, _, .ptr a => .ptr (h _ _ a)
  | _, _, .slc a b c d e => .slc (h _ _ a) b c d e
  | _, _, .map a => .map (h _ _ a)
  | _, _, .fn a b => .fn (VsR.mono h a) (VsR.mono h b)
  | _, _, .yld a => .yld (h _ _ a)
  | _, _, .ifc a => .ifc (VR.mono h a)
  | _, _, .agg a => .agg (VsR.mono h a)
  | _, _, .tup a => .tup (VsR.mono h a)
theorem VsR.mono {ρ ρ' : Rho} (h : ∀ b x, ρ b = some x → ρ' b = some x) : ∀ {l : List AV} {m : List Value}, VsR ρ l m → VsR ρ' l m
  | _, _, .nil => .nil
  | _, _, .cons a b => .cons (VR.mono h a) (VsR.mono h b)
end

section vsr
variable {ρ : Rho}
theorem VsR.length : ∀ {l : List AV} {m : List Value}, VsR ρ l m → l.length = m.length
  | _, _, .nil => rfl
  | _, _, .cons _ h => by simp [h.length]
theorem VsR.get : ∀ {l : List AV} {m : List Value}, VsR ρ l m → ∀ (i : Nat) (v : AV), l[i]? = some v → ∃ u, m[i]? = some u ∧ VR ρ v u
  | _, _, .nil, i, v, h => by simp at h
  | _, _, .cons a b, 0, v, h => by simp at h; subst h; exact ⟨_, by simp, a⟩
  | _, _, .cons a b, i + 1, v, h => by simp at h; obtain ⟨u, h1, h2⟩ := b.get i v h; exact ⟨u, by simp [h1], h2⟩
theorem VsR.of_get : ∀ {l : List AV} {m : List Value}, l.length = m.length → (∀ (i : Nat) (v : AV) (u : Value), l[i]? = some v → m[i]? = some u → VR ρ v u) → VsR ρ l m
  | [], [], _, _ => .nil
  | [], _ :: _, h, _ => by simp at h
  | _ :: _, [], h, _ => by simp at h
  | v :: l, u :: m, h, g => .cons (g 0 v u (by simp) (by simp)) (VsR.of_get (by simpa using h) fun i a b ha hb => g (i + 1) a b (by simpa using ha) (by simpa using hb))
theorem VsR.append : ∀ {l l' : List AV} {m m' : List Value}, VsR ρ l m → VsR ρ l' m' → VsR ρ (l ++ l') (m ++ m')
  | _, _, _, _, .nil, h => h
  | _, _, _, _, .cons a b, h => .cons a (b.append h)
theorem VsR.drop : ∀ (n : Nat) {l : List AV} {m : List Value}, VsR ρ l m → VsR ρ (l.drop n) (m.drop n)
  | 0, _, _, h => h
  | n + 1, _, _, .nil => .nil
  | n + 1, _, _, .cons _ b => b.drop n
theorem VsR.take : ∀ (n : Nat) {l : List AV} {m : List Value}, VsR ρ l m → VsR ρ (l.take n) (m.take n)
  | 0, _, _, h => by simp; exact .nil
  | n + 1, _, _, .nil => .nil
  | n + 1, _, _, .cons a b => .cons a (b.take n)
theorem VsR.lits : ∀ (l : List Value), VsR ρ (l.map AV.lit) l
  | [] => .nil
  | v :: l => .cons .lit (VsR.lits l)
theorem VsR.map_of {β : Type} (f : β → AV) (g : β → Value) : ∀ (l : List β), (∀ x ∈ l, VR ρ (f x) (g x)) → VsR ρ (l.map f) (l.map g)
  | [], _ => .nil
  | x :: l, h => .cons (h x (by simp)) (VsR.map_of f g l fun y hy => h y (by simp [hy]))
theorem VsR.nil_left {m : List Value} (h : VsR ρ [] m) : m = [] := by cases h; rfl
theorem VsR.cons_left {v : AV} {l : List AV} {m : List Value} (h : VsR ρ (v :: l) m) : ∃ u m', m = u :: m' ∧ VR ρ v u ∧ VsR ρ l m' := by
  cases h with | cons a b => exact ⟨_, _, rfl, a, b⟩
end vsr

/-- Slots. -/
structure TR (ρ : Rho) (n : Nat) (T : Tr AV) (tmps : Array Value) : Prop where
  size : tmps.size = n
  get : ∀ t : Nat, VR ρ ((T.get (Key.ofNat t)).getD undefA) (tmps.getD t undef)

theorem TR.mono {ρ ρ' : Rho} (h : ∀ b x, ρ b = some x → ρ' b = some x) {n : Nat} {T : Tr AV} {tmps : Array Value} (ht : TR ρ n T tmps) : TR ρ' n T tmps :=
  ⟨ht.size, fun t => (ht.get t).mono h⟩

/-- Blocks. -/
inductive OR (ρ : Rho) (z : Nat) : AObj → Obj → Prop
  | cells {cs : List AV} {ro : Bool} {arr : Array Value} {e : TypeId} {fz : Nat × Nat} : arr.size = z → cs.length ≤ z →
      (∀ (i : Nat) (v : AV), cs[i]? = some v → ∃ u, arr[i]? = some u ∧ VR ρ v u) → (ro = false → fz = (0, 0)) → OR ρ z (.cells cs ro) (.cells arr e fz)
  | map {es : List (AV × AV)} {ents : Array MapEntry} {clock : Nat} : VsR ρ (es.map (·.1)) (ents.toList.map (·.key)) → VsR ρ (es.map (·.2)) (ents.toList.map (·.val)) →
      OR ρ z (.map es) (.map ents clock)
  | loop {st : LoopState} {pending : Option Code} {fn n : Nat} {T : Tr AV} {params : List Tmp} {asg body : Code} {d : Key} {tmps : Array Value} {ps : Array Tmp} {dc dz : Nat} :
      TR ρ n T tmps → ps.toList = params → ρ d = some (dc, dz) →
      OR ρ z (.loop st pending fn n T params asg body d) (.loop { state := st, pending, fn, tmps, params := ps, assign := asg, body, defers := dc })
  | defsOpen : OR ρ z (.defs true) (.deferred (some []))
  | defsShut : OR ρ z (.defs false) (.deferred none)

theorem OR.mono {ρ ρ' : Rho} (h : ∀ b x, ρ b = some x → ρ' b = some x) {z : Nat} {o : AObj} {oc : Obj} (ho : OR ρ z o oc) : OR ρ' z o oc := by
  cases ho with
  | cells a b c d => exact .cells a b (fun i v hv => let ⟨u, h1, h2⟩ := c i v hv; ⟨u, h1, h2.mono h⟩) d
  | map a b => exact .map (a.mono h) (b.mono h)
  | loop a b c => exact .loop (a.mono h) b (h _ _ c)
  | defsOpen => exact .defsOpen
  | defsShut => exact .defsShut

def AObj.ro : AObj → Bool
  | .cells _ r => r
  | _ => false

/-- Memory. B: the blocks of before the run, which stay. -/
structure HR (B : Nat) (w0 : World) (ρ : Rho) (h : Heap) (w : World) : Prop where
  obj : ∀ b o c z, h.get b = some o → ρ b = some (c, z) → ∃ oc, w.heap[c]? = some oc ∧ OR ρ z o oc ∧ (o.ro = false → B ≤ c)
  inj : ∀ b b' c z z', ρ b = some (c, z) → ρ b' = some (c, z') → h.get b ≠ none → h.get b' ≠ none → b = b'
  bnd : ∀ b c z, ρ b = some (c, z) → c < w.heap.size
  fresh : ∀ b : Key, h.nx.toNat ≤ b.toNat → ρ b = none ∧ h.get b = none
  below : Below B w0 w
  room : B ≤ w.heap.size

/-- What a piece of a run leaves as it was: the map grows, and what it does not name stays. -/
structure Ext (ρ : Rho) (h : Heap) (ρ' : Rho) (h' : Heap) : Prop where
  up : ∀ b x, ρ b = some x → ρ' b = some x
  out : ∀ b : Key, ρ b = none → b.toNat < h.nx.toNat → ρ' b = none ∧ h'.get b = h.get b
  nx : h.nx.toNat ≤ h'.nx.toNat

theorem Ext.refl (ρ : Rho) (h : Heap) : Ext ρ h ρ h := ⟨fun _ _ h => h, fun _ h _ => ⟨h, rfl⟩, Nat.le_refl _⟩
theorem Ext.trans {ρ ρ' ρ'' : Rho} {h h' h'' : Heap} (a : Ext ρ h ρ' h') (b : Ext ρ' h' ρ'' h'') : Ext ρ h ρ'' h'' :=
  ⟨fun k x hk => b.up _ _ (a.up _ _ hk), fun k hk hl =>
    let ⟨h1, h2⟩ := a.out k hk hl
    let ⟨h3, h4⟩ := b.out k h1 (Nat.lt_of_lt_of_le hl a.nx)
    ⟨h3, by rw [h4, h2]⟩, Nat.le_trans a.nx b.nx⟩

section heap
variable {B : Nat} {w0 : World} {ρ : Rho} {h : Heap} {w : World}

theorem Heap.get_set_same (h : Heap) (b : Key) (o : AObj) : (h.set b o).get b = some o := Tr.get_put_same _ _ _
theorem Heap.get_set_ne (h : Heap) {b j : Key} (o : AObj) (hj : j ≠ b) : (h.set b o).get j = h.get j := Tr.get_put_ne _ _ _ _ hj
theorem Heap.get_new_same (h : Heap) (o : AObj) : (h.new o).get h.nx = some o := Tr.get_put_same _ _ _
theorem Heap.get_new_ne (h : Heap) {j : Key} (o : AObj) (hj : j ≠ h.nx) : (h.new o).get j = h.get j := Tr.get_put_ne _ _ _ _ hj
theorem Heap.get_del_same (h : Heap) (b : Key) : (h.del b).get b = none := Tr.get_put_same _ _ _
theorem Heap.get_del_ne (h : Heap) {b j : Key} (hj : j ≠ b) : (h.del b).get j = h.get j := Tr.get_put_ne _ _ _ _ hj

/-- The map, with one name more. -/
def Rho.add (ρ : Rho) (b : Key) (x : Nat × Nat) : Rho := fun j => if j.toNat = b.toNat then some x else ρ j
theorem Rho.add_same (ρ : Rho) (b : Key) (x : Nat × Nat) : ρ.add b x b = some x := by simp [Rho.add]
theorem Rho.add_ne (ρ : Rho) {b j : Key} (x : Nat × Nat) (hj : j ≠ b) : ρ.add b x j = ρ j := by
  unfold Rho.add; rw [if_neg (fun e => hj (Key.toNat_inj e))]
theorem Rho.add_up {ρ : Rho} {b : Key} (hb : ρ b = none) (x : Nat × Nat) : ∀ j y, ρ j = some y → ρ.add b x j = some y := by
  intro j y hj
  rw [Rho.add_ne _ _ (fun e => by rw [e, hb] at hj; cases hj)]; exact hj


theorem sz_alloc (w : World) (o : Obj) : (w.alloc o).heap.size = w.heap.size + 1 := by show (w.heap.push o).size = _; simp

/-- A block that the machine makes where the evaluator has made it already. -/
theorem HR.adopt {o : AObj} {b : Key} (hr : HR B w0 ρ h w) (oc : Obj) (z : Nat) (hb : h.get b = some o) (hn : ρ b = none) (hlt : b.toNat < h.nx.toNat)
    (ho : OR (ρ.add b (w.heap.size, z)) z o oc) : HR B w0 (ρ.add b (w.heap.size, z)) h (w.alloc oc) where
  obj := by
    intro j oj c zz hj hρ
    by_cases e : j = b
    · subst e
      rw [Rho.add_same] at hρ; cases hρ
      rw [hb] at hj; cases hj
      exact ⟨oc, by show (w.heap.push oc)[w.heap.size]? = _; simp, ho, fun _ => hr.room⟩
    · rw [Rho.add_ne _ _ e] at hρ
      obtain ⟨o', h1, h2, h3⟩ := hr.obj j oj c zz hj hρ
      refine ⟨o', ?_, h2.mono (Rho.add_up hn _), h3⟩
      have hc := hr.bnd _ _ _ hρ
      rw [Below.heap_alloc _ _ _ hc]; exact h1
  inj := by
    intro j j' c zz zz' hj hj' hg hg'
    by_cases e : j = b
    · by_cases e' : j' = b
      · rw [e, e']
      · subst e
        rw [Rho.add_same] at hj; cases hj
        rw [Rho.add_ne _ _ e'] at hj'
        have := hr.bnd _ _ _ hj'; omega
    · by_cases e' : j' = b
      · subst e'
        rw [Rho.add_same] at hj'; cases hj'
        rw [Rho.add_ne _ _ e] at hj
        have := hr.bnd _ _ _ hj; omega
      · rw [Rho.add_ne _ _ e] at hj
        rw [Rho.add_ne _ _ e'] at hj'
        exact hr.inj _ _ _ _ _ hj hj' hg hg'
  bnd := by
    intro j c zz hj
    rw [sz_alloc]
    by_cases e : j = b
    · subst e; rw [Rho.add_same] at hj; cases hj; omega
    · rw [Rho.add_ne _ _ e] at hj; have := hr.bnd _ _ _ hj; omega
  fresh := by
    intro j hj
    obtain ⟨h1, h2⟩ := hr.fresh j hj
    exact ⟨by rw [Rho.add_ne _ _ (fun e => by subst e; omega)]; exact h1, h2⟩
  below := hr.below.alloc hr.room oc
  room := by rw [sz_alloc]; have := hr.room; omega

/-- A block that the evaluator makes, and the machine not yet. -/
theorem HR.ahead (hr : HR B w0 ρ h w) (o : AObj) : HR B w0 ρ (h.new o) w where
  obj := by
    intro j oj c zz hj hρ
    have hne : j ≠ h.nx := fun e => by have := (hr.fresh j (by rw [e]; exact Nat.le_refl _)).1; rw [this] at hρ; cases hρ
    rw [Heap.get_new_ne _ _ hne] at hj
    exact hr.obj j oj c zz hj hρ
  inj := by
    intro j j' c zz zz' hj hj' hg hg'
    have hne : j ≠ h.nx := fun e => by have := (hr.fresh j (by rw [e]; exact Nat.le_refl _)).1; rw [this] at hj; cases hj
    have hne' : j' ≠ h.nx := fun e => by have := (hr.fresh j' (by rw [e]; exact Nat.le_refl _)).1; rw [this] at hj'; cases hj'
    rw [Heap.get_new_ne _ _ hne] at hg
    rw [Heap.get_new_ne _ _ hne'] at hg'
    exact hr.inj _ _ _ _ _ hj hj' hg hg'
  bnd := hr.bnd
  fresh := by
    intro j hj
    have hj' : h.nx.toNat + 1 ≤ j.toNat := by
      have : (h.new o).nx.toNat = h.nx.toNat + 1 := Key.toNat_succ _
      omega
    obtain ⟨h1, h2⟩ := hr.fresh j (by omega)
    refine ⟨h1, ?_⟩
    rw [Heap.get_new_ne _ _ (fun e => by rw [e] at hj'; omega)]; exact h2
  below := hr.below
  room := hr.room

theorem Ext.ahead (hr : HR B w0 ρ h w) (o : AObj) : Ext ρ h ρ (h.new o) :=
  ⟨fun _ _ h => h, fun b hb hl => ⟨hb, Heap.get_new_ne _ _ (fun e => by rw [e] at hl; omega)⟩, by
    have : (h.new o).nx.toNat = h.nx.toNat + 1 := Key.toNat_succ _
    omega⟩

theorem nx_new (h : Heap) (o : AObj) : (h.new o).nx.toNat = h.nx.toNat + 1 := Key.toNat_succ _

/-- Both make it. -/
theorem HR.both (hr : HR B w0 ρ h w) (o : AObj) (oc : Obj) (z : Nat) (ho : OR (ρ.add h.nx (w.heap.size, z)) z o oc) :
    HR B w0 (ρ.add h.nx (w.heap.size, z)) (h.new o) (w.alloc oc) ∧ Ext ρ h (ρ.add h.nx (w.heap.size, z)) (h.new o) := by
  have hn := (hr.fresh h.nx (Nat.le_refl _)).1
  refine ⟨(hr.ahead o).adopt oc z (Heap.get_new_same _ _) hn (by rw [nx_new]; omega) ho, ?_⟩
  refine ⟨Rho.add_up hn _, fun b hb hl => ?_, by rw [nx_new]; omega⟩
  have hne : b ≠ h.nx := fun e => by rw [e] at hl; omega
  exact ⟨by rw [Rho.add_ne _ _ hne]; exact hb, Heap.get_new_ne _ _ hne⟩

theorem nx_set (h : Heap) (b : Key) (o : AObj) : (h.set b o).nx = h.nx := rfl

/-- A block of the run's own is written, here and there. -/
theorem HR.update {b : Key} {o o' : AObj} {c z : Nat} (hr : HR B w0 ρ h w) (hb : h.get b = some o) (hρ : ρ b = some (c, z)) (hro : o.ro = false)
    (oc' : Obj) (ho : OR ρ z o' oc') (hro' : o'.ro = false) {w' : World} (hw : w'.heap = w.heap.setIfInBounds c oc') (hbe : Below B w w') :
    HR B w0 ρ (h.set b o') w' ∧ Ext ρ h ρ (h.set b o') := by
  obtain ⟨oc, hoc, _, hB⟩ := hr.obj b o c z hb hρ
  have hc := hr.bnd _ _ _ hρ
  refine ⟨⟨?_, ?_, ?_, ?_, hr.below.trans hbe, by rw [hw]; simpa using hr.room⟩, ⟨fun _ _ h => h, fun j hj hl => ⟨hj, ?_⟩, Nat.le_refl _⟩⟩
  · intro j oj c' zz hj hρj
    by_cases e : j = b
    · subst e
      rw [Heap.get_set_same] at hj; cases hj
      rw [hρ] at hρj; cases hρj
      exact ⟨oc', by rw [hw]; simp [hc], ho, fun _ => hB hro⟩
    · rw [Heap.get_set_ne _ _ e] at hj
      obtain ⟨o2, h1, h2, h3⟩ := hr.obj j oj c' zz hj hρj
      refine ⟨o2, ?_, h2, h3⟩
      rw [hw, Array.getElem?_setIfInBounds_ne]
      · exact h1
      · intro ec; subst ec
        exact e (hr.inj _ _ _ _ _ hρj hρ (by rw [hj]; simp) (by rw [hb]; simp))
  · intro j j' c' zz zz' hj hj' hg hg'
    refine hr.inj _ _ _ _ _ hj hj' ?_ ?_
    · by_cases e : j = b
      · subst e; rw [hb]; simp
      · rw [Heap.get_set_ne _ _ e] at hg; exact hg
    · by_cases e : j' = b
      · subst e; rw [hb]; simp
      · rw [Heap.get_set_ne _ _ e] at hg'; exact hg'
  · intro j c' zz hj; rw [hw]; simpa using hr.bnd _ _ _ hj
  · intro j hj
    obtain ⟨h1, h2⟩ := hr.fresh j hj
    refine ⟨h1, ?_⟩
    by_cases e : j = b
    · subst e; rw [h1] at hρ; cases hρ
    · rw [Heap.get_set_ne _ _ e]; exact h2
  · exact Heap.get_set_ne _ _ (fun e => by subst e; rw [hj] at hρ; cases hρ)
end heap
end Go.Ev
