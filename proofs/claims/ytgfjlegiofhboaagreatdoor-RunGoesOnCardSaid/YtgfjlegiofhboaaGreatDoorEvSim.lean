/- The evaluator's machine and the model's: frames. No condition. -/
import Derived.Test.YtgfjlegiofhboaaGreatDoorEvMach
namespace Go.Ev
open Go.RowKit
set_option linter.unusedVariables false
set_option linter.unusedSimpArgs false
set_option autoImplicit false

inductive IR (ρ : Rho) : AItem → Item → Prop
  | code {c : Code} : IR ρ (.code c) (.code c)
  | inBlock {id : Nat} : IR ρ (.inBlock id) (.inBlock id)
  | inLoop {c : Code} : IR ρ (.inLoop c) (.inLoop c)
  | inScope {c : Code} : IR ρ (.inScope c) (.inScope c)
  | inReg {ops : Array Oper} {l : List Nat} : IR ρ (.inReg ops l) (.inRegion ops l)
  | inRF {b : Key} {c z : Nat} : ρ b = some (c, z) → IR ρ (.inRF b) (.inRangeFunc c)
  | endRF {b : Key} {c z : Nat} : ρ b = some (c, z) → IR ρ (.endRF b) (.endRangeFunc c)
  | beginRound : IR ρ .beginRound .beginRound

inductive ItemsR (ρ : Rho) : List AItem → List Item → Prop
  | nil : ItemsR ρ [] []
  | cons {x : AItem} {y : Item} {k : List AItem} {k' : List Item} : IR ρ x y → ItemsR ρ k k' → ItemsR ρ (x :: k) (y :: k')

inductive DefsR (ρ : Rho) : List Key → List Deferred → Prop
  | nil : DefsR ρ [] []
  | cons {b : Key} {c z : Nat} {k : List Key} {k' : List Deferred} : ρ b = some (c, z) → DefsR ρ k k' → DefsR ρ (b :: k) ({ target := .collected c, args := #[] } :: k')

inductive RoundR (ρ : Rho) : Option Key → Option Nat → Prop
  | no : RoundR ρ none none
  | yes {b : Key} {c z : Nat} : ρ b = some (c, z) → RoundR ρ (some b) (some c)

section mono
variable {ρ ρ' : Rho} (h : ∀ b x, ρ b = some x → ρ' b = some x)
include h
theorem IR.mono {x : AItem} {y : Item} (a : IR ρ x y) : IR ρ' x y := by
  cases a with
  | code => exact .code
  | inBlock => exact .inBlock
  | inLoop => exact .inLoop
  | inScope => exact .inScope
  | inReg => exact .inReg
  | inRF e => exact .inRF (h _ _ e)
  | endRF e => exact .endRF (h _ _ e)
  | beginRound => exact .beginRound
theorem ItemsR.mono {k : List AItem} {k' : List Item} (a : ItemsR ρ k k') : ItemsR ρ' k k' := by
  induction a with
  | nil => exact .nil
  | cons a _ ih => exact .cons (a.mono h) ih
theorem DefsR.mono {k : List Key} {k' : List Deferred} (a : DefsR ρ k k') : DefsR ρ' k k' := by
  induction a with
  | nil => exact .nil
  | cons a _ ih => exact .cons (h _ _ a) ih
theorem RoundR.mono {k : Option Key} {k' : Option Nat} (a : RoundR ρ k k') : RoundR ρ' k k' := by
  cases a with
  | no => exact .no
  | yes a => exact .yes (h _ _ a)
end mono

theorem ItemsR.exit {ρ : Rho} {id : Nat} {k : List AItem} {k' : List Item} (h : ItemsR ρ k k') :
    (∀ r, exitToA id k = some r → ∃ r', exitTo id k' = some r' ∧ ItemsR ρ r r') ∧ (exitToA id k = none → exitTo id k' = none) := by
  induction h with
  | nil => exact ⟨(fun r h => by cases h), fun _ => rfl⟩
  | cons a b ih =>
    cases a with
    | inBlock =>
      rename_i k k' id'
      simp only [exitToA, exitTo]
      by_cases hid : (id' == id) = true
      · rw [if_pos hid, if_pos hid]
        exact ⟨(fun r h => by cases h; exact ⟨_, rfl, b⟩), (fun h => by cases h)⟩
      · rw [if_neg hid, if_neg hid]; exact ih
    | code => exact ih
    | inLoop => exact ih
    | inScope => exact ih
    | inReg => exact ih
    | inRF _ => exact ih
    | endRF _ => exact ih
    | beginRound => exact ih

theorem ItemsR.goto {ρ : Rho} {l : Nat} {k : List AItem} {k' : List Item} (h : ItemsR ρ k k') :
    (∀ r, gotoInA l k = some r → ∃ r', gotoIn l k' = some r' ∧ ItemsR ρ r r') ∧ (gotoInA l k = none → gotoIn l k' = none) := by
  induction h with
  | nil => exact ⟨(fun r h => by cases h), fun _ => rfl⟩
  | cons a b ih =>
    cases a with
    | inScope =>
      rename_i k k' body
      simp only [gotoInA, gotoIn]
      cases hf : findLabel body l with
      | none => simp only []; exact ih
      | some rest => exact ⟨(fun r h => by cases h; exact ⟨_, rfl, .cons .code (.cons .inScope b)⟩), (fun h => by cases h)⟩
    | code => exact ih
    | inLoop => exact ih
    | inBlock => exact ih
    | inReg => exact ih
    | inRF _ => exact ih
    | endRF _ => exact ih
    | beginRound => exact ih

/-- Frames, but for what they have to do. -/
structure FB (ρ : Rho) (a : AFr) (c : Frame) : Prop where
  fn : c.fn = a.fn
  kind : c.kind = .normal
  mode : c.mode = if a.ret then .returning else .run
  round : RoundR ρ a.round c.roundOf
  defers : DefsR ρ a.defers c.defers

theorem FB.mono {ρ ρ' : Rho} {a : AFr} {c : Frame} (h : FB ρ a c) (up : ∀ b x, ρ b = some x → ρ' b = some x) : FB ρ' a c :=
  ⟨h.fn, h.kind, h.mode, h.round.mono up, h.defers.mono up⟩

/-- The frame that runs. -/
def ActB (P : Program) (ρ : Rho) (h : Heap) (lo : Nat) (a : AFr) (c : Frame) : Prop :=
  (ItemsR ρ a.todo c.todo ∧ TR ρ a.n a.T c.tmps) ∨
  (a.ret = false ∧ ∃ ops plan seen T0 k σ k' nm, a.todo = .draw ops plan seen T0 :: k ∧ c.todo = .inRegion ops σ :: k' ∧ ItemsR ρ k k' ∧ DR P ρ h true ops plan seen T0 a.T a.n σ c.tmps nm ∧
    ∀ q ∈ σ, q ∉ plan → isMake P ops T0 a.T q → lo ≤ (nm q).toNat)

/-- A frame that waits for a call's end. -/
def SusB (P : Program) (ρ : Rho) (h : Heap) (lo hi : Nat) (a : AFr) (c : Frame) : Prop :=
  (ItemsR ρ a.todo c.todo ∧ TR ρ a.n a.T c.tmps) ∨
  (∃ ops L rest seen T0 k σ k' nm, a.todo = .draw ops (L :: rest) seen T0 :: k ∧ c.todo = .inRegion ops (L :: σ) :: k' ∧ ItemsR ρ k k' ∧ DR P ρ h false ops (L :: rest) seen T0 a.T a.n (L :: σ) c.tmps nm ∧
    ∀ q ∈ L :: σ, q ∉ L :: rest → isMake P ops T0 a.T q → lo ≤ (nm q).toNat ∧ (nm q).toNat < hi)

theorem SusB.mono {P : Program} {ρ ρ' : Rho} {h h' : Heap} {lo hi : Nat} {a : AFr} {c : Frame} (hs : SusB P ρ h lo hi a c) (he : ExtM hi ρ h ρ' h') : SusB P ρ' h' lo hi a c := by
  rcases hs with ⟨h1, h2⟩ | ⟨ops, L, rest, seen, T0, k, σ, k', nm, h1, h2, h3, h4, h5⟩
  · exact .inl ⟨h1.mono he.up, h2.mono he.up⟩
  · exact .inr ⟨ops, L, rest, seen, T0, k, σ, k', nm, h1, h2, h3.mono he.up, h4.monoM he (fun q a b c => (h5 q a b c).2), h5⟩

inductive StackR (P : Program) (ρ : Rho) (h : Heap) (cs0 : List Frame) : Nat → List AFr → List Frame → Prop
  | nil {m : Nat} : StackR P ρ h cs0 m [] cs0
  | cons {m lo : Nat} {a : AFr} {c : Frame} {as : List AFr} {cs : List Frame} : lo ≤ m → a.ret = false → FB ρ a c → SusB P ρ h lo m a c → StackR P ρ h cs0 lo as cs → StackR P ρ h cs0 m (a :: as) (c :: cs)

theorem StackR.mono {P : Program} {ρ ρ' : Rho} {h h' : Heap} {cs0 : List Frame} {m : Nat} {as : List AFr} {cs : List Frame} (hs : StackR P ρ h cs0 m as cs) (he : ExtM m ρ h ρ' h') : StackR P ρ' h' cs0 m as cs := by
  induction hs with
  | nil => exact .nil
  | cons a b c d _ ih => exact .cons a b (c.mono he.up) (d.mono he) (ih (he.le a))

/-- Machines. -/
def MR (P : Program) (B : Nat) (w0 : World) (cs0 : List Frame) (s : AM) (fr : Frame) (cs : List Frame) (w : World) : Prop :=
  ∃ ρ lo, HR B w0 ρ s.h w ∧ GR P ρ ∧ lo ≤ s.h.nx.toNat ∧ FB ρ s.fr fr ∧ ActB P ρ s.h lo s.fr fr ∧ StackR P ρ s.h cs0 lo s.cs cs

theorem TR.put {ρ : Rho} {n : Nat} {T T' : Tr AV} {tmps : Array Value} {d : Option Tmp} {v : AV} {v' : Value} (ht : TR ρ n T tmps) (hp : putT n T d v = some T') (hv : VR ρ v v') : TR ρ n T' (putC tmps d v') := by
  obtain ⟨h1, h2⟩ := putT_get hp
  refine ⟨by rw [putC_size]; exact ht.size, fun t => ?_⟩
  by_cases hd : d = some t
  · obtain ⟨a, b⟩ := h1 t hd
    rw [b, hd, putC_get_same tmps t v' (ht.size.symm ▸ a)]
    exact hv
  · rw [h2 t hd, putC_get_ne _ _ _ _ hd]
    exact ht.get t

section
variable {P : Program} {ρ : Rho} {h : Heap} {lo hi : Nat}

/-- A frame takes a call's value. -/
theorem finish_run {a a' : AFr} {c : Frame} {v : AV} {v' : Value} (hf : finish P a v h = some a') (hb : FB ρ a c) (hr : a.ret = false) (hs : SusB P ρ h lo hi a c) (hv : VR ρ v v') :
    FB ρ a' (c.finish v') ∧ ActB P ρ h lo a' (c.finish v') ∧ a'.ret = false := by
  unfold finish at hf
  split at hf
  · rename_i ops i rest k htodo
    split at hf
    · rename_i T hT
      cases hf
      rcases hs with ⟨h1, h2⟩ | ⟨_, _, _, _, _, _, _, _, _, h1, _⟩
      · rw [htodo] at h1
        generalize hct : c.todo = ct at h1
        cases h1 with
        | cons x y =>
          cases x with
          | inReg =>
            rename_i kk
            have hfin : c.finish v' = { c with tmps := putC c.tmps ((ops[i]?).bind (·.dst)) v', todo := .inRegion ops rest :: kk } := by
              unfold Frame.finish
              rw [hct]
              dsimp only
              cases hd : (ops[i]?).bind (·.dst) <;> simp [putC]
            rw [hfin]
            exact ⟨⟨hb.fn, hb.kind, hb.mode, hb.round, hb.defers⟩, .inl ⟨.cons .inReg y, h2.put hT hv⟩, hr⟩
      · rw [htodo] at h1; cases h1
    · cases hf
  · rename_i ops i plan seen T0 k htodo
    split at hf
    · rename_i T hT
      split at hf
      · rename_i hst
        cases hf
        rcases hs with ⟨h1, h2⟩ | ⟨ops', L, rest, seen', T0', k2, σ, k', nm, h1, h2, h3, h4, h5⟩
        · rw [htodo] at h1
          generalize hct : c.todo = ct at h1
          cases h1 with
          | cons x y => cases x
        · rw [htodo] at h1
          cases h1
          have hLs := h4.lin.lt i List.mem_cons_self
          have ho : ops[i]? = some ops[i] := Array.getElem?_eq_getElem hLs
          rw [ho] at hT
          have hd := h4.loud (m := hi) ho (ExtM.refl _ _ _) (fun q a b c => (h5 q a b c).2) hv hT hst
          rw [finish_region h2 ho]
          refine ⟨⟨hb.fn, hb.kind, hb.mode, hb.round, hb.defers⟩, .inr ⟨hr, ops, plan, seen, T0, k, σ, k', nm, rfl, rfl, h3, hd, ?_⟩, hr⟩
          intro q hq hn hm
          have hLσ : i ∉ σ := (List.nodup_cons.1 h4.lin.nodup).1
          have hnn : q ∉ i :: plan := by
            intro hx
            rcases List.mem_cons.1 hx with rfl | hx
            · exact hLσ hq
            · exact hn hx
          obtain ⟨pre, hp⟩ := h4.full
          obtain ⟨oq, g1, g2, g3⟩ := hm
          refine (h5 q (List.mem_cons_of_mem _ hq) hnn ⟨oq, g1, g2, ?_⟩).1
          rw [← g3]
          exact wantedA_looks fun t ht => (look_put hp g1 ho (not_behind_of_plan hp (h4.lin.lt q (List.mem_cons_of_mem _ hq)) hLs hnn) (putT_get hT).2 t).symm
      · cases hf
    · cases hf
  · rename_i b k htodo
    cases hf
    rcases hs with ⟨h1, h2⟩ | ⟨_, _, _, _, _, _, _, _, _, h1, _⟩
    · rw [htodo] at h1
      generalize hct : c.todo = ct at h1
      cases h1 with
      | cons x y =>
        cases x with
        | inRF e =>
          rename_i kk cc zz
          have hfin : c.finish v' = { c with todo := .endRangeFunc cc :: kk } := by
            unfold Frame.finish; rw [hct]
          rw [hfin]
          exact ⟨⟨hb.fn, hb.kind, hb.mode, hb.round, hb.defers⟩, .inl ⟨.cons (.endRF e) y, h2⟩, hr⟩
    · rw [htodo] at h1; cases h1
  · cases hf

theorem argsT_get : ∀ (l : List AV) (i t : Nat), (argsT i l).get (Key.ofNat t) = if i ≤ t then l[t - i]? else none
  | [], i, t => by simp [argsT, Tr.get_leaf]
  | v :: l, i, t => by
    unfold argsT
    by_cases hit : t = i
    · subst hit; rw [Tr.get_put_same, if_pos (Nat.le_refl _), Nat.sub_self]; rfl
    · rw [Tr.get_put_ne _ _ _ _ (Key.ofNat_ne hit), argsT_get l (i + 1) t]
      by_cases h1 : i + 1 ≤ t
      · rw [if_pos h1, if_pos (by omega), show t - i = (t - (i + 1)) + 1 by omega]; simp
      · rw [if_neg h1, if_neg (by omega)]

theorem argsT_TR {args : List AV} {args' : Array Value} (ha : VsR ρ args args'.toList) (n : Nat) : TR ρ (Nat.max args.length n) (argsT 0 args) (args' ++ Array.replicate (n - args'.size) Go.undef) := by
  have hl := ha.length
  simp only [Array.length_toList] at hl
  refine ⟨?_, fun t => ?_⟩
  · simp only [Array.size_append, Array.size_replicate, hl]
    show _ = max _ _
    omega
  · rw [argsT_get, if_pos (Nat.zero_le _), Nat.sub_zero, Array.getD_eq_getD_getElem?]
    cases hv : args[t]? with
    | some v =>
      obtain ⟨u, h1, h2⟩ := ha.get _ _ hv
      have hlt : t < args'.size := by have := (List.getElem?_eq_some_iff.1 h1).1; simpa using this
      rw [Array.getElem?_append_left hlt]
      have : args'[t]? = some u := by simpa using h1
      rw [this]; exact h2
    | none =>
      have hge : args.length ≤ t := by simpa using hv
      rw [Array.getElem?_append_right (by omega)]
      have : ((Array.replicate (n - args'.size) Go.undef)[t - args'.size]?).getD Go.undef = Go.undef := by
        rw [Array.getElem?_replicate]; split <;> rfl
      rw [this]; exact VR.undef

theorem enterFr_run {f : FuncId} {args : List AV} {a : AFr} (he : enterFr P f args = some a) {args' : Array Value} (ha : VsR ρ args args'.toList) :
    FB ρ a (Frame.enter P f args' .normal) ∧ ActB P ρ h lo a (Frame.enter P f args' .normal) := by
  unfold enterFr at he
  split at he
  · rename_i fn hf
    split at he
    · rename_i c hc
      cases he
      refine ⟨⟨rfl, rfl, rfl, .no, .nil⟩, .inl ⟨?_, ?_⟩⟩
      · simp only [Frame.enter, hf, Option.bind_some, hc, Option.getD_some]
        exact .cons .code .nil
      · simp only [Frame.enter, hf, Option.map_some, Option.getD_some]
        exact argsT_TR ha _
    · cases he
  · cases he

theorem putParams_run {n : Nat} : ∀ {ps : List Tmp} {args : List AV} {T T' : Tr AV} {tmps : Array Value} {args' : List Value}, putParams n ps args T = some T' → VsR ρ args args' → TR ρ n T tmps →
    TR ρ n T' ((ps.zip args').foldl (fun tmps (x : Tmp × Value) => tmps.setIfInBounds x.1 x.2) tmps) ∧ ps.length = args'.length
  | [], [], T, T', tmps, args', hp, ha, ht => by cases hp; cases ha; exact ⟨ht, rfl⟩
  | t :: ts, v :: vs, T, T', tmps, args', hp, ha, ht => by
    unfold putParams at hp
    split at hp
    · rename_i hb
      rw [Nat.blt_eq] at hb
      cases ha with
      | cons a b =>
        have h1 : TR ρ n (T.put (Key.ofNat t) (some v)) (putC tmps (some t) _) := ht.put (d := some t) (by unfold putT; dsimp only; rw [if_pos (by rw [Nat.blt_eq]; exact hb)]) a
        obtain ⟨h2, h3⟩ := putParams_run hp b h1
        exact ⟨h2, by simp [h3]⟩
    · cases hp
  | [], _ :: _, _, _, _, _, hp, _, _ => by cases hp
  | _ :: _, [], _, _, _, _, hp, _, _ => by cases hp

/-- One result, of the machine's. -/
def resC (tmps : Array Value) : ResultVar → Sem Value
  | .tmp t => pure (tmps.getD t Go.undef)
  | .cell a t => do loadVar t (← asAddr (tmps.getD a Go.undef))

theorem resA_run {B : Nat} {w0 w : World} {T : Tr AV} {n : Nat} {tmps : Array Value} (hr : HR B w0 ρ h w) (ht : TR ρ n T tmps) {r : ResultVar} {v : AV} (hq : resA P T h r = some v) :
    ∃ u, (resC tmps r).run P w = .ok u w ∧ VR ρ v u := by
  cases r with
  | tmp t => cases hq; exact ⟨_, rfl, ht.get t⟩
  | cell a t =>
    unfold resA at hq
    dsimp only at hq
    split at hq
    · rename_i b off hp
      have hg := ht.get a
      rw [hp] at hg
      obtain ⟨c, z, hρ, hc⟩ := hg.ptr_inv
      obtain ⟨u, h3, h4⟩ := loadA_run (P := P) hq hr hρ
      exact ⟨u, by unfold resC; dsimp only; rw [hc]; simp [asAddr, h3], h4⟩
    · cases hq

theorem resAs_run {B : Nat} {w0 w : World} {T : Tr AV} {n : Nat} {tmps : Array Value} (hr : HR B w0 ρ h w) (ht : TR ρ n T tmps) : ∀ (rs : List ResultVar) (vs : List AV),
    rs.mapM (resA P T h) = some vs → ∃ us : List Value, (rs.mapM (resC tmps)).run P w = .ok us w ∧ VsR ρ vs us
  | [], vs, hm => by simp at hm; subst hm; exact ⟨[], by simp, .nil⟩
  | r :: rs, vs, hm => by
    rw [List.mapM_cons] at hm
    cases hq : resA P T h r with
    | none => rw [hq] at hm; cases hm
    | some v =>
      rw [hq] at hm
      cases hq2 : rs.mapM (resA P T h) with
      | none => rw [hq2] at hm; cases hm
      | some vs2 =>
        rw [hq2] at hm
        cases hm
        obtain ⟨us, h1, h2⟩ := resAs_run hr ht rs vs2 hq2
        obtain ⟨u, h3, h4⟩ := resA_run (P := P) hr ht hq
        refine ⟨u :: us, ?_, .cons h4 h2⟩
        rw [List.mapM_cons]
        simp only [Sem.run_bind, h3, Result.andThen_ok, h1, Sem.run_pure]

theorem results_eq (fn : Func) (tmps : Array Value) : results fn tmps = (do
    let vs ← fn.results.mapM (resC tmps)
    pure (if h : vs.size = 1 then vs[0] else .tuple vs) : Sem Value) := by
  have : ∀ f : ResultVar → Sem Value, (∀ x, f x = resC tmps x) → (do
      let vs ← fn.results.mapM f
      pure (if h : vs.size = 1 then vs[0] else .tuple vs) : Sem Value) = (do
      let vs ← fn.results.mapM (resC tmps)
      pure (if h : vs.size = 1 then vs[0] else .tuple vs) : Sem Value) := by
    intro f hf
    rw [funext hf]
  exact this _ (fun x => by cases x <;> rfl)

theorem resultsA_run {B : Nat} {w0 w : World} {fn : Func} {T : Tr AV} {n : Nat} {tmps : Array Value} {v : AV} (hv : resultsA P fn T h = some v) (hr : HR B w0 ρ h w) (ht : TR ρ n T tmps) :
    ∃ u, (results fn tmps).run P w = .ok u w ∧ VR ρ v u := by
  unfold resultsA at hv
  rw [results_eq, Array.mapM_eq_mapM_toList]
  split at hv
  · rename_i v1 hm
    cases hv
    obtain ⟨us, h1, h2⟩ := resAs_run (P := P) hr ht _ _ hm
    obtain ⟨u, m', rfl, h3, h4⟩ := h2.cons_left
    have := h4.nil_left
    subst this
    refine ⟨u, ?_, h3⟩
    simp only [Sem.run_bind, Sem.run_map, h1, Result.andThen_ok, Sem.run_pure]
    simp
  · rename_i vs hne hm
    cases hv
    obtain ⟨us, h1, h2⟩ := resAs_run (P := P) hr ht _ _ hm
    refine ⟨.tuple us.toArray, ?_, .tup (by simpa using h2)⟩
    simp only [Sem.run_bind, Sem.run_map, h1, Result.andThen_ok, Sem.run_pure]
    have hl := h2.length
    have h1' : us.length ≠ 1 := by
      intro h1
      rw [h1] at hl
      match vs, hl with
      | [v], _ => exact hne v rfl
    simp [h1']
  · cases hv
end
end Go.Ev
