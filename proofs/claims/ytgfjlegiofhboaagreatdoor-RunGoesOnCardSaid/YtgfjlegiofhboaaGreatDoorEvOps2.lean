/- What operations of the evaluator come to that make nothing. No condition. -/
import Derived.Test.YtgfjlegiofhboaaGreatDoorEvOps
namespace Go.Ev
open Go.RowKit
set_option linter.unusedVariables false
set_option linter.unusedSimpArgs false
set_option autoImplicit false

section
variable {P : Program} {B : Nat} {w0 : World} {ρ : Rho} {h : Heap} {w : World}

theorem wrapF_eq (k : IntKind) (n : Int) : wrapF k n = k.wrap n := by
  unfold wrapF
  cases n with
  | ofNat m =>
    cases k <;> dsimp only
    split
    · rename_i hm
      have hm' : m ≤ 9223372036854775807 := Nat.le_of_ble_eq_true hm
      simp [IntKind.wrap, IntKind.bits, IntKind.signed]
      omega
    · rfl
  | negSucc m => rfl

/-- A run that gives a value and leaves the world. -/
def Gives (P : Program) (ρ : Rho) (w : World) (s : Sem Value) (v : AV) : Prop := ∃ u, s.run P w = .ok u w ∧ VR ρ v u

theorem eqGuard_run {op : BinOp} {t : TypeId} {xo yo : Operand} {x y : AV} {x' y' : Value} (hx : VR ρ x x') (hy : VR ρ y y') (h1 : x = .lit .nilIface → y = .lit .nilIface → (isCst xo || isCst yo) = true)
    (h2 : ∀ a, x' = .agg a → P.eqGuardType P.depth t = false) : (eqGuard op t xo yo x' y').run P w = .ok () w := by
  by_cases ha : ∃ a b, x' = .agg a ∧ y' = .agg b
  · obtain ⟨a, b, rfl, rfl⟩ := ha
    exact run_eqGuard_agg w op t xo yo a b (h2 _ rfl)
  · by_cases hn : x' = .nilIface ∧ y' = .nilIface
    · obtain ⟨rfl, rfl⟩ := hn
      cases hx with
      | lit =>
        cases hy with
        | lit =>
          have := h1 rfl rfl
          cases xo <;> cases yo <;> first | (simp [isCst] at this; done) | (cases op <;> rfl)
    · cases op <;> first
        | rfl
        | (unfold eqGuard
           simp only [Bool.not_true, Bool.false_eq_true, if_false, Sem.run_bind, Sem.run_pure, Result.andThen_ok]
           split
           · exact absurd ⟨rfl, rfl⟩ hn
           · exact absurd ⟨_, _, rfl, rfl⟩ ha
           · rfl)

/-- `==` and `!=`, where they are not told by numbers or texts. -/
theorem binOp_eq {op : BinOp} (hop : op = .eql ∨ op = .neq) {t : TypeId} {x y : AV} {r : Bool} (he : eqA P Op.maxDepth t x y = some r) {x' y' : Value} (hx : VR ρ x x') (hy : VR ρ y y') :
    (binOp op t x' y').run P w = .ok (.bool (match op with | .eql => r | _ => !r)) w := by
  have hq : (Op.equal t x' y').run P w = .ok r w := eqA_run _ he hx hy
  have h2 : eqA P (9999 + 1) t x y = some r := he
  unfold eqA at h2
  split at h2
  · split at h2
    · obtain rfl := hx.lit_eq; obtain rfl := hy.lit_eq
      rcases hop with rfl | rfl <;> simp [binOp, hq]
    · cases h2
  · rename_i hu
    split at h2
    · obtain rfl := hx.lit_eq; obtain rfl := hy.lit_eq
      split at h2
      · rename_i hk
        subst hk
        cases h2
        rcases hop with rfl | rfl <;> simp [binOp, Op.intCmp, bne]
      · cases h2
    · cases h2
  · rename_i hu
    split at h2
    · obtain rfl := hx.lit_eq; obtain rfl := hy.lit_eq
      cases h2
      rcases hop with rfl | rfl <;> simp [binOp, Op.stringOp, beq_toListBytes]
    · cases h2
  · split at h2
    · obtain rfl := hx.lit_eq; obtain rfl := hy.lit_eq
      rcases hop with rfl | rfl <;> simp [binOp, hq]
    · obtain rfl := hx.lit_eq; obtain ⟨c, z, _, rfl⟩ := hy.ptr_inv
      rcases hop with rfl | rfl <;> simp [binOp, hq]
    · obtain rfl := hy.lit_eq; obtain ⟨c, z, _, rfl⟩ := hx.ptr_inv
      rcases hop with rfl | rfl <;> simp [binOp, hq]
    · cases h2
  · split at h2
    · obtain rfl := hx.lit_eq; obtain rfl := hy.lit_eq
      rcases hop with rfl | rfl <;> simp [binOp, hq]
    · obtain rfl := hx.lit_eq; obtain ⟨c, rfl, _⟩ := hy.ifc_inv
      rcases hop with rfl | rfl <;> simp [binOp, hq]
    · obtain rfl := hy.lit_eq; obtain ⟨c, rfl, _⟩ := hx.ifc_inv
      rcases hop with rfl | rfl <;> simp [binOp, hq]
    · obtain ⟨c, rfl, _⟩ := hx.ifc_inv; obtain ⟨c', rfl, _⟩ := hy.ifc_inv
      rcases hop with rfl | rfl <;> simp [binOp, hq]
    · cases h2
  · split at h2
    · obtain ⟨a, rfl, _⟩ := hx.agg_inv; obtain ⟨b, rfl, _⟩ := hy.agg_inv
      rcases hop with rfl | rfl <;> simp [binOp, hq]
    · cases h2
  · split at h2
    · obtain ⟨a, rfl, _⟩ := hx.agg_inv; obtain ⟨b, rfl, _⟩ := hy.agg_inv
      rcases hop with rfl | rfl <;> simp [binOp, hq]
    · cases h2
  · split at h2
    · obtain rfl := hx.lit_eq; obtain rfl := hy.lit_eq
      rcases hop with rfl | rfl <;> simp [binOp, hq]
    · obtain rfl := hx.lit_eq; obtain ⟨_, _, _, _, _, _, _, _, _, rfl⟩ := hy.slc_inv
      rcases hop with rfl | rfl <;> simp [binOp, hq]
    · obtain rfl := hy.lit_eq; obtain ⟨_, _, _, _, _, _, _, _, _, rfl⟩ := hx.slc_inv
      rcases hop with rfl | rfl <;> simp [binOp, hq]
    · cases h2
  · split at h2
    · obtain rfl := hx.lit_eq; obtain rfl := hy.lit_eq
      rcases hop with rfl | rfl <;> simp [binOp, hq]
    · obtain rfl := hx.lit_eq; obtain ⟨_, _, rfl, _⟩ := hy.fn_inv
      rcases hop with rfl | rfl <;> simp [binOp, hq]
    · obtain rfl := hy.lit_eq; obtain ⟨_, _, rfl, _⟩ := hx.fn_inv
      rcases hop with rfl | rfl <;> simp [binOp, hq]
    · cases h2
  · split at h2
    · obtain rfl := hx.lit_eq; obtain rfl := hy.lit_eq
      rcases hop with rfl | rfl <;> simp [binOp, hq]
    · obtain rfl := hx.lit_eq; obtain ⟨_, _, _, rfl⟩ := hy.map_inv
      rcases hop with rfl | rfl <;> simp [binOp, hq]
    · obtain rfl := hy.lit_eq; obtain ⟨_, _, _, rfl⟩ := hx.map_inv
      rcases hop with rfl | rfl <;> simp [binOp, hq]
    · cases h2
  · cases h2

theorem intBinA_run {op : BinOp} {t : TypeId} {k : IntKind} {a b : Int} {v : Value} (he : intBinA op k a b = some v) (h1 : op ≠ .shl) (h2 : op ≠ .shr) :
    (binOp op t (.int k a) (.int k b)).run P w = .ok v w := by
  unfold intBinA at he
  split at he <;> first
    | (cases he; simp [binOp, Op.intArith, Op.intBits, Op.intCmp, wrapF_eq]; done)
    | (split at he
       · cases he
       · rename_i hb; cases he; simp [binOp, Op.intDiv, hb])
    | cases he

theorem shiftA_run {op : BinOp} {t : TypeId} {k k' : IntKind} {a b : Int} {v : Value} (he : shiftA op k a b = some v) (h1 : op = .shl ∨ op = .shr) :
    (binOp op t (.int k a) (.int k' b)).run P w = .ok v w := by
  unfold shiftA at he
  split at he
  · cases he
  · rename_i hb
    rcases h1 with rfl | rfl <;> (cases he; simp [binOp, Op.shift, hb])

theorem binA_run {op : BinOp} {t : TypeId} {xo yo : Operand} {x y v : AV} (he : binA P op t (isCst xo || isCst yo) x y = some v) {x' y' : Value} (hx : VR ρ x x') (hy : VR ρ y y') :
    Gives P ρ w (do eqGuard op t xo yo x' y'; binOp op t x' y') v := by
  unfold binA at he
  split at he
  · rename_i k a k' b
    obtain rfl := hx.lit_eq; obtain rfl := hy.lit_eq
    have hg : (eqGuard op t xo yo (.int k a) (.int k' b)).run P w = .ok () w := eqGuard_run hx hy (fun h => by cases h) (fun _ h => by cases h)
    split at he
    · cases hs : shiftA .shl k a b with
      | none => rw [hs] at he; cases he
      | some r => rw [hs] at he; cases he; exact ⟨r, by simp [hg, shiftA_run hs (.inl rfl)], .lit⟩
    · cases hs : shiftA .shr k a b with
      | none => rw [hs] at he; cases he
      | some r => rw [hs] at he; cases he; exact ⟨r, by simp [hg, shiftA_run hs (.inr rfl)], .lit⟩
    · rename_i h1 h2
      split at he
      · rename_i hk
        subst hk
        cases hs : intBinA op k a b with
        | none => rw [hs] at he; cases he
        | some r => rw [hs] at he; cases he; exact ⟨r, by simp [hg, intBinA_run hs h1 h2], .lit⟩
      · cases he
  · rename_i a b
    obtain rfl := hx.lit_eq; obtain rfl := hy.lit_eq
    have hg : (eqGuard op t xo yo (.string a) (.string b)).run P w = .ok () w := eqGuard_run hx hy (fun h => by cases h) (fun _ h => by cases h)
    split at he
    · cases he; exact ⟨_, by simp [hg, binOp, Op.stringOp], .lit⟩
    · cases he; exact ⟨_, by simp [hg, binOp, Op.stringOp], .lit⟩
    · split at he
      · cases he
      · rename_i hs; cases he
        exact ⟨_, by simp only [Sem.run_bind, hg, Result.andThen_ok, binOp, Op.stringOp]; rw [if_neg hs]; rfl, .lit⟩
    · cases he
  · split at he
    · cases he
    · rename_i hc
      have hg : (eqGuard op t xo yo x' y').run P w = .ok () w := eqGuard_run hx hy (fun _ _ => by revert hc; cases isCst xo <;> cases isCst yo <;> simp) (fun a h => by obtain rfl := hx.lit_eq; cases h)
      split at he
      · cases hq : eqA P Op.maxDepth t (.lit .nilIface) (.lit .nilIface) with
        | none => rw [hq] at he; cases he
        | some r => rw [hq] at he; cases he; exact ⟨_, by simp only [Sem.run_bind, hg, Result.andThen_ok]; exact binOp_eq (.inl rfl) hq hx hy, .lit⟩
      · cases hq : eqA P Op.maxDepth t (.lit .nilIface) (.lit .nilIface) with
        | none => rw [hq] at he; cases he
        | some r => rw [hq] at he; cases he; exact ⟨_, by simp only [Sem.run_bind, hg, Result.andThen_ok]; exact binOp_eq (.inr rfl) hq hx hy, .lit⟩
      · cases he
  · cases he
  · cases he
  · rename_i xl yl
    split at he
    · cases he
    · rename_i hgt
      have hg : (eqGuard op t xo yo x' y').run P w = .ok () w := eqGuard_run hx hy (fun h => by cases h) (fun a h => by simpa using hgt)
      split at he
      · cases hq : eqA P Op.maxDepth t (.agg xl) (.agg yl) with
        | none => rw [hq] at he; cases he
        | some r => rw [hq] at he; cases he; exact ⟨_, by simp only [Sem.run_bind, hg, Result.andThen_ok]; exact binOp_eq (.inl rfl) hq hx hy, .lit⟩
      · cases hq : eqA P Op.maxDepth t (.agg xl) (.agg yl) with
        | none => rw [hq] at he; cases he
        | some r => rw [hq] at he; cases he; exact ⟨_, by simp only [Sem.run_bind, hg, Result.andThen_ok]; exact binOp_eq (.inr rfl) hq hx hy, .lit⟩
      · cases he
  · rename_i n1 n2 n3 n4 n5 n6
    have key : ∀ r, eqA P Op.maxDepth t x y = some r → (eqGuard op t xo yo x' y').run P w = .ok () w := by
      intro r hq
      refine eqGuard_run hx hy (fun h1 h2 => by first | exact (n1 h1 h2).elim | exact (n2 h1 h2).elim | exact (n3 h1 h2).elim | exact (n4 h1 h2).elim | exact (n5 h1 h2).elim | exact (n6 h1 h2).elim) (fun a ha => ?_)
      exfalso
      subst ha
      cases hx with
      | lit =>
        have h2 : eqA P (9999 + 1) t _ y = some r := hq
        unfold eqA at h2
        (repeat' split at h2) <;> simp_all
      | agg hl =>
        have h2 : eqA P (9999 + 1) t _ y = some r := hq
        unfold eqA at h2
        (repeat' split at h2) <;> simp_all
    split at he
    · cases hq : eqA P Op.maxDepth t x y with
      | none => rw [hq] at he; cases he
      | some r => rw [hq] at he; cases he; exact ⟨_, by simp only [Sem.run_bind, key r hq, Result.andThen_ok]; exact binOp_eq (.inl rfl) hq hx hy, .lit⟩
    · cases hq : eqA P Op.maxDepth t x y with
      | none => rw [hq] at he; cases he
      | some r => rw [hq] at he; cases he; exact ⟨_, by simp only [Sem.run_bind, key r hq, Result.andThen_ok]; exact binOp_eq (.inr rfl) hq hx hy, .lit⟩
    · cases he

theorem unA_run {op : UnOp} {x v : AV} (he : unA op x = some v) {x' : Value} (hx : VR ρ x x') : Gives P ρ w (Op.unary op x') v := by
  unfold unA at he
  split at he
  · cases he; obtain rfl := hx.lit_eq; exact ⟨_, by simp [Op.unary, Op.intArith, wrapF_eq], .lit⟩
  · cases he; obtain rfl := hx.lit_eq; exact ⟨_, by simp [Op.unary], .lit⟩
  · cases he

theorem convA_run {src dst : TypeId} {x v : AV} (he : convA P src dst x = some v) {x' : Value} (hx : VR ρ x x') : Gives P ρ w (convert src dst x') v := by
  unfold convA at he
  split at he
  · rename_i d1 k h1 h2
    split at he
    · cases he; obtain rfl := hx.lit_eq
      exact ⟨_, by simp [convert, run_underlying h1, run_underlying h2, Conv.intToInt, wrapF_eq], .lit⟩
    · cases he
  · rename_i h1 h2
    split at he
    · cases he; obtain rfl := hx.lit_eq
      exact ⟨_, by simp [convert, run_underlying h1, run_underlying h2], .lit⟩
    · cases he
  · cases he

theorem inside_some {i : Int} {len n : Nat} (hi : inside i len = some n) : i = n ∧ n < len := by
  unfold inside at hi
  split at hi
  · split at hi
    · rename_i hb; cases hi; exact ⟨rfl, by simp [Nat.blt] at hb; omega⟩
    · cases hi
  · cases hi
theorem upto_some {i : Int} {len n : Nat} (hi : upto i len = some n) : i = n ∧ n ≤ len := by
  unfold upto at hi
  split at hi
  · split at hi
    · rename_i hb; cases hi; exact ⟨rfl, Nat.le_of_ble_eq_true hb⟩
    · cases hi
  · cases hi

theorem fieldAddrA_run {s : TypeId} {x v : AV} {f : Nat} (he : fieldAddrA P s x f = some v) {x' : Value} (hx : VR ρ x x') : Gives P ρ w (Instr.fieldAt s x' f) v := by
  unfold fieldAddrA at he
  split at he
  · rename_i b off
    obtain ⟨c, z, hρ, rfl⟩ := hx.ptr_inv
    split at he
    · rename_i fields hu
      split at he
      · rename_i fd hf
        split at he
        · rename_i n hn
          cases he
          refine ⟨_, ?_, .ptr hρ⟩
          simp [Instr.fieldAt, run_underlying hu, hf, Instr.sureAddr, fieldPlace, sizeP_run hn, Addr.add_none]
        · cases he
      · cases he
    · cases he
  · cases he

theorem fieldA_run {t : TypeId} {x v : AV} {f : Nat} (he : fieldA P t x f = some v) {x' : Value} (hx : VR ρ x x') : Gives P ρ w (Instr.field t x' f) v := by
  unfold fieldA at he
  split at he
  · obtain ⟨a, rfl, ha⟩ := hx.agg_inv
    split at he
    · rename_i fields hu
      split at he
      · rename_i fd hf
        obtain ⟨u, hr, hv⟩ := partA_run (P := P) (w := w) he ha
        exact ⟨u, by simp [Instr.field, run_underlying hu, hf, asAgg, hr], hv⟩
      · cases he
    · cases he
  · cases he

theorem indexAddrA_run {t : TypeId} {x ix v : AV} (he : indexAddrA P t x ix = some v) {x' i' : Value} (hx : VR ρ x x') (hi : VR ρ ix i') : Gives P ρ w (Instr.indexAt t x' i') v := by
  unfold indexAddrA at he
  split at he
  · rename_i k i
    obtain rfl := hi.lit_eq
    split at he
    · rename_i len elem b off hu
      obtain ⟨c, z, hρ, rfl⟩ := hx.ptr_inv
      split at he
      · rename_i n z' hn hz
        obtain ⟨rfl, hlt⟩ := inside_some hn
        cases he
        refine ⟨_, ?_, .ptr hρ⟩
        simp [Instr.indexAt, asIntOf, run_underlying hu, Instr.sureAddr, sizeP_run hz, Addr.add_none, hlt]
      · cases he
    · rename_i elem b off len cap esz hu
      obtain ⟨c, z, off', cap', hρ, h1, h2, h3, h4, rfl⟩ := hx.slc_inv
      split at he
      · rename_i n z' hn hz
        obtain ⟨rfl, hlt⟩ := inside_some hn
        split at he
        · rename_i hez
          cases he
          obtain rfl := h1 (by simp [anch]; omega)
          refine ⟨_, ?_, .ptr hρ⟩
          simp [Instr.indexAt, asIntOf, run_underlying hu, sizeP_run hz, Addr.add_none, hlt]
        · cases he
      · cases he
    · cases he
  · cases he

theorem indexA_run {t : TypeId} {x ix v : AV} (he : indexA P t x ix = some v) {x' i' : Value} (hx : VR ρ x x') (hi : VR ρ ix i') : Gives P ρ w (Instr.index t x' i') v := by
  unfold indexA at he
  split at he
  · rename_i k i
    obtain rfl := hi.lit_eq
    split at he
    · rename_i len elem l hu
      obtain ⟨a, rfl, ha⟩ := hx.agg_inv
      split at he
      · rename_i n z' hn hz
        obtain ⟨rfl, hlt⟩ := inside_some hn
        obtain ⟨u, hr, hv⟩ := partA_run (P := P) (w := w) he ha
        exact ⟨u, by simp [Instr.index, asIntOf, run_underlying hu, sizeP_run hz, hlt, hr], hv⟩
      · cases he
    · rename_i s hu
      obtain rfl := hx.lit_eq
      split at he
      · rename_i n hn
        obtain ⟨rfl, hlt⟩ := inside_some hn
        split at he
        · rename_i b hb
          cases he
          exact ⟨_, by simp [Instr.index, asIntOf, run_underlying hu, hb], .lit⟩
        · cases he
      · cases he
    · cases he
  · cases he

theorem sliceBound_run {k : IntKind} {n y : Nat} {code : BoundsCode} (hn : n ≤ y) : (Instr.sliceBound (.int k n) y code).run P w = .ok n w := by
  simp [Instr.sliceBound, asIntOf, hn]

theorem natOf_some {d most : Nat} {x : AV} {n : Nat} (hn : natOf d most (some x) = some n) {x' : Value} (hx : VR ρ x x') : ∃ k, x' = .int k n ∧ n ≤ most := by
  unfold natOf at hn
  split at hn
  · rename_i h1; cases h1
  · rename_i k i h1
    cases h1
    obtain ⟨rfl, hle⟩ := upto_some hn
    exact ⟨_, hx.lit_eq, hle⟩
  · cases hn

/-- Operands that may be left out. -/
inductive OptR (ρ : Rho) : Option AV → Option Value → Prop
  | none : OptR ρ none none
  | some {v : AV} {u : Value} : VR ρ v u → OptR ρ (some v) (some u)

/-- What a cut's bounds come to: the bounds that the machine finds, and how they stand. -/
theorem cutA_run {b : Key} {off len : Nat} {cap : Option Nat} {esz : Nat} {lo hi mx : Option AV} {v : AV} (he : cutA b off len cap esz lo hi mx = some v)
    {lo' hi' mx' : Option Value} (hl : OptR ρ lo lo') (hh : OptR ρ hi hi') (hm : OptR ρ mx mx') {cap' : Nat} (hlen : len ≤ cap') (hcap : ∀ k, cap = some k → cap' = k) (isS : Bool) :
    ∃ l hgh m, (Instr.sliceBounds isS len cap' lo' hi' mx').run P w = .ok (l, hgh, m) w ∧ l ≤ hgh ∧ hgh ≤ m ∧ m ≤ cap' ∧ 
      ∃ cap'', v = .slc b (off + l * esz) (hgh - l) cap'' esz ∧ (∀ k, cap'' = some k → m - l = k) ∧ (anch len cap = false → anch (hgh - l) cap'' = false) := by
  have hle : cap.getD len ≤ cap' := by
    cases cap with
    | none => simpa using hlen
    | some k => simp [hcap k rfl]
  unfold cutA at he
  split at he
  · rename_i mv
    split at he
    · rename_i m hv hn1 
      cases hm with
      | some hmv =>
        cases hh with
        | some hhv =>
          split at he
          · rename_i hgh hn2
            split at he
            · rename_i l hn3
              cases he
              obtain ⟨k1, rfl, hm1⟩ := natOf_some hn1 hmv
              obtain ⟨k2, rfl, hm2⟩ := natOf_some hn2 hhv
              cases hl with
              | none =>
                simp [natOf] at hn3; subst hn3
                refine ⟨0, hgh, m, ?_, by omega, hm2, by omega, _, rfl, fun k hk => by cases hk; rfl, ?_⟩
                · simp [Instr.sliceBounds, sliceBound_run (show m ≤ cap' by omega), sliceBound_run hm2]
                · intro ha
                  cases cap with
                  | none => simp [anch] at ha; subst ha; simp at hm1; simp [anch]; omega
                  | some q => simp [anch] at ha; obtain ⟨rfl, rfl⟩ := ha; simp at hm1; simp [anch]; omega
              | some hlv =>
                obtain ⟨k3, rfl, hm3⟩ := natOf_some hn3 hlv
                refine ⟨l, hgh, m, ?_, hm3, hm2, by omega, _, rfl, fun k hk => by cases hk; rfl, ?_⟩
                · simp [Instr.sliceBounds, sliceBound_run (show m ≤ cap' by omega), sliceBound_run hm2, sliceBound_run hm3]
                · intro ha
                  cases cap with
                  | none => simp [anch] at ha; subst ha; simp at hm1; simp [anch]; omega
                  | some q => simp [anch] at ha; obtain ⟨rfl, rfl⟩ := ha; simp at hm1; simp [anch]; omega
            · cases he
          · cases he
    · cases he
  · cases hm
    split at he
    · rename_i hgh hn2
      split at he
      · rename_i l hn3
        cases he
        have h1 : hgh ≤ cap.getD len ∧ ((hi' = none ∧ hgh = len) ∨ ∃ k, hi' = some (.int k hgh)) := by
          cases hh with
          | none =>
            simp [natOf] at hn2; subst hn2
            refine ⟨?_, .inl ⟨rfl, rfl⟩⟩
            cases cap with
            | none => simp
            | some k => have := hcap k rfl; subst this; simpa using hlen
          | some hhv =>
            obtain ⟨k2, rfl, hm2⟩ := natOf_some hn2 hhv
            exact ⟨hm2, .inr ⟨k2, rfl⟩⟩
        obtain ⟨hle2, hrun⟩ := h1
        have hmm : ∀ k, cap.map (· - l) = some k → cap' - l = k := by
          intro k hk
          cases cap with
          | none => cases hk
          | some q => cases hk; rw [hcap q rfl]
        have hanch : ∀ l, l ≤ hgh → anch len cap = false → anch (hgh - l) (cap.map (· - l)) = false := by
          intro l hl' ha
          cases cap with
          | none => simp [anch] at ha; subst ha; simp at hle2; simp [anch]; omega
          | some q => simp [anch] at ha; obtain ⟨rfl, rfl⟩ := ha; simp at hle2; simp [anch]; omega
        cases hl with
        | none =>
          simp [natOf] at hn3; subst hn3
          refine ⟨0, hgh, cap', ?_, by omega, by omega, by omega, _, rfl, hmm, hanch 0 (by omega)⟩
          rcases hrun with ⟨rfl, rfl⟩ | ⟨k2, rfl⟩
          · simp [Instr.sliceBounds]
          · simp [Instr.sliceBounds, sliceBound_run (show hgh ≤ cap' by omega)]
        | some hlv =>
          obtain ⟨k3, rfl, hm3⟩ := natOf_some hn3 hlv
          refine ⟨l, hgh, cap', ?_, hm3, by omega, by omega, _, rfl, hmm, hanch l hm3⟩
          rcases hrun with ⟨rfl, rfl⟩ | ⟨k2, rfl⟩
          · simp [Instr.sliceBounds, sliceBound_run hm3]
          · simp [Instr.sliceBounds, sliceBound_run (show hgh ≤ cap' by omega), sliceBound_run hm3]
      · cases he
    · cases he

theorem holdsA_le {b : Key} {n : Nat} (hh : holdsA b n h = true) (hr : HR B w0 ρ h w) {c z : Nat} (hρ : ρ b = some (c, z)) : n ≤ z := by
  unfold holdsA at hh
  split at hh
  · rename_i cs ro hb
    obtain ⟨oc, _, ho, _⟩ := hr.obj _ _ _ _ hb hρ
    cases ho with
    | cells h1 h2 h3 h4 => exact Nat.le_trans (Nat.le_of_ble_eq_true hh) h2
  · cases hh

theorem cut_val {b : Key} {c z off off' l hgh m cap' esz : Nat} {cap'' : Option Nat} (hρ : ρ b = some (c, z)) (h1 : l ≤ hgh) (h2 : hgh ≤ m) (h3 : m ≤ cap')
    (h4 : off' + cap' * esz ≤ z) (h5 : anch (hgh - l) cap'' = true → off' = off) (h6 : ∀ k, cap'' = some k → m - l = k) :
    VR ρ (.slc b (off + l * esz) (hgh - l) cap'' esz) (.slice (some (if m = l then (⟨c, off', none⟩ : Addr) else (⟨c, off', none⟩ : Addr).add (l * esz))) (hgh - l) (m - l)) := by
  by_cases hml : m = l
  · subst hml
    rw [if_pos rfl]
    refine .slc hρ (fun ha => ?_) (by omega) h6 (by simp; omega)
    exfalso
    have : hgh - m = 0 := by omega
    rw [this] at ha
    cases cap'' with
    | none => simp [anch] at ha
    | some k => have := h6 k rfl; simp [anch] at ha; omega
  · rw [if_neg hml, Addr.add_none]
    refine .slc hρ (fun ha => by rw [h5 ha]) (by omega) h6 ?_
    have : l * esz + (m - l) * esz = m * esz := by rw [← Nat.add_mul]; congr 1; omega
    have := Nat.mul_le_mul_right esz h3
    omega

theorem sliceA_run {t : TypeId} {x : AV} {lo hi mx : Option AV} {v : AV} (he : sliceA P t x lo hi mx h = some v) (hr : HR B w0 ρ h w) {x' : Value} (hx : VR ρ x x')
    {lo' hi' mx' : Option Value} (hl : OptR ρ lo lo') (hh : OptR ρ hi hi') (hm : OptR ρ mx mx') : Gives P ρ w (Instr.sliceAt t x' lo' hi' mx') v := by
  unfold sliceA at he
  split at he
  · rename_i n elem hu
    split at he
    · rename_i b off z hz
      obtain ⟨c, zz, hρ, rfl⟩ := hx.ptr_inv
      split at he
      · rename_i hold
        have hz2 := holdsA_le hold hr hρ
        obtain ⟨l, hgh, m, hrun, a1, a2, a3, cap'', rfl, a5, a6⟩ := cutA_run (P := P) (w := w) he hl hh hm (cap' := n) (Nat.le_refl _) (fun k hk => by cases hk; rfl) false
        exact ⟨_, by simp [Instr.sliceAt, run_underlying hu, Instr.sureAddr, hrun, sizeP_run hz], cut_val hρ a1 a2 a3 hz2 (fun _ => rfl) a5⟩
      · cases he
    · cases he
  · rename_i elem hu
    split at he
    · rename_i b off len cap esz z hz
      obtain ⟨c, zz, off', cap', hρ, b1, b2, b3, b4, rfl⟩ := hx.slc_inv
      split at he
      · rename_i hze
        obtain rfl := Nat.eq_of_beq_eq_true hze
        obtain ⟨l, hgh, m, hrun, a1, a2, a3, cap'', rfl, a5, a6⟩ := cutA_run (P := P) (w := w) he hl hh hm b2 b3 true
        refine ⟨_, ?_, cut_val hρ a1 a2 a3 b4 (fun hlm => ?_) a5⟩
        · simp [Instr.sliceAt, Instr.slice, run_underlying hu, hrun, sizeP_run hz]
          split <;> rfl
        · cases hanch : anch len cap with
          | true => exact b1 hanch
          | false => rw [a6 hanch] at hlm; cases hlm
      · cases he
    · rename_i z hz
      obtain rfl := hx.lit_eq
      split at he
      · rename_i r1 r2 r3 n1 n2 n3
        split at he
        · cases he
        · rename_i hmh
          cases he
          have q : ∀ {o : Option AV} {o' : Option Value} {r : Nat}, natOf 0 0 o = some r → OptR ρ o o' → o' = none ∨ ∃ k, o' = some (.int k (0 : Nat)) := by
            intro o o' r hn ho
            cases ho with
            | none => exact .inl rfl
            | some hv =>
              obtain ⟨k, rfl, hk⟩ := natOf_some hn hv
              have : r = 0 := by omega
              subst this
              exact .inr ⟨k, rfl⟩
          refine ⟨.slice none 0 0, ?_, .lit⟩
          rcases q n1 hm with rfl | ⟨k1, rfl⟩ <;> rcases q n2 hh with rfl | ⟨k2, rfl⟩ <;> rcases q n3 hl with rfl | ⟨k3, rfl⟩ <;>
            first
            | (cases hm; cases hh; simp at hmh; done)
            | (simp [Instr.sliceAt, Instr.slice, run_underlying hu, Instr.sliceBounds, Instr.sliceBound, asIntOf, sizeP_run hz]; done)
      · cases he
    · cases he
  · rename_i hu
    split at he
    · rename_i s
      obtain rfl := hx.lit_eq
      cases hm
      split at he
      · rename_i hgh hn2
        split at he
        · rename_i l hn3
          cases he
          refine ⟨.string (s.extract l hgh), ?_, .lit⟩
          cases hh with
          | none =>
            simp [natOf] at hn2; subst hn2
            cases hl with
            | none => simp [natOf] at hn3; subst hn3; simp [Instr.sliceAt, Instr.slice, run_underlying hu, Instr.sliceBounds]
            | some hlv =>
              obtain ⟨k3, rfl, hm3⟩ := natOf_some hn3 hlv
              simp [Instr.sliceAt, Instr.slice, run_underlying hu, Instr.sliceBounds, sliceBound_run hm3]
          | some hhv =>
            obtain ⟨k2, rfl, hm2⟩ := natOf_some hn2 hhv
            cases hl with
            | none => simp [natOf] at hn3; subst hn3; simp [Instr.sliceAt, Instr.slice, run_underlying hu, Instr.sliceBounds, sliceBound_run hm2]
            | some hlv =>
              obtain ⟨k3, rfl, hm3⟩ := natOf_some hn3 hlv
              simp [Instr.sliceAt, Instr.slice, run_underlying hu, Instr.sliceBounds, sliceBound_run hm3, sliceBound_run hm2]
        · cases he
      · cases he
    · cases he
  · rename_i arr hu
    split at he
    · rename_i b off n elem hua
      obtain ⟨c, zz, hρ, rfl⟩ := hx.ptr_inv
      split at he
      · rename_i z hz
        split at he
        · rename_i hold
          have hz2 := holdsA_le hold hr hρ
          obtain ⟨l, hgh, m, hrun, a1, a2, a3, cap'', rfl, a5, a6⟩ := cutA_run (P := P) (w := w) he hl hh hm (cap' := n) (Nat.le_refl _) (fun k hk => by cases hk; rfl) false
          exact ⟨_, by simp [Instr.sliceAt, Instr.slice, run_underlying hu, run_underlying hua, asAddr, hrun, sizeP_run hz], cut_val hρ a1 a2 a3 hz2 (fun _ => rfl) a5⟩
        · cases he
      · cases he
    · cases he
  · cases he
end
end Go.Ev
