/- What operations of the evaluator come to that make blocks, append and copy. No condition. -/
import Derived.Test.YtgfjlegiofhboaaGreatDoorEvOps3
namespace Go.Ev
open Go.RowKit
set_option linter.unusedVariables false
set_option linter.unusedSimpArgs false
set_option autoImplicit false

section
variable {P : Program} {B : Nat} {w0 : World} {ρ : Rho} {h : Heap} {w : World}

theorem fillA_length {place : Nat → Option (Nat × Nat)} : ∀ (ps : List (Nat × AV)) (cells l : List AV), fillA place ps cells = some l → l.length = cells.length
  | [], cells, l, he => by cases he; rfl
  | (i, v) :: ps, cells, l, he => by
    unfold fillA at he
    split at he
    · split at he
      · split at he
        · rename_i c' hp
          rw [fillA_length ps _ _ he, putAt_length hp]
        · cases he
      · cases he
    · cases he

theorem zerosA_length (n : Nat) (z : List AV) : (zerosA n z).length = n * z.length := by
  simp [zerosA]

theorem flat_get {α : Type} (z : List α) : ∀ (n i : Nat), (List.replicate n z).flatten[i]? = if i < n * z.length then z[i % z.length]? else none
  | 0, i => by simp
  | n + 1, i => by
    rw [List.replicate_succ, List.flatten_cons]
    by_cases h1 : i < z.length
    · rw [List.getElem?_append_left h1, if_pos (by rw [Nat.add_mul]; omega), Nat.mod_eq_of_lt h1]
    · rw [List.getElem?_append_right (by omega), flat_get z n (i - z.length)]
      have h3 : (i - z.length) % z.length = i % z.length := (Nat.mod_eq_sub_mod (by omega)).symm
      by_cases h2 : i - z.length < n * z.length
      · rw [if_pos h2, if_pos (by rw [Nat.add_mul]; omega), h3]
      · rw [if_neg h2, if_neg (by rw [Nat.add_mul]; omega)]

/-- A row of zeros. -/
theorem zerosA_run (n : Nat) (z : Array Value) (s : Nat) (hz : z.size = s) (zz : Array Value) (hzz : n * s = 0 ∨ zz = z) :
    VsR ρ (zerosA n (z.toList.map AV.lit)) ((Array.range (n * s)).map (zz[· % zz.size]!)).toList := by
  refine VsR.of_get ?_ ?_
  · rw [zerosA_length]; simp [hz]
  · intro i v u hv hu
    unfold zerosA at hv
    rw [flat_get] at hv
    simp only [List.length_map, Array.length_toList, hz] at hv
    split at hv
    · rename_i hi
      rcases hzz with h0 | rfl
      · omega
      · have hs : 0 < s := by
          rcases Nat.eq_zero_or_pos s with h0 | h0
          · subst h0; simp at hi
          · exact h0
        have hlt : i % s < zz.size := by rw [hz]; exact Nat.mod_lt _ hs
        simp only [List.getElem?_map, Array.getElem?_toList, Array.getElem?_eq_getElem hlt, Option.map_some, Option.some.injEq] at hv
        subst hv
        simp only [Array.getElem?_toList, Array.getElem?_map, Array.getElem?_range] at hu
        rw [if_pos hi] at hu
        simp only [Option.map_some, Option.some.injEq] at hu
        subst hu
        rw [hz, getElem!_pos zz _ hlt]
        exact .lit
    · cases hv

theorem wrap_small (n : Nat) (hn : n ≤ 9223372036854775807) : IntKind.i64.wrap (n : Int) = n := by
  simp [IntKind.wrap, IntKind.bits, IntKind.signed]; omega

/-- An operation that makes a block. -/
def MakeOK (P : Program) (o : Oper) (ea : Operand → AV) (h : Heap) (r : R) : Prop :=
  ∃ v o', r = .val v (h.new o') ∧ o'.ro = false ∧ ∀ (ρ : Rho) (w : World) (ec : Operand → Value), (∀ x, VR ρ (ea x) (ec x)) → ρ h.nx = none →
    ∃ oc z v', (execOp ec o).run P w = .ok (.value v') (w.alloc oc) ∧ OR (ρ.add h.nx (w.heap.size, z)) z o' oc ∧ VR (ρ.add h.nx (w.heap.size, z)) v v'

theorem OR.fresh {ρ : Rho} {b : Key} (hb : ρ b = none) {cs : List AV} {arr : Array Value} (hv : VsR ρ cs arr.toList) (e : TypeId) (c : Nat) :
    OR (ρ.add b (c, arr.size)) arr.size (.cells cs false) (.cells arr e) := by
  have hl := hv.length
  simp only [Array.length_toList] at hl
  refine .cells rfl (by omega) (fun i v hi => ?_) (fun _ => rfl)
  obtain ⟨u, h1, h2⟩ := hv.get _ _ hi
  exact ⟨u, by simpa using h1, h2.mono (Rho.add_up hb _)⟩

theorem make_run {o : Oper} {ea : Operand → AV} {r : R} (hm : makes o.op = true) (he : evalOp P ea o h = some r) : MakeOK P o ea h r := by
  unfold evalOp at he
  cases hop : o.op <;> rw [hop] at hm he <;> simp only [makes] at hm <;> try (cases hm; done)
  case alloc t =>
    dsimp only at he
    split at he
    · rename_i z hz
      cases he
      refine ⟨_, _, rfl, rfl, fun ρ w ec hev hb => ⟨.cells z.cells t, z.cells.size, .pointer (some ⟨w.heap.size, 0, none⟩), ?_, OR.fresh hb (VsR.lits _) _ _, .ptr (Rho.add_same _ _ _)⟩⟩
      simp [execOp, hop, Instr.alloc, zeroP_run hz, newVar, newRow, World.alloc_eq]
    · cases he
  case box t x =>
    cases he
    refine ⟨_, _, rfl, rfl, fun ρ w ec hev hb => ⟨.cells (ec x).cells t, (ec x).cells.size, .pointer (some ⟨w.heap.size, 0, none⟩), ?_, OR.fresh hb (hev x).cells _ _, .ptr (Rho.add_same _ _ _)⟩⟩
    simp [execOp, hop, Instr.box, newVar, newRow, World.alloc_eq]
  case makeMap t rsv =>
    cases rsv with
    | some x => cases he
    | none =>
      cases he
      refine ⟨_, _, rfl, rfl, fun ρ w ec hev hb => ⟨.map #[] 0, 0, .map (some w.heap.size), ?_, .map .nil .nil, .map (Rho.add_same _ _ _)⟩⟩
      simp [execOp, hop, Instr.makeMap, World.alloc_eq]
  case buildSlice t len parts =>
    dsimp only at he
    cases hb : buildSliceA P t len (parts.toList.map fun p => (p.1, ea p.2)) h with
    | none => rw [hb] at he; cases he
    | some p =>
      obtain ⟨v, h'⟩ := p
      rw [hb] at he
      cases he
      unfold buildSliceA at hb
      split at hb
      · rename_i elem hu
        split at hb
        · rename_i i hi
          split at hb
          · rename_i z hz
            split at hb
            · rename_i hc
              simp only [Bool.and_eq_true] at hc
              have hzs := Nat.eq_of_beq_eq_true hc.1
              have hls := Nat.le_of_ble_eq_true hc.2
              split at hb
              · rename_i l hl
                cases hb
                refine ⟨_, _, rfl, rfl, fun ρ w ec hev hbn => ?_⟩
                have hzr := zerosA_run (ρ := ρ) len z.cells i.size hzs (if len * i.size = 0 then #[] else z.cells) (by by_cases h0 : len * i.size = 0 <;> simp [h0])
                obtain ⟨arr, h1, h2⟩ := fillA_run (place' := fun k => some (k * i.size, i.size)) (fun k x hx => hx) hev parts.toList _ ((Array.range (len * i.size)).map ((if len * i.size = 0 then #[] else z.cells)[· % (if len * i.size = 0 then #[] else z.cells).size]!)) l hzr hl
                have hal : arr.size = len * i.size := by
                  have h3 := h2.length
                  rw [fillA_length _ _ _ hl, zerosA_length] at h3
                  simp only [List.length_map, Array.length_toList] at h3
                  rw [← h3, hzs]
                refine ⟨.cells arr elem, arr.size, .slice (some ⟨w.heap.size, 0, none⟩) len len, ?_, OR.fresh hbn h2 _ _, .slc (Rho.add_same _ _ _) (fun _ => rfl) (Nat.le_refl _) (fun k hk => by cases hk; rfl) (by omega)⟩
                have hzv : (zeroValue elem).run P w = .ok z w := zeroP_run (by simp [zeroP, hi, hz])
                have hsz : (sizeOf elem).run P w = .ok i.size w := sizeP_run (by simp [sizeP, hi])
                have hbig : ¬ (len * i.size > 2 ^ 24) := by omega
                by_cases h0 : len * i.size = 0
                · simp only [h0, if_true] at h1
                  simp at h1
                  simp [execOp, hop, Instr.buildSlice, run_underlying hu, hsz, h0, h1, newRow, World.alloc_eq]
                · simp only [h0, if_false] at h1
                  simp [execOp, hop, Instr.buildSlice, run_underlying hu, hsz, h0, hbig, hzv, h1, newRow, World.alloc_eq]
              · cases hb
            · cases hb
          · cases hb
        · cases hb
      · cases hb
  case makeSlice t l c =>
    dsimp only at he
    cases hb : makeSliceA P t (ea l) (ea c) h with
    | none => rw [hb] at he; cases he
    | some p =>
      obtain ⟨v, h'⟩ := p
      rw [hb] at he
      cases he
      unfold makeSliceA at hb
      split at hb
      · rename_i elem hu
        split at hb
        · rename_i i k1 ln k2 cp hi hl1 hc1
          split at hb
          · rename_i z cn hz hcn
            split at hb
            · rename_i lnn hln
              split at hb
              · rename_i hc
                simp only [Bool.and_eq_true] at hc
                have hzs := Nat.eq_of_beq_eq_true hc.1
                have hby := Nat.le_of_ble_eq_true hc.2
                cases hb
                obtain ⟨rfl, hcle⟩ := upto_some hcn
                obtain ⟨rfl, hlle⟩ := upto_some hln
                refine ⟨_, _, rfl, rfl, fun ρ w ec hev hbn => ?_⟩
                have hl2 := hev l
                rw [hl1] at hl2
                have hl3 := hl2.lit_eq
                have hc2 := hev c
                rw [hc1] at hc2
                have hc3 := hc2.lit_eq
                have hzr := zerosA_run (ρ := ρ) cn z.cells i.size hzs (if cn * i.size = 0 then #[] else z.cells) (by by_cases h0 : cn * i.size = 0 <;> simp [h0])
                have hwl : IntKind.i64.wrap (lnn : Int) = lnn := wrap_small _ (by omega)
                have hwc : IntKind.i64.wrap (cn : Int) = cn := wrap_small _ (by omega)
                have hal : ((Array.range (cn * i.size)).map ((if cn * i.size = 0 then #[] else z.cells)[· % (if cn * i.size = 0 then #[] else z.cells).size]!)).size = cn * i.size := by simp
                refine ⟨.cells ((Array.range (cn * i.size)).map ((if cn * i.size = 0 then #[] else z.cells)[· % (if cn * i.size = 0 then #[] else z.cells).size]!)) elem, _, .slice (some ⟨w.heap.size, 0, none⟩) lnn cn, ?_, OR.fresh hbn hzr _ _, .slc (Rho.add_same _ _ _) (fun _ => rfl) hlle (fun k hk => by cases hk; rfl) (by rw [hal]; omega)⟩
                have hzv : (zeroValue elem).run P w = .ok z w := zeroP_run (by simp [zeroP, hi, hz])
                have hsz : (sizeOf elem).run P w = .ok i.size w := sizeP_run (by simp [sizeP, hi])
                have hsm : ¬ ((i.bytes : Int) * (cn : Int) > 2 ^ 48) := by
                  have h5 := Int.ofNat_le.2 hby
                  rw [Int.natCast_mul] at h5
                  omega
                have hcond : ((decide ((cn : Int) < 0) || decide ((i.bytes : Int) * (cn : Int) > 2 ^ 48)) || decide ((lnn : Int) < 0) || decide ((lnn : Int) > (cn : Int))) = false := by
                  simp only [Bool.or_eq_false_iff, decide_eq_false_iff_not]
                  exact ⟨⟨⟨by omega, hsm⟩, by omega⟩, by omega⟩
                by_cases h0 : cn * i.size = 0
                · simp only [execOp, hop, Instr.makeSlice, Sem.run_bind, run_underlying hu, Result.andThen_ok, hl3, hc3, asInt, asIntOf, Sem.run_pure, run_typeInfoE hi, hwl, hwc, hcond]
                  simp [hsz, h0, newRow, World.alloc_eq]
                · simp only [execOp, hop, Instr.makeSlice, Sem.run_bind, run_underlying hu, Result.andThen_ok, hl3, hc3, asInt, asIntOf, Sem.run_pure, run_typeInfoE hi, hwl, hwc, hcond]
                  simp [hsz, h0, hzv, newRow, World.alloc_eq]
              · cases hb
            · cases hb
          · cases hb
        · cases hb
      · cases hb
end
end Go.Ev
