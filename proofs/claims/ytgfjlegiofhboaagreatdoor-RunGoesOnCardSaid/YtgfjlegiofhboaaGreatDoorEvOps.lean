/- What single operations of the evaluator come to: memory, parts, equality. No condition. -/
import Derived.Test.YtgfjlegiofhboaaGreatDoorEvRel
import Derived.Laws.StructEq
import Derived.Laws.CopyRow
namespace Go.Ev
open Go.RowKit
set_option linter.unusedVariables false
set_option linter.unusedSimpArgs false
set_option autoImplicit false

section
variable {P : Program} {B : Nat} {w0 : World} {ρ : Rho} {h : Heap} {w : World}

theorem VR.lit_eq {v u : Value} (hv : VR ρ (.lit v) u) : u = v := by cases hv; rfl
theorem VR.agg_inv {l : List AV} {u : Value} (hv : VR ρ (.agg l) u) : ∃ a, u = .agg a ∧ VsR ρ l a.toList := by cases hv with | agg x => exact ⟨_, rfl, x⟩
theorem VR.tup_inv {l : List AV} {u : Value} (hv : VR ρ (.tup l) u) : ∃ a, u = .tuple a ∧ VsR ρ l a.toList := by cases hv with | tup x => exact ⟨_, rfl, x⟩
theorem VR.ptr_inv {b : Key} {off : Nat} {u : Value} (hv : VR ρ (.ptr b off) u) : ∃ c z, ρ b = some (c, z) ∧ u = .pointer (some ⟨c, off, none⟩) := by cases hv with | ptr x => exact ⟨_, _, x, rfl⟩
theorem VR.ifc_inv {t : TypeId} {v : AV} {u : Value} (hv : VR ρ (.ifc t v) u) : ∃ x, u = .iface t x ∧ VR ρ v x := by cases hv with | ifc x => exact ⟨_, rfl, x⟩
theorem VR.map_inv {b : Key} {u : Value} (hv : VR ρ (.map b) u) : ∃ c z, ρ b = some (c, z) ∧ u = .map (some c) := by cases hv with | map x => exact ⟨_, _, x, rfl⟩
theorem VR.yld_inv {b : Key} {u : Value} (hv : VR ρ (.yld b) u) : ∃ c z, ρ b = some (c, z) ∧ u = .func (.yield c) #[] #[] := by cases hv with | yld x => exact ⟨_, _, x, rfl⟩
theorem VR.fn_inv {f : Fn} {a c : List AV} {u : Value} (hv : VR ρ (.fn f a c) u) : ∃ x y : Array Value, u = .func f x y ∧ VsR ρ a x.toList ∧ VsR ρ c y.toList := by cases hv with | fn x y => exact ⟨_, _, rfl, x, y⟩
theorem VR.slc_inv {b : Key} {off len : Nat} {cap : Option Nat} {esz : Nat} {u : Value} (hv : VR ρ (.slc b off len cap esz) u) :
    ∃ c z off' cap', ρ b = some (c, z) ∧ (anch len cap = true → off' = off) ∧ len ≤ cap' ∧ (∀ k, cap = some k → cap' = k) ∧ off' + cap' * esz ≤ z ∧ u = .slice (some ⟨c, off', none⟩) len cap' := by
  cases hv with | slc x a b c d => exact ⟨_, _, _, _, x, a, b, c, d, rfl⟩

theorem VR.undef : VR ρ undefA Go.undef := .lit

theorem VR.cells {v : AV} {u : Value} (hv : VR ρ v u) : VsR ρ v.cells u.cells.toList := by
  cases hv with
  | lit => cases u <;> first | exact VsR.lits _ | exact .cons .lit .nil
  | agg a => exact a
  | ptr a => exact .cons (.ptr a) .nil
  | slc a b c d e => exact .cons (.slc a b c d e) .nil
  | map a => exact .cons (.map a) .nil
  | fn a b => exact .cons (.fn a b) .nil
  | yld a => exact .cons (.yld a) .nil
  | ifc a => exact .cons (.ifc a) .nil
  | tup a => exact .cons (.tup a) .nil

theorem VR.one {v : AV} {u : Value} (hv : VR ρ v u) (h1 : v.one = true) : u.oneCell' = true := by
  cases hv with
  | lit => cases u <;> first | rfl | (simp [AV.one] at h1)
  | agg a => simp [AV.one] at h1
  | tup a => simp [AV.one] at h1
  | ptr a => rfl
  | slc a b c d e => rfl
  | map a => rfl
  | fn a b => rfl
  | yld a => rfl
  | ifc a => rfl

theorem VsR.ones : ∀ {l : List AV} {m : List Value}, VsR ρ l m → allOne l = true → ∀ v ∈ m, v.oneCell' = true
  | _, _, .nil, _, v, hv => by simp at hv
  | _, _, .cons a b, h1, v, hv => by
    simp only [allOne, List.all_cons, Bool.and_eq_true] at h1
    rcases List.mem_cons.1 hv with rfl | hv
    · exact a.one h1.1
    · exact b.ones h1.2 v hv

/-- A value that the model gives. -/
theorem VR.ofVal : ∀ {v : Value}, VR ρ (ofVal v) v
  | .agg cs => .agg (VsR.lits _)
  | .bool _ | .int _ _ | .float _ _ | .complex _ _ _ | .string _ | .pointer _ | .slice _ _ _ | .map _ | .chan _ | .func _ _ _ | .nilFunc | .iface _ _ | .nilIface | .tuple _ => .lit

theorem cell_of {c : Nat} {arr : Array Value} {e : TypeId} {fz : Nat × Nat} {off : Nat} {u : Value} (hw : w.heap[c]? = some (.cells arr e fz)) (hu : arr[off]? = some u) :
    w.cell? ⟨c, off, none⟩ = some u := by simp [World.cell?, hw, hu]

theorem Addr.add_none (c off n : Nat) : (⟨c, off, none⟩ : Addr).add n = ⟨c, off + n, none⟩ := by
  unfold Addr.add; split <;> simp_all

theorem isAggP_run {t : TypeId} {b : Bool} (ht : isAggP P t = some b) : (isAgg t).run P w = .ok b w := by
  unfold isAggP at ht
  unfold isAgg
  split at ht
  · rename_i h1; cases ht; simp [run_underlying h1]
  · rename_i h1; cases ht; simp [run_underlying h1]
  · rename_i d hs ha h1; cases ht; simp only [Sem.run_bind, run_underlying h1, Result.andThen_ok]
    cases d <;> first | rfl | exact absurd h1 (hs _) | exact absurd h1 (ha _ _)
  · cases ht

theorem sizeP_info {t : TypeId} {n : Nat} (hs : sizeP P t = some n) : ∃ i, P.info? t = some i ∧ i.size = n := by
  unfold sizeP at hs
  cases hi : P.info? t with
  | none => rw [hi] at hs; cases hs
  | some i => rw [hi] at hs; exact ⟨i, rfl, by simpa using hs⟩

theorem run_typeInfoE {t : TypeId} {i : TypeInfo} (hi : P.info? t = some i) : (typeInfo t).run P w = .ok i w := by
  simp [typeInfo, hi]

theorem sizeP_run {t : TypeId} {n : Nat} (hs : sizeP P t = some n) : (sizeOf t).run P w = .ok n w := by
  obtain ⟨i, hi, rfl⟩ := sizeP_info hs
  simp [sizeOf, run_typeInfoE hi]

theorem zeroP_run {t : TypeId} {z : Value} (hz : zeroP P t = some z) : (zeroValue t).run P w = .ok z w := by
  unfold zeroP at hz
  cases hi : P.info? t with
  | none => rw [hi] at hz; cases hz
  | some i =>
    rw [hi] at hz
    have hz' : i.zero = some z := by simpa using hz
    simp [zeroValue, run_typeInfoE hi, hz']

/-- A row of cells reads as a list. -/
theorem rows_run {b : Key} {cs l : List AV} {ro : Bool} {off n : Nat} (hr : HR B w0 ρ h w) {c z : Nat} (hρ : ρ b = some (c, z)) (hb : h.get b = some (.cells cs ro))
    (hs : subL off n cs = some l) : ∃ m : List Value, VsR ρ l m ∧ (loadCells ⟨c, off, none⟩ n).run P w = .ok m.toArray w := by
  obtain ⟨oc, hw, ho, _⟩ := hr.obj _ _ _ _ hb hρ
  cases ho with
  | cells h1 h2 h3 h4 =>
    rename_i arr e fz
    obtain ⟨hlen, rfl, hl⟩ := subL_some hs
    refine ⟨(arr.toList.drop off).take n, ?_, ?_⟩
    · refine VsR.of_get ?_ ?_
      · simp at hl ⊢; omega
      · intro i v u hv hu
        obtain ⟨hi, hv'⟩ := subL_get hs i v hv
        rw [List.getElem?_take, if_pos hi, List.getElem?_drop] at hu
        obtain ⟨u', hu', hvu⟩ := h3 _ _ hv'
        have : arr[off + i]? = some u := by simpa using hu
        rw [hu'] at this; cases this; exact hvu
    · have hlen' : ((arr.toList.drop off).take n).length = n := by simp at hl ⊢; omega
      have := run_loadCells_list (P := P) w ⟨c, off, none⟩ ((arr.toList.drop off).take n) (fun j v hj => by
        rw [List.getElem?_take] at hj
        split at hj
        · rw [List.getElem?_drop] at hj
          rw [Addr.add_none]
          exact cell_of hw (by simpa using hj)
        · cases hj)
      rw [hlen'] at this
      exact this

theorem loadA_run {t : TypeId} {b : Key} {off : Nat} {v : AV} (hl : loadA P t b off h = some v) (hr : HR B w0 ρ h w) {c z : Nat} (hρ : ρ b = some (c, z)) :
    ∃ u, (loadVar t ⟨c, off, none⟩).run P w = .ok u w ∧ VR ρ v u := by
  unfold loadA at hl
  split at hl
  · rename_i cs ro hb
    split at hl
    · rename_i ha
      split at hl
      · rename_i n hn
        split at hl
        · rename_i l hs
          cases hl
          obtain ⟨m, hm, hrun⟩ := rows_run (P := P) hr hρ hb hs
          exact ⟨.agg m.toArray, by simp [loadVar, isAggP_run ha, sizeP_run hn, hrun], .agg (by simpa using hm)⟩
        · cases hl
      · cases hl
    · rename_i ha
      rw [nthL_eq] at hl
      obtain ⟨oc, hw, ho, _⟩ := hr.obj _ _ _ _ hb hρ
      cases ho with
      | cells h1 h2 h3 h4 =>
        obtain ⟨u, hu, hvu⟩ := h3 _ _ hl
        exact ⟨u, by simp [loadVar, isAggP_run ha, cell_of hw hu], hvu⟩
    · cases hl
  · cases hl

/-- A row of cells is written. -/
theorem writeA_run {b : Key} {off : Nat} {l : List AV} {h' : Heap} (hwr : writeA b off l h = some h') (hr : HR B w0 ρ h w) {c z : Nat} (hρ : ρ b = some (c, z))
    {m : List Value} (hm : VsR ρ l m) (h1 : allOne l = true) : ∃ w', (storeCells ⟨c, off, none⟩ m).run P w = .ok () w' ∧ HR B w0 ρ h' w' ∧ Ext ρ h ρ h' := by
  unfold writeA at hwr
  split at hwr
  · rename_i cs hb
    split at hwr
    · rename_i cs' hp
      cases hwr
      obtain ⟨oc, hw, ho, hB⟩ := hr.obj _ _ _ _ hb hρ
      cases ho with
      | cells a1 a2 a3 a4 =>
        rename_i arr e fz
        obtain rfl := a4 rfl
        have hBc : B ≤ c := hB rfl
        obtain ⟨hle, _⟩ := putAt_some _ _ _ _ hp
        have hlm := hm.length
        have hst := run_storeCells_at (P := P) c off e m 0 arr w hw (by omega) (hm.ones h1)
        refine ⟨_, hst, ?_⟩
        have hc := hr.bnd _ _ _ hρ
        simp only [Nat.add_zero] at hst ⊢
        refine hr.update (c := c) (z := z) hb hρ rfl (.cells (arr.toList.take off ++ m ++ arr.toList.drop (off + m.length)).toArray e (0, 0)) ?_ rfl ?_ ?_
        · refine .cells ?_ ?_ ?_ (fun _ => rfl)
          · simp; omega
          · rw [putAt_length hp]; exact a2
          · intro i v hv
            rw [putAt_get hp] at hv
            by_cases hi : off ≤ i ∧ i < off + l.length
            · rw [if_pos hi] at hv
              obtain ⟨u, hu, hvu⟩ := hm.get _ _ hv
              refine ⟨u, ?_, hvu⟩
              simp only [List.getElem?_toArray, List.append_assoc]
              rw [List.getElem?_append_right (by simp; omega)]
              have : (arr.toList.take off).length = off := by simp; omega
              rw [this, List.getElem?_append_left (by omega)]
              exact hu
            · rw [if_neg hi] at hv
              obtain ⟨u, hu, hvu⟩ := a3 _ _ hv
              refine ⟨u, ?_, hvu⟩
              simp only [List.getElem?_toArray, List.append_assoc]
              have hl0 : (arr.toList.take off).length = off := by simp; omega
              by_cases h2 : i < off
              · rw [List.getElem?_append_left (by omega), List.getElem?_take, if_pos h2]; simpa using hu
              · rw [List.getElem?_append_right (by omega), hl0, List.getElem?_append_right (by omega), List.getElem?_drop]
                rw [show off + m.length + (i - off - m.length) = i by omega]; simpa using hu
        · show (w.setRow c _).heap = _
          apply Array.ext_getElem?
          intro k
          simp only [World.setRow, Array.getElem?_modify, Array.getElem?_setIfInBounds]
          by_cases hk : c = k
          · subst hk
            rw [if_pos rfl, hw, if_pos rfl, if_pos hc]; rfl
          · rw [if_neg hk, if_neg hk]
        · refine ⟨rfl, rfl, rfl, by simp [World.setRow], fun k hk => ?_⟩
          simp only [World.setRow, Array.getElem?_modify]
          rw [if_neg (by omega)]
    · cases hwr
  · cases hwr

theorem storeA_run {t : TypeId} {b : Key} {off : Nat} {v : AV} {h' : Heap} (hs : storeA P t b off v h = some h') (hr : HR B w0 ρ h w) {c z : Nat} (hρ : ρ b = some (c, z))
    {u : Value} (hv : VR ρ v u) : ∃ w', (storeVar t ⟨c, off, none⟩ u).run P w = .ok () w' ∧ HR B w0 ρ h' w' ∧ Ext ρ h ρ h' := by
  unfold storeA at hs
  dsimp only at hs
  split at hs
  · rename_i n hn
    split at hs
    · rename_i hc
      simp only [Bool.and_eq_true] at hc
      have hcells := hv.cells
      have hlen : u.cells.size = n := by
        have h5 := hcells.length
        have h6 := Nat.eq_of_beq_eq_true hc.1
        simp only [Array.length_toList] at h5
        omega
      obtain ⟨w', hrun, hr', he⟩ := writeA_run (P := P) hs hr hρ hcells hc.2
      exact ⟨w', by simp [storeVar, sizeP_run hn, hlen, hrun], hr', he⟩
    · cases hs
  · cases hs

/-- A part of an aggregate. -/
theorem partA_run {t : TypeId} {l : List AV} {off : Nat} {v : AV} (hp : partA P t l off = some v) {a : Array Value} (ha : VsR ρ l a.toList) :
    ∃ u, (part t a off).run P w = .ok u w ∧ VR ρ v u := by
  unfold partA at hp
  split at hp
  · rename_i hg
    split at hp
    · rename_i n hn
      split at hp
      · rename_i r hs
        cases hp
        obtain ⟨hl, rfl, _⟩ := subL_some hs
        refine ⟨.agg (a.extract off (off + n)), by simp [part, isAggP_run hg, sizeP_run hn], .agg ?_⟩
        rw [Array.toList_extract]
        simp only [List.extract_eq_take_drop]
        rw [show off + n - off = n by omega]
        exact (ha.drop off).take n
      · cases hp
    · cases hp
  · rename_i hg
    rw [nthL_eq] at hp
    obtain ⟨u, hu, hvu⟩ := ha.get _ _ hp
    have hu' : a[off]? = some u := by simpa using hu
    exact ⟨u, by simp [part, isAggP_run hg, hu'], hvu⟩
  · cases hp

theorem eqFields_run {d : Nat} (ih : ∀ {t : TypeId} {x y : AV} {r : Bool}, eqA P d t x y = some r → ∀ {x' y' : Value}, VR ρ x x' → VR ρ y y' → (Op.equalIn d t x' y').run P w = .ok r w)
    {xs ys : List AV} {xs' ys' : Array Value} (hx : VsR ρ xs xs'.toList) (hy : VsR ρ ys ys'.toList) : ∀ (fs : List Field) (r : Bool),
    eqFields P (eqA P d) xs ys fs = some r → (Op.eqFields d xs' ys' fs).run P w = .ok r w
  | [], r, he => by cases he; rfl
  | f :: fs, r, he => by
    unfold eqFields at he
    unfold Op.eqFields
    by_cases hn : f.name = "_"
    · rw [if_pos hn] at he
      rw [if_neg (by simpa using hn)]
      exact eqFields_run ih hx hy fs r he
    · rw [if_neg hn] at he
      rw [if_pos (by simpa using hn)]
      split at he
      · rename_i a b ha hb
        obtain ⟨a', ra, va⟩ := partA_run (P := P) (w := w) ha hx
        obtain ⟨b', rb, vb⟩ := partA_run (P := P) (w := w) hb hy
        split at he
        · rename_i hq
          have := ih hq va vb
          simp [ra, rb, this, eqFields_run ih hx hy fs r he]
        · rename_i hnt
          have := ih he va vb
          cases r
          · simp [ra, rb, this]
          · exact absurd he hnt
      · cases he

theorem run_equalIn_array' (w : World) (d : Nat) (t : TypeId) (xs ys : Array Value) (len : Nat) (elem n : Nat) (ht : P.underlying t = some (.array len elem)) (hn : sizeP P elem = some n)
    (r : Bool) {xl yl : List AV} (hx : VsR ρ xl xs.toList) (hy : VsR ρ yl ys.toList)
    (ih : ∀ {t : TypeId} {x y : AV} {r : Bool}, eqA P d t x y = some r → ∀ {x' y' : Value}, VR ρ x x' → VR ρ y y' → (Op.equalIn d t x' y').run P w = .ok r w)
    (he : eqElems P (eqA P d) xl yl elem n len 0 = some r) : (Op.equalIn (d + 1) t (.agg xs) (.agg ys)).run P w = .ok r w := by
  simp only [Op.equalIn, Sem.run_bind, run_underlying ht, Result.andThen_ok, sizeP_run hn]
  simp only [Std.Legacy.Range.forIn_eq_forIn_range', Std.Legacy.Range.size, Nat.sub_zero, Nat.add_sub_cancel, Nat.div_one]
  clear ht
  generalize (0 : Nat) = i at he ⊢
  induction len generalizing i with
  | zero => cases he; simp
  | succ k ihk =>
    unfold eqElems at he
    split at he
    · rename_i a b ha hb
      obtain ⟨a', ra, va⟩ := partA_run (P := P) (w := w) ha hx
      obtain ⟨b', rb, vb⟩ := partA_run (P := P) (w := w) hb hy
      rw [List.range'_succ, List.forIn_cons]
      split at he
      · rename_i hq
        have hq' := ih hq va vb
        simpa [ra, rb, hq'] using ihk (i + 1) he
      · rename_i hnt
        have hq' := ih he va vb
        cases r
        · simp [ra, rb, hq']
        · exact absurd he hnt
    · cases he

theorem eqA_run : ∀ (d : Nat) {t : TypeId} {x y : AV} {r : Bool}, eqA P d t x y = some r → ∀ {x' y' : Value}, VR ρ x x' → VR ρ y y' → (Op.equalIn d t x' y').run P w = .ok r w
  | 0, _, _, _, _, he, _, _, _, _ => by cases he
  | d + 1, t, x, y, r, he, x', y', hx, hy => by
    unfold eqA at he
    split at he
    · rename_i hu
      split at he
      · cases he; obtain rfl := hx.lit_eq; obtain rfl := hy.lit_eq
        simp [Op.equalIn, run_underlying hu]
      · cases he
    · rename_i hu
      split at he
      · obtain rfl := hx.lit_eq; obtain rfl := hy.lit_eq
        split at he
        · rename_i hk; cases he; subst hk; simp [Op.equalIn, run_underlying hu]
        · cases he
      · cases he
    · rename_i hu
      split at he
      · cases he; obtain rfl := hx.lit_eq; obtain rfl := hy.lit_eq
        simp [Op.equalIn, run_underlying hu]
      · cases he
    · rename_i hu
      split at he
      · cases he; obtain rfl := hx.lit_eq; obtain rfl := hy.lit_eq
        simp [Op.equalIn, run_underlying hu]
      · cases he; obtain rfl := hx.lit_eq; obtain ⟨c, z, _, rfl⟩ := hy.ptr_inv
        simp [Op.equalIn, run_underlying hu]
      · cases he; obtain rfl := hy.lit_eq; obtain ⟨c, z, _, rfl⟩ := hx.ptr_inv
        simp [Op.equalIn, run_underlying hu]
      · cases he
    · rename_i hu
      split at he
      · cases he; obtain rfl := hx.lit_eq; obtain rfl := hy.lit_eq
        simp [Op.equalIn, run_underlying hu]
      · cases he; obtain rfl := hx.lit_eq; obtain ⟨u, rfl, _⟩ := hy.ifc_inv
        simp [Op.equalIn, run_underlying hu]
      · cases he; obtain rfl := hy.lit_eq; obtain ⟨u, rfl, _⟩ := hx.ifc_inv
        simp [Op.equalIn, run_underlying hu]
      · obtain ⟨u, rfl, hxu⟩ := hx.ifc_inv
        obtain ⟨u', rfl, hyu⟩ := hy.ifc_inv
        split at he
        · rename_i hne; cases he; simp [Op.equalIn, run_underlying hu, hne]
        · rename_i hne
          split at he
          · rename_i i hi
            split at he
            · rename_i hc
              have := eqA_run d he hxu hyu
              simp at hne
              subst hne
              simp [Op.equalIn, run_underlying hu, run_typeInfoE hi, hc, this]
            · cases he
          · cases he
      · cases he
    · rename_i fields hu
      split at he
      · obtain ⟨a, rfl, ha⟩ := hx.agg_inv
        obtain ⟨b, rfl, hb⟩ := hy.agg_inv
        split at he
        · cases he
        · rename_i hp
          have hf : P.fieldsOf t = fields := by simp [Program.fieldsOf, hu]
          rw [run_equalIn_struct w d t a b (by rw [hf]; exact hu) (by simpa using hp), hf]
          exact eqFields_run (fun h => eqA_run d h) ha hb _ _ he
      · cases he
    · rename_i len elem hu
      split at he
      · obtain ⟨a, rfl, ha⟩ := hx.agg_inv
        obtain ⟨b, rfl, hb⟩ := hy.agg_inv
        split at he
        · rename_i n hn
          exact run_equalIn_array' w d t a b len elem n hu hn r ha hb (fun h => eqA_run d h) he
        · cases he
      · cases he
    · rename_i hu
      split at he
      · cases he; obtain rfl := hx.lit_eq; obtain rfl := hy.lit_eq
        simp [Op.equalIn, run_underlying hu]
      · cases he; obtain rfl := hx.lit_eq; obtain ⟨_, _, _, _, _, _, _, _, _, rfl⟩ := hy.slc_inv
        simp [Op.equalIn, run_underlying hu]
      · cases he; obtain rfl := hy.lit_eq; obtain ⟨_, _, _, _, _, _, _, _, _, rfl⟩ := hx.slc_inv
        simp [Op.equalIn, run_underlying hu]
      · cases he
    · rename_i hu
      split at he
      · cases he; obtain rfl := hx.lit_eq; obtain rfl := hy.lit_eq
        simp [Op.equalIn, run_underlying hu]
      · cases he; obtain rfl := hx.lit_eq; obtain ⟨_, _, rfl, _⟩ := hy.fn_inv
        simp [Op.equalIn, run_underlying hu]
      · cases he; obtain rfl := hy.lit_eq; obtain ⟨_, _, rfl, _⟩ := hx.fn_inv
        simp [Op.equalIn, run_underlying hu]
      · cases he
    · rename_i hu
      split at he
      · cases he; obtain rfl := hx.lit_eq; obtain rfl := hy.lit_eq
        simp [Op.equalIn, run_underlying hu]
      · cases he; obtain rfl := hx.lit_eq; obtain ⟨_, _, _, rfl⟩ := hy.map_inv
        simp [Op.equalIn, run_underlying hu]
      · cases he; obtain rfl := hy.lit_eq; obtain ⟨_, _, _, rfl⟩ := hx.map_inv
        simp [Op.equalIn, run_underlying hu]
      · cases he
    · cases he
end
end Go.Ev
