/- What operations of the evaluator come to: literals, maps, interfaces. No condition. -/
import Derived.Test.YtgfjlegiofhboaaGreatDoorEvOps2
import Derived.Laws.Tables
import Derived.MapKept
namespace Go.Ev
open Go.RowKit
set_option linter.unusedVariables false
set_option linter.unusedSimpArgs false
set_option autoImplicit false

section
variable {P : Program} {B : Nat} {w0 : World} {ρ : Rho} {h : Heap} {w : World}

theorem laid_get (off : Nat) : ∀ (xs : List Value) (k : Nat) (a : Array Value) (i : Nat),
    ((xs.zipIdx k).foldl (fun cs (x : Value × Nat) => cs.setIfInBounds (off + x.2) x.1) a)[i]? = if off + k ≤ i ∧ i < off + k + xs.length ∧ i < a.size then xs[i - (off + k)]? else a[i]?
  | [], k, a, i => by simp; omega
  | x :: xs, k, a, i => by
    rw [List.zipIdx_cons, List.foldl_cons, laid_get off xs (k + 1)]
    simp only [Array.size_setIfInBounds, List.length_cons]
    by_cases h1 : off + (k + 1) ≤ i ∧ i < off + (k + 1) + xs.length ∧ i < a.size
    · rw [if_pos h1, if_pos (by omega), show i - (off + k) = (i - (off + (k + 1))) + 1 by omega]; rfl
    · rw [if_neg h1]
      by_cases h2 : i = off + k
      · subst h2
        by_cases h3 : off + k < a.size
        · rw [if_pos (by omega)]; simp [h3]
        · rw [if_neg (by omega)]; simp [Nat.not_lt.1 h3]
      · rw [if_neg (by omega), Array.getElem?_setIfInBounds_ne (by omega)]

theorem laid_size (off : Nat) : ∀ (xs : List Value) (k : Nat) (a : Array Value),
    ((xs.zipIdx k).foldl (fun cs (x : Value × Nat) => cs.setIfInBounds (off + x.2) x.1) a).size = a.size
  | [], k, a => rfl
  | x :: xs, k, a => by rw [List.zipIdx_cons, List.foldl_cons, laid_size off xs (k + 1)]; simp

theorem fillA_run {place place' : Nat → Option (Nat × Nat)} (hp : ∀ i x, place i = some x → place' i = some x) {ea : Operand → AV} {ec : Operand → Value} (hev : ∀ x, VR ρ (ea x) (ec x)) :
    ∀ (ps : List (Nat × Operand)) (cells : List AV) (arr : Array Value) (l : List AV), VsR ρ cells arr.toList → fillA place (ps.map fun p => (p.1, ea p.2)) cells = some l →
      ∃ arr', Instr.fill place' arr (ps.map fun p => (p.1, ec p.2)) = some arr' ∧ VsR ρ l arr'.toList
  | [], cells, arr, l, hc, he => by cases he; exact ⟨arr, rfl, hc⟩
  | p :: ps, cells, arr, l, hc, he => by
    simp only [List.map_cons] at he ⊢
    unfold fillA at he
    split at he
    · rename_i off size hpl
      split at he
      · rename_i hsz
        split at he
        · rename_i cells' hpa
          have hv := (hev p.2).cells
          have hsz' := Nat.eq_of_beq_eq_true hsz
          have hlen := hv.length
          simp only [Array.length_toList] at hlen
          obtain ⟨hle, _⟩ := putAt_some _ _ _ _ hpa
          have hcl := hc.length
          simp only [Array.length_toList] at hcl
          unfold Instr.fill
          rw [hp _ _ hpl]
          dsimp only
          rw [if_neg (by simp; omega)]
          refine fillA_run hp hev ps cells' _ l ?_ he
          have hfold : ((ec p.2).cells.zipIdx.foldl (fun cs (x : Value × Nat) => cs.setIfInBounds (off + x.2) x.1) arr) = (((ec p.2).cells.toList.zipIdx 0).foldl (fun cs (x : Value × Nat) => cs.setIfInBounds (off + x.2) x.1) arr) := by
            rw [← Array.foldl_toList]; simp
          refine VsR.of_get ?_ ?_
          · rw [putAt_length hpa]
            simp only [Array.length_toList]
            have := laid_size off (ec p.2).cells.toList 0 arr
            rw [hcl, ← this, ← hfold]
          · intro i v u hv1 hu1
            have hu2 : ((ec p.2).cells.zipIdx.foldl (fun cs (x : Value × Nat) => cs.setIfInBounds (off + x.2) x.1) arr)[i]? = some u := by
              rw [← hu1]; simp
            rw [hfold, laid_get] at hu2
            rw [putAt_get hpa] at hv1
            simp only [Nat.add_zero, Array.length_toList] at hu2
            by_cases hi : off ≤ i ∧ i < off + (ea p.2).cells.length
            · rw [if_pos hi] at hv1
              rw [if_pos (by omega)] at hu2
              obtain ⟨u', h1, h2⟩ := hv.get _ _ hv1
              rw [h1] at hu2; cases hu2; exact h2
            · rw [if_neg hi] at hv1
              rw [if_neg (by omega)] at hu2
              obtain ⟨u', h1, h2⟩ := hc.get _ _ hv1
              have : arr[i]? = some u' := by simpa using h1
              rw [this] at hu2; cases hu2; exact h2
        · cases he
      · cases he
    · cases he

theorem zeroP_info {t : TypeId} {z : Value} (hz : zeroP P t = some z) : ∃ i, P.info? t = some i ∧ i.zero = some z := by
  unfold zeroP at hz
  cases hi : P.info? t with
  | none => rw [hi] at hz; cases hz
  | some i => rw [hi] at hz; exact ⟨i, rfl, by simpa using hz⟩

theorem map_parts (ec : Operand → Value) (parts : Array (Nat × Operand)) : (parts.map fun (i, x) => (i, ec x)).toList = parts.toList.map fun p => (p.1, ec p.2) := by simp

theorem buildA_run {t : TypeId} {parts : Array (Nat × Operand)} {ea : Operand → AV} {ec : Operand → Value} (hev : ∀ x, VR ρ (ea x) (ec x)) {v : AV}
    (he : buildA P t (parts.toList.map fun p => (p.1, ea p.2)) = some v) : Gives P ρ w (Instr.build t (parts.map fun (i, x) => (i, ec x))) v := by
  unfold buildA at he
  split at he
  · rename_i z hz
    obtain ⟨it, hit, hzz⟩ := zeroP_info hz
    split at he
    · rename_i fields hu
      split at he
      · rename_i pl hpl
        split at he
        · rename_i l hl
          cases he
          obtain ⟨arr', h1, h2⟩ := fillA_run (place' := (pl.toArray[·]?)) (fun i x hx => by rw [nthL_eq] at hx; simpa using hx) hev parts.toList _ z.cells l (VsR.lits _) hl
          refine ⟨.agg arr', run_build w t _ arr' ?_, .agg h2⟩
          unfold placesP at hpl
          rw [hu] at hpl
          unfold Program.built
          rw [map_parts]
          simp only [hit, hu, hzz, hpl]
          exact h1
        · cases he
      · cases he
    · rename_i n elem hu
      split at he
      · rename_i s hs
        obtain ⟨ie, hie, rfl⟩ := sizeP_info hs
        split at he
        · rename_i l hl
          cases he
          obtain ⟨arr', h1, h2⟩ := fillA_run (place' := fun i => some (i * ie.size, ie.size)) (fun i x hx => hx) hev parts.toList _ z.cells l (VsR.lits _) hl
          refine ⟨.agg arr', run_build w t _ arr' ?_, .agg h2⟩
          unfold Program.built
          rw [map_parts]
          simp only [hit, hu, hzz, hie]
          exact h1
        · cases he
      · cases he
    · cases he
  · cases he

theorem extract_run {l : List AV} {i : Nat} {v : AV} (he : nthL l i = some v) {x' : Value} (hx : VR ρ (.tup l) x') : Gives P ρ w (Instr.extract x' i) v := by
  rw [nthL_eq] at he
  obtain ⟨a, rfl, ha⟩ := hx.tup_inv
  obtain ⟨u, hu, hv⟩ := ha.get _ _ he
  have hu' : a[i]? = some u := by simpa using hu
  exact ⟨u, by simp [Instr.extract, hu'], hv⟩

theorem typeAssertA_run {x : AV} {xt t : TypeId} {ok : Bool} {v : AV} (he : typeAssertA P x t ok = some v) {x' : Value} (hx : VR ρ x x') : Gives P ρ w (Instr.typeAssert x' xt t ok) v := by
  have okv : ∀ {v : AV} {u : Value} {b : Bool}, VR ρ v u → VR ρ (.tup [v, .lit (.bool b)]) (.tuple #[u, .bool b]) := fun hv => .tup (.cons hv (.cons .lit .nil))
  unfold typeAssertA at he
  split at he
  · rename_i want hu
    split at he
    · rename_i d u
      obtain ⟨y, rfl, hy⟩ := hx.ifc_inv
      split at he
      · rename_i i hi
        split at he
        · rename_i hm
          cases he
          cases ok
          · exact ⟨.iface d y, by simp [Instr.typeAssert, run_underlying hu, run_typeInfoE hi, hm], .ifc hy⟩
          · exact ⟨_, by simp [Instr.typeAssert, run_underlying hu, run_typeInfoE hi, hm], okv (.ifc hy)⟩
        · rename_i m hm
          cases ok with
          | false => cases he
          | true =>
            cases hz : zeroP P t with
            | none => rw [hz] at he; cases he
            | some z =>
              rw [hz] at he; cases he
              exact ⟨_, by simp [Instr.typeAssert, run_underlying hu, run_typeInfoE hi, hm, zeroP_run hz], okv .ofVal⟩
      · cases he
    · obtain rfl := hx.lit_eq
      cases ok with
      | false => cases he
      | true =>
        cases hz : zeroP P t with
        | none => rw [hz] at he; cases he
        | some z =>
          rw [hz] at he; cases he
          exact ⟨_, by simp [Instr.typeAssert, run_underlying hu, zeroP_run hz], okv .ofVal⟩
    · cases he
  · rename_i d hd hu
    split at he
    · rename_i d' u
      obtain ⟨y, rfl, hy⟩ := hx.ifc_inv
      split at he
      · rename_i hdt
        subst hdt
        cases he
        cases ok
        · refine ⟨y, ?_, hy⟩
          simp only [Instr.typeAssert, Sem.run_bind, run_underlying hu, Result.andThen_ok]
          cases d <;> first | exact absurd hu (hd _) | simp
        · refine ⟨_, ?_, okv hy⟩
          simp only [Instr.typeAssert, Sem.run_bind, run_underlying hu, Result.andThen_ok]
          cases d <;> first | exact absurd hu (hd _) | (simp)
      · rename_i hdt
        cases ok with
        | false => cases he
        | true =>
          cases hz : zeroP P t with
          | none => rw [hz] at he; cases he
          | some z =>
            rw [hz] at he; cases he
            refine ⟨_, ?_, okv .ofVal⟩
            simp only [Instr.typeAssert, Sem.run_bind, run_underlying hu, Result.andThen_ok]
            cases d <;> first | exact absurd hu (hd _) | (simp [hdt, zeroP_run hz])
    · obtain rfl := hx.lit_eq
      cases ok with
      | false => cases he
      | true =>
        cases hz : zeroP P t with
        | none => rw [hz] at he; cases he
        | some z =>
          rw [hz] at he; cases he
          refine ⟨_, ?_, okv .ofVal⟩
          simp only [Instr.typeAssert, Sem.run_bind, run_underlying hu, Result.andThen_ok]
          cases d <;> first | exact absurd hu (hd _) | (simp [zeroP_run hz])
    · cases he
  · cases he

theorem run_getObj_map {c : Nat} {es : Array MapEntry} {k : Nat} (hw : w.heap[c]? = some (.map es k)) : (getObj c).run P w = .ok (.map es k) w := by
  simp [getObj, Sem.run, hw]

theorem lenOpA_run {ts : Array TypeId} {ty : TypeId} {args : List AV} {v : AV} (he : lenOpA P ts args h = some v) (hr : HR B w0 ρ h w) {as : Array Value} (ha : VsR ρ args as.toList) :
    Gives P ρ w (Builtin.len_ ts ty as) v := by
  unfold lenOpA at he
  split at he
  · rename_i x
    obtain ⟨x', m, hm, hx, hn⟩ := ha.cons_left
    have hn' := hn.nil_left
    subst hn'
    have has : as[0]? = some x' := by
      have : as.toList[0]? = some x' := by rw [hm]; rfl
      simpa using this
    split at he
    · rename_i t ht
      split at he
      · rename_i hu; cases he; obtain rfl := hx.lit_eq; exact ⟨_, by simp [Builtin.len_, ht, has, run_underlying hu], .lit⟩
      · rename_i hu; cases he; obtain ⟨_, _, _, _, _, _, _, _, _, rfl⟩ := hx.slc_inv; exact ⟨_, by simp [Builtin.len_, ht, has, run_underlying hu], .lit⟩
      · rename_i hu; cases he; obtain rfl := hx.lit_eq; exact ⟨_, by simp [Builtin.len_, ht, has, run_underlying hu], .lit⟩
      · rename_i hu; cases he; exact ⟨_, by simp [Builtin.len_, ht, has, run_underlying hu], .lit⟩
      · rename_i arr hu
        split at he
        · rename_i hua; cases he; exact ⟨_, by simp [Builtin.len_, ht, has, run_underlying hu, run_underlying hua], .lit⟩
        · cases he
      · rename_i hu; cases he; obtain rfl := hx.lit_eq; exact ⟨_, by simp [Builtin.len_, ht, has, run_underlying hu], .lit⟩
      · rename_i hu
        obtain ⟨c, z, hρ, rfl⟩ := hx.map_inv
        split at he
        · rename_i es hb
          cases he
          obtain ⟨oc, hw, ho, _⟩ := hr.obj _ _ _ _ hb hρ
          cases ho with
          | map h1 h2 =>
            have h3 := h1.length
            simp at h3
            exact ⟨_, by simp [Builtin.len_, ht, has, run_underlying hu, run_getObj_map hw]; rfl, by rw [← h3]; exact .lit⟩
        · cases he
      · cases he
    · cases he
  · cases he

theorem minMaxA_run {mx : Bool} {ts : Array TypeId} {ty : TypeId} {args : List AV} {v : AV} (he : minMaxA mx args = some v) {as : Array Value} (ha : VsR ρ args as.toList) :
    Gives P ρ w (if mx then Builtin.max_ ts ty as else Builtin.min_ ts ty as) v := by
  unfold minMaxA at he
  split at he
  · rename_i k x k' y
    cases he
    obtain ⟨x', m, hm, hx, hn⟩ := ha.cons_left
    obtain ⟨y', m', rfl, hy, hn2⟩ := hn.cons_left
    have := hn2.nil_left
    subst this
    obtain rfl := hx.lit_eq
    obtain rfl := hy.lit_eq
    cases mx
    · exact ⟨_, by simp [Builtin.min_, hm, Builtin.min2], .lit⟩
    · exact ⟨_, by simp [Builtin.max_, hm, Builtin.max2], .lit⟩
  · cases he

/-! maps -/
theorem plainKey_run {t : TypeId} {k : AV} (hk : plainKey P t k = true) (e : Bool) {k' : Value} (hv : VR ρ k k') :
    (Instr.checkKey e 10000 t k').run P w = .ok () w ∧ ∃ d, P.underlying t = some d ∧ ((∃ q, d = .int q) ∧ (∃ q n, k = .lit (.int q n)) ∨ d = .string ∧ ∃ s, k = .lit (.string s)) := by
  unfold plainKey at hk
  split at hk
  · rename_i hu
    obtain rfl := hv.lit_eq
    have hn : ∀ n q m, (Instr.checkKey e (n + 1) t (.int q m)).run P w = .ok () w := fun n q m => by simp [Instr.checkKey, run_underlying hu]
    exact ⟨hn 9999 _ _, _, hu, .inl ⟨⟨_, rfl⟩, _, _, rfl⟩⟩
  · rename_i hu
    obtain rfl := hv.lit_eq
    have hn : ∀ n s, (Instr.checkKey e (n + 1) t (.string s)).run P w = .ok () w := fun n s => by simp [Instr.checkKey, run_underlying hu]
    exact ⟨hn 9999 _, _, hu, .inr ⟨rfl, _, rfl⟩⟩
  · cases hk

/-- The entries of a map answer to each other. -/
def EsR (ρ : Rho) (es : List (AV × AV)) (ents : List MapEntry) : Prop := VsR ρ (es.map (·.1)) (ents.map (·.key)) ∧ VsR ρ (es.map (·.2)) (ents.map (·.val))

theorem keyEq_now {d : TypeDesc} {k k1 : AV} {r : Bool} (he : keyEq k k1 = some r) (hd : (∃ q, d = .int q) ∧ (∃ q n, k = .lit (.int q n)) ∨ d = .string ∧ ∃ s, k = .lit (.string s))
    {k' k1' : Value} (hk : VR ρ k k') (hk1 : VR ρ k1 k1') : Instr.sameNow d k' k1' = some r := by
  unfold keyEq at he
  split at he
  · obtain rfl := hk.lit_eq
    obtain rfl := hk1.lit_eq
    rcases hd with ⟨⟨q, rfl⟩, _⟩ | ⟨rfl, s, hs⟩
    · exact he
    · cases hs
  · obtain rfl := hk.lit_eq
    obtain rfl := hk1.lit_eq
    rcases hd with ⟨⟨q, rfl⟩, q', n, hs⟩ | ⟨rfl, s, hs⟩
    · cases hs
    · exact he
  · cases he

theorem findA_run {d : TypeDesc} {k : AV} (hd : (∃ q, d = .int q) ∧ (∃ q n, k = .lit (.int q n)) ∨ d = .string ∧ ∃ s, k = .lit (.string s)) {k' : Value} (hk : VR ρ k k') :
    ∀ (es : List (AV × AV)) (ents : List MapEntry) (i : Nat) (r : Option AV), EsR ρ es ents → findA k es = some r →
      match r with
      | none => Instr.findNow d k' ents i = some none
      | some v => ∃ j u, Instr.findNow d k' ents i = some (some (j, u)) ∧ VR ρ v u
  | [], [], i, r, _, he => by cases he; rfl
  | [], _ :: _, _, _, hE, _ => by cases hE.1
  | _ :: _, [], _, _, hE, _ => by cases hE.1
  | (k1, v1) :: es, e :: ents, i, r, hE, he => by
    obtain ⟨h1, h2⟩ := hE
    cases h1 with
    | cons a1 b1 =>
      cases h2 with
      | cons a2 b2 =>
        unfold findA at he
        split at he
        · rename_i hq
          cases he
          have := keyEq_now hq hd hk a1
          exact ⟨i, e.val, by simp [Instr.findNow, this], a2⟩
        · rename_i hq
          have h3 := keyEq_now hq hd hk a1
          have := findA_run hd hk es ents (i + 1) r ⟨b1, b2⟩ he
          cases r with
          | none => simpa [Instr.findNow, h3] using this
          | some v => simpa [Instr.findNow, h3] using this
        · cases he

theorem lookupA_run {t : TypeId} {m k : AV} {ok : Bool} {v : AV} (he : lookupA P t m k ok h = some v) (hr : HR B w0 ρ h w) {m' k' : Value} (hm : VR ρ m m') (hk : VR ρ k k') :
    Gives P ρ w (Instr.lookup t m' k' ok) v := by
  have okv : ∀ {v : AV} {u : Value} {b : Bool}, VR ρ v u → VR ρ (.tup [v, .lit (.bool b)]) (.tuple #[u, .bool b]) := fun hv => .tup (.cons hv (.cons .lit .nil))
  unfold lookupA at he
  split at he
  · rename_i key elem hu
    split at he
    · cases he
    · rename_i hpk
      simp only [Bool.not_eq_true', Bool.not_eq_false] at hpk
      split at he
      · rename_i es hes
        have hsrc : ∃ ents : Array MapEntry, EsR ρ es ents.toList ∧ (m' = .map none ∧ ents = #[] ∨ ∃ c q, m' = .map (some c) ∧ w.heap[c]? = some (.map ents q)) := by
          split at hes
          · cases hes; obtain rfl := hm.lit_eq; exact ⟨#[], ⟨.nil, .nil⟩, .inl ⟨rfl, rfl⟩⟩
          · obtain ⟨c, z, hρ, rfl⟩ := hm.map_inv
            split at hes
            · rename_i es' hb
              cases hes
              obtain ⟨oc, hw, ho, _⟩ := hr.obj _ _ _ _ hb hρ
              cases ho with
              | map h1 h2 => exact ⟨_, ⟨h1, h2⟩, .inr ⟨c, _, rfl, hw⟩⟩
            · cases hes
          · cases hes
        obtain ⟨ents, hE, hsrc⟩ := hsrc
        obtain ⟨hck, d, hd, hkind⟩ := plainKey_run (P := P) (w := w) hpk ents.isEmpty hk
        split at he
        · rename_i v1 hf
          cases he
          obtain ⟨j, u, hnow, hvu⟩ := findA_run hkind hk es ents.toList 0 _ hE hf
          have hlk : (Instr.lookup t m' k' ok).run P w = .ok (if ok then .tuple #[u, .bool true] else u) w := by
            rcases hsrc with ⟨rfl, rfl⟩ | ⟨c, q, rfl, hw⟩
            · simp [Instr.findNow] at hnow
            · cases ok <;> simp [Instr.lookup, run_underlying hu, run_getObj_map hw, hck, Instr.findKey, run_underlying hd, hnow]
          cases ok
          · exact ⟨u, hlk, hvu⟩
          · exact ⟨_, hlk, okv hvu⟩
        · rename_i hf
          have hnow : Instr.findNow d k' ents.toList 0 = some none := findA_run hkind hk es ents.toList 0 _ hE hf
          split at he
          · rename_i z hz
            cases he
            have hlk : (Instr.lookup t m' k' ok).run P w = .ok (if ok then .tuple #[z, .bool false] else z) w := by
              rcases hsrc with ⟨rfl, rfl⟩ | ⟨c, q, rfl, hw⟩
              · simp at hck
                cases ok <;> simp [Instr.lookup, run_underlying hu, hck, Instr.findKey, run_underlying hd, Instr.findNow, zeroP_run hz]
              · cases ok <;> simp [Instr.lookup, run_underlying hu, run_getObj_map hw, hck, Instr.findKey, run_underlying hd, hnow, zeroP_run hz]
            cases ok
            · exact ⟨z, hlk, .ofVal⟩
            · exact ⟨_, hlk, okv .ofVal⟩
          · cases he
        · cases he
      · cases he
  · cases he

theorem updA_run {d : TypeDesc} {k v : AV} (hd : (∃ q, d = .int q) ∧ (∃ q n, k = .lit (.int q n)) ∨ d = .string ∧ ∃ s, k = .lit (.string s)) {k' v' : Value} (hk : VR ρ k k') (hv : VR ρ v v') :
    ∀ (es : List (AV × AV)) (ents : List MapEntry) (i : Nat) (es' : List (AV × AV)), EsR ρ es ents → updA k v es = some es' →
      (∃ j u e, Instr.findNow d k' ents i = some (some (i + j, u)) ∧ ents[j]? = some e ∧ Instr.sameBits 10000 e.key k' = true ∧ EsR ρ es' (ents.set j { e with key := k', val := v' })) ∨
      (Instr.findNow d k' ents i = some none ∧ ∀ born, EsR ρ es' (ents ++ [{ key := k', val := v', born }]))
  | [], [], i, es', _, he => by
    cases he
    exact .inr ⟨rfl, fun born => ⟨.cons hk .nil, .cons hv .nil⟩⟩
  | [], _ :: _, _, _, hE, _ => by cases hE.1
  | _ :: _, [], _, _, hE, _ => by cases hE.1
  | (k1, v1) :: es, e :: ents, i, es', hE, he => by
    obtain ⟨h1, h2⟩ := hE
    cases h1 with
    | cons a1 b1 =>
      cases h2 with
      | cons a2 b2 =>
        unfold updA at he
        split at he
        · rename_i hq
          cases he
          have h3 := keyEq_now hq hd hk a1
          refine .inl ⟨0, e.val, e, by simp [Instr.findNow, h3], rfl, ?_, ⟨.cons hk b1, .cons hv b2⟩⟩
          have hsb : ∀ n, Instr.sameBits (n + 1) e.key k' = true := by
            intro n
            unfold keyEq at hq
            split at hq
            · obtain hx := hk.lit_eq
              have hy : e.key = _ := a1.lit_eq
              subst hx
              rw [hy]
              split at hq
              · rename_i hkk; subst hkk
                simp only [Option.some.injEq, beq_iff_eq] at hq
                subst hq
                simp [Instr.sameBits]
              · cases hq
            · obtain hx := hk.lit_eq
              have hy : e.key = _ := a1.lit_eq
              subst hx
              rw [hy]
              simp only [Option.some.injEq] at hq
              rw [beq_toListBytes] at hq
              have hq' := eq_of_beq hq
              simp [Instr.sameBits, beq_toListBytes, hq']
            · cases hq
          exact hsb 9999
        · rename_i hq
          have h3 := keyEq_now hq hd hk a1
          split at he
          · rename_i es1 hes1
            cases he
            rcases updA_run hd hk hv es ents (i + 1) es1 ⟨b1, b2⟩ hes1 with ⟨j, u, e1, g1, g2, g3, g4⟩ | ⟨g1, g2⟩
            · refine .inl ⟨j + 1, u, e1, ?_, by simpa using g2, g3, ⟨.cons a1 g4.1, .cons a2 g4.2⟩⟩
              simp [Instr.findNow, h3, g1]; omega
            · exact .inr ⟨by simpa [Instr.findNow, h3] using g1, fun born => ⟨.cons a1 (g2 born).1, .cons a2 (g2 born).2⟩⟩
          · cases he
        · cases he

theorem mapUpdateA_run {t : TypeId} {m k v : AV} {h' : Heap} (he : mapUpdateA P t m k v h = some h') (hr : HR B w0 ρ h w) {m' k' v' : Value} (hm : VR ρ m m') (hk : VR ρ k k') (hv : VR ρ v v') :
    ∃ w', (Instr.mapUpdate t m' k' v').run P w = .ok () w' ∧ HR B w0 ρ h' w' ∧ Ext ρ h ρ h' := by
  unfold mapUpdateA at he
  split at he
  · rename_i key elem hu
    split at he
    · cases he
    · rename_i hpk
      simp only [Bool.not_eq_true', Bool.not_eq_false] at hpk
      split at he
      · rename_i b
        obtain ⟨c, z, hρ, rfl⟩ := hm.map_inv
        split at he
        · rename_i es hb
          split at he
          · rename_i es' hup
            cases he
            obtain ⟨hck, d, hd, hkind⟩ := plainKey_run (P := P) (w := w) hpk false hk
            obtain ⟨oc, hw, ho, hB⟩ := hr.obj _ _ _ _ hb hρ
            have hc := hr.bnd _ _ _ hρ
            cases ho with
            | map h1 h2 =>
              rename_i ents clock
              have hset : ∀ o : Obj, (setObj c o).run P w = .ok () { w with heap := w.heap.setIfInBounds c o } := by
                intro o; simp [setObj, Sem.run, hw]
              have hfin : ∀ ents' clock', EsR ρ es' ents'.toList → HR B w0 ρ (h.set b (.map es')) { w with heap := w.heap.setIfInBounds c (.map ents' clock') } ∧ Ext ρ h ρ (h.set b (.map es')) := by
                intro ents' clock' hE
                refine hr.update (c := c) (z := z) hb hρ rfl (.map ents' clock') (.map hE.1 hE.2) rfl rfl ⟨rfl, rfl, rfl, by simp, fun j hj => ?_⟩
                have := hB rfl
                rw [Array.getElem?_setIfInBounds_ne (by omega)]
              rcases updA_run hkind hk hv es ents.toList 0 es' ⟨h1, h2⟩ hup with ⟨j, u, e, g1, g2, g3, g4⟩ | ⟨g1, g2⟩
              · have g2' : ents[j]? = some e := by simpa using g2
                have hj : j < ents.size := (Array.getElem?_eq_some_iff.1 g2').1
                refine ⟨_, ?_, hfin (ents.modify j fun e => { e with key := k', val := v' }) clock ?_⟩
                · simp only [Instr.mapUpdate, Sem.run_bind, run_underlying hu, Result.andThen_ok, run_getObj_map hw, hck, Instr.findKey, run_underlying hd, g1, Sem.run_pure, Nat.zero_add, g2', Option.map_some, Option.getD_some,
                    Instr.keyThatStays, g3, if_true, hset]
                · have hm' : (ents.modify j fun e => { e with key := k', val := v' }).toList = ents.toList.set j { e with key := k', val := v' } := by
                    apply List.ext_getElem?
                    intro i
                    have : (ents.modify j fun e => { e with key := k', val := v' })[i]? = (ents.toList.set j { e with key := k', val := v' })[i]? := by
                      rw [Array.getElem?_modify, List.getElem?_set]
                      by_cases hi : j = i
                      · subst hi; rw [if_pos rfl, if_pos rfl, g2', if_pos (by simpa using hj)]; rfl
                      · simp [hi]
                    rw [Array.getElem?_toList]; exact this
                  rw [hm']; exact g4
              · refine ⟨_, ?_, hfin (ents.push { key := k', val := v', born := clock }) (clock + 1) ?_⟩
                · simp only [Instr.mapUpdate, Sem.run_bind, run_underlying hu, Result.andThen_ok, run_getObj_map hw, hck, Instr.findKey, run_underlying hd, g1, Sem.run_pure, hset]
                · rw [Array.toList_push]; exact g2 clock
          · cases he
        · cases he
      · cases he
  · cases he
end
end Go.Ev
