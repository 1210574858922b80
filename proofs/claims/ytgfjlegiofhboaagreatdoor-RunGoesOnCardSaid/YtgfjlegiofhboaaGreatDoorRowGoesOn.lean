/- RunGoesOn: for any three machines the statement's function answers true: by the walk of its text, the contract of run.Keeps, and alive's run by the evaluator's pieces. No condition but the two package variables' data, tied. The row; the card. -/
import Derived.Test.YtgfjlegiofhboaaGreatDoorRows
import Derived.Test.YtgfjlegiofhboaaGreatDoorCards
import Derived.Test.YtgfjlegiofhboaaGreatDoorTie
import Derived.Test.YtgfjlegiofhboaaGreatDoorAl
import Derived.Test.YtgfjlegiofhboaaGreatDoorLawGoesOn
import Derived.ProofKit
import Derived.ChangeSame
import Derived.ChangeVars
import Derived.JoinedOf
import Derived.RowKit
import Derived.RowKitTokens
import Derived.LaidLaws
import Derived.Lib.LaidTab
import Derived.LaidHandle
import Derived.OpenShut
import Derived.ShutString
import Derived.ChangeOld
import Derived.SizedLaws
import Derived.ChangeArms
import Derived.Below
import Derived.Eval
import Derived.SevenTiedAt
namespace Go.Proofs.YtgfjlegiofhboaaGreatDoor.runGoesOn
open Go Go.ChangeShapes Go.WideShapes Go.ChangeAt Go.RowKit
open Go.Ev
set_option linter.unusedVariables false
/-- A row of the table as values. -/
def bitsOf : DataW Unit → List Bool
  | .lit (.bool b) => [b]
  | _ => []
def rowOf : DataW Unit → List Bool
  | .agg l => l.flatMap bitsOf
  | _ => []
def tableOf : DataW Unit → List Bool
  | .agg l => l.flatMap rowOf
  | _ => []

theorem flat_of_parts {α : Type} (k : Nat) : ∀ (n : Nat) (f : Nat → List α) (cs : List α), cs.length = n * k → (∀ i, i < n → (cs.drop (i * k)).take k = f i) → cs = (List.range n).flatMap f
  | 0, f, cs, hl, _ => by
    have : cs = [] := List.length_eq_zero_iff.1 (by simpa using hl)
    subst this; rfl
  | n + 1, f, cs, hl, hf => by
    have ih := flat_of_parts k n (fun i => f (i + 1)) (cs.drop k) (by rw [List.length_drop, hl, Nat.succ_mul]; omega) (fun i hi => by
      have h1 := hf (i + 1) (by omega)
      rw [List.drop_drop, show k + i * k = (i + 1) * k by rw [Nat.succ_mul]; omega]
      exact h1)
    have h0 := hf 0 (by omega)
    simp only [Nat.zero_mul, List.drop_zero] at h0
    rw [List.range_succ_eq_map, List.flatMap_cons, List.flatMap_map]
    rw [← h0]
    conv => lhs; rw [← List.take_append_drop k cs]
    rw [ih]

theorem flat_range {α β : Type} (F : Option α → List β) : ∀ l : List α, (List.range l.length).flatMap (fun i => F l[i]?) = l.flatMap fun x => F (some x)
  | [] => rfl
  | x :: l => by
    rw [List.length_cons, List.range_succ_eq_map, List.flatMap_cons, List.flatMap_map, List.flatMap_cons, ← flat_range F l]
    rfl

theorem mapM_at {α β : Type} {f : α → Option β} : ∀ {l : List α} {r : List β}, l.mapM f = some r → ∀ (i : Nat) (a : α), l[i]? = some a → ∃ b, r[i]? = some b ∧ f a = some b
  | [], _, _, i, a, ha => by simp at ha
  | x :: l, r, h, i, a, ha => by
    simp only [List.mapM_cons, Option.bind_eq_bind, Option.bind_eq_some_iff, Option.pure_def, Option.some.injEq] at h
    obtain ⟨b, hb, r', hr', rfl⟩ := h
    cases i with
    | zero =>
      simp only [List.getElem?_cons_zero, Option.some.injEq] at ha
      subst ha
      exact ⟨b, rfl, hb⟩
    | succ i => exact mapM_at hr' i a (by simpa using ha)

theorem c233 : Tryz.prog.cellsOf 233 = 6 := by kernel_rfl
theorem c269 : Tryz.prog.cellsOf 269 = 138 := by kernel_rfl
theorem c4 : Tryz.prog.cellsOf 4 = 1 := by kernel_rfl

theorem bit_of_trod {enc : TypeId × Value → Unit} {w : World} {base : Nat} {sp : Nat → Bool} {held : Bool} {fuel : Nat} {cs : List Value} {y : DataW Unit × List MemPlace}
    (h : DataW.trod enc Tryz.prog w base sp held fuel 4 cs = some y) : ∃ b, cs = [.bool b] ∧ y.1 = .lit (.bool b) := by
  obtain ⟨b, h1, h2⟩ := DataW.trod_bool Tryz.underlying4 h
  exact ⟨b, h1, by rw [h2]⟩

set_option maxRecDepth 100000 in
theorem row_of_trod {enc : TypeId × Value → Unit} {w : World} {base : Nat} {sp : Nat → Bool} {held : Bool} {fuel : Nat} {cs : List Value} {y : DataW Unit × List MemPlace}
    (h : DataW.trod enc Tryz.prog w base sp held fuel 233 cs = some y) : cs = (rowOf y.1).map Value.bool := by
  cases fuel with
  | zero => simp [DataW.trod] at h
  | succ fuel =>
    simp only [DataW.trod, Tryz.underlying233, c233] at h
    split at h
    · rename_i hl
      obtain ⟨a0, a1, a2, a3, a4, a5, rfl⟩ : ∃ a0 a1 a2 a3 a4 a5, cs = [a0, a1, a2, a3, a4, a5] := by
        match cs, hl with
        | [a, b, c, d, e, f], _ => exact ⟨a, b, c, d, e, f, rfl⟩
      simp only [Option.map_eq_some_iff, List.mapM_cons, List.mapM_nil, Option.bind_eq_bind, Option.bind_eq_some_iff, Option.pure_def, Option.some.injEq] at h
      obtain ⟨xs, ⟨y0, h0, _, ⟨y1, h1, _, ⟨y2, h2, _, ⟨y3, h3, _, ⟨y4, h4, _, ⟨y5, h5, _, rfl, rfl⟩, rfl⟩, rfl⟩, rfl⟩, rfl⟩, rfl⟩, rfl⟩ := h
      obtain ⟨b0, e0, d0⟩ := bit_of_trod h0
      obtain ⟨b1, e1, d1⟩ := bit_of_trod h1
      obtain ⟨b2, e2, d2⟩ := bit_of_trod h2
      obtain ⟨b3, e3, d3⟩ := bit_of_trod h3
      obtain ⟨b4, e4, d4⟩ := bit_of_trod h4
      obtain ⟨b5, e5, d5⟩ := bit_of_trod h5
      simp [c4] at e0 e1 e2 e3 e4 e5
      subst e0 e1 e2 e3 e4 e5
      simp [rowOf, d0, d1, d2, d3, d4, d5, bitsOf]
    · cases h

theorem table_of_trod {enc : TypeId × Value → Unit} {w : World} {base : Nat} {sp : Nat → Bool} {held : Bool} {fuel : Nat} {cs : List Value} {d : DataW Unit} {p : List MemPlace}
    (h : DataW.trod enc Tryz.prog w base sp held fuel 269 cs = some (d, p)) : cs = (tableOf d).map Value.bool := by
  cases fuel with
  | zero => simp [DataW.trod] at h
  | succ fuel =>
    simp only [DataW.trod, Tryz.underlying269, c269, c233] at h
    split at h
    · rename_i hl
      obtain ⟨xs, hm, hx⟩ := Option.map_eq_some_iff.1 h
      obtain ⟨rfl, rfl⟩ := Prod.mk.inj hx
      have hxl : xs.length = 23 := by simpa using Lib.mapM_length hm
      have hc : cs = (List.range 23).flatMap fun i => ((xs[i]?.map fun x => rowOf x.1).getD []).map Value.bool := by
        refine flat_of_parts 6 23 _ cs (by omega) fun i hi => ?_
        obtain ⟨b, hb, hf⟩ := mapM_at hm i i (by simp [hi])
        rw [row_of_trod hf]
        simp [hb]
      rw [hc]
      have hr : (List.range 23).flatMap (fun i => ((xs[i]?.map fun x => rowOf x.1).getD []).map Value.bool) = xs.flatMap fun x => (rowOf x.1).map Value.bool := by
        rw [← hxl]
        exact flat_range (fun o => ((o.map fun x => rowOf x.1).getD []).map Value.bool) xs
      rw [hr]
      simp [tableOf, List.map_flatMap, List.flatMap_map]
    · cases h

def bits : List Bool := tableOf Rows.laid_fescue_shape_table
def tableCells : Array Value := (bits.map Value.bool).toArray

theorem laidOut : laidOutB Tryz.prog = true := by kernel_rfl
theorem own : ownKnob Tryz.prog.godebug = none := by kernel_rfl
theorem gTable : Tryz.prog.globalNamed "fescue/shape.table" = some 1 := by kernel_rfl
theorem gTableType : (Tryz.prog.globals[1]?).map (·.type) = some 269 := by kernel_rfl
theorem gErr : Tryz.prog.globalNamed "errors.errorType" = some 0 := by kernel_rfl

abbrev laid : List (String × DataW Unit) := [("errors.errorType", Rows.laid_errors_errorType), ("fescue/shape.table", Rows.laid_fescue_shape_table)]

theorem parts_of_laid {W : World} (h : laidMetH Tryz.prog laid W) : W.var? Tryz.prog "fescue/shape.table" = some tableCells ∧ ∃ v, W.var? Tryz.prog "errors.errorType" = some v := by
  have h' : laidMet Tryz.prog [("fescue/shape.table", Rows.laid_fescue_shape_table)] W ∧ handlesMet Tryz.prog [("errors.errorType", Rows.laid_errors_errorType)] W := h
  constructor
  · obtain ⟨ps, ⟨g, t, cs, fuel, p, q, hg, ht, hvar, hd, _, _⟩, _⟩ := h'.1
    obtain rfl := Option.some.inj (gTable.symm.trans hg)
    obtain rfl := Option.some.inj (gTableType.symm.trans ht)
    rw [hvar]
    have := table_of_trod hd
    congr 1
    apply Array.toList_inj.1
    rw [this]
    rfl
  · obtain ⟨name, u, ty, e1, e2, e3, e4, e5⟩ := h'.2 _ (List.mem_singleton.2 rfl)
    exact ⟨_, e5⟩

theorem block_of_var {W : World} {n : String} {g : Nat} {cs : Array Value} (hg : Tryz.prog.globalNamed n = some g) (h : W.var? Tryz.prog n = some cs) : ∃ t fz, W.heap[g]? = some (.cells cs t fz) := by
  unfold World.var? at h
  simp only [hg, Option.bind_some] at h
  split at h
  · rename_i cs' t fz e
    obtain rfl := Option.some.inj h
    exact ⟨t, fz, e⟩
  · cases h

open Classical in
/-- The map at the start: the two variables' blocks. -/
noncomputable def rho0 (z : Nat) : Rho := fun b => if b = Key.ofNat 0 then some (0, z) else if b = Key.ofNat 1 then some (1, 138) else none

open Classical in
theorem hh_get (b : Key) : Go.Ev.YtgfjlegiofhboaaGreatDoorAl.hh.get b = if b = Key.ofNat 1 then some (AObj.cells (bits.map fun b => AV.lit (.bool b)) true) else none := by
  have e : Go.Ev.YtgfjlegiofhboaaGreatDoorAl.hh = ⟨(Tr.leaf : Tr AObj).put (Key.ofNat 1) (some (AObj.cells (bits.map fun b => AV.lit (.bool b)) true)), kn 3⟩ := by kernel_rfl
  rw [e]
  split
  · subst b
    unfold Heap.get
    dsimp only
    exact Tr.get_put_same _ _ _
  · rename_i hne
    unfold Heap.get
    dsimp only
    exact (Tr.get_put_ne _ _ _ _ hne).trans (by cases b <;> rfl)

theorem hh_nx : Go.Ev.YtgfjlegiofhboaaGreatDoorAl.hh.nx.toNat = 3 := by kernel_rfl

theorem keys : (Key.ofNat 0).toNat = 1 ∧ (Key.ofNat 1).toNat = 2 := ⟨by kernel_rfl, by kernel_rfl⟩
theorem keys_ne : Key.ofNat 0 ≠ Key.ofNat 1 := fun h => by
  have := congrArg Key.toNat h
  rw [keys.1, keys.2] at this
  cases this

theorem start_hr {W : World} {arr v0 : Array Value} {t : TypeId} {fz : Nat × Nat} {o0 : Obj} (h1 : W.heap[1]? = some (.cells tableCells t fz)) (h0 : W.heap[0]? = some o0) (z : Nat) :
    HR W.heap.size W (rho0 z) Go.Ev.YtgfjlegiofhboaaGreatDoorAl.hh W where
  obj := by
    intro b o c z' hb hρ
    rw [hh_get] at hb
    split at hb
    · subst b
      obtain rfl := Option.some.inj hb
      have e : rho0 z (Key.ofNat 1) = some (1, 138) := by
        unfold rho0
        rw [if_neg (fun h => keys_ne h.symm), if_pos rfl]
      rw [e] at hρ
      obtain ⟨rfl, rfl⟩ := Prod.mk.inj (Option.some.inj hρ)
      refine ⟨_, h1, .cells (by kernel_rfl) (Nat.le_of_eq (by rw [List.length_map]; kernel_rfl)) ?_ (fun h => by cases h), fun h => by cases h⟩
      intro i v hv
      rw [List.getElem?_map, Option.map_eq_some_iff] at hv
      obtain ⟨x, hx, rfl⟩ := hv
      refine ⟨.bool x, ?_, .lit⟩
      show (bits.map Value.bool).toArray[i]? = _
      rw [List.getElem?_toArray, List.getElem?_map, hx]
      rfl
    · cases hb
  inj := by
    intro b b' c z' z'' _ _ hb hb'
    rw [hh_get] at hb hb'
    split at hb
    · split at hb'
      · rename_i e1 e2; rw [e1, e2]
      · exact absurd rfl hb'
    · exact absurd rfl hb
  bnd := by
    intro b c z' hb
    have l0 : 0 < W.heap.size := (Array.getElem?_eq_some_iff.1 h0).1
    have l1 : 1 < W.heap.size := (Array.getElem?_eq_some_iff.1 h1).1
    unfold rho0 at hb
    split at hb
    · obtain ⟨rfl, rfl⟩ := Prod.mk.inj (Option.some.inj hb); exact l0
    · split at hb
      · obtain ⟨rfl, rfl⟩ := Prod.mk.inj (Option.some.inj hb); exact l1
      · cases hb
  fresh := by
    intro b hb
    rw [hh_nx] at hb
    have n0 : b ≠ Key.ofNat 0 := fun h => by rw [h, keys.1] at hb; omega
    have n1 : b ≠ Key.ofNat 1 := fun h => by rw [h, keys.2] at hb; omega
    refine ⟨?_, ?_⟩
    · unfold rho0; rw [if_neg n0, if_neg n1]
    · rw [hh_get, if_neg n1]
  below := Below.refl _ _
  room := Nat.le_refl _

theorem globs : Tryz.prog.globals.size = 2 := by kernel_rfl

theorem start_gr (z : Nat) : GR Tryz.prog (rho0 z) := by
  intro g hg
  rw [globs] at hg
  match g, hg with
  | 0, _ => exact ⟨z, by unfold rho0; rw [if_pos rfl]⟩
  | 1, _ => exact ⟨138, by unfold rho0; rw [if_neg (fun h => keys_ne h.symm), if_pos rfl]⟩

theorem alive_at {W u : World} (h : laidMetH Tryz.prog laid W) (hu : Below W.heap.size W u) : Calls Tryz.prog 9 #[] u fun e w' => e = .returned (.bool true) ∧ Below u.heap.size u w' := by
  obtain ⟨h1, v, h0⟩ := parts_of_laid h
  obtain ⟨t, fz, e1⟩ := block_of_var gTable h1
  obtain ⟨t', fz', e0⟩ := block_of_var gErr h0
  have l1 : 1 < W.heap.size := (Array.getElem?_eq_some_iff.1 e1).1
  have l0 : 0 < W.heap.size := (Array.getElem?_eq_some_iff.1 e0).1
  exact Go.Ev.YtgfjlegiofhboaaGreatDoorAl.calls (Checked.mixed Tryz.checked) (start_hr (arr := tableCells) (v0 := v) (by rw [hu.block _ l1]; exact e1) (by rw [hu.block _ l0]; exact e0) 0) (start_gr 0)

/-- A world that meets the condition. -/
noncomputable def laidWorld (os : Os) : World :=
  let w0 := World.holding Tryz.prog os ⟨#[], #[], []⟩
  { w0 with heap := (w0.heap.modify 0 fun
      | .cells _ t frozen => .cells #[.iface 171 (.agg #[.pointer (some ⟨2, 84, none⟩)])] t frozen
      | o => o).modify 1 fun
      | .cells _ t frozen => .cells tableCells t frozen
      | o => o }
theorem laidWorld_met (os : Os) (args : Array Value) : laidMetH Tryz.prog laid ((laidWorld os).forCall (fun _ _ => 0) ⟨#[], args, []⟩).memory :=
  laidMetH_of_parts (laidMet_of_run' 8 (by kernel_rfl) (by kernel_rfl)) (by kernel_rfl)

set_option maxRecDepth 100000 in
theorem lifted (os : Os) (started : os.Started) (H : Type) (enc : TypeId × Value → H) :
    ReturnsInHanded {} Tryz.checked os 4 .any (fun w args => (Rows.runGoesOnSpec.pre enc Tryz.prog Tryz.f4 [] false w args ∧ laidMetH Tryz.prog laid w) ∧ sizedMet enc Tryz.prog Tryz.f4 (OpenSpec.ofChange Rows.runGoesOnSpec) false w args)
      (Rows.runGoesOnSpec.post enc Tryz.prog Tryz.f4 false true false false) := by
  refine returnsInHanded_of_change_and (C := Tryz.checked) (X := fun w _ => laidMetH Tryz.prog laid w) (fun _ _ _ hh h => h.of_heap hh) own started (by kernel_rfl) Tryz.func4
    (ChangeSpec.witness_at (enc := enc) (C := Tryz.checked) (os := os) (X := fun w _ => laidMetH Tryz.prog laid w) false (laidWorld os) #[.agg #[.slice none 0 0, .slice none 0 0, .slice none 0 0, .int .i64 0, .slice none 0 0, .int .i64 0, .int .i64 0, .int .u8 0, .int .i64 0, .int .i64 0], .agg #[.slice none 0 0, .slice none 0 0, .slice none 0 0, .int .i64 0, .slice none 0 0, .int .i64 0, .int .i64 0, .int .u8 0, .int .i64 0, .int .i64 0], .agg #[.slice none 0 0, .slice none 0 0, .slice none 0 0, .int .i64 0, .slice none 0 0, .int .i64 0, .int .i64 0, .int .u8 0, .int .i64 0, .int .i64 0]] 8 rfl (by kernel_rfl) (by kernel_rfl) (by kernel_rfl) (by kernel_rfl) (by kernel_rfl) (laidWorld_met os _)) ?_
  intro W base args ds gs before hval0 hW _ _ hL _
  have hval : ∀ (j : Nat) t v, Tryz.f4.params[j]? = some t → args[j]? = some v → Value.okWide Tryz.prog W .any base t v := hval0
  have hW' := hW
  obtain ⟨p, q, hA0, hV, rfl, hfz, hnd⟩ := hW
  have hA : DataW.TrodAll enc Tryz.prog W 0 (fun _ => true) true Tryz.f4.params.toList args.toList ds p := hA0
  rw [Tryz.params4] at hA hval
  obtain ⟨v0, vs0, d0, ds0, p0, q0, hargs, rfl, rfl, h0, r0⟩ := trodAll_cons hA
  obtain ⟨v1, vs1, d1, ds1, p1, q1, rfl, rfl, rfl, h1, r1⟩ := trodAll_cons r0
  obtain ⟨v2, vs2, d2, ds2, p2, q2, rfl, rfl, rfl, h2, r2⟩ := trodAll_cons r1
  obtain ⟨rfl, rfl, rfl⟩ := trodAll_nil r2
  obtain rfl : args = #[v0, v1, v2] := by cases args; simp_all
  obtain ⟨rfl, rfl⟩ := trodVars_none hV
  obtain ⟨c0, rfl, z0⟩ := okWide_struct Tryz.underlying28 (hval 0 28 v0 rfl rfl)
  obtain ⟨c1, rfl, z1⟩ := okWide_struct Tryz.underlying28 (hval 1 28 v1 rfl rfl)
  obtain ⟨c2, rfl, z2⟩ := okWide_struct Tryz.underlying28 (hval 2 28 v2 rfl rfl)
  have k0 := h0
  have k1 := h1
  have k2 := h2
  have lt0 : ∀ x ∈ p0, x.block < W.heap.size := by obtain ⟨m, hm⟩ := k0; exact DataW.trod_lt m _ _ _ hm
  have lt1 : ∀ x ∈ p1, x.block < W.heap.size := by obtain ⟨m, hm⟩ := k1; exact DataW.trod_lt m _ _ _ hm
  have lt2 : ∀ x ∈ p2, x.block < W.heap.size := by obtain ⟨m, hm⟩ := k2; exact DataW.trod_lt m _ _ _ hm
  obtain ⟨f0, hf0⟩ := h0
  obtain ⟨f1, hf1⟩ := h1
  obtain ⟨f2, hf2⟩ := h2
  obtain ⟨x0, hx0⟩ := opens_Mc.2 hf0
  obtain ⟨x1, hx1⟩ := opens_Mc.2 hf1
  obtain ⟨x2, hx2⟩ := opens_Mc.2 hf2
  clear hA0 hval0 hval hA
  refine (law_goesOn (fun u hu => alive_at hL hu) x0 x1 x2 c0.toList c1.toList c2.toList hx0 hx1 hx2).mono fun e W' ⟨he, bel⟩ => ?_
  subst he
  exact ⟨_, rfl, _, _, _, [], _, [], hW', trodAll_mk1 (shut_bool Tryz.underlying4 _), (trodAll_cons_mk (Below.trod laidOut (by kernel_rfl) (of_decide_eq_true (by kernel_rfl)) k0 bel lt0) (trodAll_cons_mk (Below.trod laidOut (by kernel_rfl) (of_decide_eq_true (by kernel_rfl)) k1 bel lt1) (trodAll_cons_mk (Below.trod laidOut (by kernel_rfl) (of_decide_eq_true (by kernel_rfl)) k2 bel lt2) trodAll_mk0))), rfl, bel.frame _, fun h => by cases h⟩

theorem over : Rows.runGoesOnRow.holds Tryz.pinned (OpenSpec.ofChange Rows.runGoesOnSpec) :=
  OpenClaim.holds_of_wide 4 Tryz.f4 rfl rfl rfl rfl rfl rfl rfl ⟨rfl, rfl, rfl, rfl, rfl⟩ rfl rfl rfl rfl rfl (by kernel_rfl) Tryz.func4 (by kernel_rfl)
    (of_decide_eq_true (by kernel_rfl)) (by unfold Func.isWrapper; first | (rw [if_pos (by decide +kernel)]; kernel_rfl) | (rw [if_neg (by decide +kernel)]; exact ⟨rfl, rfl⟩))
    (fun os started H enc _ => lifted os started H enc)
theorem row_proved : Rows.RunGoesOnSaid := over

theorem card_proved : Rows.RunGoesOnCardSaid :=
  Claim7.holds_tied_plain_at .later [] [.handle, .data] true (true, "1a37e1eabf1ca99e6c2d565cf9c4a122019f0a5606cad6be97f8fae2016c2ba4") true
    over (fun _ h => by cases h) (by kernel_rfl) (fun _ h => by cases h) runGoesOn_row_tie rfl ⟨rfl, rfl⟩ (by kernel_rfl) rfl
    (fun f fn hf hfn => by
      obtain rfl : f = 4 := Option.some.inj ((show Tryz.prog.funcNamed "fescue/fescuelaw17.RunGoesOn" = some 4 by kernel_rfl).symm.trans hf) |>.symm
      obtain rfl : fn = Tryz.f4 := (Option.some.inj (Tryz.func4.symm.trans hfn)).symm
      exact ⟨by kernel_rfl, fun j t ht => by
        rw [Tryz.params4] at ht
        have h28 : t = 28 := by
          rcases j with _ | _ | _ | j
          · simpa using ht.symm
          · simpa using ht.symm
          · simpa using ht.symm
          · simp at ht
        subst h28
        exact (show Tryz.prog.wantsStandIn 28 = false by kernel_rfl)⟩)
    (by kernel_rfl)
#print axioms card_proved
end Go.Proofs.YtgfjlegiofhboaaGreatDoor.runGoesOn
namespace Go.Proofs.YtgfjlegiofhboaaGreatDoor
/-- The card, under a short name, for the claim. -/
theorem runGoesOn_holds : Rows.RunGoesOnCardSaid := runGoesOn.card_proved
end Go.Proofs.YtgfjlegiofhboaaGreatDoor
