/- Plain helpers for walks: worlds, blocks, kinds of values that are read. No statement of the seat is proved here. -/
import Derived.WalkKit
import Derived.WalkSpells
import Derived.WalkLawsBesides
import Derived.Deep.QuietTactic
import Derived.BigQuiet
import Derived.Deep.LoopGhost
import Derived.Deep.Slices
import Derived.Lib.Hide
import Derived.OpenShut
import Derived.Laws.StructEq
import Derived.Maps.AppendAt
namespace Go.Proofs.YtgfjlegiofhboaaGreatDoor
open Go.RowKit Go.ChangeShapes Go.WideShapes

/-! ### worlds -/
theorem cell_up {w w1 : World} (h : Below w.heap.size w w1) {a : Addr} {v : Value} (hc : w.cell? a = some v) : w1.cell? a = some v := (h.cell (World.block_lt_of_cell? w a hc)).trans hc
theorem up_alloc {w W : World} (h : Below w.heap.size w W) (o : Obj) : Below w.heap.size w (W.alloc o) := h.alloc h.size o
theorem up_drew {B : Nat} {w W : World} (h : Below B w W) : Below B w W.drew := ⟨h.os, h.tape, h.output, h.size, h.block⟩
theorem up_drewN {B : Nat} {w W : World} (h : Below B w W) (n : Nat) : Below B w (W.drewN n) := ⟨h.os, h.tape, h.output, h.size, h.block⟩
theorem up_then {B : Nat} {w w1 w2 : World} (h : Below B w w1) (hB : B ≤ w1.heap.size) (k : Below w1.heap.size w1 w2) : Below B w w2 := h.trans (k.mono hB)
theorem new_blk (w : World) (o : Obj) : (w.alloc o).heap[w.heap.size]? = some o := heap_alloc_new w o
theorem old_blk {w : World} {g : Nat} {x o : Obj} (h : w.heap[g]? = some x) : (w.alloc o).heap[g]? = some x := by
  rw [heap_alloc_old w o (h := (Array.getElem?_eq_some_iff.1 h).1), h]
theorem blk_lt {w : World} {g : Nat} {o : Obj} (h : w.heap[g]? = some o) : g < w.heap.size := (Array.getElem?_eq_some_iff.1 h).1
theorem blk_up {w w1 : World} (h : Below w.heap.size w w1) {g : Nat} {o : Obj} (hg : w.heap[g]? = some o) : w1.heap[g]? = some o := (h.block g (blk_lt hg)).trans hg
theorem blk_cell {w : World} {g : Nat} {t : TypeId} {cs : Array Value} {fr : Nat × Nat} (h : w.heap[g]? = some (.cells cs t fr)) (i : Nat) : w.cell? ⟨g, i, none⟩ = cs[i]? := cell_of_row w g i cs t fr h
theorem blk_free {w : World} {g : Nat} {t : TypeId} {cs : Array Value} (h : w.heap[g]? = some (.cells cs t (0, 0))) (i : Nat) : w.frozen? ⟨g, i, none⟩ = false := by simp [World.frozen?, h]

/-! ### a region that draws its order, whose operations read and whose calls make memory alone -/
theorem region_calm {P : Program} {id : Nat} {Q : Exit → Act → World → Prop} {a : Act} {w : World} {l : List Oper} (hm : P.follows .mixedOrders = true) (hB : Region.lexB .any l.toArray = true)
    (h : wpQuiet P l.toArray (fun w' => Below w.heap.size w w') (fun a' => ∀ w', Below w.heap.size w w' → Q .normal a' w') l a) : (Code.region id l.toArray true).wp P Q a w :=
  wp_region_quiet (C := fun w' => Below w.heap.size w w') hm hB (up_drew (Below.refl _ _)) (by simpa using h)
theorem calm_of {P : Program} {f : FuncId} {args : Array Value} {w u : World} {v : Value} (hu : Below w.heap.size w u)
    (h : Calls P f args u fun e w' => e = .returned v ∧ Below u.heap.size u w') : Calls P f args u fun e w'' => e = .returned v ∧ Below w.heap.size w w'' :=
  h.mono fun _ _ ⟨he, hb⟩ => ⟨he, up_then hu hu.size hb⟩
/-- An operation that neither reads nor writes, in such a region. -/
theorem calm_pure {P : Program} {ops : Array Oper} {w : World} {Q : Act → Prop} {a : Act} {o : Oper} {rest : List Oper} (hgd : o.guard = none) (v : Value)
    (he : ∀ w', (execOp a.eval o).run P w' = .ok (.value v) w')
    (h : wpQuiet P ops (fun w' => Below w.heap.size w w') Q rest (a.put o.dst v)) : wpQuiet P ops (fun w' => Below w.heap.size w w') Q (o :: rest) a := by
  refine wpQuiet_step (fun K hK => ?_)
  rw [if_pos (by simp [Region.wanted, hgd])]
  refine ⟨v, fun w' hw' => ?_, hK _ h⟩
  unfold Oper.quietAt
  rw [he w']
  exact ⟨rfl, rfl⟩
/-- A struct's variable, all of whose cells are known, loaded in such a region. -/
theorem calm_load {P : Program} {ops : Array Oper} {w : World} {Q : Act → Prop} {a : Act} {o : Oper} {rest : List Oper} (hgd : o.guard = none) (T : TypeId) (x : Operand) (ho : o.op = .load T x)
    {g : Nat} {t : TypeId} {cs : Array Value} {d : TypeDesc} (hg : w.heap[g]? = some (.cells cs t (0, 0))) (hx : a.eval x = .pointer (some ⟨g, 0, none⟩))
    (hu : P.underlying T = some d) (hd : (match d with | .struct _ | .array _ _ => true | _ => false) = true) (hi : (P.info? T).map (·.size) = some cs.size)
    (h : wpQuiet P ops (fun w' => Below w.heap.size w w') Q rest (a.put o.dst (.agg cs))) : wpQuiet P ops (fun w' => Below w.heap.size w w') Q (o :: rest) a := by
  refine wpQuiet_step (fun K hK => ?_)
  rw [if_pos (by simp [Region.wanted, hgd])]
  refine ⟨.agg cs, fun w' hw' => ?_, hK _ h⟩
  have hg' := blk_up hw' hg
  unfold Oper.quietAt execOp
  simp only [ho, hx, Instr.loadAt, Instr.sureAddr, Sem.run_bind, Sem.run_pure, Result.andThen_ok, run_loadVar_row w' g t T cs (0, 0) d hg' hu hd hi]
  exact ⟨rfl, rfl⟩

/-! ### '==' of structs -/
section
variable {P : Program} {d : Nat} {xs ys : Array Value} {f : Field} {fs : List Field} {a b : Value} {r s : Bool} {w : World}
theorem eqs_one (hn : (f.name == "_") = false) (ha : (part f.type xs f.offset).run P w = .ok a w) (hb : (part f.type ys f.offset).run P w = .ok b w) (he : (Op.equalIn d f.type a b).run P w = .ok r w) :
    (Op.eqFields d xs ys [f]).run P w = .ok r w := by
  have hn' : f.name ≠ "_" := by simpa using hn
  simp only [Op.eqFields, if_pos hn', Sem.run_bind, ha, hb, he, Result.andThen_ok]
  cases r <;> simp
theorem eqs_more (hn : (f.name == "_") = false) (ha : (part f.type xs f.offset).run P w = .ok a w) (hb : (part f.type ys f.offset).run P w = .ok b w) (he : (Op.equalIn d f.type a b).run P w = .ok r w)
    (hr : (Op.eqFields d xs ys fs).run P w = .ok s w) : (Op.eqFields d xs ys (f :: fs)).run P w = .ok (r && s) w := by
  have hn' : f.name ≠ "_" := by simpa using hn
  rw [Op.eqFields]
  simp only [if_pos hn', Sem.run_bind, ha, hb, he, Result.andThen_ok]
  cases r
  · simp
  · simpa using hr
theorem eqs_of {t : TypeId} {fs : Array Field} (hu : P.underlying t = some (.struct fs)) (hp : P.stoodInHeld t = false) (h : (Op.eqFields d xs ys fs.toList).run P w = .ok r w) :
    (Op.equalIn (d + 1) t (.agg xs) (.agg ys)).run P w = .ok r w := by
  have hf : P.fieldsOf t = fs := by simp [Program.fieldsOf, hu]
  rw [run_equalIn_struct (P := P) w d t xs ys (by rw [hf]; exact hu) hp, hf]
  exact h
end

/-! ### kinds: what a value's cells say -/
/-- How a Lean value lies in cells: so many of them; what they hold in a world; that later worlds keep it. -/
structure Kd (α : Type) where
  sz : Nat
  pos : 0 < sz
  K : World → α → List Value → Prop
  len : ∀ {w x cs}, K w x cs → cs.length = sz
  up : ∀ {w w1 : World} {x cs}, Below w.heap.size w w1 → K w x cs → K w1 x cs

/-- The ranges of the kinds of whole numbers that the program has. -/
def I64 (x : Int) : Prop := -9223372036854775808 ≤ x ∧ x ≤ 9223372036854775807
def U8 (x : Int) : Prop := 0 ≤ x ∧ x ≤ 255
namespace Kd
/-- One cell, a whole number of a kind that is in its range. -/
def num (k : IntKind) (ok : Int → Prop) : Kd Int where
  sz := 1
  pos := Nat.zero_lt_one
  K := fun _ x cs => cs = [.int k x] ∧ ok x
  len := fun h' => by rw [h'.1]; rfl
  up := fun _ h => h
def bool : Kd Bool where
  sz := 1
  pos := Nat.zero_lt_one
  K := fun _ x cs => cs = [.bool x]
  len := fun h' => by rw [h']; rfl
  up := fun _ h => h
/-- The elements of a row that begins at a cell of a block. -/
def At {α : Type} (d : Kd α) (w : World) (b o : Nat) (xs : List α) : Prop :=
  ∀ i (h : i < xs.length), ∃ cs, d.K w xs[i] cs ∧ ∀ j u, cs[j]? = some u → w.cell? ⟨b, o + i * d.sz + j, none⟩ = some u
/-- A slice's value: so long, room for so many, there or (if it is empty) wherever. -/
def Sl {α : Type} (d : Kd α) (w : World) (A : Option Addr) (n c : Nat) (xs : List α) : Prop :=
  n = xs.length ∧ n ≤ c ∧ c ≤ 9223372036854775807 ∧ ∃ b o, (0 < xs.length → A = some ⟨b, o, none⟩) ∧ d.At w b o xs
theorem At.up_ {α : Type} {d : Kd α} {w w1 : World} {b o : Nat} {xs : List α} (h : d.At w b o xs) (hb : Below w.heap.size w w1) : d.At w1 b o xs := fun i hi => by
  obtain ⟨cs, hk, hc⟩ := h i hi
  exact ⟨cs, d.up hb hk, fun j u hj => cell_up hb (hc j u hj)⟩
theorem Sl.up_ {α : Type} {d : Kd α} {w w1 : World} {A : Option Addr} {n c : Nat} {xs : List α} (h : d.Sl w A n c xs) (hb : Below w.heap.size w w1) : d.Sl w1 A n c xs := by
  obtain ⟨h1, h2, h3, b, o, h4, h5⟩ := h
  exact ⟨h1, h2, h3, b, o, h4, h5.up_ hb⟩
def slice {α : Type} (d : Kd α) : Kd (List α) where
  sz := 1
  pos := Nat.zero_lt_one
  K := fun w xs cs => ∃ A n c, cs = [.slice A n c] ∧ d.Sl w A n c xs
  len := by
    rintro w x cs ⟨A, n, c, rfl, _⟩
    rfl
  up := by
    rintro w w1 x cs hb ⟨A, n, c, rfl, h⟩
    exact ⟨A, n, c, rfl, h.up_ hb⟩
def pair {α β : Type} (a : Kd α) (b : Kd β) : Kd (α × β) where
  sz := a.sz + b.sz
  pos := Nat.add_pos_left a.pos _
  K := fun w x cs => ∃ c0 c1, cs = c0 ++ c1 ∧ a.K w x.1 c0 ∧ b.K w x.2 c1
  len := by
    rintro w x cs ⟨c0, c1, rfl, h0, h1⟩
    rw [List.length_append, a.len h0, b.len h1]
  up := by
    rintro w w1 x cs hb ⟨c0, c1, rfl, h0, h1⟩
    exact ⟨c0, c1, rfl, a.up hb h0, b.up hb h1⟩
def iso {α β : Type} (d : Kd α) (f : β → α) : Kd β where
  sz := d.sz
  pos := d.pos
  K := fun w x cs => d.K w (f x) cs
  len := d.len
  up := d.up
end Kd

/-! ### an argument that can be read as data is of its kind -/
def Opens {α : Type} (P : Program) (T : TypeId) (d : Kd α) : Prop :=
  P.cellsOf T = d.sz ∧ ∀ {H : Type} {enc : TypeId × Value → H} {w : World} {base : Nat} {spare : Nat → Bool} {held : Bool} {fuel : Nat} {cs : List Value} {x : DataW H × List MemPlace},
    DataW.trod enc P w base spare held fuel T cs = some x → ∃ v, d.K w v cs

theorem list_of {α : Type} {p : Nat → α → Prop} (n : Nat) (h : ∀ i, i < n → ∃ v, p i v) : ∃ xs : List α, xs.length = n ∧ ∀ (i : Nat) (hi : i < xs.length), p i xs[i] := by
  induction n with
  | zero => exact ⟨[], rfl, fun i hi => absurd hi (Nat.not_lt_zero _)⟩
  | succ k ih =>
    obtain ⟨xs, hxl, hxs⟩ := ih (fun i hi => h i (by omega))
    obtain ⟨v, hv⟩ := h k (by omega)
    refine ⟨xs ++ [v], by simp [hxl], fun i hi => ?_⟩
    by_cases hik : i < xs.length
    · rw [List.getElem_append_left hik]; exact hxs i hik
    · have : i = xs.length := by simp at hi; omega
      subst this
      rw [List.getElem_append_right (Nat.le_refl _)]
      simp only [Nat.sub_self, List.getElem_cons_zero]
      rw [hxl]; exact hv
section
variable {α β : Type} {P : Program} {T e : TypeId}
theorem opens_i64 (h : P.underlying T = some (.int .i64)) (hc : P.cellsOf T = 1) : Opens P T (Kd.num .i64 I64) := ⟨hc, fun hx => by
  obtain ⟨n, rfl, _, hw⟩ := DataW.trod_int h hx
  have := bounds_i64 hw
  exact ⟨n, rfl, this⟩⟩
theorem opens_u8 (h : P.underlying T = some (.int .u8)) (hc : P.cellsOf T = 1) : Opens P T (Kd.num .u8 U8) := ⟨hc, fun hx => by
  obtain ⟨n, rfl, _, hw⟩ := DataW.trod_int h hx
  have := bounds_u8 hw
  exact ⟨n, rfl, this⟩⟩
theorem opens_bool (h : P.underlying T = some .bool) (hc : P.cellsOf T = 1) : Opens P T Kd.bool := ⟨hc, fun hx => by
  obtain ⟨n, rfl, _⟩ := DataW.trod_bool h hx
  exact ⟨n, rfl⟩⟩
theorem opens_slice {d : Kd α} (h : P.underlying T = some (.slice e)) (hc : P.cellsOf T = 1) (hd : Opens P e d) : Opens P T d.slice := ⟨hc, fun {H enc w base spare held fuel cs x} hx => by
  rcases Go.Deep.open_slice h hx with ⟨rfl, _⟩ | ⟨a, len, cap, m, n, D, Pl, rfl, hb, hl, hm, hmm, _, hall⟩
  · exact ⟨[], _, _, _, rfl, rfl, Nat.le_refl _, Nat.zero_le _, 0, 0, fun h => absurd h (Nat.lt_irrefl 0), fun i hi => absurd hi (Nat.not_lt_zero _)⟩
  · have hle : len ≤ m := by rw [hmm]; split <;> omega
    have ex : ∀ i, i < len → ∃ v cs', w.cells? base (a.add (i * P.cellsOf e)) (P.cellsOf e) = some cs' ∧ d.K w v cs' := fun i hi => by
      obtain ⟨cs', h1, h2⟩ := hall i (by omega)
      obtain ⟨v, hv⟩ := hd.2 h2
      exact ⟨v, cs', h1, hv⟩
    obtain ⟨xs, hxl, hxs⟩ := list_of len ex
    refine ⟨xs, _, _, _, rfl, hxl.symm, hl, by unfold maxLen at hm; exact hm, a.block, a.off, fun hp => ?_, fun i hi => ?_⟩
    · obtain ⟨cs', h1, h2⟩ := hxs 0 hp
      have hz := d.pos
      · have h3 := (World.cells?_some h1).2.2 0 (by rw [hd.1]; exact hz)
        have hl' := d.len h2
        rw [List.getElem?_eq_getElem (by omega)] at h3
        have hs : a.spot = none := by
          simp [Addr.add] at h3
          unfold World.cell? at h3
          cases hh : w.heap[a.block]? with
          | none => simp [hh] at h3
          | some o => cases o <;> simp [hh] at h3; exact h3.1
        cases a; simp at hs; subst hs; rfl
    · obtain ⟨cs', h1, h2⟩ := hxs i hi
      refine ⟨cs', h2, fun j u hu => ?_⟩
      have hj : j < cs'.length := (List.getElem?_eq_some_iff.1 hu).1
      have h3 := (World.cells?_some h1).2.2 j (by rw [hd.1, ← d.len h2]; exact hj)
      rw [hu, Deep.add_add, hd.1] at h3
      have hs : a.spot = none ∨ i * d.sz + j ≠ 0 := by
        by_cases hz : i * d.sz + j = 0
        · left
          rw [hz] at h3
          simp [Addr.add] at h3
          unfold World.cell? at h3
          cases hh : w.heap[a.block]? with
          | none => simp [hh] at h3
          | some o => cases o <;> simp [hh] at h3; exact h3.1
        · exact .inr hz
      rw [← h3]
      congr 1
      rcases hs with hs | hs
      · cases a; simp at hs; subst hs
        rw [add_plain]; simp [Nat.add_assoc]
      · unfold Addr.add; rw [if_neg hs]; simp⟩
end
/-- A struct's fields, from an offset on. -/
def OpensAt {α : Type} (P : Program) (fs : List Field) (o : Nat) (d : Kd α) : Prop :=
  ∀ {H : Type} {enc : TypeId × Value → H} {w : World} {base : Nat} {spare : Nat → Bool} {held : Bool} {n : Nat} (cs : List Value) (ys : List (DataW H × List MemPlace)), o + d.sz ≤ cs.length → ys.length = fs.length →
    (∀ (i : Nat) (f : Field), fs[i]? = some f → DataW.trod enc P w base spare held n f.type ((cs.drop f.offset).take (P.cellsOf f.type)) = ys[i]?) → ∃ v, d.K w v ((cs.drop o).take d.sz)
section
variable {α β γ : Type} {P : Program} {T e : TypeId}
theorem opensAt_one {f : Field} {o : Nat} {d : Kd α} (ho : f.offset = o) (h : Opens P f.type d) : OpensAt P [f] o d := fun {H enc w base spare held n} cs ys hl hy hall => by
  have h0 := hall 0 f rfl
  rw [List.getElem?_eq_getElem (by simp [hy]), h.1, ho] at h0
  exact h.2 h0
theorem opensAt_more {f : Field} {fs : List Field} {o : Nat} {d : Kd α} {d' : Kd β} (ho : f.offset = o) (h : Opens P f.type d) (hr : OpensAt P fs (o + d.sz) d') : OpensAt P (f :: fs) o (d.pair d') :=
  fun {H enc w base spare held n} cs ys hl hy hall => by
  have hl' : o + (d.sz + d'.sz) ≤ cs.length := hl
  have h0 := hall 0 f rfl
  rw [List.getElem?_eq_getElem (by simp [hy]), h.1, ho] at h0
  obtain ⟨v, hv⟩ := h.2 h0
  obtain ⟨u, hu⟩ := hr cs (ys.drop 1) (by omega) (by simp [hy]) (fun i g hg => by
    rw [List.getElem?_drop, Nat.add_comm 1 i]
    exact hall (i + 1) g (by simpa using hg))
  refine ⟨(v, u), _, _, ?_, hv, hu⟩
  show (cs.drop o).take (d.sz + d'.sz) = _
  rw [List.take_add, List.drop_drop]
theorem opens_struct {fs : Array Field} {d : Kd α} (g : α → γ) (f : γ → α) (hg : ∀ a, f (g a) = a) (hu : P.underlying T = some (.struct fs)) (hc : P.cellsOf T = d.sz) (h : OpensAt P fs.toList 0 d) : Opens P T (d.iso f) :=
  ⟨hc, fun {H enc w base spare held fuel cs x} hx => by
  obtain ⟨ys, n, _, _, hl, hyl, hall⟩ := DataW.trod_struct hu hx
  obtain ⟨v, hv⟩ := h cs ys (by omega) (by simpa using hyl) (fun i f hf => hall i f (by simpa using hf))
  refine ⟨g v, ?_⟩
  show d.K w (f (g v)) cs
  rw [hg]
  rw [List.drop_zero, List.take_of_length_le (by omega)] at hv
  exact hv⟩
end
end Go.Proofs.YtgfjlegiofhboaaGreatDoor
