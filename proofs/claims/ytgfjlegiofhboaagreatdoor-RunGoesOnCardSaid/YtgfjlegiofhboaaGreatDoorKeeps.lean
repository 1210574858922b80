/- The walk of run.Keeps: two machines of whatever kind; it answers whether the one's events begin the other's, and what an exit asks besides. -/
import Derived.Test.YtgfjlegiofhboaaGreatDoorKinds
namespace Go.Proofs.YtgfjlegiofhboaaGreatDoor
open Go.RowKit

theorem ev_eqIn (d : Nat) (x y : Ev) (w : World) : (Op.equalIn (d + 2) 40 (.agg #[.int .u8 x.kind, .int .i64 x.n]) (.agg #[.int .u8 y.kind, .int .i64 y.n])).run Tryz.prog w = .ok (decide (x = y)) w := by
  have : decide (x = y) = ((x.kind == y.kind) && (x.n == y.n)) := by
    cases x; cases y; simp [Bool.decide_and]; rfl
  rw [this]
  refine eqs_of Tryz.underlying40 (by kernel_rfl) ?_
  refine eqs_more (by rfl) (by go_simp; rfl) (by go_simp; rfl) (by go_simp) ?_
  exact eqs_one (by rfl) (by go_simp; rfl) (by go_simp; rfl) (by go_simp)
theorem ev_neq (x y : Ev) (w : World) : (binOp .neq 40 (.agg #[.int .u8 x.kind, .int .i64 x.n]) (.agg #[.int .u8 y.kind, .int .i64 y.n])).run Tryz.prog w = .ok (.bool (!decide (x = y))) w := by
  simp only [binOp]
  simp [Op.equal, Op.maxDepth, ev_eqIn 9998 x y w]

theorem info_i64 : (Tryz.prog.info? 2).map (fun i => i.size) = some 1 := by kernel_rfl
theorem pair_eqIn (d : Nat) (a b a' b' : Int) (w : World) : (Op.equalIn (d + 2) 61 (.agg #[.int .i64 a, .int .i64 b]) (.agg #[.int .i64 a', .int .i64 b'])).run Tryz.prog w = .ok (a == a' && b == b') w := by
  obtain ⟨i, hi, _⟩ := Option.map_eq_some_iff.1 info_i64
  rw [run_equalIn_array (P := Tryz.prog) w (d + 1) _ _ Tryz.underlying61 hi]
  rw [show Tryz.prog.cellsOf 2 = 1 by kernel_rfl]
  show (Op.eqItems (d + 1) 2 1 _ _ [0, 1]).run Tryz.prog w = _
  simp only [Op.eqItems]
  go_simp
  by_cases h : a = a' <;> by_cases h' : b = b' <;> simp [h, h']
theorem pair_neq (a b a' b' : Int) (w : World) : (binOp .neq 61 (.agg #[.int .i64 a, .int .i64 b]) (.agg #[.int .i64 a', .int .i64 b'])).run Tryz.prog w = .ok (.bool (!(a == a' && b == b'))) w := by
  simp only [binOp]
  simp [Op.equal, Op.maxDepth, pair_eqIn 9998 a b a' b' w]

/-- Does the second machine keep the first? -/
def keepsB (x y : Mc) : Bool :=
  decide (x.events <+: y.events) && (!(x.state == 2) || (y.state == 2 && (x.events.length : Int) == y.events.length && x.exit_ == y.exit_ && decide (y.heaps ≤ x.heaps)))

theorem pre_step (ea eb : List Ev) (k : Nat) (h : ea.take k <+: eb) (hk : k < ea.length) (hk' : k < eb.length) (he : ea[k] = eb[k]) : ea.take (k + 1) <+: eb := by
  rw [List.prefix_iff_eq_take] at *
  simp only [List.length_take] at *
  rw [Nat.min_eq_left (by omega)] at *
  rw [List.take_succ_eq_append_getElem hk, List.take_succ_eq_append_getElem hk', ← h, he]
theorem pre_at (ea eb : List Ev) (h : ea <+: eb) (k : Nat) (hk : k < ea.length) (hk' : k < eb.length) : ea[k] = eb[k] := by
  obtain ⟨t, rfl⟩ := h
  simp [List.getElem_append_left hk]
theorem pre_whole (ea eb : List Ev) (k : Nat) (h : ea.take k <+: eb) (hk : ea.length ≤ k) : ea <+: eb := by
  rwa [List.take_of_length_le hk] at h
theorem keeps_no_len (x y : Mc) (h : y.events.length < x.events.length) : keepsB x y = false := by
  unfold keepsB
  rw [decide_eq_false (fun h' => by have := h'.length_le; omega)]
  rfl
theorem keeps_no_at (x y : Mc) (k : Nat) (hk : k < x.events.length) (hk' : k < y.events.length) (h : x.events[k] ≠ y.events[k]) : keepsB x y = false := by
  unfold keepsB
  rw [decide_eq_false (fun h' => h (pre_at _ _ h' k hk hk'))]
  rfl
theorem keeps_of (x y : Mc) (h : x.events <+: y.events) : keepsB x y = (!(x.state == 2) || (y.state == 2 && (x.events.length : Int) == y.events.length && x.exit_ == y.exit_ && decide (y.heaps ≤ x.heaps))) := by
  unfold keepsB
  rw [decide_eq_true h]
  rfl

set_option maxHeartbeats 400000 in
theorem own_keeps (x y : Mc) (cx cy : List Value) (w : World) (hx : mcK.K w x cx) (hy : mcK.K w y cy) :
    Calls Tryz.prog 8 #[.agg cx.toArray, .agg cy.toArray] w
     fun e w' => e = .returned (.bool (keepsB x y)) ∧ Below w.heap.size w w' := by
  obtain ⟨A0, n0, c0, A1, n1, c1, A2, n2, c2, A4, n4, c4, rfl, -, -, -, -, ⟨rfl, ha1, ha2, b, o, hA, ha⟩, -, -, -, -, -⟩ := mcK_open hx
  obtain ⟨B0, m0, d0, B1, m1, d1, B2, m2, d2, B4, m4, d4, rfl, -, -, -, -, ⟨rfl, hb1, hb2, b', o', hA', hb⟩, -, -, -, -, -⟩ := mcK_open hy
  have HA := Lib.hid ha
  have HB := Lib.hid hb
  have hax : x.events.length ≤ 9223372036854775807 := by omega
  have hay : y.events.length ≤ 9223372036854775807 := by omega
  clear ha hb hx hy ha1 ha2 hb1 hb2
  by_cases hlen : y.events.length < x.events.length
  · have KK := Lib.hid (keeps_no_len x y hlen)
    go_enter Tryz.func8, Tryz.ntmps8
    go_wp2
    go_ret
    exact ⟨by rw [KK.out]; rfl, up_alloc (up_alloc (Below.refl _ _) _) _⟩
  go_enter Tryz.func8, Tryz.ntmps8
  go_wp2
  go_loopw [17] (fun i wr => ∃ k : Nat, i = .int .i64 k ∧ k ≤ x.events.length ∧ x.events.take k <+: y.events ∧ Below w.heap.size w wr ∧ wr.heap[w.heap.size]? = some (Obj.cells #[.slice A0 n0 c0, .slice A1 n1 c1, .slice A2 n2 c2, .int .i64 x.used, .slice A4 x.events.length c4, .int .i64 x.steps, .int .i64 x.heaps, .int .u8 x.state, .int .i64 x.trap, .int .i64 x.exit_] 28 (0, 0)) ∧ wr.heap[w.heap.size + 1]? = some (Obj.cells #[.slice B0 m0 d0, .slice B1 m1 d1, .slice B2 m2 d2, .int .i64 y.used, .slice B4 y.events.length d4, .int .i64 y.steps, .int .i64 y.heaps, .int .u8 y.state, .int .i64 y.trap, .int .i64 y.exit_] 28 (0, 0))) (fun i _ => x.events.length - (intOf i).toNat)
  case atStart => exact ⟨0, rfl, by omega, by simp, up_alloc (up_alloc (Below.refl _ _) _) _, old_blk (new_blk _ _), by have := new_blk (w.alloc (Obj.cells #[.slice A0 n0 c0, .slice A1 n1 c1, .slice A2 n2 c2, .int .i64 x.used, .slice A4 x.events.length c4, .int .i64 x.steps, .int .i64 x.heaps, .int .u8 x.state, .int .i64 x.trap, .int .i64 x.exit_] 28)); rw [World.size_alloc] at this; exact this _⟩
  case round =>
    obtain ⟨k, rfl, hk, hP, hB, hx, hy⟩ := hrel
    have x4 := blk_cell hx 4
    have x6 := blk_cell hx 6
    have x7 := blk_cell hx 7
    have x9 := blk_cell hx 9
    have y4 := blk_cell hy 4
    have y6 := blk_cell hy 6
    have y7 := blk_cell hy 7
    have y9 := blk_cell hy 9
    have z1 := blk_lt hy
    have HX := Lib.hid hx
    have HY := Lib.hid hy
    clear hx hy
    simp only [List.getElem?_toArray, List.getElem?_cons_succ, List.getElem?_cons_zero] at x4 x6 x7 x9 y4 y6 y7 y9
    by_cases hlt : k < x.events.length
    · obtain rfl := hA (by omega)
      obtain ⟨g1, g2, ⟨u1, u2⟩, -⟩ := evK_at (HA.out.up_ hB) k hlt
      have hlt' : k < y.events.length := by omega
      obtain rfl := hA' (by omega)
      obtain ⟨g3, g4, ⟨u3, u4⟩, -⟩ := evK_at (HB.out.up_ hB) k hlt'
      have E := pair_neq x.events[k].kind x.events[k].n y.events[k].kind y.events[k].n
      have W1 : IntKind.i64.wrap x.events[k].kind = x.events[k].kind := IntWalk.i64_in _ (by omega)
      have W2 : IntKind.i64.wrap y.events[k].kind = y.events[k].kind := IntWalk.i64_in _ (by omega)
      have z3 : b' < wr.heap.size := World.block_lt_of_cell? _ _ g3
      clear hA hA'
      go_wp2
      go_quiet (fail)
      clear E W1 W2
      have hE : (!(x.events[k].kind == y.events[k].kind) || !(x.events[k].n == y.events[k].n)) = !decide (x.events[k] = y.events[k]) := by
        cases x.events[k]; cases y.events[k]; simp [Bool.decide_and]; rfl
      rw [hE]
      clear hE
      cases he : !decide (x.events[k] = y.events[k]) with
      | false =>
        have hP' := pre_step _ _ k hP hlt hlt' (by simpa using he)
        clear he
        go_wp2
        exact ⟨⟨k + 1, by go_num, by omega, hP', up_drewN (up_alloc hB _) _, old_blk HX.out, old_blk HY.out⟩, by simp [intOf]; omega⟩
      | true =>
        have KK := Lib.hid (keeps_no_at x y k hlt hlt' (by simpa using he))
        clear he
        go_wp2
        go_ret
        exact ⟨by rw [KK.out]; rfl, up_drewN (up_alloc hB _) _⟩
    · have KK := keeps_of x y (pre_whole _ _ k hP (by omega))
      cases hs : x.state == 2 with
      | false =>
        have hs' : (x.state != 2) = true := by simp [bne, hs]
        rw [hs] at KK
        have KK := Lib.hid KK
        go_wp2
        go_ret
        exact ⟨by rw [KK.out]; rfl, hB⟩
      | true =>
        have hs' : (x.state != 2) = false := by simp [bne, hs]
        rw [hs] at KK
        cases ht : y.state == 2 with
        | false =>
          rw [ht] at KK
          have KK := Lib.hid KK
          go_wp2
          go_ret
          exact ⟨by rw [KK.out]; rfl, hB⟩
        | true =>
          rw [ht] at KK
          cases hu : (x.events.length : Int) == y.events.length with
          | false =>
            rw [hu] at KK
            have KK := Lib.hid KK
            have hu' : (x.events.length == y.events.length) = false := by simp at hu ⊢; omega
            go_wp2
            go_ret
            exact ⟨by rw [KK.out]; rfl, hB⟩
          | true =>
            rw [hu] at KK
            have hu' : (x.events.length == y.events.length) = true := by simp at hu ⊢; omega
            cases hv : x.exit_ == y.exit_ with
            | false =>
              rw [hv] at KK
              have KK := Lib.hid KK
              go_wp2
              go_ret
              exact ⟨by rw [KK.out]; rfl, hB⟩
            | true =>
              rw [hv] at KK
              have KK := Lib.hid KK
              go_wp2
              go_ret
              exact ⟨by rw [KK.out]; rfl, hB⟩
end Go.Proofs.YtgfjlegiofhboaaGreatDoor
