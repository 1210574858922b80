/- The walk of the statement RunGoesOn: three machines of whatever kind; alive by its contract; run.Keeps by its own. -/
import Derived.Test.YtgfjlegiofhboaaGreatDoorKeeps
namespace Go.Proofs.YtgfjlegiofhboaaGreatDoor
open Go.RowKit

theorem keeps_self (x : Mc) : keepsB x x = true := by
  simp [keepsB]

theorem keeps_trans (x y z : Mc) (h1 : keepsB x y = true) (h2 : keepsB y z = true) : keepsB x z = true := by
  simp [keepsB] at *
  obtain ⟨p1, q1⟩ := h1
  obtain ⟨p2, q2⟩ := h2
  refine ⟨p1.trans p2, ?_⟩
  rcases q1 with q1 | ⟨⟨⟨a1, b1⟩, c1⟩, d1⟩
  · exact Or.inl q1
  · rcases q2 with q2 | ⟨⟨⟨a2, b2⟩, c2⟩, d2⟩
    · exact absurd a1 q2
    · exact Or.inr ⟨⟨⟨a2, by omega⟩, by omega⟩, by omega⟩

/-- The three boxes, in a later world. -/
structure Boxed (w : World) (ox oy oz : Array Value) (u : World) : Prop where
  below : Below w.heap.size w u
  bx : u.heap[w.heap.size]? = some (.cells ox 28 (0, 0))
  by_ : u.heap[w.heap.size + 1]? = some (.cells oy 28 (0, 0))
  bz : u.heap[w.heap.size + 2]? = some (.cells oz 28 (0, 0))

theorem Boxed.later {w u v : World} {ox oy oz : Array Value} (h : Boxed w ox oy oz u) (hb : Below u.heap.size u v) : Boxed w ox oy oz v := by
  have l1 : w.heap.size < u.heap.size := (Array.getElem?_eq_some_iff.1 h.bx).1
  have l2 : w.heap.size + 1 < u.heap.size := (Array.getElem?_eq_some_iff.1 h.by_).1
  have l3 : w.heap.size + 2 < u.heap.size := (Array.getElem?_eq_some_iff.1 h.bz).1
  exact ⟨up_then h.below h.below.size hb, by rw [hb.block _ l1]; exact h.bx, by rw [hb.block _ l2]; exact h.by_, by rw [hb.block _ l3]; exact h.bz⟩

theorem boxed_start (w : World) (ox oy oz : Array Value) : Boxed w ox oy oz (((w.alloc (.cells ox 28)).alloc (.cells oy 28)).alloc (.cells oz 28)) := by
  have s1 : (w.alloc (.cells ox 28)).heap.size = w.heap.size + 1 := World.size_alloc _ _
  have s2 : ((w.alloc (.cells ox 28)).alloc (.cells oy 28)).heap.size = w.heap.size + 2 := by rw [World.size_alloc, s1]
  have e1 := new_blk w (.cells ox 28)
  have e2 := new_blk (w.alloc (.cells ox 28)) (.cells oy 28)
  have e3 := new_blk ((w.alloc (.cells ox 28)).alloc (.cells oy 28)) (.cells oz 28)
  rw [s1] at e2
  rw [s2] at e3
  exact ⟨up_alloc (up_alloc (up_alloc (Below.refl _ _) _) _) _, old_blk (old_blk e1), old_blk e2, e3⟩

theorem alive_later {w : World} (halive : ∀ u : World, Below w.heap.size w u → Calls Tryz.prog 9 #[] u fun e w' => e = .returned (.bool true) ∧ Below u.heap.size u w')
    (ox oy oz : Array Value) : Calls Tryz.prog 9 #[] (((w.alloc (.cells ox 28)).alloc (.cells oy 28)).alloc (.cells oz 28)) fun e u => e = .returned (.bool true) ∧ Boxed w ox oy oz u :=
  (halive _ (boxed_start w ox oy oz).below).mono fun _ _ ⟨he, hb⟩ => ⟨he, (boxed_start w ox oy oz).later hb⟩

theorem keeps_later {w u : World} {ox oy oz : Array Value} (h : Boxed w ox oy oz u) (x y : Mc) (cx cy : List Value) (hx : mcK.K w x cx) (hy : mcK.K w y cy) :
    Calls Tryz.prog 8 #[.agg cx.toArray, .agg cy.toArray] u fun e v => e = .returned (.bool (keepsB x y)) ∧ Boxed w ox oy oz v :=
  (own_keeps x y cx cy u (mcK.up h.below hx) (mcK.up h.below hy)).mono fun _ _ ⟨he, hb⟩ => ⟨he, h.later hb⟩

/-- The ten cells of a box. -/
theorem ten {u : World} {b : Nat} {v0 v1 v2 v3 v4 v5 v6 v7 v8 v9 : Value} (h : u.heap[b]? = some (.cells #[v0, v1, v2, v3, v4, v5, v6, v7, v8, v9] 28 (0, 0))) :
    u.cell? ⟨b, 0, none⟩ = some v0 ∧ u.cell? ⟨b, 1, none⟩ = some v1 ∧ u.cell? ⟨b, 2, none⟩ = some v2 ∧ u.cell? ⟨b, 3, none⟩ = some v3 ∧ u.cell? ⟨b, 4, none⟩ = some v4 ∧ u.cell? ⟨b, 5, none⟩ = some v5 ∧ u.cell? ⟨b, 6, none⟩ = some v6 ∧ u.cell? ⟨b, 7, none⟩ = some v7 ∧ u.cell? ⟨b, 8, none⟩ = some v8 ∧ u.cell? ⟨b, 9, none⟩ = some v9 :=
  ⟨by simpa using blk_cell h 0, by simpa using blk_cell h 1, by simpa using blk_cell h 2, by simpa using blk_cell h 3, by simpa using blk_cell h 4, by simpa using blk_cell h 5, by simpa using blk_cell h 6, by simpa using blk_cell h 7, by simpa using blk_cell h 8, by simpa using blk_cell h 9⟩

theorem keeps_at {w u : World} {ox oy oz : Array Value} (h : Boxed w ox oy oz u) {x y : Mc} {cx cy : List Value} {b : Bool} (hk : keepsB x y = b) (hx : mcK.K w x cx) (hy : mcK.K w y cy) :
    Calls Tryz.prog 8 #[.agg cx.toArray, .agg cy.toArray] u fun e v => e = .returned (.bool b) ∧ Boxed w ox oy oz v := by
  subst hk; exact keeps_later h x y cx cy hx hy

set_option maxHeartbeats 1000000 in
theorem law_goesOn {w : World} (halive : ∀ u : World, Below w.heap.size w u → Calls Tryz.prog 9 #[] u fun e w' => e = .returned (.bool true) ∧ Below u.heap.size u w')
    (x y z : Mc) (cx cy cz : List Value) (hx : mcK.K w x cx) (hy : mcK.K w y cy) (hz : mcK.K w z cz) :
    Calls Tryz.prog 4 #[.agg cx.toArray, .agg cy.toArray, .agg cz.toArray] w
     fun e w' => e = .returned (.bool true) ∧ Below w.heap.size w w' := by
  obtain ⟨A0, n0, c0, A1, n1, c1, A2, n2, c2, A4, n4, c4, rfl, -⟩ := mcK_open hx
  obtain ⟨B0, m0, d0, B1, m1, d1, B2, m2, d2, B4, m4, d4, rfl, -⟩ := mcK_open hy
  obtain ⟨C0, k0, e0, C1, k1, e1, C2, k2, e2, C4, k4, e4, rfl, -⟩ := mcK_open hz
  have HX := Lib.hid hx
  have HY := Lib.hid hy
  have HZ := Lib.hid hz
  have HA := Lib.hid (alive_later halive)
  clear hx hy hz halive
  by_cases h1 : 200 < n4
  · go_enter Tryz.func4, Tryz.ntmps4
    go_wp2_with (go_at_call 9; refine (HA.out _ _ _).mono ?_; rintro e u ⟨rfl, hbx⟩; obtain ⟨hB, ex, ey, ez⟩ := hbx; clear HA; have x4 := blk_cell ex 4; have y4 := blk_cell ey 4; have z4 := blk_cell ez 4; simp only [List.getElem?_toArray, List.getElem?_cons_succ, List.getElem?_cons_zero] at x4 y4 z4)
    go_ret
    exact ⟨rfl, hB⟩
  by_cases h2 : 200 < m4
  · go_enter Tryz.func4, Tryz.ntmps4
    go_wp2_with (go_at_call 9; refine (HA.out _ _ _).mono ?_; rintro e u ⟨rfl, hbx⟩; obtain ⟨hB, ex, ey, ez⟩ := hbx; clear HA; have x4 := blk_cell ex 4; have y4 := blk_cell ey 4; have z4 := blk_cell ez 4; simp only [List.getElem?_toArray, List.getElem?_cons_succ, List.getElem?_cons_zero] at x4 y4 z4)
    go_ret
    exact ⟨rfl, hB⟩
  by_cases h3 : 200 < k4
  · go_enter Tryz.func4, Tryz.ntmps4
    go_wp2_with (go_at_call 9; refine (HA.out _ _ _).mono ?_; rintro e u ⟨rfl, hbx⟩; obtain ⟨hB, ex, ey, ez⟩ := hbx; clear HA; have x4 := blk_cell ex 4; have y4 := blk_cell ey 4; have z4 := blk_cell ez 4; simp only [List.getElem?_toArray, List.getElem?_cons_succ, List.getElem?_cons_zero] at x4 y4 z4)
    go_ret
    exact ⟨rfl, hB⟩
  have KXX := Lib.hid (keeps_self x)
  cases kxy : keepsB x y with
  | false =>
    have KXY := Lib.hid kxy
    clear kxy
    go_enter Tryz.func4, Tryz.ntmps4
    go_wp2_with (first | (go_at_call 9; refine (HA.out _ _ _).mono ?_; rintro e u ⟨rfl, hbx⟩; clear HA; have HBX := Lib.hid hbx; obtain ⟨hB, ex, ey, ez⟩ := hbx; obtain ⟨x0, x1, x2, x3, x4, x5, x6, x7, x8, x9⟩ := ten ex; obtain ⟨y0, y1, y2, y3, y4, y5, y6, y7, y8, y9⟩ := ten ey; obtain ⟨z0, z1, z2, z3, z4, z5, z6, z7, z8, z9⟩ := ten ez; clear ex ey ez) | (go_at_call 8; refine (keeps_at HBX.out KXX.out HX.out HX.out).mono ?_; clear hB x0 x1 x2 x3 x4 x5 x6 x7 x8 x9 y0 y1 y2 y3 y4 y5 y6 y7 y8 y9 z0 z1 z2 z3 z4 z5 z6 z7 z8 z9; rintro e u' ⟨rfl, hbx⟩; clear HBX KXX; have HBX := Lib.hid hbx; obtain ⟨hB, ex, ey, ez⟩ := hbx; obtain ⟨x0, x1, x2, x3, x4, x5, x6, x7, x8, x9⟩ := ten ex; obtain ⟨y0, y1, y2, y3, y4, y5, y6, y7, y8, y9⟩ := ten ey; obtain ⟨z0, z1, z2, z3, z4, z5, z6, z7, z8, z9⟩ := ten ez; clear ex ey ez) | (go_at_call 8; refine (keeps_at HBX.out KXY.out HX.out HY.out).mono ?_; clear hB x0 x1 x2 x3 x4 x5 x6 x7 x8 x9 y0 y1 y2 y3 y4 y5 y6 y7 y8 y9 z0 z1 z2 z3 z4 z5 z6 z7 z8 z9; rintro e u' ⟨rfl, hbx⟩; clear HBX KXY; have HBX := Lib.hid hbx; obtain ⟨hB, ex, ey, ez⟩ := hbx; obtain ⟨x0, x1, x2, x3, x4, x5, x6, x7, x8, x9⟩ := ten ex; obtain ⟨y0, y1, y2, y3, y4, y5, y6, y7, y8, y9⟩ := ten ey; obtain ⟨z0, z1, z2, z3, z4, z5, z6, z7, z8, z9⟩ := ten ez; clear ex ey ez))
    go_ret
    exact ⟨rfl, hB⟩
  | true =>
    cases kyz : keepsB y z with
    | false =>
      have KXY := Lib.hid kxy
      have KYZ := Lib.hid kyz
      clear kxy kyz
      go_enter Tryz.func4, Tryz.ntmps4
      go_wp2_with (first | (go_at_call 9; refine (HA.out _ _ _).mono ?_; rintro e u ⟨rfl, hbx⟩; clear HA; have HBX := Lib.hid hbx; obtain ⟨hB, ex, ey, ez⟩ := hbx; obtain ⟨x0, x1, x2, x3, x4, x5, x6, x7, x8, x9⟩ := ten ex; obtain ⟨y0, y1, y2, y3, y4, y5, y6, y7, y8, y9⟩ := ten ey; obtain ⟨z0, z1, z2, z3, z4, z5, z6, z7, z8, z9⟩ := ten ez; clear ex ey ez) | (go_at_call 8; refine (keeps_at HBX.out KXX.out HX.out HX.out).mono ?_; clear hB x0 x1 x2 x3 x4 x5 x6 x7 x8 x9 y0 y1 y2 y3 y4 y5 y6 y7 y8 y9 z0 z1 z2 z3 z4 z5 z6 z7 z8 z9; rintro e u' ⟨rfl, hbx⟩; clear HBX KXX; have HBX := Lib.hid hbx; obtain ⟨hB, ex, ey, ez⟩ := hbx; obtain ⟨x0, x1, x2, x3, x4, x5, x6, x7, x8, x9⟩ := ten ex; obtain ⟨y0, y1, y2, y3, y4, y5, y6, y7, y8, y9⟩ := ten ey; obtain ⟨z0, z1, z2, z3, z4, z5, z6, z7, z8, z9⟩ := ten ez; clear ex ey ez) | (go_at_call 8; refine (keeps_at HBX.out KXY.out HX.out HY.out).mono ?_; clear hB x0 x1 x2 x3 x4 x5 x6 x7 x8 x9 y0 y1 y2 y3 y4 y5 y6 y7 y8 y9 z0 z1 z2 z3 z4 z5 z6 z7 z8 z9; rintro e u' ⟨rfl, hbx⟩; clear HBX KXY; have HBX := Lib.hid hbx; obtain ⟨hB, ex, ey, ez⟩ := hbx; obtain ⟨x0, x1, x2, x3, x4, x5, x6, x7, x8, x9⟩ := ten ex; obtain ⟨y0, y1, y2, y3, y4, y5, y6, y7, y8, y9⟩ := ten ey; obtain ⟨z0, z1, z2, z3, z4, z5, z6, z7, z8, z9⟩ := ten ez; clear ex ey ez) | (go_at_call 8; refine (keeps_at HBX.out KYZ.out HY.out HZ.out).mono ?_; clear hB x0 x1 x2 x3 x4 x5 x6 x7 x8 x9 y0 y1 y2 y3 y4 y5 y6 y7 y8 y9 z0 z1 z2 z3 z4 z5 z6 z7 z8 z9; rintro e u' ⟨rfl, hbx⟩; clear HBX KYZ; have HBX := Lib.hid hbx; obtain ⟨hB, ex, ey, ez⟩ := hbx; obtain ⟨x0, x1, x2, x3, x4, x5, x6, x7, x8, x9⟩ := ten ex; obtain ⟨y0, y1, y2, y3, y4, y5, y6, y7, y8, y9⟩ := ten ey; obtain ⟨z0, z1, z2, z3, z4, z5, z6, z7, z8, z9⟩ := ten ez; clear ex ey ez))
      go_ret
      exact ⟨rfl, hB⟩
    | true =>
      have KXY := Lib.hid kxy
      have KYZ := Lib.hid kyz
      have KXZ := Lib.hid (keeps_trans x y z kxy kyz)
      clear kxy kyz
      go_enter Tryz.func4, Tryz.ntmps4
      go_wp2_with (first | (go_at_call 9; refine (HA.out _ _ _).mono ?_; rintro e u ⟨rfl, hbx⟩; clear HA; have HBX := Lib.hid hbx; obtain ⟨hB, ex, ey, ez⟩ := hbx; obtain ⟨x0, x1, x2, x3, x4, x5, x6, x7, x8, x9⟩ := ten ex; obtain ⟨y0, y1, y2, y3, y4, y5, y6, y7, y8, y9⟩ := ten ey; obtain ⟨z0, z1, z2, z3, z4, z5, z6, z7, z8, z9⟩ := ten ez; clear ex ey ez) | (go_at_call 8; refine (keeps_at HBX.out KXX.out HX.out HX.out).mono ?_; clear hB x0 x1 x2 x3 x4 x5 x6 x7 x8 x9 y0 y1 y2 y3 y4 y5 y6 y7 y8 y9 z0 z1 z2 z3 z4 z5 z6 z7 z8 z9; rintro e u' ⟨rfl, hbx⟩; clear HBX KXX; have HBX := Lib.hid hbx; obtain ⟨hB, ex, ey, ez⟩ := hbx; obtain ⟨x0, x1, x2, x3, x4, x5, x6, x7, x8, x9⟩ := ten ex; obtain ⟨y0, y1, y2, y3, y4, y5, y6, y7, y8, y9⟩ := ten ey; obtain ⟨z0, z1, z2, z3, z4, z5, z6, z7, z8, z9⟩ := ten ez; clear ex ey ez) | (go_at_call 8; refine (keeps_at HBX.out KXY.out HX.out HY.out).mono ?_; clear hB x0 x1 x2 x3 x4 x5 x6 x7 x8 x9 y0 y1 y2 y3 y4 y5 y6 y7 y8 y9 z0 z1 z2 z3 z4 z5 z6 z7 z8 z9; rintro e u' ⟨rfl, hbx⟩; clear HBX KXY; have HBX := Lib.hid hbx; obtain ⟨hB, ex, ey, ez⟩ := hbx; obtain ⟨x0, x1, x2, x3, x4, x5, x6, x7, x8, x9⟩ := ten ex; obtain ⟨y0, y1, y2, y3, y4, y5, y6, y7, y8, y9⟩ := ten ey; obtain ⟨z0, z1, z2, z3, z4, z5, z6, z7, z8, z9⟩ := ten ez; clear ex ey ez) | (go_at_call 8; refine (keeps_at HBX.out KYZ.out HY.out HZ.out).mono ?_; clear hB x0 x1 x2 x3 x4 x5 x6 x7 x8 x9 y0 y1 y2 y3 y4 y5 y6 y7 y8 y9 z0 z1 z2 z3 z4 z5 z6 z7 z8 z9; rintro e u' ⟨rfl, hbx⟩; clear HBX KYZ; have HBX := Lib.hid hbx; obtain ⟨hB, ex, ey, ez⟩ := hbx; obtain ⟨x0, x1, x2, x3, x4, x5, x6, x7, x8, x9⟩ := ten ex; obtain ⟨y0, y1, y2, y3, y4, y5, y6, y7, y8, y9⟩ := ten ey; obtain ⟨z0, z1, z2, z3, z4, z5, z6, z7, z8, z9⟩ := ten ez; clear ex ey ez) | (go_at_call 8; refine (keeps_at HBX.out KXZ.out HX.out HZ.out).mono ?_; clear hB x0 x1 x2 x3 x4 x5 x6 x7 x8 x9 y0 y1 y2 y3 y4 y5 y6 y7 y8 y9 z0 z1 z2 z3 z4 z5 z6 z7 z8 z9; rintro e u' ⟨rfl, hbx⟩; clear HBX KXZ; have HBX := Lib.hid hbx; obtain ⟨hB, ex, ey, ez⟩ := hbx; obtain ⟨x0, x1, x2, x3, x4, x5, x6, x7, x8, x9⟩ := ten ex; obtain ⟨y0, y1, y2, y3, y4, y5, y6, y7, y8, y9⟩ := ten ey; obtain ⟨z0, z1, z2, z3, z4, z5, z6, z7, z8, z9⟩ := ten ez; clear ex ey ez))
      go_ret
      exact ⟨rfl, hB⟩
end Go.Proofs.YtgfjlegiofhboaaGreatDoor
