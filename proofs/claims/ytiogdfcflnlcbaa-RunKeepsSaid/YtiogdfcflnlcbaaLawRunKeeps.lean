/- The walk of the statement RunKeeps: it answers true, and leaves what was there as it was; two machines of whatever kind. -/
import Derived.Test.YtiogdfcflnlcbaaKeeps
namespace Go.Proofs.Ytiogdfcflnlcbaa
open Go.RowKit

set_option maxHeartbeats 400000 in
theorem law_keeps (x y : Mc) (cx cy : List Value) (w : World) (hx : mcK.K w x cx) (hy : mcK.K w y cy) :
    Calls Try.prog 3 #[.agg cx.toArray, .agg cy.toArray] w
     fun e w' => e = .returned (.bool true) ∧ Below w.heap.size w w' := by
  obtain ⟨A0, n0, c0, A1, n1, c1, A2, n2, c2, A4, n4, c4, rfl, -⟩ := mcK_open hx
  obtain ⟨B0, m0, d0, B1, m1, d1, B2, m2, d2, B4, m4, d4, rfl, -⟩ := mcK_open hy
  by_cases h1 : 200 < n4
  · go_enter Try.func3, Try.ntmps3
    go_wp2
    go_ret
    exact ⟨rfl, up_alloc (up_alloc (Below.refl _ _) _) _⟩
  by_cases h2 : 200 < m4
  · go_enter Try.func3, Try.ntmps3
    go_wp2
    go_ret
    exact ⟨rfl, up_alloc (up_alloc (Below.refl _ _) _) _⟩
  have HX := Lib.hid hx
  have HY := Lib.hid hy
  clear hx hy
  go_enter Try.func3, Try.ntmps3
  go_wp2_with fail
  generalize hW1 : w.alloc (Obj.cells #[.slice A0 n0 c0, .slice A1 n1 c1, .slice A2 n2 c2, .int .i64 x.used, .slice A4 n4 c4, .int .i64 x.steps, .int .i64 x.heaps, .int .u8 x.state, .int .i64 x.trap, .int .i64 x.exit_] 28) = W1
  generalize hW : W1.alloc (Obj.cells #[.slice B0 m0 d0, .slice B1 m1 d1, .slice B2 m2 d2, .int .i64 y.used, .slice B4 m4 d4, .int .i64 y.steps, .int .i64 y.heaps, .int .u8 y.state, .int .i64 y.trap, .int .i64 y.exit_] 28) = W
  have hz : W1.heap.size = w.heap.size + 1 := by rw [← hW1]; exact World.size_alloc _ _
  have b1 := new_blk w (Obj.cells #[.slice A0 n0 c0, .slice A1 n1 c1, .slice A2 n2 c2, .int .i64 x.used, .slice A4 n4 c4, .int .i64 x.steps, .int .i64 x.heaps, .int .u8 x.state, .int .i64 x.trap, .int .i64 x.exit_] 28 (0, 0))
  have b2 := new_blk W1 (Obj.cells #[.slice B0 m0 d0, .slice B1 m1 d1, .slice B2 m2 d2, .int .i64 y.used, .slice B4 m4 d4, .int .i64 y.steps, .int .i64 y.heaps, .int .u8 y.state, .int .i64 y.trap, .int .i64 y.exit_] 28 (0, 0))
  rw [hW1] at b1
  have b1 := old_blk (o := Obj.cells #[.slice B0 m0 d0, .slice B1 m1 d1, .slice B2 m2 d2, .int .i64 y.used, .slice B4 m4 d4, .int .i64 y.steps, .int .i64 y.heaps, .int .u8 y.state, .int .i64 y.trap, .int .i64 y.exit_] 28 (0, 0)) b1
  rw [hW] at b1 b2
  rw [hz] at b2
  have hB : Below w.heap.size w W := by rw [← hW, ← hW1]; exact up_alloc (up_alloc (Below.refl _ _) _) _
  clear hW hz hW1
  have kx : ∀ u, Below W.heap.size W u → mcK.K u x _ := fun u hu => mcK.up (up_then hB hB.size hu) HX.out
  have ky : ∀ u, Below W.heap.size W u → mcK.K u y _ := fun u hu => mcK.up (up_then hB hB.size hu) HY.out
  have KX := Lib.hid kx
  have KY := Lib.hid ky
  clear kx ky
  refine region_calm (by kernel_rfl) (by kernel_rfl) ?_
  refine calm_load rfl _ _ rfl b1 rfl Try.underlying28 rfl (by kernel_rfl) ?_
  refine calm_load rfl _ _ rfl b2 rfl Try.underlying28 rfl (by kernel_rfl) ?_
  simp only [Act.put, List.setIfInBounds_toArray, List.set_cons_zero, List.set_cons_succ]
  go_big_quiet_step ((intro hu; go_at_call 4; exact calm_of hu (own_keeps x y _ _ _ (KX.out _ hu) (KY.out _ hu))))
  refine calm_load rfl _ _ rfl b1 rfl Try.underlying28 rfl (by kernel_rfl) ?_
  refine calm_load rfl _ _ rfl b2 rfl Try.underlying28 rfl (by kernel_rfl) ?_
  simp only [Act.put, List.setIfInBounds_toArray, List.set_cons_zero, List.set_cons_succ]
  go_big_quiet_step ((intro hu; go_at_call 5; exact calm_of hu (ref_keeps x y _ _ _ (KX.out _ hu) (KY.out _ hu))))
  refine calm_pure rfl (.bool true) (fun _ => by go_simp) ?_
  simp only [Act.put, List.setIfInBounds_toArray, List.set_cons_zero, List.set_cons_succ]
  repeat (go_big_quiet_step (fail))
  refine wpQuiet_nil ?_
  intro wn hwn
  go_wp2
  go_ret
  exact ⟨by simp, up_then hB hB.size hwn⟩
end Go.Proofs.Ytiogdfcflnlcbaa
