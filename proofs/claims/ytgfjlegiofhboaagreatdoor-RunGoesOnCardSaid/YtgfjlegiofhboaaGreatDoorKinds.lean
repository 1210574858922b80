/- Kinds: how the program's structs lie in cells, and that arguments which can be read as data are of these kinds. No statement of the seat is proved here. -/
import Derived.Test.YtgfjlegiofhboaaGreatDoorRows
import Derived.Test.YtgfjlegiofhboaaGreatDoorBase
namespace Go.Proofs.YtgfjlegiofhboaaGreatDoor
open Go.RowKit Go.ChangeShapes Go.WideShapes
set_option linter.unusedVariables false
set_option maxRecDepth 100000 in
theorem opens_int : Opens Tryz.prog 3 (Kd.num .i64 I64) := opens_i64 Tryz.underlying3 (by kernel_rfl)
/-! #### api.Val -/
structure Vl where
  kind : Int
  n : Int
  block : Int
  at_ : Int
  deriving DecidableEq
def vlK : Kd Vl := Kd.iso (Kd.pair (Kd.num .u8 U8) (Kd.pair (Kd.num .i64 I64) (Kd.pair (Kd.num .i64 I64) (Kd.num .i64 I64)))) (fun x => (x.kind, x.n, x.block, x.at_))
theorem vlK_open {w : World} {x : Vl} {cs : List Value} (h : vlK.K w x cs) : cs = [.int .u8 x.kind, .int .i64 x.n, .int .i64 x.block, .int .i64 x.at_] ∧ U8 x.kind ∧ I64 x.n ∧ I64 x.block ∧ I64 x.at_ := by
  obtain ⟨_, _, rfl, ⟨rfl, s0⟩, ⟨_, _, rfl, ⟨rfl, s1⟩, ⟨_, _, rfl, ⟨rfl, s2⟩, ⟨rfl, s3⟩⟩⟩⟩ := h
  exact ⟨rfl, s0, s1, s2, s3⟩
theorem vlK_mk {w : World} {x : Vl} (s0 : U8 x.kind) (s1 : I64 x.n) (s2 : I64 x.block) (s3 : I64 x.at_) : vlK.K w x [.int .u8 x.kind, .int .i64 x.n, .int .i64 x.block, .int .i64 x.at_] := ⟨_, _, rfl, ⟨rfl, s0⟩, ⟨_, _, rfl, ⟨rfl, s1⟩, ⟨_, _, rfl, ⟨rfl, s2⟩, ⟨rfl, s3⟩⟩⟩⟩
theorem vlK_at {w : World} {b o : Nat} {xs : List Vl} (h : vlK.At w b o xs) (i : Nat) (hi : i < xs.length) : w.cell? ⟨b, o + i * 4, none⟩ = some (.int .u8 xs[i].kind) ∧ w.cell? ⟨b, o + i * 4 + 1, none⟩ = some (.int .i64 xs[i].n) ∧ w.cell? ⟨b, o + i * 4 + 2, none⟩ = some (.int .i64 xs[i].block) ∧ w.cell? ⟨b, o + i * 4 + 3, none⟩ = some (.int .i64 xs[i].at_) ∧ U8 xs[i].kind ∧ I64 xs[i].n ∧ I64 xs[i].block ∧ I64 xs[i].at_ := by
  obtain ⟨cs, hk, hc⟩ := h i hi
  obtain ⟨rfl, s0, s1, s2, s3⟩ := vlK_open hk
  exact ⟨hc 0 _ rfl, hc 1 _ rfl, hc 2 _ rfl, hc 3 _ rfl, s0, s1, s2, s3⟩
set_option maxRecDepth 100000 in
theorem opens_Vl : Opens Tryz.prog 70 vlK := opens_struct (fun p => ⟨p.1, p.2.1, p.2.2.1, p.2.2.2⟩) _ (fun _ => rfl) Tryz.underlying70 (by kernel_rfl) (opensAt_more (by rfl) (opens_u8 Tryz.underlying5 (by kernel_rfl)) (opensAt_more (by rfl) (opens_i64 Tryz.underlying2 (by kernel_rfl)) (opensAt_more (by rfl) (opens_i64 Tryz.underlying3 (by kernel_rfl)) (opensAt_one (by rfl) (opens_i64 Tryz.underlying3 (by kernel_rfl))))))
/-! #### api.Blk -/
structure Mb where
  site : Int
  type : Int
  depth : Int
  alive : Bool
  cells : (List Vl)
  deriving DecidableEq
def mbK : Kd Mb := Kd.iso (Kd.pair (Kd.num .i64 I64) (Kd.pair (Kd.num .i64 I64) (Kd.pair (Kd.num .i64 I64) (Kd.pair Kd.bool (Kd.slice vlK))))) (fun x => (x.site, x.type, x.depth, x.alive, x.cells))
theorem mbK_open {w : World} {x : Mb} {cs : List Value} (h : mbK.K w x cs) : ∃ A4 n4 c4, cs = [.int .i64 x.site, .int .i64 x.type, .int .i64 x.depth, .bool x.alive, .slice A4 n4 c4] ∧ I64 x.site ∧ I64 x.type ∧ I64 x.depth ∧ vlK.Sl w A4 n4 c4 x.cells := by
  obtain ⟨_, _, rfl, ⟨rfl, s0⟩, ⟨_, _, rfl, ⟨rfl, s1⟩, ⟨_, _, rfl, ⟨rfl, s2⟩, ⟨_, _, rfl, rfl, ⟨A4, n4, c4, rfl, s4⟩⟩⟩⟩⟩ := h
  exact ⟨A4, n4, c4, rfl, s0, s1, s2, s4⟩
theorem mbK_mk {w : World} {x : Mb} (s0 : I64 x.site) (s1 : I64 x.type) (s2 : I64 x.depth) {A4 : Option Addr} {n4 c4 : Nat} (s4 : vlK.Sl w A4 n4 c4 x.cells) : mbK.K w x [.int .i64 x.site, .int .i64 x.type, .int .i64 x.depth, .bool x.alive, .slice A4 n4 c4] := ⟨_, _, rfl, ⟨rfl, s0⟩, ⟨_, _, rfl, ⟨rfl, s1⟩, ⟨_, _, rfl, ⟨rfl, s2⟩, ⟨_, _, rfl, rfl, ⟨_, _, _, rfl, s4⟩⟩⟩⟩⟩
theorem mbK_at {w : World} {b o : Nat} {xs : List Mb} (h : mbK.At w b o xs) (i : Nat) (hi : i < xs.length) : ∃ A4 n4 c4, w.cell? ⟨b, o + i * 5, none⟩ = some (.int .i64 xs[i].site) ∧ w.cell? ⟨b, o + i * 5 + 1, none⟩ = some (.int .i64 xs[i].type) ∧ w.cell? ⟨b, o + i * 5 + 2, none⟩ = some (.int .i64 xs[i].depth) ∧ w.cell? ⟨b, o + i * 5 + 3, none⟩ = some (.bool xs[i].alive) ∧ w.cell? ⟨b, o + i * 5 + 4, none⟩ = some (.slice A4 n4 c4) ∧ I64 xs[i].site ∧ I64 xs[i].type ∧ I64 xs[i].depth ∧ vlK.Sl w A4 n4 c4 xs[i].cells := by
  obtain ⟨cs, hk, hc⟩ := h i hi
  obtain ⟨A4, n4, c4, rfl, s0, s1, s2, s4⟩ := mbK_open hk
  exact ⟨A4, n4, c4, hc 0 _ rfl, hc 1 _ rfl, hc 2 _ rfl, hc 3 _ rfl, hc 4 _ rfl, s0, s1, s2, s4⟩
set_option maxRecDepth 100000 in
theorem opens_Mb : Opens Tryz.prog 96 mbK := opens_struct (fun p => ⟨p.1, p.2.1, p.2.2.1, p.2.2.2.1, p.2.2.2.2⟩) _ (fun _ => rfl) Tryz.underlying96 (by kernel_rfl) (opensAt_more (by rfl) (opens_i64 Tryz.underlying3 (by kernel_rfl)) (opensAt_more (by rfl) (opens_i64 Tryz.underlying3 (by kernel_rfl)) (opensAt_more (by rfl) (opens_i64 Tryz.underlying3 (by kernel_rfl)) (opensAt_more (by rfl) (opens_bool Tryz.underlying4 (by kernel_rfl)) (opensAt_one (by rfl) (opens_slice Tryz.underlying65 (by kernel_rfl) opens_Vl))))))
/-! #### api.Frame -/
structure Fr where
  fn : Int
  block : Int
  at_ : Int
  regs : (List Vl)
  into : Int
  deriving DecidableEq
def frK : Kd Fr := Kd.iso (Kd.pair (Kd.num .i64 I64) (Kd.pair (Kd.num .i64 I64) (Kd.pair (Kd.num .i64 I64) (Kd.pair (Kd.slice vlK) (Kd.num .i64 I64))))) (fun x => (x.fn, x.block, x.at_, x.regs, x.into))
theorem frK_open {w : World} {x : Fr} {cs : List Value} (h : frK.K w x cs) : ∃ A3 n3 c3, cs = [.int .i64 x.fn, .int .i64 x.block, .int .i64 x.at_, .slice A3 n3 c3, .int .i64 x.into] ∧ I64 x.fn ∧ I64 x.block ∧ I64 x.at_ ∧ vlK.Sl w A3 n3 c3 x.regs ∧ I64 x.into := by
  obtain ⟨_, _, rfl, ⟨rfl, s0⟩, ⟨_, _, rfl, ⟨rfl, s1⟩, ⟨_, _, rfl, ⟨rfl, s2⟩, ⟨_, _, rfl, ⟨A3, n3, c3, rfl, s3⟩, ⟨rfl, s4⟩⟩⟩⟩⟩ := h
  exact ⟨A3, n3, c3, rfl, s0, s1, s2, s3, s4⟩
theorem frK_mk {w : World} {x : Fr} (s0 : I64 x.fn) (s1 : I64 x.block) (s2 : I64 x.at_) {A3 : Option Addr} {n3 c3 : Nat} (s3 : vlK.Sl w A3 n3 c3 x.regs) (s4 : I64 x.into) : frK.K w x [.int .i64 x.fn, .int .i64 x.block, .int .i64 x.at_, .slice A3 n3 c3, .int .i64 x.into] := ⟨_, _, rfl, ⟨rfl, s0⟩, ⟨_, _, rfl, ⟨rfl, s1⟩, ⟨_, _, rfl, ⟨rfl, s2⟩, ⟨_, _, rfl, ⟨_, _, _, rfl, s3⟩, ⟨rfl, s4⟩⟩⟩⟩⟩
theorem frK_at {w : World} {b o : Nat} {xs : List Fr} (h : frK.At w b o xs) (i : Nat) (hi : i < xs.length) : ∃ A3 n3 c3, w.cell? ⟨b, o + i * 5, none⟩ = some (.int .i64 xs[i].fn) ∧ w.cell? ⟨b, o + i * 5 + 1, none⟩ = some (.int .i64 xs[i].block) ∧ w.cell? ⟨b, o + i * 5 + 2, none⟩ = some (.int .i64 xs[i].at_) ∧ w.cell? ⟨b, o + i * 5 + 3, none⟩ = some (.slice A3 n3 c3) ∧ w.cell? ⟨b, o + i * 5 + 4, none⟩ = some (.int .i64 xs[i].into) ∧ I64 xs[i].fn ∧ I64 xs[i].block ∧ I64 xs[i].at_ ∧ vlK.Sl w A3 n3 c3 xs[i].regs ∧ I64 xs[i].into := by
  obtain ⟨cs, hk, hc⟩ := h i hi
  obtain ⟨A3, n3, c3, rfl, s0, s1, s2, s3, s4⟩ := frK_open hk
  exact ⟨A3, n3, c3, hc 0 _ rfl, hc 1 _ rfl, hc 2 _ rfl, hc 3 _ rfl, hc 4 _ rfl, s0, s1, s2, s3, s4⟩
set_option maxRecDepth 100000 in
theorem opens_Fr : Opens Tryz.prog 67 frK := opens_struct (fun p => ⟨p.1, p.2.1, p.2.2.1, p.2.2.2.1, p.2.2.2.2⟩) _ (fun _ => rfl) Tryz.underlying67 (by kernel_rfl) (opensAt_more (by rfl) (opens_i64 Tryz.underlying3 (by kernel_rfl)) (opensAt_more (by rfl) (opens_i64 Tryz.underlying3 (by kernel_rfl)) (opensAt_more (by rfl) (opens_i64 Tryz.underlying3 (by kernel_rfl)) (opensAt_more (by rfl) (opens_slice Tryz.underlying65 (by kernel_rfl) opens_Vl) (opensAt_one (by rfl) (opens_i64 Tryz.underlying3 (by kernel_rfl)))))))
/-! #### api.Event -/
structure Ev where
  kind : Int
  n : Int
  deriving DecidableEq
def evK : Kd Ev := Kd.iso (Kd.pair (Kd.num .u8 U8) (Kd.num .i64 I64)) (fun x => (x.kind, x.n))
theorem evK_open {w : World} {x : Ev} {cs : List Value} (h : evK.K w x cs) : cs = [.int .u8 x.kind, .int .i64 x.n] ∧ U8 x.kind ∧ I64 x.n := by
  obtain ⟨_, _, rfl, ⟨rfl, s0⟩, ⟨rfl, s1⟩⟩ := h
  exact ⟨rfl, s0, s1⟩
theorem evK_mk {w : World} {x : Ev} (s0 : U8 x.kind) (s1 : I64 x.n) : evK.K w x [.int .u8 x.kind, .int .i64 x.n] := ⟨_, _, rfl, ⟨rfl, s0⟩, ⟨rfl, s1⟩⟩
theorem evK_at {w : World} {b o : Nat} {xs : List Ev} (h : evK.At w b o xs) (i : Nat) (hi : i < xs.length) : w.cell? ⟨b, o + i * 2, none⟩ = some (.int .u8 xs[i].kind) ∧ w.cell? ⟨b, o + i * 2 + 1, none⟩ = some (.int .i64 xs[i].n) ∧ U8 xs[i].kind ∧ I64 xs[i].n := by
  obtain ⟨cs, hk, hc⟩ := h i hi
  obtain ⟨rfl, s0, s1⟩ := evK_open hk
  exact ⟨hc 0 _ rfl, hc 1 _ rfl, s0, s1⟩
set_option maxRecDepth 100000 in
theorem opens_Ev : Opens Tryz.prog 40 evK := opens_struct (fun p => ⟨p.1, p.2⟩) _ (fun _ => rfl) Tryz.underlying40 (by kernel_rfl) (opensAt_more (by rfl) (opens_u8 Tryz.underlying5 (by kernel_rfl)) (opensAt_one (by rfl) (opens_i64 Tryz.underlying2 (by kernel_rfl))))
/-! #### api.Mach -/
structure Mc where
  mem : (List Mb)
  frames : (List Fr)
  inp : (List Int)
  used : Int
  events : (List Ev)
  steps : Int
  heaps : Int
  state : Int
  trap : Int
  exit_ : Int
  deriving DecidableEq
def mcK : Kd Mc := Kd.iso (Kd.pair (Kd.slice mbK) (Kd.pair (Kd.slice frK) (Kd.pair (Kd.slice (Kd.num .i64 I64)) (Kd.pair (Kd.num .i64 I64) (Kd.pair (Kd.slice evK) (Kd.pair (Kd.num .i64 I64) (Kd.pair (Kd.num .i64 I64) (Kd.pair (Kd.num .u8 U8) (Kd.pair (Kd.num .i64 I64) (Kd.num .i64 I64)))))))))) (fun x => (x.mem, x.frames, x.inp, x.used, x.events, x.steps, x.heaps, x.state, x.trap, x.exit_))
theorem mcK_open {w : World} {x : Mc} {cs : List Value} (h : mcK.K w x cs) : ∃ A0 n0 c0 A1 n1 c1 A2 n2 c2 A4 n4 c4, cs = [.slice A0 n0 c0, .slice A1 n1 c1, .slice A2 n2 c2, .int .i64 x.used, .slice A4 n4 c4, .int .i64 x.steps, .int .i64 x.heaps, .int .u8 x.state, .int .i64 x.trap, .int .i64 x.exit_] ∧ mbK.Sl w A0 n0 c0 x.mem ∧ frK.Sl w A1 n1 c1 x.frames ∧ (Kd.num .i64 I64).Sl w A2 n2 c2 x.inp ∧ I64 x.used ∧ evK.Sl w A4 n4 c4 x.events ∧ I64 x.steps ∧ I64 x.heaps ∧ U8 x.state ∧ I64 x.trap ∧ I64 x.exit_ := by
  obtain ⟨_, _, rfl, ⟨A0, n0, c0, rfl, s0⟩, ⟨_, _, rfl, ⟨A1, n1, c1, rfl, s1⟩, ⟨_, _, rfl, ⟨A2, n2, c2, rfl, s2⟩, ⟨_, _, rfl, ⟨rfl, s3⟩, ⟨_, _, rfl, ⟨A4, n4, c4, rfl, s4⟩, ⟨_, _, rfl, ⟨rfl, s5⟩, ⟨_, _, rfl, ⟨rfl, s6⟩, ⟨_, _, rfl, ⟨rfl, s7⟩, ⟨_, _, rfl, ⟨rfl, s8⟩, ⟨rfl, s9⟩⟩⟩⟩⟩⟩⟩⟩⟩⟩ := h
  exact ⟨A0, n0, c0, A1, n1, c1, A2, n2, c2, A4, n4, c4, rfl, s0, s1, s2, s3, s4, s5, s6, s7, s8, s9⟩
theorem mcK_mk {w : World} {x : Mc} {A0 : Option Addr} {n0 c0 : Nat} (s0 : mbK.Sl w A0 n0 c0 x.mem) {A1 : Option Addr} {n1 c1 : Nat} (s1 : frK.Sl w A1 n1 c1 x.frames) {A2 : Option Addr} {n2 c2 : Nat} (s2 : (Kd.num .i64 I64).Sl w A2 n2 c2 x.inp) (s3 : I64 x.used) {A4 : Option Addr} {n4 c4 : Nat} (s4 : evK.Sl w A4 n4 c4 x.events) (s5 : I64 x.steps) (s6 : I64 x.heaps) (s7 : U8 x.state) (s8 : I64 x.trap) (s9 : I64 x.exit_) : mcK.K w x [.slice A0 n0 c0, .slice A1 n1 c1, .slice A2 n2 c2, .int .i64 x.used, .slice A4 n4 c4, .int .i64 x.steps, .int .i64 x.heaps, .int .u8 x.state, .int .i64 x.trap, .int .i64 x.exit_] := ⟨_, _, rfl, ⟨_, _, _, rfl, s0⟩, ⟨_, _, rfl, ⟨_, _, _, rfl, s1⟩, ⟨_, _, rfl, ⟨_, _, _, rfl, s2⟩, ⟨_, _, rfl, ⟨rfl, s3⟩, ⟨_, _, rfl, ⟨_, _, _, rfl, s4⟩, ⟨_, _, rfl, ⟨rfl, s5⟩, ⟨_, _, rfl, ⟨rfl, s6⟩, ⟨_, _, rfl, ⟨rfl, s7⟩, ⟨_, _, rfl, ⟨rfl, s8⟩, ⟨rfl, s9⟩⟩⟩⟩⟩⟩⟩⟩⟩⟩
theorem mcK_at {w : World} {b o : Nat} {xs : List Mc} (h : mcK.At w b o xs) (i : Nat) (hi : i < xs.length) : ∃ A0 n0 c0 A1 n1 c1 A2 n2 c2 A4 n4 c4, w.cell? ⟨b, o + i * 10, none⟩ = some (.slice A0 n0 c0) ∧ w.cell? ⟨b, o + i * 10 + 1, none⟩ = some (.slice A1 n1 c1) ∧ w.cell? ⟨b, o + i * 10 + 2, none⟩ = some (.slice A2 n2 c2) ∧ w.cell? ⟨b, o + i * 10 + 3, none⟩ = some (.int .i64 xs[i].used) ∧ w.cell? ⟨b, o + i * 10 + 4, none⟩ = some (.slice A4 n4 c4) ∧ w.cell? ⟨b, o + i * 10 + 5, none⟩ = some (.int .i64 xs[i].steps) ∧ w.cell? ⟨b, o + i * 10 + 6, none⟩ = some (.int .i64 xs[i].heaps) ∧ w.cell? ⟨b, o + i * 10 + 7, none⟩ = some (.int .u8 xs[i].state) ∧ w.cell? ⟨b, o + i * 10 + 8, none⟩ = some (.int .i64 xs[i].trap) ∧ w.cell? ⟨b, o + i * 10 + 9, none⟩ = some (.int .i64 xs[i].exit_) ∧ mbK.Sl w A0 n0 c0 xs[i].mem ∧ frK.Sl w A1 n1 c1 xs[i].frames ∧ (Kd.num .i64 I64).Sl w A2 n2 c2 xs[i].inp ∧ I64 xs[i].used ∧ evK.Sl w A4 n4 c4 xs[i].events ∧ I64 xs[i].steps ∧ I64 xs[i].heaps ∧ U8 xs[i].state ∧ I64 xs[i].trap ∧ I64 xs[i].exit_ := by
  obtain ⟨cs, hk, hc⟩ := h i hi
  obtain ⟨A0, n0, c0, A1, n1, c1, A2, n2, c2, A4, n4, c4, rfl, s0, s1, s2, s3, s4, s5, s6, s7, s8, s9⟩ := mcK_open hk
  exact ⟨A0, n0, c0, A1, n1, c1, A2, n2, c2, A4, n4, c4, hc 0 _ rfl, hc 1 _ rfl, hc 2 _ rfl, hc 3 _ rfl, hc 4 _ rfl, hc 5 _ rfl, hc 6 _ rfl, hc 7 _ rfl, hc 8 _ rfl, hc 9 _ rfl, s0, s1, s2, s3, s4, s5, s6, s7, s8, s9⟩
set_option maxRecDepth 100000 in
theorem opens_Mc : Opens Tryz.prog 28 mcK := opens_struct (fun p => ⟨p.1, p.2.1, p.2.2.1, p.2.2.2.1, p.2.2.2.2.1, p.2.2.2.2.2.1, p.2.2.2.2.2.2.1, p.2.2.2.2.2.2.2.1, p.2.2.2.2.2.2.2.2.1, p.2.2.2.2.2.2.2.2.2⟩) _ (fun _ => rfl) Tryz.underlying28 (by kernel_rfl) (opensAt_more (by rfl) (opens_slice Tryz.underlying22 (by kernel_rfl) opens_Mb) (opensAt_more (by rfl) (opens_slice Tryz.underlying23 (by kernel_rfl) opens_Fr) (opensAt_more (by rfl) (opens_slice Tryz.underlying24 (by kernel_rfl) (opens_i64 Tryz.underlying2 (by kernel_rfl))) (opensAt_more (by rfl) (opens_i64 Tryz.underlying3 (by kernel_rfl)) (opensAt_more (by rfl) (opens_slice Tryz.underlying25 (by kernel_rfl) opens_Ev) (opensAt_more (by rfl) (opens_i64 Tryz.underlying3 (by kernel_rfl)) (opensAt_more (by rfl) (opens_i64 Tryz.underlying3 (by kernel_rfl)) (opensAt_more (by rfl) (opens_u8 Tryz.underlying5 (by kernel_rfl)) (opensAt_more (by rfl) (opens_i64 Tryz.underlying3 (by kernel_rfl)) (opensAt_one (by rfl) (opens_i64 Tryz.underlying2 (by kernel_rfl))))))))))))
theorem int_at {w : World} {b o : Nat} {xs : List Int} (h : (Kd.num .i64 I64).At w b o xs) (i : Nat) (hi : i < xs.length) : w.cell? ⟨b, o + i, none⟩ = some (.int .i64 xs[i]) ∧ I64 xs[i] := by
  obtain ⟨cs, ⟨rfl, hr⟩, hc⟩ := h i hi
  have := hc 0 _ rfl
  exact ⟨by simpa [Kd.num] using this, hr⟩
end Go.Proofs.YtgfjlegiofhboaaGreatDoor
