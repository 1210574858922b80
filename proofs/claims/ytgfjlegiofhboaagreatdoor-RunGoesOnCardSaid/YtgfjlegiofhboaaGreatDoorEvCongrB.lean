/- What an operation of the evaluator hangs on, part B. No condition. -/
import Derived.Test.YtgfjlegiofhboaaGreatDoorEvCongr1
namespace Go.Ev
open Go.RowKit
set_option linter.unusedVariables false
set_option linter.unusedSimpArgs false
set_option autoImplicit false

section
variable {P : Program}

/-- What a heap that has a block more still answers. -/
theorem get_more {h : Heap} {o' : AObj} (hn : h.get h.nx = none) {b : Key} {x : AObj} (hb : h.get b = some x) : (h.new o').get b = some x := by
  rw [Heap.get_new_ne _ _ (fun e => by rw [e, hn] at hb; cases hb)]; exact hb

theorem loadA_more {h : Heap} {o' : AObj} (hn : h.get h.nx = none) {t : TypeId} {b : Key} {off : Nat} {v : AV} (he : loadA P t b off h = some v) : loadA P t b off (h.new o') = some v := by
  unfold loadA at he ⊢
  split at he
  · rename_i cs ro hb; rw [get_more hn hb]; exact he
  · cases he

theorem lookupA_more {h : Heap} {o' : AObj} (hn : h.get h.nx = none) {t : TypeId} {m k : AV} {ok : Bool} {v : AV} (he : lookupA P t m k ok h = some v) : lookupA P t m k ok (h.new o') = some v := by
  unfold lookupA at he ⊢
  split at he
  · rename_i hu
    split at he
    · cases he
    · rename_i hk
      rw [if_neg hk]
      split at he
      · rename_i es hes
        split at hes
        · cases hes; exact he
        · split at hes
          · rename_i b es' hb
            cases hes
            rw [get_more hn hb]
            exact he
          · cases hes
        · cases hes
      · cases he
  · cases he

theorem holdsA_more {h : Heap} {o' : AObj} (hn : h.get h.nx = none) {b : Key} {n : Nat} (he : holdsA b n h = true) : holdsA b n (h.new o') = true := by
  unfold holdsA at he ⊢
  split at he
  · rename_i cs ro hb; rw [get_more hn hb]; exact he
  · cases he

theorem sliceA_more {h : Heap} {o' : AObj} (hn : h.get h.nx = none) {t : TypeId} {x : AV} {lo hi mx : Option AV} {v : AV} (he : sliceA P t x lo hi mx h = some v) : sliceA P t x lo hi mx (h.new o') = some v := by
  unfold sliceA at he ⊢
  split at he
  · split at he
    · split at he
      · rename_i hh; rw [if_pos (holdsA_more hn hh)]; exact he
      · cases he
    · cases he
  · exact he
  · exact he
  · split at he
    · split at he
      · split at he
        · rename_i hh; rw [if_pos (holdsA_more hn hh)]; exact he
        · cases he
      · cases he
    · cases he
  · cases he

theorem lenOpA_more {h : Heap} {o' : AObj} (hn : h.get h.nx = none) {ts : Array TypeId} {args : List AV} {v : AV} (he : lenOpA P ts args h = some v) : lenOpA P ts args (h.new o') = some v := by
  unfold lenOpA at he ⊢
  split at he
  · split at he
    · split at he <;> first | exact he | skip
      · split at he
        · rename_i b es hb; rw [get_more hn hb]; exact he
        · cases he
    · cases he
  · cases he

end
end Go.Ev
