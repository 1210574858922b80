/-
  DERIVED. GIVEN WITH THE SEED: THE CARDS: each row of YtgfjlegiofhboaaGreatDoorRows.lean that lists a variable, with what it lists TIED to the program's text (the seventh form; the later family's looks); each row that meets fmt, with fmt's text TOLD by the authors' own Lean function (tested against real Go, not proved from fmt's source: count such statements apart). THE CARD IS WHAT COUNTS. Prove the row's statement (the work); the ties are given (YtgfjlegiofhboaaGreatDoorTie.lean); close each card by the builder's one call (the guide's Derived/Test/ToyasCard.lean, 'card_holds'). Laid BY PROGRAM, IN A SANDBOX (cutbox-door.mjs). By AI agents, Wed Nov 11 2026. No macro, syntax, notation, axiom, sorry.
-/
import Derived.Test.YtgfjlegiofhboaaGreatDoorRows
import GoSem.ClaimSeven
namespace Go.Proofs.YtgfjlegiofhboaaGreatDoor
namespace Rows

/-- THE TIED CARD OF 'fescuelaw17.RunNames'. -/
def runNamesCard : Claim7 := { stood := { row := runNamesRow, standIns := [], harness := (true, "1a37e1eabf1ca99e6c2d565cf9c4a122019f0a5606cad6be97f8fae2016c2ba4"), looks := true }, kinds := [], alts := [], laidByText := true, laidKinds := [.handle, .data], laidTests := true, laidLooks := .later }
def RunNamesCardSaid : Prop := Claim7.holds Tryz.pinned (.plain (OpenSpec.ofChange runNamesSpec)) runNamesCard

/-- THE TIED CARD OF 'fescuelaw17.RunGoesOn'. -/
def runGoesOnCard : Claim7 := { stood := { row := runGoesOnRow, standIns := [], harness := (true, "1a37e1eabf1ca99e6c2d565cf9c4a122019f0a5606cad6be97f8fae2016c2ba4"), looks := true }, kinds := [], alts := [], laidByText := true, laidKinds := [.handle, .data], laidTests := true, laidLooks := .later }
def RunGoesOnCardSaid : Prop := Claim7.holds Tryz.pinned (.plain (OpenSpec.ofChange runGoesOnSpec)) runGoesOnCard

/-- THE SECOND FORM's CARD OF 'fescuelaw17.RunNames'. -/
def runNamesUptoCard : Claim7 := { stood := { row := runNamesUptoRow, standIns := [], harness := (true, "1a37e1eabf1ca99e6c2d565cf9c4a122019f0a5606cad6be97f8fae2016c2ba4"), looks := true }, kinds := [], alts := [], laidByText := true, laidKinds := [.handle, .data], laidTests := true, laidLooks := .later }
def RunNamesUptoCardSaid : Prop := Claim7.holds Tryz.pinned (.plain (OpenSpec.upto runNamesSpec)) runNamesUptoCard

/-- THE SECOND FORM's CARD OF 'fescuelaw17.RunGoesOn'. -/
def runGoesOnUptoCard : Claim7 := { stood := { row := runGoesOnUptoRow, standIns := [], harness := (true, "1a37e1eabf1ca99e6c2d565cf9c4a122019f0a5606cad6be97f8fae2016c2ba4"), looks := true }, kinds := [], alts := [], laidByText := true, laidKinds := [.handle, .data], laidTests := true, laidLooks := .later }
def RunGoesOnUptoCardSaid : Prop := Claim7.holds Tryz.pinned (.plain (OpenSpec.upto runGoesOnSpec)) runGoesOnUptoCard
end Rows
end Go.Proofs.YtgfjlegiofhboaaGreatDoor
