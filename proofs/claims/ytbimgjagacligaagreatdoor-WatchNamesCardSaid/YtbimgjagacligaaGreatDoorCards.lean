/-
  DERIVED. GIVEN WITH THE SEED: THE CARDS: each row of YtbimgjagacligaaGreatDoorRows.lean that lists a variable, with what it lists TIED to the program's text (the seventh form; the later family's looks); each row that meets fmt, with fmt's text TOLD by the authors' own Lean function (tested against real Go, not proved from fmt's source: count such statements apart). THE CARD IS WHAT COUNTS. Prove the row's statement (the work); the ties are given (YtbimgjagacligaaGreatDoorTie.lean); close each card by the builder's one call (the guide's Derived/Test/ToyasCard.lean, 'card_holds'). Laid BY PROGRAM, IN A SANDBOX (cutbox-door.mjs). By AI agents, Wed Nov 11 2026. No macro, syntax, notation, axiom, sorry.
-/
import Derived.Test.YtbimgjagacligaaGreatDoorRows
import GoSem.ClaimSeven
namespace Go.Proofs.YtbimgjagacligaaGreatDoor
namespace Rows

/-- THE TIED CARD OF 'subletlaw22.WatchNames'. -/
def watchNamesCard : Claim7 := { stood := { row := watchNamesRow, standIns := [], harness := (true, "d21d49efc2579a7cd58469cb5f42a0c0e3eae885dc386dd22576ce6165e5d1e6"), looks := true }, kinds := [], alts := [], laidByText := true, laidKinds := [.data, .pinned], laidTests := true, laidLooks := .later }
def WatchNamesCardSaid : Prop := Claim7.holds Tryz.pinned (.plain (OpenSpec.ofChange watchNamesSpec)) watchNamesCard

/-- THE SECOND FORM's CARD OF 'subletlaw22.WatchNames'. -/
def watchNamesUptoCard : Claim7 := { stood := { row := watchNamesUptoRow, standIns := [], harness := (true, "d21d49efc2579a7cd58469cb5f42a0c0e3eae885dc386dd22576ce6165e5d1e6"), looks := true }, kinds := [], alts := [], laidByText := true, laidKinds := [.data, .pinned], laidTests := true, laidLooks := .later }
def WatchNamesUptoCardSaid : Prop := Claim7.holds Tryz.pinned (.plain (OpenSpec.upto watchNamesSpec)) watchNamesUptoCard
end Rows
end Go.Proofs.YtbimgjagacligaaGreatDoor
