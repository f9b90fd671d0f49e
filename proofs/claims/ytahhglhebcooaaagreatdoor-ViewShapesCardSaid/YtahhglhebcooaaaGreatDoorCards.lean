/-
  DERIVED. GIVEN WITH THE SEED: THE CARDS: each row of YtahhglhebcooaaaGreatDoorRows.lean that lists a variable, with what it lists TIED to the program's text (the seventh form; the later family's looks); each row that meets fmt, with fmt's text TOLD by the authors' own Lean function (tested against real Go, not proved from fmt's source: count such statements apart). THE CARD IS WHAT COUNTS. Prove the row's statement (the work); the ties are given (YtahhglhebcooaaaGreatDoorTie.lean); close each card by the builder's one call (the guide's Derived/Test/ToyasCard.lean, 'card_holds'). Laid BY PROGRAM, IN A SANDBOX (cutbox-door.mjs). By AI agents, Wed Nov 11 2026. No macro, syntax, notation, axiom, sorry.
-/
import Derived.Test.YtahhglhebcooaaaGreatDoorRows
import GoSem.ClaimSeven
namespace Go.Proofs.YtahhglhebcooaaaGreatDoor
namespace Rows

/-- THE TIED CARD OF 'coffretlaw29.ViewKeeps'. -/
def viewKeepsCard : Claim7 := { stood := { row := viewKeepsRow, standIns := [], harness := (true, "7162a8098322286af4ce3794301fbb9805ba9a1b86f2ae75fa991e41dbb1b692"), looks := true }, kinds := [], alts := [], laidByText := true, laidKinds := [.data, .pinned], laidTests := true, laidLooks := .later }
def ViewKeepsCardSaid : Prop := Claim7.holds Tryz.pinned (.plain (OpenSpec.ofChange viewKeepsSpec)) viewKeepsCard

/-- THE TIED CARD OF 'coffretlaw29.ViewShapes'. -/
def viewShapesCard : Claim7 := { stood := { row := viewShapesRow, standIns := [], harness := (true, "7162a8098322286af4ce3794301fbb9805ba9a1b86f2ae75fa991e41dbb1b692"), looks := true }, kinds := [], alts := [], laidByText := true, laidKinds := [.data, .pinned], laidTests := true, laidLooks := .later }
def ViewShapesCardSaid : Prop := Claim7.holds Tryz.pinned (.plain (OpenSpec.ofChange viewShapesSpec)) viewShapesCard

/-- THE SECOND FORM's CARD OF 'coffretlaw29.ViewKeeps'. -/
def viewKeepsUptoCard : Claim7 := { stood := { row := viewKeepsUptoRow, standIns := [], harness := (true, "7162a8098322286af4ce3794301fbb9805ba9a1b86f2ae75fa991e41dbb1b692"), looks := true }, kinds := [], alts := [], laidByText := true, laidKinds := [.data, .pinned], laidTests := true, laidLooks := .later }
def ViewKeepsUptoCardSaid : Prop := Claim7.holds Tryz.pinned (.plain (OpenSpec.upto viewKeepsSpec)) viewKeepsUptoCard

/-- THE SECOND FORM's CARD OF 'coffretlaw29.ViewShapes'. -/
def viewShapesUptoCard : Claim7 := { stood := { row := viewShapesUptoRow, standIns := [], harness := (true, "7162a8098322286af4ce3794301fbb9805ba9a1b86f2ae75fa991e41dbb1b692"), looks := true }, kinds := [], alts := [], laidByText := true, laidKinds := [.data, .pinned], laidTests := true, laidLooks := .later }
def ViewShapesUptoCardSaid : Prop := Claim7.holds Tryz.pinned (.plain (OpenSpec.upto viewShapesSpec)) viewShapesUptoCard
end Rows
end Go.Proofs.YtahhglhebcooaaaGreatDoor
