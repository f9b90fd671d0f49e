/-
  DERIVED. GIVEN WITH THE SEED: THE CARDS: each row of YtimfmbcihopaaaaGreatDoorRows.lean that lists a variable, with what it lists TIED to the program's text (the seventh form; the later family's looks); each row that meets fmt, with fmt's text TOLD by the authors' own Lean function (tested against real Go, not proved from fmt's source: count such statements apart). THE CARD IS WHAT COUNTS. Prove the row's statement (the work); the ties are given (YtimfmbcihopaaaaGreatDoorTie.lean); close each card by the builder's one call (the guide's Derived/Test/ToyasCard.lean, 'card_holds'). Laid BY PROGRAM, IN A SANDBOX (cutbox-door.mjs). By AI agents, Wed Nov 11 2026. No macro, syntax, notation, axiom, sorry.
-/
import Derived.Test.YtimfmbcihopaaaaGreatDoorRows
import GoSem.ClaimSeven
namespace Go.Proofs.YtimfmbcihopaaaaGreatDoor
namespace Rows

/-- THE TIED CARD OF 'coffretlaw17.ManifestPuts'. -/
def manifestPutsCard : Claim7 := { stood := { row := manifestPutsRow, standIns := [], harness := (true, "56e57a02b69a4ff3cd92f26c068c14ad0adc8a7b96e562623b7be8b63dde9d51"), looks := true }, kinds := [], alts := [], laidByText := true, laidKinds := [.data, .pinned], laidTests := true, laidLooks := .later }
def ManifestPutsCardSaid : Prop := Claim7.holds Tryz.pinned (.plain (OpenSpec.ofChange manifestPutsSpec)) manifestPutsCard

/-- THE TIED CARD OF 'coffretlaw17.ManifestRefs'. -/
def manifestRefsCard : Claim7 := { stood := { row := manifestRefsRow, standIns := [], harness := (true, "56e57a02b69a4ff3cd92f26c068c14ad0adc8a7b96e562623b7be8b63dde9d51"), looks := true }, kinds := [], alts := [], laidByText := true, laidKinds := [.data, .pinned], laidTests := true, laidLooks := .later }
def ManifestRefsCardSaid : Prop := Claim7.holds Tryz.pinned (.plain (OpenSpec.ofChange manifestRefsSpec)) manifestRefsCard

/-- THE SECOND FORM's CARD OF 'coffretlaw17.ManifestPuts'. -/
def manifestPutsUptoCard : Claim7 := { stood := { row := manifestPutsUptoRow, standIns := [], harness := (true, "56e57a02b69a4ff3cd92f26c068c14ad0adc8a7b96e562623b7be8b63dde9d51"), looks := true }, kinds := [], alts := [], laidByText := true, laidKinds := [.data, .pinned], laidTests := true, laidLooks := .later }
def ManifestPutsUptoCardSaid : Prop := Claim7.holds Tryz.pinned (.plain (OpenSpec.upto manifestPutsSpec)) manifestPutsUptoCard

/-- THE SECOND FORM's CARD OF 'coffretlaw17.ManifestRefs'. -/
def manifestRefsUptoCard : Claim7 := { stood := { row := manifestRefsUptoRow, standIns := [], harness := (true, "56e57a02b69a4ff3cd92f26c068c14ad0adc8a7b96e562623b7be8b63dde9d51"), looks := true }, kinds := [], alts := [], laidByText := true, laidKinds := [.data, .pinned], laidTests := true, laidLooks := .later }
def ManifestRefsUptoCardSaid : Prop := Claim7.holds Tryz.pinned (.plain (OpenSpec.upto manifestRefsSpec)) manifestRefsUptoCard
end Rows
end Go.Proofs.YtimfmbcihopaaaaGreatDoor
