/-
  DERIVED. GIVEN WITH THE SEED: THE CARDS: each row of YtegnhfeclchlmaaGreatDoorRows.lean that lists a variable, with what it lists TIED to the program's text (the seventh form; the later family's looks); each row that meets fmt, with fmt's text TOLD by the authors' own Lean function (tested against real Go, not proved from fmt's source: count such statements apart). THE CARD IS WHAT COUNTS. Prove the row's statement (the work); the ties are given (YtegnhfeclchlmaaGreatDoorTie.lean); close each card by the builder's one call (the guide's Derived/Test/ToyasCard.lean, 'card_holds'). Laid BY PROGRAM, IN A SANDBOX (cutbox-door.mjs). By AI agents, Wed Nov 11 2026. No macro, syntax, notation, axiom, sorry.
-/
import Derived.Test.YtegnhfeclchlmaaGreatDoorRows
import GoSem.ClaimSeven
namespace Go.Proofs.YtegnhfeclchlmaaGreatDoor
namespace Rows

/-- THE TIED CARD OF 'stackyardlaw17.ExecWrong'. -/
def execWrongCard : Claim7 := { stood := { row := execWrongRow, standIns := [], harness := (true, "e3339e91a1ecc2f057915876e520a0b49c9282a45b6d8721b416e0980b85f868"), looks := false }, kinds := [], alts := [], laidByText := true, laidKinds := [.data, .data, .data, .data, .data, .data, .data, .data, .data, .data, .data, .data, .pinned], laidTests := true, laidLooks := .later }
def ExecWrongCardSaid : Prop := Claim7.holds Tryz.pinned (.plain (OpenSpec.ofChange execWrongSpec)) execWrongCard

/-- THE SECOND FORM's CARD OF 'stackyardlaw17.ExecWrong'. -/
def execWrongUptoCard : Claim7 := { stood := { row := execWrongUptoRow, standIns := [], harness := (true, "e3339e91a1ecc2f057915876e520a0b49c9282a45b6d8721b416e0980b85f868"), looks := false }, kinds := [], alts := [], laidByText := true, laidKinds := [.data, .data, .data, .data, .data, .data, .data, .data, .data, .data, .data, .data, .pinned], laidTests := true, laidLooks := .later }
def ExecWrongUptoCardSaid : Prop := Claim7.holds Tryz.pinned (.plain (OpenSpec.upto execWrongSpec)) execWrongUptoCard
end Rows
end Go.Proofs.YtegnhfeclchlmaaGreatDoor
