/-
  DERIVED. GIVEN WITH THE SEED: THE CARDS: each row of YtfaagidbphhboaaGreatDoorRows.lean that lists a variable, with what it lists TIED to the program's text (the seventh form; the later family's looks); each row that meets fmt, with fmt's text TOLD by the authors' own Lean function (tested against real Go, not proved from fmt's source: count such statements apart). THE CARD IS WHAT COUNTS. Prove the row's statement (the work); the ties are given (YtfaagidbphhboaaGreatDoorTie.lean); close each card by the builder's one call (the guide's Derived/Test/ToyasCard.lean, 'card_holds'). Laid BY PROGRAM, IN A SANDBOX (cutbox-door.mjs). By AI agents, Wed Nov 11 2026. No macro, syntax, notation, axiom, sorry.
-/
import Derived.Test.YtfaagidbphhboaaGreatDoorRows
import GoSem.ClaimSeven
namespace Go.Proofs.YtfaagidbphhboaaGreatDoor
namespace Rows

/-- THE TIED CARD OF 'stackyardlaw17.ExecRuns'. -/
def execRunsCard : Claim7 := { stood := { row := execRunsRow, standIns := [], harness := (true, "ff00fb46eb88cef41b5a8aa018a61b96ba5b2761df4950b8f047ec7dfb680ff5"), looks := false }, kinds := [], alts := [], laidByText := true, laidKinds := [.data, .data, .data, .data, .data, .data, .data, .data, .data, .data, .data, .data, .pinned], laidTests := true, laidLooks := .later }
def ExecRunsCardSaid : Prop := Claim7.holds Tryz.pinned (.plain (OpenSpec.ofChange execRunsSpec)) execRunsCard

/-- THE TIED CARD OF 'stackyardlaw17.ExecParts'. -/
def execPartsCard : Claim7 := { stood := { row := execPartsRow, standIns := [], harness := (true, "ff00fb46eb88cef41b5a8aa018a61b96ba5b2761df4950b8f047ec7dfb680ff5"), looks := false }, kinds := [], alts := [], laidByText := true, laidKinds := [.data, .data, .data, .data, .data, .data, .data, .data, .data, .data, .data, .data, .pinned], laidTests := true, laidLooks := .later }
def ExecPartsCardSaid : Prop := Claim7.holds Tryz.pinned (.plain (OpenSpec.ofChange execPartsSpec)) execPartsCard

/-- THE TIED CARD OF 'stackyardlaw17.ExecFits'. -/
def execFitsCard : Claim7 := { stood := { row := execFitsRow, standIns := [], harness := (true, "ff00fb46eb88cef41b5a8aa018a61b96ba5b2761df4950b8f047ec7dfb680ff5"), looks := false }, kinds := [], alts := [], laidByText := true, laidKinds := [.data, .data, .data, .data, .data, .data, .data, .data, .data, .data, .data, .data, .pinned], laidTests := true, laidLooks := .later }
def ExecFitsCardSaid : Prop := Claim7.holds Tryz.pinned (.plain (OpenSpec.ofChange execFitsSpec)) execFitsCard

/-- THE TIED CARD OF 'stackyardlaw17.ExecWhere'. -/
def execWhereCard : Claim7 := { stood := { row := execWhereRow, standIns := [], harness := (true, "ff00fb46eb88cef41b5a8aa018a61b96ba5b2761df4950b8f047ec7dfb680ff5"), looks := false }, kinds := [], alts := [], laidByText := true, laidKinds := [.data, .data, .data, .data, .data, .data, .data, .data, .data, .data, .data, .data, .pinned], laidTests := true, laidLooks := .later }
def ExecWhereCardSaid : Prop := Claim7.holds Tryz.pinned (.plain (OpenSpec.ofChange execWhereSpec)) execWhereCard

/-- THE TIED CARD OF 'stackyardlaw17.ExecLimits'. -/
def execLimitsCard : Claim7 := { stood := { row := execLimitsRow, standIns := [], harness := (true, "ff00fb46eb88cef41b5a8aa018a61b96ba5b2761df4950b8f047ec7dfb680ff5"), looks := false }, kinds := [], alts := [], laidByText := true, laidKinds := [.data, .data, .data, .data, .data, .data, .data, .data, .data, .data, .data, .data, .pinned], laidTests := true, laidLooks := .later }
def ExecLimitsCardSaid : Prop := Claim7.holds Tryz.pinned (.plain (OpenSpec.ofChange execLimitsSpec)) execLimitsCard

/-- THE TIED CARD OF 'stackyardlaw17.ExecCounts'. -/
def execCountsCard : Claim7 := { stood := { row := execCountsRow, standIns := [], harness := (true, "ff00fb46eb88cef41b5a8aa018a61b96ba5b2761df4950b8f047ec7dfb680ff5"), looks := false }, kinds := [], alts := [], laidByText := true, laidKinds := [.data, .data, .data, .data, .data, .data, .data, .data, .data, .data, .data, .data, .pinned], laidTests := true, laidLooks := .later }
def ExecCountsCardSaid : Prop := Claim7.holds Tryz.pinned (.plain (OpenSpec.ofChange execCountsSpec)) execCountsCard

/-- THE TIED CARD OF 'stackyardlaw17.ExecLooks'. -/
def execLooksCard : Claim7 := { stood := { row := execLooksRow, standIns := [], harness := (true, "ff00fb46eb88cef41b5a8aa018a61b96ba5b2761df4950b8f047ec7dfb680ff5"), looks := false }, kinds := [], alts := [], laidByText := true, laidKinds := [.data, .data, .data, .data, .data, .data, .data, .data, .data, .data, .data, .data, .pinned], laidTests := true, laidLooks := .later }
def ExecLooksCardSaid : Prop := Claim7.holds Tryz.pinned (.plain (OpenSpec.ofChange execLooksSpec)) execLooksCard

/-- THE TIED CARD OF 'stackyardlaw17.ExecLess'. -/
def execLessCard : Claim7 := { stood := { row := execLessRow, standIns := [], harness := (true, "ff00fb46eb88cef41b5a8aa018a61b96ba5b2761df4950b8f047ec7dfb680ff5"), looks := false }, kinds := [], alts := [], laidByText := true, laidKinds := [.data, .data, .data, .data, .data, .data, .data, .data, .data, .data, .data, .data, .pinned], laidTests := true, laidLooks := .later }
def ExecLessCardSaid : Prop := Claim7.holds Tryz.pinned (.plain (OpenSpec.ofChange execLessSpec)) execLessCard

/-- THE TIED CARD OF 'stackyardlaw17.ExecWrong'. -/
def execWrongCard : Claim7 := { stood := { row := execWrongRow, standIns := [], harness := (true, "ff00fb46eb88cef41b5a8aa018a61b96ba5b2761df4950b8f047ec7dfb680ff5"), looks := false }, kinds := [], alts := [], laidByText := true, laidKinds := [.data, .data, .data, .data, .data, .data, .data, .data, .data, .data, .data, .data, .pinned], laidTests := true, laidLooks := .later }
def ExecWrongCardSaid : Prop := Claim7.holds Tryz.pinned (.plain (OpenSpec.ofChange execWrongSpec)) execWrongCard

/-- THE SECOND FORM's CARD OF 'stackyardlaw17.ExecRuns'. -/
def execRunsUptoCard : Claim7 := { stood := { row := execRunsUptoRow, standIns := [], harness := (true, "ff00fb46eb88cef41b5a8aa018a61b96ba5b2761df4950b8f047ec7dfb680ff5"), looks := false }, kinds := [], alts := [], laidByText := true, laidKinds := [.data, .data, .data, .data, .data, .data, .data, .data, .data, .data, .data, .data, .pinned], laidTests := true, laidLooks := .later }
def ExecRunsUptoCardSaid : Prop := Claim7.holds Tryz.pinned (.plain (OpenSpec.upto execRunsSpec)) execRunsUptoCard

/-- THE SECOND FORM's CARD OF 'stackyardlaw17.ExecParts'. -/
def execPartsUptoCard : Claim7 := { stood := { row := execPartsUptoRow, standIns := [], harness := (true, "ff00fb46eb88cef41b5a8aa018a61b96ba5b2761df4950b8f047ec7dfb680ff5"), looks := false }, kinds := [], alts := [], laidByText := true, laidKinds := [.data, .data, .data, .data, .data, .data, .data, .data, .data, .data, .data, .data, .pinned], laidTests := true, laidLooks := .later }
def ExecPartsUptoCardSaid : Prop := Claim7.holds Tryz.pinned (.plain (OpenSpec.upto execPartsSpec)) execPartsUptoCard

/-- THE SECOND FORM's CARD OF 'stackyardlaw17.ExecFits'. -/
def execFitsUptoCard : Claim7 := { stood := { row := execFitsUptoRow, standIns := [], harness := (true, "ff00fb46eb88cef41b5a8aa018a61b96ba5b2761df4950b8f047ec7dfb680ff5"), looks := false }, kinds := [], alts := [], laidByText := true, laidKinds := [.data, .data, .data, .data, .data, .data, .data, .data, .data, .data, .data, .data, .pinned], laidTests := true, laidLooks := .later }
def ExecFitsUptoCardSaid : Prop := Claim7.holds Tryz.pinned (.plain (OpenSpec.upto execFitsSpec)) execFitsUptoCard

/-- THE SECOND FORM's CARD OF 'stackyardlaw17.ExecWhere'. -/
def execWhereUptoCard : Claim7 := { stood := { row := execWhereUptoRow, standIns := [], harness := (true, "ff00fb46eb88cef41b5a8aa018a61b96ba5b2761df4950b8f047ec7dfb680ff5"), looks := false }, kinds := [], alts := [], laidByText := true, laidKinds := [.data, .data, .data, .data, .data, .data, .data, .data, .data, .data, .data, .data, .pinned], laidTests := true, laidLooks := .later }
def ExecWhereUptoCardSaid : Prop := Claim7.holds Tryz.pinned (.plain (OpenSpec.upto execWhereSpec)) execWhereUptoCard

/-- THE SECOND FORM's CARD OF 'stackyardlaw17.ExecLimits'. -/
def execLimitsUptoCard : Claim7 := { stood := { row := execLimitsUptoRow, standIns := [], harness := (true, "ff00fb46eb88cef41b5a8aa018a61b96ba5b2761df4950b8f047ec7dfb680ff5"), looks := false }, kinds := [], alts := [], laidByText := true, laidKinds := [.data, .data, .data, .data, .data, .data, .data, .data, .data, .data, .data, .data, .pinned], laidTests := true, laidLooks := .later }
def ExecLimitsUptoCardSaid : Prop := Claim7.holds Tryz.pinned (.plain (OpenSpec.upto execLimitsSpec)) execLimitsUptoCard

/-- THE SECOND FORM's CARD OF 'stackyardlaw17.ExecCounts'. -/
def execCountsUptoCard : Claim7 := { stood := { row := execCountsUptoRow, standIns := [], harness := (true, "ff00fb46eb88cef41b5a8aa018a61b96ba5b2761df4950b8f047ec7dfb680ff5"), looks := false }, kinds := [], alts := [], laidByText := true, laidKinds := [.data, .data, .data, .data, .data, .data, .data, .data, .data, .data, .data, .data, .pinned], laidTests := true, laidLooks := .later }
def ExecCountsUptoCardSaid : Prop := Claim7.holds Tryz.pinned (.plain (OpenSpec.upto execCountsSpec)) execCountsUptoCard

/-- THE SECOND FORM's CARD OF 'stackyardlaw17.ExecLooks'. -/
def execLooksUptoCard : Claim7 := { stood := { row := execLooksUptoRow, standIns := [], harness := (true, "ff00fb46eb88cef41b5a8aa018a61b96ba5b2761df4950b8f047ec7dfb680ff5"), looks := false }, kinds := [], alts := [], laidByText := true, laidKinds := [.data, .data, .data, .data, .data, .data, .data, .data, .data, .data, .data, .data, .pinned], laidTests := true, laidLooks := .later }
def ExecLooksUptoCardSaid : Prop := Claim7.holds Tryz.pinned (.plain (OpenSpec.upto execLooksSpec)) execLooksUptoCard

/-- THE SECOND FORM's CARD OF 'stackyardlaw17.ExecLess'. -/
def execLessUptoCard : Claim7 := { stood := { row := execLessUptoRow, standIns := [], harness := (true, "ff00fb46eb88cef41b5a8aa018a61b96ba5b2761df4950b8f047ec7dfb680ff5"), looks := false }, kinds := [], alts := [], laidByText := true, laidKinds := [.data, .data, .data, .data, .data, .data, .data, .data, .data, .data, .data, .data, .pinned], laidTests := true, laidLooks := .later }
def ExecLessUptoCardSaid : Prop := Claim7.holds Tryz.pinned (.plain (OpenSpec.upto execLessSpec)) execLessUptoCard

/-- THE SECOND FORM's CARD OF 'stackyardlaw17.ExecWrong'. -/
def execWrongUptoCard : Claim7 := { stood := { row := execWrongUptoRow, standIns := [], harness := (true, "ff00fb46eb88cef41b5a8aa018a61b96ba5b2761df4950b8f047ec7dfb680ff5"), looks := false }, kinds := [], alts := [], laidByText := true, laidKinds := [.data, .data, .data, .data, .data, .data, .data, .data, .data, .data, .data, .data, .pinned], laidTests := true, laidLooks := .later }
def ExecWrongUptoCardSaid : Prop := Claim7.holds Tryz.pinned (.plain (OpenSpec.upto execWrongSpec)) execWrongUptoCard
end Rows
end Go.Proofs.YtfaagidbphhboaaGreatDoor
