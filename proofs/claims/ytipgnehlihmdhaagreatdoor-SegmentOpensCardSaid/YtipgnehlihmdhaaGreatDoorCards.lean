/-
  DERIVED. GIVEN WITH THE SEED: THE CARDS: each row of YtipgnehlihmdhaaGreatDoorRows.lean that lists a variable, with what it lists TIED to the program's text (the seventh form; the later family's looks); each row that meets fmt, with fmt's text TOLD by the authors' own Lean function (tested against real Go, not proved from fmt's source: count such statements apart). THE CARD IS WHAT COUNTS. Prove the row's statement (the work); the ties are given (YtipgnehlihmdhaaGreatDoorTie.lean); close each card by the builder's one call (the guide's Derived/Test/ToyasCard.lean, 'card_holds'). Laid BY PROGRAM, IN A SANDBOX (cutbox-door.mjs). By AI agents, Wed Nov 11 2026. No macro, syntax, notation, axiom, sorry.
-/
import Derived.Test.YtipgnehlihmdhaaGreatDoorRows
import GoSem.ClaimSeven
namespace Go.Proofs.YtipgnehlihmdhaaGreatDoor
namespace Rows

/-- THE TIED CARD OF 'stackyardlaw09.SegmentTurns'. -/
def segmentTurnsCard : Claim7 := { stood := { row := segmentTurnsRow, standIns := [], harness := (true, "9544040cfee0d2f7dcfa1d283da3bd5d11d4b19bbbc4f317de7690d55571fabc"), looks := false }, kinds := [], alts := [], laidByText := true, laidKinds := [.data, .data, .data, .data, .pinned], laidTests := true, laidLooks := .later }
def SegmentTurnsCardSaid : Prop := Claim7.holds Tryz.pinned (.plain (OpenSpec.ofChange segmentTurnsSpec)) segmentTurnsCard

/-- THE TIED CARD OF 'stackyardlaw09.SegmentWords'. -/
def segmentWordsCard : Claim7 := { stood := { row := segmentWordsRow, standIns := [], harness := (true, "9544040cfee0d2f7dcfa1d283da3bd5d11d4b19bbbc4f317de7690d55571fabc"), looks := false }, kinds := [], alts := [], laidByText := true, laidKinds := [.data, .data, .data, .data, .pinned], laidTests := true, laidLooks := .later }
def SegmentWordsCardSaid : Prop := Claim7.holds Tryz.pinned (.plain (OpenSpec.ofChange segmentWordsSpec)) segmentWordsCard

/-- THE TIED CARD OF 'stackyardlaw09.SegmentNames'. -/
def segmentNamesCard : Claim7 := { stood := { row := segmentNamesRow, standIns := [], harness := (true, "9544040cfee0d2f7dcfa1d283da3bd5d11d4b19bbbc4f317de7690d55571fabc"), looks := false }, kinds := [], alts := [], laidByText := true, laidKinds := [.data, .data, .data, .data, .pinned], laidTests := true, laidLooks := .later }
def SegmentNamesCardSaid : Prop := Claim7.holds Tryz.pinned (.plain (OpenSpec.ofChange segmentNamesSpec)) segmentNamesCard

/-- THE TIED CARD OF 'stackyardlaw09.SegmentOpens'. -/
def segmentOpensCard : Claim7 := { stood := { row := segmentOpensRow, standIns := [], harness := (true, "9544040cfee0d2f7dcfa1d283da3bd5d11d4b19bbbc4f317de7690d55571fabc"), looks := false }, kinds := [], alts := [], laidByText := true, laidKinds := [.data, .data, .data, .data, .pinned], laidTests := true, laidLooks := .later }
def SegmentOpensCardSaid : Prop := Claim7.holds Tryz.pinned (.plain (OpenSpec.ofChange segmentOpensSpec)) segmentOpensCard

/-- THE TIED CARD OF 'stackyardlaw09.SegmentBack'. -/
def segmentBackCard : Claim7 := { stood := { row := segmentBackRow, standIns := [], harness := (true, "9544040cfee0d2f7dcfa1d283da3bd5d11d4b19bbbc4f317de7690d55571fabc"), looks := false }, kinds := [], alts := [], laidByText := true, laidKinds := [.data, .data, .data, .data, .pinned], laidTests := true, laidLooks := .later }
def SegmentBackCardSaid : Prop := Claim7.holds Tryz.pinned (.plain (OpenSpec.ofChange segmentBackSpec)) segmentBackCard

/-- THE TIED CARD OF 'stackyardlaw09.SegmentNone'. -/
def segmentNoneCard : Claim7 := { stood := { row := segmentNoneRow, standIns := [], harness := (true, "9544040cfee0d2f7dcfa1d283da3bd5d11d4b19bbbc4f317de7690d55571fabc"), looks := false }, kinds := [], alts := [], laidByText := true, laidKinds := [.data, .data, .data, .data, .pinned], laidTests := true, laidLooks := .later }
def SegmentNoneCardSaid : Prop := Claim7.holds Tryz.pinned (.plain (OpenSpec.ofChange segmentNoneSpec)) segmentNoneCard

/-- THE SECOND FORM's CARD OF 'stackyardlaw09.SegmentTurns'. -/
def segmentTurnsUptoCard : Claim7 := { stood := { row := segmentTurnsUptoRow, standIns := [], harness := (true, "9544040cfee0d2f7dcfa1d283da3bd5d11d4b19bbbc4f317de7690d55571fabc"), looks := false }, kinds := [], alts := [], laidByText := true, laidKinds := [.data, .data, .data, .data, .pinned], laidTests := true, laidLooks := .later }
def SegmentTurnsUptoCardSaid : Prop := Claim7.holds Tryz.pinned (.plain (OpenSpec.upto segmentTurnsSpec)) segmentTurnsUptoCard

/-- THE SECOND FORM's CARD OF 'stackyardlaw09.SegmentWords'. -/
def segmentWordsUptoCard : Claim7 := { stood := { row := segmentWordsUptoRow, standIns := [], harness := (true, "9544040cfee0d2f7dcfa1d283da3bd5d11d4b19bbbc4f317de7690d55571fabc"), looks := false }, kinds := [], alts := [], laidByText := true, laidKinds := [.data, .data, .data, .data, .pinned], laidTests := true, laidLooks := .later }
def SegmentWordsUptoCardSaid : Prop := Claim7.holds Tryz.pinned (.plain (OpenSpec.upto segmentWordsSpec)) segmentWordsUptoCard

/-- THE SECOND FORM's CARD OF 'stackyardlaw09.SegmentNames'. -/
def segmentNamesUptoCard : Claim7 := { stood := { row := segmentNamesUptoRow, standIns := [], harness := (true, "9544040cfee0d2f7dcfa1d283da3bd5d11d4b19bbbc4f317de7690d55571fabc"), looks := false }, kinds := [], alts := [], laidByText := true, laidKinds := [.data, .data, .data, .data, .pinned], laidTests := true, laidLooks := .later }
def SegmentNamesUptoCardSaid : Prop := Claim7.holds Tryz.pinned (.plain (OpenSpec.upto segmentNamesSpec)) segmentNamesUptoCard

/-- THE SECOND FORM's CARD OF 'stackyardlaw09.SegmentOpens'. -/
def segmentOpensUptoCard : Claim7 := { stood := { row := segmentOpensUptoRow, standIns := [], harness := (true, "9544040cfee0d2f7dcfa1d283da3bd5d11d4b19bbbc4f317de7690d55571fabc"), looks := false }, kinds := [], alts := [], laidByText := true, laidKinds := [.data, .data, .data, .data, .pinned], laidTests := true, laidLooks := .later }
def SegmentOpensUptoCardSaid : Prop := Claim7.holds Tryz.pinned (.plain (OpenSpec.upto segmentOpensSpec)) segmentOpensUptoCard

/-- THE SECOND FORM's CARD OF 'stackyardlaw09.SegmentBack'. -/
def segmentBackUptoCard : Claim7 := { stood := { row := segmentBackUptoRow, standIns := [], harness := (true, "9544040cfee0d2f7dcfa1d283da3bd5d11d4b19bbbc4f317de7690d55571fabc"), looks := false }, kinds := [], alts := [], laidByText := true, laidKinds := [.data, .data, .data, .data, .pinned], laidTests := true, laidLooks := .later }
def SegmentBackUptoCardSaid : Prop := Claim7.holds Tryz.pinned (.plain (OpenSpec.upto segmentBackSpec)) segmentBackUptoCard

/-- THE SECOND FORM's CARD OF 'stackyardlaw09.SegmentNone'. -/
def segmentNoneUptoCard : Claim7 := { stood := { row := segmentNoneUptoRow, standIns := [], harness := (true, "9544040cfee0d2f7dcfa1d283da3bd5d11d4b19bbbc4f317de7690d55571fabc"), looks := false }, kinds := [], alts := [], laidByText := true, laidKinds := [.data, .data, .data, .data, .pinned], laidTests := true, laidLooks := .later }
def SegmentNoneUptoCardSaid : Prop := Claim7.holds Tryz.pinned (.plain (OpenSpec.upto segmentNoneSpec)) segmentNoneUptoCard
end Rows
end Go.Proofs.YtipgnehlihmdhaaGreatDoor
