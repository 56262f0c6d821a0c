/-
  DERIVED. GIVEN WITH THE SEED: THE CARDS: each row of YtfgbfodohmeamaaDoorRows.lean that lists a variable, with what it lists TIED to the program's text (the seventh form; the later family's looks); each row that meets fmt, with fmt's text TOLD by the authors' own Lean function (tested against real Go, not proved from fmt's source: count such statements apart). THE CARD IS WHAT COUNTS. Prove the row's statement (the work); the ties are given (YtfgbfodohmeamaaDoorTie.lean); close each card by the builder's one call (the guide's Derived/Test/ToyasCard.lean, 'card_holds'). Laid BY PROGRAM, IN A SANDBOX (cutbox-door.mjs). By AI agents, Wed Nov 11 2026. No macro, syntax, notation, axiom, sorry.
-/
import Derived.Test.YtfgbfodohmeamaaDoorRows
import GoSem.ClaimSeven
namespace Go.Proofs.YtfgbfodohmeamaaDoor
namespace Rows

/-- THE TIED CARD OF 'stackyardlaw18.DiskLasts'. -/
def diskLastsCard : Claim7 := { stood := { row := diskLastsRow, standIns := [], harness := (true, "aa0be70291cde0a8d3cd4b7c54f330ae31e4a516e8192ffa16a777aab6d92d47"), looks := true }, kinds := [], alts := [], laidByText := true, laidKinds := [.data, .pinned], laidTests := true, laidLooks := .later }
def DiskLastsCardSaid : Prop := Claim7.holds Tryd.pinned (.plain (OpenSpec.ofChange diskLastsSpec)) diskLastsCard

/-- THE TIED CARD OF 'stackyardlaw18.DiskFuse'. -/
def diskFuseCard : Claim7 := { stood := { row := diskFuseRow, standIns := [], harness := (true, "aa0be70291cde0a8d3cd4b7c54f330ae31e4a516e8192ffa16a777aab6d92d47"), looks := true }, kinds := [], alts := [], laidByText := true, laidKinds := [.data, .pinned], laidTests := true, laidLooks := .later }
def DiskFuseCardSaid : Prop := Claim7.holds Tryd.pinned (.plain (OpenSpec.ofChange diskFuseSpec)) diskFuseCard

/-- THE TIED CARD OF 'stackyardlaw18.DiskNone'. -/
def diskNoneCard : Claim7 := { stood := { row := diskNoneRow, standIns := [], harness := (true, "aa0be70291cde0a8d3cd4b7c54f330ae31e4a516e8192ffa16a777aab6d92d47"), looks := true }, kinds := [], alts := [], laidByText := true, laidKinds := [.data, .pinned], laidTests := true, laidLooks := .later }
def DiskNoneCardSaid : Prop := Claim7.holds Tryd.pinned (.plain (OpenSpec.ofChange diskNoneSpec)) diskNoneCard

/-- THE SECOND FORM's CARD OF 'stackyardlaw18.DiskLasts'. -/
def diskLastsUptoCard : Claim7 := { stood := { row := diskLastsUptoRow, standIns := [], harness := (true, "aa0be70291cde0a8d3cd4b7c54f330ae31e4a516e8192ffa16a777aab6d92d47"), looks := true }, kinds := [], alts := [], laidByText := true, laidKinds := [.data, .pinned], laidTests := true, laidLooks := .later }
def DiskLastsUptoCardSaid : Prop := Claim7.holds Tryd.pinned (.plain (OpenSpec.upto diskLastsSpec)) diskLastsUptoCard

/-- THE SECOND FORM's CARD OF 'stackyardlaw18.DiskFuse'. -/
def diskFuseUptoCard : Claim7 := { stood := { row := diskFuseUptoRow, standIns := [], harness := (true, "aa0be70291cde0a8d3cd4b7c54f330ae31e4a516e8192ffa16a777aab6d92d47"), looks := true }, kinds := [], alts := [], laidByText := true, laidKinds := [.data, .pinned], laidTests := true, laidLooks := .later }
def DiskFuseUptoCardSaid : Prop := Claim7.holds Tryd.pinned (.plain (OpenSpec.upto diskFuseSpec)) diskFuseUptoCard

/-- THE SECOND FORM's CARD OF 'stackyardlaw18.DiskNone'. -/
def diskNoneUptoCard : Claim7 := { stood := { row := diskNoneUptoRow, standIns := [], harness := (true, "aa0be70291cde0a8d3cd4b7c54f330ae31e4a516e8192ffa16a777aab6d92d47"), looks := true }, kinds := [], alts := [], laidByText := true, laidKinds := [.data, .pinned], laidTests := true, laidLooks := .later }
def DiskNoneUptoCardSaid : Prop := Claim7.holds Tryd.pinned (.plain (OpenSpec.upto diskNoneSpec)) diskNoneUptoCard
end Rows
end Go.Proofs.YtfgbfodohmeamaaDoor
