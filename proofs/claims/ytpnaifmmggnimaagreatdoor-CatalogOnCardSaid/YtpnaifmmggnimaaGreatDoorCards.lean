/-
  DERIVED. GIVEN WITH THE SEED: THE CARDS: each row of YtpnaifmmggnimaaGreatDoorRows.lean that lists a variable, with what it lists TIED to the program's text (the seventh form; the later family's looks); each row that meets fmt, with fmt's text TOLD by the authors' own Lean function (tested against real Go, not proved from fmt's source: count such statements apart). THE CARD IS WHAT COUNTS. Prove the row's statement (the work); the ties are given (YtpnaifmmggnimaaGreatDoorTie.lean); close each card by the builder's one call (the guide's Derived/Test/ToyasCard.lean, 'card_holds'). Laid BY PROGRAM, IN A SANDBOX (cutbox-door.mjs). By AI agents, Wed Nov 11 2026. No macro, syntax, notation, axiom, sorry.
-/
import Derived.Test.YtpnaifmmggnimaaGreatDoorRows
import GoSem.ClaimSeven
namespace Go.Proofs.YtpnaifmmggnimaaGreatDoor
namespace Rows

/-- THE TIED CARD OF 'stackyardlaw22.CatalogTwice'. -/
def catalogTwiceCard : Claim7 := { stood := { row := catalogTwiceRow, standIns := [], harness := (true, "7c7aa9cb9611bc7df85649b0d4d1ea91da13c01b7a3fe7e1c6a61ebf69742f23"), looks := false }, kinds := [], alts := [], laidByText := true, laidKinds := [.data, .data, .data, .data, .pinned], laidTests := true, laidLooks := .later }
def CatalogTwiceCardSaid : Prop := Claim7.holds Tryz.pinned (.plain (OpenSpec.ofChange catalogTwiceSpec)) catalogTwiceCard

/-- THE TIED CARD OF 'stackyardlaw22.CatalogRows'. -/
def catalogRowsCard : Claim7 := { stood := { row := catalogRowsRow, standIns := [], harness := (true, "7c7aa9cb9611bc7df85649b0d4d1ea91da13c01b7a3fe7e1c6a61ebf69742f23"), looks := false }, kinds := [], alts := [], laidByText := true, laidKinds := [.data, .data, .data, .data, .pinned], laidTests := true, laidLooks := .later }
def CatalogRowsCardSaid : Prop := Claim7.holds Tryz.pinned (.plain (OpenSpec.ofChange catalogRowsSpec)) catalogRowsCard

/-- THE TIED CARD OF 'stackyardlaw22.CatalogWords'. -/
def catalogWordsCard : Claim7 := { stood := { row := catalogWordsRow, standIns := [], harness := (true, "7c7aa9cb9611bc7df85649b0d4d1ea91da13c01b7a3fe7e1c6a61ebf69742f23"), looks := false }, kinds := [], alts := [], laidByText := true, laidKinds := [.data, .data, .data, .data, .pinned], laidTests := true, laidLooks := .later }
def CatalogWordsCardSaid : Prop := Claim7.holds Tryz.pinned (.plain (OpenSpec.ofChange catalogWordsSpec)) catalogWordsCard

/-- THE TIED CARD OF 'stackyardlaw22.CatalogNone'. -/
def catalogNoneCard : Claim7 := { stood := { row := catalogNoneRow, standIns := [], harness := (true, "7c7aa9cb9611bc7df85649b0d4d1ea91da13c01b7a3fe7e1c6a61ebf69742f23"), looks := false }, kinds := [], alts := [], laidByText := true, laidKinds := [.data, .data, .data, .data, .pinned], laidTests := true, laidLooks := .later }
def CatalogNoneCardSaid : Prop := Claim7.holds Tryz.pinned (.plain (OpenSpec.ofChange catalogNoneSpec)) catalogNoneCard

/-- THE TIED CARD OF 'stackyardlaw22.CatalogOn'. -/
def catalogOnCard : Claim7 := { stood := { row := catalogOnRow, standIns := [], harness := (true, "7c7aa9cb9611bc7df85649b0d4d1ea91da13c01b7a3fe7e1c6a61ebf69742f23"), looks := false }, kinds := [], alts := [], laidByText := true, laidKinds := [.data, .data, .data, .data, .pinned], laidTests := true, laidLooks := .later }
def CatalogOnCardSaid : Prop := Claim7.holds Tryz.pinned (.plain (OpenSpec.ofChange catalogOnSpec)) catalogOnCard

/-- THE TIED CARD OF 'stackyardlaw22.CatalogLoads'. -/
def catalogLoadsCard : Claim7 := { stood := { row := catalogLoadsRow, standIns := [], harness := (true, "7c7aa9cb9611bc7df85649b0d4d1ea91da13c01b7a3fe7e1c6a61ebf69742f23"), looks := false }, kinds := [], alts := [], laidByText := true, laidKinds := [.data, .data, .data, .data, .pinned], laidTests := true, laidLooks := .later }
def CatalogLoadsCardSaid : Prop := Claim7.holds Tryz.pinned (.plain (OpenSpec.ofChange catalogLoadsSpec)) catalogLoadsCard

/-- THE SECOND FORM's CARD OF 'stackyardlaw22.CatalogTwice'. -/
def catalogTwiceUptoCard : Claim7 := { stood := { row := catalogTwiceUptoRow, standIns := [], harness := (true, "7c7aa9cb9611bc7df85649b0d4d1ea91da13c01b7a3fe7e1c6a61ebf69742f23"), looks := false }, kinds := [], alts := [], laidByText := true, laidKinds := [.data, .data, .data, .data, .pinned], laidTests := true, laidLooks := .later }
def CatalogTwiceUptoCardSaid : Prop := Claim7.holds Tryz.pinned (.plain (OpenSpec.upto catalogTwiceSpec)) catalogTwiceUptoCard

/-- THE SECOND FORM's CARD OF 'stackyardlaw22.CatalogRows'. -/
def catalogRowsUptoCard : Claim7 := { stood := { row := catalogRowsUptoRow, standIns := [], harness := (true, "7c7aa9cb9611bc7df85649b0d4d1ea91da13c01b7a3fe7e1c6a61ebf69742f23"), looks := false }, kinds := [], alts := [], laidByText := true, laidKinds := [.data, .data, .data, .data, .pinned], laidTests := true, laidLooks := .later }
def CatalogRowsUptoCardSaid : Prop := Claim7.holds Tryz.pinned (.plain (OpenSpec.upto catalogRowsSpec)) catalogRowsUptoCard

/-- THE SECOND FORM's CARD OF 'stackyardlaw22.CatalogWords'. -/
def catalogWordsUptoCard : Claim7 := { stood := { row := catalogWordsUptoRow, standIns := [], harness := (true, "7c7aa9cb9611bc7df85649b0d4d1ea91da13c01b7a3fe7e1c6a61ebf69742f23"), looks := false }, kinds := [], alts := [], laidByText := true, laidKinds := [.data, .data, .data, .data, .pinned], laidTests := true, laidLooks := .later }
def CatalogWordsUptoCardSaid : Prop := Claim7.holds Tryz.pinned (.plain (OpenSpec.upto catalogWordsSpec)) catalogWordsUptoCard

/-- THE SECOND FORM's CARD OF 'stackyardlaw22.CatalogNone'. -/
def catalogNoneUptoCard : Claim7 := { stood := { row := catalogNoneUptoRow, standIns := [], harness := (true, "7c7aa9cb9611bc7df85649b0d4d1ea91da13c01b7a3fe7e1c6a61ebf69742f23"), looks := false }, kinds := [], alts := [], laidByText := true, laidKinds := [.data, .data, .data, .data, .pinned], laidTests := true, laidLooks := .later }
def CatalogNoneUptoCardSaid : Prop := Claim7.holds Tryz.pinned (.plain (OpenSpec.upto catalogNoneSpec)) catalogNoneUptoCard

/-- THE SECOND FORM's CARD OF 'stackyardlaw22.CatalogOn'. -/
def catalogOnUptoCard : Claim7 := { stood := { row := catalogOnUptoRow, standIns := [], harness := (true, "7c7aa9cb9611bc7df85649b0d4d1ea91da13c01b7a3fe7e1c6a61ebf69742f23"), looks := false }, kinds := [], alts := [], laidByText := true, laidKinds := [.data, .data, .data, .data, .pinned], laidTests := true, laidLooks := .later }
def CatalogOnUptoCardSaid : Prop := Claim7.holds Tryz.pinned (.plain (OpenSpec.upto catalogOnSpec)) catalogOnUptoCard

/-- THE SECOND FORM's CARD OF 'stackyardlaw22.CatalogLoads'. -/
def catalogLoadsUptoCard : Claim7 := { stood := { row := catalogLoadsUptoRow, standIns := [], harness := (true, "7c7aa9cb9611bc7df85649b0d4d1ea91da13c01b7a3fe7e1c6a61ebf69742f23"), looks := false }, kinds := [], alts := [], laidByText := true, laidKinds := [.data, .data, .data, .data, .pinned], laidTests := true, laidLooks := .later }
def CatalogLoadsUptoCardSaid : Prop := Claim7.holds Tryz.pinned (.plain (OpenSpec.upto catalogLoadsSpec)) catalogLoadsUptoCard
end Rows
end Go.Proofs.YtpnaifmmggnimaaGreatDoor
