/-
  DERIVED. GIVEN WITH THE SEED: THE CARDS: each row of YtbpdfpfgijhokaaGreatDoorRows.lean that lists a variable, with what it lists TIED to the program's text (the seventh form; the later family's looks); each row that meets fmt, with fmt's text TOLD by the authors' own Lean function (tested against real Go, not proved from fmt's source: count such statements apart). THE CARD IS WHAT COUNTS. Prove the row's statement (the work); the ties are given (YtbpdfpfgijhokaaGreatDoorTie.lean); close each card by the builder's one call (the guide's Derived/Test/ToyasCard.lean, 'card_holds'). Laid BY PROGRAM, IN A SANDBOX (cutbox-door.mjs). By AI agents, Wed Nov 11 2026. No macro, syntax, notation, axiom, sorry.
-/
import Derived.Test.YtbpdfpfgijhokaaGreatDoorRows
import GoSem.ClaimSeven
namespace Go.Proofs.YtbpdfpfgijhokaaGreatDoor
namespace Rows

/-- THE TIED CARD OF 'stackyardlaw12.PlanMakes'. -/
def planMakesCard : Claim7 := { stood := { row := planMakesRow, standIns := [], harness := (true, "652e9a8779766fd48671660a2841e33c913a23bf69c6d1c3f5af8c8f70f5e51c"), looks := true }, kinds := [], alts := [], laidByText := true, laidKinds := [.data, .data, .data, .data, .data, .data, .data, .pinned], laidTests := true, laidLooks := .later }
def PlanMakesCardSaid : Prop := Claim7.holds Tryz.pinned (.plain (OpenSpec.ofChange planMakesSpec)) planMakesCard

/-- THE TIED CARD OF 'stackyardlaw12.PlanNeeds'. -/
def planNeedsCard : Claim7 := { stood := { row := planNeedsRow, standIns := [], harness := (true, "652e9a8779766fd48671660a2841e33c913a23bf69c6d1c3f5af8c8f70f5e51c"), looks := true }, kinds := [], alts := [], laidByText := true, laidKinds := [.data, .data, .data, .data, .data, .data, .data, .pinned], laidTests := true, laidLooks := .later }
def PlanNeedsCardSaid : Prop := Claim7.holds Tryz.pinned (.plain (OpenSpec.ofChange planNeedsSpec)) planNeedsCard

/-- THE TIED CARD OF 'stackyardlaw12.PlanAgain'. -/
def planAgainCard : Claim7 := { stood := { row := planAgainRow, standIns := [], harness := (true, "652e9a8779766fd48671660a2841e33c913a23bf69c6d1c3f5af8c8f70f5e51c"), looks := true }, kinds := [], alts := [], laidByText := true, laidKinds := [.data, .data, .data, .data, .data, .data, .data, .pinned], laidTests := true, laidLooks := .later }
def PlanAgainCardSaid : Prop := Claim7.holds Tryz.pinned (.plain (OpenSpec.ofChange planAgainSpec)) planAgainCard

/-- THE TIED CARD OF 'stackyardlaw12.PlanLess'. -/
def planLessCard : Claim7 := { stood := { row := planLessRow, standIns := [], harness := (true, "652e9a8779766fd48671660a2841e33c913a23bf69c6d1c3f5af8c8f70f5e51c"), looks := true }, kinds := [], alts := [], laidByText := true, laidKinds := [.data, .data, .data, .data, .data, .data, .data, .pinned], laidTests := true, laidLooks := .later }
def PlanLessCardSaid : Prop := Claim7.holds Tryz.pinned (.plain (OpenSpec.ofChange planLessSpec)) planLessCard

/-- THE TIED CARD OF 'stackyardlaw12.PlanNames'. -/
def planNamesCard : Claim7 := { stood := { row := planNamesRow, standIns := [], harness := (true, "652e9a8779766fd48671660a2841e33c913a23bf69c6d1c3f5af8c8f70f5e51c"), looks := true }, kinds := [], alts := [], laidByText := true, laidKinds := [.data, .data, .data, .data, .data, .data, .data, .pinned], laidTests := true, laidLooks := .later }
def PlanNamesCardSaid : Prop := Claim7.holds Tryz.pinned (.plain (OpenSpec.ofChange planNamesSpec)) planNamesCard

/-- THE TIED CARD OF 'stackyardlaw11.QueryShows'. -/
def queryShowsCard : Claim7 := { stood := { row := queryShowsRow, standIns := [], harness := (true, "652e9a8779766fd48671660a2841e33c913a23bf69c6d1c3f5af8c8f70f5e51c"), looks := true }, kinds := [], alts := [], laidByText := true, laidKinds := [.data, .data, .data, .data, .sentinel, .sentinel, .data, .data, .data, .pinned], laidTests := true, laidLooks := .later }
def QueryShowsCardSaid : Prop := Claim7.holds Tryz.pinned (.plain (OpenSpec.ofChange queryShowsSpec)) queryShowsCard

/-- THE TIED CARD OF 'stackyardlaw11.QueryFront'. -/
def queryFrontCard : Claim7 := { stood := { row := queryFrontRow, standIns := [], harness := (true, "652e9a8779766fd48671660a2841e33c913a23bf69c6d1c3f5af8c8f70f5e51c"), looks := true }, kinds := [], alts := [], laidByText := true, laidKinds := [.data, .data, .data, .data, .sentinel, .sentinel, .data, .data, .data, .pinned], laidTests := true, laidLooks := .later }
def QueryFrontCardSaid : Prop := Claim7.holds Tryz.pinned (.plain (OpenSpec.ofChange queryFrontSpec)) queryFrontCard

/-- THE TIED CARD OF 'stackyardlaw11.QuerySames'. -/
def querySamesCard : Claim7 := { stood := { row := querySamesRow, standIns := [], harness := (true, "652e9a8779766fd48671660a2841e33c913a23bf69c6d1c3f5af8c8f70f5e51c"), looks := true }, kinds := [], alts := [], laidByText := true, laidKinds := [.data, .data, .data, .data, .sentinel, .sentinel, .data, .data, .data, .pinned], laidTests := true, laidLooks := .later }
def QuerySamesCardSaid : Prop := Claim7.holds Tryz.pinned (.plain (OpenSpec.ofChange querySamesSpec)) querySamesCard

/-- THE TIED CARD OF 'stackyardlaw11.QueryBack'. -/
def queryBackCard : Claim7 := { stood := { row := queryBackRow, standIns := [], harness := (true, "652e9a8779766fd48671660a2841e33c913a23bf69c6d1c3f5af8c8f70f5e51c"), looks := true }, kinds := [], alts := [], laidByText := true, laidKinds := [.data, .data, .data, .data, .sentinel, .sentinel, .data, .data, .data, .pinned], laidTests := true, laidLooks := .later }
def QueryBackCardSaid : Prop := Claim7.holds Tryz.pinned (.plain (OpenSpec.ofChange queryBackSpec)) queryBackCard

/-- THE TIED CARD OF 'stackyardlaw11.QueryBrackets'. -/
def queryBracketsCard : Claim7 := { stood := { row := queryBracketsRow, standIns := [], harness := (true, "652e9a8779766fd48671660a2841e33c913a23bf69c6d1c3f5af8c8f70f5e51c"), looks := true }, kinds := [], alts := [], laidByText := true, laidKinds := [.data, .data, .data, .data, .sentinel, .sentinel, .data, .data, .data, .pinned], laidTests := true, laidLooks := .later }
def QueryBracketsCardSaid : Prop := Claim7.holds Tryz.pinned (.plain (OpenSpec.ofChange queryBracketsSpec)) queryBracketsCard

/-- THE SECOND FORM's CARD OF 'stackyardlaw12.PlanMakes'. -/
def planMakesUptoCard : Claim7 := { stood := { row := planMakesUptoRow, standIns := [], harness := (true, "652e9a8779766fd48671660a2841e33c913a23bf69c6d1c3f5af8c8f70f5e51c"), looks := true }, kinds := [], alts := [], laidByText := true, laidKinds := [.data, .data, .data, .data, .data, .data, .data, .pinned], laidTests := true, laidLooks := .later }
def PlanMakesUptoCardSaid : Prop := Claim7.holds Tryz.pinned (.plain (OpenSpec.upto planMakesSpec)) planMakesUptoCard

/-- THE SECOND FORM's CARD OF 'stackyardlaw12.PlanNeeds'. -/
def planNeedsUptoCard : Claim7 := { stood := { row := planNeedsUptoRow, standIns := [], harness := (true, "652e9a8779766fd48671660a2841e33c913a23bf69c6d1c3f5af8c8f70f5e51c"), looks := true }, kinds := [], alts := [], laidByText := true, laidKinds := [.data, .data, .data, .data, .data, .data, .data, .pinned], laidTests := true, laidLooks := .later }
def PlanNeedsUptoCardSaid : Prop := Claim7.holds Tryz.pinned (.plain (OpenSpec.upto planNeedsSpec)) planNeedsUptoCard

/-- THE SECOND FORM's CARD OF 'stackyardlaw12.PlanAgain'. -/
def planAgainUptoCard : Claim7 := { stood := { row := planAgainUptoRow, standIns := [], harness := (true, "652e9a8779766fd48671660a2841e33c913a23bf69c6d1c3f5af8c8f70f5e51c"), looks := true }, kinds := [], alts := [], laidByText := true, laidKinds := [.data, .data, .data, .data, .data, .data, .data, .pinned], laidTests := true, laidLooks := .later }
def PlanAgainUptoCardSaid : Prop := Claim7.holds Tryz.pinned (.plain (OpenSpec.upto planAgainSpec)) planAgainUptoCard

/-- THE SECOND FORM's CARD OF 'stackyardlaw12.PlanLess'. -/
def planLessUptoCard : Claim7 := { stood := { row := planLessUptoRow, standIns := [], harness := (true, "652e9a8779766fd48671660a2841e33c913a23bf69c6d1c3f5af8c8f70f5e51c"), looks := true }, kinds := [], alts := [], laidByText := true, laidKinds := [.data, .data, .data, .data, .data, .data, .data, .pinned], laidTests := true, laidLooks := .later }
def PlanLessUptoCardSaid : Prop := Claim7.holds Tryz.pinned (.plain (OpenSpec.upto planLessSpec)) planLessUptoCard

/-- THE SECOND FORM's CARD OF 'stackyardlaw12.PlanNames'. -/
def planNamesUptoCard : Claim7 := { stood := { row := planNamesUptoRow, standIns := [], harness := (true, "652e9a8779766fd48671660a2841e33c913a23bf69c6d1c3f5af8c8f70f5e51c"), looks := true }, kinds := [], alts := [], laidByText := true, laidKinds := [.data, .data, .data, .data, .data, .data, .data, .pinned], laidTests := true, laidLooks := .later }
def PlanNamesUptoCardSaid : Prop := Claim7.holds Tryz.pinned (.plain (OpenSpec.upto planNamesSpec)) planNamesUptoCard

/-- THE SECOND FORM's CARD OF 'stackyardlaw11.QueryShows'. -/
def queryShowsUptoCard : Claim7 := { stood := { row := queryShowsUptoRow, standIns := [], harness := (true, "652e9a8779766fd48671660a2841e33c913a23bf69c6d1c3f5af8c8f70f5e51c"), looks := true }, kinds := [], alts := [], laidByText := true, laidKinds := [.data, .data, .data, .data, .sentinel, .sentinel, .data, .data, .data, .pinned], laidTests := true, laidLooks := .later }
def QueryShowsUptoCardSaid : Prop := Claim7.holds Tryz.pinned (.plain (OpenSpec.upto queryShowsSpec)) queryShowsUptoCard

/-- THE SECOND FORM's CARD OF 'stackyardlaw11.QueryFront'. -/
def queryFrontUptoCard : Claim7 := { stood := { row := queryFrontUptoRow, standIns := [], harness := (true, "652e9a8779766fd48671660a2841e33c913a23bf69c6d1c3f5af8c8f70f5e51c"), looks := true }, kinds := [], alts := [], laidByText := true, laidKinds := [.data, .data, .data, .data, .sentinel, .sentinel, .data, .data, .data, .pinned], laidTests := true, laidLooks := .later }
def QueryFrontUptoCardSaid : Prop := Claim7.holds Tryz.pinned (.plain (OpenSpec.upto queryFrontSpec)) queryFrontUptoCard

/-- THE SECOND FORM's CARD OF 'stackyardlaw11.QuerySames'. -/
def querySamesUptoCard : Claim7 := { stood := { row := querySamesUptoRow, standIns := [], harness := (true, "652e9a8779766fd48671660a2841e33c913a23bf69c6d1c3f5af8c8f70f5e51c"), looks := true }, kinds := [], alts := [], laidByText := true, laidKinds := [.data, .data, .data, .data, .sentinel, .sentinel, .data, .data, .data, .pinned], laidTests := true, laidLooks := .later }
def QuerySamesUptoCardSaid : Prop := Claim7.holds Tryz.pinned (.plain (OpenSpec.upto querySamesSpec)) querySamesUptoCard

/-- THE SECOND FORM's CARD OF 'stackyardlaw11.QueryBack'. -/
def queryBackUptoCard : Claim7 := { stood := { row := queryBackUptoRow, standIns := [], harness := (true, "652e9a8779766fd48671660a2841e33c913a23bf69c6d1c3f5af8c8f70f5e51c"), looks := true }, kinds := [], alts := [], laidByText := true, laidKinds := [.data, .data, .data, .data, .sentinel, .sentinel, .data, .data, .data, .pinned], laidTests := true, laidLooks := .later }
def QueryBackUptoCardSaid : Prop := Claim7.holds Tryz.pinned (.plain (OpenSpec.upto queryBackSpec)) queryBackUptoCard

/-- THE SECOND FORM's CARD OF 'stackyardlaw11.QueryBrackets'. -/
def queryBracketsUptoCard : Claim7 := { stood := { row := queryBracketsUptoRow, standIns := [], harness := (true, "652e9a8779766fd48671660a2841e33c913a23bf69c6d1c3f5af8c8f70f5e51c"), looks := true }, kinds := [], alts := [], laidByText := true, laidKinds := [.data, .data, .data, .data, .sentinel, .sentinel, .data, .data, .data, .pinned], laidTests := true, laidLooks := .later }
def QueryBracketsUptoCardSaid : Prop := Claim7.holds Tryz.pinned (.plain (OpenSpec.upto queryBracketsSpec)) queryBracketsUptoCard
end Rows
end Go.Proofs.YtbpdfpfgijhokaaGreatDoor
