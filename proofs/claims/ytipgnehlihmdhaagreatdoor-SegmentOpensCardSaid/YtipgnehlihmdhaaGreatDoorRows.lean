/-
  NARROWER THAN 'FOR EVERY INPUT', by the rows' own cells (each row's printed sentence says how): SegmentTurns: laid · SegmentWords: laid · SegmentNames: laid · SegmentOpens: laid · SegmentBack: laid · SegmentNone: laid.
  DERIVED. THE GIVEN ROWS OF THIS SEAT. 6 by the template 'for every input the law returns true; each argument reads behind the call as it read before'; 0 by the template 'total and deterministic' (their statements: YtipgnehlihmdhaaGreatDoorTotals.lean).
  GIVEN WITH THE SEED: the statements are not yours to turn. If you find one false, say at which input.
  Laid BY PROGRAM, IN A SANDBOX (cutbox-rows.mjs): the forced cells as the released guide's own fill.sh prints them over the translation 2db3276695edb9d9… (all of the seat's roots in one cut). By AI agents, Wed Nov 11 2026. No macro, syntax, notation, axiom, sorry.
-/
import Derived.Test.YtipgnehlihmdhaaGreatDoorChecked
import GoSem.PinnedTables
import GoSem.Claim
import GoSem.ClaimJoined
import GoSem.ClaimMapViews
import Derived.JoinedTies
import Derived.KernelRfl
namespace Go.Proofs.YtipgnehlihmdhaaGreatDoor
/- THE CELL 'sum', in the pinned program and in every row, IS THE sha256 OF THE DUMP (.gsa) THAT YtipgnehlihmdhaaGreatDoorProg.lean LOADS. Nothing in Lean hashes anything: it is a label: what it is worth is what the hold of that sum in a sandbox is worth. -/
noncomputable def Tryz.pinned : Pinned := { name := "ytipgnehlihmdhaagreatdoor", sum := "2db3276695edb9d928b5592d86f4761a22cb64e77d3a5f5416185dcb9a8b9c70", checked := Tryz.checked }
namespace Rows
def none {H : Type} : Left H := { results := [], args := [] }

/- WHAT THE LISTED PACKAGE-LEVEL VARIABLES READ AS WHEN THE CALL BEGINS. Each datum BY PROGRAM (the guide's laid-datum.mjs) off the statement by which the dump's own 'gosem.cut.vars' lays the variable. In a bare row this is a premise. The card (YtipgnehlihmdhaaGreatDoorCards.lean) ties it to the program's text. -/
def laid_unicode_utf8_acceptRanges {H : Type} : DataW H := .agg [.agg [.lit (.int .u8 128), .lit (.int .u8 191)], .agg [.lit (.int .u8 160), .lit (.int .u8 191)], .agg [.lit (.int .u8 128), .lit (.int .u8 159)], .agg [.lit (.int .u8 144), .lit (.int .u8 191)], .agg [.lit (.int .u8 128), .lit (.int .u8 143)], .agg [.lit (.int .u8 0), .lit (.int .u8 0)], .agg [.lit (.int .u8 0), .lit (.int .u8 0)], .agg [.lit (.int .u8 0), .lit (.int .u8 0)], .agg [.lit (.int .u8 0), .lit (.int .u8 0)], .agg [.lit (.int .u8 0), .lit (.int .u8 0)], .agg [.lit (.int .u8 0), .lit (.int .u8 0)], .agg [.lit (.int .u8 0), .lit (.int .u8 0)], .agg [.lit (.int .u8 0), .lit (.int .u8 0)], .agg [.lit (.int .u8 0), .lit (.int .u8 0)], .agg [.lit (.int .u8 0), .lit (.int .u8 0)], .agg [.lit (.int .u8 0), .lit (.int .u8 0)]]
def laid_stackyard_hash_first {H : Type} : DataW H := .agg [.lit (.int .u32 1779033703), .lit (.int .u32 3144134277), .lit (.int .u32 1013904242), .lit (.int .u32 2773480762), .lit (.int .u32 1359893119), .lit (.int .u32 2600822924), .lit (.int .u32 528734635), .lit (.int .u32 1541459225)]
def laid_stackyard_hash_orders {H : Type} : DataW H := .agg [.agg [.lit (.int .u8 0), .lit (.int .u8 1), .lit (.int .u8 2), .lit (.int .u8 3), .lit (.int .u8 4), .lit (.int .u8 5), .lit (.int .u8 6), .lit (.int .u8 7), .lit (.int .u8 8), .lit (.int .u8 9), .lit (.int .u8 10), .lit (.int .u8 11), .lit (.int .u8 12), .lit (.int .u8 13), .lit (.int .u8 14), .lit (.int .u8 15)], .agg [.lit (.int .u8 14), .lit (.int .u8 10), .lit (.int .u8 4), .lit (.int .u8 8), .lit (.int .u8 9), .lit (.int .u8 15), .lit (.int .u8 13), .lit (.int .u8 6), .lit (.int .u8 1), .lit (.int .u8 12), .lit (.int .u8 0), .lit (.int .u8 2), .lit (.int .u8 11), .lit (.int .u8 7), .lit (.int .u8 5), .lit (.int .u8 3)], .agg [.lit (.int .u8 11), .lit (.int .u8 8), .lit (.int .u8 12), .lit (.int .u8 0), .lit (.int .u8 5), .lit (.int .u8 2), .lit (.int .u8 15), .lit (.int .u8 13), .lit (.int .u8 10), .lit (.int .u8 14), .lit (.int .u8 3), .lit (.int .u8 6), .lit (.int .u8 7), .lit (.int .u8 1), .lit (.int .u8 9), .lit (.int .u8 4)], .agg [.lit (.int .u8 7), .lit (.int .u8 9), .lit (.int .u8 3), .lit (.int .u8 1), .lit (.int .u8 13), .lit (.int .u8 12), .lit (.int .u8 11), .lit (.int .u8 14), .lit (.int .u8 2), .lit (.int .u8 6), .lit (.int .u8 5), .lit (.int .u8 10), .lit (.int .u8 4), .lit (.int .u8 0), .lit (.int .u8 15), .lit (.int .u8 8)], .agg [.lit (.int .u8 9), .lit (.int .u8 0), .lit (.int .u8 5), .lit (.int .u8 7), .lit (.int .u8 2), .lit (.int .u8 4), .lit (.int .u8 10), .lit (.int .u8 15), .lit (.int .u8 14), .lit (.int .u8 1), .lit (.int .u8 11), .lit (.int .u8 12), .lit (.int .u8 6), .lit (.int .u8 8), .lit (.int .u8 3), .lit (.int .u8 13)], .agg [.lit (.int .u8 2), .lit (.int .u8 12), .lit (.int .u8 6), .lit (.int .u8 10), .lit (.int .u8 0), .lit (.int .u8 11), .lit (.int .u8 8), .lit (.int .u8 3), .lit (.int .u8 4), .lit (.int .u8 13), .lit (.int .u8 7), .lit (.int .u8 5), .lit (.int .u8 15), .lit (.int .u8 14), .lit (.int .u8 1), .lit (.int .u8 9)], .agg [.lit (.int .u8 12), .lit (.int .u8 5), .lit (.int .u8 1), .lit (.int .u8 15), .lit (.int .u8 14), .lit (.int .u8 13), .lit (.int .u8 4), .lit (.int .u8 10), .lit (.int .u8 0), .lit (.int .u8 7), .lit (.int .u8 6), .lit (.int .u8 3), .lit (.int .u8 9), .lit (.int .u8 2), .lit (.int .u8 8), .lit (.int .u8 11)], .agg [.lit (.int .u8 13), .lit (.int .u8 11), .lit (.int .u8 7), .lit (.int .u8 14), .lit (.int .u8 12), .lit (.int .u8 1), .lit (.int .u8 3), .lit (.int .u8 9), .lit (.int .u8 5), .lit (.int .u8 0), .lit (.int .u8 15), .lit (.int .u8 4), .lit (.int .u8 8), .lit (.int .u8 6), .lit (.int .u8 2), .lit (.int .u8 10)], .agg [.lit (.int .u8 6), .lit (.int .u8 15), .lit (.int .u8 14), .lit (.int .u8 9), .lit (.int .u8 11), .lit (.int .u8 3), .lit (.int .u8 0), .lit (.int .u8 8), .lit (.int .u8 12), .lit (.int .u8 2), .lit (.int .u8 13), .lit (.int .u8 7), .lit (.int .u8 1), .lit (.int .u8 4), .lit (.int .u8 10), .lit (.int .u8 5)], .agg [.lit (.int .u8 10), .lit (.int .u8 2), .lit (.int .u8 8), .lit (.int .u8 4), .lit (.int .u8 7), .lit (.int .u8 6), .lit (.int .u8 1), .lit (.int .u8 5), .lit (.int .u8 15), .lit (.int .u8 11), .lit (.int .u8 9), .lit (.int .u8 14), .lit (.int .u8 3), .lit (.int .u8 12), .lit (.int .u8 13), .lit (.int .u8 0)]]
def laid_stackyard_hash_places {H : Type} : DataW H := .agg [.agg [.lit (.int .u8 0), .lit (.int .u8 4), .lit (.int .u8 8), .lit (.int .u8 12)], .agg [.lit (.int .u8 1), .lit (.int .u8 5), .lit (.int .u8 9), .lit (.int .u8 13)], .agg [.lit (.int .u8 2), .lit (.int .u8 6), .lit (.int .u8 10), .lit (.int .u8 14)], .agg [.lit (.int .u8 3), .lit (.int .u8 7), .lit (.int .u8 11), .lit (.int .u8 15)], .agg [.lit (.int .u8 0), .lit (.int .u8 5), .lit (.int .u8 10), .lit (.int .u8 15)], .agg [.lit (.int .u8 1), .lit (.int .u8 6), .lit (.int .u8 11), .lit (.int .u8 12)], .agg [.lit (.int .u8 2), .lit (.int .u8 7), .lit (.int .u8 8), .lit (.int .u8 13)], .agg [.lit (.int .u8 3), .lit (.int .u8 4), .lit (.int .u8 9), .lit (.int .u8 14)]]
/-- One of Go's own tables, pinned by name: the form's constant. -/
def laid_unicode_utf8_first : DataW Unit := Go.Pinned.utf8First

/-- 'stackyardlaw09.SegmentTurns': WHATEVER THE INPUT: true; the input reads as it did. -/
def segmentTurnsSpec : ChangeSpec := { name := "segmentTurns", fn := fun _ => fun
  | [d1, d2, d3, d4] => { results := [.lit (.bool true)], args := [d1, d2, d3, d4] }
  | _ => none }
def segmentTurnsRow : OpenClaim := { program := "ytipgnehlihmdhaagreatdoor", sum := "2db3276695edb9d928b5592d86f4761a22cb64e77d3a5f5416185dcb9a8b9c70", func := "stackyard/stackyardlaw09.SegmentTurns", spec := "segmentTurns", inPlace := ["internal/bytealg.IndexByteString", "internal/bytealg.IndexString", "internal/bytealg.abigen_runtime_cmpstring"], unfollowed := true, recurses := true, named := ["unicode/utf8.first", "unicode/utf8.acceptRanges", "stackyard/hash.first", "stackyard/hash.orders", "stackyard/hash.places", "internal/bytealg.MaxLen"], apart := false, laid := [("unicode/utf8.acceptRanges", laid_unicode_utf8_acceptRanges), ("stackyard/hash.first", laid_stackyard_hash_first), ("stackyard/hash.orders", laid_stackyard_hash_orders), ("stackyard/hash.places", laid_stackyard_hash_places), ("unicode/utf8.first", laid_unicode_utf8_first)] }
def SegmentTurnsSaid : Prop := segmentTurnsRow.holds Tryz.pinned (OpenSpec.ofChange segmentTurnsSpec)

/-- ITS FALSE NEIGHBOUR: 'it returns false'. Refute it at one input. -/
def segmentTurnsWrong : ChangeSpec := { name := "segmentTurns", fn := fun _ => fun
  | [d1, d2, d3, d4] => { results := [.lit (.bool false)], args := [d1, d2, d3, d4] }
  | _ => none }
def SegmentTurnsWrongFalsely : Prop := segmentTurnsRow.holds Tryz.pinned (OpenSpec.ofChange segmentTurnsWrong)

/-- 'stackyardlaw09.SegmentWords': WHATEVER THE INPUT: true; the input reads as it did. -/
def segmentWordsSpec : ChangeSpec := { name := "segmentWords", fn := fun _ => fun
  | [d1, d2] => { results := [.lit (.bool true)], args := [d1, d2] }
  | _ => none }
def segmentWordsRow : OpenClaim := { program := "ytipgnehlihmdhaagreatdoor", sum := "2db3276695edb9d928b5592d86f4761a22cb64e77d3a5f5416185dcb9a8b9c70", func := "stackyard/stackyardlaw09.SegmentWords", spec := "segmentWords", inPlace := ["internal/bytealg.IndexByteString", "internal/bytealg.IndexString", "internal/bytealg.abigen_runtime_cmpstring"], unfollowed := true, recurses := true, named := ["unicode/utf8.first", "unicode/utf8.acceptRanges", "stackyard/hash.first", "stackyard/hash.orders", "stackyard/hash.places", "internal/bytealg.MaxLen"], apart := false, laid := [("unicode/utf8.acceptRanges", laid_unicode_utf8_acceptRanges), ("stackyard/hash.first", laid_stackyard_hash_first), ("stackyard/hash.orders", laid_stackyard_hash_orders), ("stackyard/hash.places", laid_stackyard_hash_places), ("unicode/utf8.first", laid_unicode_utf8_first)] }
def SegmentWordsSaid : Prop := segmentWordsRow.holds Tryz.pinned (OpenSpec.ofChange segmentWordsSpec)

/-- ITS FALSE NEIGHBOUR: 'it returns false'. Refute it at one input. -/
def segmentWordsWrong : ChangeSpec := { name := "segmentWords", fn := fun _ => fun
  | [d1, d2] => { results := [.lit (.bool false)], args := [d1, d2] }
  | _ => none }
def SegmentWordsWrongFalsely : Prop := segmentWordsRow.holds Tryz.pinned (OpenSpec.ofChange segmentWordsWrong)

/-- 'stackyardlaw09.SegmentNames': WHATEVER THE INPUT: true; the input reads as it did. -/
def segmentNamesSpec : ChangeSpec := { name := "segmentNames", fn := fun _ => fun
  | [d1, d2, d3] => { results := [.lit (.bool true)], args := [d1, d2, d3] }
  | _ => none }
def segmentNamesRow : OpenClaim := { program := "ytipgnehlihmdhaagreatdoor", sum := "2db3276695edb9d928b5592d86f4761a22cb64e77d3a5f5416185dcb9a8b9c70", func := "stackyard/stackyardlaw09.SegmentNames", spec := "segmentNames", inPlace := ["internal/bytealg.IndexByteString", "internal/bytealg.IndexString", "internal/bytealg.abigen_runtime_cmpstring"], unfollowed := true, recurses := true, named := ["unicode/utf8.first", "unicode/utf8.acceptRanges", "stackyard/hash.first", "stackyard/hash.orders", "stackyard/hash.places", "internal/bytealg.MaxLen"], apart := false, laid := [("unicode/utf8.acceptRanges", laid_unicode_utf8_acceptRanges), ("stackyard/hash.first", laid_stackyard_hash_first), ("stackyard/hash.orders", laid_stackyard_hash_orders), ("stackyard/hash.places", laid_stackyard_hash_places), ("unicode/utf8.first", laid_unicode_utf8_first)] }
def SegmentNamesSaid : Prop := segmentNamesRow.holds Tryz.pinned (OpenSpec.ofChange segmentNamesSpec)

/-- ITS FALSE NEIGHBOUR: 'it returns false'. Refute it at one input. -/
def segmentNamesWrong : ChangeSpec := { name := "segmentNames", fn := fun _ => fun
  | [d1, d2, d3] => { results := [.lit (.bool false)], args := [d1, d2, d3] }
  | _ => none }
def SegmentNamesWrongFalsely : Prop := segmentNamesRow.holds Tryz.pinned (OpenSpec.ofChange segmentNamesWrong)

/-- 'stackyardlaw09.SegmentOpens': WHATEVER THE INPUT: true; the input reads as it did. -/
def segmentOpensSpec : ChangeSpec := { name := "segmentOpens", fn := fun _ => fun
  | [d] => { results := [.lit (.bool true)], args := [d] }
  | _ => none }
def segmentOpensRow : OpenClaim := { program := "ytipgnehlihmdhaagreatdoor", sum := "2db3276695edb9d928b5592d86f4761a22cb64e77d3a5f5416185dcb9a8b9c70", func := "stackyard/stackyardlaw09.SegmentOpens", spec := "segmentOpens", inPlace := ["internal/bytealg.IndexByteString", "internal/bytealg.IndexString", "internal/bytealg.abigen_runtime_cmpstring"], unfollowed := true, recurses := true, named := ["unicode/utf8.first", "unicode/utf8.acceptRanges", "stackyard/hash.first", "stackyard/hash.orders", "stackyard/hash.places", "internal/bytealg.MaxLen"], apart := false, laid := [("unicode/utf8.acceptRanges", laid_unicode_utf8_acceptRanges), ("stackyard/hash.first", laid_stackyard_hash_first), ("stackyard/hash.orders", laid_stackyard_hash_orders), ("stackyard/hash.places", laid_stackyard_hash_places), ("unicode/utf8.first", laid_unicode_utf8_first)] }
def SegmentOpensSaid : Prop := segmentOpensRow.holds Tryz.pinned (OpenSpec.ofChange segmentOpensSpec)

/-- ITS FALSE NEIGHBOUR: 'it returns false'. Refute it at one input. -/
def segmentOpensWrong : ChangeSpec := { name := "segmentOpens", fn := fun _ => fun
  | [d] => { results := [.lit (.bool false)], args := [d] }
  | _ => none }
def SegmentOpensWrongFalsely : Prop := segmentOpensRow.holds Tryz.pinned (OpenSpec.ofChange segmentOpensWrong)

/-- 'stackyardlaw09.SegmentBack': WHATEVER THE INPUT: true; the input reads as it did. -/
def segmentBackSpec : ChangeSpec := { name := "segmentBack", fn := fun _ => fun
  | [d1, d2] => { results := [.lit (.bool true)], args := [d1, d2] }
  | _ => none }
def segmentBackRow : OpenClaim := { program := "ytipgnehlihmdhaagreatdoor", sum := "2db3276695edb9d928b5592d86f4761a22cb64e77d3a5f5416185dcb9a8b9c70", func := "stackyard/stackyardlaw09.SegmentBack", spec := "segmentBack", inPlace := ["internal/bytealg.IndexByteString", "internal/bytealg.IndexString", "internal/bytealg.abigen_runtime_cmpstring"], unfollowed := true, recurses := true, named := ["unicode/utf8.first", "unicode/utf8.acceptRanges", "stackyard/hash.first", "stackyard/hash.orders", "stackyard/hash.places", "internal/bytealg.MaxLen"], apart := false, laid := [("unicode/utf8.acceptRanges", laid_unicode_utf8_acceptRanges), ("stackyard/hash.first", laid_stackyard_hash_first), ("stackyard/hash.orders", laid_stackyard_hash_orders), ("stackyard/hash.places", laid_stackyard_hash_places), ("unicode/utf8.first", laid_unicode_utf8_first)] }
def SegmentBackSaid : Prop := segmentBackRow.holds Tryz.pinned (OpenSpec.ofChange segmentBackSpec)

/-- ITS FALSE NEIGHBOUR: 'it returns false'. Refute it at one input. -/
def segmentBackWrong : ChangeSpec := { name := "segmentBack", fn := fun _ => fun
  | [d1, d2] => { results := [.lit (.bool false)], args := [d1, d2] }
  | _ => none }
def SegmentBackWrongFalsely : Prop := segmentBackRow.holds Tryz.pinned (OpenSpec.ofChange segmentBackWrong)

/-- 'stackyardlaw09.SegmentNone': WHATEVER THE INPUT: true; the input reads as it did. -/
def segmentNoneSpec : ChangeSpec := { name := "segmentNone", fn := fun _ => fun
  | [d] => { results := [.lit (.bool true)], args := [d] }
  | _ => none }
def segmentNoneRow : OpenClaim := { program := "ytipgnehlihmdhaagreatdoor", sum := "2db3276695edb9d928b5592d86f4761a22cb64e77d3a5f5416185dcb9a8b9c70", func := "stackyard/stackyardlaw09.SegmentNone", spec := "segmentNone", inPlace := ["internal/bytealg.IndexByteString", "internal/bytealg.IndexString", "internal/bytealg.abigen_runtime_cmpstring"], unfollowed := true, recurses := true, named := ["unicode/utf8.first", "unicode/utf8.acceptRanges", "stackyard/hash.first", "stackyard/hash.orders", "stackyard/hash.places", "internal/bytealg.MaxLen"], apart := false, laid := [("unicode/utf8.acceptRanges", laid_unicode_utf8_acceptRanges), ("stackyard/hash.first", laid_stackyard_hash_first), ("stackyard/hash.orders", laid_stackyard_hash_orders), ("stackyard/hash.places", laid_stackyard_hash_places), ("unicode/utf8.first", laid_unicode_utf8_first)] }
def SegmentNoneSaid : Prop := segmentNoneRow.holds Tryz.pinned (OpenSpec.ofChange segmentNoneSpec)

/-- ITS FALSE NEIGHBOUR: 'it returns false'. Refute it at one input. -/
def segmentNoneWrong : ChangeSpec := { name := "segmentNone", fn := fun _ => fun
  | [d] => { results := [.lit (.bool false)], args := [d] }
  | _ => none }
def SegmentNoneWrongFalsely : Prop := segmentNoneRow.holds Tryz.pinned (OpenSpec.ofChange segmentNoneWrong)

/- THE SECOND FORM. 'bulk': how many values and letters a reading holds, each counted each time it is reached (what is shared counts as often as it is met; a slice's spare places count too). A statement '..UptoSaid' is the law's where the arguments, and the package variables that the reading takes, are together of bulk at most 1048576: NARROWER than '..Said'. Prove '..Said' where nothing that the law and all that it calls make is longer than what came in: it says more and counts as full. Else prove '..UptoSaid'. A law counts once. -/
mutual
def uptoBulk {H : Type} : DataW H → Nat
  | .lit (.string bytes) => bytes.length + 1
  | .lit _ => 1
  | .nil => 1
  | .ptr d => uptoBulk d + 1
  | .slice elems spare => uptoBulkAll elems + uptoBulkAll spare + 1
  | .agg parts => uptoBulkAll parts + 1
  | .iface _ d => uptoBulk d + 1
  | .map entries => uptoBulkEntries entries + 1
  | .held _ => 1
def uptoBulkAll {H : Type} : List (DataW H) → Nat
  | [] => 0
  | d :: r => uptoBulk d + uptoBulkAll r
def uptoBulkEntries {H : Type} : List (Lit × DataW H) → Nat
  | [] => 0
  | x :: r => uptoBulkEntry x + uptoBulkEntries r
def uptoBulkEntry {H : Type} : Lit × DataW H → Nat
  | (.string bytes, d) => bytes.length + uptoBulk d + 1
  | (_, d) => uptoBulk d + 1
 end
def uptoSmall : (H : Type) → List (DataW H) → Bool := fun _ ds => decide (uptoBulkAll ds ≤ 1048576)
def OpenSpec.upto (s : _root_.Go.ChangeSpec) : _root_.Go.OpenSpec := { _root_.Go.OpenSpec.ofChange s with cond := some uptoSmall }

/-- 'stackyardlaw09.SegmentTurns', WHERE WHAT IT READS IS OF BULK AT MOST 1048576: true; the input reads as it did. -/
def segmentTurnsUptoRow : OpenClaim := { program := "ytipgnehlihmdhaagreatdoor", sum := "2db3276695edb9d928b5592d86f4761a22cb64e77d3a5f5416185dcb9a8b9c70", func := "stackyard/stackyardlaw09.SegmentTurns", spec := "segmentTurns", inPlace := ["internal/bytealg.IndexByteString", "internal/bytealg.IndexString", "internal/bytealg.abigen_runtime_cmpstring"], unfollowed := true, recurses := true, named := ["unicode/utf8.first", "unicode/utf8.acceptRanges", "stackyard/hash.first", "stackyard/hash.orders", "stackyard/hash.places", "internal/bytealg.MaxLen"], apart := false, laid := [("unicode/utf8.acceptRanges", laid_unicode_utf8_acceptRanges), ("stackyard/hash.first", laid_stackyard_hash_first), ("stackyard/hash.orders", laid_stackyard_hash_orders), ("stackyard/hash.places", laid_stackyard_hash_places), ("unicode/utf8.first", laid_unicode_utf8_first)], narrowed := true }
def SegmentTurnsUptoSaid : Prop := segmentTurnsUptoRow.holds Tryz.pinned (OpenSpec.upto segmentTurnsSpec)

/-- 'stackyardlaw09.SegmentWords', WHERE WHAT IT READS IS OF BULK AT MOST 1048576: true; the input reads as it did. -/
def segmentWordsUptoRow : OpenClaim := { program := "ytipgnehlihmdhaagreatdoor", sum := "2db3276695edb9d928b5592d86f4761a22cb64e77d3a5f5416185dcb9a8b9c70", func := "stackyard/stackyardlaw09.SegmentWords", spec := "segmentWords", inPlace := ["internal/bytealg.IndexByteString", "internal/bytealg.IndexString", "internal/bytealg.abigen_runtime_cmpstring"], unfollowed := true, recurses := true, named := ["unicode/utf8.first", "unicode/utf8.acceptRanges", "stackyard/hash.first", "stackyard/hash.orders", "stackyard/hash.places", "internal/bytealg.MaxLen"], apart := false, laid := [("unicode/utf8.acceptRanges", laid_unicode_utf8_acceptRanges), ("stackyard/hash.first", laid_stackyard_hash_first), ("stackyard/hash.orders", laid_stackyard_hash_orders), ("stackyard/hash.places", laid_stackyard_hash_places), ("unicode/utf8.first", laid_unicode_utf8_first)], narrowed := true }
def SegmentWordsUptoSaid : Prop := segmentWordsUptoRow.holds Tryz.pinned (OpenSpec.upto segmentWordsSpec)

/-- 'stackyardlaw09.SegmentNames', WHERE WHAT IT READS IS OF BULK AT MOST 1048576: true; the input reads as it did. -/
def segmentNamesUptoRow : OpenClaim := { program := "ytipgnehlihmdhaagreatdoor", sum := "2db3276695edb9d928b5592d86f4761a22cb64e77d3a5f5416185dcb9a8b9c70", func := "stackyard/stackyardlaw09.SegmentNames", spec := "segmentNames", inPlace := ["internal/bytealg.IndexByteString", "internal/bytealg.IndexString", "internal/bytealg.abigen_runtime_cmpstring"], unfollowed := true, recurses := true, named := ["unicode/utf8.first", "unicode/utf8.acceptRanges", "stackyard/hash.first", "stackyard/hash.orders", "stackyard/hash.places", "internal/bytealg.MaxLen"], apart := false, laid := [("unicode/utf8.acceptRanges", laid_unicode_utf8_acceptRanges), ("stackyard/hash.first", laid_stackyard_hash_first), ("stackyard/hash.orders", laid_stackyard_hash_orders), ("stackyard/hash.places", laid_stackyard_hash_places), ("unicode/utf8.first", laid_unicode_utf8_first)], narrowed := true }
def SegmentNamesUptoSaid : Prop := segmentNamesUptoRow.holds Tryz.pinned (OpenSpec.upto segmentNamesSpec)

/-- 'stackyardlaw09.SegmentOpens', WHERE WHAT IT READS IS OF BULK AT MOST 1048576: true; the input reads as it did. -/
def segmentOpensUptoRow : OpenClaim := { program := "ytipgnehlihmdhaagreatdoor", sum := "2db3276695edb9d928b5592d86f4761a22cb64e77d3a5f5416185dcb9a8b9c70", func := "stackyard/stackyardlaw09.SegmentOpens", spec := "segmentOpens", inPlace := ["internal/bytealg.IndexByteString", "internal/bytealg.IndexString", "internal/bytealg.abigen_runtime_cmpstring"], unfollowed := true, recurses := true, named := ["unicode/utf8.first", "unicode/utf8.acceptRanges", "stackyard/hash.first", "stackyard/hash.orders", "stackyard/hash.places", "internal/bytealg.MaxLen"], apart := false, laid := [("unicode/utf8.acceptRanges", laid_unicode_utf8_acceptRanges), ("stackyard/hash.first", laid_stackyard_hash_first), ("stackyard/hash.orders", laid_stackyard_hash_orders), ("stackyard/hash.places", laid_stackyard_hash_places), ("unicode/utf8.first", laid_unicode_utf8_first)], narrowed := true }
def SegmentOpensUptoSaid : Prop := segmentOpensUptoRow.holds Tryz.pinned (OpenSpec.upto segmentOpensSpec)

/-- 'stackyardlaw09.SegmentBack', WHERE WHAT IT READS IS OF BULK AT MOST 1048576: true; the input reads as it did. -/
def segmentBackUptoRow : OpenClaim := { program := "ytipgnehlihmdhaagreatdoor", sum := "2db3276695edb9d928b5592d86f4761a22cb64e77d3a5f5416185dcb9a8b9c70", func := "stackyard/stackyardlaw09.SegmentBack", spec := "segmentBack", inPlace := ["internal/bytealg.IndexByteString", "internal/bytealg.IndexString", "internal/bytealg.abigen_runtime_cmpstring"], unfollowed := true, recurses := true, named := ["unicode/utf8.first", "unicode/utf8.acceptRanges", "stackyard/hash.first", "stackyard/hash.orders", "stackyard/hash.places", "internal/bytealg.MaxLen"], apart := false, laid := [("unicode/utf8.acceptRanges", laid_unicode_utf8_acceptRanges), ("stackyard/hash.first", laid_stackyard_hash_first), ("stackyard/hash.orders", laid_stackyard_hash_orders), ("stackyard/hash.places", laid_stackyard_hash_places), ("unicode/utf8.first", laid_unicode_utf8_first)], narrowed := true }
def SegmentBackUptoSaid : Prop := segmentBackUptoRow.holds Tryz.pinned (OpenSpec.upto segmentBackSpec)

/-- 'stackyardlaw09.SegmentNone', WHERE WHAT IT READS IS OF BULK AT MOST 1048576: true; the input reads as it did. -/
def segmentNoneUptoRow : OpenClaim := { program := "ytipgnehlihmdhaagreatdoor", sum := "2db3276695edb9d928b5592d86f4761a22cb64e77d3a5f5416185dcb9a8b9c70", func := "stackyard/stackyardlaw09.SegmentNone", spec := "segmentNone", inPlace := ["internal/bytealg.IndexByteString", "internal/bytealg.IndexString", "internal/bytealg.abigen_runtime_cmpstring"], unfollowed := true, recurses := true, named := ["unicode/utf8.first", "unicode/utf8.acceptRanges", "stackyard/hash.first", "stackyard/hash.orders", "stackyard/hash.places", "internal/bytealg.MaxLen"], apart := false, laid := [("unicode/utf8.acceptRanges", laid_unicode_utf8_acceptRanges), ("stackyard/hash.first", laid_stackyard_hash_first), ("stackyard/hash.orders", laid_stackyard_hash_orders), ("stackyard/hash.places", laid_stackyard_hash_places), ("unicode/utf8.first", laid_unicode_utf8_first)], narrowed := true }
def SegmentNoneUptoSaid : Prop := segmentNoneUptoRow.holds Tryz.pinned (OpenSpec.upto segmentNoneSpec)

end Rows
end Go.Proofs.YtipgnehlihmdhaaGreatDoor
