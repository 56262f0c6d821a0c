/-
  NARROWER THAN 'FOR EVERY INPUT', by the rows' own cells (each row's printed sentence says how): CatalogTwice: laid · CatalogRows: laid · CatalogWords: laid · CatalogNone: laid · CatalogOn: laid · CatalogLoads: laid.
  DERIVED. THE GIVEN ROWS OF THIS SEAT. 6 by the template 'for every input the law returns true; each argument reads behind the call as it read before'; 0 by the template 'total and deterministic' (their statements: YtpnaifmmggnimaaGreatDoorTotals.lean).
  GIVEN WITH THE SEED: the statements are not yours to turn. If you find one false, say at which input.
  Laid BY PROGRAM, IN A SANDBOX (cutbox-rows.mjs): the forced cells as the released guide's own fill.sh prints them over the translation ad02a94d821d310b… (all of the seat's roots in one cut). By AI agents, Wed Nov 11 2026. No macro, syntax, notation, axiom, sorry.
-/
import Derived.Test.YtpnaifmmggnimaaGreatDoorChecked
import GoSem.PinnedTables
import GoSem.Claim
import GoSem.ClaimJoined
import GoSem.ClaimMapViews
import Derived.JoinedTies
import Derived.KernelRfl
namespace Go.Proofs.YtpnaifmmggnimaaGreatDoor
/- THE CELL 'sum', in the pinned program and in every row, IS THE sha256 OF THE DUMP (.gsa) THAT YtpnaifmmggnimaaGreatDoorProg.lean LOADS. Nothing in Lean hashes anything: it is a label: what it is worth is what the hold of that sum in a sandbox is worth. -/
noncomputable def Tryz.pinned : Pinned := { name := "ytpnaifmmggnimaagreatdoor", sum := "ad02a94d821d310bcac3f408132d882b3d3ebc543553bef83d281881f04e38a7", checked := Tryz.checked }
namespace Rows
def none {H : Type} : Left H := { results := [], args := [] }

/- WHAT THE LISTED PACKAGE-LEVEL VARIABLES READ AS WHEN THE CALL BEGINS. Each datum BY PROGRAM (the guide's laid-datum.mjs) off the statement by which the dump's own 'gosem.cut.vars' lays the variable. In a bare row this is a premise. The card (YtpnaifmmggnimaaGreatDoorCards.lean) ties it to the program's text. -/
def laid_unicode_utf8_acceptRanges {H : Type} : DataW H := .agg [.agg [.lit (.int .u8 128), .lit (.int .u8 191)], .agg [.lit (.int .u8 160), .lit (.int .u8 191)], .agg [.lit (.int .u8 128), .lit (.int .u8 159)], .agg [.lit (.int .u8 144), .lit (.int .u8 191)], .agg [.lit (.int .u8 128), .lit (.int .u8 143)], .agg [.lit (.int .u8 0), .lit (.int .u8 0)], .agg [.lit (.int .u8 0), .lit (.int .u8 0)], .agg [.lit (.int .u8 0), .lit (.int .u8 0)], .agg [.lit (.int .u8 0), .lit (.int .u8 0)], .agg [.lit (.int .u8 0), .lit (.int .u8 0)], .agg [.lit (.int .u8 0), .lit (.int .u8 0)], .agg [.lit (.int .u8 0), .lit (.int .u8 0)], .agg [.lit (.int .u8 0), .lit (.int .u8 0)], .agg [.lit (.int .u8 0), .lit (.int .u8 0)], .agg [.lit (.int .u8 0), .lit (.int .u8 0)], .agg [.lit (.int .u8 0), .lit (.int .u8 0)]]
def laid_stackyard_hash_first {H : Type} : DataW H := .agg [.lit (.int .u32 1779033703), .lit (.int .u32 3144134277), .lit (.int .u32 1013904242), .lit (.int .u32 2773480762), .lit (.int .u32 1359893119), .lit (.int .u32 2600822924), .lit (.int .u32 528734635), .lit (.int .u32 1541459225)]
def laid_stackyard_hash_orders {H : Type} : DataW H := .agg [.agg [.lit (.int .u8 0), .lit (.int .u8 1), .lit (.int .u8 2), .lit (.int .u8 3), .lit (.int .u8 4), .lit (.int .u8 5), .lit (.int .u8 6), .lit (.int .u8 7), .lit (.int .u8 8), .lit (.int .u8 9), .lit (.int .u8 10), .lit (.int .u8 11), .lit (.int .u8 12), .lit (.int .u8 13), .lit (.int .u8 14), .lit (.int .u8 15)], .agg [.lit (.int .u8 14), .lit (.int .u8 10), .lit (.int .u8 4), .lit (.int .u8 8), .lit (.int .u8 9), .lit (.int .u8 15), .lit (.int .u8 13), .lit (.int .u8 6), .lit (.int .u8 1), .lit (.int .u8 12), .lit (.int .u8 0), .lit (.int .u8 2), .lit (.int .u8 11), .lit (.int .u8 7), .lit (.int .u8 5), .lit (.int .u8 3)], .agg [.lit (.int .u8 11), .lit (.int .u8 8), .lit (.int .u8 12), .lit (.int .u8 0), .lit (.int .u8 5), .lit (.int .u8 2), .lit (.int .u8 15), .lit (.int .u8 13), .lit (.int .u8 10), .lit (.int .u8 14), .lit (.int .u8 3), .lit (.int .u8 6), .lit (.int .u8 7), .lit (.int .u8 1), .lit (.int .u8 9), .lit (.int .u8 4)], .agg [.lit (.int .u8 7), .lit (.int .u8 9), .lit (.int .u8 3), .lit (.int .u8 1), .lit (.int .u8 13), .lit (.int .u8 12), .lit (.int .u8 11), .lit (.int .u8 14), .lit (.int .u8 2), .lit (.int .u8 6), .lit (.int .u8 5), .lit (.int .u8 10), .lit (.int .u8 4), .lit (.int .u8 0), .lit (.int .u8 15), .lit (.int .u8 8)], .agg [.lit (.int .u8 9), .lit (.int .u8 0), .lit (.int .u8 5), .lit (.int .u8 7), .lit (.int .u8 2), .lit (.int .u8 4), .lit (.int .u8 10), .lit (.int .u8 15), .lit (.int .u8 14), .lit (.int .u8 1), .lit (.int .u8 11), .lit (.int .u8 12), .lit (.int .u8 6), .lit (.int .u8 8), .lit (.int .u8 3), .lit (.int .u8 13)], .agg [.lit (.int .u8 2), .lit (.int .u8 12), .lit (.int .u8 6), .lit (.int .u8 10), .lit (.int .u8 0), .lit (.int .u8 11), .lit (.int .u8 8), .lit (.int .u8 3), .lit (.int .u8 4), .lit (.int .u8 13), .lit (.int .u8 7), .lit (.int .u8 5), .lit (.int .u8 15), .lit (.int .u8 14), .lit (.int .u8 1), .lit (.int .u8 9)], .agg [.lit (.int .u8 12), .lit (.int .u8 5), .lit (.int .u8 1), .lit (.int .u8 15), .lit (.int .u8 14), .lit (.int .u8 13), .lit (.int .u8 4), .lit (.int .u8 10), .lit (.int .u8 0), .lit (.int .u8 7), .lit (.int .u8 6), .lit (.int .u8 3), .lit (.int .u8 9), .lit (.int .u8 2), .lit (.int .u8 8), .lit (.int .u8 11)], .agg [.lit (.int .u8 13), .lit (.int .u8 11), .lit (.int .u8 7), .lit (.int .u8 14), .lit (.int .u8 12), .lit (.int .u8 1), .lit (.int .u8 3), .lit (.int .u8 9), .lit (.int .u8 5), .lit (.int .u8 0), .lit (.int .u8 15), .lit (.int .u8 4), .lit (.int .u8 8), .lit (.int .u8 6), .lit (.int .u8 2), .lit (.int .u8 10)], .agg [.lit (.int .u8 6), .lit (.int .u8 15), .lit (.int .u8 14), .lit (.int .u8 9), .lit (.int .u8 11), .lit (.int .u8 3), .lit (.int .u8 0), .lit (.int .u8 8), .lit (.int .u8 12), .lit (.int .u8 2), .lit (.int .u8 13), .lit (.int .u8 7), .lit (.int .u8 1), .lit (.int .u8 4), .lit (.int .u8 10), .lit (.int .u8 5)], .agg [.lit (.int .u8 10), .lit (.int .u8 2), .lit (.int .u8 8), .lit (.int .u8 4), .lit (.int .u8 7), .lit (.int .u8 6), .lit (.int .u8 1), .lit (.int .u8 5), .lit (.int .u8 15), .lit (.int .u8 11), .lit (.int .u8 9), .lit (.int .u8 14), .lit (.int .u8 3), .lit (.int .u8 12), .lit (.int .u8 13), .lit (.int .u8 0)]]
def laid_stackyard_hash_places {H : Type} : DataW H := .agg [.agg [.lit (.int .u8 0), .lit (.int .u8 4), .lit (.int .u8 8), .lit (.int .u8 12)], .agg [.lit (.int .u8 1), .lit (.int .u8 5), .lit (.int .u8 9), .lit (.int .u8 13)], .agg [.lit (.int .u8 2), .lit (.int .u8 6), .lit (.int .u8 10), .lit (.int .u8 14)], .agg [.lit (.int .u8 3), .lit (.int .u8 7), .lit (.int .u8 11), .lit (.int .u8 15)], .agg [.lit (.int .u8 0), .lit (.int .u8 5), .lit (.int .u8 10), .lit (.int .u8 15)], .agg [.lit (.int .u8 1), .lit (.int .u8 6), .lit (.int .u8 11), .lit (.int .u8 12)], .agg [.lit (.int .u8 2), .lit (.int .u8 7), .lit (.int .u8 8), .lit (.int .u8 13)], .agg [.lit (.int .u8 3), .lit (.int .u8 4), .lit (.int .u8 9), .lit (.int .u8 14)]]
/-- One of Go's own tables, pinned by name: the form's constant. -/
def laid_unicode_utf8_first : DataW Unit := Go.Pinned.utf8First

/-- 'stackyardlaw22.CatalogTwice': WHATEVER THE INPUT: true; the input reads as it did. -/
def catalogTwiceSpec : ChangeSpec := { name := "catalogTwice", fn := fun _ => fun
  | [d] => { results := [.lit (.bool true)], args := [d] }
  | _ => none }
def catalogTwiceRow : OpenClaim := { program := "ytpnaifmmggnimaagreatdoor", sum := "ad02a94d821d310bcac3f408132d882b3d3ebc543553bef83d281881f04e38a7", func := "stackyard/stackyardlaw22.CatalogTwice", spec := "catalogTwice", inPlace := ["internal/bytealg.IndexByteString", "internal/bytealg.IndexString", "internal/bytealg.abigen_runtime_cmpstring"], unfollowed := true, recurses := true, named := ["unicode/utf8.first", "unicode/utf8.acceptRanges", "stackyard/hash.first", "stackyard/hash.orders", "stackyard/hash.places", "internal/bytealg.MaxLen"], apart := false, laid := [("unicode/utf8.acceptRanges", laid_unicode_utf8_acceptRanges), ("stackyard/hash.first", laid_stackyard_hash_first), ("stackyard/hash.orders", laid_stackyard_hash_orders), ("stackyard/hash.places", laid_stackyard_hash_places), ("unicode/utf8.first", laid_unicode_utf8_first)] }
def CatalogTwiceSaid : Prop := catalogTwiceRow.holds Tryz.pinned (OpenSpec.ofChange catalogTwiceSpec)

/-- ITS FALSE NEIGHBOUR: 'it returns false'. Refute it at one input. -/
def catalogTwiceWrong : ChangeSpec := { name := "catalogTwice", fn := fun _ => fun
  | [d] => { results := [.lit (.bool false)], args := [d] }
  | _ => none }
def CatalogTwiceWrongFalsely : Prop := catalogTwiceRow.holds Tryz.pinned (OpenSpec.ofChange catalogTwiceWrong)

/-- 'stackyardlaw22.CatalogRows': WHATEVER THE INPUT: true; the input reads as it did. -/
def catalogRowsSpec : ChangeSpec := { name := "catalogRows", fn := fun _ => fun
  | [d] => { results := [.lit (.bool true)], args := [d] }
  | _ => none }
def catalogRowsRow : OpenClaim := { program := "ytpnaifmmggnimaagreatdoor", sum := "ad02a94d821d310bcac3f408132d882b3d3ebc543553bef83d281881f04e38a7", func := "stackyard/stackyardlaw22.CatalogRows", spec := "catalogRows", inPlace := ["internal/bytealg.IndexByteString", "internal/bytealg.IndexString", "internal/bytealg.abigen_runtime_cmpstring"], unfollowed := true, recurses := true, named := ["unicode/utf8.first", "unicode/utf8.acceptRanges", "stackyard/hash.first", "stackyard/hash.orders", "stackyard/hash.places", "internal/bytealg.MaxLen"], apart := false, laid := [("unicode/utf8.acceptRanges", laid_unicode_utf8_acceptRanges), ("stackyard/hash.first", laid_stackyard_hash_first), ("stackyard/hash.orders", laid_stackyard_hash_orders), ("stackyard/hash.places", laid_stackyard_hash_places), ("unicode/utf8.first", laid_unicode_utf8_first)] }
def CatalogRowsSaid : Prop := catalogRowsRow.holds Tryz.pinned (OpenSpec.ofChange catalogRowsSpec)

/-- ITS FALSE NEIGHBOUR: 'it returns false'. Refute it at one input. -/
def catalogRowsWrong : ChangeSpec := { name := "catalogRows", fn := fun _ => fun
  | [d] => { results := [.lit (.bool false)], args := [d] }
  | _ => none }
def CatalogRowsWrongFalsely : Prop := catalogRowsRow.holds Tryz.pinned (OpenSpec.ofChange catalogRowsWrong)

/-- 'stackyardlaw22.CatalogWords': WHATEVER THE INPUT: true; the input reads as it did. -/
def catalogWordsSpec : ChangeSpec := { name := "catalogWords", fn := fun _ => fun
  | [d1, d2, d3, d4, d5, d6] => { results := [.lit (.bool true)], args := [d1, d2, d3, d4, d5, d6] }
  | _ => none }
def catalogWordsRow : OpenClaim := { program := "ytpnaifmmggnimaagreatdoor", sum := "ad02a94d821d310bcac3f408132d882b3d3ebc543553bef83d281881f04e38a7", func := "stackyard/stackyardlaw22.CatalogWords", spec := "catalogWords", inPlace := ["internal/bytealg.IndexByteString", "internal/bytealg.IndexString", "internal/bytealg.abigen_runtime_cmpstring"], unfollowed := true, recurses := true, named := ["unicode/utf8.first", "unicode/utf8.acceptRanges", "stackyard/hash.first", "stackyard/hash.orders", "stackyard/hash.places", "internal/bytealg.MaxLen"], apart := false, laid := [("unicode/utf8.acceptRanges", laid_unicode_utf8_acceptRanges), ("stackyard/hash.first", laid_stackyard_hash_first), ("stackyard/hash.orders", laid_stackyard_hash_orders), ("stackyard/hash.places", laid_stackyard_hash_places), ("unicode/utf8.first", laid_unicode_utf8_first)] }
def CatalogWordsSaid : Prop := catalogWordsRow.holds Tryz.pinned (OpenSpec.ofChange catalogWordsSpec)

/-- ITS FALSE NEIGHBOUR: 'it returns false'. Refute it at one input. -/
def catalogWordsWrong : ChangeSpec := { name := "catalogWords", fn := fun _ => fun
  | [d1, d2, d3, d4, d5, d6] => { results := [.lit (.bool false)], args := [d1, d2, d3, d4, d5, d6] }
  | _ => none }
def CatalogWordsWrongFalsely : Prop := catalogWordsRow.holds Tryz.pinned (OpenSpec.ofChange catalogWordsWrong)

/-- 'stackyardlaw22.CatalogNone': WHATEVER THE INPUT: true; the input reads as it did. -/
def catalogNoneSpec : ChangeSpec := { name := "catalogNone", fn := fun _ => fun
  | [d] => { results := [.lit (.bool true)], args := [d] }
  | _ => none }
def catalogNoneRow : OpenClaim := { program := "ytpnaifmmggnimaagreatdoor", sum := "ad02a94d821d310bcac3f408132d882b3d3ebc543553bef83d281881f04e38a7", func := "stackyard/stackyardlaw22.CatalogNone", spec := "catalogNone", inPlace := ["internal/bytealg.IndexByteString", "internal/bytealg.IndexString", "internal/bytealg.abigen_runtime_cmpstring"], unfollowed := true, recurses := true, named := ["unicode/utf8.first", "unicode/utf8.acceptRanges", "stackyard/hash.first", "stackyard/hash.orders", "stackyard/hash.places", "internal/bytealg.MaxLen"], apart := false, laid := [("unicode/utf8.acceptRanges", laid_unicode_utf8_acceptRanges), ("stackyard/hash.first", laid_stackyard_hash_first), ("stackyard/hash.orders", laid_stackyard_hash_orders), ("stackyard/hash.places", laid_stackyard_hash_places), ("unicode/utf8.first", laid_unicode_utf8_first)] }
def CatalogNoneSaid : Prop := catalogNoneRow.holds Tryz.pinned (OpenSpec.ofChange catalogNoneSpec)

/-- ITS FALSE NEIGHBOUR: 'it returns false'. Refute it at one input. -/
def catalogNoneWrong : ChangeSpec := { name := "catalogNone", fn := fun _ => fun
  | [d] => { results := [.lit (.bool false)], args := [d] }
  | _ => none }
def CatalogNoneWrongFalsely : Prop := catalogNoneRow.holds Tryz.pinned (OpenSpec.ofChange catalogNoneWrong)

/-- 'stackyardlaw22.CatalogOn': WHATEVER THE INPUT: true; the input reads as it did. -/
def catalogOnSpec : ChangeSpec := { name := "catalogOn", fn := fun _ => fun
  | [d1, d2] => { results := [.lit (.bool true)], args := [d1, d2] }
  | _ => none }
def catalogOnRow : OpenClaim := { program := "ytpnaifmmggnimaagreatdoor", sum := "ad02a94d821d310bcac3f408132d882b3d3ebc543553bef83d281881f04e38a7", func := "stackyard/stackyardlaw22.CatalogOn", spec := "catalogOn", inPlace := ["internal/bytealg.IndexByteString", "internal/bytealg.IndexString", "internal/bytealg.abigen_runtime_cmpstring"], unfollowed := true, recurses := true, named := ["unicode/utf8.first", "unicode/utf8.acceptRanges", "stackyard/hash.first", "stackyard/hash.orders", "stackyard/hash.places", "internal/bytealg.MaxLen"], apart := false, laid := [("unicode/utf8.acceptRanges", laid_unicode_utf8_acceptRanges), ("stackyard/hash.first", laid_stackyard_hash_first), ("stackyard/hash.orders", laid_stackyard_hash_orders), ("stackyard/hash.places", laid_stackyard_hash_places), ("unicode/utf8.first", laid_unicode_utf8_first)] }
def CatalogOnSaid : Prop := catalogOnRow.holds Tryz.pinned (OpenSpec.ofChange catalogOnSpec)

/-- ITS FALSE NEIGHBOUR: 'it returns false'. Refute it at one input. -/
def catalogOnWrong : ChangeSpec := { name := "catalogOn", fn := fun _ => fun
  | [d1, d2] => { results := [.lit (.bool false)], args := [d1, d2] }
  | _ => none }
def CatalogOnWrongFalsely : Prop := catalogOnRow.holds Tryz.pinned (OpenSpec.ofChange catalogOnWrong)

/-- 'stackyardlaw22.CatalogLoads': WHATEVER THE INPUT: true; the input reads as it did. -/
def catalogLoadsSpec : ChangeSpec := { name := "catalogLoads", fn := fun _ => fun
  | [d] => { results := [.lit (.bool true)], args := [d] }
  | _ => none }
def catalogLoadsRow : OpenClaim := { program := "ytpnaifmmggnimaagreatdoor", sum := "ad02a94d821d310bcac3f408132d882b3d3ebc543553bef83d281881f04e38a7", func := "stackyard/stackyardlaw22.CatalogLoads", spec := "catalogLoads", inPlace := ["internal/bytealg.IndexByteString", "internal/bytealg.IndexString", "internal/bytealg.abigen_runtime_cmpstring"], unfollowed := true, recurses := true, named := ["unicode/utf8.first", "unicode/utf8.acceptRanges", "stackyard/hash.first", "stackyard/hash.orders", "stackyard/hash.places", "internal/bytealg.MaxLen"], apart := false, laid := [("unicode/utf8.acceptRanges", laid_unicode_utf8_acceptRanges), ("stackyard/hash.first", laid_stackyard_hash_first), ("stackyard/hash.orders", laid_stackyard_hash_orders), ("stackyard/hash.places", laid_stackyard_hash_places), ("unicode/utf8.first", laid_unicode_utf8_first)] }
def CatalogLoadsSaid : Prop := catalogLoadsRow.holds Tryz.pinned (OpenSpec.ofChange catalogLoadsSpec)

/-- ITS FALSE NEIGHBOUR: 'it returns false'. Refute it at one input. -/
def catalogLoadsWrong : ChangeSpec := { name := "catalogLoads", fn := fun _ => fun
  | [d] => { results := [.lit (.bool false)], args := [d] }
  | _ => none }
def CatalogLoadsWrongFalsely : Prop := catalogLoadsRow.holds Tryz.pinned (OpenSpec.ofChange catalogLoadsWrong)

/- THE SECOND FORM. 'bulk': how many values and letters a reading holds, each counted each time it is reached (what is shared counts as often as it is met; a slice's spare places count too). A statement '..UptoSaid' is the law's where the arguments, and the package variables that the reading takes, are together of bulk at most 1048576: NARROWER than '..Said'. Prove '..Said' where nothing that the law and all that it calls make is longer than what came in: it says more and counts as full. Else prove '..UptoSaid'. A law counts once. -/
mutual
def uptoBulk {H : Type} : DataW H → Nat
  | .lit (.string bytes) => bytes.length + 1
  | .lit _ => 1
  | .nil => 1
  | .ptr d => uptoBulk d + 1
  | .slice elems spare => uptoBulkAll elems + uptoBulkAll spare + 1
  | .agg parts => uptoBulkAll parts + 1
  | .iface _ d => uptoBulk d + 1
  | .map entries => uptoBulkEntries entries + 1
  | .held _ => 1
def uptoBulkAll {H : Type} : List (DataW H) → Nat
  | [] => 0
  | d :: r => uptoBulk d + uptoBulkAll r
def uptoBulkEntries {H : Type} : List (Lit × DataW H) → Nat
  | [] => 0
  | x :: r => uptoBulkEntry x + uptoBulkEntries r
def uptoBulkEntry {H : Type} : Lit × DataW H → Nat
  | (.string bytes, d) => bytes.length + uptoBulk d + 1
  | (_, d) => uptoBulk d + 1
 end
def uptoSmall : (H : Type) → List (DataW H) → Bool := fun _ ds => decide (uptoBulkAll ds ≤ 1048576)
def OpenSpec.upto (s : _root_.Go.ChangeSpec) : _root_.Go.OpenSpec := { _root_.Go.OpenSpec.ofChange s with cond := some uptoSmall }

/-- 'stackyardlaw22.CatalogTwice', WHERE WHAT IT READS IS OF BULK AT MOST 1048576: true; the input reads as it did. -/
def catalogTwiceUptoRow : OpenClaim := { program := "ytpnaifmmggnimaagreatdoor", sum := "ad02a94d821d310bcac3f408132d882b3d3ebc543553bef83d281881f04e38a7", func := "stackyard/stackyardlaw22.CatalogTwice", spec := "catalogTwice", inPlace := ["internal/bytealg.IndexByteString", "internal/bytealg.IndexString", "internal/bytealg.abigen_runtime_cmpstring"], unfollowed := true, recurses := true, named := ["unicode/utf8.first", "unicode/utf8.acceptRanges", "stackyard/hash.first", "stackyard/hash.orders", "stackyard/hash.places", "internal/bytealg.MaxLen"], apart := false, laid := [("unicode/utf8.acceptRanges", laid_unicode_utf8_acceptRanges), ("stackyard/hash.first", laid_stackyard_hash_first), ("stackyard/hash.orders", laid_stackyard_hash_orders), ("stackyard/hash.places", laid_stackyard_hash_places), ("unicode/utf8.first", laid_unicode_utf8_first)], narrowed := true }
def CatalogTwiceUptoSaid : Prop := catalogTwiceUptoRow.holds Tryz.pinned (OpenSpec.upto catalogTwiceSpec)

/-- 'stackyardlaw22.CatalogRows', WHERE WHAT IT READS IS OF BULK AT MOST 1048576: true; the input reads as it did. -/
def catalogRowsUptoRow : OpenClaim := { program := "ytpnaifmmggnimaagreatdoor", sum := "ad02a94d821d310bcac3f408132d882b3d3ebc543553bef83d281881f04e38a7", func := "stackyard/stackyardlaw22.CatalogRows", spec := "catalogRows", inPlace := ["internal/bytealg.IndexByteString", "internal/bytealg.IndexString", "internal/bytealg.abigen_runtime_cmpstring"], unfollowed := true, recurses := true, named := ["unicode/utf8.first", "unicode/utf8.acceptRanges", "stackyard/hash.first", "stackyard/hash.orders", "stackyard/hash.places", "internal/bytealg.MaxLen"], apart := false, laid := [("unicode/utf8.acceptRanges", laid_unicode_utf8_acceptRanges), ("stackyard/hash.first", laid_stackyard_hash_first), ("stackyard/hash.orders", laid_stackyard_hash_orders), ("stackyard/hash.places", laid_stackyard_hash_places), ("unicode/utf8.first", laid_unicode_utf8_first)], narrowed := true }
def CatalogRowsUptoSaid : Prop := catalogRowsUptoRow.holds Tryz.pinned (OpenSpec.upto catalogRowsSpec)

/-- 'stackyardlaw22.CatalogWords', WHERE WHAT IT READS IS OF BULK AT MOST 1048576: true; the input reads as it did. -/
def catalogWordsUptoRow : OpenClaim := { program := "ytpnaifmmggnimaagreatdoor", sum := "ad02a94d821d310bcac3f408132d882b3d3ebc543553bef83d281881f04e38a7", func := "stackyard/stackyardlaw22.CatalogWords", spec := "catalogWords", inPlace := ["internal/bytealg.IndexByteString", "internal/bytealg.IndexString", "internal/bytealg.abigen_runtime_cmpstring"], unfollowed := true, recurses := true, named := ["unicode/utf8.first", "unicode/utf8.acceptRanges", "stackyard/hash.first", "stackyard/hash.orders", "stackyard/hash.places", "internal/bytealg.MaxLen"], apart := false, laid := [("unicode/utf8.acceptRanges", laid_unicode_utf8_acceptRanges), ("stackyard/hash.first", laid_stackyard_hash_first), ("stackyard/hash.orders", laid_stackyard_hash_orders), ("stackyard/hash.places", laid_stackyard_hash_places), ("unicode/utf8.first", laid_unicode_utf8_first)], narrowed := true }
def CatalogWordsUptoSaid : Prop := catalogWordsUptoRow.holds Tryz.pinned (OpenSpec.upto catalogWordsSpec)

/-- 'stackyardlaw22.CatalogNone', WHERE WHAT IT READS IS OF BULK AT MOST 1048576: true; the input reads as it did. -/
def catalogNoneUptoRow : OpenClaim := { program := "ytpnaifmmggnimaagreatdoor", sum := "ad02a94d821d310bcac3f408132d882b3d3ebc543553bef83d281881f04e38a7", func := "stackyard/stackyardlaw22.CatalogNone", spec := "catalogNone", inPlace := ["internal/bytealg.IndexByteString", "internal/bytealg.IndexString", "internal/bytealg.abigen_runtime_cmpstring"], unfollowed := true, recurses := true, named := ["unicode/utf8.first", "unicode/utf8.acceptRanges", "stackyard/hash.first", "stackyard/hash.orders", "stackyard/hash.places", "internal/bytealg.MaxLen"], apart := false, laid := [("unicode/utf8.acceptRanges", laid_unicode_utf8_acceptRanges), ("stackyard/hash.first", laid_stackyard_hash_first), ("stackyard/hash.orders", laid_stackyard_hash_orders), ("stackyard/hash.places", laid_stackyard_hash_places), ("unicode/utf8.first", laid_unicode_utf8_first)], narrowed := true }
def CatalogNoneUptoSaid : Prop := catalogNoneUptoRow.holds Tryz.pinned (OpenSpec.upto catalogNoneSpec)

/-- 'stackyardlaw22.CatalogOn', WHERE WHAT IT READS IS OF BULK AT MOST 1048576: true; the input reads as it did. -/
def catalogOnUptoRow : OpenClaim := { program := "ytpnaifmmggnimaagreatdoor", sum := "ad02a94d821d310bcac3f408132d882b3d3ebc543553bef83d281881f04e38a7", func := "stackyard/stackyardlaw22.CatalogOn", spec := "catalogOn", inPlace := ["internal/bytealg.IndexByteString", "internal/bytealg.IndexString", "internal/bytealg.abigen_runtime_cmpstring"], unfollowed := true, recurses := true, named := ["unicode/utf8.first", "unicode/utf8.acceptRanges", "stackyard/hash.first", "stackyard/hash.orders", "stackyard/hash.places", "internal/bytealg.MaxLen"], apart := false, laid := [("unicode/utf8.acceptRanges", laid_unicode_utf8_acceptRanges), ("stackyard/hash.first", laid_stackyard_hash_first), ("stackyard/hash.orders", laid_stackyard_hash_orders), ("stackyard/hash.places", laid_stackyard_hash_places), ("unicode/utf8.first", laid_unicode_utf8_first)], narrowed := true }
def CatalogOnUptoSaid : Prop := catalogOnUptoRow.holds Tryz.pinned (OpenSpec.upto catalogOnSpec)

/-- 'stackyardlaw22.CatalogLoads', WHERE WHAT IT READS IS OF BULK AT MOST 1048576: true; the input reads as it did. -/
def catalogLoadsUptoRow : OpenClaim := { program := "ytpnaifmmggnimaagreatdoor", sum := "ad02a94d821d310bcac3f408132d882b3d3ebc543553bef83d281881f04e38a7", func := "stackyard/stackyardlaw22.CatalogLoads", spec := "catalogLoads", inPlace := ["internal/bytealg.IndexByteString", "internal/bytealg.IndexString", "internal/bytealg.abigen_runtime_cmpstring"], unfollowed := true, recurses := true, named := ["unicode/utf8.first", "unicode/utf8.acceptRanges", "stackyard/hash.first", "stackyard/hash.orders", "stackyard/hash.places", "internal/bytealg.MaxLen"], apart := false, laid := [("unicode/utf8.acceptRanges", laid_unicode_utf8_acceptRanges), ("stackyard/hash.first", laid_stackyard_hash_first), ("stackyard/hash.orders", laid_stackyard_hash_orders), ("stackyard/hash.places", laid_stackyard_hash_places), ("unicode/utf8.first", laid_unicode_utf8_first)], narrowed := true }
def CatalogLoadsUptoSaid : Prop := catalogLoadsUptoRow.holds Tryz.pinned (OpenSpec.upto catalogLoadsSpec)

end Rows
end Go.Proofs.YtpnaifmmggnimaaGreatDoor
