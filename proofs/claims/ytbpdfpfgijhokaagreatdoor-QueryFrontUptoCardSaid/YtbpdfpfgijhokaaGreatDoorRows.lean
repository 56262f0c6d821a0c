/-
  NARROWER THAN 'FOR EVERY INPUT', by the rows' own cells (each row's printed sentence says how): PlanMakes: loops, laid · PlanNeeds: loops, laid · PlanAgain: loops, laid · PlanLess: loops, laid · PlanNames: loops, laid · QueryShows: loops, laid · QueryFront: laid · QuerySames: loops, laid · QueryBack: loops, laid · QueryBrackets: loops, laid.
  DERIVED. THE GIVEN ROWS OF THIS SEAT. 10 by the template 'for every input the law returns true; each argument reads behind the call as it read before'; 0 by the template 'total and deterministic' (their statements: YtbpdfpfgijhokaaGreatDoorTotals.lean).
  GIVEN WITH THE SEED: the statements are not yours to turn. If you find one false, say at which input.
  Laid BY PROGRAM, IN A SANDBOX (cutbox-rows.mjs): the forced cells as the released guide's own fill.sh prints them over the translation 49409ba08e1551b2… (all of the seat's roots in one cut). By AI agents, Wed Nov 11 2026. No macro, syntax, notation, axiom, sorry.
-/
import Derived.Test.YtbpdfpfgijhokaaGreatDoorChecked
import GoSem.PinnedTables
import GoSem.Claim
import GoSem.ClaimJoined
import GoSem.ClaimMapViews
import Derived.JoinedTies
import Derived.KernelRfl
namespace Go.Proofs.YtbpdfpfgijhokaaGreatDoor
/- THE CELL 'sum', in the pinned program and in every row, IS THE sha256 OF THE DUMP (.gsa) THAT YtbpdfpfgijhokaaGreatDoorProg.lean LOADS. Nothing in Lean hashes anything: it is a label: what it is worth is what the hold of that sum in a sandbox is worth. -/
noncomputable def Tryz.pinned : Pinned := { name := "ytbpdfpfgijhokaagreatdoor", sum := "49409ba08e1551b2b612750e9f2ad58d3f21f0ab5c0936d8174f00b84866bf77", checked := Tryz.checked }
namespace Rows
def none {H : Type} : Left H := { results := [], args := [] }

/- WHAT THE LISTED PACKAGE-LEVEL VARIABLES READ AS WHEN THE CALL BEGINS. Each datum BY PROGRAM (the guide's laid-datum.mjs) off the statement by which the dump's own 'gosem.cut.vars' lays the variable. In a bare row this is a premise. The card (YtbpdfpfgijhokaaGreatDoorCards.lean) ties it to the program's text. -/
def laid_math_bits_deBruijn32tab {H : Type} : DataW H := .agg [.lit (.int .u8 0), .lit (.int .u8 1), .lit (.int .u8 28), .lit (.int .u8 2), .lit (.int .u8 29), .lit (.int .u8 14), .lit (.int .u8 24), .lit (.int .u8 3), .lit (.int .u8 30), .lit (.int .u8 22), .lit (.int .u8 20), .lit (.int .u8 15), .lit (.int .u8 25), .lit (.int .u8 17), .lit (.int .u8 4), .lit (.int .u8 8), .lit (.int .u8 31), .lit (.int .u8 27), .lit (.int .u8 13), .lit (.int .u8 23), .lit (.int .u8 21), .lit (.int .u8 19), .lit (.int .u8 16), .lit (.int .u8 7), .lit (.int .u8 26), .lit (.int .u8 12), .lit (.int .u8 18), .lit (.int .u8 6), .lit (.int .u8 11), .lit (.int .u8 5), .lit (.int .u8 10), .lit (.int .u8 9)]
def laid_math_bits_deBruijn64tab {H : Type} : DataW H := .agg [.lit (.int .u8 0), .lit (.int .u8 1), .lit (.int .u8 56), .lit (.int .u8 2), .lit (.int .u8 57), .lit (.int .u8 49), .lit (.int .u8 28), .lit (.int .u8 3), .lit (.int .u8 61), .lit (.int .u8 58), .lit (.int .u8 42), .lit (.int .u8 50), .lit (.int .u8 38), .lit (.int .u8 29), .lit (.int .u8 17), .lit (.int .u8 4), .lit (.int .u8 62), .lit (.int .u8 47), .lit (.int .u8 59), .lit (.int .u8 36), .lit (.int .u8 45), .lit (.int .u8 43), .lit (.int .u8 51), .lit (.int .u8 22), .lit (.int .u8 53), .lit (.int .u8 39), .lit (.int .u8 33), .lit (.int .u8 30), .lit (.int .u8 24), .lit (.int .u8 18), .lit (.int .u8 12), .lit (.int .u8 5), .lit (.int .u8 63), .lit (.int .u8 55), .lit (.int .u8 48), .lit (.int .u8 27), .lit (.int .u8 60), .lit (.int .u8 41), .lit (.int .u8 37), .lit (.int .u8 16), .lit (.int .u8 46), .lit (.int .u8 35), .lit (.int .u8 44), .lit (.int .u8 21), .lit (.int .u8 52), .lit (.int .u8 32), .lit (.int .u8 23), .lit (.int .u8 11), .lit (.int .u8 54), .lit (.int .u8 26), .lit (.int .u8 40), .lit (.int .u8 15), .lit (.int .u8 34), .lit (.int .u8 20), .lit (.int .u8 31), .lit (.int .u8 10), .lit (.int .u8 25), .lit (.int .u8 14), .lit (.int .u8 19), .lit (.int .u8 9), .lit (.int .u8 13), .lit (.int .u8 8), .lit (.int .u8 7), .lit (.int .u8 6)]
def laid_internal_strconv_uint64pow10 {H : Type} : DataW H := .agg [.lit (.int .u64 1), .lit (.int .u64 10), .lit (.int .u64 100), .lit (.int .u64 1000), .lit (.int .u64 10000), .lit (.int .u64 100000), .lit (.int .u64 1000000), .lit (.int .u64 10000000), .lit (.int .u64 100000000), .lit (.int .u64 1000000000), .lit (.int .u64 10000000000), .lit (.int .u64 100000000000), .lit (.int .u64 1000000000000), .lit (.int .u64 10000000000000), .lit (.int .u64 100000000000000), .lit (.int .u64 1000000000000000), .lit (.int .u64 10000000000000000), .lit (.int .u64 100000000000000000), .lit (.int .u64 1000000000000000000), .lit (.int .u64 10000000000000000000)]
def laid_unicode_utf8_acceptRanges {H : Type} : DataW H := .agg [.agg [.lit (.int .u8 128), .lit (.int .u8 191)], .agg [.lit (.int .u8 160), .lit (.int .u8 191)], .agg [.lit (.int .u8 128), .lit (.int .u8 159)], .agg [.lit (.int .u8 144), .lit (.int .u8 191)], .agg [.lit (.int .u8 128), .lit (.int .u8 143)], .agg [.lit (.int .u8 0), .lit (.int .u8 0)], .agg [.lit (.int .u8 0), .lit (.int .u8 0)], .agg [.lit (.int .u8 0), .lit (.int .u8 0)], .agg [.lit (.int .u8 0), .lit (.int .u8 0)], .agg [.lit (.int .u8 0), .lit (.int .u8 0)], .agg [.lit (.int .u8 0), .lit (.int .u8 0)], .agg [.lit (.int .u8 0), .lit (.int .u8 0)], .agg [.lit (.int .u8 0), .lit (.int .u8 0)], .agg [.lit (.int .u8 0), .lit (.int .u8 0)], .agg [.lit (.int .u8 0), .lit (.int .u8 0)], .agg [.lit (.int .u8 0), .lit (.int .u8 0)]]
def laid_stackyard_expr_shapes {H : Type} : DataW H := .agg [.agg [.lit (.int .i64 (-1)), .lit (.int .i64 0), .lit (.int .i64 0)], .agg [.lit (.int .i64 0), .lit (.int .i64 0), .lit (.int .i64 0)], .agg [.lit (.int .i64 0), .lit (.int .i64 0), .lit (.int .i64 0)], .agg [.lit (.int .i64 2), .lit (.int .i64 1), .lit (.int .i64 1)], .agg [.lit (.int .i64 2), .lit (.int .i64 1), .lit (.int .i64 1)], .agg [.lit (.int .i64 2), .lit (.int .i64 1), .lit (.int .i64 1)], .agg [.lit (.int .i64 2), .lit (.int .i64 1), .lit (.int .i64 1)], .agg [.lit (.int .i64 2), .lit (.int .i64 1), .lit (.int .i64 1)], .agg [.lit (.int .i64 1), .lit (.int .i64 1), .lit (.int .i64 1)], .agg [.lit (.int .i64 2), .lit (.int .i64 0), .lit (.int .i64 2)], .agg [.lit (.int .i64 2), .lit (.int .i64 0), .lit (.int .i64 2)], .agg [.lit (.int .i64 2), .lit (.int .i64 0), .lit (.int .i64 2)], .agg [.lit (.int .i64 2), .lit (.int .i64 2), .lit (.int .i64 2)], .agg [.lit (.int .i64 2), .lit (.int .i64 2), .lit (.int .i64 2)], .agg [.lit (.int .i64 1), .lit (.int .i64 2), .lit (.int .i64 2)], .agg [.lit (.int .i64 1), .lit (.int .i64 0), .lit (.int .i64 2)], .agg [.lit (.int .i64 1), .lit (.int .i64 3), .lit (.int .i64 1)]]
def laid_stackyard_query_keys {H : Type} : DataW H := .agg [.lit (.string [115, 101, 108, 101, 99, 116]), .lit (.string [119, 104, 101, 114, 101]), .lit (.string [103, 114, 111, 117, 112]), .lit (.string [98, 121]), .lit (.string [111, 114, 100, 101, 114]), .lit (.string [108, 105, 109, 105, 116]), .lit (.string [97, 115]), .lit (.string [97, 110, 100]), .lit (.string [111, 114]), .lit (.string [110, 111, 116]), .lit (.string [105, 115]), .lit (.string [110, 117, 108, 108]), .lit (.string [116, 114, 117, 101]), .lit (.string [102, 97, 108, 115, 101]), .lit (.string [108, 101, 110]), .lit (.string [100, 101, 115, 99]), .lit (.string [99, 111, 117, 110, 116]), .lit (.string [115, 117, 109]), .lit (.string [109, 105, 110]), .lit (.string [109, 97, 120])]
def laid_stackyard_query_gathers {H : Type} : DataW H := .agg [.lit (.string []), .lit (.string []), .lit (.string [99, 111, 117, 110, 116]), .lit (.string [115, 117, 109]), .lit (.string [109, 105, 110]), .lit (.string [109, 97, 120])]
/-- One of Go's own tables, pinned by name: the form's constant. -/
def laid_unicode_utf8_first : DataW Unit := Go.Pinned.utf8First
def laid_strconv_ErrRange {H : Type} : DataW H := .iface "*errors.errorString" (.ptr (.agg [.lit (.string [118, 97, 108, 117, 101, 32, 111, 117, 116, 32, 111, 102, 32, 114, 97, 110, 103, 101])]))
def laid_strconv_ErrSyntax {H : Type} : DataW H := .iface "*errors.errorString" (.ptr (.agg [.lit (.string [105, 110, 118, 97, 108, 105, 100, 32, 115, 121, 110, 116, 97, 120])]))

/-- 'stackyardlaw12.PlanMakes': WHATEVER THE INPUT: true; the input reads as it did. -/
def planMakesSpec : ChangeSpec := { name := "planMakes", fn := fun _ => fun
  | [d1, d2] => { results := [.lit (.bool true)], args := [d1, d2] }
  | _ => none }
def planMakesRow : OpenClaim := { program := "ytbpdfpfgijhokaagreatdoor", sum := "49409ba08e1551b2b612750e9f2ad58d3f21f0ab5c0936d8174f00b84866bf77", func := "stackyard/stackyardlaw12.PlanMakes", spec := "planMakes", inPlace := ["internal/bytealg.IndexByteString", "internal/bytealg.IndexString", "internal/bytealg.CountString", "internal/abi.NoEscape", "internal/bytealg.MakeNoZero"], unfollowed := true, recurses := true, named := ["unicode/utf8.first", "unicode/utf8.acceptRanges", "stackyard/query.keys", "stackyard/expr.shapes", "internal/strconv.uint64pow10", "math/bits.deBruijn32tab", "math/bits.deBruijn64tab", "internal/bytealg.MaxLen", "stackyard/query.gathers"], loops := true, apart := false, laid := [("math/bits.deBruijn32tab", laid_math_bits_deBruijn32tab), ("math/bits.deBruijn64tab", laid_math_bits_deBruijn64tab), ("internal/strconv.uint64pow10", laid_internal_strconv_uint64pow10), ("unicode/utf8.acceptRanges", laid_unicode_utf8_acceptRanges), ("stackyard/expr.shapes", laid_stackyard_expr_shapes), ("stackyard/query.keys", laid_stackyard_query_keys), ("stackyard/query.gathers", laid_stackyard_query_gathers), ("unicode/utf8.first", laid_unicode_utf8_first)] }
def PlanMakesSaid : Prop := planMakesRow.holds Tryz.pinned (OpenSpec.ofChange planMakesSpec)

/-- ITS FALSE NEIGHBOUR: 'it returns false'. Refute it at one input. -/
def planMakesWrong : ChangeSpec := { name := "planMakes", fn := fun _ => fun
  | [d1, d2] => { results := [.lit (.bool false)], args := [d1, d2] }
  | _ => none }
def PlanMakesWrongFalsely : Prop := planMakesRow.holds Tryz.pinned (OpenSpec.ofChange planMakesWrong)

/-- 'stackyardlaw12.PlanNeeds': WHATEVER THE INPUT: true; the input reads as it did. -/
def planNeedsSpec : ChangeSpec := { name := "planNeeds", fn := fun _ => fun
  | [d1, d2] => { results := [.lit (.bool true)], args := [d1, d2] }
  | _ => none }
def planNeedsRow : OpenClaim := { program := "ytbpdfpfgijhokaagreatdoor", sum := "49409ba08e1551b2b612750e9f2ad58d3f21f0ab5c0936d8174f00b84866bf77", func := "stackyard/stackyardlaw12.PlanNeeds", spec := "planNeeds", inPlace := ["internal/bytealg.IndexByteString", "internal/bytealg.IndexString", "internal/bytealg.CountString", "internal/abi.NoEscape", "internal/bytealg.MakeNoZero"], unfollowed := true, recurses := true, named := ["unicode/utf8.first", "unicode/utf8.acceptRanges", "stackyard/query.keys", "stackyard/expr.shapes", "internal/strconv.uint64pow10", "math/bits.deBruijn32tab", "math/bits.deBruijn64tab", "internal/bytealg.MaxLen", "stackyard/query.gathers"], loops := true, apart := false, laid := [("math/bits.deBruijn32tab", laid_math_bits_deBruijn32tab), ("math/bits.deBruijn64tab", laid_math_bits_deBruijn64tab), ("internal/strconv.uint64pow10", laid_internal_strconv_uint64pow10), ("unicode/utf8.acceptRanges", laid_unicode_utf8_acceptRanges), ("stackyard/expr.shapes", laid_stackyard_expr_shapes), ("stackyard/query.keys", laid_stackyard_query_keys), ("stackyard/query.gathers", laid_stackyard_query_gathers), ("unicode/utf8.first", laid_unicode_utf8_first)] }
def PlanNeedsSaid : Prop := planNeedsRow.holds Tryz.pinned (OpenSpec.ofChange planNeedsSpec)

/-- ITS FALSE NEIGHBOUR: 'it returns false'. Refute it at one input. -/
def planNeedsWrong : ChangeSpec := { name := "planNeeds", fn := fun _ => fun
  | [d1, d2] => { results := [.lit (.bool false)], args := [d1, d2] }
  | _ => none }
def PlanNeedsWrongFalsely : Prop := planNeedsRow.holds Tryz.pinned (OpenSpec.ofChange planNeedsWrong)

/-- 'stackyardlaw12.PlanAgain': WHATEVER THE INPUT: true; the input reads as it did. -/
def planAgainSpec : ChangeSpec := { name := "planAgain", fn := fun _ => fun
  | [d1, d2] => { results := [.lit (.bool true)], args := [d1, d2] }
  | _ => none }
def planAgainRow : OpenClaim := { program := "ytbpdfpfgijhokaagreatdoor", sum := "49409ba08e1551b2b612750e9f2ad58d3f21f0ab5c0936d8174f00b84866bf77", func := "stackyard/stackyardlaw12.PlanAgain", spec := "planAgain", inPlace := ["internal/bytealg.IndexByteString", "internal/bytealg.IndexString", "internal/bytealg.CountString", "internal/abi.NoEscape", "internal/bytealg.MakeNoZero"], unfollowed := true, recurses := true, named := ["unicode/utf8.first", "unicode/utf8.acceptRanges", "stackyard/query.keys", "stackyard/expr.shapes", "internal/strconv.uint64pow10", "math/bits.deBruijn32tab", "math/bits.deBruijn64tab", "internal/bytealg.MaxLen", "stackyard/query.gathers"], loops := true, apart := false, laid := [("math/bits.deBruijn32tab", laid_math_bits_deBruijn32tab), ("math/bits.deBruijn64tab", laid_math_bits_deBruijn64tab), ("internal/strconv.uint64pow10", laid_internal_strconv_uint64pow10), ("unicode/utf8.acceptRanges", laid_unicode_utf8_acceptRanges), ("stackyard/expr.shapes", laid_stackyard_expr_shapes), ("stackyard/query.keys", laid_stackyard_query_keys), ("stackyard/query.gathers", laid_stackyard_query_gathers), ("unicode/utf8.first", laid_unicode_utf8_first)] }
def PlanAgainSaid : Prop := planAgainRow.holds Tryz.pinned (OpenSpec.ofChange planAgainSpec)

/-- ITS FALSE NEIGHBOUR: 'it returns false'. Refute it at one input. -/
def planAgainWrong : ChangeSpec := { name := "planAgain", fn := fun _ => fun
  | [d1, d2] => { results := [.lit (.bool false)], args := [d1, d2] }
  | _ => none }
def PlanAgainWrongFalsely : Prop := planAgainRow.holds Tryz.pinned (OpenSpec.ofChange planAgainWrong)

/-- 'stackyardlaw12.PlanLess': WHATEVER THE INPUT: true; the input reads as it did. -/
def planLessSpec : ChangeSpec := { name := "planLess", fn := fun _ => fun
  | [d1, d2, d3] => { results := [.lit (.bool true)], args := [d1, d2, d3] }
  | _ => none }
def planLessRow : OpenClaim := { program := "ytbpdfpfgijhokaagreatdoor", sum := "49409ba08e1551b2b612750e9f2ad58d3f21f0ab5c0936d8174f00b84866bf77", func := "stackyard/stackyardlaw12.PlanLess", spec := "planLess", inPlace := ["internal/bytealg.IndexByteString", "internal/bytealg.IndexString", "internal/bytealg.CountString", "internal/abi.NoEscape", "internal/bytealg.MakeNoZero"], unfollowed := true, recurses := true, named := ["unicode/utf8.first", "unicode/utf8.acceptRanges", "stackyard/query.keys", "stackyard/expr.shapes", "internal/strconv.uint64pow10", "math/bits.deBruijn32tab", "math/bits.deBruijn64tab", "internal/bytealg.MaxLen", "stackyard/query.gathers"], loops := true, apart := false, laid := [("math/bits.deBruijn32tab", laid_math_bits_deBruijn32tab), ("math/bits.deBruijn64tab", laid_math_bits_deBruijn64tab), ("internal/strconv.uint64pow10", laid_internal_strconv_uint64pow10), ("unicode/utf8.acceptRanges", laid_unicode_utf8_acceptRanges), ("stackyard/expr.shapes", laid_stackyard_expr_shapes), ("stackyard/query.keys", laid_stackyard_query_keys), ("stackyard/query.gathers", laid_stackyard_query_gathers), ("unicode/utf8.first", laid_unicode_utf8_first)] }
def PlanLessSaid : Prop := planLessRow.holds Tryz.pinned (OpenSpec.ofChange planLessSpec)

/-- ITS FALSE NEIGHBOUR: 'it returns false'. Refute it at one input. -/
def planLessWrong : ChangeSpec := { name := "planLess", fn := fun _ => fun
  | [d1, d2, d3] => { results := [.lit (.bool false)], args := [d1, d2, d3] }
  | _ => none }
def PlanLessWrongFalsely : Prop := planLessRow.holds Tryz.pinned (OpenSpec.ofChange planLessWrong)

/-- 'stackyardlaw12.PlanNames': WHATEVER THE INPUT: true; the input reads as it did. -/
def planNamesSpec : ChangeSpec := { name := "planNames", fn := fun _ => fun
  | [d1, d2] => { results := [.lit (.bool true)], args := [d1, d2] }
  | _ => none }
def planNamesRow : OpenClaim := { program := "ytbpdfpfgijhokaagreatdoor", sum := "49409ba08e1551b2b612750e9f2ad58d3f21f0ab5c0936d8174f00b84866bf77", func := "stackyard/stackyardlaw12.PlanNames", spec := "planNames", inPlace := ["internal/bytealg.IndexByteString", "internal/bytealg.IndexString", "internal/bytealg.CountString", "internal/abi.NoEscape", "internal/bytealg.MakeNoZero"], unfollowed := true, recurses := true, named := ["unicode/utf8.first", "unicode/utf8.acceptRanges", "stackyard/query.keys", "stackyard/expr.shapes", "internal/strconv.uint64pow10", "math/bits.deBruijn32tab", "math/bits.deBruijn64tab", "internal/bytealg.MaxLen", "stackyard/query.gathers"], loops := true, apart := false, laid := [("math/bits.deBruijn32tab", laid_math_bits_deBruijn32tab), ("math/bits.deBruijn64tab", laid_math_bits_deBruijn64tab), ("internal/strconv.uint64pow10", laid_internal_strconv_uint64pow10), ("unicode/utf8.acceptRanges", laid_unicode_utf8_acceptRanges), ("stackyard/expr.shapes", laid_stackyard_expr_shapes), ("stackyard/query.keys", laid_stackyard_query_keys), ("stackyard/query.gathers", laid_stackyard_query_gathers), ("unicode/utf8.first", laid_unicode_utf8_first)] }
def PlanNamesSaid : Prop := planNamesRow.holds Tryz.pinned (OpenSpec.ofChange planNamesSpec)

/-- ITS FALSE NEIGHBOUR: 'it returns false'. Refute it at one input. -/
def planNamesWrong : ChangeSpec := { name := "planNames", fn := fun _ => fun
  | [d1, d2] => { results := [.lit (.bool false)], args := [d1, d2] }
  | _ => none }
def PlanNamesWrongFalsely : Prop := planNamesRow.holds Tryz.pinned (OpenSpec.ofChange planNamesWrong)

/-- 'stackyardlaw11.QueryShows': WHATEVER THE INPUT: true; the input reads as it did. -/
def queryShowsSpec : ChangeSpec := { name := "queryShows", fn := fun _ => fun
  | [d] => { results := [.lit (.bool true)], args := [d] }
  | _ => none }
def queryShowsRow : OpenClaim := { program := "ytbpdfpfgijhokaagreatdoor", sum := "49409ba08e1551b2b612750e9f2ad58d3f21f0ab5c0936d8174f00b84866bf77", func := "stackyard/stackyardlaw11.QueryShows", spec := "queryShows", inPlace := ["internal/bytealg.IndexByteString", "internal/bytealg.IndexString", "internal/bytealg.CountString", "internal/abi.NoEscape", "internal/bytealg.MakeNoZero"], unfollowed := true, recurses := true, named := ["stackyard/query.gathers", "unicode/utf8.first", "unicode/utf8.acceptRanges", "strconv.ErrSyntax", "strconv.ErrRange", "internal/strconv.uint64pow10", "math/bits.deBruijn32tab", "math/bits.deBruijn64tab", "stackyard/query.keys", "stackyard/expr.shapes", "internal/bytealg.MaxLen"], loops := true, apart := false, laid := [("math/bits.deBruijn32tab", laid_math_bits_deBruijn32tab), ("math/bits.deBruijn64tab", laid_math_bits_deBruijn64tab), ("internal/strconv.uint64pow10", laid_internal_strconv_uint64pow10), ("unicode/utf8.acceptRanges", laid_unicode_utf8_acceptRanges), ("strconv.ErrRange", laid_strconv_ErrRange), ("strconv.ErrSyntax", laid_strconv_ErrSyntax), ("stackyard/expr.shapes", laid_stackyard_expr_shapes), ("stackyard/query.keys", laid_stackyard_query_keys), ("stackyard/query.gathers", laid_stackyard_query_gathers), ("unicode/utf8.first", laid_unicode_utf8_first)] }
def QueryShowsSaid : Prop := queryShowsRow.holds Tryz.pinned (OpenSpec.ofChange queryShowsSpec)

/-- ITS FALSE NEIGHBOUR: 'it returns false'. Refute it at one input. -/
def queryShowsWrong : ChangeSpec := { name := "queryShows", fn := fun _ => fun
  | [d] => { results := [.lit (.bool false)], args := [d] }
  | _ => none }
def QueryShowsWrongFalsely : Prop := queryShowsRow.holds Tryz.pinned (OpenSpec.ofChange queryShowsWrong)

/-- 'stackyardlaw11.QueryFront': WHATEVER THE INPUT: true; the input reads as it did. -/
def queryFrontSpec : ChangeSpec := { name := "queryFront", fn := fun _ => fun
  | [d] => { results := [.lit (.bool true)], args := [d] }
  | _ => none }
def queryFrontRow : OpenClaim := { program := "ytbpdfpfgijhokaagreatdoor", sum := "49409ba08e1551b2b612750e9f2ad58d3f21f0ab5c0936d8174f00b84866bf77", func := "stackyard/stackyardlaw11.QueryFront", spec := "queryFront", inPlace := ["internal/bytealg.IndexByteString", "internal/bytealg.IndexString", "internal/bytealg.CountString", "internal/abi.NoEscape", "internal/bytealg.MakeNoZero"], unfollowed := true, recurses := true, named := ["stackyard/query.gathers", "unicode/utf8.first", "unicode/utf8.acceptRanges", "strconv.ErrSyntax", "strconv.ErrRange", "internal/strconv.uint64pow10", "math/bits.deBruijn32tab", "math/bits.deBruijn64tab", "stackyard/query.keys", "stackyard/expr.shapes", "internal/bytealg.MaxLen"], apart := false, laid := [("math/bits.deBruijn32tab", laid_math_bits_deBruijn32tab), ("math/bits.deBruijn64tab", laid_math_bits_deBruijn64tab), ("internal/strconv.uint64pow10", laid_internal_strconv_uint64pow10), ("unicode/utf8.acceptRanges", laid_unicode_utf8_acceptRanges), ("strconv.ErrRange", laid_strconv_ErrRange), ("strconv.ErrSyntax", laid_strconv_ErrSyntax), ("stackyard/expr.shapes", laid_stackyard_expr_shapes), ("stackyard/query.keys", laid_stackyard_query_keys), ("stackyard/query.gathers", laid_stackyard_query_gathers), ("unicode/utf8.first", laid_unicode_utf8_first)] }
def QueryFrontSaid : Prop := queryFrontRow.holds Tryz.pinned (OpenSpec.ofChange queryFrontSpec)

/-- ITS FALSE NEIGHBOUR: 'it returns false'. Refute it at one input. -/
def queryFrontWrong : ChangeSpec := { name := "queryFront", fn := fun _ => fun
  | [d] => { results := [.lit (.bool false)], args := [d] }
  | _ => none }
def QueryFrontWrongFalsely : Prop := queryFrontRow.holds Tryz.pinned (OpenSpec.ofChange queryFrontWrong)

/-- 'stackyardlaw11.QuerySames': WHATEVER THE INPUT: true; the input reads as it did. -/
def querySamesSpec : ChangeSpec := { name := "querySames", fn := fun _ => fun
  | [d1, d2] => { results := [.lit (.bool true)], args := [d1, d2] }
  | _ => none }
def querySamesRow : OpenClaim := { program := "ytbpdfpfgijhokaagreatdoor", sum := "49409ba08e1551b2b612750e9f2ad58d3f21f0ab5c0936d8174f00b84866bf77", func := "stackyard/stackyardlaw11.QuerySames", spec := "querySames", inPlace := ["internal/bytealg.IndexByteString", "internal/bytealg.IndexString", "internal/bytealg.CountString", "internal/abi.NoEscape", "internal/bytealg.MakeNoZero"], unfollowed := true, recurses := true, named := ["stackyard/query.gathers", "unicode/utf8.first", "unicode/utf8.acceptRanges", "strconv.ErrSyntax", "strconv.ErrRange", "internal/strconv.uint64pow10", "math/bits.deBruijn32tab", "math/bits.deBruijn64tab", "stackyard/query.keys", "stackyard/expr.shapes", "internal/bytealg.MaxLen"], loops := true, apart := false, laid := [("math/bits.deBruijn32tab", laid_math_bits_deBruijn32tab), ("math/bits.deBruijn64tab", laid_math_bits_deBruijn64tab), ("internal/strconv.uint64pow10", laid_internal_strconv_uint64pow10), ("unicode/utf8.acceptRanges", laid_unicode_utf8_acceptRanges), ("strconv.ErrRange", laid_strconv_ErrRange), ("strconv.ErrSyntax", laid_strconv_ErrSyntax), ("stackyard/expr.shapes", laid_stackyard_expr_shapes), ("stackyard/query.keys", laid_stackyard_query_keys), ("stackyard/query.gathers", laid_stackyard_query_gathers), ("unicode/utf8.first", laid_unicode_utf8_first)] }
def QuerySamesSaid : Prop := querySamesRow.holds Tryz.pinned (OpenSpec.ofChange querySamesSpec)

/-- ITS FALSE NEIGHBOUR: 'it returns false'. Refute it at one input. -/
def querySamesWrong : ChangeSpec := { name := "querySames", fn := fun _ => fun
  | [d1, d2] => { results := [.lit (.bool false)], args := [d1, d2] }
  | _ => none }
def QuerySamesWrongFalsely : Prop := querySamesRow.holds Tryz.pinned (OpenSpec.ofChange querySamesWrong)

/-- 'stackyardlaw11.QueryBack': WHATEVER THE INPUT: true; the input reads as it did. -/
def queryBackSpec : ChangeSpec := { name := "queryBack", fn := fun _ => fun
  | [d1, d2] => { results := [.lit (.bool true)], args := [d1, d2] }
  | _ => none }
def queryBackRow : OpenClaim := { program := "ytbpdfpfgijhokaagreatdoor", sum := "49409ba08e1551b2b612750e9f2ad58d3f21f0ab5c0936d8174f00b84866bf77", func := "stackyard/stackyardlaw11.QueryBack", spec := "queryBack", inPlace := ["internal/bytealg.IndexByteString", "internal/bytealg.IndexString", "internal/bytealg.CountString", "internal/abi.NoEscape", "internal/bytealg.MakeNoZero"], unfollowed := true, recurses := true, named := ["stackyard/query.gathers", "unicode/utf8.first", "unicode/utf8.acceptRanges", "strconv.ErrSyntax", "strconv.ErrRange", "internal/strconv.uint64pow10", "math/bits.deBruijn32tab", "math/bits.deBruijn64tab", "stackyard/query.keys", "stackyard/expr.shapes", "internal/bytealg.MaxLen"], loops := true, apart := false, laid := [("math/bits.deBruijn32tab", laid_math_bits_deBruijn32tab), ("math/bits.deBruijn64tab", laid_math_bits_deBruijn64tab), ("internal/strconv.uint64pow10", laid_internal_strconv_uint64pow10), ("unicode/utf8.acceptRanges", laid_unicode_utf8_acceptRanges), ("strconv.ErrRange", laid_strconv_ErrRange), ("strconv.ErrSyntax", laid_strconv_ErrSyntax), ("stackyard/expr.shapes", laid_stackyard_expr_shapes), ("stackyard/query.keys", laid_stackyard_query_keys), ("stackyard/query.gathers", laid_stackyard_query_gathers), ("unicode/utf8.first", laid_unicode_utf8_first)] }
def QueryBackSaid : Prop := queryBackRow.holds Tryz.pinned (OpenSpec.ofChange queryBackSpec)

/-- ITS FALSE NEIGHBOUR: 'it returns false'. Refute it at one input. -/
def queryBackWrong : ChangeSpec := { name := "queryBack", fn := fun _ => fun
  | [d1, d2] => { results := [.lit (.bool false)], args := [d1, d2] }
  | _ => none }
def QueryBackWrongFalsely : Prop := queryBackRow.holds Tryz.pinned (OpenSpec.ofChange queryBackWrong)

/-- 'stackyardlaw11.QueryBrackets': WHATEVER THE INPUT: true; the input reads as it did. -/
def queryBracketsSpec : ChangeSpec := { name := "queryBrackets", fn := fun _ => fun
  | [d] => { results := [.lit (.bool true)], args := [d] }
  | _ => none }
def queryBracketsRow : OpenClaim := { program := "ytbpdfpfgijhokaagreatdoor", sum := "49409ba08e1551b2b612750e9f2ad58d3f21f0ab5c0936d8174f00b84866bf77", func := "stackyard/stackyardlaw11.QueryBrackets", spec := "queryBrackets", inPlace := ["internal/bytealg.IndexByteString", "internal/bytealg.IndexString", "internal/bytealg.CountString", "internal/abi.NoEscape", "internal/bytealg.MakeNoZero"], unfollowed := true, recurses := true, named := ["stackyard/query.gathers", "unicode/utf8.first", "unicode/utf8.acceptRanges", "strconv.ErrSyntax", "strconv.ErrRange", "internal/strconv.uint64pow10", "math/bits.deBruijn32tab", "math/bits.deBruijn64tab", "stackyard/query.keys", "stackyard/expr.shapes", "internal/bytealg.MaxLen"], loops := true, apart := false, laid := [("math/bits.deBruijn32tab", laid_math_bits_deBruijn32tab), ("math/bits.deBruijn64tab", laid_math_bits_deBruijn64tab), ("internal/strconv.uint64pow10", laid_internal_strconv_uint64pow10), ("unicode/utf8.acceptRanges", laid_unicode_utf8_acceptRanges), ("strconv.ErrRange", laid_strconv_ErrRange), ("strconv.ErrSyntax", laid_strconv_ErrSyntax), ("stackyard/expr.shapes", laid_stackyard_expr_shapes), ("stackyard/query.keys", laid_stackyard_query_keys), ("stackyard/query.gathers", laid_stackyard_query_gathers), ("unicode/utf8.first", laid_unicode_utf8_first)] }
def QueryBracketsSaid : Prop := queryBracketsRow.holds Tryz.pinned (OpenSpec.ofChange queryBracketsSpec)

/-- ITS FALSE NEIGHBOUR: 'it returns false'. Refute it at one input. -/
def queryBracketsWrong : ChangeSpec := { name := "queryBrackets", fn := fun _ => fun
  | [d] => { results := [.lit (.bool false)], args := [d] }
  | _ => none }
def QueryBracketsWrongFalsely : Prop := queryBracketsRow.holds Tryz.pinned (OpenSpec.ofChange queryBracketsWrong)

/- THE SECOND FORM. 'bulk': how many values and letters a reading holds, each counted each time it is reached (what is shared counts as often as it is met; a slice's spare places count too). A statement '..UptoSaid' is the law's where the arguments, and the package variables that the reading takes, are together of bulk at most 1048576: NARROWER than '..Said'. Prove '..Said' where nothing that the law and all that it calls make is longer than what came in: it says more and counts as full. Else prove '..UptoSaid'. A law counts once. -/
mutual
def uptoBulk {H : Type} : DataW H → Nat
  | .lit (.string bytes) => bytes.length + 1
  | .lit _ => 1
  | .nil => 1
  | .ptr d => uptoBulk d + 1
  | .slice elems spare => uptoBulkAll elems + uptoBulkAll spare + 1
  | .agg parts => uptoBulkAll parts + 1
  | .iface _ d => uptoBulk d + 1
  | .map entries => uptoBulkEntries entries + 1
  | .held _ => 1
def uptoBulkAll {H : Type} : List (DataW H) → Nat
  | [] => 0
  | d :: r => uptoBulk d + uptoBulkAll r
def uptoBulkEntries {H : Type} : List (Lit × DataW H) → Nat
  | [] => 0
  | x :: r => uptoBulkEntry x + uptoBulkEntries r
def uptoBulkEntry {H : Type} : Lit × DataW H → Nat
  | (.string bytes, d) => bytes.length + uptoBulk d + 1
  | (_, d) => uptoBulk d + 1
 end
def uptoSmall : (H : Type) → List (DataW H) → Bool := fun _ ds => decide (uptoBulkAll ds ≤ 1048576)
def OpenSpec.upto (s : _root_.Go.ChangeSpec) : _root_.Go.OpenSpec := { _root_.Go.OpenSpec.ofChange s with cond := some uptoSmall }

/-- 'stackyardlaw12.PlanMakes', WHERE WHAT IT READS IS OF BULK AT MOST 1048576: true; the input reads as it did. -/
def planMakesUptoRow : OpenClaim := { program := "ytbpdfpfgijhokaagreatdoor", sum := "49409ba08e1551b2b612750e9f2ad58d3f21f0ab5c0936d8174f00b84866bf77", func := "stackyard/stackyardlaw12.PlanMakes", spec := "planMakes", inPlace := ["internal/bytealg.IndexByteString", "internal/bytealg.IndexString", "internal/bytealg.CountString", "internal/abi.NoEscape", "internal/bytealg.MakeNoZero"], unfollowed := true, recurses := true, named := ["unicode/utf8.first", "unicode/utf8.acceptRanges", "stackyard/query.keys", "stackyard/expr.shapes", "internal/strconv.uint64pow10", "math/bits.deBruijn32tab", "math/bits.deBruijn64tab", "internal/bytealg.MaxLen", "stackyard/query.gathers"], loops := true, apart := false, laid := [("math/bits.deBruijn32tab", laid_math_bits_deBruijn32tab), ("math/bits.deBruijn64tab", laid_math_bits_deBruijn64tab), ("internal/strconv.uint64pow10", laid_internal_strconv_uint64pow10), ("unicode/utf8.acceptRanges", laid_unicode_utf8_acceptRanges), ("stackyard/expr.shapes", laid_stackyard_expr_shapes), ("stackyard/query.keys", laid_stackyard_query_keys), ("stackyard/query.gathers", laid_stackyard_query_gathers), ("unicode/utf8.first", laid_unicode_utf8_first)], narrowed := true }
def PlanMakesUptoSaid : Prop := planMakesUptoRow.holds Tryz.pinned (OpenSpec.upto planMakesSpec)

/-- 'stackyardlaw12.PlanNeeds', WHERE WHAT IT READS IS OF BULK AT MOST 1048576: true; the input reads as it did. -/
def planNeedsUptoRow : OpenClaim := { program := "ytbpdfpfgijhokaagreatdoor", sum := "49409ba08e1551b2b612750e9f2ad58d3f21f0ab5c0936d8174f00b84866bf77", func := "stackyard/stackyardlaw12.PlanNeeds", spec := "planNeeds", inPlace := ["internal/bytealg.IndexByteString", "internal/bytealg.IndexString", "internal/bytealg.CountString", "internal/abi.NoEscape", "internal/bytealg.MakeNoZero"], unfollowed := true, recurses := true, named := ["unicode/utf8.first", "unicode/utf8.acceptRanges", "stackyard/query.keys", "stackyard/expr.shapes", "internal/strconv.uint64pow10", "math/bits.deBruijn32tab", "math/bits.deBruijn64tab", "internal/bytealg.MaxLen", "stackyard/query.gathers"], loops := true, apart := false, laid := [("math/bits.deBruijn32tab", laid_math_bits_deBruijn32tab), ("math/bits.deBruijn64tab", laid_math_bits_deBruijn64tab), ("internal/strconv.uint64pow10", laid_internal_strconv_uint64pow10), ("unicode/utf8.acceptRanges", laid_unicode_utf8_acceptRanges), ("stackyard/expr.shapes", laid_stackyard_expr_shapes), ("stackyard/query.keys", laid_stackyard_query_keys), ("stackyard/query.gathers", laid_stackyard_query_gathers), ("unicode/utf8.first", laid_unicode_utf8_first)], narrowed := true }
def PlanNeedsUptoSaid : Prop := planNeedsUptoRow.holds Tryz.pinned (OpenSpec.upto planNeedsSpec)

/-- 'stackyardlaw12.PlanAgain', WHERE WHAT IT READS IS OF BULK AT MOST 1048576: true; the input reads as it did. -/
def planAgainUptoRow : OpenClaim := { program := "ytbpdfpfgijhokaagreatdoor", sum := "49409ba08e1551b2b612750e9f2ad58d3f21f0ab5c0936d8174f00b84866bf77", func := "stackyard/stackyardlaw12.PlanAgain", spec := "planAgain", inPlace := ["internal/bytealg.IndexByteString", "internal/bytealg.IndexString", "internal/bytealg.CountString", "internal/abi.NoEscape", "internal/bytealg.MakeNoZero"], unfollowed := true, recurses := true, named := ["unicode/utf8.first", "unicode/utf8.acceptRanges", "stackyard/query.keys", "stackyard/expr.shapes", "internal/strconv.uint64pow10", "math/bits.deBruijn32tab", "math/bits.deBruijn64tab", "internal/bytealg.MaxLen", "stackyard/query.gathers"], loops := true, apart := false, laid := [("math/bits.deBruijn32tab", laid_math_bits_deBruijn32tab), ("math/bits.deBruijn64tab", laid_math_bits_deBruijn64tab), ("internal/strconv.uint64pow10", laid_internal_strconv_uint64pow10), ("unicode/utf8.acceptRanges", laid_unicode_utf8_acceptRanges), ("stackyard/expr.shapes", laid_stackyard_expr_shapes), ("stackyard/query.keys", laid_stackyard_query_keys), ("stackyard/query.gathers", laid_stackyard_query_gathers), ("unicode/utf8.first", laid_unicode_utf8_first)], narrowed := true }
def PlanAgainUptoSaid : Prop := planAgainUptoRow.holds Tryz.pinned (OpenSpec.upto planAgainSpec)

/-- 'stackyardlaw12.PlanLess', WHERE WHAT IT READS IS OF BULK AT MOST 1048576: true; the input reads as it did. -/
def planLessUptoRow : OpenClaim := { program := "ytbpdfpfgijhokaagreatdoor", sum := "49409ba08e1551b2b612750e9f2ad58d3f21f0ab5c0936d8174f00b84866bf77", func := "stackyard/stackyardlaw12.PlanLess", spec := "planLess", inPlace := ["internal/bytealg.IndexByteString", "internal/bytealg.IndexString", "internal/bytealg.CountString", "internal/abi.NoEscape", "internal/bytealg.MakeNoZero"], unfollowed := true, recurses := true, named := ["unicode/utf8.first", "unicode/utf8.acceptRanges", "stackyard/query.keys", "stackyard/expr.shapes", "internal/strconv.uint64pow10", "math/bits.deBruijn32tab", "math/bits.deBruijn64tab", "internal/bytealg.MaxLen", "stackyard/query.gathers"], loops := true, apart := false, laid := [("math/bits.deBruijn32tab", laid_math_bits_deBruijn32tab), ("math/bits.deBruijn64tab", laid_math_bits_deBruijn64tab), ("internal/strconv.uint64pow10", laid_internal_strconv_uint64pow10), ("unicode/utf8.acceptRanges", laid_unicode_utf8_acceptRanges), ("stackyard/expr.shapes", laid_stackyard_expr_shapes), ("stackyard/query.keys", laid_stackyard_query_keys), ("stackyard/query.gathers", laid_stackyard_query_gathers), ("unicode/utf8.first", laid_unicode_utf8_first)], narrowed := true }
def PlanLessUptoSaid : Prop := planLessUptoRow.holds Tryz.pinned (OpenSpec.upto planLessSpec)

/-- 'stackyardlaw12.PlanNames', WHERE WHAT IT READS IS OF BULK AT MOST 1048576: true; the input reads as it did. -/
def planNamesUptoRow : OpenClaim := { program := "ytbpdfpfgijhokaagreatdoor", sum := "49409ba08e1551b2b612750e9f2ad58d3f21f0ab5c0936d8174f00b84866bf77", func := "stackyard/stackyardlaw12.PlanNames", spec := "planNames", inPlace := ["internal/bytealg.IndexByteString", "internal/bytealg.IndexString", "internal/bytealg.CountString", "internal/abi.NoEscape", "internal/bytealg.MakeNoZero"], unfollowed := true, recurses := true, named := ["unicode/utf8.first", "unicode/utf8.acceptRanges", "stackyard/query.keys", "stackyard/expr.shapes", "internal/strconv.uint64pow10", "math/bits.deBruijn32tab", "math/bits.deBruijn64tab", "internal/bytealg.MaxLen", "stackyard/query.gathers"], loops := true, apart := false, laid := [("math/bits.deBruijn32tab", laid_math_bits_deBruijn32tab), ("math/bits.deBruijn64tab", laid_math_bits_deBruijn64tab), ("internal/strconv.uint64pow10", laid_internal_strconv_uint64pow10), ("unicode/utf8.acceptRanges", laid_unicode_utf8_acceptRanges), ("stackyard/expr.shapes", laid_stackyard_expr_shapes), ("stackyard/query.keys", laid_stackyard_query_keys), ("stackyard/query.gathers", laid_stackyard_query_gathers), ("unicode/utf8.first", laid_unicode_utf8_first)], narrowed := true }
def PlanNamesUptoSaid : Prop := planNamesUptoRow.holds Tryz.pinned (OpenSpec.upto planNamesSpec)

/-- 'stackyardlaw11.QueryShows', WHERE WHAT IT READS IS OF BULK AT MOST 1048576: true; the input reads as it did. -/
def queryShowsUptoRow : OpenClaim := { program := "ytbpdfpfgijhokaagreatdoor", sum := "49409ba08e1551b2b612750e9f2ad58d3f21f0ab5c0936d8174f00b84866bf77", func := "stackyard/stackyardlaw11.QueryShows", spec := "queryShows", inPlace := ["internal/bytealg.IndexByteString", "internal/bytealg.IndexString", "internal/bytealg.CountString", "internal/abi.NoEscape", "internal/bytealg.MakeNoZero"], unfollowed := true, recurses := true, named := ["stackyard/query.gathers", "unicode/utf8.first", "unicode/utf8.acceptRanges", "strconv.ErrSyntax", "strconv.ErrRange", "internal/strconv.uint64pow10", "math/bits.deBruijn32tab", "math/bits.deBruijn64tab", "stackyard/query.keys", "stackyard/expr.shapes", "internal/bytealg.MaxLen"], loops := true, apart := false, laid := [("math/bits.deBruijn32tab", laid_math_bits_deBruijn32tab), ("math/bits.deBruijn64tab", laid_math_bits_deBruijn64tab), ("internal/strconv.uint64pow10", laid_internal_strconv_uint64pow10), ("unicode/utf8.acceptRanges", laid_unicode_utf8_acceptRanges), ("strconv.ErrRange", laid_strconv_ErrRange), ("strconv.ErrSyntax", laid_strconv_ErrSyntax), ("stackyard/expr.shapes", laid_stackyard_expr_shapes), ("stackyard/query.keys", laid_stackyard_query_keys), ("stackyard/query.gathers", laid_stackyard_query_gathers), ("unicode/utf8.first", laid_unicode_utf8_first)], narrowed := true }
def QueryShowsUptoSaid : Prop := queryShowsUptoRow.holds Tryz.pinned (OpenSpec.upto queryShowsSpec)

/-- 'stackyardlaw11.QueryFront', WHERE WHAT IT READS IS OF BULK AT MOST 1048576: true; the input reads as it did. -/
def queryFrontUptoRow : OpenClaim := { program := "ytbpdfpfgijhokaagreatdoor", sum := "49409ba08e1551b2b612750e9f2ad58d3f21f0ab5c0936d8174f00b84866bf77", func := "stackyard/stackyardlaw11.QueryFront", spec := "queryFront", inPlace := ["internal/bytealg.IndexByteString", "internal/bytealg.IndexString", "internal/bytealg.CountString", "internal/abi.NoEscape", "internal/bytealg.MakeNoZero"], unfollowed := true, recurses := true, named := ["stackyard/query.gathers", "unicode/utf8.first", "unicode/utf8.acceptRanges", "strconv.ErrSyntax", "strconv.ErrRange", "internal/strconv.uint64pow10", "math/bits.deBruijn32tab", "math/bits.deBruijn64tab", "stackyard/query.keys", "stackyard/expr.shapes", "internal/bytealg.MaxLen"], apart := false, laid := [("math/bits.deBruijn32tab", laid_math_bits_deBruijn32tab), ("math/bits.deBruijn64tab", laid_math_bits_deBruijn64tab), ("internal/strconv.uint64pow10", laid_internal_strconv_uint64pow10), ("unicode/utf8.acceptRanges", laid_unicode_utf8_acceptRanges), ("strconv.ErrRange", laid_strconv_ErrRange), ("strconv.ErrSyntax", laid_strconv_ErrSyntax), ("stackyard/expr.shapes", laid_stackyard_expr_shapes), ("stackyard/query.keys", laid_stackyard_query_keys), ("stackyard/query.gathers", laid_stackyard_query_gathers), ("unicode/utf8.first", laid_unicode_utf8_first)], narrowed := true }
def QueryFrontUptoSaid : Prop := queryFrontUptoRow.holds Tryz.pinned (OpenSpec.upto queryFrontSpec)

/-- 'stackyardlaw11.QuerySames', WHERE WHAT IT READS IS OF BULK AT MOST 1048576: true; the input reads as it did. -/
def querySamesUptoRow : OpenClaim := { program := "ytbpdfpfgijhokaagreatdoor", sum := "49409ba08e1551b2b612750e9f2ad58d3f21f0ab5c0936d8174f00b84866bf77", func := "stackyard/stackyardlaw11.QuerySames", spec := "querySames", inPlace := ["internal/bytealg.IndexByteString", "internal/bytealg.IndexString", "internal/bytealg.CountString", "internal/abi.NoEscape", "internal/bytealg.MakeNoZero"], unfollowed := true, recurses := true, named := ["stackyard/query.gathers", "unicode/utf8.first", "unicode/utf8.acceptRanges", "strconv.ErrSyntax", "strconv.ErrRange", "internal/strconv.uint64pow10", "math/bits.deBruijn32tab", "math/bits.deBruijn64tab", "stackyard/query.keys", "stackyard/expr.shapes", "internal/bytealg.MaxLen"], loops := true, apart := false, laid := [("math/bits.deBruijn32tab", laid_math_bits_deBruijn32tab), ("math/bits.deBruijn64tab", laid_math_bits_deBruijn64tab), ("internal/strconv.uint64pow10", laid_internal_strconv_uint64pow10), ("unicode/utf8.acceptRanges", laid_unicode_utf8_acceptRanges), ("strconv.ErrRange", laid_strconv_ErrRange), ("strconv.ErrSyntax", laid_strconv_ErrSyntax), ("stackyard/expr.shapes", laid_stackyard_expr_shapes), ("stackyard/query.keys", laid_stackyard_query_keys), ("stackyard/query.gathers", laid_stackyard_query_gathers), ("unicode/utf8.first", laid_unicode_utf8_first)], narrowed := true }
def QuerySamesUptoSaid : Prop := querySamesUptoRow.holds Tryz.pinned (OpenSpec.upto querySamesSpec)

/-- 'stackyardlaw11.QueryBack', WHERE WHAT IT READS IS OF BULK AT MOST 1048576: true; the input reads as it did. -/
def queryBackUptoRow : OpenClaim := { program := "ytbpdfpfgijhokaagreatdoor", sum := "49409ba08e1551b2b612750e9f2ad58d3f21f0ab5c0936d8174f00b84866bf77", func := "stackyard/stackyardlaw11.QueryBack", spec := "queryBack", inPlace := ["internal/bytealg.IndexByteString", "internal/bytealg.IndexString", "internal/bytealg.CountString", "internal/abi.NoEscape", "internal/bytealg.MakeNoZero"], unfollowed := true, recurses := true, named := ["stackyard/query.gathers", "unicode/utf8.first", "unicode/utf8.acceptRanges", "strconv.ErrSyntax", "strconv.ErrRange", "internal/strconv.uint64pow10", "math/bits.deBruijn32tab", "math/bits.deBruijn64tab", "stackyard/query.keys", "stackyard/expr.shapes", "internal/bytealg.MaxLen"], loops := true, apart := false, laid := [("math/bits.deBruijn32tab", laid_math_bits_deBruijn32tab), ("math/bits.deBruijn64tab", laid_math_bits_deBruijn64tab), ("internal/strconv.uint64pow10", laid_internal_strconv_uint64pow10), ("unicode/utf8.acceptRanges", laid_unicode_utf8_acceptRanges), ("strconv.ErrRange", laid_strconv_ErrRange), ("strconv.ErrSyntax", laid_strconv_ErrSyntax), ("stackyard/expr.shapes", laid_stackyard_expr_shapes), ("stackyard/query.keys", laid_stackyard_query_keys), ("stackyard/query.gathers", laid_stackyard_query_gathers), ("unicode/utf8.first", laid_unicode_utf8_first)], narrowed := true }
def QueryBackUptoSaid : Prop := queryBackUptoRow.holds Tryz.pinned (OpenSpec.upto queryBackSpec)

/-- 'stackyardlaw11.QueryBrackets', WHERE WHAT IT READS IS OF BULK AT MOST 1048576: true; the input reads as it did. -/
def queryBracketsUptoRow : OpenClaim := { program := "ytbpdfpfgijhokaagreatdoor", sum := "49409ba08e1551b2b612750e9f2ad58d3f21f0ab5c0936d8174f00b84866bf77", func := "stackyard/stackyardlaw11.QueryBrackets", spec := "queryBrackets", inPlace := ["internal/bytealg.IndexByteString", "internal/bytealg.IndexString", "internal/bytealg.CountString", "internal/abi.NoEscape", "internal/bytealg.MakeNoZero"], unfollowed := true, recurses := true, named := ["stackyard/query.gathers", "unicode/utf8.first", "unicode/utf8.acceptRanges", "strconv.ErrSyntax", "strconv.ErrRange", "internal/strconv.uint64pow10", "math/bits.deBruijn32tab", "math/bits.deBruijn64tab", "stackyard/query.keys", "stackyard/expr.shapes", "internal/bytealg.MaxLen"], loops := true, apart := false, laid := [("math/bits.deBruijn32tab", laid_math_bits_deBruijn32tab), ("math/bits.deBruijn64tab", laid_math_bits_deBruijn64tab), ("internal/strconv.uint64pow10", laid_internal_strconv_uint64pow10), ("unicode/utf8.acceptRanges", laid_unicode_utf8_acceptRanges), ("strconv.ErrRange", laid_strconv_ErrRange), ("strconv.ErrSyntax", laid_strconv_ErrSyntax), ("stackyard/expr.shapes", laid_stackyard_expr_shapes), ("stackyard/query.keys", laid_stackyard_query_keys), ("stackyard/query.gathers", laid_stackyard_query_gathers), ("unicode/utf8.first", laid_unicode_utf8_first)], narrowed := true }
def QueryBracketsUptoSaid : Prop := queryBracketsUptoRow.holds Tryz.pinned (OpenSpec.upto queryBracketsSpec)

end Rows
end Go.Proofs.YtbpdfpfgijhokaaGreatDoor
