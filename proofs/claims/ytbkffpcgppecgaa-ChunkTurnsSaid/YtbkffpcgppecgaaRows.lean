/-
  No cell of these rows narrows 'for every input' (looked for: loops, veiled, ifaces, maps, wideKeys, modest, calm, conditions, laid).
  DERIVED. THE GIVEN ROWS OF THIS SEAT. 5 by the template 'for every input the law returns true; each argument reads behind the call as it read before'; 0 by the template 'total and deterministic' (their statements: YtbkffpcgppecgaaTotals.lean).
  GIVEN WITH THE SEED: the statements are not yours to turn. If you find one false, say at which input.
  Laid BY PROGRAM, IN A SANDBOX (cutbox-rows.mjs): the forced cells as the released guide's own fill.sh prints them over the translation 88fd493040e7d2b5… (all of the seat's roots in one cut). By AI agents, Wed Nov 11 2026. No macro, syntax, notation, axiom, sorry.
-/
import Derived.Test.YtbkffpcgppecgaaChecked
import GoSem.Claim
import GoSem.ClaimJoined
import GoSem.ClaimMapViews
import Derived.JoinedTies
import Derived.KernelRfl
namespace Go.Proofs.Ytbkffpcgppecgaa
/- THE CELL 'sum', in the pinned program and in every row, IS THE sha256 OF THE DUMP (.gsa) THAT YtbkffpcgppecgaaProg.lean LOADS. Nothing in Lean hashes anything: it is a label: what it is worth is what the hold of that sum in a sandbox is worth. -/
noncomputable def Try.pinned : Pinned := { name := "ytbkffpcgppecgaa", sum := "88fd493040e7d2b5d64353daa54f51bf81e056cfd0f177795a8219e851b415d6", checked := Try.checked }
namespace Rows
def none {H : Type} : Left H := { results := [], args := [] }

/-- 'stackyardlaw08.ChunkWords': WHATEVER THE INPUT: true; the input reads as it did. -/
def chunkWordsSpec : ChangeSpec := { name := "chunkWords", fn := fun _ => fun
  | [d1, d2] => { results := [.lit (.bool true)], args := [d1, d2] }
  | _ => none }
def chunkWordsRow : OpenClaim := { program := "ytbkffpcgppecgaa", sum := "88fd493040e7d2b5d64353daa54f51bf81e056cfd0f177795a8219e851b415d6", func := "stackyard/stackyardlaw08.ChunkWords", spec := "chunkWords", unfollowed := true, recurses := true, apart := false }
def ChunkWordsSaid : Prop := chunkWordsRow.holds Try.pinned (OpenSpec.ofChange chunkWordsSpec)

/-- ITS FALSE NEIGHBOUR: 'it returns false'. Refute it at one input. -/
def chunkWordsWrong : ChangeSpec := { name := "chunkWords", fn := fun _ => fun
  | [d1, d2] => { results := [.lit (.bool false)], args := [d1, d2] }
  | _ => none }
def ChunkWordsWrongFalsely : Prop := chunkWordsRow.holds Try.pinned (OpenSpec.ofChange chunkWordsWrong)

/-- 'stackyardlaw08.ChunkZones': WHATEVER THE INPUT: true; the input reads as it did. -/
def chunkZonesSpec : ChangeSpec := { name := "chunkZones", fn := fun _ => fun
  | [d] => { results := [.lit (.bool true)], args := [d] }
  | _ => none }
def chunkZonesRow : OpenClaim := { program := "ytbkffpcgppecgaa", sum := "88fd493040e7d2b5d64353daa54f51bf81e056cfd0f177795a8219e851b415d6", func := "stackyard/stackyardlaw08.ChunkZones", spec := "chunkZones", inPlace := ["internal/bytealg.abigen_runtime_cmpstring"], unfollowed := true, recurses := true, apart := false }
def ChunkZonesSaid : Prop := chunkZonesRow.holds Try.pinned (OpenSpec.ofChange chunkZonesSpec)

/-- ITS FALSE NEIGHBOUR: 'it returns false'. Refute it at one input. -/
def chunkZonesWrong : ChangeSpec := { name := "chunkZones", fn := fun _ => fun
  | [d] => { results := [.lit (.bool false)], args := [d] }
  | _ => none }
def ChunkZonesWrongFalsely : Prop := chunkZonesRow.holds Try.pinned (OpenSpec.ofChange chunkZonesWrong)

/-- 'stackyardlaw08.ChunkWithin': WHATEVER THE INPUT: true; the input reads as it did. -/
def chunkWithinSpec : ChangeSpec := { name := "chunkWithin", fn := fun _ => fun
  | [d] => { results := [.lit (.bool true)], args := [d] }
  | _ => none }
def chunkWithinRow : OpenClaim := { program := "ytbkffpcgppecgaa", sum := "88fd493040e7d2b5d64353daa54f51bf81e056cfd0f177795a8219e851b415d6", func := "stackyard/stackyardlaw08.ChunkWithin", spec := "chunkWithin", inPlace := ["internal/bytealg.abigen_runtime_cmpstring"], unfollowed := true, recurses := true, apart := false }
def ChunkWithinSaid : Prop := chunkWithinRow.holds Try.pinned (OpenSpec.ofChange chunkWithinSpec)

/-- ITS FALSE NEIGHBOUR: 'it returns false'. Refute it at one input. -/
def chunkWithinWrong : ChangeSpec := { name := "chunkWithin", fn := fun _ => fun
  | [d] => { results := [.lit (.bool false)], args := [d] }
  | _ => none }
def ChunkWithinWrongFalsely : Prop := chunkWithinRow.holds Try.pinned (OpenSpec.ofChange chunkWithinWrong)

/-- 'stackyardlaw08.ChunkBack': WHATEVER THE INPUT: true; the input reads as it did. -/
def chunkBackSpec : ChangeSpec := { name := "chunkBack", fn := fun _ => fun
  | [d1, d2] => { results := [.lit (.bool true)], args := [d1, d2] }
  | _ => none }
def chunkBackRow : OpenClaim := { program := "ytbkffpcgppecgaa", sum := "88fd493040e7d2b5d64353daa54f51bf81e056cfd0f177795a8219e851b415d6", func := "stackyard/stackyardlaw08.ChunkBack", spec := "chunkBack", unfollowed := true, recurses := true, apart := false }
def ChunkBackSaid : Prop := chunkBackRow.holds Try.pinned (OpenSpec.ofChange chunkBackSpec)

/-- ITS FALSE NEIGHBOUR: 'it returns false'. Refute it at one input. -/
def chunkBackWrong : ChangeSpec := { name := "chunkBack", fn := fun _ => fun
  | [d1, d2] => { results := [.lit (.bool false)], args := [d1, d2] }
  | _ => none }
def ChunkBackWrongFalsely : Prop := chunkBackRow.holds Try.pinned (OpenSpec.ofChange chunkBackWrong)

/-- 'stackyardlaw08.ChunkTurns': WHATEVER THE INPUT: true; the input reads as it did. -/
def chunkTurnsSpec : ChangeSpec := { name := "chunkTurns", fn := fun _ => fun
  | [d1, d2, d3, d4] => { results := [.lit (.bool true)], args := [d1, d2, d3, d4] }
  | _ => none }
def chunkTurnsRow : OpenClaim := { program := "ytbkffpcgppecgaa", sum := "88fd493040e7d2b5d64353daa54f51bf81e056cfd0f177795a8219e851b415d6", func := "stackyard/stackyardlaw08.ChunkTurns", spec := "chunkTurns", unfollowed := true, recurses := true, apart := false }
def ChunkTurnsSaid : Prop := chunkTurnsRow.holds Try.pinned (OpenSpec.ofChange chunkTurnsSpec)

/-- ITS FALSE NEIGHBOUR: 'it returns false'. Refute it at one input. -/
def chunkTurnsWrong : ChangeSpec := { name := "chunkTurns", fn := fun _ => fun
  | [d1, d2, d3, d4] => { results := [.lit (.bool false)], args := [d1, d2, d3, d4] }
  | _ => none }
def ChunkTurnsWrongFalsely : Prop := chunkTurnsRow.holds Try.pinned (OpenSpec.ofChange chunkTurnsWrong)

/- THE SECOND FORM. 'bulk': how many values and letters a reading holds, each counted each time it is reached (what is shared counts as often as it is met; a slice's spare places count too). A statement '..UptoSaid' is the law's where the arguments, and the package variables that the reading takes, are together of bulk at most 1048576: NARROWER than '..Said'. Prove '..Said' where nothing that the law and all that it calls make is longer than what came in: it says more and counts as full. Else prove '..UptoSaid'. A law counts once. -/
mutual
def uptoBulk {H : Type} : DataW H → Nat
  | .lit (.string bytes) => bytes.length + 1
  | .lit _ => 1
  | .nil => 1
  | .ptr d => uptoBulk d + 1
  | .slice elems spare => uptoBulkAll elems + uptoBulkAll spare + 1
  | .agg parts => uptoBulkAll parts + 1
  | .iface _ d => uptoBulk d + 1
  | .map entries => uptoBulkEntries entries + 1
  | .held _ => 1
def uptoBulkAll {H : Type} : List (DataW H) → Nat
  | [] => 0
  | d :: r => uptoBulk d + uptoBulkAll r
def uptoBulkEntries {H : Type} : List (Lit × DataW H) → Nat
  | [] => 0
  | x :: r => uptoBulkEntry x + uptoBulkEntries r
def uptoBulkEntry {H : Type} : Lit × DataW H → Nat
  | (.string bytes, d) => bytes.length + uptoBulk d + 1
  | (_, d) => uptoBulk d + 1
 end
def uptoSmall : (H : Type) → List (DataW H) → Bool := fun _ ds => decide (uptoBulkAll ds ≤ 1048576)
def OpenSpec.upto (s : _root_.Go.ChangeSpec) : _root_.Go.OpenSpec := { _root_.Go.OpenSpec.ofChange s with cond := some uptoSmall }

/-- 'stackyardlaw08.ChunkWords', WHERE WHAT IT READS IS OF BULK AT MOST 1048576: true; the input reads as it did. -/
def chunkWordsUptoRow : OpenClaim := { program := "ytbkffpcgppecgaa", sum := "88fd493040e7d2b5d64353daa54f51bf81e056cfd0f177795a8219e851b415d6", func := "stackyard/stackyardlaw08.ChunkWords", spec := "chunkWords", unfollowed := true, recurses := true, apart := false, narrowed := true }
def ChunkWordsUptoSaid : Prop := chunkWordsUptoRow.holds Try.pinned (OpenSpec.upto chunkWordsSpec)

/-- 'stackyardlaw08.ChunkZones', WHERE WHAT IT READS IS OF BULK AT MOST 1048576: true; the input reads as it did. -/
def chunkZonesUptoRow : OpenClaim := { program := "ytbkffpcgppecgaa", sum := "88fd493040e7d2b5d64353daa54f51bf81e056cfd0f177795a8219e851b415d6", func := "stackyard/stackyardlaw08.ChunkZones", spec := "chunkZones", inPlace := ["internal/bytealg.abigen_runtime_cmpstring"], unfollowed := true, recurses := true, apart := false, narrowed := true }
def ChunkZonesUptoSaid : Prop := chunkZonesUptoRow.holds Try.pinned (OpenSpec.upto chunkZonesSpec)

/-- 'stackyardlaw08.ChunkWithin', WHERE WHAT IT READS IS OF BULK AT MOST 1048576: true; the input reads as it did. -/
def chunkWithinUptoRow : OpenClaim := { program := "ytbkffpcgppecgaa", sum := "88fd493040e7d2b5d64353daa54f51bf81e056cfd0f177795a8219e851b415d6", func := "stackyard/stackyardlaw08.ChunkWithin", spec := "chunkWithin", inPlace := ["internal/bytealg.abigen_runtime_cmpstring"], unfollowed := true, recurses := true, apart := false, narrowed := true }
def ChunkWithinUptoSaid : Prop := chunkWithinUptoRow.holds Try.pinned (OpenSpec.upto chunkWithinSpec)

/-- 'stackyardlaw08.ChunkBack', WHERE WHAT IT READS IS OF BULK AT MOST 1048576: true; the input reads as it did. -/
def chunkBackUptoRow : OpenClaim := { program := "ytbkffpcgppecgaa", sum := "88fd493040e7d2b5d64353daa54f51bf81e056cfd0f177795a8219e851b415d6", func := "stackyard/stackyardlaw08.ChunkBack", spec := "chunkBack", unfollowed := true, recurses := true, apart := false, narrowed := true }
def ChunkBackUptoSaid : Prop := chunkBackUptoRow.holds Try.pinned (OpenSpec.upto chunkBackSpec)

/-- 'stackyardlaw08.ChunkTurns', WHERE WHAT IT READS IS OF BULK AT MOST 1048576: true; the input reads as it did. -/
def chunkTurnsUptoRow : OpenClaim := { program := "ytbkffpcgppecgaa", sum := "88fd493040e7d2b5d64353daa54f51bf81e056cfd0f177795a8219e851b415d6", func := "stackyard/stackyardlaw08.ChunkTurns", spec := "chunkTurns", unfollowed := true, recurses := true, apart := false, narrowed := true }
def ChunkTurnsUptoSaid : Prop := chunkTurnsUptoRow.holds Try.pinned (OpenSpec.upto chunkTurnsSpec)

end Rows
end Go.Proofs.Ytbkffpcgppecgaa
