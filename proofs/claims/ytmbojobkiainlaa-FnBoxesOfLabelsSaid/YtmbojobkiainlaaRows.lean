/-
  No cell of these rows narrows 'for every input' (looked for: loops, veiled, ifaces, maps, wideKeys, modest, calm, conditions, laid).
  DERIVED. THE GIVEN ROWS OF THIS SEAT. 4 by the template 'for every input the law returns true; each argument reads behind the call as it read before'; 0 by the template 'total and deterministic' (their statements: YtmbojobkiainlaaTotals.lean).
  GIVEN WITH THE SEED: the statements are not yours to turn. If you find one false, say at which input.
  Laid BY PROGRAM, IN A SANDBOX (cutbox-rows.mjs): the forced cells as the released guide's own fill.sh prints them over the translation df4fc43016b26aca… (all of the seat's roots in one cut). By AI agents, Wed Nov 11 2026. No macro, syntax, notation, axiom, sorry.
-/
import Derived.Test.YtmbojobkiainlaaChecked
import GoSem.Claim
import GoSem.ClaimJoined
import GoSem.ClaimMapViews
import Derived.JoinedTies
import Derived.KernelRfl
namespace Go.Proofs.Ytmbojobkiainlaa
/- THE CELL 'sum', in the pinned program and in every row, IS THE sha256 OF THE DUMP (.gsa) THAT YtmbojobkiainlaaProg.lean LOADS. Nothing in Lean hashes anything: it is a label: what it is worth is what the hold of that sum in a sandbox is worth. -/
noncomputable def Try.pinned : Pinned := { name := "ytmbojobkiainlaa", sum := "df4fc43016b26acaf5ea149fe3d1cd0e9546fd2514739ff3797eac9b101e4fac", checked := Try.checked }
namespace Rows
def none {H : Type} : Left H := { results := [], args := [] }

/-- 'laws.FnLabelsRanked': WHATEVER THE INPUT: true; the input reads as it did. -/
def fnLabelsRankedSpec : ChangeSpec := { name := "fnLabelsRanked", fn := fun _ => fun
  | [d1, d2] => { results := [.lit (.bool true)], args := [d1, d2] }
  | _ => none }
def fnLabelsRankedRow : OpenClaim := { program := "ytmbojobkiainlaa", sum := "df4fc43016b26acaf5ea149fe3d1cd0e9546fd2514739ff3797eac9b101e4fac", func := "loop.example/g01138/laws.FnLabelsRanked", spec := "fnLabelsRanked", unfollowed := true, recurses := true, apart := false }
def FnLabelsRankedSaid : Prop := fnLabelsRankedRow.holds Try.pinned (OpenSpec.ofChange fnLabelsRankedSpec)

/-- ITS FALSE NEIGHBOUR: 'it returns false'. Refute it at one input. -/
def fnLabelsRankedWrong : ChangeSpec := { name := "fnLabelsRanked", fn := fun _ => fun
  | [d1, d2] => { results := [.lit (.bool false)], args := [d1, d2] }
  | _ => none }
def FnLabelsRankedWrongFalsely : Prop := fnLabelsRankedRow.holds Try.pinned (OpenSpec.ofChange fnLabelsRankedWrong)

/-- 'laws.FnLabelsCounted': WHATEVER THE INPUT: true; the input reads as it did. -/
def fnLabelsCountedSpec : ChangeSpec := { name := "fnLabelsCounted", fn := fun _ => fun
  | [d1, d2] => { results := [.lit (.bool true)], args := [d1, d2] }
  | _ => none }
def fnLabelsCountedRow : OpenClaim := { program := "ytmbojobkiainlaa", sum := "df4fc43016b26acaf5ea149fe3d1cd0e9546fd2514739ff3797eac9b101e4fac", func := "loop.example/g01138/laws.FnLabelsCounted", spec := "fnLabelsCounted", unfollowed := true, recurses := true, apart := false }
def FnLabelsCountedSaid : Prop := fnLabelsCountedRow.holds Try.pinned (OpenSpec.ofChange fnLabelsCountedSpec)

/-- ITS FALSE NEIGHBOUR: 'it returns false'. Refute it at one input. -/
def fnLabelsCountedWrong : ChangeSpec := { name := "fnLabelsCounted", fn := fun _ => fun
  | [d1, d2] => { results := [.lit (.bool false)], args := [d1, d2] }
  | _ => none }
def FnLabelsCountedWrongFalsely : Prop := fnLabelsCountedRow.holds Try.pinned (OpenSpec.ofChange fnLabelsCountedWrong)

/-- 'laws.FnBoxesOfLabels': WHATEVER THE INPUT: true; the input reads as it did. -/
def fnBoxesOfLabelsSpec : ChangeSpec := { name := "fnBoxesOfLabels", fn := fun _ => fun
  | [d1, d2] => { results := [.lit (.bool true)], args := [d1, d2] }
  | _ => none }
def fnBoxesOfLabelsRow : OpenClaim := { program := "ytmbojobkiainlaa", sum := "df4fc43016b26acaf5ea149fe3d1cd0e9546fd2514739ff3797eac9b101e4fac", func := "loop.example/g01138/laws.FnBoxesOfLabels", spec := "fnBoxesOfLabels", unfollowed := true, recurses := true, apart := false }
def FnBoxesOfLabelsSaid : Prop := fnBoxesOfLabelsRow.holds Try.pinned (OpenSpec.ofChange fnBoxesOfLabelsSpec)

/-- ITS FALSE NEIGHBOUR: 'it returns false'. Refute it at one input. -/
def fnBoxesOfLabelsWrong : ChangeSpec := { name := "fnBoxesOfLabels", fn := fun _ => fun
  | [d1, d2] => { results := [.lit (.bool false)], args := [d1, d2] }
  | _ => none }
def FnBoxesOfLabelsWrongFalsely : Prop := fnBoxesOfLabelsRow.holds Try.pinned (OpenSpec.ofChange fnBoxesOfLabelsWrong)

/-- 'laws.FnLinearRanked': WHATEVER THE INPUT: true; the input reads as it did. -/
def fnLinearRankedSpec : ChangeSpec := { name := "fnLinearRanked", fn := fun _ => fun
  | [d1, d2] => { results := [.lit (.bool true)], args := [d1, d2] }
  | _ => none }
def fnLinearRankedRow : OpenClaim := { program := "ytmbojobkiainlaa", sum := "df4fc43016b26acaf5ea149fe3d1cd0e9546fd2514739ff3797eac9b101e4fac", func := "loop.example/g01138/laws.FnLinearRanked", spec := "fnLinearRanked", unfollowed := true, recurses := true, apart := false }
def FnLinearRankedSaid : Prop := fnLinearRankedRow.holds Try.pinned (OpenSpec.ofChange fnLinearRankedSpec)

/-- ITS FALSE NEIGHBOUR: 'it returns false'. Refute it at one input. -/
def fnLinearRankedWrong : ChangeSpec := { name := "fnLinearRanked", fn := fun _ => fun
  | [d1, d2] => { results := [.lit (.bool false)], args := [d1, d2] }
  | _ => none }
def FnLinearRankedWrongFalsely : Prop := fnLinearRankedRow.holds Try.pinned (OpenSpec.ofChange fnLinearRankedWrong)

/- THE SECOND FORM. 'bulk': how many values and letters a reading holds, each counted each time it is reached (what is shared counts as often as it is met; a slice's spare places count too). A statement '..UptoSaid' is the law's where the arguments, and the package variables that the reading takes, are together of bulk at most 1048576: NARROWER than '..Said'. Prove '..Said' where nothing that the law and all that it calls make is longer than what came in: it says more and counts as full. Else prove '..UptoSaid'. A law counts once. -/
mutual
def uptoBulk {H : Type} : DataW H → Nat
  | .lit (.string bytes) => bytes.length + 1
  | .lit _ => 1
  | .nil => 1
  | .ptr d => uptoBulk d + 1
  | .slice elems spare => uptoBulkAll elems + uptoBulkAll spare + 1
  | .agg parts => uptoBulkAll parts + 1
  | .iface _ d => uptoBulk d + 1
  | .map entries => uptoBulkEntries entries + 1
  | .held _ => 1
def uptoBulkAll {H : Type} : List (DataW H) → Nat
  | [] => 0
  | d :: r => uptoBulk d + uptoBulkAll r
def uptoBulkEntries {H : Type} : List (Lit × DataW H) → Nat
  | [] => 0
  | x :: r => uptoBulkEntry x + uptoBulkEntries r
def uptoBulkEntry {H : Type} : Lit × DataW H → Nat
  | (.string bytes, d) => bytes.length + uptoBulk d + 1
  | (_, d) => uptoBulk d + 1
 end
def uptoSmall : (H : Type) → List (DataW H) → Bool := fun _ ds => decide (uptoBulkAll ds ≤ 1048576)
def OpenSpec.upto (s : _root_.Go.ChangeSpec) : _root_.Go.OpenSpec := { _root_.Go.OpenSpec.ofChange s with cond := some uptoSmall }

/-- 'laws.FnLabelsRanked', WHERE WHAT IT READS IS OF BULK AT MOST 1048576: true; the input reads as it did. -/
def fnLabelsRankedUptoRow : OpenClaim := { program := "ytmbojobkiainlaa", sum := "df4fc43016b26acaf5ea149fe3d1cd0e9546fd2514739ff3797eac9b101e4fac", func := "loop.example/g01138/laws.FnLabelsRanked", spec := "fnLabelsRanked", unfollowed := true, recurses := true, apart := false, narrowed := true }
def FnLabelsRankedUptoSaid : Prop := fnLabelsRankedUptoRow.holds Try.pinned (OpenSpec.upto fnLabelsRankedSpec)

/-- 'laws.FnLabelsCounted', WHERE WHAT IT READS IS OF BULK AT MOST 1048576: true; the input reads as it did. -/
def fnLabelsCountedUptoRow : OpenClaim := { program := "ytmbojobkiainlaa", sum := "df4fc43016b26acaf5ea149fe3d1cd0e9546fd2514739ff3797eac9b101e4fac", func := "loop.example/g01138/laws.FnLabelsCounted", spec := "fnLabelsCounted", unfollowed := true, recurses := true, apart := false, narrowed := true }
def FnLabelsCountedUptoSaid : Prop := fnLabelsCountedUptoRow.holds Try.pinned (OpenSpec.upto fnLabelsCountedSpec)

/-- 'laws.FnBoxesOfLabels', WHERE WHAT IT READS IS OF BULK AT MOST 1048576: true; the input reads as it did. -/
def fnBoxesOfLabelsUptoRow : OpenClaim := { program := "ytmbojobkiainlaa", sum := "df4fc43016b26acaf5ea149fe3d1cd0e9546fd2514739ff3797eac9b101e4fac", func := "loop.example/g01138/laws.FnBoxesOfLabels", spec := "fnBoxesOfLabels", unfollowed := true, recurses := true, apart := false, narrowed := true }
def FnBoxesOfLabelsUptoSaid : Prop := fnBoxesOfLabelsUptoRow.holds Try.pinned (OpenSpec.upto fnBoxesOfLabelsSpec)

/-- 'laws.FnLinearRanked', WHERE WHAT IT READS IS OF BULK AT MOST 1048576: true; the input reads as it did. -/
def fnLinearRankedUptoRow : OpenClaim := { program := "ytmbojobkiainlaa", sum := "df4fc43016b26acaf5ea149fe3d1cd0e9546fd2514739ff3797eac9b101e4fac", func := "loop.example/g01138/laws.FnLinearRanked", spec := "fnLinearRanked", unfollowed := true, recurses := true, apart := false, narrowed := true }
def FnLinearRankedUptoSaid : Prop := fnLinearRankedUptoRow.holds Try.pinned (OpenSpec.upto fnLinearRankedSpec)

end Rows
end Go.Proofs.Ytmbojobkiainlaa
