/-
  No cell of these rows narrows 'for every input' (looked for: loops, veiled, ifaces, maps, wideKeys, modest, calm, conditions, laid).
  DERIVED. THE GIVEN ROWS OF THIS SEAT. 9 by the template 'for every input the law returns true; each argument reads behind the call as it read before'; 0 by the template 'total and deterministic' (their statements: YtemkddgfneohhaaTotals.lean).
  GIVEN WITH THE SEED: the statements are not yours to turn. If you find one false, say at which input.
  Laid BY PROGRAM, IN A SANDBOX (cutbox-rows.mjs): the forced cells as the released guide's own fill.sh prints them over the translation 9ee8755de00a74f2… (all of the seat's roots in one cut). By AI agents, Wed Nov 11 2026. No macro, syntax, notation, axiom, sorry.
-/
import Derived.Test.YtemkddgfneohhaaChecked
import GoSem.Claim
import GoSem.ClaimJoined
import GoSem.ClaimMapViews
import Derived.JoinedTies
import Derived.KernelRfl
namespace Go.Proofs.Ytemkddgfneohhaa
/- THE CELL 'sum', in the pinned program and in every row, IS THE sha256 OF THE DUMP (.gsa) THAT YtemkddgfneohhaaProg.lean LOADS. Nothing in Lean hashes anything: it is a label: what it is worth is what the hold of that sum in a sandbox is worth. -/
noncomputable def Try.pinned : Pinned := { name := "ytemkddgfneohhaa", sum := "9ee8755de00a74f27d461030d9e4207802fb6b11795e0663ad1f0865d7251008", checked := Try.checked }
namespace Rows
def none {H : Type} : Left H := { results := [], args := [] }

/-- 'laws.FnExactBoxCount': WHATEVER THE INPUT: true; the input reads as it did. -/
def fnExactBoxCountSpec : ChangeSpec := { name := "fnExactBoxCount", fn := fun _ => fun
  | [d1, d2, d3] => { results := [.lit (.bool true)], args := [d1, d2, d3] }
  | _ => none }
def fnExactBoxCountRow : OpenClaim := { program := "ytemkddgfneohhaa", sum := "9ee8755de00a74f27d461030d9e4207802fb6b11795e0663ad1f0865d7251008", func := "loop.example/g01138/laws.FnExactBoxCount", spec := "fnExactBoxCount", unfollowed := true, recurses := true, apart := false }
def FnExactBoxCountSaid : Prop := fnExactBoxCountRow.holds Try.pinned (OpenSpec.ofChange fnExactBoxCountSpec)

/-- ITS FALSE NEIGHBOUR: 'it returns false'. Refute it at one input. -/
def fnExactBoxCountWrong : ChangeSpec := { name := "fnExactBoxCount", fn := fun _ => fun
  | [d1, d2, d3] => { results := [.lit (.bool false)], args := [d1, d2, d3] }
  | _ => none }
def FnExactBoxCountWrongFalsely : Prop := fnExactBoxCountRow.holds Try.pinned (OpenSpec.ofChange fnExactBoxCountWrong)

/-- 'laws.FnExactCountLabels': WHATEVER THE INPUT: true; the input reads as it did. -/
def fnExactCountLabelsSpec : ChangeSpec := { name := "fnExactCountLabels", fn := fun _ => fun
  | [d1, d2] => { results := [.lit (.bool true)], args := [d1, d2] }
  | _ => none }
def fnExactCountLabelsRow : OpenClaim := { program := "ytemkddgfneohhaa", sum := "9ee8755de00a74f27d461030d9e4207802fb6b11795e0663ad1f0865d7251008", func := "loop.example/g01138/laws.FnExactCountLabels", spec := "fnExactCountLabels", unfollowed := true, recurses := true, apart := false }
def FnExactCountLabelsSaid : Prop := fnExactCountLabelsRow.holds Try.pinned (OpenSpec.ofChange fnExactCountLabelsSpec)

/-- ITS FALSE NEIGHBOUR: 'it returns false'. Refute it at one input. -/
def fnExactCountLabelsWrong : ChangeSpec := { name := "fnExactCountLabels", fn := fun _ => fun
  | [d1, d2] => { results := [.lit (.bool false)], args := [d1, d2] }
  | _ => none }
def FnExactCountLabelsWrongFalsely : Prop := fnExactCountLabelsRow.holds Try.pinned (OpenSpec.ofChange fnExactCountLabelsWrong)

/-- 'laws.FnExactBoxBySum': WHATEVER THE INPUT: true; the input reads as it did. -/
def fnExactBoxBySumSpec : ChangeSpec := { name := "fnExactBoxBySum", fn := fun _ => fun
  | [d1, d2, d3] => { results := [.lit (.bool true)], args := [d1, d2, d3] }
  | _ => none }
def fnExactBoxBySumRow : OpenClaim := { program := "ytemkddgfneohhaa", sum := "9ee8755de00a74f27d461030d9e4207802fb6b11795e0663ad1f0865d7251008", func := "loop.example/g01138/laws.FnExactBoxBySum", spec := "fnExactBoxBySum", unfollowed := true, recurses := true, apart := false }
def FnExactBoxBySumSaid : Prop := fnExactBoxBySumRow.holds Try.pinned (OpenSpec.ofChange fnExactBoxBySumSpec)

/-- ITS FALSE NEIGHBOUR: 'it returns false'. Refute it at one input. -/
def fnExactBoxBySumWrong : ChangeSpec := { name := "fnExactBoxBySum", fn := fun _ => fun
  | [d1, d2, d3] => { results := [.lit (.bool false)], args := [d1, d2, d3] }
  | _ => none }
def FnExactBoxBySumWrongFalsely : Prop := fnExactBoxBySumRow.holds Try.pinned (OpenSpec.ofChange fnExactBoxBySumWrong)

/-- 'laws.FnExactCountStrict': WHATEVER THE INPUT: true; the input reads as it did. -/
def fnExactCountStrictSpec : ChangeSpec := { name := "fnExactCountStrict", fn := fun _ => fun
  | [d1, d2] => { results := [.lit (.bool true)], args := [d1, d2] }
  | _ => none }
def fnExactCountStrictRow : OpenClaim := { program := "ytemkddgfneohhaa", sum := "9ee8755de00a74f27d461030d9e4207802fb6b11795e0663ad1f0865d7251008", func := "loop.example/g01138/laws.FnExactCountStrict", spec := "fnExactCountStrict", unfollowed := true, recurses := true, apart := false }
def FnExactCountStrictSaid : Prop := fnExactCountStrictRow.holds Try.pinned (OpenSpec.ofChange fnExactCountStrictSpec)

/-- ITS FALSE NEIGHBOUR: 'it returns false'. Refute it at one input. -/
def fnExactCountStrictWrong : ChangeSpec := { name := "fnExactCountStrict", fn := fun _ => fun
  | [d1, d2] => { results := [.lit (.bool false)], args := [d1, d2] }
  | _ => none }
def FnExactCountStrictWrongFalsely : Prop := fnExactCountStrictRow.holds Try.pinned (OpenSpec.ofChange fnExactCountStrictWrong)

/-- 'laws.FnExactLabelPolynomialAt': WHATEVER THE INPUT: true; the input reads as it did. -/
def fnExactLabelPolynomialAtSpec : ChangeSpec := { name := "fnExactLabelPolynomialAt", fn := fun _ => fun
  | [d1, d2] => { results := [.lit (.bool true)], args := [d1, d2] }
  | _ => none }
def fnExactLabelPolynomialAtRow : OpenClaim := { program := "ytemkddgfneohhaa", sum := "9ee8755de00a74f27d461030d9e4207802fb6b11795e0663ad1f0865d7251008", func := "loop.example/g01138/laws.FnExactLabelPolynomialAt", spec := "fnExactLabelPolynomialAt", unfollowed := true, recurses := true, apart := false }
def FnExactLabelPolynomialAtSaid : Prop := fnExactLabelPolynomialAtRow.holds Try.pinned (OpenSpec.ofChange fnExactLabelPolynomialAtSpec)

/-- ITS FALSE NEIGHBOUR: 'it returns false'. Refute it at one input. -/
def fnExactLabelPolynomialAtWrong : ChangeSpec := { name := "fnExactLabelPolynomialAt", fn := fun _ => fun
  | [d1, d2] => { results := [.lit (.bool false)], args := [d1, d2] }
  | _ => none }
def FnExactLabelPolynomialAtWrongFalsely : Prop := fnExactLabelPolynomialAtRow.holds Try.pinned (OpenSpec.ofChange fnExactLabelPolynomialAtWrong)

/-- 'laws.FnExactStepCounts': WHATEVER THE INPUT: true; the input reads as it did. -/
def fnExactStepCountsSpec : ChangeSpec := { name := "fnExactStepCounts", fn := fun _ => fun
  | [d] => { results := [.lit (.bool true)], args := [d] }
  | _ => none }
def fnExactStepCountsRow : OpenClaim := { program := "ytemkddgfneohhaa", sum := "9ee8755de00a74f27d461030d9e4207802fb6b11795e0663ad1f0865d7251008", func := "loop.example/g01138/laws.FnExactStepCounts", spec := "fnExactStepCounts", unfollowed := true, recurses := true, apart := false }
def FnExactStepCountsSaid : Prop := fnExactStepCountsRow.holds Try.pinned (OpenSpec.ofChange fnExactStepCountsSpec)

/-- ITS FALSE NEIGHBOUR: 'it returns false'. Refute it at one input. -/
def fnExactStepCountsWrong : ChangeSpec := { name := "fnExactStepCounts", fn := fun _ => fun
  | [d] => { results := [.lit (.bool false)], args := [d] }
  | _ => none }
def FnExactStepCountsWrongFalsely : Prop := fnExactStepCountsRow.holds Try.pinned (OpenSpec.ofChange fnExactStepCountsWrong)

/-- 'laws.FnExactLabelsWith': WHATEVER THE INPUT: true; the input reads as it did. -/
def fnExactLabelsWithSpec : ChangeSpec := { name := "fnExactLabelsWith", fn := fun _ => fun
  | [d1, d2, d3] => { results := [.lit (.bool true)], args := [d1, d2, d3] }
  | _ => none }
def fnExactLabelsWithRow : OpenClaim := { program := "ytemkddgfneohhaa", sum := "9ee8755de00a74f27d461030d9e4207802fb6b11795e0663ad1f0865d7251008", func := "loop.example/g01138/laws.FnExactLabelsWith", spec := "fnExactLabelsWith", unfollowed := true, recurses := true, apart := false }
def FnExactLabelsWithSaid : Prop := fnExactLabelsWithRow.holds Try.pinned (OpenSpec.ofChange fnExactLabelsWithSpec)

/-- ITS FALSE NEIGHBOUR: 'it returns false'. Refute it at one input. -/
def fnExactLabelsWithWrong : ChangeSpec := { name := "fnExactLabelsWith", fn := fun _ => fun
  | [d1, d2, d3] => { results := [.lit (.bool false)], args := [d1, d2, d3] }
  | _ => none }
def FnExactLabelsWithWrongFalsely : Prop := fnExactLabelsWithRow.holds Try.pinned (OpenSpec.ofChange fnExactLabelsWithWrong)

/-- 'laws.FnExactLabelsBySum': WHATEVER THE INPUT: true; the input reads as it did. -/
def fnExactLabelsBySumSpec : ChangeSpec := { name := "fnExactLabelsBySum", fn := fun _ => fun
  | [d1, d2] => { results := [.lit (.bool true)], args := [d1, d2] }
  | _ => none }
def fnExactLabelsBySumRow : OpenClaim := { program := "ytemkddgfneohhaa", sum := "9ee8755de00a74f27d461030d9e4207802fb6b11795e0663ad1f0865d7251008", func := "loop.example/g01138/laws.FnExactLabelsBySum", spec := "fnExactLabelsBySum", unfollowed := true, recurses := true, apart := false }
def FnExactLabelsBySumSaid : Prop := fnExactLabelsBySumRow.holds Try.pinned (OpenSpec.ofChange fnExactLabelsBySumSpec)

/-- ITS FALSE NEIGHBOUR: 'it returns false'. Refute it at one input. -/
def fnExactLabelsBySumWrong : ChangeSpec := { name := "fnExactLabelsBySum", fn := fun _ => fun
  | [d1, d2] => { results := [.lit (.bool false)], args := [d1, d2] }
  | _ => none }
def FnExactLabelsBySumWrongFalsely : Prop := fnExactLabelsBySumRow.holds Try.pinned (OpenSpec.ofChange fnExactLabelsBySumWrong)

/-- 'laws.FnExactRankLabels': WHATEVER THE INPUT: true; the input reads as it did. -/
def fnExactRankLabelsSpec : ChangeSpec := { name := "fnExactRankLabels", fn := fun _ => fun
  | [d1, d2, d3] => { results := [.lit (.bool true)], args := [d1, d2, d3] }
  | _ => none }
def fnExactRankLabelsRow : OpenClaim := { program := "ytemkddgfneohhaa", sum := "9ee8755de00a74f27d461030d9e4207802fb6b11795e0663ad1f0865d7251008", func := "loop.example/g01138/laws.FnExactRankLabels", spec := "fnExactRankLabels", unfollowed := true, recurses := true, apart := false }
def FnExactRankLabelsSaid : Prop := fnExactRankLabelsRow.holds Try.pinned (OpenSpec.ofChange fnExactRankLabelsSpec)

/-- ITS FALSE NEIGHBOUR: 'it returns false'. Refute it at one input. -/
def fnExactRankLabelsWrong : ChangeSpec := { name := "fnExactRankLabels", fn := fun _ => fun
  | [d1, d2, d3] => { results := [.lit (.bool false)], args := [d1, d2, d3] }
  | _ => none }
def FnExactRankLabelsWrongFalsely : Prop := fnExactRankLabelsRow.holds Try.pinned (OpenSpec.ofChange fnExactRankLabelsWrong)

/- THE SECOND FORM. 'bulk': how many values and letters a reading holds, each counted each time it is reached (what is shared counts as often as it is met; a slice's spare places count too). A statement '..UptoSaid' is the law's where the arguments, and the package variables that the reading takes, are together of bulk at most 1048576: NARROWER than '..Said'. Prove '..Said' where nothing that the law and all that it calls make is longer than what came in: it says more and counts as full. Else prove '..UptoSaid'. A law counts once. -/
mutual
def uptoBulk {H : Type} : DataW H → Nat
  | .lit (.string bytes) => bytes.length + 1
  | .lit _ => 1
  | .nil => 1
  | .ptr d => uptoBulk d + 1
  | .slice elems spare => uptoBulkAll elems + uptoBulkAll spare + 1
  | .agg parts => uptoBulkAll parts + 1
  | .iface _ d => uptoBulk d + 1
  | .map entries => uptoBulkEntries entries + 1
  | .held _ => 1
def uptoBulkAll {H : Type} : List (DataW H) → Nat
  | [] => 0
  | d :: r => uptoBulk d + uptoBulkAll r
def uptoBulkEntries {H : Type} : List (Lit × DataW H) → Nat
  | [] => 0
  | x :: r => uptoBulkEntry x + uptoBulkEntries r
def uptoBulkEntry {H : Type} : Lit × DataW H → Nat
  | (.string bytes, d) => bytes.length + uptoBulk d + 1
  | (_, d) => uptoBulk d + 1
 end
def uptoSmall : (H : Type) → List (DataW H) → Bool := fun _ ds => decide (uptoBulkAll ds ≤ 1048576)
def OpenSpec.upto (s : _root_.Go.ChangeSpec) : _root_.Go.OpenSpec := { _root_.Go.OpenSpec.ofChange s with cond := some uptoSmall }

/-- 'laws.FnExactBoxCount', WHERE WHAT IT READS IS OF BULK AT MOST 1048576: true; the input reads as it did. -/
def fnExactBoxCountUptoRow : OpenClaim := { program := "ytemkddgfneohhaa", sum := "9ee8755de00a74f27d461030d9e4207802fb6b11795e0663ad1f0865d7251008", func := "loop.example/g01138/laws.FnExactBoxCount", spec := "fnExactBoxCount", unfollowed := true, recurses := true, apart := false, narrowed := true }
def FnExactBoxCountUptoSaid : Prop := fnExactBoxCountUptoRow.holds Try.pinned (OpenSpec.upto fnExactBoxCountSpec)

/-- 'laws.FnExactCountLabels', WHERE WHAT IT READS IS OF BULK AT MOST 1048576: true; the input reads as it did. -/
def fnExactCountLabelsUptoRow : OpenClaim := { program := "ytemkddgfneohhaa", sum := "9ee8755de00a74f27d461030d9e4207802fb6b11795e0663ad1f0865d7251008", func := "loop.example/g01138/laws.FnExactCountLabels", spec := "fnExactCountLabels", unfollowed := true, recurses := true, apart := false, narrowed := true }
def FnExactCountLabelsUptoSaid : Prop := fnExactCountLabelsUptoRow.holds Try.pinned (OpenSpec.upto fnExactCountLabelsSpec)

/-- 'laws.FnExactBoxBySum', WHERE WHAT IT READS IS OF BULK AT MOST 1048576: true; the input reads as it did. -/
def fnExactBoxBySumUptoRow : OpenClaim := { program := "ytemkddgfneohhaa", sum := "9ee8755de00a74f27d461030d9e4207802fb6b11795e0663ad1f0865d7251008", func := "loop.example/g01138/laws.FnExactBoxBySum", spec := "fnExactBoxBySum", unfollowed := true, recurses := true, apart := false, narrowed := true }
def FnExactBoxBySumUptoSaid : Prop := fnExactBoxBySumUptoRow.holds Try.pinned (OpenSpec.upto fnExactBoxBySumSpec)

/-- 'laws.FnExactCountStrict', WHERE WHAT IT READS IS OF BULK AT MOST 1048576: true; the input reads as it did. -/
def fnExactCountStrictUptoRow : OpenClaim := { program := "ytemkddgfneohhaa", sum := "9ee8755de00a74f27d461030d9e4207802fb6b11795e0663ad1f0865d7251008", func := "loop.example/g01138/laws.FnExactCountStrict", spec := "fnExactCountStrict", unfollowed := true, recurses := true, apart := false, narrowed := true }
def FnExactCountStrictUptoSaid : Prop := fnExactCountStrictUptoRow.holds Try.pinned (OpenSpec.upto fnExactCountStrictSpec)

/-- 'laws.FnExactLabelPolynomialAt', WHERE WHAT IT READS IS OF BULK AT MOST 1048576: true; the input reads as it did. -/
def fnExactLabelPolynomialAtUptoRow : OpenClaim := { program := "ytemkddgfneohhaa", sum := "9ee8755de00a74f27d461030d9e4207802fb6b11795e0663ad1f0865d7251008", func := "loop.example/g01138/laws.FnExactLabelPolynomialAt", spec := "fnExactLabelPolynomialAt", unfollowed := true, recurses := true, apart := false, narrowed := true }
def FnExactLabelPolynomialAtUptoSaid : Prop := fnExactLabelPolynomialAtUptoRow.holds Try.pinned (OpenSpec.upto fnExactLabelPolynomialAtSpec)

/-- 'laws.FnExactStepCounts', WHERE WHAT IT READS IS OF BULK AT MOST 1048576: true; the input reads as it did. -/
def fnExactStepCountsUptoRow : OpenClaim := { program := "ytemkddgfneohhaa", sum := "9ee8755de00a74f27d461030d9e4207802fb6b11795e0663ad1f0865d7251008", func := "loop.example/g01138/laws.FnExactStepCounts", spec := "fnExactStepCounts", unfollowed := true, recurses := true, apart := false, narrowed := true }
def FnExactStepCountsUptoSaid : Prop := fnExactStepCountsUptoRow.holds Try.pinned (OpenSpec.upto fnExactStepCountsSpec)

/-- 'laws.FnExactLabelsWith', WHERE WHAT IT READS IS OF BULK AT MOST 1048576: true; the input reads as it did. -/
def fnExactLabelsWithUptoRow : OpenClaim := { program := "ytemkddgfneohhaa", sum := "9ee8755de00a74f27d461030d9e4207802fb6b11795e0663ad1f0865d7251008", func := "loop.example/g01138/laws.FnExactLabelsWith", spec := "fnExactLabelsWith", unfollowed := true, recurses := true, apart := false, narrowed := true }
def FnExactLabelsWithUptoSaid : Prop := fnExactLabelsWithUptoRow.holds Try.pinned (OpenSpec.upto fnExactLabelsWithSpec)

/-- 'laws.FnExactLabelsBySum', WHERE WHAT IT READS IS OF BULK AT MOST 1048576: true; the input reads as it did. -/
def fnExactLabelsBySumUptoRow : OpenClaim := { program := "ytemkddgfneohhaa", sum := "9ee8755de00a74f27d461030d9e4207802fb6b11795e0663ad1f0865d7251008", func := "loop.example/g01138/laws.FnExactLabelsBySum", spec := "fnExactLabelsBySum", unfollowed := true, recurses := true, apart := false, narrowed := true }
def FnExactLabelsBySumUptoSaid : Prop := fnExactLabelsBySumUptoRow.holds Try.pinned (OpenSpec.upto fnExactLabelsBySumSpec)

/-- 'laws.FnExactRankLabels', WHERE WHAT IT READS IS OF BULK AT MOST 1048576: true; the input reads as it did. -/
def fnExactRankLabelsUptoRow : OpenClaim := { program := "ytemkddgfneohhaa", sum := "9ee8755de00a74f27d461030d9e4207802fb6b11795e0663ad1f0865d7251008", func := "loop.example/g01138/laws.FnExactRankLabels", spec := "fnExactRankLabels", unfollowed := true, recurses := true, apart := false, narrowed := true }
def FnExactRankLabelsUptoSaid : Prop := fnExactRankLabelsUptoRow.holds Try.pinned (OpenSpec.upto fnExactRankLabelsSpec)

end Rows
end Go.Proofs.Ytemkddgfneohhaa
