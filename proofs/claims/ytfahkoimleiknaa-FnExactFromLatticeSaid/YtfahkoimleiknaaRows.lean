/-
  No cell of these rows narrows 'for every input' (looked for: loops, veiled, ifaces, maps, wideKeys, modest, calm, conditions, laid).
  DERIVED. THE GIVEN ROWS OF THIS SEAT. 12 by the template 'for every input the law returns true; each argument reads behind the call as it read before'; 0 by the template 'total and deterministic' (their statements: YtfahkoimleiknaaTotals.lean).
  GIVEN WITH THE SEED: the statements are not yours to turn. If you find one false, say at which input.
  Laid BY PROGRAM, IN A SANDBOX (cutbox-rows.mjs): the forced cells as the released guide's own fill.sh prints them over the translation 594623db191c6c8f… (all of the seat's roots in one cut). By AI agents, Wed Nov 11 2026. No macro, syntax, notation, axiom, sorry.
-/
import Derived.Test.YtfahkoimleiknaaChecked
import GoSem.Claim
import GoSem.ClaimJoined
import GoSem.ClaimMapViews
import Derived.JoinedTies
import Derived.KernelRfl
namespace Go.Proofs.Ytfahkoimleiknaa
/- THE CELL 'sum', in the pinned program and in every row, IS THE sha256 OF THE DUMP (.gsa) THAT YtfahkoimleiknaaProg.lean LOADS. Nothing in Lean hashes anything: it is a label: what it is worth is what the hold of that sum in a sandbox is worth. -/
noncomputable def Try.pinned : Pinned := { name := "ytfahkoimleiknaa", sum := "594623db191c6c8f6a1242cf73bb00dbe459eb017996c79d4b992db6844dbf10", checked := Try.checked }
namespace Rows
def none {H : Type} : Left H := { results := [], args := [] }

/-- 'laws.FnExactAreLabels': WHATEVER THE INPUT: true; the input reads as it did. -/
def fnExactAreLabelsSpec : ChangeSpec := { name := "fnExactAreLabels", fn := fun _ => fun
  | [d1, d2, d3] => { results := [.lit (.bool true)], args := [d1, d2, d3] }
  | _ => none }
def fnExactAreLabelsRow : OpenClaim := { program := "ytfahkoimleiknaa", sum := "594623db191c6c8f6a1242cf73bb00dbe459eb017996c79d4b992db6844dbf10", func := "loop.example/g01138/laws.FnExactAreLabels", spec := "fnExactAreLabels", apart := false }
def FnExactAreLabelsSaid : Prop := fnExactAreLabelsRow.holds Try.pinned (OpenSpec.ofChange fnExactAreLabelsSpec)

/-- ITS FALSE NEIGHBOUR: 'it returns false'. Refute it at one input. -/
def fnExactAreLabelsWrong : ChangeSpec := { name := "fnExactAreLabels", fn := fun _ => fun
  | [d1, d2, d3] => { results := [.lit (.bool false)], args := [d1, d2, d3] }
  | _ => none }
def FnExactAreLabelsWrongFalsely : Prop := fnExactAreLabelsRow.holds Try.pinned (OpenSpec.ofChange fnExactAreLabelsWrong)

/-- 'laws.FnExactAreStrict': WHATEVER THE INPUT: true; the input reads as it did. -/
def fnExactAreStrictSpec : ChangeSpec := { name := "fnExactAreStrict", fn := fun _ => fun
  | [d1, d2, d3] => { results := [.lit (.bool true)], args := [d1, d2, d3] }
  | _ => none }
def fnExactAreStrictRow : OpenClaim := { program := "ytfahkoimleiknaa", sum := "594623db191c6c8f6a1242cf73bb00dbe459eb017996c79d4b992db6844dbf10", func := "loop.example/g01138/laws.FnExactAreStrict", spec := "fnExactAreStrict", apart := false }
def FnExactAreStrictSaid : Prop := fnExactAreStrictRow.holds Try.pinned (OpenSpec.ofChange fnExactAreStrictSpec)

/-- ITS FALSE NEIGHBOUR: 'it returns false'. Refute it at one input. -/
def fnExactAreStrictWrong : ChangeSpec := { name := "fnExactAreStrict", fn := fun _ => fun
  | [d1, d2, d3] => { results := [.lit (.bool false)], args := [d1, d2, d3] }
  | _ => none }
def FnExactAreStrictWrongFalsely : Prop := fnExactAreStrictRow.holds Try.pinned (OpenSpec.ofChange fnExactAreStrictWrong)

/-- 'laws.FnExactLabelsOfIdeals': WHATEVER THE INPUT: true; the input reads as it did. -/
def fnExactLabelsOfIdealsSpec : ChangeSpec := { name := "fnExactLabelsOfIdeals", fn := fun _ => fun
  | [d1, d2] => { results := [.lit (.bool true)], args := [d1, d2] }
  | _ => none }
def fnExactLabelsOfIdealsRow : OpenClaim := { program := "ytfahkoimleiknaa", sum := "594623db191c6c8f6a1242cf73bb00dbe459eb017996c79d4b992db6844dbf10", func := "loop.example/g01138/laws.FnExactLabelsOfIdeals", spec := "fnExactLabelsOfIdeals", apart := false }
def FnExactLabelsOfIdealsSaid : Prop := fnExactLabelsOfIdealsRow.holds Try.pinned (OpenSpec.ofChange fnExactLabelsOfIdealsSpec)

/-- ITS FALSE NEIGHBOUR: 'it returns false'. Refute it at one input. -/
def fnExactLabelsOfIdealsWrong : ChangeSpec := { name := "fnExactLabelsOfIdeals", fn := fun _ => fun
  | [d1, d2] => { results := [.lit (.bool false)], args := [d1, d2] }
  | _ => none }
def FnExactLabelsOfIdealsWrongFalsely : Prop := fnExactLabelsOfIdealsRow.holds Try.pinned (OpenSpec.ofChange fnExactLabelsOfIdealsWrong)

/-- 'laws.FnExactFromLattice': WHATEVER THE INPUT: true; the input reads as it did. -/
def fnExactFromLatticeSpec : ChangeSpec := { name := "fnExactFromLattice", fn := fun _ => fun
  | [d] => { results := [.lit (.bool true)], args := [d] }
  | _ => none }
def fnExactFromLatticeRow : OpenClaim := { program := "ytfahkoimleiknaa", sum := "594623db191c6c8f6a1242cf73bb00dbe459eb017996c79d4b992db6844dbf10", func := "loop.example/g01138/laws.FnExactFromLattice", spec := "fnExactFromLattice", unfollowed := true, recurses := true, apart := false }
def FnExactFromLatticeSaid : Prop := fnExactFromLatticeRow.holds Try.pinned (OpenSpec.ofChange fnExactFromLatticeSpec)

/-- ITS FALSE NEIGHBOUR: 'it returns false'. Refute it at one input. -/
def fnExactFromLatticeWrong : ChangeSpec := { name := "fnExactFromLattice", fn := fun _ => fun
  | [d] => { results := [.lit (.bool false)], args := [d] }
  | _ => none }
def FnExactFromLatticeWrongFalsely : Prop := fnExactFromLatticeRow.holds Try.pinned (OpenSpec.ofChange fnExactFromLatticeWrong)

/-- 'laws.FnExactTableauOf': WHATEVER THE INPUT: true; the input reads as it did. -/
def fnExactTableauOfSpec : ChangeSpec := { name := "fnExactTableauOf", fn := fun _ => fun
  | [d1, d2, d3] => { results := [.lit (.bool true)], args := [d1, d2, d3] }
  | _ => none }
def fnExactTableauOfRow : OpenClaim := { program := "ytfahkoimleiknaa", sum := "594623db191c6c8f6a1242cf73bb00dbe459eb017996c79d4b992db6844dbf10", func := "loop.example/g01138/laws.FnExactTableauOf", spec := "fnExactTableauOf", unfollowed := true, recurses := true, apart := false }
def FnExactTableauOfSaid : Prop := fnExactTableauOfRow.holds Try.pinned (OpenSpec.ofChange fnExactTableauOfSpec)

/-- ITS FALSE NEIGHBOUR: 'it returns false'. Refute it at one input. -/
def fnExactTableauOfWrong : ChangeSpec := { name := "fnExactTableauOf", fn := fun _ => fun
  | [d1, d2, d3] => { results := [.lit (.bool false)], args := [d1, d2, d3] }
  | _ => none }
def FnExactTableauOfWrongFalsely : Prop := fnExactTableauOfRow.holds Try.pinned (OpenSpec.ofChange fnExactTableauOfWrong)

/-- 'laws.FnExactLinearOf': WHATEVER THE INPUT: true; the input reads as it did. -/
def fnExactLinearOfSpec : ChangeSpec := { name := "fnExactLinearOf", fn := fun _ => fun
  | [d] => { results := [.lit (.bool true)], args := [d] }
  | _ => none }
def fnExactLinearOfRow : OpenClaim := { program := "ytfahkoimleiknaa", sum := "594623db191c6c8f6a1242cf73bb00dbe459eb017996c79d4b992db6844dbf10", func := "loop.example/g01138/laws.FnExactLinearOf", spec := "fnExactLinearOf", unfollowed := true, recurses := true, apart := false }
def FnExactLinearOfSaid : Prop := fnExactLinearOfRow.holds Try.pinned (OpenSpec.ofChange fnExactLinearOfSpec)

/-- ITS FALSE NEIGHBOUR: 'it returns false'. Refute it at one input. -/
def fnExactLinearOfWrong : ChangeSpec := { name := "fnExactLinearOf", fn := fun _ => fun
  | [d] => { results := [.lit (.bool false)], args := [d] }
  | _ => none }
def FnExactLinearOfWrongFalsely : Prop := fnExactLinearOfRow.holds Try.pinned (OpenSpec.ofChange fnExactLinearOfWrong)

/-- 'laws.FnExactTurnTableau': WHATEVER THE INPUT: true; the input reads as it did. -/
def fnExactTurnTableauSpec : ChangeSpec := { name := "fnExactTurnTableau", fn := fun _ => fun
  | [d] => { results := [.lit (.bool true)], args := [d] }
  | _ => none }
def fnExactTurnTableauRow : OpenClaim := { program := "ytfahkoimleiknaa", sum := "594623db191c6c8f6a1242cf73bb00dbe459eb017996c79d4b992db6844dbf10", func := "loop.example/g01138/laws.FnExactTurnTableau", spec := "fnExactTurnTableau", unfollowed := true, recurses := true, apart := false }
def FnExactTurnTableauSaid : Prop := fnExactTurnTableauRow.holds Try.pinned (OpenSpec.ofChange fnExactTurnTableauSpec)

/-- ITS FALSE NEIGHBOUR: 'it returns false'. Refute it at one input. -/
def fnExactTurnTableauWrong : ChangeSpec := { name := "fnExactTurnTableau", fn := fun _ => fun
  | [d] => { results := [.lit (.bool false)], args := [d] }
  | _ => none }
def FnExactTurnTableauWrongFalsely : Prop := fnExactTurnTableauRow.holds Try.pinned (OpenSpec.ofChange fnExactTurnTableauWrong)

/-- 'laws.FnExactLatticeWord': WHATEVER THE INPUT: true; the input reads as it did. -/
def fnExactLatticeWordSpec : ChangeSpec := { name := "fnExactLatticeWord", fn := fun _ => fun
  | [d] => { results := [.lit (.bool true)], args := [d] }
  | _ => none }
def fnExactLatticeWordRow : OpenClaim := { program := "ytfahkoimleiknaa", sum := "594623db191c6c8f6a1242cf73bb00dbe459eb017996c79d4b992db6844dbf10", func := "loop.example/g01138/laws.FnExactLatticeWord", spec := "fnExactLatticeWord", unfollowed := true, recurses := true, apart := false }
def FnExactLatticeWordSaid : Prop := fnExactLatticeWordRow.holds Try.pinned (OpenSpec.ofChange fnExactLatticeWordSpec)

/-- ITS FALSE NEIGHBOUR: 'it returns false'. Refute it at one input. -/
def fnExactLatticeWordWrong : ChangeSpec := { name := "fnExactLatticeWord", fn := fun _ => fun
  | [d] => { results := [.lit (.bool false)], args := [d] }
  | _ => none }
def FnExactLatticeWordWrongFalsely : Prop := fnExactLatticeWordRow.holds Try.pinned (OpenSpec.ofChange fnExactLatticeWordWrong)

/-- 'laws.FnExactIdealsOfLabels': WHATEVER THE INPUT: true; the input reads as it did. -/
def fnExactIdealsOfLabelsSpec : ChangeSpec := { name := "fnExactIdealsOfLabels", fn := fun _ => fun
  | [d1, d2, d3] => { results := [.lit (.bool true)], args := [d1, d2, d3] }
  | _ => none }
def fnExactIdealsOfLabelsRow : OpenClaim := { program := "ytfahkoimleiknaa", sum := "594623db191c6c8f6a1242cf73bb00dbe459eb017996c79d4b992db6844dbf10", func := "loop.example/g01138/laws.FnExactIdealsOfLabels", spec := "fnExactIdealsOfLabels", apart := false }
def FnExactIdealsOfLabelsSaid : Prop := fnExactIdealsOfLabelsRow.holds Try.pinned (OpenSpec.ofChange fnExactIdealsOfLabelsSpec)

/-- ITS FALSE NEIGHBOUR: 'it returns false'. Refute it at one input. -/
def fnExactIdealsOfLabelsWrong : ChangeSpec := { name := "fnExactIdealsOfLabels", fn := fun _ => fun
  | [d1, d2, d3] => { results := [.lit (.bool false)], args := [d1, d2, d3] }
  | _ => none }
def FnExactIdealsOfLabelsWrongFalsely : Prop := fnExactIdealsOfLabelsRow.holds Try.pinned (OpenSpec.ofChange fnExactIdealsOfLabelsWrong)

/-- 'laws.FnExactComplementLabels': WHATEVER THE INPUT: true; the input reads as it did. -/
def fnExactComplementLabelsSpec : ChangeSpec := { name := "fnExactComplementLabels", fn := fun _ => fun
  | [d1, d2, d3] => { results := [.lit (.bool true)], args := [d1, d2, d3] }
  | _ => none }
def fnExactComplementLabelsRow : OpenClaim := { program := "ytfahkoimleiknaa", sum := "594623db191c6c8f6a1242cf73bb00dbe459eb017996c79d4b992db6844dbf10", func := "loop.example/g01138/laws.FnExactComplementLabels", spec := "fnExactComplementLabels", apart := false }
def FnExactComplementLabelsSaid : Prop := fnExactComplementLabelsRow.holds Try.pinned (OpenSpec.ofChange fnExactComplementLabelsSpec)

/-- ITS FALSE NEIGHBOUR: 'it returns false'. Refute it at one input. -/
def fnExactComplementLabelsWrong : ChangeSpec := { name := "fnExactComplementLabels", fn := fun _ => fun
  | [d1, d2, d3] => { results := [.lit (.bool false)], args := [d1, d2, d3] }
  | _ => none }
def FnExactComplementLabelsWrongFalsely : Prop := fnExactComplementLabelsRow.holds Try.pinned (OpenSpec.ofChange fnExactComplementLabelsWrong)

/-- 'laws.FnExactMajorOf': WHATEVER THE INPUT: true; the input reads as it did. -/
def fnExactMajorOfSpec : ChangeSpec := { name := "fnExactMajorOf", fn := fun _ => fun
  | [d] => { results := [.lit (.bool true)], args := [d] }
  | _ => none }
def fnExactMajorOfRow : OpenClaim := { program := "ytfahkoimleiknaa", sum := "594623db191c6c8f6a1242cf73bb00dbe459eb017996c79d4b992db6844dbf10", func := "loop.example/g01138/laws.FnExactMajorOf", spec := "fnExactMajorOf", unfollowed := true, recurses := true, apart := false }
def FnExactMajorOfSaid : Prop := fnExactMajorOfRow.holds Try.pinned (OpenSpec.ofChange fnExactMajorOfSpec)

/-- ITS FALSE NEIGHBOUR: 'it returns false'. Refute it at one input. -/
def fnExactMajorOfWrong : ChangeSpec := { name := "fnExactMajorOf", fn := fun _ => fun
  | [d] => { results := [.lit (.bool false)], args := [d] }
  | _ => none }
def FnExactMajorOfWrongFalsely : Prop := fnExactMajorOfRow.holds Try.pinned (OpenSpec.ofChange fnExactMajorOfWrong)

/-- 'laws.FnExactDescentsOf': WHATEVER THE INPUT: true; the input reads as it did. -/
def fnExactDescentsOfSpec : ChangeSpec := { name := "fnExactDescentsOf", fn := fun _ => fun
  | [d] => { results := [.lit (.bool true)], args := [d] }
  | _ => none }
def fnExactDescentsOfRow : OpenClaim := { program := "ytfahkoimleiknaa", sum := "594623db191c6c8f6a1242cf73bb00dbe459eb017996c79d4b992db6844dbf10", func := "loop.example/g01138/laws.FnExactDescentsOf", spec := "fnExactDescentsOf", unfollowed := true, recurses := true, apart := false }
def FnExactDescentsOfSaid : Prop := fnExactDescentsOfRow.holds Try.pinned (OpenSpec.ofChange fnExactDescentsOfSpec)

/-- ITS FALSE NEIGHBOUR: 'it returns false'. Refute it at one input. -/
def fnExactDescentsOfWrong : ChangeSpec := { name := "fnExactDescentsOf", fn := fun _ => fun
  | [d] => { results := [.lit (.bool false)], args := [d] }
  | _ => none }
def FnExactDescentsOfWrongFalsely : Prop := fnExactDescentsOfRow.holds Try.pinned (OpenSpec.ofChange fnExactDescentsOfWrong)

/- THE SECOND FORM. 'bulk': how many values and letters a reading holds, each counted each time it is reached (what is shared counts as often as it is met; a slice's spare places count too). A statement '..UptoSaid' is the law's where the arguments, and the package variables that the reading takes, are together of bulk at most 1048576: NARROWER than '..Said'. Prove '..Said' where nothing that the law and all that it calls make is longer than what came in: it says more and counts as full. Else prove '..UptoSaid'. A law counts once. -/
mutual
def uptoBulk {H : Type} : DataW H → Nat
  | .lit (.string bytes) => bytes.length + 1
  | .lit _ => 1
  | .nil => 1
  | .ptr d => uptoBulk d + 1
  | .slice elems spare => uptoBulkAll elems + uptoBulkAll spare + 1
  | .agg parts => uptoBulkAll parts + 1
  | .iface _ d => uptoBulk d + 1
  | .map entries => uptoBulkEntries entries + 1
  | .held _ => 1
def uptoBulkAll {H : Type} : List (DataW H) → Nat
  | [] => 0
  | d :: r => uptoBulk d + uptoBulkAll r
def uptoBulkEntries {H : Type} : List (Lit × DataW H) → Nat
  | [] => 0
  | x :: r => uptoBulkEntry x + uptoBulkEntries r
def uptoBulkEntry {H : Type} : Lit × DataW H → Nat
  | (.string bytes, d) => bytes.length + uptoBulk d + 1
  | (_, d) => uptoBulk d + 1
 end
def uptoSmall : (H : Type) → List (DataW H) → Bool := fun _ ds => decide (uptoBulkAll ds ≤ 1048576)
def OpenSpec.upto (s : _root_.Go.ChangeSpec) : _root_.Go.OpenSpec := { _root_.Go.OpenSpec.ofChange s with cond := some uptoSmall }

/-- 'laws.FnExactAreLabels', WHERE WHAT IT READS IS OF BULK AT MOST 1048576: true; the input reads as it did. -/
def fnExactAreLabelsUptoRow : OpenClaim := { program := "ytfahkoimleiknaa", sum := "594623db191c6c8f6a1242cf73bb00dbe459eb017996c79d4b992db6844dbf10", func := "loop.example/g01138/laws.FnExactAreLabels", spec := "fnExactAreLabels", apart := false, narrowed := true }
def FnExactAreLabelsUptoSaid : Prop := fnExactAreLabelsUptoRow.holds Try.pinned (OpenSpec.upto fnExactAreLabelsSpec)

/-- 'laws.FnExactAreStrict', WHERE WHAT IT READS IS OF BULK AT MOST 1048576: true; the input reads as it did. -/
def fnExactAreStrictUptoRow : OpenClaim := { program := "ytfahkoimleiknaa", sum := "594623db191c6c8f6a1242cf73bb00dbe459eb017996c79d4b992db6844dbf10", func := "loop.example/g01138/laws.FnExactAreStrict", spec := "fnExactAreStrict", apart := false, narrowed := true }
def FnExactAreStrictUptoSaid : Prop := fnExactAreStrictUptoRow.holds Try.pinned (OpenSpec.upto fnExactAreStrictSpec)

/-- 'laws.FnExactLabelsOfIdeals', WHERE WHAT IT READS IS OF BULK AT MOST 1048576: true; the input reads as it did. -/
def fnExactLabelsOfIdealsUptoRow : OpenClaim := { program := "ytfahkoimleiknaa", sum := "594623db191c6c8f6a1242cf73bb00dbe459eb017996c79d4b992db6844dbf10", func := "loop.example/g01138/laws.FnExactLabelsOfIdeals", spec := "fnExactLabelsOfIdeals", apart := false, narrowed := true }
def FnExactLabelsOfIdealsUptoSaid : Prop := fnExactLabelsOfIdealsUptoRow.holds Try.pinned (OpenSpec.upto fnExactLabelsOfIdealsSpec)

/-- 'laws.FnExactFromLattice', WHERE WHAT IT READS IS OF BULK AT MOST 1048576: true; the input reads as it did. -/
def fnExactFromLatticeUptoRow : OpenClaim := { program := "ytfahkoimleiknaa", sum := "594623db191c6c8f6a1242cf73bb00dbe459eb017996c79d4b992db6844dbf10", func := "loop.example/g01138/laws.FnExactFromLattice", spec := "fnExactFromLattice", unfollowed := true, recurses := true, apart := false, narrowed := true }
def FnExactFromLatticeUptoSaid : Prop := fnExactFromLatticeUptoRow.holds Try.pinned (OpenSpec.upto fnExactFromLatticeSpec)

/-- 'laws.FnExactTableauOf', WHERE WHAT IT READS IS OF BULK AT MOST 1048576: true; the input reads as it did. -/
def fnExactTableauOfUptoRow : OpenClaim := { program := "ytfahkoimleiknaa", sum := "594623db191c6c8f6a1242cf73bb00dbe459eb017996c79d4b992db6844dbf10", func := "loop.example/g01138/laws.FnExactTableauOf", spec := "fnExactTableauOf", unfollowed := true, recurses := true, apart := false, narrowed := true }
def FnExactTableauOfUptoSaid : Prop := fnExactTableauOfUptoRow.holds Try.pinned (OpenSpec.upto fnExactTableauOfSpec)

/-- 'laws.FnExactLinearOf', WHERE WHAT IT READS IS OF BULK AT MOST 1048576: true; the input reads as it did. -/
def fnExactLinearOfUptoRow : OpenClaim := { program := "ytfahkoimleiknaa", sum := "594623db191c6c8f6a1242cf73bb00dbe459eb017996c79d4b992db6844dbf10", func := "loop.example/g01138/laws.FnExactLinearOf", spec := "fnExactLinearOf", unfollowed := true, recurses := true, apart := false, narrowed := true }
def FnExactLinearOfUptoSaid : Prop := fnExactLinearOfUptoRow.holds Try.pinned (OpenSpec.upto fnExactLinearOfSpec)

/-- 'laws.FnExactTurnTableau', WHERE WHAT IT READS IS OF BULK AT MOST 1048576: true; the input reads as it did. -/
def fnExactTurnTableauUptoRow : OpenClaim := { program := "ytfahkoimleiknaa", sum := "594623db191c6c8f6a1242cf73bb00dbe459eb017996c79d4b992db6844dbf10", func := "loop.example/g01138/laws.FnExactTurnTableau", spec := "fnExactTurnTableau", unfollowed := true, recurses := true, apart := false, narrowed := true }
def FnExactTurnTableauUptoSaid : Prop := fnExactTurnTableauUptoRow.holds Try.pinned (OpenSpec.upto fnExactTurnTableauSpec)

/-- 'laws.FnExactLatticeWord', WHERE WHAT IT READS IS OF BULK AT MOST 1048576: true; the input reads as it did. -/
def fnExactLatticeWordUptoRow : OpenClaim := { program := "ytfahkoimleiknaa", sum := "594623db191c6c8f6a1242cf73bb00dbe459eb017996c79d4b992db6844dbf10", func := "loop.example/g01138/laws.FnExactLatticeWord", spec := "fnExactLatticeWord", unfollowed := true, recurses := true, apart := false, narrowed := true }
def FnExactLatticeWordUptoSaid : Prop := fnExactLatticeWordUptoRow.holds Try.pinned (OpenSpec.upto fnExactLatticeWordSpec)

/-- 'laws.FnExactIdealsOfLabels', WHERE WHAT IT READS IS OF BULK AT MOST 1048576: true; the input reads as it did. -/
def fnExactIdealsOfLabelsUptoRow : OpenClaim := { program := "ytfahkoimleiknaa", sum := "594623db191c6c8f6a1242cf73bb00dbe459eb017996c79d4b992db6844dbf10", func := "loop.example/g01138/laws.FnExactIdealsOfLabels", spec := "fnExactIdealsOfLabels", apart := false, narrowed := true }
def FnExactIdealsOfLabelsUptoSaid : Prop := fnExactIdealsOfLabelsUptoRow.holds Try.pinned (OpenSpec.upto fnExactIdealsOfLabelsSpec)

/-- 'laws.FnExactComplementLabels', WHERE WHAT IT READS IS OF BULK AT MOST 1048576: true; the input reads as it did. -/
def fnExactComplementLabelsUptoRow : OpenClaim := { program := "ytfahkoimleiknaa", sum := "594623db191c6c8f6a1242cf73bb00dbe459eb017996c79d4b992db6844dbf10", func := "loop.example/g01138/laws.FnExactComplementLabels", spec := "fnExactComplementLabels", apart := false, narrowed := true }
def FnExactComplementLabelsUptoSaid : Prop := fnExactComplementLabelsUptoRow.holds Try.pinned (OpenSpec.upto fnExactComplementLabelsSpec)

/-- 'laws.FnExactMajorOf', WHERE WHAT IT READS IS OF BULK AT MOST 1048576: true; the input reads as it did. -/
def fnExactMajorOfUptoRow : OpenClaim := { program := "ytfahkoimleiknaa", sum := "594623db191c6c8f6a1242cf73bb00dbe459eb017996c79d4b992db6844dbf10", func := "loop.example/g01138/laws.FnExactMajorOf", spec := "fnExactMajorOf", unfollowed := true, recurses := true, apart := false, narrowed := true }
def FnExactMajorOfUptoSaid : Prop := fnExactMajorOfUptoRow.holds Try.pinned (OpenSpec.upto fnExactMajorOfSpec)

/-- 'laws.FnExactDescentsOf', WHERE WHAT IT READS IS OF BULK AT MOST 1048576: true; the input reads as it did. -/
def fnExactDescentsOfUptoRow : OpenClaim := { program := "ytfahkoimleiknaa", sum := "594623db191c6c8f6a1242cf73bb00dbe459eb017996c79d4b992db6844dbf10", func := "loop.example/g01138/laws.FnExactDescentsOf", spec := "fnExactDescentsOf", unfollowed := true, recurses := true, apart := false, narrowed := true }
def FnExactDescentsOfUptoSaid : Prop := fnExactDescentsOfUptoRow.holds Try.pinned (OpenSpec.upto fnExactDescentsOfSpec)

end Rows
end Go.Proofs.Ytfahkoimleiknaa
