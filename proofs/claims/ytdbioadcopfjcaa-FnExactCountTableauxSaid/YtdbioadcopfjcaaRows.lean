/-
  No cell of these rows narrows 'for every input' (looked for: loops, veiled, ifaces, maps, wideKeys, modest, calm, conditions, laid).
  DERIVED. THE GIVEN ROWS OF THIS SEAT. 6 by the template 'for every input the law returns true; each argument reads behind the call as it read before'; 0 by the template 'total and deterministic' (their statements: YtdbioadcopfjcaaTotals.lean).
  GIVEN WITH THE SEED: the statements are not yours to turn. If you find one false, say at which input.
  Laid BY PROGRAM, IN A SANDBOX (cutbox-rows.mjs): the forced cells as the released guide's own fill.sh prints them over the translation b3934387b92bfc7c… (all of the seat's roots in one cut). By AI agents, Wed Nov 11 2026. No macro, syntax, notation, axiom, sorry.
-/
import Derived.Test.YtdbioadcopfjcaaChecked
import GoSem.Claim
import GoSem.ClaimJoined
import GoSem.ClaimMapViews
import Derived.JoinedTies
import Derived.KernelRfl
namespace Go.Proofs.Ytdbioadcopfjcaa
/- THE CELL 'sum', in the pinned program and in every row, IS THE sha256 OF THE DUMP (.gsa) THAT YtdbioadcopfjcaaProg.lean LOADS. Nothing in Lean hashes anything: it is a label: what it is worth is what the hold of that sum in a sandbox is worth. -/
noncomputable def Try.pinned : Pinned := { name := "ytdbioadcopfjcaa", sum := "b3934387b92bfc7cb53a8feaa52caa31eb3ab2ddfd4b398662f293bb65a8ac6b", checked := Try.checked }
namespace Rows
def none {H : Type} : Left H := { results := [], args := [] }

/-- 'laws.FnExactHookOf': WHATEVER THE INPUT: true; the input reads as it did. -/
def fnExactHookOfSpec : ChangeSpec := { name := "fnExactHookOf", fn := fun _ => fun
  | [d1, d2, d3, d4] => { results := [.lit (.bool true)], args := [d1, d2, d3, d4] }
  | _ => none }
def fnExactHookOfRow : OpenClaim := { program := "ytdbioadcopfjcaa", sum := "b3934387b92bfc7cb53a8feaa52caa31eb3ab2ddfd4b398662f293bb65a8ac6b", func := "loop.example/g01138/laws.FnExactHookOf", spec := "fnExactHookOf", apart := false }
def FnExactHookOfSaid : Prop := fnExactHookOfRow.holds Try.pinned (OpenSpec.ofChange fnExactHookOfSpec)

/-- ITS FALSE NEIGHBOUR: 'it returns false'. Refute it at one input. -/
def fnExactHookOfWrong : ChangeSpec := { name := "fnExactHookOf", fn := fun _ => fun
  | [d1, d2, d3, d4] => { results := [.lit (.bool false)], args := [d1, d2, d3, d4] }
  | _ => none }
def FnExactHookOfWrongFalsely : Prop := fnExactHookOfRow.holds Try.pinned (OpenSpec.ofChange fnExactHookOfWrong)

/-- 'laws.FnExactRootSum': WHATEVER THE INPUT: true; the input reads as it did. -/
def fnExactRootSumSpec : ChangeSpec := { name := "fnExactRootSum", fn := fun _ => fun
  | [d1, d2] => { results := [.lit (.bool true)], args := [d1, d2] }
  | _ => none }
def fnExactRootSumRow : OpenClaim := { program := "ytdbioadcopfjcaa", sum := "b3934387b92bfc7cb53a8feaa52caa31eb3ab2ddfd4b398662f293bb65a8ac6b", func := "loop.example/g01138/laws.FnExactRootSum", spec := "fnExactRootSum", unfollowed := true, recurses := true, apart := false }
def FnExactRootSumSaid : Prop := fnExactRootSumRow.holds Try.pinned (OpenSpec.ofChange fnExactRootSumSpec)

/-- ITS FALSE NEIGHBOUR: 'it returns false'. Refute it at one input. -/
def fnExactRootSumWrong : ChangeSpec := { name := "fnExactRootSum", fn := fun _ => fun
  | [d1, d2] => { results := [.lit (.bool false)], args := [d1, d2] }
  | _ => none }
def FnExactRootSumWrongFalsely : Prop := fnExactRootSumRow.holds Try.pinned (OpenSpec.ofChange fnExactRootSumWrong)

/-- 'laws.FnExactCountStairs': WHATEVER THE INPUT: true; the input reads as it did. -/
def fnExactCountStairsSpec : ChangeSpec := { name := "fnExactCountStairs", fn := fun _ => fun
  | [d] => { results := [.lit (.bool true)], args := [d] }
  | _ => none }
def fnExactCountStairsRow : OpenClaim := { program := "ytdbioadcopfjcaa", sum := "b3934387b92bfc7cb53a8feaa52caa31eb3ab2ddfd4b398662f293bb65a8ac6b", func := "loop.example/g01138/laws.FnExactCountStairs", spec := "fnExactCountStairs", unfollowed := true, recurses := true, apart := false }
def FnExactCountStairsSaid : Prop := fnExactCountStairsRow.holds Try.pinned (OpenSpec.ofChange fnExactCountStairsSpec)

/-- ITS FALSE NEIGHBOUR: 'it returns false'. Refute it at one input. -/
def fnExactCountStairsWrong : ChangeSpec := { name := "fnExactCountStairs", fn := fun _ => fun
  | [d] => { results := [.lit (.bool false)], args := [d] }
  | _ => none }
def FnExactCountStairsWrongFalsely : Prop := fnExactCountStairsRow.holds Try.pinned (OpenSpec.ofChange fnExactCountStairsWrong)

/-- 'laws.FnExactCountTableaux': WHATEVER THE INPUT: true; the input reads as it did. -/
def fnExactCountTableauxSpec : ChangeSpec := { name := "fnExactCountTableaux", fn := fun _ => fun
  | [d1, d2] => { results := [.lit (.bool true)], args := [d1, d2] }
  | _ => none }
def fnExactCountTableauxRow : OpenClaim := { program := "ytdbioadcopfjcaa", sum := "b3934387b92bfc7cb53a8feaa52caa31eb3ab2ddfd4b398662f293bb65a8ac6b", func := "loop.example/g01138/laws.FnExactCountTableaux", spec := "fnExactCountTableaux", unfollowed := true, recurses := true, apart := false }
def FnExactCountTableauxSaid : Prop := fnExactCountTableauxRow.holds Try.pinned (OpenSpec.ofChange fnExactCountTableauxSpec)

/-- ITS FALSE NEIGHBOUR: 'it returns false'. Refute it at one input. -/
def fnExactCountTableauxWrong : ChangeSpec := { name := "fnExactCountTableaux", fn := fun _ => fun
  | [d1, d2] => { results := [.lit (.bool false)], args := [d1, d2] }
  | _ => none }
def FnExactCountTableauxWrongFalsely : Prop := fnExactCountTableauxRow.holds Try.pinned (OpenSpec.ofChange fnExactCountTableauxWrong)

/-- 'laws.FnExactBoxCount': WHATEVER THE INPUT: true; the input reads as it did. -/
def fnExactBoxCountSpec : ChangeSpec := { name := "fnExactBoxCount", fn := fun _ => fun
  | [d1, d2, d3] => { results := [.lit (.bool true)], args := [d1, d2, d3] }
  | _ => none }
def fnExactBoxCountRow : OpenClaim := { program := "ytdbioadcopfjcaa", sum := "b3934387b92bfc7cb53a8feaa52caa31eb3ab2ddfd4b398662f293bb65a8ac6b", func := "loop.example/g01138/laws.FnExactBoxCount", spec := "fnExactBoxCount", unfollowed := true, recurses := true, apart := false }
def FnExactBoxCountSaid : Prop := fnExactBoxCountRow.holds Try.pinned (OpenSpec.ofChange fnExactBoxCountSpec)

/-- ITS FALSE NEIGHBOUR: 'it returns false'. Refute it at one input. -/
def fnExactBoxCountWrong : ChangeSpec := { name := "fnExactBoxCount", fn := fun _ => fun
  | [d1, d2, d3] => { results := [.lit (.bool false)], args := [d1, d2, d3] }
  | _ => none }
def FnExactBoxCountWrongFalsely : Prop := fnExactBoxCountRow.holds Try.pinned (OpenSpec.ofChange fnExactBoxCountWrong)

/-- 'laws.FnExactIsTableau': WHATEVER THE INPUT: true; the input reads as it did. -/
def fnExactIsTableauSpec : ChangeSpec := { name := "fnExactIsTableau", fn := fun _ => fun
  | [d] => { results := [.lit (.bool true)], args := [d] }
  | _ => none }
def fnExactIsTableauRow : OpenClaim := { program := "ytdbioadcopfjcaa", sum := "b3934387b92bfc7cb53a8feaa52caa31eb3ab2ddfd4b398662f293bb65a8ac6b", func := "loop.example/g01138/laws.FnExactIsTableau", spec := "fnExactIsTableau", unfollowed := true, recurses := true, apart := false }
def FnExactIsTableauSaid : Prop := fnExactIsTableauRow.holds Try.pinned (OpenSpec.ofChange fnExactIsTableauSpec)

/-- ITS FALSE NEIGHBOUR: 'it returns false'. Refute it at one input. -/
def fnExactIsTableauWrong : ChangeSpec := { name := "fnExactIsTableau", fn := fun _ => fun
  | [d] => { results := [.lit (.bool false)], args := [d] }
  | _ => none }
def FnExactIsTableauWrongFalsely : Prop := fnExactIsTableauRow.holds Try.pinned (OpenSpec.ofChange fnExactIsTableauWrong)

/- THE SECOND FORM. 'bulk': how many values and letters a reading holds, each counted each time it is reached (what is shared counts as often as it is met; a slice's spare places count too). A statement '..UptoSaid' is the law's where the arguments, and the package variables that the reading takes, are together of bulk at most 1048576: NARROWER than '..Said'. Prove '..Said' where nothing that the law and all that it calls make is longer than what came in: it says more and counts as full. Else prove '..UptoSaid'. A law counts once. -/
mutual
def uptoBulk {H : Type} : DataW H → Nat
  | .lit (.string bytes) => bytes.length + 1
  | .lit _ => 1
  | .nil => 1
  | .ptr d => uptoBulk d + 1
  | .slice elems spare => uptoBulkAll elems + uptoBulkAll spare + 1
  | .agg parts => uptoBulkAll parts + 1
  | .iface _ d => uptoBulk d + 1
  | .map entries => uptoBulkEntries entries + 1
  | .held _ => 1
def uptoBulkAll {H : Type} : List (DataW H) → Nat
  | [] => 0
  | d :: r => uptoBulk d + uptoBulkAll r
def uptoBulkEntries {H : Type} : List (Lit × DataW H) → Nat
  | [] => 0
  | x :: r => uptoBulkEntry x + uptoBulkEntries r
def uptoBulkEntry {H : Type} : Lit × DataW H → Nat
  | (.string bytes, d) => bytes.length + uptoBulk d + 1
  | (_, d) => uptoBulk d + 1
 end
def uptoSmall : (H : Type) → List (DataW H) → Bool := fun _ ds => decide (uptoBulkAll ds ≤ 1048576)
def OpenSpec.upto (s : _root_.Go.ChangeSpec) : _root_.Go.OpenSpec := { _root_.Go.OpenSpec.ofChange s with cond := some uptoSmall }

/-- 'laws.FnExactHookOf', WHERE WHAT IT READS IS OF BULK AT MOST 1048576: true; the input reads as it did. -/
def fnExactHookOfUptoRow : OpenClaim := { program := "ytdbioadcopfjcaa", sum := "b3934387b92bfc7cb53a8feaa52caa31eb3ab2ddfd4b398662f293bb65a8ac6b", func := "loop.example/g01138/laws.FnExactHookOf", spec := "fnExactHookOf", apart := false, narrowed := true }
def FnExactHookOfUptoSaid : Prop := fnExactHookOfUptoRow.holds Try.pinned (OpenSpec.upto fnExactHookOfSpec)

/-- 'laws.FnExactRootSum', WHERE WHAT IT READS IS OF BULK AT MOST 1048576: true; the input reads as it did. -/
def fnExactRootSumUptoRow : OpenClaim := { program := "ytdbioadcopfjcaa", sum := "b3934387b92bfc7cb53a8feaa52caa31eb3ab2ddfd4b398662f293bb65a8ac6b", func := "loop.example/g01138/laws.FnExactRootSum", spec := "fnExactRootSum", unfollowed := true, recurses := true, apart := false, narrowed := true }
def FnExactRootSumUptoSaid : Prop := fnExactRootSumUptoRow.holds Try.pinned (OpenSpec.upto fnExactRootSumSpec)

/-- 'laws.FnExactCountStairs', WHERE WHAT IT READS IS OF BULK AT MOST 1048576: true; the input reads as it did. -/
def fnExactCountStairsUptoRow : OpenClaim := { program := "ytdbioadcopfjcaa", sum := "b3934387b92bfc7cb53a8feaa52caa31eb3ab2ddfd4b398662f293bb65a8ac6b", func := "loop.example/g01138/laws.FnExactCountStairs", spec := "fnExactCountStairs", unfollowed := true, recurses := true, apart := false, narrowed := true }
def FnExactCountStairsUptoSaid : Prop := fnExactCountStairsUptoRow.holds Try.pinned (OpenSpec.upto fnExactCountStairsSpec)

/-- 'laws.FnExactCountTableaux', WHERE WHAT IT READS IS OF BULK AT MOST 1048576: true; the input reads as it did. -/
def fnExactCountTableauxUptoRow : OpenClaim := { program := "ytdbioadcopfjcaa", sum := "b3934387b92bfc7cb53a8feaa52caa31eb3ab2ddfd4b398662f293bb65a8ac6b", func := "loop.example/g01138/laws.FnExactCountTableaux", spec := "fnExactCountTableaux", unfollowed := true, recurses := true, apart := false, narrowed := true }
def FnExactCountTableauxUptoSaid : Prop := fnExactCountTableauxUptoRow.holds Try.pinned (OpenSpec.upto fnExactCountTableauxSpec)

/-- 'laws.FnExactBoxCount', WHERE WHAT IT READS IS OF BULK AT MOST 1048576: true; the input reads as it did. -/
def fnExactBoxCountUptoRow : OpenClaim := { program := "ytdbioadcopfjcaa", sum := "b3934387b92bfc7cb53a8feaa52caa31eb3ab2ddfd4b398662f293bb65a8ac6b", func := "loop.example/g01138/laws.FnExactBoxCount", spec := "fnExactBoxCount", unfollowed := true, recurses := true, apart := false, narrowed := true }
def FnExactBoxCountUptoSaid : Prop := fnExactBoxCountUptoRow.holds Try.pinned (OpenSpec.upto fnExactBoxCountSpec)

/-- 'laws.FnExactIsTableau', WHERE WHAT IT READS IS OF BULK AT MOST 1048576: true; the input reads as it did. -/
def fnExactIsTableauUptoRow : OpenClaim := { program := "ytdbioadcopfjcaa", sum := "b3934387b92bfc7cb53a8feaa52caa31eb3ab2ddfd4b398662f293bb65a8ac6b", func := "loop.example/g01138/laws.FnExactIsTableau", spec := "fnExactIsTableau", unfollowed := true, recurses := true, apart := false, narrowed := true }
def FnExactIsTableauUptoSaid : Prop := fnExactIsTableauUptoRow.holds Try.pinned (OpenSpec.upto fnExactIsTableauSpec)

end Rows
end Go.Proofs.Ytdbioadcopfjcaa
