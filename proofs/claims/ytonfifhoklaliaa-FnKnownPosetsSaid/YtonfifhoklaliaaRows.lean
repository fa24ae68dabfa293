/-
  No cell of these rows narrows 'for every input' (looked for: loops, veiled, ifaces, maps, wideKeys, modest, calm, conditions, laid).
  DERIVED. THE GIVEN ROWS OF THIS SEAT. 4 by the template 'for every input the law returns true; each argument reads behind the call as it read before'; 0 by the template 'total and deterministic' (their statements: YtonfifhoklaliaaTotals.lean).
  GIVEN WITH THE SEED: the statements are not yours to turn. If you find one false, say at which input.
  Laid BY PROGRAM, IN A SANDBOX (cutbox-rows.mjs): the forced cells as the released guide's own fill.sh prints them over the translation 5af81825db59be26… (all of the seat's roots in one cut). By AI agents, Wed Nov 11 2026. No macro, syntax, notation, axiom, sorry.
-/
import Derived.Test.YtonfifhoklaliaaChecked
import GoSem.Claim
import GoSem.ClaimJoined
import GoSem.ClaimMapViews
import Derived.JoinedTies
import Derived.KernelRfl
namespace Go.Proofs.Ytonfifhoklaliaa
/- THE CELL 'sum', in the pinned program and in every row, IS THE sha256 OF THE DUMP (.gsa) THAT YtonfifhoklaliaaProg.lean LOADS. Nothing in Lean hashes anything: it is a label: what it is worth is what the hold of that sum in a sandbox is worth. -/
noncomputable def Try.pinned : Pinned := { name := "ytonfifhoklaliaa", sum := "5af81825db59be26b501fcc10db5393c1c290c9541bd22506b5fb49016af8821", checked := Try.checked }
namespace Rows
def none {H : Type} : Left H := { results := [], args := [] }

/-- 'laws.FnKnownPosets': WHATEVER THE INPUT: true; the input reads as it did. -/
def fnKnownPosetsSpec : ChangeSpec := { name := "fnKnownPosets", fn := fun _ => fun
  | [d1, d2] => { results := [.lit (.bool true)], args := [d1, d2] }
  | _ => none }
def fnKnownPosetsRow : OpenClaim := { program := "ytonfifhoklaliaa", sum := "5af81825db59be26b501fcc10db5393c1c290c9541bd22506b5fb49016af8821", func := "loop.example/g01138/laws.FnKnownPosets", spec := "fnKnownPosets", unfollowed := true, recurses := true, apart := false }
def FnKnownPosetsSaid : Prop := fnKnownPosetsRow.holds Try.pinned (OpenSpec.ofChange fnKnownPosetsSpec)

/-- ITS FALSE NEIGHBOUR: 'it returns false'. Refute it at one input. -/
def fnKnownPosetsWrong : ChangeSpec := { name := "fnKnownPosets", fn := fun _ => fun
  | [d1, d2] => { results := [.lit (.bool false)], args := [d1, d2] }
  | _ => none }
def FnKnownPosetsWrongFalsely : Prop := fnKnownPosetsRow.holds Try.pinned (OpenSpec.ofChange fnKnownPosetsWrong)

/-- 'laws.FnIdealsAndAntichains': WHATEVER THE INPUT: true; the input reads as it did. -/
def fnIdealsAndAntichainsSpec : ChangeSpec := { name := "fnIdealsAndAntichains", fn := fun _ => fun
  | [d1, d2] => { results := [.lit (.bool true)], args := [d1, d2] }
  | _ => none }
def fnIdealsAndAntichainsRow : OpenClaim := { program := "ytonfifhoklaliaa", sum := "5af81825db59be26b501fcc10db5393c1c290c9541bd22506b5fb49016af8821", func := "loop.example/g01138/laws.FnIdealsAndAntichains", spec := "fnIdealsAndAntichains", unfollowed := true, recurses := true, apart := false }
def FnIdealsAndAntichainsSaid : Prop := fnIdealsAndAntichainsRow.holds Try.pinned (OpenSpec.ofChange fnIdealsAndAntichainsSpec)

/-- ITS FALSE NEIGHBOUR: 'it returns false'. Refute it at one input. -/
def fnIdealsAndAntichainsWrong : ChangeSpec := { name := "fnIdealsAndAntichains", fn := fun _ => fun
  | [d1, d2] => { results := [.lit (.bool false)], args := [d1, d2] }
  | _ => none }
def FnIdealsAndAntichainsWrongFalsely : Prop := fnIdealsAndAntichainsRow.holds Try.pinned (OpenSpec.ofChange fnIdealsAndAntichainsWrong)

/-- 'laws.FnPromotionToggles': WHATEVER THE INPUT: true; the input reads as it did. -/
def fnPromotionTogglesSpec : ChangeSpec := { name := "fnPromotionToggles", fn := fun _ => fun
  | [d1, d2] => { results := [.lit (.bool true)], args := [d1, d2] }
  | _ => none }
def fnPromotionTogglesRow : OpenClaim := { program := "ytonfifhoklaliaa", sum := "5af81825db59be26b501fcc10db5393c1c290c9541bd22506b5fb49016af8821", func := "loop.example/g01138/laws.FnPromotionToggles", spec := "fnPromotionToggles", unfollowed := true, recurses := true, apart := false }
def FnPromotionTogglesSaid : Prop := fnPromotionTogglesRow.holds Try.pinned (OpenSpec.ofChange fnPromotionTogglesSpec)

/-- ITS FALSE NEIGHBOUR: 'it returns false'. Refute it at one input. -/
def fnPromotionTogglesWrong : ChangeSpec := { name := "fnPromotionToggles", fn := fun _ => fun
  | [d1, d2] => { results := [.lit (.bool false)], args := [d1, d2] }
  | _ => none }
def FnPromotionTogglesWrongFalsely : Prop := fnPromotionTogglesRow.holds Try.pinned (OpenSpec.ofChange fnPromotionTogglesWrong)

/-- 'laws.FnTableauxAreLinear': WHATEVER THE INPUT: true; the input reads as it did. -/
def fnTableauxAreLinearSpec : ChangeSpec := { name := "fnTableauxAreLinear", fn := fun _ => fun
  | [d1, d2] => { results := [.lit (.bool true)], args := [d1, d2] }
  | _ => none }
def fnTableauxAreLinearRow : OpenClaim := { program := "ytonfifhoklaliaa", sum := "5af81825db59be26b501fcc10db5393c1c290c9541bd22506b5fb49016af8821", func := "loop.example/g01138/laws.FnTableauxAreLinear", spec := "fnTableauxAreLinear", unfollowed := true, recurses := true, apart := false }
def FnTableauxAreLinearSaid : Prop := fnTableauxAreLinearRow.holds Try.pinned (OpenSpec.ofChange fnTableauxAreLinearSpec)

/-- ITS FALSE NEIGHBOUR: 'it returns false'. Refute it at one input. -/
def fnTableauxAreLinearWrong : ChangeSpec := { name := "fnTableauxAreLinear", fn := fun _ => fun
  | [d1, d2] => { results := [.lit (.bool false)], args := [d1, d2] }
  | _ => none }
def FnTableauxAreLinearWrongFalsely : Prop := fnTableauxAreLinearRow.holds Try.pinned (OpenSpec.ofChange fnTableauxAreLinearWrong)

/- THE SECOND FORM. 'bulk': how many values and letters a reading holds, each counted each time it is reached (what is shared counts as often as it is met; a slice's spare places count too). A statement '..UptoSaid' is the law's where the arguments, and the package variables that the reading takes, are together of bulk at most 1048576: NARROWER than '..Said'. Prove '..Said' where nothing that the law and all that it calls make is longer than what came in: it says more and counts as full. Else prove '..UptoSaid'. A law counts once. -/
mutual
def uptoBulk {H : Type} : DataW H → Nat
  | .lit (.string bytes) => bytes.length + 1
  | .lit _ => 1
  | .nil => 1
  | .ptr d => uptoBulk d + 1
  | .slice elems spare => uptoBulkAll elems + uptoBulkAll spare + 1
  | .agg parts => uptoBulkAll parts + 1
  | .iface _ d => uptoBulk d + 1
  | .map entries => uptoBulkEntries entries + 1
  | .held _ => 1
def uptoBulkAll {H : Type} : List (DataW H) → Nat
  | [] => 0
  | d :: r => uptoBulk d + uptoBulkAll r
def uptoBulkEntries {H : Type} : List (Lit × DataW H) → Nat
  | [] => 0
  | x :: r => uptoBulkEntry x + uptoBulkEntries r
def uptoBulkEntry {H : Type} : Lit × DataW H → Nat
  | (.string bytes, d) => bytes.length + uptoBulk d + 1
  | (_, d) => uptoBulk d + 1
 end
def uptoSmall : (H : Type) → List (DataW H) → Bool := fun _ ds => decide (uptoBulkAll ds ≤ 1048576)
def OpenSpec.upto (s : _root_.Go.ChangeSpec) : _root_.Go.OpenSpec := { _root_.Go.OpenSpec.ofChange s with cond := some uptoSmall }

/-- 'laws.FnKnownPosets', WHERE WHAT IT READS IS OF BULK AT MOST 1048576: true; the input reads as it did. -/
def fnKnownPosetsUptoRow : OpenClaim := { program := "ytonfifhoklaliaa", sum := "5af81825db59be26b501fcc10db5393c1c290c9541bd22506b5fb49016af8821", func := "loop.example/g01138/laws.FnKnownPosets", spec := "fnKnownPosets", unfollowed := true, recurses := true, apart := false, narrowed := true }
def FnKnownPosetsUptoSaid : Prop := fnKnownPosetsUptoRow.holds Try.pinned (OpenSpec.upto fnKnownPosetsSpec)

/-- 'laws.FnIdealsAndAntichains', WHERE WHAT IT READS IS OF BULK AT MOST 1048576: true; the input reads as it did. -/
def fnIdealsAndAntichainsUptoRow : OpenClaim := { program := "ytonfifhoklaliaa", sum := "5af81825db59be26b501fcc10db5393c1c290c9541bd22506b5fb49016af8821", func := "loop.example/g01138/laws.FnIdealsAndAntichains", spec := "fnIdealsAndAntichains", unfollowed := true, recurses := true, apart := false, narrowed := true }
def FnIdealsAndAntichainsUptoSaid : Prop := fnIdealsAndAntichainsUptoRow.holds Try.pinned (OpenSpec.upto fnIdealsAndAntichainsSpec)

/-- 'laws.FnPromotionToggles', WHERE WHAT IT READS IS OF BULK AT MOST 1048576: true; the input reads as it did. -/
def fnPromotionTogglesUptoRow : OpenClaim := { program := "ytonfifhoklaliaa", sum := "5af81825db59be26b501fcc10db5393c1c290c9541bd22506b5fb49016af8821", func := "loop.example/g01138/laws.FnPromotionToggles", spec := "fnPromotionToggles", unfollowed := true, recurses := true, apart := false, narrowed := true }
def FnPromotionTogglesUptoSaid : Prop := fnPromotionTogglesUptoRow.holds Try.pinned (OpenSpec.upto fnPromotionTogglesSpec)

/-- 'laws.FnTableauxAreLinear', WHERE WHAT IT READS IS OF BULK AT MOST 1048576: true; the input reads as it did. -/
def fnTableauxAreLinearUptoRow : OpenClaim := { program := "ytonfifhoklaliaa", sum := "5af81825db59be26b501fcc10db5393c1c290c9541bd22506b5fb49016af8821", func := "loop.example/g01138/laws.FnTableauxAreLinear", spec := "fnTableauxAreLinear", unfollowed := true, recurses := true, apart := false, narrowed := true }
def FnTableauxAreLinearUptoSaid : Prop := fnTableauxAreLinearUptoRow.holds Try.pinned (OpenSpec.upto fnTableauxAreLinearSpec)

end Rows
end Go.Proofs.Ytonfifhoklaliaa
