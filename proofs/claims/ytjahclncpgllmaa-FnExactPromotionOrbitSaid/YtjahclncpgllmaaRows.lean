/-
  No cell of these rows narrows 'for every input' (looked for: loops, veiled, ifaces, maps, wideKeys, modest, calm, conditions, laid).
  DERIVED. THE GIVEN ROWS OF THIS SEAT. 12 by the template 'for every input the law returns true; each argument reads behind the call as it read before'; 0 by the template 'total and deterministic' (their statements: YtjahclncpgllmaaTotals.lean).
  GIVEN WITH THE SEED: the statements are not yours to turn. If you find one false, say at which input.
  Laid BY PROGRAM, IN A SANDBOX (cutbox-rows.mjs): the forced cells as the released guide's own fill.sh prints them over the translation e7435bebd9c21c8e… (all of the seat's roots in one cut). By AI agents, Wed Nov 11 2026. No macro, syntax, notation, axiom, sorry.
-/
import Derived.Test.YtjahclncpgllmaaChecked
import GoSem.Claim
import GoSem.ClaimJoined
import GoSem.ClaimMapViews
import Derived.JoinedTies
import Derived.KernelRfl
namespace Go.Proofs.Ytjahclncpgllmaa
/- THE CELL 'sum', in the pinned program and in every row, IS THE sha256 OF THE DUMP (.gsa) THAT YtjahclncpgllmaaProg.lean LOADS. Nothing in Lean hashes anything: it is a label: what it is worth is what the hold of that sum in a sandbox is worth. -/
noncomputable def Try.pinned : Pinned := { name := "ytjahclncpgllmaa", sum := "e7435bebd9c21c8e54a1a1656890f79274162d12c3b21484003a39e356a2d384", checked := Try.checked }
namespace Rows
def none {H : Type} : Left H := { results := [], args := [] }

/-- 'laws.FnExactToggleLinear': WHATEVER THE INPUT: true; the input reads as it did. -/
def fnExactToggleLinearSpec : ChangeSpec := { name := "fnExactToggleLinear", fn := fun _ => fun
  | [d1, d2, d3] => { results := [.lit (.bool true)], args := [d1, d2, d3] }
  | _ => none }
def fnExactToggleLinearRow : OpenClaim := { program := "ytjahclncpgllmaa", sum := "e7435bebd9c21c8e54a1a1656890f79274162d12c3b21484003a39e356a2d384", func := "loop.example/g01138/laws.FnExactToggleLinear", spec := "fnExactToggleLinear", apart := false }
def FnExactToggleLinearSaid : Prop := fnExactToggleLinearRow.holds Try.pinned (OpenSpec.ofChange fnExactToggleLinearSpec)

/-- ITS FALSE NEIGHBOUR: 'it returns false'. Refute it at one input. -/
def fnExactToggleLinearWrong : ChangeSpec := { name := "fnExactToggleLinear", fn := fun _ => fun
  | [d1, d2, d3] => { results := [.lit (.bool false)], args := [d1, d2, d3] }
  | _ => none }
def FnExactToggleLinearWrongFalsely : Prop := fnExactToggleLinearRow.holds Try.pinned (OpenSpec.ofChange fnExactToggleLinearWrong)

/-- 'laws.FnExactCoevacuateLinear': WHATEVER THE INPUT: true; the input reads as it did. -/
def fnExactCoevacuateLinearSpec : ChangeSpec := { name := "fnExactCoevacuateLinear", fn := fun _ => fun
  | [d1, d2] => { results := [.lit (.bool true)], args := [d1, d2] }
  | _ => none }
def fnExactCoevacuateLinearRow : OpenClaim := { program := "ytjahclncpgllmaa", sum := "e7435bebd9c21c8e54a1a1656890f79274162d12c3b21484003a39e356a2d384", func := "loop.example/g01138/laws.FnExactCoevacuateLinear", spec := "fnExactCoevacuateLinear", apart := false }
def FnExactCoevacuateLinearSaid : Prop := fnExactCoevacuateLinearRow.holds Try.pinned (OpenSpec.ofChange fnExactCoevacuateLinearSpec)

/-- ITS FALSE NEIGHBOUR: 'it returns false'. Refute it at one input. -/
def fnExactCoevacuateLinearWrong : ChangeSpec := { name := "fnExactCoevacuateLinear", fn := fun _ => fun
  | [d1, d2] => { results := [.lit (.bool false)], args := [d1, d2] }
  | _ => none }
def FnExactCoevacuateLinearWrongFalsely : Prop := fnExactCoevacuateLinearRow.holds Try.pinned (OpenSpec.ofChange fnExactCoevacuateLinearWrong)

/-- 'laws.FnExactEvacuateLinear': WHATEVER THE INPUT: true; the input reads as it did. -/
def fnExactEvacuateLinearSpec : ChangeSpec := { name := "fnExactEvacuateLinear", fn := fun _ => fun
  | [d1, d2] => { results := [.lit (.bool true)], args := [d1, d2] }
  | _ => none }
def fnExactEvacuateLinearRow : OpenClaim := { program := "ytjahclncpgllmaa", sum := "e7435bebd9c21c8e54a1a1656890f79274162d12c3b21484003a39e356a2d384", func := "loop.example/g01138/laws.FnExactEvacuateLinear", spec := "fnExactEvacuateLinear", apart := false }
def FnExactEvacuateLinearSaid : Prop := fnExactEvacuateLinearRow.holds Try.pinned (OpenSpec.ofChange fnExactEvacuateLinearSpec)

/-- ITS FALSE NEIGHBOUR: 'it returns false'. Refute it at one input. -/
def fnExactEvacuateLinearWrong : ChangeSpec := { name := "fnExactEvacuateLinear", fn := fun _ => fun
  | [d1, d2] => { results := [.lit (.bool false)], args := [d1, d2] }
  | _ => none }
def FnExactEvacuateLinearWrongFalsely : Prop := fnExactEvacuateLinearRow.holds Try.pinned (OpenSpec.ofChange fnExactEvacuateLinearWrong)

/-- 'laws.FnExactEvacuateTableau': WHATEVER THE INPUT: true; the input reads as it did. -/
def fnExactEvacuateTableauSpec : ChangeSpec := { name := "fnExactEvacuateTableau", fn := fun _ => fun
  | [d] => { results := [.lit (.bool true)], args := [d] }
  | _ => none }
def fnExactEvacuateTableauRow : OpenClaim := { program := "ytjahclncpgllmaa", sum := "e7435bebd9c21c8e54a1a1656890f79274162d12c3b21484003a39e356a2d384", func := "loop.example/g01138/laws.FnExactEvacuateTableau", spec := "fnExactEvacuateTableau", unfollowed := true, recurses := true, apart := false }
def FnExactEvacuateTableauSaid : Prop := fnExactEvacuateTableauRow.holds Try.pinned (OpenSpec.ofChange fnExactEvacuateTableauSpec)

/-- ITS FALSE NEIGHBOUR: 'it returns false'. Refute it at one input. -/
def fnExactEvacuateTableauWrong : ChangeSpec := { name := "fnExactEvacuateTableau", fn := fun _ => fun
  | [d] => { results := [.lit (.bool false)], args := [d] }
  | _ => none }
def FnExactEvacuateTableauWrongFalsely : Prop := fnExactEvacuateTableauRow.holds Try.pinned (OpenSpec.ofChange fnExactEvacuateTableauWrong)

/-- 'laws.FnExactRankLinear': WHATEVER THE INPUT: true; the input reads as it did. -/
def fnExactRankLinearSpec : ChangeSpec := { name := "fnExactRankLinear", fn := fun _ => fun
  | [d1, d2] => { results := [.lit (.bool true)], args := [d1, d2] }
  | _ => none }
def fnExactRankLinearRow : OpenClaim := { program := "ytjahclncpgllmaa", sum := "e7435bebd9c21c8e54a1a1656890f79274162d12c3b21484003a39e356a2d384", func := "loop.example/g01138/laws.FnExactRankLinear", spec := "fnExactRankLinear", unfollowed := true, recurses := true, apart := false }
def FnExactRankLinearSaid : Prop := fnExactRankLinearRow.holds Try.pinned (OpenSpec.ofChange fnExactRankLinearSpec)

/-- ITS FALSE NEIGHBOUR: 'it returns false'. Refute it at one input. -/
def fnExactRankLinearWrong : ChangeSpec := { name := "fnExactRankLinear", fn := fun _ => fun
  | [d1, d2] => { results := [.lit (.bool false)], args := [d1, d2] }
  | _ => none }
def FnExactRankLinearWrongFalsely : Prop := fnExactRankLinearRow.holds Try.pinned (OpenSpec.ofChange fnExactRankLinearWrong)

/-- 'laws.FnExactSlideOf': WHATEVER THE INPUT: true; the input reads as it did. -/
def fnExactSlideOfSpec : ChangeSpec := { name := "fnExactSlideOf", fn := fun _ => fun
  | [d1, d2] => { results := [.lit (.bool true)], args := [d1, d2] }
  | _ => none }
def fnExactSlideOfRow : OpenClaim := { program := "ytjahclncpgllmaa", sum := "e7435bebd9c21c8e54a1a1656890f79274162d12c3b21484003a39e356a2d384", func := "loop.example/g01138/laws.FnExactSlideOf", spec := "fnExactSlideOf", unfollowed := true, recurses := true, apart := false }
def FnExactSlideOfSaid : Prop := fnExactSlideOfRow.holds Try.pinned (OpenSpec.ofChange fnExactSlideOfSpec)

/-- ITS FALSE NEIGHBOUR: 'it returns false'. Refute it at one input. -/
def fnExactSlideOfWrong : ChangeSpec := { name := "fnExactSlideOf", fn := fun _ => fun
  | [d1, d2] => { results := [.lit (.bool false)], args := [d1, d2] }
  | _ => none }
def FnExactSlideOfWrongFalsely : Prop := fnExactSlideOfRow.holds Try.pinned (OpenSpec.ofChange fnExactSlideOfWrong)

/-- 'laws.FnExactLinearWith': WHATEVER THE INPUT: true; the input reads as it did. -/
def fnExactLinearWithSpec : ChangeSpec := { name := "fnExactLinearWith", fn := fun _ => fun
  | [d1, d2] => { results := [.lit (.bool true)], args := [d1, d2] }
  | _ => none }
def fnExactLinearWithRow : OpenClaim := { program := "ytjahclncpgllmaa", sum := "e7435bebd9c21c8e54a1a1656890f79274162d12c3b21484003a39e356a2d384", func := "loop.example/g01138/laws.FnExactLinearWith", spec := "fnExactLinearWith", unfollowed := true, recurses := true, apart := false }
def FnExactLinearWithSaid : Prop := fnExactLinearWithRow.holds Try.pinned (OpenSpec.ofChange fnExactLinearWithSpec)

/-- ITS FALSE NEIGHBOUR: 'it returns false'. Refute it at one input. -/
def fnExactLinearWithWrong : ChangeSpec := { name := "fnExactLinearWith", fn := fun _ => fun
  | [d1, d2] => { results := [.lit (.bool false)], args := [d1, d2] }
  | _ => none }
def FnExactLinearWithWrongFalsely : Prop := fnExactLinearWithRow.holds Try.pinned (OpenSpec.ofChange fnExactLinearWithWrong)

/-- 'laws.FnExactPromoteLinear': WHATEVER THE INPUT: true; the input reads as it did. -/
def fnExactPromoteLinearSpec : ChangeSpec := { name := "fnExactPromoteLinear", fn := fun _ => fun
  | [d1, d2, d3] => { results := [.lit (.bool true)], args := [d1, d2, d3] }
  | _ => none }
def fnExactPromoteLinearRow : OpenClaim := { program := "ytjahclncpgllmaa", sum := "e7435bebd9c21c8e54a1a1656890f79274162d12c3b21484003a39e356a2d384", func := "loop.example/g01138/laws.FnExactPromoteLinear", spec := "fnExactPromoteLinear", apart := false }
def FnExactPromoteLinearSaid : Prop := fnExactPromoteLinearRow.holds Try.pinned (OpenSpec.ofChange fnExactPromoteLinearSpec)

/-- ITS FALSE NEIGHBOUR: 'it returns false'. Refute it at one input. -/
def fnExactPromoteLinearWrong : ChangeSpec := { name := "fnExactPromoteLinear", fn := fun _ => fun
  | [d1, d2, d3] => { results := [.lit (.bool false)], args := [d1, d2, d3] }
  | _ => none }
def FnExactPromoteLinearWrongFalsely : Prop := fnExactPromoteLinearRow.holds Try.pinned (OpenSpec.ofChange fnExactPromoteLinearWrong)

/-- 'laws.FnExactPromoteTableau': WHATEVER THE INPUT: true; the input reads as it did. -/
def fnExactPromoteTableauSpec : ChangeSpec := { name := "fnExactPromoteTableau", fn := fun _ => fun
  | [d] => { results := [.lit (.bool true)], args := [d] }
  | _ => none }
def fnExactPromoteTableauRow : OpenClaim := { program := "ytjahclncpgllmaa", sum := "e7435bebd9c21c8e54a1a1656890f79274162d12c3b21484003a39e356a2d384", func := "loop.example/g01138/laws.FnExactPromoteTableau", spec := "fnExactPromoteTableau", unfollowed := true, recurses := true, apart := false }
def FnExactPromoteTableauSaid : Prop := fnExactPromoteTableauRow.holds Try.pinned (OpenSpec.ofChange fnExactPromoteTableauSpec)

/-- ITS FALSE NEIGHBOUR: 'it returns false'. Refute it at one input. -/
def fnExactPromoteTableauWrong : ChangeSpec := { name := "fnExactPromoteTableau", fn := fun _ => fun
  | [d] => { results := [.lit (.bool false)], args := [d] }
  | _ => none }
def FnExactPromoteTableauWrongFalsely : Prop := fnExactPromoteTableauRow.holds Try.pinned (OpenSpec.ofChange fnExactPromoteTableauWrong)

/-- 'laws.FnExactPromotionOrbit': WHATEVER THE INPUT: true; the input reads as it did. -/
def fnExactPromotionOrbitSpec : ChangeSpec := { name := "fnExactPromotionOrbit", fn := fun _ => fun
  | [d1, d2] => { results := [.lit (.bool true)], args := [d1, d2] }
  | _ => none }
def fnExactPromotionOrbitRow : OpenClaim := { program := "ytjahclncpgllmaa", sum := "e7435bebd9c21c8e54a1a1656890f79274162d12c3b21484003a39e356a2d384", func := "loop.example/g01138/laws.FnExactPromotionOrbit", spec := "fnExactPromotionOrbit", apart := false }
def FnExactPromotionOrbitSaid : Prop := fnExactPromotionOrbitRow.holds Try.pinned (OpenSpec.ofChange fnExactPromotionOrbitSpec)

/-- ITS FALSE NEIGHBOUR: 'it returns false'. Refute it at one input. -/
def fnExactPromotionOrbitWrong : ChangeSpec := { name := "fnExactPromotionOrbit", fn := fun _ => fun
  | [d1, d2] => { results := [.lit (.bool false)], args := [d1, d2] }
  | _ => none }
def FnExactPromotionOrbitWrongFalsely : Prop := fnExactPromotionOrbitRow.holds Try.pinned (OpenSpec.ofChange fnExactPromotionOrbitWrong)

/-- 'laws.FnExactAllLinear': WHATEVER THE INPUT: true; the input reads as it did. -/
def fnExactAllLinearSpec : ChangeSpec := { name := "fnExactAllLinear", fn := fun _ => fun
  | [d] => { results := [.lit (.bool true)], args := [d] }
  | _ => none }
def fnExactAllLinearRow : OpenClaim := { program := "ytjahclncpgllmaa", sum := "e7435bebd9c21c8e54a1a1656890f79274162d12c3b21484003a39e356a2d384", func := "loop.example/g01138/laws.FnExactAllLinear", spec := "fnExactAllLinear", unfollowed := true, recurses := true, apart := false }
def FnExactAllLinearSaid : Prop := fnExactAllLinearRow.holds Try.pinned (OpenSpec.ofChange fnExactAllLinearSpec)

/-- ITS FALSE NEIGHBOUR: 'it returns false'. Refute it at one input. -/
def fnExactAllLinearWrong : ChangeSpec := { name := "fnExactAllLinear", fn := fun _ => fun
  | [d] => { results := [.lit (.bool false)], args := [d] }
  | _ => none }
def FnExactAllLinearWrongFalsely : Prop := fnExactAllLinearRow.holds Try.pinned (OpenSpec.ofChange fnExactAllLinearWrong)

/-- 'laws.FnExactSelfEvacuated': WHATEVER THE INPUT: true; the input reads as it did. -/
def fnExactSelfEvacuatedSpec : ChangeSpec := { name := "fnExactSelfEvacuated", fn := fun _ => fun
  | [d] => { results := [.lit (.bool true)], args := [d] }
  | _ => none }
def fnExactSelfEvacuatedRow : OpenClaim := { program := "ytjahclncpgllmaa", sum := "e7435bebd9c21c8e54a1a1656890f79274162d12c3b21484003a39e356a2d384", func := "loop.example/g01138/laws.FnExactSelfEvacuated", spec := "fnExactSelfEvacuated", unfollowed := true, recurses := true, apart := false }
def FnExactSelfEvacuatedSaid : Prop := fnExactSelfEvacuatedRow.holds Try.pinned (OpenSpec.ofChange fnExactSelfEvacuatedSpec)

/-- ITS FALSE NEIGHBOUR: 'it returns false'. Refute it at one input. -/
def fnExactSelfEvacuatedWrong : ChangeSpec := { name := "fnExactSelfEvacuated", fn := fun _ => fun
  | [d] => { results := [.lit (.bool false)], args := [d] }
  | _ => none }
def FnExactSelfEvacuatedWrongFalsely : Prop := fnExactSelfEvacuatedRow.holds Try.pinned (OpenSpec.ofChange fnExactSelfEvacuatedWrong)

/- THE SECOND FORM. 'bulk': how many values and letters a reading holds, each counted each time it is reached (what is shared counts as often as it is met; a slice's spare places count too). A statement '..UptoSaid' is the law's where the arguments, and the package variables that the reading takes, are together of bulk at most 1048576: NARROWER than '..Said'. Prove '..Said' where nothing that the law and all that it calls make is longer than what came in: it says more and counts as full. Else prove '..UptoSaid'. A law counts once. -/
mutual
def uptoBulk {H : Type} : DataW H → Nat
  | .lit (.string bytes) => bytes.length + 1
  | .lit _ => 1
  | .nil => 1
  | .ptr d => uptoBulk d + 1
  | .slice elems spare => uptoBulkAll elems + uptoBulkAll spare + 1
  | .agg parts => uptoBulkAll parts + 1
  | .iface _ d => uptoBulk d + 1
  | .map entries => uptoBulkEntries entries + 1
  | .held _ => 1
def uptoBulkAll {H : Type} : List (DataW H) → Nat
  | [] => 0
  | d :: r => uptoBulk d + uptoBulkAll r
def uptoBulkEntries {H : Type} : List (Lit × DataW H) → Nat
  | [] => 0
  | x :: r => uptoBulkEntry x + uptoBulkEntries r
def uptoBulkEntry {H : Type} : Lit × DataW H → Nat
  | (.string bytes, d) => bytes.length + uptoBulk d + 1
  | (_, d) => uptoBulk d + 1
 end
def uptoSmall : (H : Type) → List (DataW H) → Bool := fun _ ds => decide (uptoBulkAll ds ≤ 1048576)
def OpenSpec.upto (s : _root_.Go.ChangeSpec) : _root_.Go.OpenSpec := { _root_.Go.OpenSpec.ofChange s with cond := some uptoSmall }

/-- 'laws.FnExactToggleLinear', WHERE WHAT IT READS IS OF BULK AT MOST 1048576: true; the input reads as it did. -/
def fnExactToggleLinearUptoRow : OpenClaim := { program := "ytjahclncpgllmaa", sum := "e7435bebd9c21c8e54a1a1656890f79274162d12c3b21484003a39e356a2d384", func := "loop.example/g01138/laws.FnExactToggleLinear", spec := "fnExactToggleLinear", apart := false, narrowed := true }
def FnExactToggleLinearUptoSaid : Prop := fnExactToggleLinearUptoRow.holds Try.pinned (OpenSpec.upto fnExactToggleLinearSpec)

/-- 'laws.FnExactCoevacuateLinear', WHERE WHAT IT READS IS OF BULK AT MOST 1048576: true; the input reads as it did. -/
def fnExactCoevacuateLinearUptoRow : OpenClaim := { program := "ytjahclncpgllmaa", sum := "e7435bebd9c21c8e54a1a1656890f79274162d12c3b21484003a39e356a2d384", func := "loop.example/g01138/laws.FnExactCoevacuateLinear", spec := "fnExactCoevacuateLinear", apart := false, narrowed := true }
def FnExactCoevacuateLinearUptoSaid : Prop := fnExactCoevacuateLinearUptoRow.holds Try.pinned (OpenSpec.upto fnExactCoevacuateLinearSpec)

/-- 'laws.FnExactEvacuateLinear', WHERE WHAT IT READS IS OF BULK AT MOST 1048576: true; the input reads as it did. -/
def fnExactEvacuateLinearUptoRow : OpenClaim := { program := "ytjahclncpgllmaa", sum := "e7435bebd9c21c8e54a1a1656890f79274162d12c3b21484003a39e356a2d384", func := "loop.example/g01138/laws.FnExactEvacuateLinear", spec := "fnExactEvacuateLinear", apart := false, narrowed := true }
def FnExactEvacuateLinearUptoSaid : Prop := fnExactEvacuateLinearUptoRow.holds Try.pinned (OpenSpec.upto fnExactEvacuateLinearSpec)

/-- 'laws.FnExactEvacuateTableau', WHERE WHAT IT READS IS OF BULK AT MOST 1048576: true; the input reads as it did. -/
def fnExactEvacuateTableauUptoRow : OpenClaim := { program := "ytjahclncpgllmaa", sum := "e7435bebd9c21c8e54a1a1656890f79274162d12c3b21484003a39e356a2d384", func := "loop.example/g01138/laws.FnExactEvacuateTableau", spec := "fnExactEvacuateTableau", unfollowed := true, recurses := true, apart := false, narrowed := true }
def FnExactEvacuateTableauUptoSaid : Prop := fnExactEvacuateTableauUptoRow.holds Try.pinned (OpenSpec.upto fnExactEvacuateTableauSpec)

/-- 'laws.FnExactRankLinear', WHERE WHAT IT READS IS OF BULK AT MOST 1048576: true; the input reads as it did. -/
def fnExactRankLinearUptoRow : OpenClaim := { program := "ytjahclncpgllmaa", sum := "e7435bebd9c21c8e54a1a1656890f79274162d12c3b21484003a39e356a2d384", func := "loop.example/g01138/laws.FnExactRankLinear", spec := "fnExactRankLinear", unfollowed := true, recurses := true, apart := false, narrowed := true }
def FnExactRankLinearUptoSaid : Prop := fnExactRankLinearUptoRow.holds Try.pinned (OpenSpec.upto fnExactRankLinearSpec)

/-- 'laws.FnExactSlideOf', WHERE WHAT IT READS IS OF BULK AT MOST 1048576: true; the input reads as it did. -/
def fnExactSlideOfUptoRow : OpenClaim := { program := "ytjahclncpgllmaa", sum := "e7435bebd9c21c8e54a1a1656890f79274162d12c3b21484003a39e356a2d384", func := "loop.example/g01138/laws.FnExactSlideOf", spec := "fnExactSlideOf", unfollowed := true, recurses := true, apart := false, narrowed := true }
def FnExactSlideOfUptoSaid : Prop := fnExactSlideOfUptoRow.holds Try.pinned (OpenSpec.upto fnExactSlideOfSpec)

/-- 'laws.FnExactLinearWith', WHERE WHAT IT READS IS OF BULK AT MOST 1048576: true; the input reads as it did. -/
def fnExactLinearWithUptoRow : OpenClaim := { program := "ytjahclncpgllmaa", sum := "e7435bebd9c21c8e54a1a1656890f79274162d12c3b21484003a39e356a2d384", func := "loop.example/g01138/laws.FnExactLinearWith", spec := "fnExactLinearWith", unfollowed := true, recurses := true, apart := false, narrowed := true }
def FnExactLinearWithUptoSaid : Prop := fnExactLinearWithUptoRow.holds Try.pinned (OpenSpec.upto fnExactLinearWithSpec)

/-- 'laws.FnExactPromoteLinear', WHERE WHAT IT READS IS OF BULK AT MOST 1048576: true; the input reads as it did. -/
def fnExactPromoteLinearUptoRow : OpenClaim := { program := "ytjahclncpgllmaa", sum := "e7435bebd9c21c8e54a1a1656890f79274162d12c3b21484003a39e356a2d384", func := "loop.example/g01138/laws.FnExactPromoteLinear", spec := "fnExactPromoteLinear", apart := false, narrowed := true }
def FnExactPromoteLinearUptoSaid : Prop := fnExactPromoteLinearUptoRow.holds Try.pinned (OpenSpec.upto fnExactPromoteLinearSpec)

/-- 'laws.FnExactPromoteTableau', WHERE WHAT IT READS IS OF BULK AT MOST 1048576: true; the input reads as it did. -/
def fnExactPromoteTableauUptoRow : OpenClaim := { program := "ytjahclncpgllmaa", sum := "e7435bebd9c21c8e54a1a1656890f79274162d12c3b21484003a39e356a2d384", func := "loop.example/g01138/laws.FnExactPromoteTableau", spec := "fnExactPromoteTableau", unfollowed := true, recurses := true, apart := false, narrowed := true }
def FnExactPromoteTableauUptoSaid : Prop := fnExactPromoteTableauUptoRow.holds Try.pinned (OpenSpec.upto fnExactPromoteTableauSpec)

/-- 'laws.FnExactPromotionOrbit', WHERE WHAT IT READS IS OF BULK AT MOST 1048576: true; the input reads as it did. -/
def fnExactPromotionOrbitUptoRow : OpenClaim := { program := "ytjahclncpgllmaa", sum := "e7435bebd9c21c8e54a1a1656890f79274162d12c3b21484003a39e356a2d384", func := "loop.example/g01138/laws.FnExactPromotionOrbit", spec := "fnExactPromotionOrbit", apart := false, narrowed := true }
def FnExactPromotionOrbitUptoSaid : Prop := fnExactPromotionOrbitUptoRow.holds Try.pinned (OpenSpec.upto fnExactPromotionOrbitSpec)

/-- 'laws.FnExactAllLinear', WHERE WHAT IT READS IS OF BULK AT MOST 1048576: true; the input reads as it did. -/
def fnExactAllLinearUptoRow : OpenClaim := { program := "ytjahclncpgllmaa", sum := "e7435bebd9c21c8e54a1a1656890f79274162d12c3b21484003a39e356a2d384", func := "loop.example/g01138/laws.FnExactAllLinear", spec := "fnExactAllLinear", unfollowed := true, recurses := true, apart := false, narrowed := true }
def FnExactAllLinearUptoSaid : Prop := fnExactAllLinearUptoRow.holds Try.pinned (OpenSpec.upto fnExactAllLinearSpec)

/-- 'laws.FnExactSelfEvacuated', WHERE WHAT IT READS IS OF BULK AT MOST 1048576: true; the input reads as it did. -/
def fnExactSelfEvacuatedUptoRow : OpenClaim := { program := "ytjahclncpgllmaa", sum := "e7435bebd9c21c8e54a1a1656890f79274162d12c3b21484003a39e356a2d384", func := "loop.example/g01138/laws.FnExactSelfEvacuated", spec := "fnExactSelfEvacuated", unfollowed := true, recurses := true, apart := false, narrowed := true }
def FnExactSelfEvacuatedUptoSaid : Prop := fnExactSelfEvacuatedUptoRow.holds Try.pinned (OpenSpec.upto fnExactSelfEvacuatedSpec)

end Rows
end Go.Proofs.Ytjahclncpgllmaa
