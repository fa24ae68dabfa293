/-
  No cell of these rows narrows 'for every input' (looked for: loops, veiled, ifaces, maps, wideKeys, modest, calm, conditions, laid).
  DERIVED. THE GIVEN ROWS OF THIS SEAT. 5 by the template 'for every input the law returns true; each argument reads behind the call as it read before'; 0 by the template 'total and deterministic' (their statements: YtnihjpnheooeoaaTotals.lean).
  GIVEN WITH THE SEED: the statements are not yours to turn. If you find one false, say at which input.
  Laid BY PROGRAM, IN A SANDBOX (cutbox-rows.mjs): the forced cells as the released guide's own fill.sh prints them over the translation cff6cd52398c1fae… (all of the seat's roots in one cut). By AI agents, Wed Nov 11 2026. No macro, syntax, notation, axiom, sorry.
-/
import Derived.Test.YtnihjpnheooeoaaChecked
import GoSem.Claim
import GoSem.ClaimJoined
import GoSem.ClaimMapViews
import Derived.JoinedTies
import Derived.KernelRfl
namespace Go.Proofs.Ytnihjpnheooeoaa
/- THE CELL 'sum', in the pinned program and in every row, IS THE sha256 OF THE DUMP (.gsa) THAT YtnihjpnheooeoaaProg.lean LOADS. Nothing in Lean hashes anything: it is a label: what it is worth is what the hold of that sum in a sandbox is worth. -/
noncomputable def Try.pinned : Pinned := { name := "ytnihjpnheooeoaa", sum := "cff6cd52398c1fae6b6f00e35b4373b7aa21808c3288888c295c8a0a07298865", checked := Try.checked }
namespace Rows
def none {H : Type} : Left H := { results := [], args := [] }

/-- 'laws.FnExactCountStairs': WHATEVER THE INPUT: true; the input reads as it did. -/
def fnExactCountStairsSpec : ChangeSpec := { name := "fnExactCountStairs", fn := fun _ => fun
  | [d] => { results := [.lit (.bool true)], args := [d] }
  | _ => none }
def fnExactCountStairsRow : OpenClaim := { program := "ytnihjpnheooeoaa", sum := "cff6cd52398c1fae6b6f00e35b4373b7aa21808c3288888c295c8a0a07298865", func := "loop.example/g01138/laws.FnExactCountStairs", spec := "fnExactCountStairs", unfollowed := true, recurses := true, plainKeys := false, apart := false }
def FnExactCountStairsSaid : Prop := fnExactCountStairsRow.holds Try.pinned (OpenSpec.ofChange fnExactCountStairsSpec)

/-- ITS FALSE NEIGHBOUR: 'it returns false'. Refute it at one input. -/
def fnExactCountStairsWrong : ChangeSpec := { name := "fnExactCountStairs", fn := fun _ => fun
  | [d] => { results := [.lit (.bool false)], args := [d] }
  | _ => none }
def FnExactCountStairsWrongFalsely : Prop := fnExactCountStairsRow.holds Try.pinned (OpenSpec.ofChange fnExactCountStairsWrong)

/-- 'laws.FnExactStairOf': WHATEVER THE INPUT: true; the input reads as it did. -/
def fnExactStairOfSpec : ChangeSpec := { name := "fnExactStairOf", fn := fun _ => fun
  | [d] => { results := [.lit (.bool true)], args := [d] }
  | _ => none }
def fnExactStairOfRow : OpenClaim := { program := "ytnihjpnheooeoaa", sum := "cff6cd52398c1fae6b6f00e35b4373b7aa21808c3288888c295c8a0a07298865", func := "loop.example/g01138/laws.FnExactStairOf", spec := "fnExactStairOf", unfollowed := true, recurses := true, plainKeys := false, apart := false }
def FnExactStairOfSaid : Prop := fnExactStairOfRow.holds Try.pinned (OpenSpec.ofChange fnExactStairOfSpec)

/-- ITS FALSE NEIGHBOUR: 'it returns false'. Refute it at one input. -/
def fnExactStairOfWrong : ChangeSpec := { name := "fnExactStairOf", fn := fun _ => fun
  | [d] => { results := [.lit (.bool false)], args := [d] }
  | _ => none }
def FnExactStairOfWrongFalsely : Prop := fnExactStairOfRow.holds Try.pinned (OpenSpec.ofChange fnExactStairOfWrong)

/-- 'laws.FnExactCountReturned': WHATEVER THE INPUT: true; the input reads as it did. -/
def fnExactCountReturnedSpec : ChangeSpec := { name := "fnExactCountReturned", fn := fun _ => fun
  | [d1, d2] => { results := [.lit (.bool true)], args := [d1, d2] }
  | _ => none }
def fnExactCountReturnedRow : OpenClaim := { program := "ytnihjpnheooeoaa", sum := "cff6cd52398c1fae6b6f00e35b4373b7aa21808c3288888c295c8a0a07298865", func := "loop.example/g01138/laws.FnExactCountReturned", spec := "fnExactCountReturned", unfollowed := true, recurses := true, plainKeys := false, apart := false }
def FnExactCountReturnedSaid : Prop := fnExactCountReturnedRow.holds Try.pinned (OpenSpec.ofChange fnExactCountReturnedSpec)

/-- ITS FALSE NEIGHBOUR: 'it returns false'. Refute it at one input. -/
def fnExactCountReturnedWrong : ChangeSpec := { name := "fnExactCountReturned", fn := fun _ => fun
  | [d1, d2] => { results := [.lit (.bool false)], args := [d1, d2] }
  | _ => none }
def FnExactCountReturnedWrongFalsely : Prop := fnExactCountReturnedRow.holds Try.pinned (OpenSpec.ofChange fnExactCountReturnedWrong)

/-- 'laws.FnExactMajorTable': WHATEVER THE INPUT: true; the input reads as it did. -/
def fnExactMajorTableSpec : ChangeSpec := { name := "fnExactMajorTable", fn := fun _ => fun
  | [d1, d2] => { results := [.lit (.bool true)], args := [d1, d2] }
  | _ => none }
def fnExactMajorTableRow : OpenClaim := { program := "ytnihjpnheooeoaa", sum := "cff6cd52398c1fae6b6f00e35b4373b7aa21808c3288888c295c8a0a07298865", func := "loop.example/g01138/laws.FnExactMajorTable", spec := "fnExactMajorTable", unfollowed := true, recurses := true, plainKeys := false, apart := false }
def FnExactMajorTableSaid : Prop := fnExactMajorTableRow.holds Try.pinned (OpenSpec.ofChange fnExactMajorTableSpec)

/-- ITS FALSE NEIGHBOUR: 'it returns false'. Refute it at one input. -/
def fnExactMajorTableWrong : ChangeSpec := { name := "fnExactMajorTable", fn := fun _ => fun
  | [d1, d2] => { results := [.lit (.bool false)], args := [d1, d2] }
  | _ => none }
def FnExactMajorTableWrongFalsely : Prop := fnExactMajorTableRow.holds Try.pinned (OpenSpec.ofChange fnExactMajorTableWrong)

/-- 'laws.FnExactPromotionOrder': WHATEVER THE INPUT: true; the input reads as it did. -/
def fnExactPromotionOrderSpec : ChangeSpec := { name := "fnExactPromotionOrder", fn := fun _ => fun
  | [d] => { results := [.lit (.bool true)], args := [d] }
  | _ => none }
def fnExactPromotionOrderRow : OpenClaim := { program := "ytnihjpnheooeoaa", sum := "cff6cd52398c1fae6b6f00e35b4373b7aa21808c3288888c295c8a0a07298865", func := "loop.example/g01138/laws.FnExactPromotionOrder", spec := "fnExactPromotionOrder", unfollowed := true, recurses := true, plainKeys := false, apart := false }
def FnExactPromotionOrderSaid : Prop := fnExactPromotionOrderRow.holds Try.pinned (OpenSpec.ofChange fnExactPromotionOrderSpec)

/-- ITS FALSE NEIGHBOUR: 'it returns false'. Refute it at one input. -/
def fnExactPromotionOrderWrong : ChangeSpec := { name := "fnExactPromotionOrder", fn := fun _ => fun
  | [d] => { results := [.lit (.bool false)], args := [d] }
  | _ => none }
def FnExactPromotionOrderWrongFalsely : Prop := fnExactPromotionOrderRow.holds Try.pinned (OpenSpec.ofChange fnExactPromotionOrderWrong)

/- THE SECOND FORM. 'bulk': how many values and letters a reading holds, each counted each time it is reached (what is shared counts as often as it is met; a slice's spare places count too). A statement '..UptoSaid' is the law's where the arguments, and the package variables that the reading takes, are together of bulk at most 1048576: NARROWER than '..Said'. Prove '..Said' where nothing that the law and all that it calls make is longer than what came in: it says more and counts as full. Else prove '..UptoSaid'. A law counts once. -/
mutual
def uptoBulk {H : Type} : DataW H → Nat
  | .lit (.string bytes) => bytes.length + 1
  | .lit _ => 1
  | .nil => 1
  | .ptr d => uptoBulk d + 1
  | .slice elems spare => uptoBulkAll elems + uptoBulkAll spare + 1
  | .agg parts => uptoBulkAll parts + 1
  | .iface _ d => uptoBulk d + 1
  | .map entries => uptoBulkEntries entries + 1
  | .held _ => 1
def uptoBulkAll {H : Type} : List (DataW H) → Nat
  | [] => 0
  | d :: r => uptoBulk d + uptoBulkAll r
def uptoBulkEntries {H : Type} : List (Lit × DataW H) → Nat
  | [] => 0
  | x :: r => uptoBulkEntry x + uptoBulkEntries r
def uptoBulkEntry {H : Type} : Lit × DataW H → Nat
  | (.string bytes, d) => bytes.length + uptoBulk d + 1
  | (_, d) => uptoBulk d + 1
 end
def uptoSmall : (H : Type) → List (DataW H) → Bool := fun _ ds => decide (uptoBulkAll ds ≤ 1048576)
def OpenSpec.upto (s : _root_.Go.ChangeSpec) : _root_.Go.OpenSpec := { _root_.Go.OpenSpec.ofChange s with cond := some uptoSmall }

/-- 'laws.FnExactCountStairs', WHERE WHAT IT READS IS OF BULK AT MOST 1048576: true; the input reads as it did. -/
def fnExactCountStairsUptoRow : OpenClaim := { program := "ytnihjpnheooeoaa", sum := "cff6cd52398c1fae6b6f00e35b4373b7aa21808c3288888c295c8a0a07298865", func := "loop.example/g01138/laws.FnExactCountStairs", spec := "fnExactCountStairs", unfollowed := true, recurses := true, plainKeys := false, apart := false, narrowed := true }
def FnExactCountStairsUptoSaid : Prop := fnExactCountStairsUptoRow.holds Try.pinned (OpenSpec.upto fnExactCountStairsSpec)

/-- 'laws.FnExactStairOf', WHERE WHAT IT READS IS OF BULK AT MOST 1048576: true; the input reads as it did. -/
def fnExactStairOfUptoRow : OpenClaim := { program := "ytnihjpnheooeoaa", sum := "cff6cd52398c1fae6b6f00e35b4373b7aa21808c3288888c295c8a0a07298865", func := "loop.example/g01138/laws.FnExactStairOf", spec := "fnExactStairOf", unfollowed := true, recurses := true, plainKeys := false, apart := false, narrowed := true }
def FnExactStairOfUptoSaid : Prop := fnExactStairOfUptoRow.holds Try.pinned (OpenSpec.upto fnExactStairOfSpec)

/-- 'laws.FnExactCountReturned', WHERE WHAT IT READS IS OF BULK AT MOST 1048576: true; the input reads as it did. -/
def fnExactCountReturnedUptoRow : OpenClaim := { program := "ytnihjpnheooeoaa", sum := "cff6cd52398c1fae6b6f00e35b4373b7aa21808c3288888c295c8a0a07298865", func := "loop.example/g01138/laws.FnExactCountReturned", spec := "fnExactCountReturned", unfollowed := true, recurses := true, plainKeys := false, apart := false, narrowed := true }
def FnExactCountReturnedUptoSaid : Prop := fnExactCountReturnedUptoRow.holds Try.pinned (OpenSpec.upto fnExactCountReturnedSpec)

/-- 'laws.FnExactMajorTable', WHERE WHAT IT READS IS OF BULK AT MOST 1048576: true; the input reads as it did. -/
def fnExactMajorTableUptoRow : OpenClaim := { program := "ytnihjpnheooeoaa", sum := "cff6cd52398c1fae6b6f00e35b4373b7aa21808c3288888c295c8a0a07298865", func := "loop.example/g01138/laws.FnExactMajorTable", spec := "fnExactMajorTable", unfollowed := true, recurses := true, plainKeys := false, apart := false, narrowed := true }
def FnExactMajorTableUptoSaid : Prop := fnExactMajorTableUptoRow.holds Try.pinned (OpenSpec.upto fnExactMajorTableSpec)

/-- 'laws.FnExactPromotionOrder', WHERE WHAT IT READS IS OF BULK AT MOST 1048576: true; the input reads as it did. -/
def fnExactPromotionOrderUptoRow : OpenClaim := { program := "ytnihjpnheooeoaa", sum := "cff6cd52398c1fae6b6f00e35b4373b7aa21808c3288888c295c8a0a07298865", func := "loop.example/g01138/laws.FnExactPromotionOrder", spec := "fnExactPromotionOrder", unfollowed := true, recurses := true, plainKeys := false, apart := false, narrowed := true }
def FnExactPromotionOrderUptoSaid : Prop := fnExactPromotionOrderUptoRow.holds Try.pinned (OpenSpec.upto fnExactPromotionOrderSpec)

end Rows
end Go.Proofs.Ytnihjpnheooeoaa
