-- rows.py: the law's pure statement, its walk, its row
import Derived.Test.YtfahkoimleiknaaFLawsFnExactAreStrict
import Derived.Test.YtfahkoimleiknaaWRowKit
namespace Go.Proofs.Ytfahkoimleiknaa.F
open Go.RowKit Go.Proofs.YtfahkoimleiknaaW.PrintWords Go.Proofs.YtfahkoimleiknaaW.PrintLast Go.Proofs.YtfahkoimleiknaaW.PrintMore Go.Proofs.YtfahkoimleiknaaW.RowKit
set_option linter.unusedVariables false
def laws_FnExactAreStrict.Pure : Prop := ∀ (l0 : List Int) (l1 : List Int) (a2 : Int), l0.length ≤ maxLen → (∀ n ∈ l0, (Lit.int .i64 n).wf = true) → l1.length ≤ maxLen → (∀ n ∈ l1, (Lit.int .i64 n).wf = true) → (Lit.int .i64 a2).wf = true → ∃ k, laws_FnExactAreStrict.f k l0 l1 a2 = some true
theorem laws_FnExactAreStrict.walk (P : laws_FnExactAreStrict.Pure) (A0 : Option Addr) (c0 : Nat) (l0 : List Int) (A1 : Option Addr) (c1 : Nat) (l1 : List Int) (a2 : Int) (w : World) (i0 : Ints w .i64 A0 c0 l0) (i1 : Ints w .i64 A1 c1 l1) (w2 : (Lit.int .i64 a2).wf = true) :
    Calls Try.prog 4 #[.agg #[.slice A0 l0.length c0], .slice A1 l1.length c1, .int .i64 a2] w fun e w' => e = .returned (.bool true) ∧ Below w.heap.size w w' := by
  obtain ⟨k, h⟩ := P l0 l1 a2 i0.m i0.wf i1.m i1.wf w2
  refine (laws_FnExactAreStrict.calls k _ _ l0 _ _ l1 a2 true w i0.c i0.le i1.c i1.le h).mono ?_
  rintro e w' ⟨rfl, hd⟩
  exact ⟨rfl, hd⟩
end Go.Proofs.Ytfahkoimleiknaa.F
