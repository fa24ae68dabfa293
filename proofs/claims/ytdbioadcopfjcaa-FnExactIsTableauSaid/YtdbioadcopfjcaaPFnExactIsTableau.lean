-- rows.py: the law's pure statement, its walk, its row
import Derived.Test.YtdbioadcopfjcaaFLawsFnExactIsTableau
import Derived.Test.YtdbioadcopfjcaaWRowKit
namespace Go.Proofs.Ytdbioadcopfjcaa.F
open Go.RowKit Go.Proofs.YtdbioadcopfjcaaW.PrintWords Go.Proofs.YtdbioadcopfjcaaW.PrintLast Go.Proofs.YtdbioadcopfjcaaW.PrintMore Go.Proofs.YtdbioadcopfjcaaW.RowKit
set_option linter.unusedVariables false
def laws_FnExactIsTableau.Pure : Prop := ∀ (l0 : List (List Int)), l0.length ≤ maxLen → (∀ r ∈ l0, r.length ≤ maxLen) → (∀ r ∈ l0, ∀ n ∈ r, (Lit.int .i64 n).wf = true) → ∃ k, laws_FnExactIsTableau.f k l0 = some true
theorem laws_FnExactIsTableau.walk (P : laws_FnExactIsTableau.Pure) (A0 : Option Addr) (c0 : Nat) (l0 : List (List Int)) (w : World) (i0 : PxRows w .i64 3 A0 c0 l0) :
    Calls Try.prog 8 #[.slice A0 l0.length c0] w fun e w' => e = .returned (.bool true) ∧ Below w.heap.size w w' := by
  obtain ⟨k, h⟩ := P l0 i0.m i0.m2 i0.wf
  refine (laws_FnExactIsTableau.calls k _ _ l0 true w i0.c i0.le h).mono ?_
  rintro e w' ⟨rfl, hd⟩
  exact ⟨rfl, hd⟩
end Go.Proofs.Ytdbioadcopfjcaa.F
