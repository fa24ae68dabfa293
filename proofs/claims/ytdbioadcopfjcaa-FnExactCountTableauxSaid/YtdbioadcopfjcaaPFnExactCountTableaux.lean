-- rows.py: the law's pure statement, its walk, its row
import Derived.Test.YtdbioadcopfjcaaFLawsFnExactCountTableaux
import Derived.Test.YtdbioadcopfjcaaWRowKit
namespace Go.Proofs.Ytdbioadcopfjcaa.F
open Go.RowKit Go.Proofs.YtdbioadcopfjcaaW.PrintWords Go.Proofs.YtdbioadcopfjcaaW.PrintLast Go.Proofs.YtdbioadcopfjcaaW.PrintMore Go.Proofs.YtdbioadcopfjcaaW.RowKit
set_option linter.unusedVariables false
def laws_FnExactCountTableaux.Pure : Prop := ∀ (a0 : Int) (a1 : Int), (Lit.int .i64 a0).wf = true → (Lit.int .i64 a1).wf = true → ∃ k, laws_FnExactCountTableaux.f k a0 a1 = some true
theorem laws_FnExactCountTableaux.walk (P : laws_FnExactCountTableaux.Pure) (a0 : Int) (a1 : Int) (w : World) (w0 : (Lit.int .i64 a0).wf = true) (w1 : (Lit.int .i64 a1).wf = true) :
    Calls Try.prog 6 #[.int .i64 a0, .int .i64 a1] w fun e w' => e = .returned (.bool true) ∧ Below w.heap.size w w' := by
  obtain ⟨k, h⟩ := P a0 a1 w0 w1
  refine (laws_FnExactCountTableaux.calls k a0 a1 true w h).mono ?_
  rintro e w' ⟨rfl, hd⟩
  exact ⟨rfl, hd⟩
end Go.Proofs.Ytdbioadcopfjcaa.F
