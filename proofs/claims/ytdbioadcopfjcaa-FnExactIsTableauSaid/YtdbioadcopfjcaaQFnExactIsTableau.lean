/- IsTableau: the program and the reference answer alike. -/
import Derived.Test.YtdbioadcopfjcaaQtableau
import Derived.Test.YtdbioadcopfjcaaQlawkit2
import Derived.Test.YtdbioadcopfjcaaPFnExactIsTableau
import Derived.Test.YtdbioadcopfjcaaFImplIsTableau
import Derived.Test.YtdbioadcopfjcaaFLawsFnExactIsTableau
import Derived.Test.YtdbioadcopfjcaaFSpecIsTableau
namespace Go.Proofs.Ytdbioadcopfjcaa.Q
open Go.RowKit Go.Proofs.YtdbioadcopfjcaaW.PrintWords Go.Proofs.Ytdbioadcopfjcaa.F
set_option linter.unusedVariables false
theorem IsTableau_same (rows : List (List Int)) (_ : rows.length ≤ 1048576) (_ : ∀ q ∈ rows, q.length ≤ 1048576) (_ : ∀ r ∈ rows, ∀ n ∈ r, (Lit.int .i64 n).wf = true) :
    ∃ r, Ev (fun k => spec_IsTableau.f k rows) r ∧ Ev (fun k => impl_IsTableau.f k rows) r ∧ True := by
  refine ⟨_, ?_, IsTableau_ev rows, trivial⟩
  unfold spec_IsTableau.f
  exact Ev.bind (shGood_ev rows) (Ev.ret rfl)
theorem FnExactIsTableau : laws_FnExactIsTableau.Pure := by
  intro rows hm_rows hm2_rows hw_rows
  refine Ev.rounds (g := fun k => laws_FnExactIsTableau.f k rows) ?_
  unfold laws_FnExactIsTableau.f
  refine Ev.bind (szIntSS_ev rows (1048576) (by omega) hm_rows hm2_rows) ?_
  refine Ev.ite (fun _ => Ev.ret rfl) (fun hb_rows => ?_)
  obtain ⟨hl_rows, hl2_rows⟩ := szRows_small hb_rows
  obtain ⟨r, hs, hi, hr⟩ := IsTableau_same rows hl_rows hl2_rows hw_rows
  repeat (first
    | exact Ev.ret rfl
    | (refine Ev.bind hs ?_)
    | (refine Ev.bind hi ?_)
    | (refine Ev.call hs ?_)
    | (refine Ev.call hi ?_)
    | (refine Ev.bind (toIntSS_ev rows hl_rows hl2_rows) ?_)
    | (refine Ev.bind (eqIntSS_refl rows ?hb (fun q hq => by have := hl2_rows q hq; omega)) ?_; (case hb => omega))
    | (refine Ev.bind (markIntSS_ev1 rows hl_rows hl2_rows) ?_)
    | (refine Ev.yes rfl ?_)
    | (refine Ev.no ?hn ?_; (case hn => first | (simp; done) | omega))
    )
end Go.Proofs.Ytdbioadcopfjcaa.Q
