/- The program's and the reference's smallest tests. -/
import Derived.Test.YtdbioadcopfjcaaQallfrom
import Derived.Test.YtdbioadcopfjcaaFImplWithin
namespace Go.Proofs.Ytdbioadcopfjcaa.Q
open Go.RowKit Go.Proofs.YtdbioadcopfjcaaW.PrintWords Go.Proofs.Ytdbioadcopfjcaa.F
set_option linter.unusedVariables false
theorem within_eq (a b c : Int) : impl_within.f a b c = some (decide (b ≤ a) && decide (a ≤ c)) := l1In_eq a b c
end Go.Proofs.Ytdbioadcopfjcaa.Q
