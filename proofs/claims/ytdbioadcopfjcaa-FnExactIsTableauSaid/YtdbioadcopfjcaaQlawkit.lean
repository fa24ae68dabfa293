/- The laws' own small functions: all parts that this seat has. -/
import Derived.Test.YtdbioadcopfjcaaQlkto
import Derived.Test.YtdbioadcopfjcaaQlkeq
import Derived.Test.YtdbioadcopfjcaaQlksz
import Derived.Test.YtdbioadcopfjcaaQlkup
namespace Go.Proofs.Ytdbioadcopfjcaa.Q
end Go.Proofs.Ytdbioadcopfjcaa.Q
