/- Codec: the law CodecLists. Conditions: none. -/
import Derived.Test.YtigfakjppicdlaaWd
import Derived.Test.YtigfakjppicdlaaWj
set_option linter.unusedSimpArgs false
set_option linter.unusedVariables false
namespace Go.Proofs.Ytigfakjppicdlaa
open Go.Avc
set_option maxRecDepth 20000
set_option maxHeartbeats 4000000
set_option linter.unusedSimpArgs false
attribute [local irreducible] PSub Wp PSpec Le Need Both
end Go.Proofs.Ytigfakjppicdlaa
