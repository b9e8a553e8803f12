/- Codec: the law CodecEncodeSpec. Conditions: none. -/
import Derived.Test.YtigfakjppicdlaaWd
import Derived.Test.YtigfakjppicdlaaWh
set_option linter.unusedSimpArgs false
set_option linter.unusedVariables false
namespace Go.Proofs.Ytigfakjppicdlaa
open Go.Avc
set_option maxRecDepth 20000
set_option maxHeartbeats 4000000
set_option linter.unusedSimpArgs false
attribute [local irreducible] PSub Wp PSpec Le Need Both
end Go.Proofs.Ytigfakjppicdlaa
/- Codec: the laws CodecSameSpec and CodecRoundTrip. Conditions: none. -/
namespace Go.Proofs.Ytigfakjppicdlaa
open Go.Avc
theorem Val.same_refl (v : Val) : v.same v = true := (Val.same_iff v v).2 rfl
set_option maxRecDepth 20000
set_option maxHeartbeats 4000000
set_option linter.unusedSimpArgs false
attribute [local irreducible] PSub Wp PSpec Le Need Both
end Go.Proofs.Ytigfakjppicdlaa
