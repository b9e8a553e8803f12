/- Codec: the reference's reader; next. Conditions: none. -/
import Derived.Test.YtjfjpnefohbobaaGreatDoorWd
import Derived.Test.YtjfjpnefohbobaaGreatDoorWg
set_option linter.unusedSimpArgs false
set_option linter.unusedVariables false
set_option maxRecDepth 20000
set_option maxHeartbeats 4000000
namespace Go.Proofs.YtjfjpnefohbobaaGreatDoor
open Go.Avc
attribute [local irreducible] PSub Wp PSpec Le Need Both
end Go.Proofs.YtjfjpnefohbobaaGreatDoor
/- Codec: the reference's reader; number. Conditions: none. -/
namespace Go.Proofs.YtjfjpnefohbobaaGreatDoor
open Go.Avc
attribute [local irreducible] PSub Wp PSpec Le Need Both
end Go.Proofs.YtjfjpnefohbobaaGreatDoor
/- Codec: the reference's reader; there is no number. Conditions: none. -/
namespace Go.Proofs.YtjfjpnefohbobaaGreatDoor
open Go.Avc
attribute [local irreducible] PSub Wp PSpec Le Need Both
end Go.Proofs.YtjfjpnefohbobaaGreatDoor
/- Codec: the reference's reader, by what is left to read. Conditions: none. -/
namespace Go.Proofs.YtjfjpnefohbobaaGreatDoor
open Go.Avc
end Go.Proofs.YtjfjpnefohbobaaGreatDoor
/- Codec: the reference's reader; Value. Conditions: none. -/
namespace Go.Proofs.YtjfjpnefohbobaaGreatDoor
open Go.Avc
attribute [local irreducible] PSub Wp PSpec Le Need Both
attribute [local irreducible] rval rone rlist rvals pnum sg zz
end Go.Proofs.YtjfjpnefohbobaaGreatDoor
/- Codec: the reference's Decode. Conditions: none. -/
namespace Go.Proofs.YtjfjpnefohbobaaGreatDoor
open Go.Avc
attribute [local irreducible] PSub Wp PSpec Le Need Both
attribute [local irreducible] rval
end Go.Proofs.YtjfjpnefohbobaaGreatDoor
