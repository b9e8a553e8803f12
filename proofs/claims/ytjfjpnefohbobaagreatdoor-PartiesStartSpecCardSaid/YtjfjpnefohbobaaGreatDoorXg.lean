/- Parties: what Note answers; the law PartiesLinked. Conditions: none. -/
import Derived.Test.YtjfjpnefohbobaaGreatDoorWd
import Derived.Test.YtjfjpnefohbobaaGreatDoorXf
set_option linter.unusedSimpArgs false
set_option linter.unusedVariables false
set_option maxRecDepth 20000
set_option maxHeartbeats 4000000
namespace Go.Proofs.YtjfjpnefohbobaaGreatDoor
open Go.Avc
inductive NoteIs (p : Party) (kind day : Int) (body : List UInt8) : Party → Int → Prop
 | err (e : Int) (h0 : e ≠ 0) (h1 : e ≠ 470) : NoteIs p kind day body zeroP e
 | disk (d : K.Disk) (hv : p.valid) (h : ({ p with disk := d } : Party).valid) : NoteIs p kind day body { p with disk := d } 470
 | ok (d : K.Disk) (hv : p.valid) (hf : Fits p.log (mkR p.log p.id kind day body)) (h : (p.plus d (mkR p.log p.id kind day body)).valid) : NoteIs p kind day body (p.plus d (mkR p.log p.id kind day body)) 0
attribute [local irreducible] PSub Wp PSpec Le Need Both
attribute [local irreducible] recE recD tagged sha headOf decF decode addR
end Go.Proofs.YtjfjpnefohbobaaGreatDoor
