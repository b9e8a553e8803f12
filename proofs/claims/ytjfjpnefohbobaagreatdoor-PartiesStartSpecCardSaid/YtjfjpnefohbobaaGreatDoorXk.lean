/- Disks: the reference's Read and Few; double. Conditions: none. -/
import Derived.Test.YtjfjpnefohbobaaGreatDoorWd
import Derived.Test.YtjfjpnefohbobaaGreatDoorXa
import Derived.Test.YtjfjpnefohbobaaGreatDoorXj
import Derived.Test.YtjfjpnefohbobaaGreatDoorXc
set_option linter.unusedSimpArgs false
set_option linter.unusedVariables false
set_option maxRecDepth 20000
set_option maxHeartbeats 4000000
namespace Go.Proofs.YtjfjpnefohbobaaGreatDoor.K
open Go.Avc
attribute [local irreducible] PSub Wp PSpec Le Need Both
def sumL (l : List Nat) : Nat := l.foldr (fun a b => a + 1 + b) 0
def Disk.lens (d : Disk) : List Nat := d.sectors.map List.length ++ d.pending.map fun w => w.2.length
def Disk.few (d : Disk) : Bool := decide (sumL d.lens ≤ 9000)
def Disk.fits (d : Disk) : Prop := ∀ n ∈ d.lens, n ≤ 140737488355328
end Go.Proofs.YtjfjpnefohbobaaGreatDoor.K
/- Disks: the reference's Sync. Conditions: none. -/
namespace Go.Proofs.YtjfjpnefohbobaaGreatDoor.K
open Go.Avc
attribute [local irreducible] PSub Wp PSpec Le Need Both
end Go.Proofs.YtjfjpnefohbobaaGreatDoor.K
/- Journals: the reference's generation and numeral are walked. Conditions: none. -/
namespace Go.Proofs.YtjfjpnefohbobaaGreatDoor.K
open Go.Avc
def numTail (n : Nat) : Nat → List UInt8
 | 0 => []
 | j + 1 => UInt8.ofNat (n / 256 ^ j) :: numTail n j
theorem numTail_len (n : Nat) : ∀ j, (numTail n j).length = j
 | 0 => rfl
 | j + 1 => by rw [numTail, List.length_cons, numTail_len n j]
theorem repl_set (k : Nat) (b : UInt8) (l : List UInt8) : (List.replicate (k + 1) 0 ++ l).set k b = List.replicate k 0 ++ b :: l := by
 rw [List.replicate_succ', List.append_assoc, List.set_append_right _ _ (by simp)]
 simp
attribute [local irreducible] PSub Wp PSpec Le Need Both
attribute [local irreducible] four greatL
end Go.Proofs.YtjfjpnefohbobaaGreatDoor.K
/- Journals: the reference's Sync. Conditions: none. -/
namespace Go.Proofs.YtjfjpnefohbobaaGreatDoor.K
open Go.Avc
attribute [local irreducible] PSub Wp PSpec Le Need Both
attribute [local irreducible] greatL recs encodeL occN piecesN putL
end Go.Proofs.YtjfjpnefohbobaaGreatDoor.K
