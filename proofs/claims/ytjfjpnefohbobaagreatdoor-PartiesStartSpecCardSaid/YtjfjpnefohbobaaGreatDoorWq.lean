/- Evidence: the law EvidenceBack. Conditions: none. -/
import Derived.Test.YtjfjpnefohbobaaGreatDoorWd
import Derived.Test.YtjfjpnefohbobaaGreatDoorWn
set_option linter.unusedSimpArgs false
set_option linter.unusedVariables false
set_option maxRecDepth 20000
set_option maxHeartbeats 4000000
namespace Go.Proofs.YtjfjpnefohbobaaGreatDoor
open Go.Avc
theorem dec_ok {b : List UInt8} {r : Rec} {e : Int} (hd : DecIs b r e) : (e = 0 ∧ r.ok ∧ recE r = b) ∨ (e ≠ 0 ∧ r = zeroR) := by
 cases hd with
 | bad => exact .inr ⟨by decide, rfl⟩
 | no => exact .inr ⟨by decide, rfl⟩
 | ok r h hr he => exact .inl ⟨rfl, hr, he⟩
theorem body_le {r : Rec} : r.body.length ≤ (recE r).length := by
 rw [recE_eq]
 simp only [List.length_cons, List.length_append]
 omega
attribute [local irreducible] PSub Wp PSpec Le Need Both
attribute [local irreducible] recE recD tagged sha headOf addR
end Go.Proofs.YtjfjpnefohbobaaGreatDoor
/- Evidence: one head, one list; the law EvidenceOne. Conditions: none. -/
namespace Go.Proofs.YtjfjpnefohbobaaGreatDoor
open Go.Avc
theorem errV_zero {l : List Rec} (h : errV (validB l) = 0) : Valid l := by
 by_cases hv : Valid l
 · exact hv
 · rw [validB_false hv] at h; exact absurd h (by decide)
attribute [local irreducible] PSub Wp PSpec Le Need Both
attribute [local irreducible] recE recD tagged sha headOf addR
end Go.Proofs.YtjfjpnefohbobaaGreatDoor
/- Evidence: the law EvidenceGrows. Conditions: none. -/
namespace Go.Proofs.YtjfjpnefohbobaaGreatDoor
open Go.Avc
theorem valid_snoc {l : List Rec} {r : Rec} (hv : Valid l) (hf : Fits l r) : Valid (l ++ [r]) := fun j h => by
 by_cases hj : j < l.length
 · rw [List.take_append_of_le_length (by omega), List.getElem_append_left hj]
   exact hv j hj
 · have e : j = l.length := by rw [List.length_append] at h; simp at h; omega
   subst e
   rw [List.take_append_of_le_length (Nat.le_refl _), List.take_length, List.getElem_append_right (Nat.le_refl _)]
   simpa using hf
attribute [local irreducible] PSub Wp PSpec Le Need Both
attribute [local irreducible] recE recD tagged sha headOf addR
end Go.Proofs.YtjfjpnefohbobaaGreatDoor
