/- Evidence: the law EvidenceBack. Conditions: none. -/
import Derived.Test.YtjfjpnefohbobaaDoorWd
import Derived.Test.YtjfjpnefohbobaaDoorWn
set_option linter.unusedSimpArgs false
set_option linter.unusedVariables false
namespace Go.Proofs.YtjfjpnefohbobaaDoor
open Go.Avc
/-- What is decoded, and is no error, is a record that can be, with these bytes. -/
theorem dec_ok {b : List UInt8} {r : Rec} {e : Int} (hd : DecIs b r e) : (e = 0 ∧ r.ok ∧ recE r = b) ∨ (e ≠ 0 ∧ r = zeroR) := by
  cases hd with
  | bad => exact .inr ⟨by decide, rfl⟩
  | no => exact .inr ⟨by decide, rfl⟩
  | ok r h hr he => exact .inl ⟨rfl, hr, he⟩
theorem body_le {r : Rec} : r.body.length ≤ (recE r).length := by
  rw [recE_eq]
  simp only [List.length_cons, List.length_append]
  omega
set_option maxRecDepth 20000
set_option maxHeartbeats 4000000
set_option linter.unusedSimpArgs false
attribute [local irreducible] PSub Wp PSpec Le Need Both
attribute [local irreducible] recE recD tagged sha headOf addR
end Go.Proofs.YtjfjpnefohbobaaDoor
/- Evidence: one head, one list; the law EvidenceOne. Conditions: none. -/
namespace Go.Proofs.YtjfjpnefohbobaaDoor
open Go.Avc
theorem errV_zero {l : List Rec} (h : errV (validB l) = 0) : Valid l := by
  by_cases hv : Valid l
  · exact hv
  · rw [validB_false hv] at h; exact absurd h (by decide)
set_option maxRecDepth 20000
set_option maxHeartbeats 4000000
set_option linter.unusedSimpArgs false
attribute [local irreducible] PSub Wp PSpec Le Need Both
attribute [local irreducible] recE recD tagged sha headOf addR
end Go.Proofs.YtjfjpnefohbobaaDoor
/- Evidence: the law EvidenceGrows. Conditions: none. -/
namespace Go.Proofs.YtjfjpnefohbobaaDoor
open Go.Avc
theorem valid_snoc {l : List Rec} {r : Rec} (hv : Valid l) (hf : Fits l r) : Valid (l ++ [r]) := fun j h => by
  by_cases hj : j < l.length
  · rw [List.take_append_of_le_length (by omega), List.getElem_append_left hj]
    exact hv j hj
  · have e : j = l.length := by rw [List.length_append] at h; simp at h; omega
    subst e
    rw [List.take_append_of_le_length (Nat.le_refl _), List.take_length, List.getElem_append_right (Nat.le_refl _)]
    simpa using hf
theorem cut_len {X l : List Rec} {r : Rec} (h : X = l ++ [r]) : cut (X.map encR) 0 ((((l.map encR).length : Nat) : Int)).toNat = l.map encR := by
  subst h
  simp [cut]
theorem rvSameL_rows (l : List Rec) (hl : ∀ r ∈ l, r.prev.length = 32) (rows : List (List PV)) (hr : rows = l.map encR) : PSpec Tryd.prog 13 [.sl 37 rows, encRs l] (.bool (sameL2 l l)) := by
  subst hr
  exact rvSameL_spec l l hl hl
set_option maxRecDepth 20000
set_option maxHeartbeats 4000000
set_option linter.unusedSimpArgs false
attribute [local irreducible] PSub Wp PSpec Le Need Both
attribute [local irreducible] recE recD tagged sha headOf addR
end Go.Proofs.YtjfjpnefohbobaaDoor
