/- Codec: the laws CodecNumbers and CodecDifferent. Conditions: none. -/
import Derived.Test.YtigfakjppicdlaaWd
import Derived.Test.YtigfakjppicdlaaWi
set_option linter.unusedSimpArgs false
set_option linter.unusedVariables false
namespace Go.Proofs.Ytigfakjppicdlaa
open Go.Avc
theorem zz_mono {a b : Int} (h : 0 ≤ a ∧ a ≤ b ∨ a < 0 ∧ b ≤ a) : zz a ≤ zz b := by unfold zz; split <;> split <;> omega
/-- The size of a number, and that it grows with the distance from 0. -/
theorem sizes (a b : Int) (ha : -9223372036854775808 ≤ a ∧ a ≤ 9223372036854775807) (hb : -9223372036854775808 ≤ b ∧ b ≤ 9223372036854775807) : ∃ m n : Nat, 2 ≤ m ∧ m ≤ 11 ∧ 2 ≤ n ∧ n ≤ 11 ∧ (0 ≤ a ∧ a ≤ b → m ≤ n) ∧ (a < 0 ∧ b ≤ a → m ≤ n) ∧
    PSpec Try.prog 14 [.agg (encV (intV a))] (enc2 (m, 0)) ∧ PSpec Try.prog 14 [.agg (encV (intV b))] (enc2 (n, 0)) := by
  have e : ∀ {a : Int}, -9223372036854775808 ≤ a ∧ a ≤ 9223372036854775807 → PSpec Try.prog 14 [.agg (encV (intV a))] (enc2 ((((intV a).enc.length : Nat) : Int), 0)) ∧ (intV a).enc.length = (numL (zz a)).length + 1 ∧ (numL (zz a)).length ≤ 10 ∧ 1 ≤ (numL (zz a)).length := by
    intro a ha
    have hl := numL_10 (zz_lt ha)
    have he : (intV a).enc.length = (numL (zz a)).length + 1 := by rw [intV_enc]; simp
    have := codecSize_spec (intV a) (intV_fits ha) (by have := (check_ok (intV_check a)).2; omega) (by omega)
    rw [show (intV a).sizeE = ((((intV a).enc.length : Nat) : Int), 0) from if_pos (intV_check a)] at this
    exact ⟨this, he, hl⟩
  obtain ⟨a1, a2, a3⟩ := e ha
  obtain ⟨b1, b2, b3⟩ := e hb
  refine ⟨_, _, by omega, by omega, by omega, by omega, fun h => ?_, fun h => ?_, a1, b1⟩
  · have := numL_mono _ _ (zz_mono (.inl h)); omega
  · have := numL_mono _ _ (zz_mono (.inr h)); omega
set_option maxRecDepth 20000
set_option maxHeartbeats 4000000
set_option linter.unusedSimpArgs false
attribute [local irreducible] PSub Wp PSpec Le Need Both
end Go.Proofs.Ytigfakjppicdlaa
/- Codec: the law CodecDifferent. Conditions: none. -/
namespace Go.Proofs.Ytigfakjppicdlaa
open Go.Avc
set_option maxRecDepth 20000
set_option maxHeartbeats 4000000
set_option linter.unusedSimpArgs false
attribute [local irreducible] PSub Wp PSpec Le Need Both
end Go.Proofs.Ytigfakjppicdlaa
