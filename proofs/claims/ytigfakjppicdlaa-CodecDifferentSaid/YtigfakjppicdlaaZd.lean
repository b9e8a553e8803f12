/- Codec: the statement 'CodecDifferent'. Conditions: none. -/
import Derived.Test.YtigfakjppicdlaaWe
import Derived.Test.YtigfakjppicdlaaWj
import Derived.Test.YtigfakjppicdlaaRows
set_option linter.unusedSimpArgs false
set_option linter.unusedVariables false
namespace Go.Proofs.Ytigfakjppicdlaa
open Go.Avc
theorem codecDifferent_lifted (os : Os) (started : os.Started) (H : Type) (enc : TypeId × Value → H) :
    ReturnsInHanded {} Try.checked os 7 .any (Rows.codecDifferentSpec.pre6 enc Try.prog Try.f7 Rows.codecDifferentRow.domain false) (Rows.codecDifferentSpec.post enc Try.prog Try.f7 false true false false) := by
  refine law_lifted (C := Try.checked) (n := 2) own started (by kernel_rfl) Try.func7
    (ChangeSpec.witness6 (enc := enc) (C := Try.checked) false ⟨#[], #[.agg #[.int .i64 0, .int .i64 0, .string ⟨#[]⟩, .slice none 0 0], .agg #[.int .i64 0, .int .i64 0, .string ⟨#[]⟩, .slice none 0 0]], []⟩ 8 (by kernel_rfl) (by kernel_rfl) (by kernel_rfl) (by kernel_rfl))
    laidOut ⟨rfl, fun H ds hd => ?_⟩ rfl rfl Try.underlying4 (by kernel_rfl) (Qs := [_, _]) ⟨op_val, op_val, trivial⟩ (gs := [true, true]) (by kernel_rfl) ?_
  · match ds, hd with
    | [d0, d1], _ => rfl
  · rintro _ ⟨v, rfl, hv⟩ _ ⟨w, rfl, hw⟩
    exact different_spec v w hv hw
theorem codecDifferent_proved : Rows.CodecDifferentSaid :=
  OpenClaim.holds_of_wide 7 Try.f7 rfl rfl rfl rfl rfl rfl rfl ⟨rfl, rfl, rfl, rfl, rfl⟩ rfl rfl rfl rfl rfl (by kernel_rfl) Try.func7 (by kernel_rfl)
    (of_decide_eq_true (by kernel_rfl)) (by unfold Func.isWrapper; first | (rw [if_pos (by decide +kernel)]; kernel_rfl) | (rw [if_neg (by decide +kernel)]; exact ⟨rfl, rfl⟩))
    (fun os started H enc _ => codecDifferent_lifted os started H enc)
end Go.Proofs.Ytigfakjppicdlaa
